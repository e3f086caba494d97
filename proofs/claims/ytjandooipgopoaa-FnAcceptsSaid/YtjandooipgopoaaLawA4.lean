/- The laws on AuditAccepts: FnExactAuditAccepts and FnAccepts return true and leave all that was there as it was. The conditions stand in each theorem. -/
import Derived.Test.YtjandooipgopoaaAcc
import Derived.Test.YtjandooipgopoaaDrawA3
namespace Go.Proofs.Ytjandooipgopoaa
open Go.RowKit Go.ChangeShapes Go.WideShapes
set_option linter.unusedVariables false

def boolSl (z : Option Addr × Nat × Nat × List Bool) : Value := .slice z.1 z.2.1 z.2.2.1
def IsBools (w : World) (z : Option Addr × Nat × Nat × List Bool) : Prop := z.2.2.2.length = z.2.1 ∧ z.2.1 ≤ z.2.2.1 ∧ z.2.2.1 ≤ maxLen ∧ Row w w.heap.size z.1 (z.2.2.2.map Value.bool)

theorem opn_36 {H : Type} {enc : TypeId × Value → H} {W : World} {base : Nat} {v : Value} {d : DataW H} {p : List MemPlace}
    (hv : Value.okWide Try.prog W .any base 36 v) (h : DataW.Trod enc Try.prog W 0 (fun _ => true) true 36 v d p) : ∃ z, v = boolSl z ∧ IsBools W z := by
  obtain ⟨a, len, cap, rfl⟩ := okWide_slice Try.underlying36 hv
  obtain ⟨fuel, hf⟩ := h
  rcases Deep.open_bools Try.underlying36 Try.underlying4 (by kernel_rfl) hf with ⟨hcs, _⟩ | ⟨x, l, c, B, hcs, _, hl, hm, _, hcell⟩
  · simp [Value.cells] at hcs
    obtain ⟨rfl, rfl, rfl⟩ := hcs
    exact ⟨(none, 0, 0, []), rfl, rfl, Nat.le_refl _, Nat.zero_le _, .inl rfl⟩
  · simp [Value.cells] at hcs
    obtain ⟨rfl, rfl, rfl⟩ := hcs
    refine ⟨(some x, len, cap, (List.range len).map B), rfl, by simp, hl, hm, ?_⟩
    by_cases h0 : len = 0
    · subst h0
      exact .inl rfl
    · obtain ⟨b, off, spot⟩ := x
      have h1 := hcell 0 (by omega)
      have hs : spot = none := by simpa [Addr.add] using World.cell?_spot h1
      subst hs
      have hlt : b < W.heap.size := by
        by_cases hlt : b < W.heap.size
        · exact hlt
        · simp [World.cell?, Addr.add, Array.getElem?_eq_none (show W.heap.size ≤ b by omega)] at h1
      refine .inr ⟨b, off, rfl, hlt, fun j u hu => ?_⟩
      have hj : j < len := by simpa using (List.getElem?_eq_some_iff.1 hu).1
      have h2 := hcell j (by omega)
      simp [hj] at hu
      subst hu
      by_cases hj0 : j = 0
      · subst hj0
        simpa [Addr.add] using h2
      · simpa [Addr.add, hj0] using h2

set_option maxHeartbeats 1000000 in
theorem FnExactAuditAccepts_walk (n : Int) (z : Option Addr × Nat × Nat × List Bool) (num den : Int) (w : World) (w0 : (Lit.int .i64 n).wf = true) (w1 : IsBools w z) (w2 : (Lit.int .i64 num).wf = true) (w3 : (Lit.int .i64 den).wf = true) :
    Calls Try.prog 16 #[.int .i64 n, boolSl z, .int .i64 num, .int .i64 den] w fun e w' => e = .returned (.bool true) ∧ Below w.heap.size w w' := by
  obtain ⟨A, m, c, bs⟩ := z
  obtain ⟨hn, h1, h2, hr⟩ := w1
  simp only at hn h1 h2 hr
  unfold maxLen at h2
  show Calls Try.prog 16 #[.int .i64 n, .slice A m c, .int .i64 num, .int .i64 den] w _
  clear w0 w2 w3
  have HN := Lib.hid hn
  clear hn
  by_cases hbig : 1048576 < m
  · clear hr
    go_enter Try.func16, Try.ntmps16
    go_wp2
    go_ret
    exact ⟨rfl, Below.refl _ _⟩
  go_enter Try.func16, Try.ntmps16
  go_wp2_with fail
  refine (toBoolS_any _ _ _ bs _ HN.out (by omega) hr).mono ?_
  rintro e w1 ⟨rfl, hb1, hs1, hr1⟩
  go_wp2_with fail
  refine (sAccepts_any _ _ _ _ _ _ bs _ HN.out (by omega) hr1).mono ?_
  rintro e w' ⟨rfl, rfl⟩
  clear hr1
  go_wp2_with fail
  have hr2 := (hr.below hb1).more hb1.size
  refine (toBoolS_any _ _ _ bs _ HN.out (by omega) hr2).mono ?_
  rintro e w2 ⟨rfl, hb2, hs2, hr3⟩
  go_wp2_with fail
  refine (Accepts_any _ _ _ _ _ _ bs _ HN.out (by omega) hr3).mono ?_
  rintro e w' ⟨rfl, rfl⟩
  have hr4 := (hr2.below hb2).more hb2.size
  clear hr2
  go_wp2_with fail
  refine (toBoolS_any _ _ _ bs _ HN.out (by omega) hr4).mono ?_
  rintro e w3 ⟨rfl, hb3, hs3, hr5⟩
  have hr6 := (hr3.below hb3).more hb3.size
  clear hr4 hr3
  go_wp2_with fail
  refine (eqBoolS_same _ _ _ _ _ bs _ HN.out (by omega) hr6 hr5).mono ?_
  rintro e w4 ⟨rfl, hb4⟩
  clear hr5 hr6
  go_wp2_with fail
  go_ret
  exact ⟨rfl, ((hb1.trans (hb2.mono hb1.size)).trans (hb3.mono (Nat.le_trans hb1.size hb2.size))).trans (hb4.mono (Nat.le_trans hb1.size (Nat.le_trans hb2.size hb3.size)))⟩

set_option maxHeartbeats 1000000 in
theorem FnAccepts_walk (a0 : Option Addr) (len0 cap0 : Nat) (z0 : List Int) (w : World) (w0 : IsRow .u8 w a0 len0 cap0 z0) :
    Calls Try.prog 17 #[.slice a0 len0 cap0] w fun e w' => e = .returned (.bool true) ∧ Below w.heap.size w w' := by
  have hcap := w0.len_le.2.1
  have hlen := w0.len_le.1
  unfold maxLen at hcap
  by_cases hbig : 1048576 < len0
  · clear w0
    go_enter Try.func17, Try.ntmps17
    go_wp2
    go_ret
    exact ⟨rfl, Below.refl _ _⟩
  go_enter Try.func17, Try.ntmps17
  go_wp2_with fail
  refine (DrawAuditAccepts_any _ _ _ _ _ w0).mono ?_
  rintro e w1 ⟨n, num, den, A, bs, m, c, rfl, hn, hnum, hden, hm, hl, hr, hb⟩
  clear w0 hbig hcap hlen
  have HN := Lib.hid hl
  clear hl
  have hli := li_bd n m num den
  have HA : Hid (acc n bs num den = (decide (0 ≤ li n m num den) && decide (li n m num den ≤ cnt bs))) := by
    show acc n bs num den = _
    unfold acc
    rw [HN.out]
  go_wp2_with fail
  refine (Accepts_any _ _ _ _ _ _ bs _ HN.out (by omega) hr).mono ?_
  rintro e w' ⟨rfl, rfl⟩
  go_wp2_with fail
  refine (sAccepts_any _ _ _ _ _ _ bs _ HN.out (by omega) hr).mono ?_
  rintro e w' ⟨rfl, rfl⟩
  go_wp2_with fail
  go_loop [9, 10] (fun s i => ∃ k : Nat, k ≤ m ∧ i = .int .i64 k ∧ s = .int .i64 (cnt (bs.take k))) (fun _ i => m - (intOf i).toNat)
  case atStart => exact ⟨0, Nat.zero_le _, rfl, rfl⟩
  case round =>
    obtain ⟨k, hk, rfl, rfl⟩ := hrel
    have hcb := cnt_bd (bs.take k)
    have hlen : (bs.take k).length ≤ k := List.length_take_le _ _
    by_cases hlt : k < m
    · have hl : k < bs.length := by rw [HN.out]; exact hlt
      obtain ⟨b, off, rfl, hbw, hc⟩ := bool_at hr hl
      have HS := Lib.hid (cnt_step bs k hl)
      clear hr
      cases hv : bs[k] with
      | true =>
        have HV := Lib.hid hv
        rw [hv] at hc
        clear hv
        go_wp2
        go_round
        case rel => exact ⟨k + 1, by omega, by go_num, by rw [HS.out, HV.out]; rfl⟩
        case measure => simp [intOf]; omega
      | false =>
        have HV := Lib.hid hv
        rw [hv] at hc
        clear hv
        go_wp2
        go_round
        case rel => exact ⟨k + 1, by omega, by go_num, by rw [HS.out, HV.out]; simp [one01]⟩
        case measure => simp [intOf]; omega
    · have HE : Hid (bs.take k = bs) := by
        show bs.take k = bs
        exact List.take_of_length_le (by rw [HN.out]; omega)
      by_cases h0 : 0 ≤ li n m num den
      · have d0 : decide (0 ≤ li n m num den) = true := by simpa using h0
        by_cases h1 : li n m num den ≤ cnt (bs.take k)
        · have d1 : decide (li n m num den ≤ cnt (bs.take k)) = true := by simpa using h1
          have E : acc n bs num den = true := by rw [HA.out, d0, ← HE.out, d1]; rfl
          go_wp2_with (go_at_call 26; refine (AuditLimit_any _ _ _ _ _).mono ?_; rintro e w' ⟨rfl, rfl⟩)
          go_ret
          exact ⟨rfl, hb⟩
        · have d1 : decide (li n m num den ≤ cnt (bs.take k)) = false := by simpa using h1
          have E : acc n bs num den = false := by rw [HA.out, d0, ← HE.out, d1]; rfl
          go_wp2_with (go_at_call 26; refine (AuditLimit_any _ _ _ _ _).mono ?_; rintro e w' ⟨rfl, rfl⟩)
          go_ret
          exact ⟨rfl, hb⟩
      · have d0 : decide (0 ≤ li n m num den) = false := by simpa using h0
        have E : acc n bs num den = false := by rw [HA.out, d0]; rfl
        go_wp2_with (go_at_call 26; refine (AuditLimit_any _ _ _ _ _).mono ?_; rintro e w' ⟨rfl, rfl⟩)
        go_ret
        exact ⟨rfl, hb⟩

end Go.Proofs.Ytjandooipgopoaa
