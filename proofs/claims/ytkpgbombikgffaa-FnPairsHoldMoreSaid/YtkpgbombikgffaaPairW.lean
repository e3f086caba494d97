/- Pairs of ballots: what PairsWrong returns, the reference's and the program's. The conditions stand in each theorem. -/
import Derived.Test.YtkpgbombikgffaaPairM
import Derived.Laws.StructEq
namespace Go.Proofs.Ytkpgbombikgffaa
open Go.RowKit Go.ChangeShapes
set_option linter.unusedVariables false

/-- A slice of ints of the call's own. -/
def GotInts (w : World) (zs : List Int) (e : Ending) (w' : World) : Prop :=
  ∃ (A : Option Addr) (k c : Nat), e = .returned (.slice A k c) ∧ zs.length = k ∧ k ≤ c ∧ c ≤ maxLen ∧ w'.ownsRow w.heap.size 3 1 (.slice A k c) k (zs.map (Value.int .i64)) ∧ Below w.heap.size w w'
theorem GotInts.none_ {w w' : World} {zs : List Int} (h : zs = []) (hb : Below w.heap.size w w') : GotInts w zs (.returned (.slice none 0 0)) w' :=
  ⟨none, 0, 0, rfl, by rw [h]; rfl, Nat.le_refl _, by unfold maxLen; omega, by rw [h]; exact own_nil _ _ _ _, hb⟩
theorem GotInts.of_ {w w' : World} {zs : List Int} {k : Nat} {v : Value} (hown : w'.ownsRow w.heap.size 3 1 v k (zs.map (Value.int .i64))) (hb : Below w.heap.size w w') : GotInts w zs (.returned v) w' := by
  obtain ⟨A, c, rfl, h1, h2, h3, _⟩ := own_slice hown
  exact ⟨A, k, c, rfl, by simpa using h3, h1, h2, hown, hb⟩
theorem str_ne {a b : ByteArray} (h : a ≠ b) : (a.toList == b.toList) = false := by
  rw [ByteArray.toList_eq, ByteArray.toList_eq]
  cases hb : a.data.toList == b.data.toList with
  | false => rfl
  | true =>
    refine absurd ?_ h
    obtain ⟨⟨x⟩⟩ := a
    obtain ⟨⟨y⟩⟩ := b
    have : x = y := by simpa using hb
    rw [this]

set_option maxHeartbeats 1000000 in
theorem PairsWrong_any (A : Option Addr) (n c : Nat) (ps : List Pr) (w : World) (hn : ps.length = n) (hm : n ≤ 1048576) (hs : ∀ p ∈ ps, smallPr p) (ha : Row w w.heap.size A (prCells ps)) :
    Calls Try.prog 30 #[.slice A n c] w (GotInts w (wrgL ps)) := by
  obtain ⟨i0, hi0, hz0, hz1, hz2⟩ := info_parts info_int
  have HI := Lib.hid hi0
  have HZ0 := Lib.hid hz0
  have HZ1 := Lib.hid hz1
  have HZ2 := Lib.hid hz2
  clear hi0 hz0 hz1 hz2
  have HN := Lib.hid hn
  have HS := Lib.hid hs
  have HA0 := Lib.hid ha
  clear hn hs
  go_enter Try.func30, Try.ntmps30
  go_wp2_with fail
  refine (PairsValid_any _ _ _ ps _ HN.out hm HS.out ha).mono ?_
  rintro e w1 ⟨rfl, hb1⟩
  clear ha
  cases hv : pvB ps with
  | false =>
    have HQ := Lib.hid (wrg_no hv)
    clear hv
    go_wp2_with fail
    go_ret
    exact GotInts.none_ HQ.out hb1
  | true =>
    have HQ := Lib.hid (wrg_yes hv)
    clear hv
    go_wp2_with fail
    go_loopw [3, 11] (fun v i wx => ∃ (k j : Nat), k ≤ n ∧ j ≤ k ∧ i = .int .i64 k ∧ Below w.heap.size w wx ∧ wx.ownsRow w.heap.size 3 1 v j ((wrongs (ps.take k) 0).map (Value.int .i64))) (fun _ i _ => n - (intOf i).toNat)
    case atStart => exact ⟨0, 0, Nat.zero_le _, Nat.le_refl _, rfl, hb1, own_nil _ _ _ _⟩
    case round =>
      obtain ⟨k, j, hk, hj, rfl, hbel, hown⟩ := hrel
      have hbs := hbel.size
      by_cases hlt : k < n
      · have hl : k < ps.length := by rw [HN.out]; exact hlt
        have ha2 := (HA0.out.below hbel).more hbel.size
        obtain ⟨b, off, rfl, hbw, hc0, hc1⟩ := pair_at ha2 hl
        have HY := Lib.hid (wrongs_step_yes ps k hl)
        have HX := Lib.hid (wrongs_step_no ps k hl)
        clear ha2
        generalize ps[k] = p at *
        obtain ⟨pa, pb⟩ := p
        simp only at hc0 hc1
        by_cases he : pa = pb
        · have HX' := Lib.hid (HX.out he)
          subst he
          clear HX HY
          go_wp2_with fail
          go_roundw
          case rel => exact ⟨k + 1, j, by omega, by omega, by go_num, hbel.alloc hbs _, by rw [HX'.out]; exact own_alloc hown _⟩
          case measure => simp [intOf]; omega
        · have HY' := Lib.hid (HY.out he)
          have q := str_ne he
          clear HX HY he
          go_wp2_with (at_builtin; refine wpList_append_own_at _ rfl (.tmp 21) (.tmp 23) _ rfl w.heap.size 3 i0 _ 1 8 Try.underlying43 HI.out HZ0.out HZ1.out HZ2.out rfl (by omega) u3 _ _ rfl (own_alloc (own_alloc hown _) _) ⟨wr.heap.size + 1, 0, none⟩ 1 1 [.int .i64 (k : Int)] rfl rfl (by have := cell_one_new (wr.alloc (.cells #[.string pa, .string pb] 27)) (.int .i64 (k : Int)) 3; simpa using this) (by intro u hu; simp at hu; subst hu; rfl) (by unfold maxLen; omega) (by omega) (by simp; omega) ?_; intro v' w6 hown6 hgrow6 hnil6 hat6; clear hnil6 hat6)
          go_roundw
          case rel =>
            refine ⟨k + 1, j + 1, by omega, by omega, by go_num, ((hbel.alloc hbs _).alloc (by simp; omega) _).grown hgrow6 (by simp; omega) (fun x hx => (own_block hown x hx).1), ?_⟩
            rw [HY'.out, List.map_append]
            exact hown6
          case measure => simp [intOf]; omega
      · have HE : Hid (wrongs (ps.take k) 0 = wrgL ps) := by
          show _ = _
          rw [HQ.out, List.take_of_length_le (by rw [HN.out]; omega)]
        go_wp2_with fail
        go_ret
        refine GotInts.of_ (k := j) ?_ hbel
        rw [← HE.out]
        exact hown

set_option maxHeartbeats 1000000 in
theorem sPairsWrong_any (A : Option Addr) (n c : Nat) (ps : List Pr) (w : World) (hn : ps.length = n) (hm : n ≤ 1048576) (hs : ∀ p ∈ ps, smallPr p) (ha : Row w w.heap.size A (prCells ps)) :
    Calls Try.prog 31 #[.slice A n c] w (GotInts w (wrgL ps)) := by
  obtain ⟨i0, hi0, hz0, hz1, hz2⟩ := info_parts info_int
  have HI := Lib.hid hi0
  have HZ0 := Lib.hid hz0
  have HZ1 := Lib.hid hz1
  have HZ2 := Lib.hid hz2
  clear hi0 hz0 hz1 hz2
  have HN := Lib.hid hn
  have HS := Lib.hid hs
  have HA0 := Lib.hid ha
  clear hn hs ha
  go_enter Try.func31, Try.ntmps31
  go_wp2_with fail
  go_loopw [3, 4] (fun v i wx => ∃ (k j : Nat), k ≤ n ∧ j ≤ k ∧ i = .int .i64 k ∧ Hid (k = 0 ∨ pvB ps = true) ∧ Below w.heap.size w wx ∧ wx.ownsRow w.heap.size 3 1 v j ((wrongs (ps.take k) 0).map (Value.int .i64))) (fun _ i _ => n - (intOf i).toNat)
  case atStart => exact ⟨0, 0, Nat.zero_le _, Nat.le_refl _, rfl, .inl rfl, (Below.refl _ _).alloc (Nat.le_refl _) _, own_empty _ _ _ _ (Nat.le_refl _)⟩
  case round =>
    obtain ⟨k, j, hk, hj, rfl, HV, hbel, hown⟩ := hrel
    have hbs := hbel.size
    by_cases hlt : k < n
    · have hl : k < ps.length := by rw [HN.out]; exact hlt
      have ha2 := (HA0.out.below hbel).more hbel.size
      go_wp2_with fail
      refine (sPairsValid_any _ _ _ ps _ HN.out hm HS.out ha2).mono ?_
      rintro e w1 ⟨rfl, hb1⟩
      have hbel1 : Below w.heap.size w w1 := hbel.trans (hb1.mono hbs)
      have hown1 := own_below hown hb1
      have ha3 := (HA0.out.below hbel1).more hbel1.size
      have hbs1 := hbel1.size
      clear ha2 hb1 hbel hown
      cases hv : pvB ps with
      | false =>
        have HQ : Hid (wrongs (ps.take k) 0 = wrgL ps) := by
          show _ = _
          rw [wrg_no hv]
          rcases HV.out with rfl | h
          · rfl
          · rw [hv] at h
            cases h
        clear hv ha3
        go_wp2_with fail
        go_ret
        refine GotInts.of_ (k := j) ?_ hbel1
        rw [← HQ.out]
        exact hown1
      | true =>
        have HV' : Hid (k + 1 = 0 ∨ pvB ps = true) := .inr hv
        obtain ⟨b, off, rfl, hbw, hc0, hc1⟩ := pair_at ha3 hl
        have HY := Lib.hid (wrongs_step_yes ps k hl)
        have HX := Lib.hid (wrongs_step_no ps k hl)
        clear ha3 hv
        generalize ps[k] = p at *
        obtain ⟨pa, pb⟩ := p
        simp only at hc0 hc1
        by_cases he : pa = pb
        · have HX' := Lib.hid (HX.out he)
          subst he
          clear HX HY
          go_wp2_with fail
          go_quiet (fail)
          go_wp2_with fail
          go_roundw
          case rel => exact ⟨k + 1, j, by omega, by omega, by go_num, HV', below_drewN hbel1 _, by rw [HX'.out]; exact hown1⟩
          case measure => simp [intOf]; omega
        · have HY' := Lib.hid (HY.out he)
          have q := str_ne he
          clear HX HY he
          go_wp2_with fail
          go_quiet (fail)
          have hbel2 := below_drewN hbel1 nq
          have hown2 : (w1.drewN nq).ownsRow w.heap.size 3 1 u3 j ((wrongs (ps.take k) 0).map (Value.int .i64)) := hown1
          have hbs2 : w.heap.size ≤ (w1.drewN nq).heap.size := hbs1
          clear hbel1 hown1 hc0 hc1
          generalize w1.drewN nq = w2 at *
          go_wp2_with (at_builtin; refine wpList_append_own_at _ rfl (.tmp 27) (.tmp 29) _ rfl w.heap.size 3 i0 _ 1 8 Try.underlying43 HI.out HZ0.out HZ1.out HZ2.out rfl (by omega) u3 _ _ rfl (own_alloc hown2 _) ⟨w2.heap.size, 0, none⟩ 1 1 [.int .i64 (k : Int)] rfl rfl (cell_one_new _ _ _) (by intro u hu; simp at hu; subst hu; rfl) (by unfold maxLen; omega) (by omega) (by simp; omega) ?_; intro v' w6 hown6 hgrow6 hnil6 hat6; clear hnil6 hat6)
          go_roundw
          case rel =>
            refine ⟨k + 1, j + 1, by omega, by omega, by go_num, HV', (hbel2.alloc hbs2 _).grown hgrow6 (by simp; omega) (fun x hx => (own_block hown2 x hx).1), ?_⟩
            rw [HY'.out, List.map_append]
            exact hown6
          case measure => simp [intOf]; omega
    · have HE : Hid (wrongs (ps.take k) 0 = wrgL ps) := by
        show _ = _
        have h1 : ps.take k = ps := List.take_of_length_le (by rw [HN.out]; omega)
        rw [h1]
        cases hv : pvB ps with
        | true => exact (wrg_yes hv).symm
        | false =>
          rw [wrg_no hv]
          rcases HV.out with h0 | h
          · have : ps = [] := List.eq_nil_of_length_eq_zero (by rw [HN.out]; omega)
            rw [this]
            rfl
          · rw [hv] at h
            cases h
      go_wp2_with fail
      go_ret
      refine GotInts.of_ (k := j) ?_ hbel
      rw [← HE.out]
      exact hown

end Go.Proofs.Ytkpgbombikgffaa
