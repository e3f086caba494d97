/- Ledgers: what LedgerValid returns, the reference's and the program's; the laws' helpers on events; the law FnExactLedgerValid. The conditions stand in each theorem. -/
import Derived.Test.YtdmgaafmmjeelaaEv
import Derived.Test.YtdmgaafmmjeelaaChecked
import Derived.Deep.Slices
import Derived.Deep.Fields
import Derived.ChangeSame
import Derived.Lib.SmallJoins
namespace Go.Proofs.Ytdmgaafmmjeelaa
open Go.RowKit Go.ChangeShapes Go.WideShapes Go.Deep Go.Joins
set_option linter.unusedVariables false

set_option maxHeartbeats 2000000 in
theorem LedgerValid_any (A : Option Addr) (n c : Nat) (l : List Ev) (w : World) (hn : l.length = n) (hm : n ≤ 1048576) (ha : Row w w.heap.size A (evCells l)) :
    Calls Try.prog 18 #[.slice A n c] w (Says w (lvB l)) := by
  have HN := Lib.hid hn
  clear hn
  go_enter Try.func18, Try.ntmps18
  go_wp2_with fail
  go_loopw [7] (fun i wx => ∃ k : Nat, k ≤ n ∧ i = .int .i64 k ∧ Below w.heap.size w wx ∧ Hid ((l.take k).all okE = true)) (fun i _ => n - (intOf i).toNat)
  case atStart => exact ⟨0, Nat.zero_le _, rfl, Below.refl _ _, rfl⟩
  case round =>
    obtain ⟨k, hk, rfl, hbel, HX⟩ := hrel
    have ha' := (ha.below hbel).more hbel.size
    clear ha
    by_cases hlt : k < n
    · have hl : k < l.length := by rw [HN.out]; exact hlt
      obtain ⟨b, off, rfl, hbw, hc0, hc1, hc2, hc3⟩ := ev_at ha' hl
      have HB := Lib.hid (lvB_bad hl)
      have HA := Lib.hid (allE_snoc hl HX.out)
      clear ha'
      generalize l[k] = p at *
      obtain ⟨vbx, vkd, vsl, vmn⟩ := p
      simp only at hc0 hc1 hc2 hc3
      by_cases hok : okE ⟨vbx, vkd, vsl, vmn⟩ = true
      · have HQ := Lib.hid (HA.out hok)
        obtain ⟨g1, g2, g3, g4, g5, g6, g7, g8⟩ := (okE_iff _).1 hok
        simp only at g1 g2 g3 g4 g5 g6 g7 g8
        clear hok HA HB
        go_wp2_with fail
        go_roundw
        case rel => exact ⟨k + 1, by omega, by go_num, hbel.alloc hbel.size _, HQ⟩
        case measure => simp [intOf]; omega
      · rw [okE_iff] at hok
        simp only at hok
        by_cases q0 : vbx < 1
        · have HQ : Hid (lvB l = false) := HB.out (okE_no (by simp only; omega))
          clear HA HB
          go_wp2_with fail
          go_ret
          exact ⟨ret_bool HQ.out.symm, hbel.alloc hbel.size _⟩
        by_cases q1 : 6 < vbx
        · have HQ : Hid (lvB l = false) := HB.out (okE_no (by simp only; omega))
          clear HA HB
          go_wp2_with fail
          go_ret
          exact ⟨ret_bool HQ.out.symm, hbel.alloc hbel.size _⟩
        by_cases q2 : vkd < 1
        · have HQ : Hid (lvB l = false) := HB.out (okE_no (by simp only; omega))
          clear HA HB
          go_wp2_with fail
          go_ret
          exact ⟨ret_bool HQ.out.symm, hbel.alloc hbel.size _⟩
        by_cases q3 : 3 < vkd
        · have HQ : Hid (lvB l = false) := HB.out (okE_no (by simp only; omega))
          clear HA HB
          go_wp2_with fail
          go_ret
          exact ⟨ret_bool HQ.out.symm, hbel.alloc hbel.size _⟩
        by_cases q4 : vsl < 1
        · have HQ : Hid (lvB l = false) := HB.out (okE_no (by simp only; omega))
          clear HA HB
          go_wp2_with fail
          go_ret
          exact ⟨ret_bool HQ.out.symm, hbel.alloc hbel.size _⟩
        by_cases q5 : 99 < vsl
        · have HQ : Hid (lvB l = false) := HB.out (okE_no (by simp only; omega))
          clear HA HB
          go_wp2_with fail
          go_ret
          exact ⟨ret_bool HQ.out.symm, hbel.alloc hbel.size _⟩
        by_cases q6 : vmn < 0
        · have HQ : Hid (lvB l = false) := HB.out (okE_no (by simp only; omega))
          clear HA HB
          go_wp2_with fail
          go_ret
          exact ⟨ret_bool HQ.out.symm, hbel.alloc hbel.size _⟩
        by_cases q7 : 99 < vmn
        · have HQ : Hid (lvB l = false) := HB.out (okE_no (by simp only; omega))
          clear HA HB
          go_wp2_with fail
          go_ret
          exact ⟨ret_bool HQ.out.symm, hbel.alloc hbel.size _⟩
        exact absurd (by omega) hok
    · have HE : Hid (lvB l = decide ((n : Int) ≤ 20)) := by
        show _ = _
        have h1 := HX.out
        rw [List.take_of_length_le (by rw [HN.out]; omega)] at h1
        rw [lvB_all h1, HN.out]
      clear ha'
      go_wp2_with fail
      go_ret
      exact ⟨ret_bool HE.out.symm, hbel⟩

set_option maxHeartbeats 1000000 in
theorem sl31Event_any (e : Ev) (w : World) : Calls Try.prog 36 #[evV e] w (Says w (okE e)) := by
  obtain ⟨vbx, vkd, vsl, vmn⟩ := e
  show Calls Try.prog 36 #[.agg #[.int .i64 vbx, .int .i64 vkd, .int .i64 vsl, .int .i64 vmn]] w _
  by_cases h1 : 1 ≤ vbx ∧ vbx ≤ 6
  · have d1 := inB_yes h1.1 h1.2
    by_cases h2 : 1 ≤ vkd ∧ vkd ≤ 3
    · have d2 := inB_yes h2.1 h2.2
      by_cases h3 : 1 ≤ vsl ∧ vsl ≤ 99
      · have d3 := inB_yes h3.1 h3.2
        by_cases h4 : 0 ≤ vmn ∧ vmn ≤ 99
        · have d4 := inB_yes h4.1 h4.2
          have HQ : Hid (okE ⟨vbx, vkd, vsl, vmn⟩ = true) := (okE_iff _).2 (by simp only; omega)
          clear h1 h2 h3 h4
          go_enter Try.func36, Try.ntmps36
          go_wp2_with (go_at_call 47; refine (in_any _ _ _ _).mono ?_; rintro e w' ⟨rfl, rfl⟩)
          go_ret
          exact ⟨ret_bool HQ.out.symm, (Below.refl _ _).alloc (Nat.le_refl _) _⟩
        · have d4 := inB_no (a := vmn) (lo := 0) (hi := 99) (by omega)
          have HQ : Hid (okE ⟨vbx, vkd, vsl, vmn⟩ = false) := okE_no (by simp only; omega)
          clear h1 h2 h3 h4
          go_enter Try.func36, Try.ntmps36
          go_wp2_with (go_at_call 47; refine (in_any _ _ _ _).mono ?_; rintro e w' ⟨rfl, rfl⟩)
          go_ret
          exact ⟨ret_bool HQ.out.symm, (Below.refl _ _).alloc (Nat.le_refl _) _⟩
      · have d3 := inB_no (a := vsl) (lo := 1) (hi := 99) (by omega)
        have HQ : Hid (okE ⟨vbx, vkd, vsl, vmn⟩ = false) := okE_no (by simp only; omega)
        clear h1 h2 h3
        go_enter Try.func36, Try.ntmps36
        go_wp2_with (go_at_call 47; refine (in_any _ _ _ _).mono ?_; rintro e w' ⟨rfl, rfl⟩)
        go_ret
        exact ⟨ret_bool HQ.out.symm, (Below.refl _ _).alloc (Nat.le_refl _) _⟩
    · have d2 := inB_no (a := vkd) (lo := 1) (hi := 3) (by omega)
      have HQ : Hid (okE ⟨vbx, vkd, vsl, vmn⟩ = false) := okE_no (by simp only; omega)
      clear h1 h2
      go_enter Try.func36, Try.ntmps36
      go_wp2_with (go_at_call 47; refine (in_any _ _ _ _).mono ?_; rintro e w' ⟨rfl, rfl⟩)
      go_ret
      exact ⟨ret_bool HQ.out.symm, (Below.refl _ _).alloc (Nat.le_refl _) _⟩
  · have d1 := inB_no (a := vbx) (lo := 1) (hi := 6) (by omega)
    have HQ : Hid (okE ⟨vbx, vkd, vsl, vmn⟩ = false) := okE_no (by simp only; omega)
    clear h1
    go_enter Try.func36, Try.ntmps36
    go_wp2_with (go_at_call 47; refine (in_any _ _ _ _).mono ?_; rintro e w' ⟨rfl, rfl⟩)
    go_ret
    exact ⟨ret_bool HQ.out.symm, (Below.refl _ _).alloc (Nat.le_refl _) _⟩

set_option maxHeartbeats 1000000 in
theorem sLedgerValid_any (A : Option Addr) (n c : Nat) (l : List Ev) (w : World) (hn : l.length = n) (hm : n ≤ 1048576) (ha : Row w w.heap.size A (evCells l)) :
    Calls Try.prog 16 #[.slice A n c] w (Says w (lvB l)) := by
  have HN := Lib.hid hn
  clear hn
  go_enter Try.func16, Try.ntmps16
  go_wp2_with fail
  go_loopw [3] (fun i wx => ∃ k : Nat, k ≤ n ∧ i = .int .i64 k ∧ Below w.heap.size w wx ∧ Hid ((l.take k).all okE = true)) (fun i _ => n - (intOf i).toNat)
  case atStart => exact ⟨0, Nat.zero_le _, rfl, Below.refl _ _, rfl⟩
  case round =>
    obtain ⟨k, hk, rfl, hbel, HX⟩ := hrel
    have ha' := (ha.below hbel).more hbel.size
    clear ha
    by_cases hlt : k < n
    · have hl : k < l.length := by rw [HN.out]; exact hlt
      obtain ⟨b, off, rfl, hbw, hc0, hc1, hc2, hc3⟩ := ev_at ha' hl
      have HB := Lib.hid (lvB_bad hl)
      have HA := Lib.hid (allE_snoc hl HX.out)
      clear ha'
      generalize l[k] = p at *
      obtain ⟨vbx, vkd, vsl, vmn⟩ := p
      simp only at hc0 hc1 hc2 hc3
      go_wp2_with fail
      refine (sl31Event_any ⟨vbx, vkd, vsl, vmn⟩ _).mono ?_
      rintro e w2 ⟨rfl, hb2⟩
      have hbel2 : Below w.heap.size w w2 := hbel.trans (hb2.mono hbel.size)
      clear hb2 hc0 hc1 hc2 hc3
      cases hq : okE ⟨vbx, vkd, vsl, vmn⟩ with
      | true =>
        have HQ := Lib.hid (HA.out hq)
        clear hq
        go_wp2_with fail
        go_roundw
        case rel => exact ⟨k + 1, by omega, by go_num, hbel2, HQ⟩
        case measure => simp [intOf]; omega
      | false =>
        have HQ := Lib.hid (HB.out hq)
        clear hq
        go_wp2_with fail
        go_ret
        exact ⟨ret_bool HQ.out.symm, hbel2⟩
    · have HE : Hid (lvB l = decide ((n : Int) ≤ 20)) := by
        show _ = _
        have h1 := HX.out
        rw [List.take_of_length_le (by rw [HN.out]; omega)] at h1
        rw [lvB_all h1, HN.out]
      clear ha'
      go_wp2_with fail
      go_ret
      exact ⟨ret_bool HE.out.symm, hbel⟩

theorem toEvent_any (e : Ev) (w : World) :
    Calls Try.prog 37 #[evV e] w fun r w' => r = .returned (evV e) ∧ Below w.heap.size w w' := by
  obtain ⟨a, b, c, d⟩ := e
  show Calls Try.prog 37 #[.agg #[.int .i64 a, .int .i64 b, .int .i64 c, .int .i64 d]] w fun r w' => r = .returned (.agg #[.int .i64 a, .int .i64 b, .int .i64 c, .int .i64 d]) ∧ Below w.heap.size w w'
  go_enter Try.func37, Try.ntmps37
  go_wp2
  exact bodyPost_ret (v := .agg #[.int .i64 a, .int .i64 b, .int .i64 c, .int .i64 d]) (by simp [results, Try.results37, go_sem]) rfl ⟨rfl, (((Below.refl _ _).alloc (Nat.le_refl _) _).alloc (by simp) _).alloc (by simp; omega) _⟩
theorem eqEvent_same (e : Ev) (w : World) :
    Calls Try.prog 38 #[evV e, evV e] w (Same w) := by
  obtain ⟨a, b, c, d⟩ := e
  show Calls Try.prog 38 #[.agg #[.int .i64 a, .int .i64 b, .int .i64 c, .int .i64 d], .agg #[.int .i64 a, .int .i64 b, .int .i64 c, .int .i64 d]] w _
  go_enter Try.func38, Try.ntmps38
  go_wp2
  go_ret
  exact ⟨rfl, ((Below.refl _ _).alloc (Nat.le_refl _) _).alloc (by simp) _⟩

end Go.Proofs.Ytdmgaafmmjeelaa
