/- Pairs of ballots: what PairsHold returns, and the laws FnExactPairsError and FnExactPairsHold. The conditions stand in each theorem. -/
import Derived.Test.YtkpgbombikgffaaPair3
import Derived.Test.YtkpgbombikgffaaOpenP
namespace Go.Proofs.Ytkpgbombikgffaa
open Go.RowKit Go.ChangeShapes
set_option linter.unusedVariables false

def phB (ps : List Pr) (wi lo m u : Int) : Bool := pseB ps wi lo && decide (0 ≤ m ∧ m ≤ 9999 ∧ 0 ≤ u ∧ u ≤ 9999 ∧ pseZ ps wi lo + 2 * u < m)
theorem phB_no {ps : List Pr} {wi lo m u : Int} (h : pseB ps wi lo = false ∨ m < 0 ∨ 9999 < m ∨ u < 0 ∨ 9999 < u) : phB ps wi lo m u = false := by
  unfold phB
  rcases h with h | h
  · rw [h]; rfl
  · rw [decide_eq_false (by omega)]
    simp
theorem phB_yes {ps : List Pr} {wi lo m u : Int} (h : pseB ps wi lo = true) (h1 : 0 ≤ m) (h2 : m ≤ 9999) (h3 : 0 ≤ u) (h4 : u ≤ 9999) : phB ps wi lo m u = decide (pseZ ps wi lo + 2 * u < m) := by
  unfold phB
  rw [h, Bool.true_and]
  exact decide_eq_decide.2 (by omega)

set_option maxHeartbeats 1000000 in
theorem PairsHold_any (A : Option Addr) (n c : Nat) (ps : List Pr) (wi lo m u : Int) (w : World) (hn : ps.length = n) (hm : n ≤ 1048576) (hs : ∀ p ∈ ps, smallPr p) (ha : Row w w.heap.size A (prCells ps)) :
    Calls Try.prog 43 #[.slice A n c, .int .i64 wi, .int .i64 lo, .int .i64 m, .int .i64 u] w (Says w (phB ps wi lo m u)) := by
  have HN := Lib.hid hn
  have HS := Lib.hid hs
  clear hn hs
  go_enter Try.func43, Try.ntmps43
  go_wp2_with fail
  refine (PairsError_any _ _ _ ps _ _ _ HN.out hm HS.out ha).mono ?_
  rintro e w1 ⟨rfl, hb1⟩
  clear ha
  have hbd := pse_bd ps wi lo
  cases hb : pseB ps wi lo with
  | false =>
    have HQ := Lib.hid (phB_no (m := m) (u := u) (.inl hb))
    clear hb
    go_wp2_with fail
    go_ret
    exact ⟨ret_bool HQ.out.symm, hb1⟩
  | true =>
    by_cases h1 : m < 0
    · have HQ := Lib.hid (phB_no (ps := ps) (wi := wi) (lo := lo) (m := m) (u := u) (by omega))
      clear hb
      go_wp2_with fail
      go_ret
      exact ⟨ret_bool HQ.out.symm, hb1⟩
    by_cases h2 : 9999 < m
    · have HQ := Lib.hid (phB_no (ps := ps) (wi := wi) (lo := lo) (m := m) (u := u) (by omega))
      clear hb
      go_wp2_with fail
      go_ret
      exact ⟨ret_bool HQ.out.symm, hb1⟩
    by_cases h3 : u < 0
    · have HQ := Lib.hid (phB_no (ps := ps) (wi := wi) (lo := lo) (m := m) (u := u) (by omega))
      clear hb
      go_wp2_with fail
      go_ret
      exact ⟨ret_bool HQ.out.symm, hb1⟩
    by_cases h4 : 9999 < u
    · have HQ := Lib.hid (phB_no (ps := ps) (wi := wi) (lo := lo) (m := m) (u := u) (by omega))
      clear hb
      go_wp2_with fail
      go_ret
      exact ⟨ret_bool HQ.out.symm, hb1⟩
    · have HQ := Lib.hid (phB_yes (m := m) (u := u) hb (by omega) (by omega) (by omega) (by omega))
      clear hb
      generalize pseZ ps wi lo = z at *
      go_wp2_with fail
      go_ret
      exact ⟨ret_bool HQ.out.symm, hb1⟩

set_option maxHeartbeats 1000000 in
theorem sPairsHold_any (A : Option Addr) (n c : Nat) (ps : List Pr) (wi lo m u : Int) (w : World) (hn : ps.length = n) (hm : n ≤ 1048576) (hs : ∀ p ∈ ps, smallPr p) (ha : Row w w.heap.size A (prCells ps)) :
    Calls Try.prog 42 #[.slice A n c, .int .i64 wi, .int .i64 lo, .int .i64 m, .int .i64 u] w (Says w (phB ps wi lo m u)) := by
  have HN := Lib.hid hn
  have HS := Lib.hid hs
  clear hn hs
  go_enter Try.func42, Try.ntmps42
  go_wp2_with fail
  refine (sPairsError_any _ _ _ ps _ _ _ HN.out hm HS.out ha).mono ?_
  rintro e w1 ⟨rfl, hb1⟩
  clear ha
  have hbd := pse_bd ps wi lo
  cases hb : pseB ps wi lo with
  | false =>
    have HQ := Lib.hid (phB_no (m := m) (u := u) (.inl hb))
    clear hb
    go_wp2_with fail
    go_ret
    exact ⟨ret_bool HQ.out.symm, hb1⟩
  | true =>
    by_cases h1 : 0 ≤ m ∧ m ≤ 9999
    · have d1 := inB_yes h1.1 h1.2
      by_cases h2 : 0 ≤ u ∧ u ≤ 9999
      · have d2 := inB_yes h2.1 h2.2
        have HQ := Lib.hid (phB_yes (m := m) (u := u) hb (by omega) (by omega) (by omega) (by omega))
        clear hb
        generalize pseZ ps wi lo = z at *
        obtain ⟨x1, x2⟩ := h1
        obtain ⟨x3, x4⟩ := h2
        go_wp2_with (go_at_call 63; refine (in_any _ _ _ _).mono ?_; rintro e w' ⟨rfl, rfl⟩)
        go_ret
        exact ⟨ret_bool (by rw [HQ.out]; exact decide_eq_decide.2 (by omega)), hb1⟩
      · have d2 := inB_no (a := u) (lo := 0) (hi := 9999) (by omega)
        have HQ := Lib.hid (phB_no (ps := ps) (wi := wi) (lo := lo) (m := m) (u := u) (by omega))
        clear hb h1 h2
        go_wp2_with (go_at_call 63; refine (in_any _ _ _ _).mono ?_; rintro e w' ⟨rfl, rfl⟩)
        go_ret
        exact ⟨ret_bool HQ.out.symm, hb1⟩
    · have d1 := inB_no (a := m) (lo := 0) (hi := 9999) (by omega)
      have HQ := Lib.hid (phB_no (ps := ps) (wi := wi) (lo := lo) (m := m) (u := u) (by omega))
      clear hb h1
      go_wp2_with (go_at_call 63; refine (in_any _ _ _ _).mono ?_; rintro e w' ⟨rfl, rfl⟩)
      go_ret
      exact ⟨ret_bool HQ.out.symm, hb1⟩

set_option maxHeartbeats 1000000 in
theorem FnExactPairsError_walk (z : Option Addr × Nat × Nat × List Pr) (wi lo : Int) (w : World) (w0 : IsPairs w z) (w1 : (Lit.int .i64 wi).wf = true) (w2 : (Lit.int .i64 lo).wf = true) :
    Calls Try.prog 11 #[prSl z, .int .i64 wi, .int .i64 lo] w fun e w' => e = .returned (.bool true) ∧ Below w.heap.size w w' := by
  obtain ⟨A, n, c, ps⟩ := z
  obtain ⟨hn, h1, h2, hs, hr⟩ := w0
  simp only at hn h1 h2 hs hr
  show Calls Try.prog 11 #[.slice A n c, .int .i64 wi, .int .i64 lo] w _
  have HN := Lib.hid hn
  have HS := Lib.hid hs
  clear hn hs
  go_enter Try.func11, Try.ntmps11
  go_wp2_with fail
  refine (szPairS_any _ _ _ ps _ HN.out (Nat.le_trans h1 h2) HS.out hr).mono ?_
  rintro e w1 ⟨r, rfl, r0, r1, hsm, hb1⟩
  have HM := Lib.hid hsm
  clear hsm h2
  by_cases hneg : r < 0
  · go_wp2_with fail
    go_ret
    exact ⟨rfl, hb1⟩
  have HQ := Lib.hid (HM.out (by omega))
  have hm : n ≤ 1048576 := by have := HQ.out.1; rw [HN.out] at this; exact this
  have hr1 := (hr.below hb1).more hb1.size
  clear hr HM
  go_wp2_with fail
  refine (toPairS_any _ _ _ ps _ HN.out hm hr1).mono ?_
  intro e w2 C2
  have hq2 := C2.row HN.out
  obtain ⟨rfl, hb2, _⟩ := C2
  go_wp2_with fail
  refine (sPairsError_any _ _ _ ps _ _ _ HN.out hm HQ.out.2 hq2).mono ?_
  rintro e w3 ⟨rfl, hb3⟩
  have hb13 : Below w1.heap.size w1 w3 := hb2.trans (hb3.mono hb2.size)
  have hr3 := (hr1.below hb13).more hb13.size
  clear hq2 hb2 hb3
  go_wp2_with fail
  refine (toPairS_any _ _ _ ps _ HN.out hm hr3).mono ?_
  intro e w4 C4
  have hq4 := C4.row HN.out
  obtain ⟨rfl, hb4, _⟩ := C4
  go_wp2_with fail
  refine (PairsError_any _ _ _ ps _ _ _ HN.out hm HQ.out.2 hq4).mono ?_
  rintro e w5 ⟨rfl, hb5⟩
  have hq5 := (hq4.below hb5).more hb5.size
  have hb35 : Below w3.heap.size w3 w5 := hb4.trans (hb5.mono hb4.size)
  have hr5 := (hr3.below hb35).more hb35.size
  clear hq4 hb4 hb5 hr3 hr1
  go_wp2_with fail
  refine (toPairS_any _ _ _ ps _ HN.out hm hr5).mono ?_
  intro e w6 C6
  have hq6 := C6.row HN.out
  obtain ⟨rfl, hb6, _⟩ := C6
  have hq7 := (hq5.below hb6).more hb6.size
  clear hq5 hr5
  go_wp2_with fail
  refine (eqPairS_same _ _ _ _ _ ps _ HN.out hm hq7 hq6).mono ?_
  rintro e w7 ⟨rfl, hb7⟩
  clear hq6 hq7
  go_wp2_with fail
  go_ret
  have b3 := hb1.trans (hb13.mono hb1.size)
  have b5 := b3.trans (hb35.mono b3.size)
  have b6 := b5.trans (hb6.mono b5.size)
  exact ⟨rfl, b6.trans (hb7.mono b6.size)⟩

set_option maxHeartbeats 1000000 in
theorem FnExactPairsHold_walk (z : Option Addr × Nat × Nat × List Pr) (wi lo m u : Int) (w : World) (w0 : IsPairs w z) (w1 : (Lit.int .i64 wi).wf = true) (w2 : (Lit.int .i64 lo).wf = true) (w3 : (Lit.int .i64 m).wf = true) (w4 : (Lit.int .i64 u).wf = true) :
    Calls Try.prog 13 #[prSl z, .int .i64 wi, .int .i64 lo, .int .i64 m, .int .i64 u] w fun e w' => e = .returned (.bool true) ∧ Below w.heap.size w w' := by
  obtain ⟨A, n, c, ps⟩ := z
  obtain ⟨hn, h1, h2, hs, hr⟩ := w0
  simp only at hn h1 h2 hs hr
  show Calls Try.prog 13 #[.slice A n c, .int .i64 wi, .int .i64 lo, .int .i64 m, .int .i64 u] w _
  have HN := Lib.hid hn
  have HS := Lib.hid hs
  clear hn hs
  go_enter Try.func13, Try.ntmps13
  go_wp2_with fail
  refine (szPairS_any _ _ _ ps _ HN.out (Nat.le_trans h1 h2) HS.out hr).mono ?_
  rintro e w1 ⟨r, rfl, r0, r1, hsm, hb1⟩
  have HM := Lib.hid hsm
  clear hsm h2
  by_cases hneg : r < 0
  · go_wp2_with fail
    go_ret
    exact ⟨rfl, hb1⟩
  have HQ := Lib.hid (HM.out (by omega))
  have hm : n ≤ 1048576 := by have := HQ.out.1; rw [HN.out] at this; exact this
  have hr1 := (hr.below hb1).more hb1.size
  clear hr HM
  go_wp2_with fail
  refine (toPairS_any _ _ _ ps _ HN.out hm hr1).mono ?_
  intro e w2 C2
  have hq2 := C2.row HN.out
  obtain ⟨rfl, hb2, _⟩ := C2
  go_wp2_with fail
  refine (sPairsHold_any _ _ _ ps _ _ _ _ _ HN.out hm HQ.out.2 hq2).mono ?_
  rintro e w3 ⟨rfl, hb3⟩
  have hb13 : Below w1.heap.size w1 w3 := hb2.trans (hb3.mono hb2.size)
  have hr3 := (hr1.below hb13).more hb13.size
  clear hq2 hb2 hb3
  go_wp2_with fail
  refine (toPairS_any _ _ _ ps _ HN.out hm hr3).mono ?_
  intro e w4 C4
  have hq4 := C4.row HN.out
  obtain ⟨rfl, hb4, _⟩ := C4
  go_wp2_with fail
  refine (PairsHold_any _ _ _ ps _ _ _ _ _ HN.out hm HQ.out.2 hq4).mono ?_
  rintro e w5 ⟨rfl, hb5⟩
  have hq5 := (hq4.below hb5).more hb5.size
  have hb35 : Below w3.heap.size w3 w5 := hb4.trans (hb5.mono hb4.size)
  have hr5 := (hr3.below hb35).more hb35.size
  clear hq4 hb4 hb5 hr3 hr1
  go_wp2_with fail
  refine (toPairS_any _ _ _ ps _ HN.out hm hr5).mono ?_
  intro e w6 C6
  have hq6 := C6.row HN.out
  obtain ⟨rfl, hb6, _⟩ := C6
  have hq7 := (hq5.below hb6).more hb6.size
  clear hq5 hr5
  go_wp2_with fail
  refine (eqPairS_same _ _ _ _ _ ps _ HN.out hm hq7 hq6).mono ?_
  rintro e w7 ⟨rfl, hb7⟩
  clear hq6 hq7
  go_wp2_with fail
  go_ret
  have b3 := hb1.trans (hb13.mono hb1.size)
  have b5 := b3.trans (hb35.mono b3.size)
  have b6 := b5.trans (hb6.mono b5.size)
  exact ⟨rfl, b6.trans (hb7.mono b6.size)⟩

end Go.Proofs.Ytkpgbombikgffaa
