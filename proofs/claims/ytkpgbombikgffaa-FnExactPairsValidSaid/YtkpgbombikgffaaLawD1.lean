/- The laws FnExactPairError and FnExactPairsValid return true and leave all that was there as it was. The conditions stand in each theorem. -/
import Derived.Test.YtkpgbombikgffaaOpenP
namespace Go.Proofs.Ytkpgbombikgffaa
open Go.RowKit Go.ChangeShapes
set_option linter.unusedVariables false

set_option maxHeartbeats 1000000 in
theorem FnExactPairError_walk (z : Pr) (wi lo : Int) (w : World) (w0 : longPr z) (w1 : (Lit.int .i64 wi).wf = true) (w2 : (Lit.int .i64 lo).wf = true) :
    Calls Try.prog 4 #[prV z, .int .i64 wi, .int .i64 lo] w fun e w' => e = .returned (.bool true) ∧ Below w.heap.size w w' := by
  obtain ⟨a, b⟩ := z
  obtain ⟨h1, h2⟩ := w0
  simp only at h1 h2
  clear w1 w2
  show Calls Try.prog 4 #[.agg #[.string a, .string b], .int .i64 wi, .int .i64 lo] w _
  have I0 := Bx.new w (a, b) 29
  go_enter Try.func4, Try.ntmps4
  go_wp2_with fail
  refine (szPair_any (a, b) 1048576 _ (by omega) (by omega) h1 h2).mono ?_
  rintro e w1 ⟨rfl, hb1⟩
  have I1 := I0.step hb1
  have hz := szP_bd (a, b) 1048576 (by omega)
  clear I0 hb1
  have k0 := I1.1
  have k1 := I1.2.1
  simp only at k0 k1
  by_cases hneg : szP (a, b) 1048576 < 0
  · generalize szP (a, b) 1048576 = z at *
    clear hz
    go_wp2_with fail
    go_ret
    exact ⟨rfl, I1.2.2.2⟩
  · have HQ := Lib.hid (hz.2.2 (by omega)).2
    clear hz
    generalize szP (a, b) 1048576 = z at *
    go_wp2_with fail
    refine (toPair_any (a, b) _).mono ?_
    rintro e w2 ⟨rfl, hb2⟩
    have I2 := I1.step hb2
    clear I1 hb2 k0 k1
    go_wp2_with fail
    refine (sPairError_any (a, b) _ _ _ HQ.out).mono ?_
    rintro e w3 ⟨rfl, hb3⟩
    have I3 := I2.step hb3
    clear I2 hb3
    have k0 := I3.1
    have k1 := I3.2.1
    simp only at k0 k1
    go_wp2_with fail
    refine (toPair_any (a, b) _).mono ?_
    rintro e w4 ⟨rfl, hb4⟩
    have I4 := I3.step hb4
    clear I3 hb4 k0 k1
    go_wp2_with fail
    refine (PairError_any (a, b) _ _ _ HQ.out).mono ?_
    rintro e w5 ⟨rfl, hb5⟩
    have I5 := I4.step hb5
    clear I4 hb5
    go_wp2_with fail
    go_ret
    exact ⟨rfl, I5.2.2.2⟩

set_option maxHeartbeats 1000000 in
theorem FnExactPairsValid_walk (z : Option Addr × Nat × Nat × List Pr) (w : World) (w0 : IsPairs w z) :
    Calls Try.prog 5 #[prSl z] w fun e w' => e = .returned (.bool true) ∧ Below w.heap.size w w' := by
  obtain ⟨A, n, c, ps⟩ := z
  obtain ⟨hn, h1, h2, hs, hr⟩ := w0
  simp only at hn h1 h2 hs hr
  show Calls Try.prog 5 #[.slice A n c] w _
  have HN := Lib.hid hn
  have HS := Lib.hid hs
  clear hn hs
  go_enter Try.func5, Try.ntmps5
  go_wp2_with fail
  refine (szPairS_any _ _ _ ps _ HN.out (Nat.le_trans h1 h2) HS.out hr).mono ?_
  rintro e w1 ⟨r, rfl, r0, r1, hsm, hb1⟩
  have HM := Lib.hid hsm
  clear hsm h2
  by_cases hneg : r < 0
  · go_wp2_with fail
    go_ret
    exact ⟨rfl, hb1⟩
  have HQ := Lib.hid (HM.out (by omega))
  have hm : n ≤ 1048576 := by have := HQ.out.1; rw [HN.out] at this; exact this
  have hr1 := (hr.below hb1).more hb1.size
  clear hr HM
  go_wp2_with fail
  refine (toPairS_any _ _ _ ps _ HN.out hm hr1).mono ?_
  intro e w2 C2
  have hq2 := C2.row HN.out
  obtain ⟨rfl, hb2, _⟩ := C2
  go_wp2_with fail
  refine (sPairsValid_any _ _ _ ps _ HN.out hm HQ.out.2 hq2).mono ?_
  rintro e w3 ⟨rfl, hb3⟩
  have hb13 : Below w1.heap.size w1 w3 := hb2.trans (hb3.mono hb2.size)
  have hr3 := (hr1.below hb13).more hb13.size
  clear hq2 hb2 hb3
  go_wp2_with fail
  refine (toPairS_any _ _ _ ps _ HN.out hm hr3).mono ?_
  intro e w4 C4
  have hq4 := C4.row HN.out
  obtain ⟨rfl, hb4, _⟩ := C4
  go_wp2_with fail
  refine (PairsValid_any _ _ _ ps _ HN.out hm HQ.out.2 hq4).mono ?_
  rintro e w5 ⟨rfl, hb5⟩
  have hq5 := (hq4.below hb5).more hb5.size
  have hb35 : Below w3.heap.size w3 w5 := hb4.trans (hb5.mono hb4.size)
  have hr5 := (hr3.below hb35).more hb35.size
  clear hq4 hb4 hb5 hr3 hr1
  go_wp2_with fail
  refine (toPairS_any _ _ _ ps _ HN.out hm hr5).mono ?_
  intro e w6 C6
  have hq6 := C6.row HN.out
  obtain ⟨rfl, hb6, _⟩ := C6
  have hq7 := (hq5.below hb6).more hb6.size
  clear hq5 hr5
  go_wp2_with fail
  refine (eqPairS_same _ _ _ _ _ ps _ HN.out hm hq7 hq6).mono ?_
  rintro e w7 ⟨rfl, hb7⟩
  clear hq6 hq7
  go_wp2_with fail
  go_ret
  have b3 := hb1.trans (hb13.mono hb1.size)
  have b5 := b3.trans (hb35.mono b3.size)
  have b6 := b5.trans (hb6.mono b5.size)
  exact ⟨rfl, b6.trans (hb7.mono b6.size)⟩

end Go.Proofs.Ytkpgbombikgffaa
