/- The law FnExactSampleOf returns true and leaves all that was there as it was. The conditions stand in each theorem. -/
import Derived.Test.YtnkjleipkfbhnaaSamp3
namespace Go.Proofs.Ytnkjleipkfbhnaa
open Go.RowKit Go.ChangeShapes
set_option linter.unusedVariables false

set_option maxHeartbeats 2000000 in
theorem FnExactSampleOf_walk (n m s : Int) (w : World) (h0 : (Lit.int .i64 n).wf = true) (h1 : (Lit.int .i64 m).wf = true) (h2 : (Lit.int .i64 s).wf = true) :
    Calls Try.prog 8 #[.int .i64 n, .int .i64 m, .int .i64 s] w fun e w' => e = .returned (.bool true) ∧ Below w.heap.size w w' := by
  clear h0 h1 h2
  go_enter Try.func8, Try.ntmps8
  go_wp2_with fail
  refine (sSampleOf_any n m s _).mono ?_
  rintro e w1 ⟨A1, k1, c1, rfl, hl1, hk1, hc11, hc12, hown1, hb1⟩
  obtain ⟨_, _, he, _, _, _, hrow1⟩ := own_slice hown1
  injection he with e1 e2 e3
  subst e1 e3
  clear e2 hown1
  go_wp2_with fail
  refine (SampleOf_any n m s _).mono ?_
  rintro e w2 ⟨A2, k2, c2, rfl, hl2, hk2, hc21, hc22, hown2, hb2⟩
  have hwr2 := own_wr hown2
  have hob := own_block hown2
  obtain ⟨_, _, he, _, _, _, hrow2⟩ := own_slice hown2
  injection he with e1 e2 e3
  subst e1 e3
  obtain rfl : k2 = k1 := by omega
  clear e2 hown2 hl2
  have HL := Lib.hid hl1
  have HR1 := Lib.hid hrow1
  have hrow1' := (hrow1.below hb2).more hb2.size
  clear hl1 hrow1
  go_wp2_with fail
  refine (eqIntS_same _ _ _ _ _ (smpL n m s) _ HL.out (by omega) hrow2 hrow1').mono ?_
  rintro e w3 ⟨rfl, hb3⟩
  have hwr3 : Wr w3 A2 k2 := by
    rcases hwr2 with h | ⟨g, off, e, hg, hh⟩
    · exact .inl h
    · refine .inr ⟨g, off, e, Nat.lt_of_lt_of_le hg hb3.size, fun j hj => ?_⟩
      obtain ⟨⟨u, hu⟩, hf⟩ := hh j hj
      exact ⟨⟨u, (hb3.cell (p := ⟨g, off + j, none⟩) hg).trans hu⟩, (hb3.frozen (p := ⟨g, off + j, none⟩) hg).trans hf⟩
  have hb13 : Below w1.heap.size w1 w3 := hb2.trans (hb3.mono hb2.size)
  clear hrow2 hrow1' hwr2
  go_wp2_with fail
  refine (markIntS_any A2 k2 _ 1 _ (by omega) (by omega) (by omega) hwr3).mono ?_
  rintro e w4 ⟨rfl, hg4, hrow4⟩
  have hb14 : Below w1.heap.size w1 w4 := hb13.grown hg4 hb13.size (fun x hx => by
    cases A2 with
    | none => simp [onBlock] at hx
    | some ad =>
      simp [onBlock] at hx
      exact (hob x (by simp [Value.ownBlock, hx])).1)
  clear hwr3 hg4 hb13 hob
  go_wp2_with fail
  refine (heldIntS_any A2 k2 _ 1 _ (by omega) (by omega) (by omega) hrow4).mono ?_
  rintro e w4' ⟨rfl, rfl⟩
  go_wp2_with fail
  refine (SampleOf_any n m s _).mono ?_
  rintro e w5 ⟨A5, k5, c5, rfl, hl5, hk5, hc51, hc52, hown5, hb5⟩
  obtain rfl : k5 = k2 := by have := HL.out; omega
  obtain ⟨_, _, he, _, _, _, hrow5⟩ := own_slice hown5
  injection he with e1 e2 e3
  subst e1 e3
  have hrow45 := (hrow4.below hb5).more hb5.size
  have hb15 : Below w1.heap.size w1 w5 := hb14.trans (hb5.mono hb14.size)
  have hrow15 := (HR1.out.below hb15).more hb15.size
  clear e2 hown5 hl5 hrow4 hb14 hb5
  go_wp2_with fail
  refine (eqIntS_same _ _ _ _ _ (smpL n m s) _ HL.out (by omega) hrow5 hrow15).mono ?_
  rintro e w6 ⟨rfl, hb6⟩
  have hrow46 := (hrow45.below hb6).more hb6.size
  clear hrow45 hrow5 hrow15
  go_wp2_with fail
  refine (heldIntS_any A2 k5 _ 1 _ (by omega) (by omega) (by omega) hrow46).mono ?_
  rintro e w6' ⟨rfl, rfl⟩
  clear hrow46
  go_wp2_with fail
  go_ret
  have b15 := hb1.trans (hb15.mono hb1.size)
  exact ⟨rfl, b15.trans (hb6.mono b15.size)⟩

end Go.Proofs.Ytnkjleipkfbhnaa
