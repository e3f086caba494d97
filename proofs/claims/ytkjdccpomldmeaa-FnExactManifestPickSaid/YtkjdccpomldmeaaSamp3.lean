/- What SampleOf returns, the reference's and the program's, for every argument; and what is drawn for the laws on it. The conditions stand in each theorem. -/
import Derived.Test.YtkjdccpomldmeaaSamp2
import Derived.Test.YtkjdccpomldmeaaPickX
namespace Go.Proofs.Ytkjdccpomldmeaa
open Go.RowKit Go.ChangeShapes
set_option linter.unusedVariables false

set_option maxHeartbeats 1000000 in
theorem SampleOf_any (n m s : Int) (w : World) :
    Calls Try.prog 19 #[.int .i64 n, .int .i64 m, .int .i64 s] w (Sampled w n m s) := by
  by_cases h : okS n m s
  · obtain ⟨g1, g2, g3, g4, g5, g6⟩ := id h
    have e1 : n = (n.toNat : Int) := by omega
    have e2 : m = (m.toNat : Int) := by omega
    have := SampleOf_yes n.toNat m.toNat s w (by rw [← e1, ← e2]; exact h)
    rw [← e1, ← e2] at this
    exact this
  · have HN := Lib.hid h
    by_cases h1 : n < 1
    · have d1 : decide (n < 1) = true := by simpa using h1
      clear h h1
      go_enter Try.func19, Try.ntmps19
      go_wp2_with fail
      go_ret2
      exact Sampled.none_ HN.out (Below.refl _ _)
    have d1 : decide (n < 1) = false := by simpa using h1
    by_cases h2 : 99 < n
    · have d2 : decide (99 < n) = true := by simpa using h2
      clear h h1 h2
      go_enter Try.func19, Try.ntmps19
      go_wp2_with fail
      go_ret2
      exact Sampled.none_ HN.out (Below.refl _ _)
    have d2 : decide (99 < n) = false := by simpa using h2
    by_cases h3 : m < 0
    · have d3 : decide (m < 0) = true := by simpa using h3
      clear h h1 h2 h3
      go_enter Try.func19, Try.ntmps19
      go_wp2_with fail
      go_ret2
      exact Sampled.none_ HN.out (Below.refl _ _)
    have d3 : decide (m < 0) = false := by simpa using h3
    by_cases h4 : n < m
    · have d4 : decide (n < m) = true := by simpa using h4
      clear h h1 h2 h3 h4
      go_enter Try.func19, Try.ntmps19
      go_wp2_with fail
      go_ret2
      exact Sampled.none_ HN.out (Below.refl _ _)
    have d4 : decide (n < m) = false := by simpa using h4
    by_cases h5 : s < 0
    · have d5 : decide (s < 0) = true := by simpa using h5
      clear h h1 h2 h3 h4 h5
      go_enter Try.func19, Try.ntmps19
      go_wp2_with fail
      go_ret2
      exact Sampled.none_ HN.out (Below.refl _ _)
    have d5 : decide (s < 0) = false := by simpa using h5
    have d6 : decide (999 < s) = true := by
      simp only [decide_eq_true_eq]
      unfold okS at h
      omega
    clear h h1 h2 h3 h4 h5
    go_enter Try.func19, Try.ntmps19
    go_wp2_with fail
    go_ret2
    exact Sampled.none_ HN.out (Below.refl _ _)

theorem Sampled.none2 {w w' : World} {n m s : Int} {g : Nat} (h : ¬ okS n m s) (hb : Below w.heap.size w w') (ho : w'.ownsRow w.heap.size 3 1 (.slice (some ⟨g, 0, none⟩) 0 0) 0 []) : Sampled w n m s (.returned (.tuple #[.slice (some ⟨g, 0, none⟩) 0 0, .bool false])) w' :=
  ⟨_, 0, 0, ret_sb (smp_out h).2.symm, by rw [(smp_out h).1]; rfl, by omega, Nat.le_refl _, by unfold maxLen; omega, by rw [(smp_out h).1]; exact ho, hb⟩

set_option maxHeartbeats 1000000 in
theorem sSampleOf_any (n m s : Int) (w : World) :
    Calls Try.prog 30 #[.int .i64 n, .int .i64 m, .int .i64 s] w (Sampled w n m s) := by
  by_cases h : okS n m s
  · obtain ⟨g1, g2, g3, g4, g5, g6⟩ := id h
    obtain ⟨N, rfl⟩ := Int.eq_ofNat_of_zero_le (show 0 ≤ n by omega)
    obtain ⟨M, rfl⟩ := Int.eq_ofNat_of_zero_le g3
    have HO := Lib.hid h
    have b1 := inB_yes g1 g2
    have b2 := inB_yes g3 g4
    have b3 := inB_yes g5 g6
    have HM : Hid (M ≤ 99) := by show _ ≤ _; omega
    clear h g1 g2 g3 g4 g5 g6
    go_enter Try.func30, Try.ntmps30
    go_wp2_with (first
      | (go_at_call 39; refine (in_any _ _ _ _).mono ?_; rintro e w' ⟨rfl, rfl⟩)
      | (go_at_call 40; refine (sl33Sample_any N M s _ HO.out).mono ?_; rintro e w' ⟨A, c, rfl, hc1, hc2, hown, hb⟩))
    go_ret2
    have h1 := smp_in HO.out
    simp only [Int.toNat_natCast] at h1
    have hl : (run N s M).out.length = M := by have := hown.1; simpa using this
    exact ⟨A, M, c, ret_sb h1.2.symm, by rw [h1.1]; exact hl, HM.out, hc1, hc2, by rw [h1.1]; exact hown, hb⟩
  · have HN := Lib.hid h
    have key : Sampled w n m s (.returned (.tuple #[.slice (some ⟨w.heap.size, 0, none⟩) 0 0, .bool false])) (w.alloc (.cells #[] 3)) :=
      Sampled.none2 h ((Below.refl _ _).alloc (Nat.le_refl _) _) (own_empty w _ _ _ (Nat.le_refl _))
    have KEY := Lib.hid key
    clear key
    by_cases h1 : 1 ≤ n ∧ n ≤ 99
    · have b1 := inB_yes h1.1 h1.2
      by_cases h2 : 0 ≤ m ∧ m ≤ n
      · have b2 := inB_yes h2.1 h2.2
        have b3 := inB_no (a := s) (lo := 0) (hi := 999) (by unfold okS at h; omega)
        clear h h1 h2
        go_enter Try.func30, Try.ntmps30
        go_wp2_with (go_at_call 39; refine (in_any _ _ _ _).mono ?_; rintro e w' ⟨rfl, rfl⟩)
        go_ret2
        exact KEY.out
      · have b2 := inB_no (a := m) (lo := 0) (hi := n) (by omega)
        clear h h1 h2
        go_enter Try.func30, Try.ntmps30
        go_wp2_with (go_at_call 39; refine (in_any _ _ _ _).mono ?_; rintro e w' ⟨rfl, rfl⟩)
        go_ret2
        exact KEY.out
    · have b1 := inB_no (a := n) (lo := 1) (hi := 99) (by omega)
      clear h h1
      go_enter Try.func30, Try.ntmps30
      go_wp2_with (go_at_call 39; refine (in_any _ _ _ _).mono ?_; rintro e w' ⟨rfl, rfl⟩)
      go_ret2
      exact KEY.out

end Go.Proofs.Ytkjdccpomldmeaa
