/- What the audits' exported functions return for every argument, the reference's and the program's. The conditions stand in each theorem. -/
import Derived.Test.YtjandooipgopoaaAud2
namespace Go.Proofs.Ytjandooipgopoaa
open Go.RowKit Go.ChangeShapes
set_option linter.unusedVariables false

def okW (n w k : Int) : Prop := 1 ≤ n ∧ n ≤ 20 ∧ 0 ≤ w ∧ w ≤ n ∧ 0 ≤ k ∧ k ≤ n
instance (n w k : Int) : Decidable (okW n w k) := by unfold okW; infer_instance
def aw (n w k l : Int) : Int := if okW n w k then wz n w k l else -1
theorem aw_in {n w k : Int} (l : Int) (h : okW n w k) : aw n w k l = wz n w k l := if_pos h
theorem aw_out {n w k : Int} (l : Int) (h : ¬ okW n w k) : aw n w k l = -1 := if_neg h
theorem ret2 {a b c d : Int} (h1 : a = c) (h2 : b = d) : Ending.returned (.tuple #[.int .i64 a, .int .i64 b]) = .returned (.tuple #[.int .i64 c, .int .i64 d]) := by rw [h1, h2]
theorem ret_bool {a b : Bool} (h : a = b) : Ending.returned (.bool a) = .returned (.bool b) := by rw [h]

set_option maxHeartbeats 400000 in
theorem AuditWays_any (n wi k l : Int) (w : World) :
    Calls Try.prog 21 #[.int .i64 n, .int .i64 wi, .int .i64 k, .int .i64 l] w fun e w' => e = .returned (.int .i64 (aw n wi k l)) ∧ w = w' := by
  by_cases h : okW n wi k
  · rw [aw_in l h]
    exact ways_any n wi k l w h.1 h.2.1 h.2.2.1 h.2.2.2.1 h.2.2.2.2.1 h.2.2.2.2.2
  · rw [aw_out l h]
    unfold okW at h
    by_cases h1 : 1 ≤ n ∧ n ≤ 20 ∧ 0 ≤ k ∧ k ≤ n
    · have d0 := smpB_yes h1
      by_cases h2 : wi < 0
      · clear h h1
        go_enter Try.func21, Try.ntmps21
        go_wp2_with (go_at_call 39; refine (smp_any _ _ _).mono ?_; rintro e w' ⟨rfl, rfl⟩)
        go_ret
        exact ⟨rfl, rfl⟩
      · have h3 : n < wi := by omega
        clear h h1
        go_enter Try.func21, Try.ntmps21
        go_wp2_with (go_at_call 39; refine (smp_any _ _ _).mono ?_; rintro e w' ⟨rfl, rfl⟩)
        go_ret
        exact ⟨rfl, rfl⟩
    · have d0 := smpB_no h1
      clear h h1
      go_enter Try.func21, Try.ntmps21
      go_wp2_with (go_at_call 39; refine (smp_any _ _ _).mono ?_; rintro e w' ⟨rfl, rfl⟩)
      go_ret
      exact ⟨rfl, rfl⟩
set_option maxHeartbeats 400000 in
theorem sAuditWays_any (n wi k l : Int) (w : World) :
    Calls Try.prog 20 #[.int .i64 n, .int .i64 wi, .int .i64 k, .int .i64 l] w fun e w' => e = .returned (.int .i64 (aw n wi k l)) ∧ w = w' := by
  by_cases h : okW n wi k
  · rw [aw_in l h]
    obtain ⟨g1, g2, g3, g4, g5, g6⟩ := h
    have d1 := inB_yes g1 g2
    have d2 := inB_yes g3 g4
    have d3 := inB_yes g5 g6
    go_enter Try.func20, Try.ntmps20
    go_wp2_with (first | (go_at_call 35; refine (in_any _ _ _ _).mono ?_; rintro e w' ⟨rfl, rfl⟩) | (go_at_call 38; refine (sways_any _ _ _ _ _ (by omega) (by omega) (by omega) (by omega) (by omega) (by omega)).mono ?_; rintro e w' ⟨rfl, rfl⟩))
    go_ret
    exact ⟨rfl, rfl⟩
  · rw [aw_out l h]
    unfold okW at h
    by_cases h1 : 1 ≤ n ∧ n ≤ 20
    · have d1 := inB_yes h1.1 h1.2
      by_cases h2 : 0 ≤ wi ∧ wi ≤ n
      · have d2 := inB_yes h2.1 h2.2
        have d3 := inB_no (a := k) (lo := 0) (hi := n) (by omega)
        clear h h1 h2
        go_enter Try.func20, Try.ntmps20
        go_wp2_with (go_at_call 35; refine (in_any _ _ _ _).mono ?_; rintro e w' ⟨rfl, rfl⟩)
        go_ret
        exact ⟨rfl, rfl⟩
      · have d2 := inB_no (a := wi) (lo := 0) (hi := n) (by omega)
        clear h h1 h2
        go_enter Try.func20, Try.ntmps20
        go_wp2_with (go_at_call 35; refine (in_any _ _ _ _).mono ?_; rintro e w' ⟨rfl, rfl⟩)
        go_ret
        exact ⟨rfl, rfl⟩
    · have d1 := inB_no (a := n) (lo := 1) (hi := 20) (by omega)
      clear h h1
      go_enter Try.func20, Try.ntmps20
      go_wp2_with (go_at_call 35; refine (in_any _ _ _ _).mono ?_; rintro e w' ⟨rfl, rfl⟩)
      go_ret
      exact ⟨rfl, rfl⟩

def okR (n k : Int) : Prop := 1 ≤ n ∧ n ≤ 20 ∧ 0 ≤ k ∧ k ≤ n
instance (n k : Int) : Decidable (okR n k) := by unfold okR; infer_instance
def ra (n k l : Int) : Int := if okR n k then wz n (n / 2) k l else -1
def rb (n k : Int) : Int := if okR n k then chz n k else -1
theorem ra_in {n k : Int} (l : Int) (h : okR n k) : ra n k l = wz n (n / 2) k l := if_pos h
theorem ra_out {n k : Int} (l : Int) (h : ¬ okR n k) : ra n k l = -1 := if_neg h
theorem rb_in {n k : Int} (h : okR n k) : rb n k = chz n k := if_pos h
theorem rb_out {n k : Int} (h : ¬ okR n k) : rb n k = -1 := if_neg h
set_option maxHeartbeats 400000 in
theorem AuditRisk_any (n k l : Int) (w : World) :
    Calls Try.prog 23 #[.int .i64 n, .int .i64 k, .int .i64 l] w fun e w' => e = .returned (.tuple #[.int .i64 (ra n k l), .int .i64 (rb n k)]) ∧ w = w' := by
  by_cases h : okR n k
  · rw [ra_in l h, rb_in h]
    have d0 : smpB n k = true := smpB_yes h
    obtain ⟨g1, g2, g3, g4⟩ := h
    go_enter Try.func23, Try.ntmps23
    go_wp2_with (first | (go_at_call 39; refine (smp_any _ _ _).mono ?_; rintro e w' ⟨rfl, rfl⟩) | (go_at_call 21; refine (ways_any _ _ _ _ _ (by omega) (by omega) (by omega) (by omega) (by omega) (by omega)).mono ?_; rintro e w' ⟨rfl, rfl⟩) | (go_at_call 37; refine (choose_any _ _ _ (by omega) (by omega) (by omega)).mono ?_; rintro e w' ⟨rfl, rfl⟩))
    go_ret2
    exact ⟨rfl, rfl⟩
  · rw [ra_out l h, rb_out h]
    have d0 : smpB n k = false := smpB_no h
    clear h
    go_enter Try.func23, Try.ntmps23
    go_wp2_with (go_at_call 39; refine (smp_any _ _ _).mono ?_; rintro e w' ⟨rfl, rfl⟩)
    go_ret2
    exact ⟨rfl, rfl⟩
set_option maxHeartbeats 400000 in
theorem sAuditRisk_any (n k l : Int) (w : World) :
    Calls Try.prog 22 #[.int .i64 n, .int .i64 k, .int .i64 l] w fun e w' => e = .returned (.tuple #[.int .i64 (ra n k l), .int .i64 (rb n k)]) ∧ w = w' := by
  by_cases h : okR n k
  · rw [ra_in l h, rb_in h]
    obtain ⟨g1, g2, g3, g4⟩ := h
    have d1 := inB_yes g1 g2
    have d3 := inB_yes g3 g4
    go_enter Try.func22, Try.ntmps22
    go_wp2_with (first | (go_at_call 35; refine (in_any _ _ _ _).mono ?_; rintro e w' ⟨rfl, rfl⟩) | (go_at_call 38; refine (sways_any _ _ _ _ _ (by omega) (by omega) (by omega) (by omega) (by omega) (by omega)).mono ?_; rintro e w' ⟨rfl, rfl⟩) | (go_at_call 36; refine (lchoose_any _ _ _ (by omega) (by omega) (by omega)).mono ?_; rintro e w' ⟨rfl, rfl⟩))
    go_ret2
    exact ⟨rfl, rfl⟩
  · rw [ra_out l h, rb_out h]
    unfold okR at h
    by_cases h1 : 1 ≤ n ∧ n ≤ 20
    · have d1 := inB_yes h1.1 h1.2
      have d3 := inB_no (a := k) (lo := 0) (hi := n) (by omega)
      clear h h1
      go_enter Try.func22, Try.ntmps22
      go_wp2_with (go_at_call 35; refine (in_any _ _ _ _).mono ?_; rintro e w' ⟨rfl, rfl⟩)
      go_ret2
      exact ⟨rfl, rfl⟩
    · have d1 := inB_no (a := n) (lo := 1) (hi := 20) (by omega)
      clear h h1
      go_enter Try.func22, Try.ntmps22
      go_wp2_with (go_at_call 35; refine (in_any _ _ _ _).mono ?_; rintro e w' ⟨rfl, rfl⟩)
      go_ret2
      exact ⟨rfl, rfl⟩

end Go.Proofs.Ytjandooipgopoaa
