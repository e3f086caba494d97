/- Small words for results, and what l6In returns. The conditions stand in each theorem. -/
import Derived.Test.YtjanmgiliooocaaProg
import Derived.WalkKit
import Derived.WalkLawsBesides
import Derived.WalkSpells
import Derived.Below
import Derived.Lib.Hide
import Derived.Outline
namespace Go.Proofs.Ytjanmgiliooocaa
open Go.RowKit Go.ChangeShapes

theorem ret_int {k : IntKind} {a b : Int} (h : a = b) : Ending.returned (.int k a) = .returned (.int k b) := by rw [h]
theorem ret_bool {a b : Bool} (h : a = b) : Ending.returned (.bool a) = .returned (.bool b) := by rw [h]
theorem mul_bd {x y m n : Int} (hx : 0 ≤ x) (hx' : x ≤ m) (hy : 0 ≤ y) (hy' : y ≤ n) : 0 ≤ x * y ∧ x * y ≤ m * n :=
  ⟨Int.mul_nonneg hx hy, Int.mul_le_mul hx' hy' hy (by omega)⟩
theorem in_yes (a lo hi : Int) (w : World) (h1 : lo ≤ a) (h2 : a ≤ hi) :
    Calls Try.prog 26 #[.int .i64 a, .int .i64 lo, .int .i64 hi] w fun e w' => e = .returned (.bool true) ∧ w = w' := by
  have d1 : decide (lo ≤ a) = true := by simpa using h1
  have d2 : decide (a ≤ hi) = true := by simpa using h2
  go_enter Try.func26, Try.ntmps26
  go_wp2
  go_ret
  exact ⟨rfl, rfl⟩
theorem in_no (a lo hi : Int) (w : World) (h : a < lo ∨ hi < a) :
    Calls Try.prog 26 #[.int .i64 a, .int .i64 lo, .int .i64 hi] w fun e w' => e = .returned (.bool false) ∧ w = w' := by
  by_cases h1 : lo ≤ a
  · have d1 : decide (lo ≤ a) = true := by simpa using h1
    have d2 : decide (a ≤ hi) = false := by simp; omega
    clear h
    go_enter Try.func26, Try.ntmps26
    go_wp2
    go_ret
    exact ⟨rfl, rfl⟩
  · have d1 : decide (lo ≤ a) = false := by simpa using h1
    clear h
    go_enter Try.func26, Try.ntmps26
    go_wp2
    go_ret
    exact ⟨rfl, rfl⟩
def inB (a lo hi : Int) : Bool := decide (lo ≤ a) && decide (a ≤ hi)
theorem inB_yes {a lo hi : Int} (h1 : lo ≤ a) (h2 : a ≤ hi) : inB a lo hi = true := by simp [inB, h1, h2]
theorem inB_no {a lo hi : Int} (h : a < lo ∨ hi < a) : inB a lo hi = false := by
  unfold inB
  rcases h with h | h
  · have : decide (lo ≤ a) = false := by simp; omega
    rw [this]; rfl
  · have : decide (a ≤ hi) = false := by simp; omega
    rw [this]; simp
theorem in_any (a lo hi : Int) (w : World) :
    Calls Try.prog 26 #[.int .i64 a, .int .i64 lo, .int .i64 hi] w fun e w' => e = .returned (.bool (inB a lo hi)) ∧ w = w' := by
  by_cases h : lo ≤ a ∧ a ≤ hi
  · rw [inB_yes h.1 h.2]; exact in_yes a lo hi w h.1 h.2
  · rw [inB_no (by omega)]; exact in_no a lo hi w (by omega)

end Go.Proofs.Ytjanmgiliooocaa
