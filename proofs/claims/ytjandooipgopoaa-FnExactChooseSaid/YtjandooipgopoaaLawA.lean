/- The walks of the laws of audits over plain numbers: each returns true. The conditions stand in each theorem. -/
import Derived.Test.YtjandooipgopoaaAud
import Derived.RowKit3
namespace Go.Proofs.Ytjandooipgopoaa
open Go.RowKit Go.ChangeShapes
set_option linter.unusedVariables false

theorem FnExactChoose_walk (a0 a1 : Int) (w0 : (Lit.int .i64 a0).wf = true) (w1 : (Lit.int .i64 a1).wf = true) (w : World) :
    Calls Try.prog 3 #[.int .i64 a0, .int .i64 a1] w fun e w' => e = .returned (.bool true) ∧ Grown w w' := by
  clear w0 w1
  go_enter Try.func3, Try.ntmps3
  go_wp2_with (first
    | (go_at_call 18; refine (sChoose_any _ _ _).mono ?_; rintro e w' ⟨rfl, rfl⟩)
    | (go_at_call 19; refine (Choose_any _ _ _).mono ?_; rintro e w' ⟨rfl, rfl⟩))
  go_ret
  exact ⟨rfl, Grown.refl _⟩

end Go.Proofs.Ytjandooipgopoaa
