/-
  No cell of these rows narrows 'for every input' (looked for: loops, veiled, ifaces, maps, wideKeys, modest, calm, conditions, laid).
  DERIVED. THE GIVEN ROWS OF THIS SEAT. 8 by the template 'for every input the law returns true; each argument reads behind the call as it read before'; 0 by the template 'total and deterministic' (their statements: YtkjdccpomldmeaaTotals.lean).
  GIVEN WITH THE SEED: the statements are not yours to turn. If you find one false, say at which input.
  Laid BY PROGRAM, IN A SANDBOX (cutbox-rows.mjs): the forced cells as the released guide's own fill.sh prints them over the translation 51f45140e723deba… (all of the seat's roots in one cut). By AI agents, Wed Nov 11 2026. No macro, syntax, notation, axiom, sorry.
-/
import Derived.Test.YtkjdccpomldmeaaChecked
import GoSem.Claim
import GoSem.ClaimJoined
import GoSem.ClaimMapViews
import Derived.JoinedTies
import Derived.KernelRfl
namespace Go.Proofs.Ytkjdccpomldmeaa
/- THE CELL 'sum', in the pinned program and in every row, IS THE sha256 OF THE DUMP (.gsa) THAT YtkjdccpomldmeaaProg.lean LOADS. Nothing in Lean hashes anything: it is a label: what it is worth is what the hold of that sum in a sandbox is worth. -/
noncomputable def Try.pinned : Pinned := { name := "ytkjdccpomldmeaa", sum := "51f45140e723deba6d88aa96c3667caf954efcdcc2a8fac9b5e948d4829951f0", checked := Try.checked }
namespace Rows
def none {H : Type} : Left H := { results := [], args := [] }

/-- 'laws.FnExactManifestPick': WHATEVER THE INPUT: true; the input reads as it did. -/
def fnExactManifestPickSpec : ChangeSpec := { name := "fnExactManifestPick", fn := fun _ => fun
  | [d1, d2, d3] => { results := [.lit (.bool true)], args := [d1, d2, d3] }
  | _ => none }
def fnExactManifestPickRow : OpenClaim := { program := "ytkjdccpomldmeaa", sum := "51f45140e723deba6d88aa96c3667caf954efcdcc2a8fac9b5e948d4829951f0", func := "loop.example/tallyaudit/laws.FnExactManifestPick", spec := "fnExactManifestPick", recurses := true, apart := false }
def FnExactManifestPickSaid : Prop := fnExactManifestPickRow.holds Try.pinned (OpenSpec.ofChange fnExactManifestPickSpec)

/-- ITS FALSE NEIGHBOUR: 'it returns false'. Refute it at one input. -/
def fnExactManifestPickWrong : ChangeSpec := { name := "fnExactManifestPick", fn := fun _ => fun
  | [d1, d2, d3] => { results := [.lit (.bool false)], args := [d1, d2, d3] }
  | _ => none }
def FnExactManifestPickWrongFalsely : Prop := fnExactManifestPickRow.holds Try.pinned (OpenSpec.ofChange fnExactManifestPickWrong)

/-- 'laws.FnManifestPick': WHATEVER THE INPUT: true; the input reads as it did. -/
def fnManifestPickSpec : ChangeSpec := { name := "fnManifestPick", fn := fun _ => fun
  | [d] => { results := [.lit (.bool true)], args := [d] }
  | _ => none }
def fnManifestPickRow : OpenClaim := { program := "ytkjdccpomldmeaa", sum := "51f45140e723deba6d88aa96c3667caf954efcdcc2a8fac9b5e948d4829951f0", func := "loop.example/tallyaudit/laws.FnManifestPick", spec := "fnManifestPick", recurses := true, apart := false }
def FnManifestPickSaid : Prop := fnManifestPickRow.holds Try.pinned (OpenSpec.ofChange fnManifestPickSpec)

/-- ITS FALSE NEIGHBOUR: 'it returns false'. Refute it at one input. -/
def fnManifestPickWrong : ChangeSpec := { name := "fnManifestPick", fn := fun _ => fun
  | [d] => { results := [.lit (.bool false)], args := [d] }
  | _ => none }
def FnManifestPickWrongFalsely : Prop := fnManifestPickRow.holds Try.pinned (OpenSpec.ofChange fnManifestPickWrong)

/-- 'laws.FnExactSampleNext': WHATEVER THE INPUT: true; the input reads as it did. -/
def fnExactSampleNextSpec : ChangeSpec := { name := "fnExactSampleNext", fn := fun _ => fun
  | [d] => { results := [.lit (.bool true)], args := [d] }
  | _ => none }
def fnExactSampleNextRow : OpenClaim := { program := "ytkjdccpomldmeaa", sum := "51f45140e723deba6d88aa96c3667caf954efcdcc2a8fac9b5e948d4829951f0", func := "loop.example/tallyaudit/laws.FnExactSampleNext", spec := "fnExactSampleNext", apart := false }
def FnExactSampleNextSaid : Prop := fnExactSampleNextRow.holds Try.pinned (OpenSpec.ofChange fnExactSampleNextSpec)

/-- ITS FALSE NEIGHBOUR: 'it returns false'. Refute it at one input. -/
def fnExactSampleNextWrong : ChangeSpec := { name := "fnExactSampleNext", fn := fun _ => fun
  | [d] => { results := [.lit (.bool false)], args := [d] }
  | _ => none }
def FnExactSampleNextWrongFalsely : Prop := fnExactSampleNextRow.holds Try.pinned (OpenSpec.ofChange fnExactSampleNextWrong)

/-- 'laws.FnSampleNext': WHATEVER THE INPUT: true; the input reads as it did. -/
def fnSampleNextSpec : ChangeSpec := { name := "fnSampleNext", fn := fun _ => fun
  | [d] => { results := [.lit (.bool true)], args := [d] }
  | _ => none }
def fnSampleNextRow : OpenClaim := { program := "ytkjdccpomldmeaa", sum := "51f45140e723deba6d88aa96c3667caf954efcdcc2a8fac9b5e948d4829951f0", func := "loop.example/tallyaudit/laws.FnSampleNext", spec := "fnSampleNext", apart := false }
def FnSampleNextSaid : Prop := fnSampleNextRow.holds Try.pinned (OpenSpec.ofChange fnSampleNextSpec)

/-- ITS FALSE NEIGHBOUR: 'it returns false'. Refute it at one input. -/
def fnSampleNextWrong : ChangeSpec := { name := "fnSampleNext", fn := fun _ => fun
  | [d] => { results := [.lit (.bool false)], args := [d] }
  | _ => none }
def FnSampleNextWrongFalsely : Prop := fnSampleNextRow.holds Try.pinned (OpenSpec.ofChange fnSampleNextWrong)

/-- 'laws.FnManifestTotal': WHATEVER THE INPUT: true; the input reads as it did. -/
def fnManifestTotalSpec : ChangeSpec := { name := "fnManifestTotal", fn := fun _ => fun
  | [d1, d2] => { results := [.lit (.bool true)], args := [d1, d2] }
  | _ => none }
def fnManifestTotalRow : OpenClaim := { program := "ytkjdccpomldmeaa", sum := "51f45140e723deba6d88aa96c3667caf954efcdcc2a8fac9b5e948d4829951f0", func := "loop.example/tallyaudit/laws.FnManifestTotal", spec := "fnManifestTotal", apart := false }
def FnManifestTotalSaid : Prop := fnManifestTotalRow.holds Try.pinned (OpenSpec.ofChange fnManifestTotalSpec)

/-- ITS FALSE NEIGHBOUR: 'it returns false'. Refute it at one input. -/
def fnManifestTotalWrong : ChangeSpec := { name := "fnManifestTotal", fn := fun _ => fun
  | [d1, d2] => { results := [.lit (.bool false)], args := [d1, d2] }
  | _ => none }
def FnManifestTotalWrongFalsely : Prop := fnManifestTotalRow.holds Try.pinned (OpenSpec.ofChange fnManifestTotalWrong)

/-- 'laws.FnExactManifestAt': WHATEVER THE INPUT: true; the input reads as it did. -/
def fnExactManifestAtSpec : ChangeSpec := { name := "fnExactManifestAt", fn := fun _ => fun
  | [d1, d2] => { results := [.lit (.bool true)], args := [d1, d2] }
  | _ => none }
def fnExactManifestAtRow : OpenClaim := { program := "ytkjdccpomldmeaa", sum := "51f45140e723deba6d88aa96c3667caf954efcdcc2a8fac9b5e948d4829951f0", func := "loop.example/tallyaudit/laws.FnExactManifestAt", spec := "fnExactManifestAt", apart := false }
def FnExactManifestAtSaid : Prop := fnExactManifestAtRow.holds Try.pinned (OpenSpec.ofChange fnExactManifestAtSpec)

/-- ITS FALSE NEIGHBOUR: 'it returns false'. Refute it at one input. -/
def fnExactManifestAtWrong : ChangeSpec := { name := "fnExactManifestAt", fn := fun _ => fun
  | [d1, d2] => { results := [.lit (.bool false)], args := [d1, d2] }
  | _ => none }
def FnExactManifestAtWrongFalsely : Prop := fnExactManifestAtRow.holds Try.pinned (OpenSpec.ofChange fnExactManifestAtWrong)

/-- 'laws.FnManifestAt': WHATEVER THE INPUT: true; the input reads as it did. -/
def fnManifestAtSpec : ChangeSpec := { name := "fnManifestAt", fn := fun _ => fun
  | [d] => { results := [.lit (.bool true)], args := [d] }
  | _ => none }
def fnManifestAtRow : OpenClaim := { program := "ytkjdccpomldmeaa", sum := "51f45140e723deba6d88aa96c3667caf954efcdcc2a8fac9b5e948d4829951f0", func := "loop.example/tallyaudit/laws.FnManifestAt", spec := "fnManifestAt", apart := false }
def FnManifestAtSaid : Prop := fnManifestAtRow.holds Try.pinned (OpenSpec.ofChange fnManifestAtSpec)

/-- ITS FALSE NEIGHBOUR: 'it returns false'. Refute it at one input. -/
def fnManifestAtWrong : ChangeSpec := { name := "fnManifestAt", fn := fun _ => fun
  | [d] => { results := [.lit (.bool false)], args := [d] }
  | _ => none }
def FnManifestAtWrongFalsely : Prop := fnManifestAtRow.holds Try.pinned (OpenSpec.ofChange fnManifestAtWrong)

/-- 'laws.FnExactSampleOf': WHATEVER THE INPUT: true; the input reads as it did. -/
def fnExactSampleOfSpec : ChangeSpec := { name := "fnExactSampleOf", fn := fun _ => fun
  | [d1, d2, d3] => { results := [.lit (.bool true)], args := [d1, d2, d3] }
  | _ => none }
def fnExactSampleOfRow : OpenClaim := { program := "ytkjdccpomldmeaa", sum := "51f45140e723deba6d88aa96c3667caf954efcdcc2a8fac9b5e948d4829951f0", func := "loop.example/tallyaudit/laws.FnExactSampleOf", spec := "fnExactSampleOf", apart := false }
def FnExactSampleOfSaid : Prop := fnExactSampleOfRow.holds Try.pinned (OpenSpec.ofChange fnExactSampleOfSpec)

/-- ITS FALSE NEIGHBOUR: 'it returns false'. Refute it at one input. -/
def fnExactSampleOfWrong : ChangeSpec := { name := "fnExactSampleOf", fn := fun _ => fun
  | [d1, d2, d3] => { results := [.lit (.bool false)], args := [d1, d2, d3] }
  | _ => none }
def FnExactSampleOfWrongFalsely : Prop := fnExactSampleOfRow.holds Try.pinned (OpenSpec.ofChange fnExactSampleOfWrong)

/- THE SECOND FORM. 'bulk': how many values and letters a reading holds, each counted each time it is reached (what is shared counts as often as it is met; a slice's spare places count too). A statement '..UptoSaid' is the law's where the arguments, and the package variables that the reading takes, are together of bulk at most 1048576: NARROWER than '..Said'. Prove '..Said' where nothing that the law and all that it calls make is longer than what came in: it says more and counts as full. Else prove '..UptoSaid'. A law counts once. -/
mutual
def uptoBulk {H : Type} : DataW H → Nat
  | .lit (.string bytes) => bytes.length + 1
  | .lit _ => 1
  | .nil => 1
  | .ptr d => uptoBulk d + 1
  | .slice elems spare => uptoBulkAll elems + uptoBulkAll spare + 1
  | .agg parts => uptoBulkAll parts + 1
  | .iface _ d => uptoBulk d + 1
  | .map entries => uptoBulkEntries entries + 1
  | .held _ => 1
def uptoBulkAll {H : Type} : List (DataW H) → Nat
  | [] => 0
  | d :: r => uptoBulk d + uptoBulkAll r
def uptoBulkEntries {H : Type} : List (Lit × DataW H) → Nat
  | [] => 0
  | x :: r => uptoBulkEntry x + uptoBulkEntries r
def uptoBulkEntry {H : Type} : Lit × DataW H → Nat
  | (.string bytes, d) => bytes.length + uptoBulk d + 1
  | (_, d) => uptoBulk d + 1
 end
def uptoSmall : (H : Type) → List (DataW H) → Bool := fun _ ds => decide (uptoBulkAll ds ≤ 1048576)
def OpenSpec.upto (s : _root_.Go.ChangeSpec) : _root_.Go.OpenSpec := { _root_.Go.OpenSpec.ofChange s with cond := some uptoSmall }

/-- 'laws.FnExactManifestPick', WHERE WHAT IT READS IS OF BULK AT MOST 1048576: true; the input reads as it did. -/
def fnExactManifestPickUptoRow : OpenClaim := { program := "ytkjdccpomldmeaa", sum := "51f45140e723deba6d88aa96c3667caf954efcdcc2a8fac9b5e948d4829951f0", func := "loop.example/tallyaudit/laws.FnExactManifestPick", spec := "fnExactManifestPick", recurses := true, apart := false, narrowed := true }
def FnExactManifestPickUptoSaid : Prop := fnExactManifestPickUptoRow.holds Try.pinned (OpenSpec.upto fnExactManifestPickSpec)

/-- 'laws.FnManifestPick', WHERE WHAT IT READS IS OF BULK AT MOST 1048576: true; the input reads as it did. -/
def fnManifestPickUptoRow : OpenClaim := { program := "ytkjdccpomldmeaa", sum := "51f45140e723deba6d88aa96c3667caf954efcdcc2a8fac9b5e948d4829951f0", func := "loop.example/tallyaudit/laws.FnManifestPick", spec := "fnManifestPick", recurses := true, apart := false, narrowed := true }
def FnManifestPickUptoSaid : Prop := fnManifestPickUptoRow.holds Try.pinned (OpenSpec.upto fnManifestPickSpec)

/-- 'laws.FnExactSampleNext', WHERE WHAT IT READS IS OF BULK AT MOST 1048576: true; the input reads as it did. -/
def fnExactSampleNextUptoRow : OpenClaim := { program := "ytkjdccpomldmeaa", sum := "51f45140e723deba6d88aa96c3667caf954efcdcc2a8fac9b5e948d4829951f0", func := "loop.example/tallyaudit/laws.FnExactSampleNext", spec := "fnExactSampleNext", apart := false, narrowed := true }
def FnExactSampleNextUptoSaid : Prop := fnExactSampleNextUptoRow.holds Try.pinned (OpenSpec.upto fnExactSampleNextSpec)

/-- 'laws.FnSampleNext', WHERE WHAT IT READS IS OF BULK AT MOST 1048576: true; the input reads as it did. -/
def fnSampleNextUptoRow : OpenClaim := { program := "ytkjdccpomldmeaa", sum := "51f45140e723deba6d88aa96c3667caf954efcdcc2a8fac9b5e948d4829951f0", func := "loop.example/tallyaudit/laws.FnSampleNext", spec := "fnSampleNext", apart := false, narrowed := true }
def FnSampleNextUptoSaid : Prop := fnSampleNextUptoRow.holds Try.pinned (OpenSpec.upto fnSampleNextSpec)

/-- 'laws.FnManifestTotal', WHERE WHAT IT READS IS OF BULK AT MOST 1048576: true; the input reads as it did. -/
def fnManifestTotalUptoRow : OpenClaim := { program := "ytkjdccpomldmeaa", sum := "51f45140e723deba6d88aa96c3667caf954efcdcc2a8fac9b5e948d4829951f0", func := "loop.example/tallyaudit/laws.FnManifestTotal", spec := "fnManifestTotal", apart := false, narrowed := true }
def FnManifestTotalUptoSaid : Prop := fnManifestTotalUptoRow.holds Try.pinned (OpenSpec.upto fnManifestTotalSpec)

/-- 'laws.FnExactManifestAt', WHERE WHAT IT READS IS OF BULK AT MOST 1048576: true; the input reads as it did. -/
def fnExactManifestAtUptoRow : OpenClaim := { program := "ytkjdccpomldmeaa", sum := "51f45140e723deba6d88aa96c3667caf954efcdcc2a8fac9b5e948d4829951f0", func := "loop.example/tallyaudit/laws.FnExactManifestAt", spec := "fnExactManifestAt", apart := false, narrowed := true }
def FnExactManifestAtUptoSaid : Prop := fnExactManifestAtUptoRow.holds Try.pinned (OpenSpec.upto fnExactManifestAtSpec)

/-- 'laws.FnManifestAt', WHERE WHAT IT READS IS OF BULK AT MOST 1048576: true; the input reads as it did. -/
def fnManifestAtUptoRow : OpenClaim := { program := "ytkjdccpomldmeaa", sum := "51f45140e723deba6d88aa96c3667caf954efcdcc2a8fac9b5e948d4829951f0", func := "loop.example/tallyaudit/laws.FnManifestAt", spec := "fnManifestAt", apart := false, narrowed := true }
def FnManifestAtUptoSaid : Prop := fnManifestAtUptoRow.holds Try.pinned (OpenSpec.upto fnManifestAtSpec)

/-- 'laws.FnExactSampleOf', WHERE WHAT IT READS IS OF BULK AT MOST 1048576: true; the input reads as it did. -/
def fnExactSampleOfUptoRow : OpenClaim := { program := "ytkjdccpomldmeaa", sum := "51f45140e723deba6d88aa96c3667caf954efcdcc2a8fac9b5e948d4829951f0", func := "loop.example/tallyaudit/laws.FnExactSampleOf", spec := "fnExactSampleOf", apart := false, narrowed := true }
def FnExactSampleOfUptoSaid : Prop := fnExactSampleOfUptoRow.holds Try.pinned (OpenSpec.upto fnExactSampleOfSpec)

end Rows
end Go.Proofs.Ytkjdccpomldmeaa
