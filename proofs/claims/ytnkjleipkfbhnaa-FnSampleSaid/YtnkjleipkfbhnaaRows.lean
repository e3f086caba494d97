/-
  No cell of these rows narrows 'for every input' (looked for: loops, veiled, ifaces, maps, wideKeys, modest, calm, conditions, laid).
  DERIVED. THE GIVEN ROWS OF THIS SEAT. 11 by the template 'for every input the law returns true; each argument reads behind the call as it read before'; 0 by the template 'total and deterministic' (their statements: YtnkjleipkfbhnaaTotals.lean).
  GIVEN WITH THE SEED: the statements are not yours to turn. If you find one false, say at which input.
  Laid BY PROGRAM, IN A SANDBOX (cutbox-rows.mjs): the forced cells as the released guide's own fill.sh prints them over the translation 995f4c562475c4df… (all of the seat's roots in one cut). By AI agents, Wed Nov 11 2026. No macro, syntax, notation, axiom, sorry.
-/
import Derived.Test.YtnkjleipkfbhnaaChecked
import GoSem.Claim
import GoSem.ClaimJoined
import GoSem.ClaimMapViews
import Derived.JoinedTies
import Derived.KernelRfl
namespace Go.Proofs.Ytnkjleipkfbhnaa
/- THE CELL 'sum', in the pinned program and in every row, IS THE sha256 OF THE DUMP (.gsa) THAT YtnkjleipkfbhnaaProg.lean LOADS. Nothing in Lean hashes anything: it is a label: what it is worth is what the hold of that sum in a sandbox is worth. -/
noncomputable def Try.pinned : Pinned := { name := "ytnkjleipkfbhnaa", sum := "995f4c562475c4df76bec4dedcfc0f89c198f8070d5953757e707f899c840c90", checked := Try.checked }
namespace Rows
def none {H : Type} : Left H := { results := [], args := [] }

/-- 'laws.FnExactSampleNext': WHATEVER THE INPUT: true; the input reads as it did. -/
def fnExactSampleNextSpec : ChangeSpec := { name := "fnExactSampleNext", fn := fun _ => fun
  | [d] => { results := [.lit (.bool true)], args := [d] }
  | _ => none }
def fnExactSampleNextRow : OpenClaim := { program := "ytnkjleipkfbhnaa", sum := "995f4c562475c4df76bec4dedcfc0f89c198f8070d5953757e707f899c840c90", func := "loop.example/tallyaudit/laws.FnExactSampleNext", spec := "fnExactSampleNext", apart := false }
def FnExactSampleNextSaid : Prop := fnExactSampleNextRow.holds Try.pinned (OpenSpec.ofChange fnExactSampleNextSpec)

/-- ITS FALSE NEIGHBOUR: 'it returns false'. Refute it at one input. -/
def fnExactSampleNextWrong : ChangeSpec := { name := "fnExactSampleNext", fn := fun _ => fun
  | [d] => { results := [.lit (.bool false)], args := [d] }
  | _ => none }
def FnExactSampleNextWrongFalsely : Prop := fnExactSampleNextRow.holds Try.pinned (OpenSpec.ofChange fnExactSampleNextWrong)

/-- 'laws.FnSampleNext': WHATEVER THE INPUT: true; the input reads as it did. -/
def fnSampleNextSpec : ChangeSpec := { name := "fnSampleNext", fn := fun _ => fun
  | [d] => { results := [.lit (.bool true)], args := [d] }
  | _ => none }
def fnSampleNextRow : OpenClaim := { program := "ytnkjleipkfbhnaa", sum := "995f4c562475c4df76bec4dedcfc0f89c198f8070d5953757e707f899c840c90", func := "loop.example/tallyaudit/laws.FnSampleNext", spec := "fnSampleNext", apart := false }
def FnSampleNextSaid : Prop := fnSampleNextRow.holds Try.pinned (OpenSpec.ofChange fnSampleNextSpec)

/-- ITS FALSE NEIGHBOUR: 'it returns false'. Refute it at one input. -/
def fnSampleNextWrong : ChangeSpec := { name := "fnSampleNext", fn := fun _ => fun
  | [d] => { results := [.lit (.bool false)], args := [d] }
  | _ => none }
def FnSampleNextWrongFalsely : Prop := fnSampleNextRow.holds Try.pinned (OpenSpec.ofChange fnSampleNextWrong)

/-- 'laws.FnExactManifestTotal': WHATEVER THE INPUT: true; the input reads as it did. -/
def fnExactManifestTotalSpec : ChangeSpec := { name := "fnExactManifestTotal", fn := fun _ => fun
  | [d] => { results := [.lit (.bool true)], args := [d] }
  | _ => none }
def fnExactManifestTotalRow : OpenClaim := { program := "ytnkjleipkfbhnaa", sum := "995f4c562475c4df76bec4dedcfc0f89c198f8070d5953757e707f899c840c90", func := "loop.example/tallyaudit/laws.FnExactManifestTotal", spec := "fnExactManifestTotal", apart := false }
def FnExactManifestTotalSaid : Prop := fnExactManifestTotalRow.holds Try.pinned (OpenSpec.ofChange fnExactManifestTotalSpec)

/-- ITS FALSE NEIGHBOUR: 'it returns false'. Refute it at one input. -/
def fnExactManifestTotalWrong : ChangeSpec := { name := "fnExactManifestTotal", fn := fun _ => fun
  | [d] => { results := [.lit (.bool false)], args := [d] }
  | _ => none }
def FnExactManifestTotalWrongFalsely : Prop := fnExactManifestTotalRow.holds Try.pinned (OpenSpec.ofChange fnExactManifestTotalWrong)

/-- 'laws.FnManifestTotal': WHATEVER THE INPUT: true; the input reads as it did. -/
def fnManifestTotalSpec : ChangeSpec := { name := "fnManifestTotal", fn := fun _ => fun
  | [d1, d2] => { results := [.lit (.bool true)], args := [d1, d2] }
  | _ => none }
def fnManifestTotalRow : OpenClaim := { program := "ytnkjleipkfbhnaa", sum := "995f4c562475c4df76bec4dedcfc0f89c198f8070d5953757e707f899c840c90", func := "loop.example/tallyaudit/laws.FnManifestTotal", spec := "fnManifestTotal", apart := false }
def FnManifestTotalSaid : Prop := fnManifestTotalRow.holds Try.pinned (OpenSpec.ofChange fnManifestTotalSpec)

/-- ITS FALSE NEIGHBOUR: 'it returns false'. Refute it at one input. -/
def fnManifestTotalWrong : ChangeSpec := { name := "fnManifestTotal", fn := fun _ => fun
  | [d1, d2] => { results := [.lit (.bool false)], args := [d1, d2] }
  | _ => none }
def FnManifestTotalWrongFalsely : Prop := fnManifestTotalRow.holds Try.pinned (OpenSpec.ofChange fnManifestTotalWrong)

/-- 'laws.FnExactManifestAt': WHATEVER THE INPUT: true; the input reads as it did. -/
def fnExactManifestAtSpec : ChangeSpec := { name := "fnExactManifestAt", fn := fun _ => fun
  | [d1, d2] => { results := [.lit (.bool true)], args := [d1, d2] }
  | _ => none }
def fnExactManifestAtRow : OpenClaim := { program := "ytnkjleipkfbhnaa", sum := "995f4c562475c4df76bec4dedcfc0f89c198f8070d5953757e707f899c840c90", func := "loop.example/tallyaudit/laws.FnExactManifestAt", spec := "fnExactManifestAt", apart := false }
def FnExactManifestAtSaid : Prop := fnExactManifestAtRow.holds Try.pinned (OpenSpec.ofChange fnExactManifestAtSpec)

/-- ITS FALSE NEIGHBOUR: 'it returns false'. Refute it at one input. -/
def fnExactManifestAtWrong : ChangeSpec := { name := "fnExactManifestAt", fn := fun _ => fun
  | [d1, d2] => { results := [.lit (.bool false)], args := [d1, d2] }
  | _ => none }
def FnExactManifestAtWrongFalsely : Prop := fnExactManifestAtRow.holds Try.pinned (OpenSpec.ofChange fnExactManifestAtWrong)

/-- 'laws.FnExactSampleOf': WHATEVER THE INPUT: true; the input reads as it did. -/
def fnExactSampleOfSpec : ChangeSpec := { name := "fnExactSampleOf", fn := fun _ => fun
  | [d1, d2, d3] => { results := [.lit (.bool true)], args := [d1, d2, d3] }
  | _ => none }
def fnExactSampleOfRow : OpenClaim := { program := "ytnkjleipkfbhnaa", sum := "995f4c562475c4df76bec4dedcfc0f89c198f8070d5953757e707f899c840c90", func := "loop.example/tallyaudit/laws.FnExactSampleOf", spec := "fnExactSampleOf", apart := false }
def FnExactSampleOfSaid : Prop := fnExactSampleOfRow.holds Try.pinned (OpenSpec.ofChange fnExactSampleOfSpec)

/-- ITS FALSE NEIGHBOUR: 'it returns false'. Refute it at one input. -/
def fnExactSampleOfWrong : ChangeSpec := { name := "fnExactSampleOf", fn := fun _ => fun
  | [d1, d2, d3] => { results := [.lit (.bool false)], args := [d1, d2, d3] }
  | _ => none }
def FnExactSampleOfWrongFalsely : Prop := fnExactSampleOfRow.holds Try.pinned (OpenSpec.ofChange fnExactSampleOfWrong)

/-- 'laws.FnManifestAt': WHATEVER THE INPUT: true; the input reads as it did. -/
def fnManifestAtSpec : ChangeSpec := { name := "fnManifestAt", fn := fun _ => fun
  | [d] => { results := [.lit (.bool true)], args := [d] }
  | _ => none }
def fnManifestAtRow : OpenClaim := { program := "ytnkjleipkfbhnaa", sum := "995f4c562475c4df76bec4dedcfc0f89c198f8070d5953757e707f899c840c90", func := "loop.example/tallyaudit/laws.FnManifestAt", spec := "fnManifestAt", apart := false }
def FnManifestAtSaid : Prop := fnManifestAtRow.holds Try.pinned (OpenSpec.ofChange fnManifestAtSpec)

/-- ITS FALSE NEIGHBOUR: 'it returns false'. Refute it at one input. -/
def fnManifestAtWrong : ChangeSpec := { name := "fnManifestAt", fn := fun _ => fun
  | [d] => { results := [.lit (.bool false)], args := [d] }
  | _ => none }
def FnManifestAtWrongFalsely : Prop := fnManifestAtRow.holds Try.pinned (OpenSpec.ofChange fnManifestAtWrong)

/-- 'laws.FnManifestNext': WHATEVER THE INPUT: true; the input reads as it did. -/
def fnManifestNextSpec : ChangeSpec := { name := "fnManifestNext", fn := fun _ => fun
  | [d] => { results := [.lit (.bool true)], args := [d] }
  | _ => none }
def fnManifestNextRow : OpenClaim := { program := "ytnkjleipkfbhnaa", sum := "995f4c562475c4df76bec4dedcfc0f89c198f8070d5953757e707f899c840c90", func := "loop.example/tallyaudit/laws.FnManifestNext", spec := "fnManifestNext", apart := false }
def FnManifestNextSaid : Prop := fnManifestNextRow.holds Try.pinned (OpenSpec.ofChange fnManifestNextSpec)

/-- ITS FALSE NEIGHBOUR: 'it returns false'. Refute it at one input. -/
def fnManifestNextWrong : ChangeSpec := { name := "fnManifestNext", fn := fun _ => fun
  | [d] => { results := [.lit (.bool false)], args := [d] }
  | _ => none }
def FnManifestNextWrongFalsely : Prop := fnManifestNextRow.holds Try.pinned (OpenSpec.ofChange fnManifestNextWrong)

/-- 'laws.FnSampleFirst': WHATEVER THE INPUT: true; the input reads as it did. -/
def fnSampleFirstSpec : ChangeSpec := { name := "fnSampleFirst", fn := fun _ => fun
  | [d] => { results := [.lit (.bool true)], args := [d] }
  | _ => none }
def fnSampleFirstRow : OpenClaim := { program := "ytnkjleipkfbhnaa", sum := "995f4c562475c4df76bec4dedcfc0f89c198f8070d5953757e707f899c840c90", func := "loop.example/tallyaudit/laws.FnSampleFirst", spec := "fnSampleFirst", apart := false }
def FnSampleFirstSaid : Prop := fnSampleFirstRow.holds Try.pinned (OpenSpec.ofChange fnSampleFirstSpec)

/-- ITS FALSE NEIGHBOUR: 'it returns false'. Refute it at one input. -/
def fnSampleFirstWrong : ChangeSpec := { name := "fnSampleFirst", fn := fun _ => fun
  | [d] => { results := [.lit (.bool false)], args := [d] }
  | _ => none }
def FnSampleFirstWrongFalsely : Prop := fnSampleFirstRow.holds Try.pinned (OpenSpec.ofChange fnSampleFirstWrong)

/-- 'laws.FnSampleMore': WHATEVER THE INPUT: true; the input reads as it did. -/
def fnSampleMoreSpec : ChangeSpec := { name := "fnSampleMore", fn := fun _ => fun
  | [d] => { results := [.lit (.bool true)], args := [d] }
  | _ => none }
def fnSampleMoreRow : OpenClaim := { program := "ytnkjleipkfbhnaa", sum := "995f4c562475c4df76bec4dedcfc0f89c198f8070d5953757e707f899c840c90", func := "loop.example/tallyaudit/laws.FnSampleMore", spec := "fnSampleMore", apart := false }
def FnSampleMoreSaid : Prop := fnSampleMoreRow.holds Try.pinned (OpenSpec.ofChange fnSampleMoreSpec)

/-- ITS FALSE NEIGHBOUR: 'it returns false'. Refute it at one input. -/
def fnSampleMoreWrong : ChangeSpec := { name := "fnSampleMore", fn := fun _ => fun
  | [d] => { results := [.lit (.bool false)], args := [d] }
  | _ => none }
def FnSampleMoreWrongFalsely : Prop := fnSampleMoreRow.holds Try.pinned (OpenSpec.ofChange fnSampleMoreWrong)

/-- 'laws.FnSample': WHATEVER THE INPUT: true; the input reads as it did. -/
def fnSampleSpec : ChangeSpec := { name := "fnSample", fn := fun _ => fun
  | [d] => { results := [.lit (.bool true)], args := [d] }
  | _ => none }
def fnSampleRow : OpenClaim := { program := "ytnkjleipkfbhnaa", sum := "995f4c562475c4df76bec4dedcfc0f89c198f8070d5953757e707f899c840c90", func := "loop.example/tallyaudit/laws.FnSample", spec := "fnSample", apart := false }
def FnSampleSaid : Prop := fnSampleRow.holds Try.pinned (OpenSpec.ofChange fnSampleSpec)

/-- ITS FALSE NEIGHBOUR: 'it returns false'. Refute it at one input. -/
def fnSampleWrong : ChangeSpec := { name := "fnSample", fn := fun _ => fun
  | [d] => { results := [.lit (.bool false)], args := [d] }
  | _ => none }
def FnSampleWrongFalsely : Prop := fnSampleRow.holds Try.pinned (OpenSpec.ofChange fnSampleWrong)

/- THE SECOND FORM. 'bulk': how many values and letters a reading holds, each counted each time it is reached (what is shared counts as often as it is met; a slice's spare places count too). A statement '..UptoSaid' is the law's where the arguments, and the package variables that the reading takes, are together of bulk at most 1048576: NARROWER than '..Said'. Prove '..Said' where nothing that the law and all that it calls make is longer than what came in: it says more and counts as full. Else prove '..UptoSaid'. A law counts once. -/
mutual
def uptoBulk {H : Type} : DataW H → Nat
  | .lit (.string bytes) => bytes.length + 1
  | .lit _ => 1
  | .nil => 1
  | .ptr d => uptoBulk d + 1
  | .slice elems spare => uptoBulkAll elems + uptoBulkAll spare + 1
  | .agg parts => uptoBulkAll parts + 1
  | .iface _ d => uptoBulk d + 1
  | .map entries => uptoBulkEntries entries + 1
  | .held _ => 1
def uptoBulkAll {H : Type} : List (DataW H) → Nat
  | [] => 0
  | d :: r => uptoBulk d + uptoBulkAll r
def uptoBulkEntries {H : Type} : List (Lit × DataW H) → Nat
  | [] => 0
  | x :: r => uptoBulkEntry x + uptoBulkEntries r
def uptoBulkEntry {H : Type} : Lit × DataW H → Nat
  | (.string bytes, d) => bytes.length + uptoBulk d + 1
  | (_, d) => uptoBulk d + 1
 end
def uptoSmall : (H : Type) → List (DataW H) → Bool := fun _ ds => decide (uptoBulkAll ds ≤ 1048576)
def OpenSpec.upto (s : _root_.Go.ChangeSpec) : _root_.Go.OpenSpec := { _root_.Go.OpenSpec.ofChange s with cond := some uptoSmall }

/-- 'laws.FnExactSampleNext', WHERE WHAT IT READS IS OF BULK AT MOST 1048576: true; the input reads as it did. -/
def fnExactSampleNextUptoRow : OpenClaim := { program := "ytnkjleipkfbhnaa", sum := "995f4c562475c4df76bec4dedcfc0f89c198f8070d5953757e707f899c840c90", func := "loop.example/tallyaudit/laws.FnExactSampleNext", spec := "fnExactSampleNext", apart := false, narrowed := true }
def FnExactSampleNextUptoSaid : Prop := fnExactSampleNextUptoRow.holds Try.pinned (OpenSpec.upto fnExactSampleNextSpec)

/-- 'laws.FnSampleNext', WHERE WHAT IT READS IS OF BULK AT MOST 1048576: true; the input reads as it did. -/
def fnSampleNextUptoRow : OpenClaim := { program := "ytnkjleipkfbhnaa", sum := "995f4c562475c4df76bec4dedcfc0f89c198f8070d5953757e707f899c840c90", func := "loop.example/tallyaudit/laws.FnSampleNext", spec := "fnSampleNext", apart := false, narrowed := true }
def FnSampleNextUptoSaid : Prop := fnSampleNextUptoRow.holds Try.pinned (OpenSpec.upto fnSampleNextSpec)

/-- 'laws.FnExactManifestTotal', WHERE WHAT IT READS IS OF BULK AT MOST 1048576: true; the input reads as it did. -/
def fnExactManifestTotalUptoRow : OpenClaim := { program := "ytnkjleipkfbhnaa", sum := "995f4c562475c4df76bec4dedcfc0f89c198f8070d5953757e707f899c840c90", func := "loop.example/tallyaudit/laws.FnExactManifestTotal", spec := "fnExactManifestTotal", apart := false, narrowed := true }
def FnExactManifestTotalUptoSaid : Prop := fnExactManifestTotalUptoRow.holds Try.pinned (OpenSpec.upto fnExactManifestTotalSpec)

/-- 'laws.FnManifestTotal', WHERE WHAT IT READS IS OF BULK AT MOST 1048576: true; the input reads as it did. -/
def fnManifestTotalUptoRow : OpenClaim := { program := "ytnkjleipkfbhnaa", sum := "995f4c562475c4df76bec4dedcfc0f89c198f8070d5953757e707f899c840c90", func := "loop.example/tallyaudit/laws.FnManifestTotal", spec := "fnManifestTotal", apart := false, narrowed := true }
def FnManifestTotalUptoSaid : Prop := fnManifestTotalUptoRow.holds Try.pinned (OpenSpec.upto fnManifestTotalSpec)

/-- 'laws.FnExactManifestAt', WHERE WHAT IT READS IS OF BULK AT MOST 1048576: true; the input reads as it did. -/
def fnExactManifestAtUptoRow : OpenClaim := { program := "ytnkjleipkfbhnaa", sum := "995f4c562475c4df76bec4dedcfc0f89c198f8070d5953757e707f899c840c90", func := "loop.example/tallyaudit/laws.FnExactManifestAt", spec := "fnExactManifestAt", apart := false, narrowed := true }
def FnExactManifestAtUptoSaid : Prop := fnExactManifestAtUptoRow.holds Try.pinned (OpenSpec.upto fnExactManifestAtSpec)

/-- 'laws.FnExactSampleOf', WHERE WHAT IT READS IS OF BULK AT MOST 1048576: true; the input reads as it did. -/
def fnExactSampleOfUptoRow : OpenClaim := { program := "ytnkjleipkfbhnaa", sum := "995f4c562475c4df76bec4dedcfc0f89c198f8070d5953757e707f899c840c90", func := "loop.example/tallyaudit/laws.FnExactSampleOf", spec := "fnExactSampleOf", apart := false, narrowed := true }
def FnExactSampleOfUptoSaid : Prop := fnExactSampleOfUptoRow.holds Try.pinned (OpenSpec.upto fnExactSampleOfSpec)

/-- 'laws.FnManifestAt', WHERE WHAT IT READS IS OF BULK AT MOST 1048576: true; the input reads as it did. -/
def fnManifestAtUptoRow : OpenClaim := { program := "ytnkjleipkfbhnaa", sum := "995f4c562475c4df76bec4dedcfc0f89c198f8070d5953757e707f899c840c90", func := "loop.example/tallyaudit/laws.FnManifestAt", spec := "fnManifestAt", apart := false, narrowed := true }
def FnManifestAtUptoSaid : Prop := fnManifestAtUptoRow.holds Try.pinned (OpenSpec.upto fnManifestAtSpec)

/-- 'laws.FnManifestNext', WHERE WHAT IT READS IS OF BULK AT MOST 1048576: true; the input reads as it did. -/
def fnManifestNextUptoRow : OpenClaim := { program := "ytnkjleipkfbhnaa", sum := "995f4c562475c4df76bec4dedcfc0f89c198f8070d5953757e707f899c840c90", func := "loop.example/tallyaudit/laws.FnManifestNext", spec := "fnManifestNext", apart := false, narrowed := true }
def FnManifestNextUptoSaid : Prop := fnManifestNextUptoRow.holds Try.pinned (OpenSpec.upto fnManifestNextSpec)

/-- 'laws.FnSampleFirst', WHERE WHAT IT READS IS OF BULK AT MOST 1048576: true; the input reads as it did. -/
def fnSampleFirstUptoRow : OpenClaim := { program := "ytnkjleipkfbhnaa", sum := "995f4c562475c4df76bec4dedcfc0f89c198f8070d5953757e707f899c840c90", func := "loop.example/tallyaudit/laws.FnSampleFirst", spec := "fnSampleFirst", apart := false, narrowed := true }
def FnSampleFirstUptoSaid : Prop := fnSampleFirstUptoRow.holds Try.pinned (OpenSpec.upto fnSampleFirstSpec)

/-- 'laws.FnSampleMore', WHERE WHAT IT READS IS OF BULK AT MOST 1048576: true; the input reads as it did. -/
def fnSampleMoreUptoRow : OpenClaim := { program := "ytnkjleipkfbhnaa", sum := "995f4c562475c4df76bec4dedcfc0f89c198f8070d5953757e707f899c840c90", func := "loop.example/tallyaudit/laws.FnSampleMore", spec := "fnSampleMore", apart := false, narrowed := true }
def FnSampleMoreUptoSaid : Prop := fnSampleMoreUptoRow.holds Try.pinned (OpenSpec.upto fnSampleMoreSpec)

/-- 'laws.FnSample', WHERE WHAT IT READS IS OF BULK AT MOST 1048576: true; the input reads as it did. -/
def fnSampleUptoRow : OpenClaim := { program := "ytnkjleipkfbhnaa", sum := "995f4c562475c4df76bec4dedcfc0f89c198f8070d5953757e707f899c840c90", func := "loop.example/tallyaudit/laws.FnSample", spec := "fnSample", apart := false, narrowed := true }
def FnSampleUptoSaid : Prop := fnSampleUptoRow.holds Try.pinned (OpenSpec.upto fnSampleSpec)

end Rows
end Go.Proofs.Ytnkjleipkfbhnaa
