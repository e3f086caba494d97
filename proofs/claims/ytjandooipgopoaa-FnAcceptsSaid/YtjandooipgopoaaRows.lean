/-
  No cell of these rows narrows 'for every input' (looked for: loops, veiled, ifaces, maps, wideKeys, modest, calm, conditions, laid).
  DERIVED. THE GIVEN ROWS OF THIS SEAT. 15 by the template 'for every input the law returns true; each argument reads behind the call as it read before'; 0 by the template 'total and deterministic' (their statements: YtjandooipgopoaaTotals.lean).
  GIVEN WITH THE SEED: the statements are not yours to turn. If you find one false, say at which input.
  Laid BY PROGRAM, IN A SANDBOX (cutbox-rows.mjs): the forced cells as the released guide's own fill.sh prints them over the translation b34a7c3fe6779a1f… (all of the seat's roots in one cut). By AI agents, Wed Nov 11 2026. No macro, syntax, notation, axiom, sorry.
-/
import Derived.Test.YtjandooipgopoaaChecked
import GoSem.Claim
import GoSem.ClaimJoined
import GoSem.ClaimMapViews
import Derived.JoinedTies
import Derived.KernelRfl
namespace Go.Proofs.Ytjandooipgopoaa
/- THE CELL 'sum', in the pinned program and in every row, IS THE sha256 OF THE DUMP (.gsa) THAT YtjandooipgopoaaProg.lean LOADS. Nothing in Lean hashes anything: it is a label: what it is worth is what the hold of that sum in a sandbox is worth. -/
noncomputable def Try.pinned : Pinned := { name := "ytjandooipgopoaa", sum := "b34a7c3fe6779a1f615119fdc5a7de42141e82b4e581ef3dddca7b05bc4756d5", checked := Try.checked }
namespace Rows
def none {H : Type} : Left H := { results := [], args := [] }

/-- 'laws.FnExactChoose': WHATEVER THE INPUT: true; the input reads as it did. -/
def fnExactChooseSpec : ChangeSpec := { name := "fnExactChoose", fn := fun _ => fun
  | [d1, d2] => { results := [.lit (.bool true)], args := [d1, d2] }
  | _ => none }
def fnExactChooseRow : OpenClaim := { program := "ytjandooipgopoaa", sum := "b34a7c3fe6779a1f615119fdc5a7de42141e82b4e581ef3dddca7b05bc4756d5", func := "loop.example/tallyaudit/laws.FnExactChoose", spec := "fnExactChoose", apart := false }
def FnExactChooseSaid : Prop := fnExactChooseRow.holds Try.pinned (OpenSpec.ofChange fnExactChooseSpec)

/-- ITS FALSE NEIGHBOUR: 'it returns false'. Refute it at one input. -/
def fnExactChooseWrong : ChangeSpec := { name := "fnExactChoose", fn := fun _ => fun
  | [d1, d2] => { results := [.lit (.bool false)], args := [d1, d2] }
  | _ => none }
def FnExactChooseWrongFalsely : Prop := fnExactChooseRow.holds Try.pinned (OpenSpec.ofChange fnExactChooseWrong)

/-- 'laws.FnExactAuditWays': WHATEVER THE INPUT: true; the input reads as it did. -/
def fnExactAuditWaysSpec : ChangeSpec := { name := "fnExactAuditWays", fn := fun _ => fun
  | [d1, d2, d3, d4] => { results := [.lit (.bool true)], args := [d1, d2, d3, d4] }
  | _ => none }
def fnExactAuditWaysRow : OpenClaim := { program := "ytjandooipgopoaa", sum := "b34a7c3fe6779a1f615119fdc5a7de42141e82b4e581ef3dddca7b05bc4756d5", func := "loop.example/tallyaudit/laws.FnExactAuditWays", spec := "fnExactAuditWays", apart := false }
def FnExactAuditWaysSaid : Prop := fnExactAuditWaysRow.holds Try.pinned (OpenSpec.ofChange fnExactAuditWaysSpec)

/-- ITS FALSE NEIGHBOUR: 'it returns false'. Refute it at one input. -/
def fnExactAuditWaysWrong : ChangeSpec := { name := "fnExactAuditWays", fn := fun _ => fun
  | [d1, d2, d3, d4] => { results := [.lit (.bool false)], args := [d1, d2, d3, d4] }
  | _ => none }
def FnExactAuditWaysWrongFalsely : Prop := fnExactAuditWaysRow.holds Try.pinned (OpenSpec.ofChange fnExactAuditWaysWrong)

/-- 'laws.FnExactAuditRisk': WHATEVER THE INPUT: true; the input reads as it did. -/
def fnExactAuditRiskSpec : ChangeSpec := { name := "fnExactAuditRisk", fn := fun _ => fun
  | [d1, d2, d3] => { results := [.lit (.bool true)], args := [d1, d2, d3] }
  | _ => none }
def fnExactAuditRiskRow : OpenClaim := { program := "ytjandooipgopoaa", sum := "b34a7c3fe6779a1f615119fdc5a7de42141e82b4e581ef3dddca7b05bc4756d5", func := "loop.example/tallyaudit/laws.FnExactAuditRisk", spec := "fnExactAuditRisk", apart := false }
def FnExactAuditRiskSaid : Prop := fnExactAuditRiskRow.holds Try.pinned (OpenSpec.ofChange fnExactAuditRiskSpec)

/-- ITS FALSE NEIGHBOUR: 'it returns false'. Refute it at one input. -/
def fnExactAuditRiskWrong : ChangeSpec := { name := "fnExactAuditRisk", fn := fun _ => fun
  | [d1, d2, d3] => { results := [.lit (.bool false)], args := [d1, d2, d3] }
  | _ => none }
def FnExactAuditRiskWrongFalsely : Prop := fnExactAuditRiskRow.holds Try.pinned (OpenSpec.ofChange fnExactAuditRiskWrong)

/-- 'laws.FnChoose': WHATEVER THE INPUT: true; the input reads as it did. -/
def fnChooseSpec : ChangeSpec := { name := "fnChoose", fn := fun _ => fun
  | [d] => { results := [.lit (.bool true)], args := [d] }
  | _ => none }
def fnChooseRow : OpenClaim := { program := "ytjandooipgopoaa", sum := "b34a7c3fe6779a1f615119fdc5a7de42141e82b4e581ef3dddca7b05bc4756d5", func := "loop.example/tallyaudit/laws.FnChoose", spec := "fnChoose", apart := false }
def FnChooseSaid : Prop := fnChooseRow.holds Try.pinned (OpenSpec.ofChange fnChooseSpec)

/-- ITS FALSE NEIGHBOUR: 'it returns false'. Refute it at one input. -/
def fnChooseWrong : ChangeSpec := { name := "fnChoose", fn := fun _ => fun
  | [d] => { results := [.lit (.bool false)], args := [d] }
  | _ => none }
def FnChooseWrongFalsely : Prop := fnChooseRow.holds Try.pinned (OpenSpec.ofChange fnChooseWrong)

/-- 'laws.FnChooseSum': WHATEVER THE INPUT: true; the input reads as it did. -/
def fnChooseSumSpec : ChangeSpec := { name := "fnChooseSum", fn := fun _ => fun
  | [d] => { results := [.lit (.bool true)], args := [d] }
  | _ => none }
def fnChooseSumRow : OpenClaim := { program := "ytjandooipgopoaa", sum := "b34a7c3fe6779a1f615119fdc5a7de42141e82b4e581ef3dddca7b05bc4756d5", func := "loop.example/tallyaudit/laws.FnChooseSum", spec := "fnChooseSum", apart := false }
def FnChooseSumSaid : Prop := fnChooseSumRow.holds Try.pinned (OpenSpec.ofChange fnChooseSumSpec)

/-- ITS FALSE NEIGHBOUR: 'it returns false'. Refute it at one input. -/
def fnChooseSumWrong : ChangeSpec := { name := "fnChooseSum", fn := fun _ => fun
  | [d] => { results := [.lit (.bool false)], args := [d] }
  | _ => none }
def FnChooseSumWrongFalsely : Prop := fnChooseSumRow.holds Try.pinned (OpenSpec.ofChange fnChooseSumWrong)

/-- 'laws.FnExactAuditLimit': WHATEVER THE INPUT: true; the input reads as it did. -/
def fnExactAuditLimitSpec : ChangeSpec := { name := "fnExactAuditLimit", fn := fun _ => fun
  | [d1, d2, d3, d4] => { results := [.lit (.bool true)], args := [d1, d2, d3, d4] }
  | _ => none }
def fnExactAuditLimitRow : OpenClaim := { program := "ytjandooipgopoaa", sum := "b34a7c3fe6779a1f615119fdc5a7de42141e82b4e581ef3dddca7b05bc4756d5", func := "loop.example/tallyaudit/laws.FnExactAuditLimit", spec := "fnExactAuditLimit", apart := false }
def FnExactAuditLimitSaid : Prop := fnExactAuditLimitRow.holds Try.pinned (OpenSpec.ofChange fnExactAuditLimitSpec)

/-- ITS FALSE NEIGHBOUR: 'it returns false'. Refute it at one input. -/
def fnExactAuditLimitWrong : ChangeSpec := { name := "fnExactAuditLimit", fn := fun _ => fun
  | [d1, d2, d3, d4] => { results := [.lit (.bool false)], args := [d1, d2, d3, d4] }
  | _ => none }
def FnExactAuditLimitWrongFalsely : Prop := fnExactAuditLimitRow.holds Try.pinned (OpenSpec.ofChange fnExactAuditLimitWrong)

/-- 'laws.FnWaysMore': WHATEVER THE INPUT: true; the input reads as it did. -/
def fnWaysMoreSpec : ChangeSpec := { name := "fnWaysMore", fn := fun _ => fun
  | [d] => { results := [.lit (.bool true)], args := [d] }
  | _ => none }
def fnWaysMoreRow : OpenClaim := { program := "ytjandooipgopoaa", sum := "b34a7c3fe6779a1f615119fdc5a7de42141e82b4e581ef3dddca7b05bc4756d5", func := "loop.example/tallyaudit/laws.FnWaysMore", spec := "fnWaysMore", apart := false }
def FnWaysMoreSaid : Prop := fnWaysMoreRow.holds Try.pinned (OpenSpec.ofChange fnWaysMoreSpec)

/-- ITS FALSE NEIGHBOUR: 'it returns false'. Refute it at one input. -/
def fnWaysMoreWrong : ChangeSpec := { name := "fnWaysMore", fn := fun _ => fun
  | [d] => { results := [.lit (.bool false)], args := [d] }
  | _ => none }
def FnWaysMoreWrongFalsely : Prop := fnWaysMoreRow.holds Try.pinned (OpenSpec.ofChange fnWaysMoreWrong)

/-- 'laws.FnWays': WHATEVER THE INPUT: true; the input reads as it did. -/
def fnWaysSpec : ChangeSpec := { name := "fnWays", fn := fun _ => fun
  | [d] => { results := [.lit (.bool true)], args := [d] }
  | _ => none }
def fnWaysRow : OpenClaim := { program := "ytjandooipgopoaa", sum := "b34a7c3fe6779a1f615119fdc5a7de42141e82b4e581ef3dddca7b05bc4756d5", func := "loop.example/tallyaudit/laws.FnWays", spec := "fnWays", apart := false }
def FnWaysSaid : Prop := fnWaysRow.holds Try.pinned (OpenSpec.ofChange fnWaysSpec)

/-- ITS FALSE NEIGHBOUR: 'it returns false'. Refute it at one input. -/
def fnWaysWrong : ChangeSpec := { name := "fnWays", fn := fun _ => fun
  | [d] => { results := [.lit (.bool false)], args := [d] }
  | _ => none }
def FnWaysWrongFalsely : Prop := fnWaysRow.holds Try.pinned (OpenSpec.ofChange fnWaysWrong)

/-- 'laws.FnWaysStep': WHATEVER THE INPUT: true; the input reads as it did. -/
def fnWaysStepSpec : ChangeSpec := { name := "fnWaysStep", fn := fun _ => fun
  | [d] => { results := [.lit (.bool true)], args := [d] }
  | _ => none }
def fnWaysStepRow : OpenClaim := { program := "ytjandooipgopoaa", sum := "b34a7c3fe6779a1f615119fdc5a7de42141e82b4e581ef3dddca7b05bc4756d5", func := "loop.example/tallyaudit/laws.FnWaysStep", spec := "fnWaysStep", apart := false }
def FnWaysStepSaid : Prop := fnWaysStepRow.holds Try.pinned (OpenSpec.ofChange fnWaysStepSpec)

/-- ITS FALSE NEIGHBOUR: 'it returns false'. Refute it at one input. -/
def fnWaysStepWrong : ChangeSpec := { name := "fnWaysStep", fn := fun _ => fun
  | [d] => { results := [.lit (.bool false)], args := [d] }
  | _ => none }
def FnWaysStepWrongFalsely : Prop := fnWaysStepRow.holds Try.pinned (OpenSpec.ofChange fnWaysStepWrong)

/-- 'laws.FnRisk': WHATEVER THE INPUT: true; the input reads as it did. -/
def fnRiskSpec : ChangeSpec := { name := "fnRisk", fn := fun _ => fun
  | [d] => { results := [.lit (.bool true)], args := [d] }
  | _ => none }
def fnRiskRow : OpenClaim := { program := "ytjandooipgopoaa", sum := "b34a7c3fe6779a1f615119fdc5a7de42141e82b4e581ef3dddca7b05bc4756d5", func := "loop.example/tallyaudit/laws.FnRisk", spec := "fnRisk", apart := false }
def FnRiskSaid : Prop := fnRiskRow.holds Try.pinned (OpenSpec.ofChange fnRiskSpec)

/-- ITS FALSE NEIGHBOUR: 'it returns false'. Refute it at one input. -/
def fnRiskWrong : ChangeSpec := { name := "fnRisk", fn := fun _ => fun
  | [d] => { results := [.lit (.bool false)], args := [d] }
  | _ => none }
def FnRiskWrongFalsely : Prop := fnRiskRow.holds Try.pinned (OpenSpec.ofChange fnRiskWrong)

/-- 'laws.FnLimit': WHATEVER THE INPUT: true; the input reads as it did. -/
def fnLimitSpec : ChangeSpec := { name := "fnLimit", fn := fun _ => fun
  | [d] => { results := [.lit (.bool true)], args := [d] }
  | _ => none }
def fnLimitRow : OpenClaim := { program := "ytjandooipgopoaa", sum := "b34a7c3fe6779a1f615119fdc5a7de42141e82b4e581ef3dddca7b05bc4756d5", func := "loop.example/tallyaudit/laws.FnLimit", spec := "fnLimit", apart := false }
def FnLimitSaid : Prop := fnLimitRow.holds Try.pinned (OpenSpec.ofChange fnLimitSpec)

/-- ITS FALSE NEIGHBOUR: 'it returns false'. Refute it at one input. -/
def fnLimitWrong : ChangeSpec := { name := "fnLimit", fn := fun _ => fun
  | [d] => { results := [.lit (.bool false)], args := [d] }
  | _ => none }
def FnLimitWrongFalsely : Prop := fnLimitRow.holds Try.pinned (OpenSpec.ofChange fnLimitWrong)

/-- 'laws.FnLimitMore': WHATEVER THE INPUT: true; the input reads as it did. -/
def fnLimitMoreSpec : ChangeSpec := { name := "fnLimitMore", fn := fun _ => fun
  | [d] => { results := [.lit (.bool true)], args := [d] }
  | _ => none }
def fnLimitMoreRow : OpenClaim := { program := "ytjandooipgopoaa", sum := "b34a7c3fe6779a1f615119fdc5a7de42141e82b4e581ef3dddca7b05bc4756d5", func := "loop.example/tallyaudit/laws.FnLimitMore", spec := "fnLimitMore", apart := false }
def FnLimitMoreSaid : Prop := fnLimitMoreRow.holds Try.pinned (OpenSpec.ofChange fnLimitMoreSpec)

/-- ITS FALSE NEIGHBOUR: 'it returns false'. Refute it at one input. -/
def fnLimitMoreWrong : ChangeSpec := { name := "fnLimitMore", fn := fun _ => fun
  | [d] => { results := [.lit (.bool false)], args := [d] }
  | _ => none }
def FnLimitMoreWrongFalsely : Prop := fnLimitMoreRow.holds Try.pinned (OpenSpec.ofChange fnLimitMoreWrong)

/-- 'laws.FnLimitAll': WHATEVER THE INPUT: true; the input reads as it did. -/
def fnLimitAllSpec : ChangeSpec := { name := "fnLimitAll", fn := fun _ => fun
  | [d] => { results := [.lit (.bool true)], args := [d] }
  | _ => none }
def fnLimitAllRow : OpenClaim := { program := "ytjandooipgopoaa", sum := "b34a7c3fe6779a1f615119fdc5a7de42141e82b4e581ef3dddca7b05bc4756d5", func := "loop.example/tallyaudit/laws.FnLimitAll", spec := "fnLimitAll", apart := false }
def FnLimitAllSaid : Prop := fnLimitAllRow.holds Try.pinned (OpenSpec.ofChange fnLimitAllSpec)

/-- ITS FALSE NEIGHBOUR: 'it returns false'. Refute it at one input. -/
def fnLimitAllWrong : ChangeSpec := { name := "fnLimitAll", fn := fun _ => fun
  | [d] => { results := [.lit (.bool false)], args := [d] }
  | _ => none }
def FnLimitAllWrongFalsely : Prop := fnLimitAllRow.holds Try.pinned (OpenSpec.ofChange fnLimitAllWrong)

/-- 'laws.FnExactAuditAccepts': WHATEVER THE INPUT: true; the input reads as it did. -/
def fnExactAuditAcceptsSpec : ChangeSpec := { name := "fnExactAuditAccepts", fn := fun _ => fun
  | [d1, d2, d3, d4] => { results := [.lit (.bool true)], args := [d1, d2, d3, d4] }
  | _ => none }
def fnExactAuditAcceptsRow : OpenClaim := { program := "ytjandooipgopoaa", sum := "b34a7c3fe6779a1f615119fdc5a7de42141e82b4e581ef3dddca7b05bc4756d5", func := "loop.example/tallyaudit/laws.FnExactAuditAccepts", spec := "fnExactAuditAccepts", apart := false }
def FnExactAuditAcceptsSaid : Prop := fnExactAuditAcceptsRow.holds Try.pinned (OpenSpec.ofChange fnExactAuditAcceptsSpec)

/-- ITS FALSE NEIGHBOUR: 'it returns false'. Refute it at one input. -/
def fnExactAuditAcceptsWrong : ChangeSpec := { name := "fnExactAuditAccepts", fn := fun _ => fun
  | [d1, d2, d3, d4] => { results := [.lit (.bool false)], args := [d1, d2, d3, d4] }
  | _ => none }
def FnExactAuditAcceptsWrongFalsely : Prop := fnExactAuditAcceptsRow.holds Try.pinned (OpenSpec.ofChange fnExactAuditAcceptsWrong)

/-- 'laws.FnAccepts': WHATEVER THE INPUT: true; the input reads as it did. -/
def fnAcceptsSpec : ChangeSpec := { name := "fnAccepts", fn := fun _ => fun
  | [d] => { results := [.lit (.bool true)], args := [d] }
  | _ => none }
def fnAcceptsRow : OpenClaim := { program := "ytjandooipgopoaa", sum := "b34a7c3fe6779a1f615119fdc5a7de42141e82b4e581ef3dddca7b05bc4756d5", func := "loop.example/tallyaudit/laws.FnAccepts", spec := "fnAccepts", apart := false }
def FnAcceptsSaid : Prop := fnAcceptsRow.holds Try.pinned (OpenSpec.ofChange fnAcceptsSpec)

/-- ITS FALSE NEIGHBOUR: 'it returns false'. Refute it at one input. -/
def fnAcceptsWrong : ChangeSpec := { name := "fnAccepts", fn := fun _ => fun
  | [d] => { results := [.lit (.bool false)], args := [d] }
  | _ => none }
def FnAcceptsWrongFalsely : Prop := fnAcceptsRow.holds Try.pinned (OpenSpec.ofChange fnAcceptsWrong)

/- THE SECOND FORM. 'bulk': how many values and letters a reading holds, each counted each time it is reached (what is shared counts as often as it is met; a slice's spare places count too). A statement '..UptoSaid' is the law's where the arguments, and the package variables that the reading takes, are together of bulk at most 1048576: NARROWER than '..Said'. Prove '..Said' where nothing that the law and all that it calls make is longer than what came in: it says more and counts as full. Else prove '..UptoSaid'. A law counts once. -/
mutual
def uptoBulk {H : Type} : DataW H → Nat
  | .lit (.string bytes) => bytes.length + 1
  | .lit _ => 1
  | .nil => 1
  | .ptr d => uptoBulk d + 1
  | .slice elems spare => uptoBulkAll elems + uptoBulkAll spare + 1
  | .agg parts => uptoBulkAll parts + 1
  | .iface _ d => uptoBulk d + 1
  | .map entries => uptoBulkEntries entries + 1
  | .held _ => 1
def uptoBulkAll {H : Type} : List (DataW H) → Nat
  | [] => 0
  | d :: r => uptoBulk d + uptoBulkAll r
def uptoBulkEntries {H : Type} : List (Lit × DataW H) → Nat
  | [] => 0
  | x :: r => uptoBulkEntry x + uptoBulkEntries r
def uptoBulkEntry {H : Type} : Lit × DataW H → Nat
  | (.string bytes, d) => bytes.length + uptoBulk d + 1
  | (_, d) => uptoBulk d + 1
 end
def uptoSmall : (H : Type) → List (DataW H) → Bool := fun _ ds => decide (uptoBulkAll ds ≤ 1048576)
def OpenSpec.upto (s : _root_.Go.ChangeSpec) : _root_.Go.OpenSpec := { _root_.Go.OpenSpec.ofChange s with cond := some uptoSmall }

/-- 'laws.FnExactChoose', WHERE WHAT IT READS IS OF BULK AT MOST 1048576: true; the input reads as it did. -/
def fnExactChooseUptoRow : OpenClaim := { program := "ytjandooipgopoaa", sum := "b34a7c3fe6779a1f615119fdc5a7de42141e82b4e581ef3dddca7b05bc4756d5", func := "loop.example/tallyaudit/laws.FnExactChoose", spec := "fnExactChoose", apart := false, narrowed := true }
def FnExactChooseUptoSaid : Prop := fnExactChooseUptoRow.holds Try.pinned (OpenSpec.upto fnExactChooseSpec)

/-- 'laws.FnExactAuditWays', WHERE WHAT IT READS IS OF BULK AT MOST 1048576: true; the input reads as it did. -/
def fnExactAuditWaysUptoRow : OpenClaim := { program := "ytjandooipgopoaa", sum := "b34a7c3fe6779a1f615119fdc5a7de42141e82b4e581ef3dddca7b05bc4756d5", func := "loop.example/tallyaudit/laws.FnExactAuditWays", spec := "fnExactAuditWays", apart := false, narrowed := true }
def FnExactAuditWaysUptoSaid : Prop := fnExactAuditWaysUptoRow.holds Try.pinned (OpenSpec.upto fnExactAuditWaysSpec)

/-- 'laws.FnExactAuditRisk', WHERE WHAT IT READS IS OF BULK AT MOST 1048576: true; the input reads as it did. -/
def fnExactAuditRiskUptoRow : OpenClaim := { program := "ytjandooipgopoaa", sum := "b34a7c3fe6779a1f615119fdc5a7de42141e82b4e581ef3dddca7b05bc4756d5", func := "loop.example/tallyaudit/laws.FnExactAuditRisk", spec := "fnExactAuditRisk", apart := false, narrowed := true }
def FnExactAuditRiskUptoSaid : Prop := fnExactAuditRiskUptoRow.holds Try.pinned (OpenSpec.upto fnExactAuditRiskSpec)

/-- 'laws.FnChoose', WHERE WHAT IT READS IS OF BULK AT MOST 1048576: true; the input reads as it did. -/
def fnChooseUptoRow : OpenClaim := { program := "ytjandooipgopoaa", sum := "b34a7c3fe6779a1f615119fdc5a7de42141e82b4e581ef3dddca7b05bc4756d5", func := "loop.example/tallyaudit/laws.FnChoose", spec := "fnChoose", apart := false, narrowed := true }
def FnChooseUptoSaid : Prop := fnChooseUptoRow.holds Try.pinned (OpenSpec.upto fnChooseSpec)

/-- 'laws.FnChooseSum', WHERE WHAT IT READS IS OF BULK AT MOST 1048576: true; the input reads as it did. -/
def fnChooseSumUptoRow : OpenClaim := { program := "ytjandooipgopoaa", sum := "b34a7c3fe6779a1f615119fdc5a7de42141e82b4e581ef3dddca7b05bc4756d5", func := "loop.example/tallyaudit/laws.FnChooseSum", spec := "fnChooseSum", apart := false, narrowed := true }
def FnChooseSumUptoSaid : Prop := fnChooseSumUptoRow.holds Try.pinned (OpenSpec.upto fnChooseSumSpec)

/-- 'laws.FnExactAuditLimit', WHERE WHAT IT READS IS OF BULK AT MOST 1048576: true; the input reads as it did. -/
def fnExactAuditLimitUptoRow : OpenClaim := { program := "ytjandooipgopoaa", sum := "b34a7c3fe6779a1f615119fdc5a7de42141e82b4e581ef3dddca7b05bc4756d5", func := "loop.example/tallyaudit/laws.FnExactAuditLimit", spec := "fnExactAuditLimit", apart := false, narrowed := true }
def FnExactAuditLimitUptoSaid : Prop := fnExactAuditLimitUptoRow.holds Try.pinned (OpenSpec.upto fnExactAuditLimitSpec)

/-- 'laws.FnWaysMore', WHERE WHAT IT READS IS OF BULK AT MOST 1048576: true; the input reads as it did. -/
def fnWaysMoreUptoRow : OpenClaim := { program := "ytjandooipgopoaa", sum := "b34a7c3fe6779a1f615119fdc5a7de42141e82b4e581ef3dddca7b05bc4756d5", func := "loop.example/tallyaudit/laws.FnWaysMore", spec := "fnWaysMore", apart := false, narrowed := true }
def FnWaysMoreUptoSaid : Prop := fnWaysMoreUptoRow.holds Try.pinned (OpenSpec.upto fnWaysMoreSpec)

/-- 'laws.FnWays', WHERE WHAT IT READS IS OF BULK AT MOST 1048576: true; the input reads as it did. -/
def fnWaysUptoRow : OpenClaim := { program := "ytjandooipgopoaa", sum := "b34a7c3fe6779a1f615119fdc5a7de42141e82b4e581ef3dddca7b05bc4756d5", func := "loop.example/tallyaudit/laws.FnWays", spec := "fnWays", apart := false, narrowed := true }
def FnWaysUptoSaid : Prop := fnWaysUptoRow.holds Try.pinned (OpenSpec.upto fnWaysSpec)

/-- 'laws.FnWaysStep', WHERE WHAT IT READS IS OF BULK AT MOST 1048576: true; the input reads as it did. -/
def fnWaysStepUptoRow : OpenClaim := { program := "ytjandooipgopoaa", sum := "b34a7c3fe6779a1f615119fdc5a7de42141e82b4e581ef3dddca7b05bc4756d5", func := "loop.example/tallyaudit/laws.FnWaysStep", spec := "fnWaysStep", apart := false, narrowed := true }
def FnWaysStepUptoSaid : Prop := fnWaysStepUptoRow.holds Try.pinned (OpenSpec.upto fnWaysStepSpec)

/-- 'laws.FnRisk', WHERE WHAT IT READS IS OF BULK AT MOST 1048576: true; the input reads as it did. -/
def fnRiskUptoRow : OpenClaim := { program := "ytjandooipgopoaa", sum := "b34a7c3fe6779a1f615119fdc5a7de42141e82b4e581ef3dddca7b05bc4756d5", func := "loop.example/tallyaudit/laws.FnRisk", spec := "fnRisk", apart := false, narrowed := true }
def FnRiskUptoSaid : Prop := fnRiskUptoRow.holds Try.pinned (OpenSpec.upto fnRiskSpec)

/-- 'laws.FnLimit', WHERE WHAT IT READS IS OF BULK AT MOST 1048576: true; the input reads as it did. -/
def fnLimitUptoRow : OpenClaim := { program := "ytjandooipgopoaa", sum := "b34a7c3fe6779a1f615119fdc5a7de42141e82b4e581ef3dddca7b05bc4756d5", func := "loop.example/tallyaudit/laws.FnLimit", spec := "fnLimit", apart := false, narrowed := true }
def FnLimitUptoSaid : Prop := fnLimitUptoRow.holds Try.pinned (OpenSpec.upto fnLimitSpec)

/-- 'laws.FnLimitMore', WHERE WHAT IT READS IS OF BULK AT MOST 1048576: true; the input reads as it did. -/
def fnLimitMoreUptoRow : OpenClaim := { program := "ytjandooipgopoaa", sum := "b34a7c3fe6779a1f615119fdc5a7de42141e82b4e581ef3dddca7b05bc4756d5", func := "loop.example/tallyaudit/laws.FnLimitMore", spec := "fnLimitMore", apart := false, narrowed := true }
def FnLimitMoreUptoSaid : Prop := fnLimitMoreUptoRow.holds Try.pinned (OpenSpec.upto fnLimitMoreSpec)

/-- 'laws.FnLimitAll', WHERE WHAT IT READS IS OF BULK AT MOST 1048576: true; the input reads as it did. -/
def fnLimitAllUptoRow : OpenClaim := { program := "ytjandooipgopoaa", sum := "b34a7c3fe6779a1f615119fdc5a7de42141e82b4e581ef3dddca7b05bc4756d5", func := "loop.example/tallyaudit/laws.FnLimitAll", spec := "fnLimitAll", apart := false, narrowed := true }
def FnLimitAllUptoSaid : Prop := fnLimitAllUptoRow.holds Try.pinned (OpenSpec.upto fnLimitAllSpec)

/-- 'laws.FnExactAuditAccepts', WHERE WHAT IT READS IS OF BULK AT MOST 1048576: true; the input reads as it did. -/
def fnExactAuditAcceptsUptoRow : OpenClaim := { program := "ytjandooipgopoaa", sum := "b34a7c3fe6779a1f615119fdc5a7de42141e82b4e581ef3dddca7b05bc4756d5", func := "loop.example/tallyaudit/laws.FnExactAuditAccepts", spec := "fnExactAuditAccepts", apart := false, narrowed := true }
def FnExactAuditAcceptsUptoSaid : Prop := fnExactAuditAcceptsUptoRow.holds Try.pinned (OpenSpec.upto fnExactAuditAcceptsSpec)

/-- 'laws.FnAccepts', WHERE WHAT IT READS IS OF BULK AT MOST 1048576: true; the input reads as it did. -/
def fnAcceptsUptoRow : OpenClaim := { program := "ytjandooipgopoaa", sum := "b34a7c3fe6779a1f615119fdc5a7de42141e82b4e581ef3dddca7b05bc4756d5", func := "loop.example/tallyaudit/laws.FnAccepts", spec := "fnAccepts", apart := false, narrowed := true }
def FnAcceptsUptoSaid : Prop := fnAcceptsUptoRow.holds Try.pinned (OpenSpec.upto fnAcceptsSpec)

end Rows
end Go.Proofs.Ytjandooipgopoaa
