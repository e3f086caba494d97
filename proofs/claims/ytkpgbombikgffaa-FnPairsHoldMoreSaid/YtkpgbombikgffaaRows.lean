/-
  No cell of these rows narrows 'for every input' (looked for: loops, veiled, ifaces, maps, wideKeys, modest, calm, conditions, laid).
  DERIVED. THE GIVEN ROWS OF THIS SEAT. 14 by the template 'for every input the law returns true; each argument reads behind the call as it read before'; 0 by the template 'total and deterministic' (their statements: YtkpgbombikgffaaTotals.lean).
  GIVEN WITH THE SEED: the statements are not yours to turn. If you find one false, say at which input.
  Laid BY PROGRAM, IN A SANDBOX (cutbox-rows.mjs): the forced cells as the released guide's own fill.sh prints them over the translation d64b24025485b797… (all of the seat's roots in one cut). By AI agents, Wed Nov 11 2026. No macro, syntax, notation, axiom, sorry.
-/
import Derived.Test.YtkpgbombikgffaaChecked
import GoSem.Claim
import GoSem.ClaimJoined
import GoSem.ClaimMapViews
import Derived.JoinedTies
import Derived.KernelRfl
namespace Go.Proofs.Ytkpgbombikgffaa
/- THE CELL 'sum', in the pinned program and in every row, IS THE sha256 OF THE DUMP (.gsa) THAT YtkpgbombikgffaaProg.lean LOADS. Nothing in Lean hashes anything: it is a label: what it is worth is what the hold of that sum in a sandbox is worth. -/
noncomputable def Try.pinned : Pinned := { name := "ytkpgbombikgffaa", sum := "d64b24025485b79704f3391a7d89038424aaeb50d19259ff6fb0b607fd0e9838", checked := Try.checked }
namespace Rows
def none {H : Type} : Left H := { results := [], args := [] }

/-- 'laws.FnPairsPart': WHATEVER THE INPUT: true; the input reads as it did. -/
def fnPairsPartSpec : ChangeSpec := { name := "fnPairsPart", fn := fun _ => fun
  | [d1, d2] => { results := [.lit (.bool true)], args := [d1, d2] }
  | _ => none }
def fnPairsPartRow : OpenClaim := { program := "ytkpgbombikgffaa", sum := "d64b24025485b79704f3391a7d89038424aaeb50d19259ff6fb0b607fd0e9838", func := "loop.example/tallyaudit/laws.FnPairsPart", spec := "fnPairsPart", apart := false }
def FnPairsPartSaid : Prop := fnPairsPartRow.holds Try.pinned (OpenSpec.ofChange fnPairsPartSpec)

/-- ITS FALSE NEIGHBOUR: 'it returns false'. Refute it at one input. -/
def fnPairsPartWrong : ChangeSpec := { name := "fnPairsPart", fn := fun _ => fun
  | [d1, d2] => { results := [.lit (.bool false)], args := [d1, d2] }
  | _ => none }
def FnPairsPartWrongFalsely : Prop := fnPairsPartRow.holds Try.pinned (OpenSpec.ofChange fnPairsPartWrong)

/-- 'laws.FnExactPairError': WHATEVER THE INPUT: true; the input reads as it did. -/
def fnExactPairErrorSpec : ChangeSpec := { name := "fnExactPairError", fn := fun _ => fun
  | [d1, d2, d3] => { results := [.lit (.bool true)], args := [d1, d2, d3] }
  | _ => none }
def fnExactPairErrorRow : OpenClaim := { program := "ytkpgbombikgffaa", sum := "d64b24025485b79704f3391a7d89038424aaeb50d19259ff6fb0b607fd0e9838", func := "loop.example/tallyaudit/laws.FnExactPairError", spec := "fnExactPairError", apart := false }
def FnExactPairErrorSaid : Prop := fnExactPairErrorRow.holds Try.pinned (OpenSpec.ofChange fnExactPairErrorSpec)

/-- ITS FALSE NEIGHBOUR: 'it returns false'. Refute it at one input. -/
def fnExactPairErrorWrong : ChangeSpec := { name := "fnExactPairError", fn := fun _ => fun
  | [d1, d2, d3] => { results := [.lit (.bool false)], args := [d1, d2, d3] }
  | _ => none }
def FnExactPairErrorWrongFalsely : Prop := fnExactPairErrorRow.holds Try.pinned (OpenSpec.ofChange fnExactPairErrorWrong)

/-- 'laws.FnExactPairsValid': WHATEVER THE INPUT: true; the input reads as it did. -/
def fnExactPairsValidSpec : ChangeSpec := { name := "fnExactPairsValid", fn := fun _ => fun
  | [d] => { results := [.lit (.bool true)], args := [d] }
  | _ => none }
def fnExactPairsValidRow : OpenClaim := { program := "ytkpgbombikgffaa", sum := "d64b24025485b79704f3391a7d89038424aaeb50d19259ff6fb0b607fd0e9838", func := "loop.example/tallyaudit/laws.FnExactPairsValid", spec := "fnExactPairsValid", apart := false }
def FnExactPairsValidSaid : Prop := fnExactPairsValidRow.holds Try.pinned (OpenSpec.ofChange fnExactPairsValidSpec)

/-- ITS FALSE NEIGHBOUR: 'it returns false'. Refute it at one input. -/
def fnExactPairsValidWrong : ChangeSpec := { name := "fnExactPairsValid", fn := fun _ => fun
  | [d] => { results := [.lit (.bool false)], args := [d] }
  | _ => none }
def FnExactPairsValidWrongFalsely : Prop := fnExactPairsValidRow.holds Try.pinned (OpenSpec.ofChange fnExactPairsValidWrong)

/-- 'laws.FnPairError': WHATEVER THE INPUT: true; the input reads as it did. -/
def fnPairErrorSpec : ChangeSpec := { name := "fnPairError", fn := fun _ => fun
  | [d] => { results := [.lit (.bool true)], args := [d] }
  | _ => none }
def fnPairErrorRow : OpenClaim := { program := "ytkpgbombikgffaa", sum := "d64b24025485b79704f3391a7d89038424aaeb50d19259ff6fb0b607fd0e9838", func := "loop.example/tallyaudit/laws.FnPairError", spec := "fnPairError", apart := false }
def FnPairErrorSaid : Prop := fnPairErrorRow.holds Try.pinned (OpenSpec.ofChange fnPairErrorSpec)

/-- ITS FALSE NEIGHBOUR: 'it returns false'. Refute it at one input. -/
def fnPairErrorWrong : ChangeSpec := { name := "fnPairError", fn := fun _ => fun
  | [d] => { results := [.lit (.bool false)], args := [d] }
  | _ => none }
def FnPairErrorWrongFalsely : Prop := fnPairErrorRow.holds Try.pinned (OpenSpec.ofChange fnPairErrorWrong)

/-- 'laws.FnPairErrorTwo': WHATEVER THE INPUT: true; the input reads as it did. -/
def fnPairErrorTwoSpec : ChangeSpec := { name := "fnPairErrorTwo", fn := fun _ => fun
  | [d] => { results := [.lit (.bool true)], args := [d] }
  | _ => none }
def fnPairErrorTwoRow : OpenClaim := { program := "ytkpgbombikgffaa", sum := "d64b24025485b79704f3391a7d89038424aaeb50d19259ff6fb0b607fd0e9838", func := "loop.example/tallyaudit/laws.FnPairErrorTwo", spec := "fnPairErrorTwo", apart := false }
def FnPairErrorTwoSaid : Prop := fnPairErrorTwoRow.holds Try.pinned (OpenSpec.ofChange fnPairErrorTwoSpec)

/-- ITS FALSE NEIGHBOUR: 'it returns false'. Refute it at one input. -/
def fnPairErrorTwoWrong : ChangeSpec := { name := "fnPairErrorTwo", fn := fun _ => fun
  | [d] => { results := [.lit (.bool false)], args := [d] }
  | _ => none }
def FnPairErrorTwoWrongFalsely : Prop := fnPairErrorTwoRow.holds Try.pinned (OpenSpec.ofChange fnPairErrorTwoWrong)

/-- 'laws.FnPairsWrong': WHATEVER THE INPUT: true; the input reads as it did. -/
def fnPairsWrongSpec : ChangeSpec := { name := "fnPairsWrong", fn := fun _ => fun
  | [d] => { results := [.lit (.bool true)], args := [d] }
  | _ => none }
def fnPairsWrongRow : OpenClaim := { program := "ytkpgbombikgffaa", sum := "d64b24025485b79704f3391a7d89038424aaeb50d19259ff6fb0b607fd0e9838", func := "loop.example/tallyaudit/laws.FnPairsWrong", spec := "fnPairsWrong", apart := false }
def FnPairsWrongSaid : Prop := fnPairsWrongRow.holds Try.pinned (OpenSpec.ofChange fnPairsWrongSpec)

/-- ITS FALSE NEIGHBOUR: 'it returns false'. Refute it at one input. -/
def fnPairsWrongWrong : ChangeSpec := { name := "fnPairsWrong", fn := fun _ => fun
  | [d] => { results := [.lit (.bool false)], args := [d] }
  | _ => none }
def FnPairsWrongWrongFalsely : Prop := fnPairsWrongRow.holds Try.pinned (OpenSpec.ofChange fnPairsWrongWrong)

/-- 'laws.FnPairsError': WHATEVER THE INPUT: true; the input reads as it did. -/
def fnPairsErrorSpec : ChangeSpec := { name := "fnPairsError", fn := fun _ => fun
  | [d1, d2] => { results := [.lit (.bool true)], args := [d1, d2] }
  | _ => none }
def fnPairsErrorRow : OpenClaim := { program := "ytkpgbombikgffaa", sum := "d64b24025485b79704f3391a7d89038424aaeb50d19259ff6fb0b607fd0e9838", func := "loop.example/tallyaudit/laws.FnPairsError", spec := "fnPairsError", apart := false }
def FnPairsErrorSaid : Prop := fnPairsErrorRow.holds Try.pinned (OpenSpec.ofChange fnPairsErrorSpec)

/-- ITS FALSE NEIGHBOUR: 'it returns false'. Refute it at one input. -/
def fnPairsErrorWrong : ChangeSpec := { name := "fnPairsError", fn := fun _ => fun
  | [d1, d2] => { results := [.lit (.bool false)], args := [d1, d2] }
  | _ => none }
def FnPairsErrorWrongFalsely : Prop := fnPairsErrorRow.holds Try.pinned (OpenSpec.ofChange fnPairsErrorWrong)

/-- 'laws.FnPairsErrorCounts': WHATEVER THE INPUT: true; the input reads as it did. -/
def fnPairsErrorCountsSpec : ChangeSpec := { name := "fnPairsErrorCounts", fn := fun _ => fun
  | [d] => { results := [.lit (.bool true)], args := [d] }
  | _ => none }
def fnPairsErrorCountsRow : OpenClaim := { program := "ytkpgbombikgffaa", sum := "d64b24025485b79704f3391a7d89038424aaeb50d19259ff6fb0b607fd0e9838", func := "loop.example/tallyaudit/laws.FnPairsErrorCounts", spec := "fnPairsErrorCounts", apart := false }
def FnPairsErrorCountsSaid : Prop := fnPairsErrorCountsRow.holds Try.pinned (OpenSpec.ofChange fnPairsErrorCountsSpec)

/-- ITS FALSE NEIGHBOUR: 'it returns false'. Refute it at one input. -/
def fnPairsErrorCountsWrong : ChangeSpec := { name := "fnPairsErrorCounts", fn := fun _ => fun
  | [d] => { results := [.lit (.bool false)], args := [d] }
  | _ => none }
def FnPairsErrorCountsWrongFalsely : Prop := fnPairsErrorCountsRow.holds Try.pinned (OpenSpec.ofChange fnPairsErrorCountsWrong)

/-- 'laws.FnExactPairsError': WHATEVER THE INPUT: true; the input reads as it did. -/
def fnExactPairsErrorSpec : ChangeSpec := { name := "fnExactPairsError", fn := fun _ => fun
  | [d1, d2, d3] => { results := [.lit (.bool true)], args := [d1, d2, d3] }
  | _ => none }
def fnExactPairsErrorRow : OpenClaim := { program := "ytkpgbombikgffaa", sum := "d64b24025485b79704f3391a7d89038424aaeb50d19259ff6fb0b607fd0e9838", func := "loop.example/tallyaudit/laws.FnExactPairsError", spec := "fnExactPairsError", apart := false }
def FnExactPairsErrorSaid : Prop := fnExactPairsErrorRow.holds Try.pinned (OpenSpec.ofChange fnExactPairsErrorSpec)

/-- ITS FALSE NEIGHBOUR: 'it returns false'. Refute it at one input. -/
def fnExactPairsErrorWrong : ChangeSpec := { name := "fnExactPairsError", fn := fun _ => fun
  | [d1, d2, d3] => { results := [.lit (.bool false)], args := [d1, d2, d3] }
  | _ => none }
def FnExactPairsErrorWrongFalsely : Prop := fnExactPairsErrorRow.holds Try.pinned (OpenSpec.ofChange fnExactPairsErrorWrong)

/-- 'laws.FnExactPairsWrong': WHATEVER THE INPUT: true; the input reads as it did. -/
def fnExactPairsWrongSpec : ChangeSpec := { name := "fnExactPairsWrong", fn := fun _ => fun
  | [d] => { results := [.lit (.bool true)], args := [d] }
  | _ => none }
def fnExactPairsWrongRow : OpenClaim := { program := "ytkpgbombikgffaa", sum := "d64b24025485b79704f3391a7d89038424aaeb50d19259ff6fb0b607fd0e9838", func := "loop.example/tallyaudit/laws.FnExactPairsWrong", spec := "fnExactPairsWrong", apart := false }
def FnExactPairsWrongSaid : Prop := fnExactPairsWrongRow.holds Try.pinned (OpenSpec.ofChange fnExactPairsWrongSpec)

/-- ITS FALSE NEIGHBOUR: 'it returns false'. Refute it at one input. -/
def fnExactPairsWrongWrong : ChangeSpec := { name := "fnExactPairsWrong", fn := fun _ => fun
  | [d] => { results := [.lit (.bool false)], args := [d] }
  | _ => none }
def FnExactPairsWrongWrongFalsely : Prop := fnExactPairsWrongRow.holds Try.pinned (OpenSpec.ofChange fnExactPairsWrongWrong)

/-- 'laws.FnExactPairsHold': WHATEVER THE INPUT: true; the input reads as it did. -/
def fnExactPairsHoldSpec : ChangeSpec := { name := "fnExactPairsHold", fn := fun _ => fun
  | [d1, d2, d3, d4, d5] => { results := [.lit (.bool true)], args := [d1, d2, d3, d4, d5] }
  | _ => none }
def fnExactPairsHoldRow : OpenClaim := { program := "ytkpgbombikgffaa", sum := "d64b24025485b79704f3391a7d89038424aaeb50d19259ff6fb0b607fd0e9838", func := "loop.example/tallyaudit/laws.FnExactPairsHold", spec := "fnExactPairsHold", apart := false }
def FnExactPairsHoldSaid : Prop := fnExactPairsHoldRow.holds Try.pinned (OpenSpec.ofChange fnExactPairsHoldSpec)

/-- ITS FALSE NEIGHBOUR: 'it returns false'. Refute it at one input. -/
def fnExactPairsHoldWrong : ChangeSpec := { name := "fnExactPairsHold", fn := fun _ => fun
  | [d1, d2, d3, d4, d5] => { results := [.lit (.bool false)], args := [d1, d2, d3, d4, d5] }
  | _ => none }
def FnExactPairsHoldWrongFalsely : Prop := fnExactPairsHoldRow.holds Try.pinned (OpenSpec.ofChange fnExactPairsHoldWrong)

/-- 'laws.FnPairsHold': WHATEVER THE INPUT: true; the input reads as it did. -/
def fnPairsHoldSpec : ChangeSpec := { name := "fnPairsHold", fn := fun _ => fun
  | [d] => { results := [.lit (.bool true)], args := [d] }
  | _ => none }
def fnPairsHoldRow : OpenClaim := { program := "ytkpgbombikgffaa", sum := "d64b24025485b79704f3391a7d89038424aaeb50d19259ff6fb0b607fd0e9838", func := "loop.example/tallyaudit/laws.FnPairsHold", spec := "fnPairsHold", apart := false }
def FnPairsHoldSaid : Prop := fnPairsHoldRow.holds Try.pinned (OpenSpec.ofChange fnPairsHoldSpec)

/-- ITS FALSE NEIGHBOUR: 'it returns false'. Refute it at one input. -/
def fnPairsHoldWrong : ChangeSpec := { name := "fnPairsHold", fn := fun _ => fun
  | [d] => { results := [.lit (.bool false)], args := [d] }
  | _ => none }
def FnPairsHoldWrongFalsely : Prop := fnPairsHoldRow.holds Try.pinned (OpenSpec.ofChange fnPairsHoldWrong)

/-- 'laws.FnPairsHoldMore': WHATEVER THE INPUT: true; the input reads as it did. -/
def fnPairsHoldMoreSpec : ChangeSpec := { name := "fnPairsHoldMore", fn := fun _ => fun
  | [d] => { results := [.lit (.bool true)], args := [d] }
  | _ => none }
def fnPairsHoldMoreRow : OpenClaim := { program := "ytkpgbombikgffaa", sum := "d64b24025485b79704f3391a7d89038424aaeb50d19259ff6fb0b607fd0e9838", func := "loop.example/tallyaudit/laws.FnPairsHoldMore", spec := "fnPairsHoldMore", apart := false }
def FnPairsHoldMoreSaid : Prop := fnPairsHoldMoreRow.holds Try.pinned (OpenSpec.ofChange fnPairsHoldMoreSpec)

/-- ITS FALSE NEIGHBOUR: 'it returns false'. Refute it at one input. -/
def fnPairsHoldMoreWrong : ChangeSpec := { name := "fnPairsHoldMore", fn := fun _ => fun
  | [d] => { results := [.lit (.bool false)], args := [d] }
  | _ => none }
def FnPairsHoldMoreWrongFalsely : Prop := fnPairsHoldMoreRow.holds Try.pinned (OpenSpec.ofChange fnPairsHoldMoreWrong)

/-- 'laws.FnExactPrecinctsValid': WHATEVER THE INPUT: true; the input reads as it did. -/
def fnExactPrecinctsValidSpec : ChangeSpec := { name := "fnExactPrecinctsValid", fn := fun _ => fun
  | [d] => { results := [.lit (.bool true)], args := [d] }
  | _ => none }
def fnExactPrecinctsValidRow : OpenClaim := { program := "ytkpgbombikgffaa", sum := "d64b24025485b79704f3391a7d89038424aaeb50d19259ff6fb0b607fd0e9838", func := "loop.example/tallyaudit/laws.FnExactPrecinctsValid", spec := "fnExactPrecinctsValid", apart := false }
def FnExactPrecinctsValidSaid : Prop := fnExactPrecinctsValidRow.holds Try.pinned (OpenSpec.ofChange fnExactPrecinctsValidSpec)

/-- ITS FALSE NEIGHBOUR: 'it returns false'. Refute it at one input. -/
def fnExactPrecinctsValidWrong : ChangeSpec := { name := "fnExactPrecinctsValid", fn := fun _ => fun
  | [d] => { results := [.lit (.bool false)], args := [d] }
  | _ => none }
def FnExactPrecinctsValidWrongFalsely : Prop := fnExactPrecinctsValidRow.holds Try.pinned (OpenSpec.ofChange fnExactPrecinctsValidWrong)

/- THE SECOND FORM. 'bulk': how many values and letters a reading holds, each counted each time it is reached (what is shared counts as often as it is met; a slice's spare places count too). A statement '..UptoSaid' is the law's where the arguments, and the package variables that the reading takes, are together of bulk at most 1048576: NARROWER than '..Said'. Prove '..Said' where nothing that the law and all that it calls make is longer than what came in: it says more and counts as full. Else prove '..UptoSaid'. A law counts once. -/
mutual
def uptoBulk {H : Type} : DataW H → Nat
  | .lit (.string bytes) => bytes.length + 1
  | .lit _ => 1
  | .nil => 1
  | .ptr d => uptoBulk d + 1
  | .slice elems spare => uptoBulkAll elems + uptoBulkAll spare + 1
  | .agg parts => uptoBulkAll parts + 1
  | .iface _ d => uptoBulk d + 1
  | .map entries => uptoBulkEntries entries + 1
  | .held _ => 1
def uptoBulkAll {H : Type} : List (DataW H) → Nat
  | [] => 0
  | d :: r => uptoBulk d + uptoBulkAll r
def uptoBulkEntries {H : Type} : List (Lit × DataW H) → Nat
  | [] => 0
  | x :: r => uptoBulkEntry x + uptoBulkEntries r
def uptoBulkEntry {H : Type} : Lit × DataW H → Nat
  | (.string bytes, d) => bytes.length + uptoBulk d + 1
  | (_, d) => uptoBulk d + 1
 end
def uptoSmall : (H : Type) → List (DataW H) → Bool := fun _ ds => decide (uptoBulkAll ds ≤ 1048576)
def OpenSpec.upto (s : _root_.Go.ChangeSpec) : _root_.Go.OpenSpec := { _root_.Go.OpenSpec.ofChange s with cond := some uptoSmall }

/-- 'laws.FnPairsPart', WHERE WHAT IT READS IS OF BULK AT MOST 1048576: true; the input reads as it did. -/
def fnPairsPartUptoRow : OpenClaim := { program := "ytkpgbombikgffaa", sum := "d64b24025485b79704f3391a7d89038424aaeb50d19259ff6fb0b607fd0e9838", func := "loop.example/tallyaudit/laws.FnPairsPart", spec := "fnPairsPart", apart := false, narrowed := true }
def FnPairsPartUptoSaid : Prop := fnPairsPartUptoRow.holds Try.pinned (OpenSpec.upto fnPairsPartSpec)

/-- 'laws.FnExactPairError', WHERE WHAT IT READS IS OF BULK AT MOST 1048576: true; the input reads as it did. -/
def fnExactPairErrorUptoRow : OpenClaim := { program := "ytkpgbombikgffaa", sum := "d64b24025485b79704f3391a7d89038424aaeb50d19259ff6fb0b607fd0e9838", func := "loop.example/tallyaudit/laws.FnExactPairError", spec := "fnExactPairError", apart := false, narrowed := true }
def FnExactPairErrorUptoSaid : Prop := fnExactPairErrorUptoRow.holds Try.pinned (OpenSpec.upto fnExactPairErrorSpec)

/-- 'laws.FnExactPairsValid', WHERE WHAT IT READS IS OF BULK AT MOST 1048576: true; the input reads as it did. -/
def fnExactPairsValidUptoRow : OpenClaim := { program := "ytkpgbombikgffaa", sum := "d64b24025485b79704f3391a7d89038424aaeb50d19259ff6fb0b607fd0e9838", func := "loop.example/tallyaudit/laws.FnExactPairsValid", spec := "fnExactPairsValid", apart := false, narrowed := true }
def FnExactPairsValidUptoSaid : Prop := fnExactPairsValidUptoRow.holds Try.pinned (OpenSpec.upto fnExactPairsValidSpec)

/-- 'laws.FnPairError', WHERE WHAT IT READS IS OF BULK AT MOST 1048576: true; the input reads as it did. -/
def fnPairErrorUptoRow : OpenClaim := { program := "ytkpgbombikgffaa", sum := "d64b24025485b79704f3391a7d89038424aaeb50d19259ff6fb0b607fd0e9838", func := "loop.example/tallyaudit/laws.FnPairError", spec := "fnPairError", apart := false, narrowed := true }
def FnPairErrorUptoSaid : Prop := fnPairErrorUptoRow.holds Try.pinned (OpenSpec.upto fnPairErrorSpec)

/-- 'laws.FnPairErrorTwo', WHERE WHAT IT READS IS OF BULK AT MOST 1048576: true; the input reads as it did. -/
def fnPairErrorTwoUptoRow : OpenClaim := { program := "ytkpgbombikgffaa", sum := "d64b24025485b79704f3391a7d89038424aaeb50d19259ff6fb0b607fd0e9838", func := "loop.example/tallyaudit/laws.FnPairErrorTwo", spec := "fnPairErrorTwo", apart := false, narrowed := true }
def FnPairErrorTwoUptoSaid : Prop := fnPairErrorTwoUptoRow.holds Try.pinned (OpenSpec.upto fnPairErrorTwoSpec)

/-- 'laws.FnPairsWrong', WHERE WHAT IT READS IS OF BULK AT MOST 1048576: true; the input reads as it did. -/
def fnPairsWrongUptoRow : OpenClaim := { program := "ytkpgbombikgffaa", sum := "d64b24025485b79704f3391a7d89038424aaeb50d19259ff6fb0b607fd0e9838", func := "loop.example/tallyaudit/laws.FnPairsWrong", spec := "fnPairsWrong", apart := false, narrowed := true }
def FnPairsWrongUptoSaid : Prop := fnPairsWrongUptoRow.holds Try.pinned (OpenSpec.upto fnPairsWrongSpec)

/-- 'laws.FnPairsError', WHERE WHAT IT READS IS OF BULK AT MOST 1048576: true; the input reads as it did. -/
def fnPairsErrorUptoRow : OpenClaim := { program := "ytkpgbombikgffaa", sum := "d64b24025485b79704f3391a7d89038424aaeb50d19259ff6fb0b607fd0e9838", func := "loop.example/tallyaudit/laws.FnPairsError", spec := "fnPairsError", apart := false, narrowed := true }
def FnPairsErrorUptoSaid : Prop := fnPairsErrorUptoRow.holds Try.pinned (OpenSpec.upto fnPairsErrorSpec)

/-- 'laws.FnPairsErrorCounts', WHERE WHAT IT READS IS OF BULK AT MOST 1048576: true; the input reads as it did. -/
def fnPairsErrorCountsUptoRow : OpenClaim := { program := "ytkpgbombikgffaa", sum := "d64b24025485b79704f3391a7d89038424aaeb50d19259ff6fb0b607fd0e9838", func := "loop.example/tallyaudit/laws.FnPairsErrorCounts", spec := "fnPairsErrorCounts", apart := false, narrowed := true }
def FnPairsErrorCountsUptoSaid : Prop := fnPairsErrorCountsUptoRow.holds Try.pinned (OpenSpec.upto fnPairsErrorCountsSpec)

/-- 'laws.FnExactPairsError', WHERE WHAT IT READS IS OF BULK AT MOST 1048576: true; the input reads as it did. -/
def fnExactPairsErrorUptoRow : OpenClaim := { program := "ytkpgbombikgffaa", sum := "d64b24025485b79704f3391a7d89038424aaeb50d19259ff6fb0b607fd0e9838", func := "loop.example/tallyaudit/laws.FnExactPairsError", spec := "fnExactPairsError", apart := false, narrowed := true }
def FnExactPairsErrorUptoSaid : Prop := fnExactPairsErrorUptoRow.holds Try.pinned (OpenSpec.upto fnExactPairsErrorSpec)

/-- 'laws.FnExactPairsWrong', WHERE WHAT IT READS IS OF BULK AT MOST 1048576: true; the input reads as it did. -/
def fnExactPairsWrongUptoRow : OpenClaim := { program := "ytkpgbombikgffaa", sum := "d64b24025485b79704f3391a7d89038424aaeb50d19259ff6fb0b607fd0e9838", func := "loop.example/tallyaudit/laws.FnExactPairsWrong", spec := "fnExactPairsWrong", apart := false, narrowed := true }
def FnExactPairsWrongUptoSaid : Prop := fnExactPairsWrongUptoRow.holds Try.pinned (OpenSpec.upto fnExactPairsWrongSpec)

/-- 'laws.FnExactPairsHold', WHERE WHAT IT READS IS OF BULK AT MOST 1048576: true; the input reads as it did. -/
def fnExactPairsHoldUptoRow : OpenClaim := { program := "ytkpgbombikgffaa", sum := "d64b24025485b79704f3391a7d89038424aaeb50d19259ff6fb0b607fd0e9838", func := "loop.example/tallyaudit/laws.FnExactPairsHold", spec := "fnExactPairsHold", apart := false, narrowed := true }
def FnExactPairsHoldUptoSaid : Prop := fnExactPairsHoldUptoRow.holds Try.pinned (OpenSpec.upto fnExactPairsHoldSpec)

/-- 'laws.FnPairsHold', WHERE WHAT IT READS IS OF BULK AT MOST 1048576: true; the input reads as it did. -/
def fnPairsHoldUptoRow : OpenClaim := { program := "ytkpgbombikgffaa", sum := "d64b24025485b79704f3391a7d89038424aaeb50d19259ff6fb0b607fd0e9838", func := "loop.example/tallyaudit/laws.FnPairsHold", spec := "fnPairsHold", apart := false, narrowed := true }
def FnPairsHoldUptoSaid : Prop := fnPairsHoldUptoRow.holds Try.pinned (OpenSpec.upto fnPairsHoldSpec)

/-- 'laws.FnPairsHoldMore', WHERE WHAT IT READS IS OF BULK AT MOST 1048576: true; the input reads as it did. -/
def fnPairsHoldMoreUptoRow : OpenClaim := { program := "ytkpgbombikgffaa", sum := "d64b24025485b79704f3391a7d89038424aaeb50d19259ff6fb0b607fd0e9838", func := "loop.example/tallyaudit/laws.FnPairsHoldMore", spec := "fnPairsHoldMore", apart := false, narrowed := true }
def FnPairsHoldMoreUptoSaid : Prop := fnPairsHoldMoreUptoRow.holds Try.pinned (OpenSpec.upto fnPairsHoldMoreSpec)

/-- 'laws.FnExactPrecinctsValid', WHERE WHAT IT READS IS OF BULK AT MOST 1048576: true; the input reads as it did. -/
def fnExactPrecinctsValidUptoRow : OpenClaim := { program := "ytkpgbombikgffaa", sum := "d64b24025485b79704f3391a7d89038424aaeb50d19259ff6fb0b607fd0e9838", func := "loop.example/tallyaudit/laws.FnExactPrecinctsValid", spec := "fnExactPrecinctsValid", apart := false, narrowed := true }
def FnExactPrecinctsValidUptoSaid : Prop := fnExactPrecinctsValidUptoRow.holds Try.pinned (OpenSpec.upto fnExactPrecinctsValidSpec)

end Rows
end Go.Proofs.Ytkpgbombikgffaa
