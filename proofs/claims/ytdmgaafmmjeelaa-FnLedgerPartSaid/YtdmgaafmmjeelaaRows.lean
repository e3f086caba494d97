/-
  No cell of these rows narrows 'for every input' (looked for: loops, veiled, ifaces, maps, wideKeys, modest, calm, conditions, laid).
  DERIVED. THE GIVEN ROWS OF THIS SEAT. 12 by the template 'for every input the law returns true; each argument reads behind the call as it read before'; 0 by the template 'total and deterministic' (their statements: YtdmgaafmmjeelaaTotals.lean).
  GIVEN WITH THE SEED: the statements are not yours to turn. If you find one false, say at which input.
  Laid BY PROGRAM, IN A SANDBOX (cutbox-rows.mjs): the forced cells as the released guide's own fill.sh prints them over the translation 83ba8622cd4447c5… (all of the seat's roots in one cut). By AI agents, Wed Nov 11 2026. No macro, syntax, notation, axiom, sorry.
-/
import Derived.Test.YtdmgaafmmjeelaaChecked
import GoSem.Claim
import GoSem.ClaimJoined
import GoSem.ClaimMapViews
import Derived.JoinedTies
import Derived.KernelRfl
namespace Go.Proofs.Ytdmgaafmmjeelaa
/- THE CELL 'sum', in the pinned program and in every row, IS THE sha256 OF THE DUMP (.gsa) THAT YtdmgaafmmjeelaaProg.lean LOADS. Nothing in Lean hashes anything: it is a label: what it is worth is what the hold of that sum in a sandbox is worth. -/
noncomputable def Try.pinned : Pinned := { name := "ytdmgaafmmjeelaa", sum := "83ba8622cd4447c509f5143bae17415de69cb706d0fe1c3a0f5845f78d0d2467", checked := Try.checked }
namespace Rows
def none {H : Type} : Left H := { results := [], args := [] }

/-- 'laws.FnExactLedgerValid': WHATEVER THE INPUT: true; the input reads as it did. -/
def fnExactLedgerValidSpec : ChangeSpec := { name := "fnExactLedgerValid", fn := fun _ => fun
  | [d] => { results := [.lit (.bool true)], args := [d] }
  | _ => none }
def fnExactLedgerValidRow : OpenClaim := { program := "ytdmgaafmmjeelaa", sum := "83ba8622cd4447c509f5143bae17415de69cb706d0fe1c3a0f5845f78d0d2467", func := "loop.example/tallyaudit/laws.FnExactLedgerValid", spec := "fnExactLedgerValid", apart := false }
def FnExactLedgerValidSaid : Prop := fnExactLedgerValidRow.holds Try.pinned (OpenSpec.ofChange fnExactLedgerValidSpec)

/-- ITS FALSE NEIGHBOUR: 'it returns false'. Refute it at one input. -/
def fnExactLedgerValidWrong : ChangeSpec := { name := "fnExactLedgerValid", fn := fun _ => fun
  | [d] => { results := [.lit (.bool false)], args := [d] }
  | _ => none }
def FnExactLedgerValidWrongFalsely : Prop := fnExactLedgerValidRow.holds Try.pinned (OpenSpec.ofChange fnExactLedgerValidWrong)

/-- 'laws.FnExactLedgerSealed': WHATEVER THE INPUT: true; the input reads as it did. -/
def fnExactLedgerSealedSpec : ChangeSpec := { name := "fnExactLedgerSealed", fn := fun _ => fun
  | [d1, d2] => { results := [.lit (.bool true)], args := [d1, d2] }
  | _ => none }
def fnExactLedgerSealedRow : OpenClaim := { program := "ytdmgaafmmjeelaa", sum := "83ba8622cd4447c509f5143bae17415de69cb706d0fe1c3a0f5845f78d0d2467", func := "loop.example/tallyaudit/laws.FnExactLedgerSealed", spec := "fnExactLedgerSealed", apart := false }
def FnExactLedgerSealedSaid : Prop := fnExactLedgerSealedRow.holds Try.pinned (OpenSpec.ofChange fnExactLedgerSealedSpec)

/-- ITS FALSE NEIGHBOUR: 'it returns false'. Refute it at one input. -/
def fnExactLedgerSealedWrong : ChangeSpec := { name := "fnExactLedgerSealed", fn := fun _ => fun
  | [d1, d2] => { results := [.lit (.bool false)], args := [d1, d2] }
  | _ => none }
def FnExactLedgerSealedWrongFalsely : Prop := fnExactLedgerSealedRow.holds Try.pinned (OpenSpec.ofChange fnExactLedgerSealedWrong)

/-- 'laws.FnSealed': WHATEVER THE INPUT: true; the input reads as it did. -/
def fnSealedSpec : ChangeSpec := { name := "fnSealed", fn := fun _ => fun
  | [d] => { results := [.lit (.bool true)], args := [d] }
  | _ => none }
def fnSealedRow : OpenClaim := { program := "ytdmgaafmmjeelaa", sum := "83ba8622cd4447c509f5143bae17415de69cb706d0fe1c3a0f5845f78d0d2467", func := "loop.example/tallyaudit/laws.FnSealed", spec := "fnSealed", apart := false }
def FnSealedSaid : Prop := fnSealedRow.holds Try.pinned (OpenSpec.ofChange fnSealedSpec)

/-- ITS FALSE NEIGHBOUR: 'it returns false'. Refute it at one input. -/
def fnSealedWrong : ChangeSpec := { name := "fnSealed", fn := fun _ => fun
  | [d] => { results := [.lit (.bool false)], args := [d] }
  | _ => none }
def FnSealedWrongFalsely : Prop := fnSealedRow.holds Try.pinned (OpenSpec.ofChange fnSealedWrong)

/-- 'laws.FnLedgerPart': WHATEVER THE INPUT: true; the input reads as it did. -/
def fnLedgerPartSpec : ChangeSpec := { name := "fnLedgerPart", fn := fun _ => fun
  | [d] => { results := [.lit (.bool true)], args := [d] }
  | _ => none }
def fnLedgerPartRow : OpenClaim := { program := "ytdmgaafmmjeelaa", sum := "83ba8622cd4447c509f5143bae17415de69cb706d0fe1c3a0f5845f78d0d2467", func := "loop.example/tallyaudit/laws.FnLedgerPart", spec := "fnLedgerPart", unfollowed := true, recurses := true, apart := false }
def FnLedgerPartSaid : Prop := fnLedgerPartRow.holds Try.pinned (OpenSpec.ofChange fnLedgerPartSpec)

/-- ITS FALSE NEIGHBOUR: 'it returns false'. Refute it at one input. -/
def fnLedgerPartWrong : ChangeSpec := { name := "fnLedgerPart", fn := fun _ => fun
  | [d] => { results := [.lit (.bool false)], args := [d] }
  | _ => none }
def FnLedgerPartWrongFalsely : Prop := fnLedgerPartRow.holds Try.pinned (OpenSpec.ofChange fnLedgerPartWrong)

/-- 'laws.FnSealedOther': WHATEVER THE INPUT: true; the input reads as it did. -/
def fnSealedOtherSpec : ChangeSpec := { name := "fnSealedOther", fn := fun _ => fun
  | [d] => { results := [.lit (.bool true)], args := [d] }
  | _ => none }
def fnSealedOtherRow : OpenClaim := { program := "ytdmgaafmmjeelaa", sum := "83ba8622cd4447c509f5143bae17415de69cb706d0fe1c3a0f5845f78d0d2467", func := "loop.example/tallyaudit/laws.FnSealedOther", spec := "fnSealedOther", apart := false }
def FnSealedOtherSaid : Prop := fnSealedOtherRow.holds Try.pinned (OpenSpec.ofChange fnSealedOtherSpec)

/-- ITS FALSE NEIGHBOUR: 'it returns false'. Refute it at one input. -/
def fnSealedOtherWrong : ChangeSpec := { name := "fnSealedOther", fn := fun _ => fun
  | [d] => { results := [.lit (.bool false)], args := [d] }
  | _ => none }
def FnSealedOtherWrongFalsely : Prop := fnSealedOtherRow.holds Try.pinned (OpenSpec.ofChange fnSealedOtherWrong)

/-- 'laws.FnExactLedgerCount': WHATEVER THE INPUT: true; the input reads as it did. -/
def fnExactLedgerCountSpec : ChangeSpec := { name := "fnExactLedgerCount", fn := fun _ => fun
  | [d] => { results := [.lit (.bool true)], args := [d] }
  | _ => none }
def fnExactLedgerCountRow : OpenClaim := { program := "ytdmgaafmmjeelaa", sum := "83ba8622cd4447c509f5143bae17415de69cb706d0fe1c3a0f5845f78d0d2467", func := "loop.example/tallyaudit/laws.FnExactLedgerCount", spec := "fnExactLedgerCount", unfollowed := true, recurses := true, apart := false }
def FnExactLedgerCountSaid : Prop := fnExactLedgerCountRow.holds Try.pinned (OpenSpec.ofChange fnExactLedgerCountSpec)

/-- ITS FALSE NEIGHBOUR: 'it returns false'. Refute it at one input. -/
def fnExactLedgerCountWrong : ChangeSpec := { name := "fnExactLedgerCount", fn := fun _ => fun
  | [d] => { results := [.lit (.bool false)], args := [d] }
  | _ => none }
def FnExactLedgerCountWrongFalsely : Prop := fnExactLedgerCountRow.holds Try.pinned (OpenSpec.ofChange fnExactLedgerCountWrong)

/-- 'laws.FnGaps': WHATEVER THE INPUT: true; the input reads as it did. -/
def fnGapsSpec : ChangeSpec := { name := "fnGaps", fn := fun _ => fun
  | [d] => { results := [.lit (.bool true)], args := [d] }
  | _ => none }
def fnGapsRow : OpenClaim := { program := "ytdmgaafmmjeelaa", sum := "83ba8622cd4447c509f5143bae17415de69cb706d0fe1c3a0f5845f78d0d2467", func := "loop.example/tallyaudit/laws.FnGaps", spec := "fnGaps", apart := false }
def FnGapsSaid : Prop := fnGapsRow.holds Try.pinned (OpenSpec.ofChange fnGapsSpec)

/-- ITS FALSE NEIGHBOUR: 'it returns false'. Refute it at one input. -/
def fnGapsWrong : ChangeSpec := { name := "fnGaps", fn := fun _ => fun
  | [d] => { results := [.lit (.bool false)], args := [d] }
  | _ => none }
def FnGapsWrongFalsely : Prop := fnGapsRow.holds Try.pinned (OpenSpec.ofChange fnGapsWrong)

/-- 'laws.FnGapsBegin': WHATEVER THE INPUT: true; the input reads as it did. -/
def fnGapsBeginSpec : ChangeSpec := { name := "fnGapsBegin", fn := fun _ => fun
  | [d1, d2] => { results := [.lit (.bool true)], args := [d1, d2] }
  | _ => none }
def fnGapsBeginRow : OpenClaim := { program := "ytdmgaafmmjeelaa", sum := "83ba8622cd4447c509f5143bae17415de69cb706d0fe1c3a0f5845f78d0d2467", func := "loop.example/tallyaudit/laws.FnGapsBegin", spec := "fnGapsBegin", apart := false }
def FnGapsBeginSaid : Prop := fnGapsBeginRow.holds Try.pinned (OpenSpec.ofChange fnGapsBeginSpec)

/-- ITS FALSE NEIGHBOUR: 'it returns false'. Refute it at one input. -/
def fnGapsBeginWrong : ChangeSpec := { name := "fnGapsBegin", fn := fun _ => fun
  | [d1, d2] => { results := [.lit (.bool false)], args := [d1, d2] }
  | _ => none }
def FnGapsBeginWrongFalsely : Prop := fnGapsBeginRow.holds Try.pinned (OpenSpec.ofChange fnGapsBeginWrong)

/-- 'laws.FnGapsNone': WHATEVER THE INPUT: true; the input reads as it did. -/
def fnGapsNoneSpec : ChangeSpec := { name := "fnGapsNone", fn := fun _ => fun
  | [d] => { results := [.lit (.bool true)], args := [d] }
  | _ => none }
def fnGapsNoneRow : OpenClaim := { program := "ytdmgaafmmjeelaa", sum := "83ba8622cd4447c509f5143bae17415de69cb706d0fe1c3a0f5845f78d0d2467", func := "loop.example/tallyaudit/laws.FnGapsNone", spec := "fnGapsNone", apart := false }
def FnGapsNoneSaid : Prop := fnGapsNoneRow.holds Try.pinned (OpenSpec.ofChange fnGapsNoneSpec)

/-- ITS FALSE NEIGHBOUR: 'it returns false'. Refute it at one input. -/
def fnGapsNoneWrong : ChangeSpec := { name := "fnGapsNone", fn := fun _ => fun
  | [d] => { results := [.lit (.bool false)], args := [d] }
  | _ => none }
def FnGapsNoneWrongFalsely : Prop := fnGapsNoneRow.holds Try.pinned (OpenSpec.ofChange fnGapsNoneWrong)

/-- 'laws.FnGapsSeal': WHATEVER THE INPUT: true; the input reads as it did. -/
def fnGapsSealSpec : ChangeSpec := { name := "fnGapsSeal", fn := fun _ => fun
  | [d] => { results := [.lit (.bool true)], args := [d] }
  | _ => none }
def fnGapsSealRow : OpenClaim := { program := "ytdmgaafmmjeelaa", sum := "83ba8622cd4447c509f5143bae17415de69cb706d0fe1c3a0f5845f78d0d2467", func := "loop.example/tallyaudit/laws.FnGapsSeal", spec := "fnGapsSeal", apart := false }
def FnGapsSealSaid : Prop := fnGapsSealRow.holds Try.pinned (OpenSpec.ofChange fnGapsSealSpec)

/-- ITS FALSE NEIGHBOUR: 'it returns false'. Refute it at one input. -/
def fnGapsSealWrong : ChangeSpec := { name := "fnGapsSeal", fn := fun _ => fun
  | [d] => { results := [.lit (.bool false)], args := [d] }
  | _ => none }
def FnGapsSealWrongFalsely : Prop := fnGapsSealRow.holds Try.pinned (OpenSpec.ofChange fnGapsSealWrong)

/-- 'laws.FnExactLedgerGaps': WHATEVER THE INPUT: true; the input reads as it did. -/
def fnExactLedgerGapsSpec : ChangeSpec := { name := "fnExactLedgerGaps", fn := fun _ => fun
  | [d] => { results := [.lit (.bool true)], args := [d] }
  | _ => none }
def fnExactLedgerGapsRow : OpenClaim := { program := "ytdmgaafmmjeelaa", sum := "83ba8622cd4447c509f5143bae17415de69cb706d0fe1c3a0f5845f78d0d2467", func := "loop.example/tallyaudit/laws.FnExactLedgerGaps", spec := "fnExactLedgerGaps", apart := false }
def FnExactLedgerGapsSaid : Prop := fnExactLedgerGapsRow.holds Try.pinned (OpenSpec.ofChange fnExactLedgerGapsSpec)

/-- ITS FALSE NEIGHBOUR: 'it returns false'. Refute it at one input. -/
def fnExactLedgerGapsWrong : ChangeSpec := { name := "fnExactLedgerGaps", fn := fun _ => fun
  | [d] => { results := [.lit (.bool false)], args := [d] }
  | _ => none }
def FnExactLedgerGapsWrongFalsely : Prop := fnExactLedgerGapsRow.holds Try.pinned (OpenSpec.ofChange fnExactLedgerGapsWrong)

/-- 'laws.FnLedgerCount': WHATEVER THE INPUT: true; the input reads as it did. -/
def fnLedgerCountSpec : ChangeSpec := { name := "fnLedgerCount", fn := fun _ => fun
  | [d] => { results := [.lit (.bool true)], args := [d] }
  | _ => none }
def fnLedgerCountRow : OpenClaim := { program := "ytdmgaafmmjeelaa", sum := "83ba8622cd4447c509f5143bae17415de69cb706d0fe1c3a0f5845f78d0d2467", func := "loop.example/tallyaudit/laws.FnLedgerCount", spec := "fnLedgerCount", unfollowed := true, recurses := true, apart := false }
def FnLedgerCountSaid : Prop := fnLedgerCountRow.holds Try.pinned (OpenSpec.ofChange fnLedgerCountSpec)

/-- ITS FALSE NEIGHBOUR: 'it returns false'. Refute it at one input. -/
def fnLedgerCountWrong : ChangeSpec := { name := "fnLedgerCount", fn := fun _ => fun
  | [d] => { results := [.lit (.bool false)], args := [d] }
  | _ => none }
def FnLedgerCountWrongFalsely : Prop := fnLedgerCountRow.holds Try.pinned (OpenSpec.ofChange fnLedgerCountWrong)

/- THE SECOND FORM. 'bulk': how many values and letters a reading holds, each counted each time it is reached (what is shared counts as often as it is met; a slice's spare places count too). A statement '..UptoSaid' is the law's where the arguments, and the package variables that the reading takes, are together of bulk at most 1048576: NARROWER than '..Said'. Prove '..Said' where nothing that the law and all that it calls make is longer than what came in: it says more and counts as full. Else prove '..UptoSaid'. A law counts once. -/
mutual
def uptoBulk {H : Type} : DataW H → Nat
  | .lit (.string bytes) => bytes.length + 1
  | .lit _ => 1
  | .nil => 1
  | .ptr d => uptoBulk d + 1
  | .slice elems spare => uptoBulkAll elems + uptoBulkAll spare + 1
  | .agg parts => uptoBulkAll parts + 1
  | .iface _ d => uptoBulk d + 1
  | .map entries => uptoBulkEntries entries + 1
  | .held _ => 1
def uptoBulkAll {H : Type} : List (DataW H) → Nat
  | [] => 0
  | d :: r => uptoBulk d + uptoBulkAll r
def uptoBulkEntries {H : Type} : List (Lit × DataW H) → Nat
  | [] => 0
  | x :: r => uptoBulkEntry x + uptoBulkEntries r
def uptoBulkEntry {H : Type} : Lit × DataW H → Nat
  | (.string bytes, d) => bytes.length + uptoBulk d + 1
  | (_, d) => uptoBulk d + 1
 end
def uptoSmall : (H : Type) → List (DataW H) → Bool := fun _ ds => decide (uptoBulkAll ds ≤ 1048576)
def OpenSpec.upto (s : _root_.Go.ChangeSpec) : _root_.Go.OpenSpec := { _root_.Go.OpenSpec.ofChange s with cond := some uptoSmall }

/-- 'laws.FnExactLedgerValid', WHERE WHAT IT READS IS OF BULK AT MOST 1048576: true; the input reads as it did. -/
def fnExactLedgerValidUptoRow : OpenClaim := { program := "ytdmgaafmmjeelaa", sum := "83ba8622cd4447c509f5143bae17415de69cb706d0fe1c3a0f5845f78d0d2467", func := "loop.example/tallyaudit/laws.FnExactLedgerValid", spec := "fnExactLedgerValid", apart := false, narrowed := true }
def FnExactLedgerValidUptoSaid : Prop := fnExactLedgerValidUptoRow.holds Try.pinned (OpenSpec.upto fnExactLedgerValidSpec)

/-- 'laws.FnExactLedgerSealed', WHERE WHAT IT READS IS OF BULK AT MOST 1048576: true; the input reads as it did. -/
def fnExactLedgerSealedUptoRow : OpenClaim := { program := "ytdmgaafmmjeelaa", sum := "83ba8622cd4447c509f5143bae17415de69cb706d0fe1c3a0f5845f78d0d2467", func := "loop.example/tallyaudit/laws.FnExactLedgerSealed", spec := "fnExactLedgerSealed", apart := false, narrowed := true }
def FnExactLedgerSealedUptoSaid : Prop := fnExactLedgerSealedUptoRow.holds Try.pinned (OpenSpec.upto fnExactLedgerSealedSpec)

/-- 'laws.FnSealed', WHERE WHAT IT READS IS OF BULK AT MOST 1048576: true; the input reads as it did. -/
def fnSealedUptoRow : OpenClaim := { program := "ytdmgaafmmjeelaa", sum := "83ba8622cd4447c509f5143bae17415de69cb706d0fe1c3a0f5845f78d0d2467", func := "loop.example/tallyaudit/laws.FnSealed", spec := "fnSealed", apart := false, narrowed := true }
def FnSealedUptoSaid : Prop := fnSealedUptoRow.holds Try.pinned (OpenSpec.upto fnSealedSpec)

/-- 'laws.FnLedgerPart', WHERE WHAT IT READS IS OF BULK AT MOST 1048576: true; the input reads as it did. -/
def fnLedgerPartUptoRow : OpenClaim := { program := "ytdmgaafmmjeelaa", sum := "83ba8622cd4447c509f5143bae17415de69cb706d0fe1c3a0f5845f78d0d2467", func := "loop.example/tallyaudit/laws.FnLedgerPart", spec := "fnLedgerPart", unfollowed := true, recurses := true, apart := false, narrowed := true }
def FnLedgerPartUptoSaid : Prop := fnLedgerPartUptoRow.holds Try.pinned (OpenSpec.upto fnLedgerPartSpec)

/-- 'laws.FnSealedOther', WHERE WHAT IT READS IS OF BULK AT MOST 1048576: true; the input reads as it did. -/
def fnSealedOtherUptoRow : OpenClaim := { program := "ytdmgaafmmjeelaa", sum := "83ba8622cd4447c509f5143bae17415de69cb706d0fe1c3a0f5845f78d0d2467", func := "loop.example/tallyaudit/laws.FnSealedOther", spec := "fnSealedOther", apart := false, narrowed := true }
def FnSealedOtherUptoSaid : Prop := fnSealedOtherUptoRow.holds Try.pinned (OpenSpec.upto fnSealedOtherSpec)

/-- 'laws.FnExactLedgerCount', WHERE WHAT IT READS IS OF BULK AT MOST 1048576: true; the input reads as it did. -/
def fnExactLedgerCountUptoRow : OpenClaim := { program := "ytdmgaafmmjeelaa", sum := "83ba8622cd4447c509f5143bae17415de69cb706d0fe1c3a0f5845f78d0d2467", func := "loop.example/tallyaudit/laws.FnExactLedgerCount", spec := "fnExactLedgerCount", unfollowed := true, recurses := true, apart := false, narrowed := true }
def FnExactLedgerCountUptoSaid : Prop := fnExactLedgerCountUptoRow.holds Try.pinned (OpenSpec.upto fnExactLedgerCountSpec)

/-- 'laws.FnGaps', WHERE WHAT IT READS IS OF BULK AT MOST 1048576: true; the input reads as it did. -/
def fnGapsUptoRow : OpenClaim := { program := "ytdmgaafmmjeelaa", sum := "83ba8622cd4447c509f5143bae17415de69cb706d0fe1c3a0f5845f78d0d2467", func := "loop.example/tallyaudit/laws.FnGaps", spec := "fnGaps", apart := false, narrowed := true }
def FnGapsUptoSaid : Prop := fnGapsUptoRow.holds Try.pinned (OpenSpec.upto fnGapsSpec)

/-- 'laws.FnGapsBegin', WHERE WHAT IT READS IS OF BULK AT MOST 1048576: true; the input reads as it did. -/
def fnGapsBeginUptoRow : OpenClaim := { program := "ytdmgaafmmjeelaa", sum := "83ba8622cd4447c509f5143bae17415de69cb706d0fe1c3a0f5845f78d0d2467", func := "loop.example/tallyaudit/laws.FnGapsBegin", spec := "fnGapsBegin", apart := false, narrowed := true }
def FnGapsBeginUptoSaid : Prop := fnGapsBeginUptoRow.holds Try.pinned (OpenSpec.upto fnGapsBeginSpec)

/-- 'laws.FnGapsNone', WHERE WHAT IT READS IS OF BULK AT MOST 1048576: true; the input reads as it did. -/
def fnGapsNoneUptoRow : OpenClaim := { program := "ytdmgaafmmjeelaa", sum := "83ba8622cd4447c509f5143bae17415de69cb706d0fe1c3a0f5845f78d0d2467", func := "loop.example/tallyaudit/laws.FnGapsNone", spec := "fnGapsNone", apart := false, narrowed := true }
def FnGapsNoneUptoSaid : Prop := fnGapsNoneUptoRow.holds Try.pinned (OpenSpec.upto fnGapsNoneSpec)

/-- 'laws.FnGapsSeal', WHERE WHAT IT READS IS OF BULK AT MOST 1048576: true; the input reads as it did. -/
def fnGapsSealUptoRow : OpenClaim := { program := "ytdmgaafmmjeelaa", sum := "83ba8622cd4447c509f5143bae17415de69cb706d0fe1c3a0f5845f78d0d2467", func := "loop.example/tallyaudit/laws.FnGapsSeal", spec := "fnGapsSeal", apart := false, narrowed := true }
def FnGapsSealUptoSaid : Prop := fnGapsSealUptoRow.holds Try.pinned (OpenSpec.upto fnGapsSealSpec)

/-- 'laws.FnExactLedgerGaps', WHERE WHAT IT READS IS OF BULK AT MOST 1048576: true; the input reads as it did. -/
def fnExactLedgerGapsUptoRow : OpenClaim := { program := "ytdmgaafmmjeelaa", sum := "83ba8622cd4447c509f5143bae17415de69cb706d0fe1c3a0f5845f78d0d2467", func := "loop.example/tallyaudit/laws.FnExactLedgerGaps", spec := "fnExactLedgerGaps", apart := false, narrowed := true }
def FnExactLedgerGapsUptoSaid : Prop := fnExactLedgerGapsUptoRow.holds Try.pinned (OpenSpec.upto fnExactLedgerGapsSpec)

/-- 'laws.FnLedgerCount', WHERE WHAT IT READS IS OF BULK AT MOST 1048576: true; the input reads as it did. -/
def fnLedgerCountUptoRow : OpenClaim := { program := "ytdmgaafmmjeelaa", sum := "83ba8622cd4447c509f5143bae17415de69cb706d0fe1c3a0f5845f78d0d2467", func := "loop.example/tallyaudit/laws.FnLedgerCount", spec := "fnLedgerCount", unfollowed := true, recurses := true, apart := false, narrowed := true }
def FnLedgerCountUptoSaid : Prop := fnLedgerCountUptoRow.holds Try.pinned (OpenSpec.upto fnLedgerCountSpec)

end Rows
end Go.Proofs.Ytdmgaafmmjeelaa
