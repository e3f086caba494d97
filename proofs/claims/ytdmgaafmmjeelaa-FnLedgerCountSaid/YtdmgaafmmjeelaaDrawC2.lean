/- What is drawn for the laws of ledgers, function by function. The conditions stand in each theorem. -/
import Derived.Test.YtdmgaafmmjeelaaDrawC
import Derived.Test.YtdmgaafmmjeelaaLed8
namespace Go.Proofs.Ytdmgaafmmjeelaa
open Go.RowKit Go.ChangeShapes
set_option linter.unusedVariables false

def GotEv (w : World) (e : Ending) (w' : World) : Prop :=
  ∃ (A : Option Addr) (es : List Ev) (n c : Nat), e = .returned (.slice A n c) ∧ es.length = n ∧ n ≤ 21 ∧ n ≤ c ∧ c ≤ maxLen ∧ Row w' w'.heap.size A (evCells es) ∧ Below w.heap.size w w'
set_option maxHeartbeats 400000 in
theorem DrawLedgerValid_any (a : Option Addr) (len cap : Nat) (zs : List Int) (w : World) (h : IsRow .u8 w a len cap zs) :
    Calls Try.prog 24 #[.slice a len cap] w (GotEv w) := by
  go_enter Try.func24, Try.ntmps24
  go_wp2_with fail
  refine (open_any _ _ _ _ _ h).mono ?_
  rintro e w1 ⟨g, rfl, I⟩
  clear h
  go_wp2_with fail
  refine (l92Ledger_any I (by omega)).mono ?_
  rintro e w2 ⟨A, es, n, c, q, rfl, hl, hn, hq, I2, hs, hc1, hc2, hown⟩
  have hrow := own_rowN hown
  have HL := Lib.hid hl
  clear hl I
  go_wp2_with fail
  go_ret
  exact ⟨A, es, n, c, rfl, HL.out, hn, hc1, hc2, hrow, I2.bel⟩
set_option maxHeartbeats 400000 in
theorem DrawLedgerGaps_any (a : Option Addr) (len cap : Nat) (zs : List Int) (w : World) (h : IsRow .u8 w a len cap zs) :
    Calls Try.prog 28 #[.slice a len cap] w (GotEv w) := by
  go_enter Try.func28, Try.ntmps28
  go_wp2_with fail
  refine (open_any _ _ _ _ _ h).mono ?_
  rintro e w1 ⟨g, rfl, I⟩
  clear h
  go_wp2_with fail
  refine (l92Ledger_any I (by omega)).mono ?_
  rintro e w2 ⟨A, es, n, c, q, rfl, hl, hn, hq, I2, hs, hc1, hc2, hown⟩
  have hrow := own_rowN hown
  have HL := Lib.hid hl
  clear hl I
  go_wp2_with fail
  go_ret
  exact ⟨A, es, n, c, rfl, HL.out, hn, hc1, hc2, hrow, I2.bel⟩
set_option maxHeartbeats 400000 in
theorem DrawLedgerCount_any (a : Option Addr) (len cap : Nat) (zs : List Int) (w : World) (h : IsRow .u8 w a len cap zs) :
    Calls Try.prog 35 #[.slice a len cap] w (GotEv w) := by
  go_enter Try.func35, Try.ntmps35
  go_wp2_with fail
  refine (open_any _ _ _ _ _ h).mono ?_
  rintro e w1 ⟨g, rfl, I⟩
  clear h
  go_wp2_with fail
  refine (l92Ledger_any I (by omega)).mono ?_
  rintro e w2 ⟨A, es, n, c, q, rfl, hl, hn, hq, I2, hs, hc1, hc2, hown⟩
  have hrow := own_rowN hown
  have HL := Lib.hid hl
  clear hl I
  go_wp2_with fail
  go_ret
  exact ⟨A, es, n, c, rfl, HL.out, hn, hc1, hc2, hrow, I2.bel⟩

def GotEvB (w : World) (e : Ending) (w' : World) : Prop :=
  ∃ (A : Option Addr) (es : List Ev) (n c : Nat) (b : Int), e = .returned (.tuple #[.slice A n c, .int .i64 b]) ∧ es.length = n ∧ n ≤ 21 ∧ n ≤ c ∧ c ≤ maxLen ∧ (0 ≤ b ∧ b < 5) ∧ Row w' w'.heap.size A (evCells es) ∧ Below w.heap.size w w'
set_option maxHeartbeats 400000 in
theorem DrawLedgerSealed_any (a : Option Addr) (len cap : Nat) (zs : List Int) (w : World) (h : IsRow .u8 w a len cap zs) :
    Calls Try.prog 22 #[.slice a len cap] w (GotEvB w) := by
  go_enter Try.func22, Try.ntmps22
  go_wp2_with fail
  refine (open_any _ _ _ _ _ h).mono ?_
  rintro e w1 ⟨g, rfl, I⟩
  have hg1 := I.rd.lt_
  clear h
  go_wp2_with fail
  refine (l92Ledger_any I (by omega)).mono ?_
  rintro e w2 ⟨A, es, n, c, q, rfl, hl, hn, hq, I2, hs, hc1, hc2, hown⟩
  have HL := Lib.hid hl
  clear hl I
  go_wp2_with fail
  refine (pickI _ I2 (by omega) (by omega)).mono ?_
  rintro e w3 ⟨b, rfl, b0, b1, I3, G3⟩
  have hrow := own_rowN (own_grown hown G3 hg1)
  clear I2 G3 hown
  go_wp2_with fail
  refine bodyPost_ret (v := .tuple #[.slice A n c, .int .i64 b]) (by simp [results, Try.results22, go_sem]) rfl ⟨A, es, n, c, b, rfl, HL.out, hn, hc1, hc2, by omega, hrow, I3.bel⟩
end Go.Proofs.Ytdmgaafmmjeelaa
