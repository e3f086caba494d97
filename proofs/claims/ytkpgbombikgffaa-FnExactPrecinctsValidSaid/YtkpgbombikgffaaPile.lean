/- Piles of ballots: cells, what makes them valid, what the program's and the reference's checks of one pile return. The conditions stand in each theorem. -/
import Derived.Test.YtkpgbombikgffaaPair
namespace Go.Proofs.Ytkpgbombikgffaa
open Go.RowKit Go.ChangeShapes
set_option linter.unusedVariables false

theorem bl_tri : ∀ x y : List UInt8, (Op.bytesLess x y = true ∧ (x == y) = false ∧ Op.bytesLess y x = false) ∨ (Op.bytesLess x y = false ∧ (x == y) = true ∧ Op.bytesLess y x = false) ∨ (Op.bytesLess x y = false ∧ (x == y) = false ∧ Op.bytesLess y x = true)
  | [], [] => by simp [Op.bytesLess]
  | _ :: _, [] => by simp [Op.bytesLess]
  | [], _ :: _ => by simp [Op.bytesLess]
  | a :: x, b :: y => by
    have ih := bl_tri x y
    have h : a < b ∨ a = b ∨ b < a := by
      simp only [UInt8.lt_iff_toNat_lt, ← UInt8.toNat_inj]
      omega
    have irr : ∀ c : UInt8, ¬ c < c := fun c hc => by rw [UInt8.lt_iff_toNat_lt] at hc; omega
    rcases h with h | h | h
    · have h1 : ¬ b < a := by rw [UInt8.lt_iff_toNat_lt] at *; omega
      have h2 : a ≠ b := fun e => irr a (by rw [e] at h ⊢; exact absurd h (irr b))
      have h3 : b ≠ a := fun e => h2 e.symm
      refine .inl ?_
      simp [Op.bytesLess, h, h1, h2, h3]
    · subst h
      simp only [Op.bytesLess, irr a, decide_false, Bool.false_or, beq_self_eq_true, Bool.true_and, List.cons_beq_cons]
      exact ih
    · have h1 : ¬ a < b := by rw [UInt8.lt_iff_toNat_lt] at *; omega
      have h2 : b ≠ a := fun e => irr b (by rw [e] at h ⊢; exact absurd h (irr a))
      have h3 : a ≠ b := fun e => h2 e.symm
      refine .inr (.inr ?_)
      simp [Op.bytesLess, h, h1, h3]

/-- A pile: a text, how many. -/
abbrev Pl := ByteArray × Int
def plV (p : Pl) : Value := .agg #[.string p.1, .int .i64 p.2]
def okPl (p : Pl) : Bool := okP p.1 && decide (1 ≤ p.2 ∧ p.2 ≤ 99)
theorem okPl_yes {p : Pl} (h1 : okP p.1 = true) (h2 : 1 ≤ p.2) (h3 : p.2 ≤ 99) : okPl p = true := by simp [okPl, h1, h2, h3]
theorem okPl_no {p : Pl} (h : okP p.1 = false ∨ p.2 < 1 ∨ 99 < p.2) : okPl p = false := by
  unfold okPl
  rcases h with h | h
  · rw [h]; rfl
  · have : decide (1 ≤ p.2 ∧ p.2 ≤ 99) = false := decide_eq_false (by omega)
    rw [this]; simp
def smallPl (p : Pl) : Prop := p.1.size ≤ 1048576
def plCells (l : List Pl) : List Value := l.flatMap fun p => [.string p.1, .int .i64 p.2]
theorem plCells_len (l : List Pl) : (plCells l).length = l.length * 2 := by
  induction l with
  | nil => rfl
  | cons p l ih =>
    simp only [plCells, List.flatMap_cons, List.length_append, List.length_cons, List.length_nil] at ih ⊢
    omega
theorem plCells_at : ∀ (l : List Pl) (k : Nat) (h : k < l.length), (plCells l)[k * 2]? = some (.string l[k].1) ∧ (plCells l)[k * 2 + 1]? = some (.int .i64 l[k].2)
  | p :: l, 0, _ => ⟨rfl, rfl⟩
  | p :: l, k + 1, h => by
    have ih := plCells_at l k (by simpa using h)
    have e1 : (k + 1) * 2 = k * 2 + 1 + 1 := by omega
    rw [e1]
    show (Value.string p.1 :: Value.int .i64 p.2 :: plCells l)[k * 2 + 1 + 1]? = _ ∧ (Value.string p.1 :: Value.int .i64 p.2 :: plCells l)[k * 2 + 1 + 1 + 1]? = _
    simpa using ih
theorem pile_at {w : World} {B : Nat} {A : Option Addr} {ps : List Pl} (h : Row w B A (plCells ps)) {k : Nat} (hk : k < ps.length) :
    ∃ b off, A = some ⟨b, off, none⟩ ∧ b < B ∧ w.cell? ⟨b, off + k * 2, none⟩ = some (.string ps[k].1) ∧ w.cell? ⟨b, off + k * 2 + 1, none⟩ = some (.int .i64 ps[k].2) := by
  rcases h with h | ⟨b, off, e, hb, hc⟩
  · have := plCells_len ps
    rw [h] at this
    simp at this
    omega
  · have h1 := plCells_at ps k hk
    exact ⟨b, off, e, hb, hc _ _ h1.1, hc _ _ h1.2⟩
theorem pile_of {w : World} {B b off : Nat} {ps : List Pl} (h : Row w B (some ⟨b, off, none⟩) (plCells ps)) {k : Nat} (hk : k < ps.length) :
    w.cell? ⟨b, off + k * 2, none⟩ = some (.string ps[k].1) ∧ w.cell? ⟨b, off + k * 2 + 1, none⟩ = some (.int .i64 ps[k].2) := by
  obtain ⟨b', off', e, _, h0, h1⟩ := pile_at h hk
  injection e with e
  injection e with e1 e2
  subst e1 e2
  exact ⟨h0, h1⟩

/-- A test of each place. -/
def allR (f : Nat → Bool) (n : Nat) : Bool := (List.range n).all f
theorem allR_succ {f : Nat → Bool} {k : Nat} (h1 : allR f k = true) (h2 : f k = true) : allR f (k + 1) = true := by
  unfold allR at *
  rw [List.range_succ, List.all_append, h1]
  simp [h2]
theorem allR_bad {f : Nat → Bool} {n k : Nat} (hk : k < n) (h : f k = false) : allR f n = false := by
  cases hb : allR f n with
  | false => rfl
  | true =>
    unfold allR at hb
    rw [List.all_eq_true] at hb
    rw [hb k (List.mem_range.2 hk)] at h
    cases h
/-- Pile k is valid and its text comes behind the one ahead of it. -/
def okPlAt (ps : List Pl) (k : Nat) : Bool := match ps[k]? with
  | some p => okPl p && (match k with | 0 => true | j + 1 => (match ps[j]? with | some q => Op.bytesLess q.1.toList p.1.toList | none => true))
  | none => true
theorem okPlAt_zero {ps : List Pl} (h : 0 < ps.length) : okPlAt ps 0 = okPl ps[0] := by
  simp [okPlAt, List.getElem?_eq_getElem h]
theorem okPlAt_succ {ps : List Pl} {j : Nat} (h : j + 1 < ps.length) : okPlAt ps (j + 1) = (okPl ps[j + 1] && Op.bytesLess (ps[j]'(by omega)).1.toList ps[j + 1].1.toList) := by
  simp [okPlAt, List.getElem?_eq_getElem h, List.getElem?_eq_getElem (show j < ps.length by omega)]
theorem okPlAt_bad {ps : List Pl} {k : Nat} (h : k < ps.length) (hb : okPl ps[k] = false) : okPlAt ps k = false := by
  cases k with
  | zero => rw [okPlAt_zero h]; exact hb
  | succ j => rw [okPlAt_succ h, hb]; rfl
def plsB (ps : List Pl) : Bool := allR (okPlAt ps) ps.length && decide (ps.length ≤ 12)
theorem plsB_bad {ps : List Pl} {k : Nat} (hk : k < ps.length) (h : okPlAt ps k = false) : plsB ps = false := by
  unfold plsB
  rw [allR_bad hk h]
  rfl
theorem plsB_all {ps : List Pl} (h : allR (okPlAt ps) ps.length = true) : plsB ps = decide ((ps.length : Int) ≤ 12) := by
  unfold plsB
  rw [h, Bool.true_and]
  exact decide_eq_decide.2 (by omega)

set_option maxHeartbeats 1000000 in
theorem pileValid_any (p : Pl) (w : World) (hs : smallPl p) :
    Calls Try.prog 78 #[plV p] w (Says w (okPl p)) := by
  obtain ⟨a, b⟩ := p
  have h1 : a.size ≤ 1048576 := hs
  show Calls Try.prog 78 #[.agg #[.string a, .int .i64 b]] w _
  go_enter Try.func78, Try.ntmps78
  go_wp2_with fail
  refine (BallotParse_any a _ h1).mono ?_
  rintro e w1 ⟨A, n, c, rfl, x1, x2, x3, x4, x5, hb⟩
  clear x1 x2 x3 x4 x5
  have hc1 := hb.cell (p := ⟨w.heap.size, 1, none⟩) (by simp)
  simp at hc1
  have hb1 : Below w.heap.size w w1 := ((Below.refl _ _).alloc (Nat.le_refl _) _).trans (hb.mono (by simp))
  clear hb
  cases ha : okP a with
  | true =>
    by_cases h2 : b < 1
    · have HA := Lib.hid (okPl_no (p := (a, b)) (.inr (.inl h2)))
      clear ha
      go_wp2_with fail
      go_ret
      exact ⟨ret_bool HA.out.symm, hb1⟩
    by_cases h3 : 99 < b
    · have HA := Lib.hid (okPl_no (p := (a, b)) (.inr (.inr h3)))
      have d3 : decide (b ≤ 99) = false := by simp; omega
      clear ha
      go_wp2_with fail
      go_ret
      exact ⟨ret_bool HA.out.symm, hb1⟩
    · have HA := Lib.hid (okPl_yes (p := (a, b)) ha (by simp only; omega) (by simp only; omega))
      clear ha
      go_wp2_with fail
      go_ret
      exact ⟨ret_bool HA.out.symm, hb1⟩
  | false =>
    have HA := Lib.hid (okPl_no (p := (a, b)) (.inl ha))
    clear ha
    go_wp2_with fail
    go_ret
    exact ⟨ret_bool HA.out.symm, hb1⟩

set_option maxHeartbeats 1000000 in
theorem sl3Pile_any (p : Pl) (w : World) (hs : smallPl p) :
    Calls Try.prog 76 #[plV p] w (Says w (okPl p)) := by
  obtain ⟨a, b⟩ := p
  have h1 : a.size ≤ 1048576 := hs
  show Calls Try.prog 76 #[.agg #[.string a, .int .i64 b]] w _
  go_enter Try.func76, Try.ntmps76
  go_wp2_with fail
  refine (sBallotParse_any a _ h1).mono ?_
  rintro e w1 ⟨A, n, c, rfl, x1, x2, x3, x4, x5, hb⟩
  clear x1 x2 x3 x4 x5
  have hc1 := hb.cell (p := ⟨w.heap.size, 1, none⟩) (by simp)
  simp at hc1
  have hb1 : Below w.heap.size w w1 := ((Below.refl _ _).alloc (Nat.le_refl _) _).trans (hb.mono (by simp))
  clear hb
  cases ha : okP a with
  | true =>
    have HA : Hid (inB b 1 99 = okPl (a, b)) := by
      show _ = _
      by_cases h : 1 ≤ b ∧ b ≤ 99
      · rw [inB_yes h.1 h.2, okPl_yes (p := (a, b)) ha h.1 h.2]
      · rw [inB_no (by omega), okPl_no (p := (a, b)) (.inr (by simp only; omega))]
    clear ha
    go_wp2_with fail
    refine (in_any b 1 99 _).mono ?_
    rintro e w2 ⟨rfl, rfl⟩
    go_wp2_with fail
    go_ret
    exact ⟨ret_bool HA.out, hb1⟩
  | false =>
    have HA := Lib.hid (okPl_no (p := (a, b)) (.inl ha))
    clear ha
    go_wp2_with fail
    go_ret
    exact ⟨ret_bool HA.out.symm, hb1⟩

end Go.Proofs.Ytkpgbombikgffaa
