/- What the laws' helpers on piles do: copies, comparisons. The conditions stand in each theorem. -/
import Derived.Test.YtkpgbombikgffaaPile
import Derived.Test.YtkpgbombikgffaaPair2
namespace Go.Proofs.Ytkpgbombikgffaa
open Go.RowKit Go.ChangeShapes
set_option linter.unusedVariables false

set_option maxHeartbeats 1000000 in
theorem toPile_any (p : Pl) (w : World) :
    Calls Try.prog 83 #[plV p] w fun e w' => e = .returned (plV p) ∧ Below w.heap.size w w' := by
  obtain ⟨a, b⟩ := p
  show Calls Try.prog 83 #[.agg #[.string a, .int .i64 b]] w fun e w' => e = .returned (.agg #[.string a, .int .i64 b]) ∧ Below w.heap.size w w'
  go_enter Try.func83, Try.ntmps83
  go_wp2
  exact bodyPost_ret (v := .agg #[.string a, .int .i64 b]) (by simp [results, Try.results83, go_sem]) rfl ⟨rfl, (((Below.refl _ _).alloc (Nat.le_refl _) _).alloc (by simp) _).alloc (by simp; omega) _⟩

theorem eqPile_same (p : Pl) (w : World) :
    Calls Try.prog 84 #[plV p, plV p] w (Same w) := by
  obtain ⟨a, b⟩ := p
  show Calls Try.prog 84 #[.agg #[.string a, .int .i64 b], .agg #[.string a, .int .i64 b]] w _
  go_enter Try.func84, Try.ntmps84
  go_wp2
  go_ret
  exact ⟨rfl, ((Below.refl _ _).alloc (Nat.le_refl _) _).alloc (by simp) _⟩

set_option maxHeartbeats 1000000 in
theorem eqPileS_same (A B : Option Addr) (n c d : Nat) (ps : List Pl) (w : World) (hn : ps.length = n) (hm : n ≤ 1048576) (ha : Row w w.heap.size A (plCells ps)) (hb : Row w w.heap.size B (plCells ps)) :
    Calls Try.prog 79 #[.slice A n c, .slice B n d] w (Same w) := by
  have HN := Lib.hid hn
  clear hn
  go_enter Try.func79, Try.ntmps79
  go_wp2_with fail
  go_loopw [5] (fun i wx => ∃ k : Nat, k ≤ n ∧ i = .int .i64 k ∧ Below w.heap.size w wx) (fun i _ => n - (intOf i).toNat)
  case atStart => exact ⟨0, Nat.zero_le _, rfl, Below.refl _ _⟩
  case round =>
    obtain ⟨k, hk, rfl, hbel⟩ := hrel
    by_cases hlt : k < n
    · have hl : k < ps.length := by rw [HN.out]; exact hlt
      obtain ⟨b, off, rfl, hbw, hc0, hc1⟩ := pile_at (ha.below hbel) hl
      obtain ⟨b', off', rfl, hbw', hd0, hd1⟩ := pile_at (hb.below hbel) hl
      clear ha hb
      generalize ps[k] = p at *
      obtain ⟨pa, pb⟩ := p
      simp only at hc0 hc1 hd0 hd1
      have hsz := hbel.size
      go_wp2_with fail
      go_region_with (go_at_call 84; refine (eqPile_same (pa, pb) _).mono ?_; rintro e w2 ⟨rfl, hb2⟩)
      all_goals
        have hbel2 : Below w.heap.size w w2 := hbel.drew.trans (hb2.mono hsz)
        clear hb2 hc0 hc1 hd0 hd1
        go_wp2_with fail
        go_roundw
        case rel => exact ⟨k + 1, by omega, by go_num, hbel2⟩
        case measure => simp [intOf]; omega
    · go_wp2_with fail
      go_ret
      exact ⟨rfl, hbel⟩

theorem info_pile : (Try.prog.info? 99).map (fun i => (i.zero, i.size, i.bytes)) = some (some (.agg #[.string default, .int .i64 0]), 2, 24) := by kernel_rfl
theorem made_piles (w : World) (n : Nat) (t : TypeId) : (w.alloc (.cells (madeCells #[.string default, .int .i64 0] (n * 2)) t)).rowIs w.heap.size t (n * 2) (fun i => if i % 2 = 0 then .string default else .int .i64 0) :=
  ⟨_, heap_alloc_new w _, size_madeCells _ _, fun i hi => by
    have h2 : i % 2 = 0 ∨ i % 2 = 1 := by omega
    simp only [madeCells, Array.getElem?_map, Array.getElem?_range, hi, if_true, Option.map_some]
    rcases h2 with h | h <;> simp [h]⟩

def CopiedL (w : World) (n : Nat) (ps : List Pl) (e : Ending) (w' : World) : Prop :=
  e = .returned (.slice (some ⟨w.heap.size, 0, none⟩) n n) ∧ Below w.heap.size w w' ∧ w'.rowIs w.heap.size 99 (n * 2) (fun i => (plCells ps).getD i undef)
theorem CopiedL.row {w w' : World} {n : Nat} {ps : List Pl} {e : Ending} (h : CopiedL w n ps e w') (hn : ps.length = n) : Row w' w'.heap.size (some ⟨w.heap.size, 0, none⟩) (plCells ps) := by
  refine rowIs_row h.2.2 _ (by rw [plCells_len, hn]; exact Nat.le_refl _) fun i u hu => ?_
  rw [List.getD_eq_getElem?_getD, hu]
  rfl

set_option maxHeartbeats 1000000 in
theorem toPileS_any (A : Option Addr) (n c : Nat) (ps : List Pl) (w : World) (hn : ps.length = n) (hm : n ≤ 1048576) (hr : Row w w.heap.size A (plCells ps)) :
    Calls Try.prog 77 #[.slice A n c] w (CopiedL w n ps) := by
  obtain ⟨i0, hi0, hz0, hz1, hz2⟩ := info_parts info_pile
  have hmk : ∀ W : World, (Instr.makeSlice 84 (.int .i64 (n : Int)) (.int .i64 (n : Int))).run Try.prog W = .ok (.slice (some ⟨W.heap.size, 0, none⟩) n n) (W.alloc (.cells (madeCells #[.string default, .int .i64 0] (n * 2)) 99)) := fun W => by
    have h := run_make_rowN (P := Try.prog) 84 99 i0 _ Try.underlying84 hi0 hz0 .i64 .i64 n n (Nat.le_refl _) (by rw [hz2]; omega) (by omega) W
    rw [hz1] at h
    exact h
  have HN := Lib.hid hn
  clear hn hi0 hz0 hz1 hz2
  go_enter Try.func77, Try.ntmps77
  go_wp2_with fail
  clear hmk
  go_loopw [4] (fun i wx => ∃ k : Nat, k ≤ n ∧ i = .int .i64 k ∧ Below w.heap.size w wx ∧ wx.rowIs w.heap.size 99 (n * 2) (fun i => if i < k * 2 then (plCells ps).getD i undef else if i % 2 = 0 then .string default else .int .i64 0)) (fun i _ => n - (intOf i).toNat)
  case atStart => exact ⟨0, Nat.zero_le _, rfl, (Below.refl _ _).alloc (Nat.le_refl _) _, (made_piles w n _).congr (fun i hi => by simp)⟩
  case round =>
    obtain ⟨k, hk, rfl, hb, hrow⟩ := hrel
    by_cases hlt : k < n
    · have hl : k < ps.length := by rw [HN.out]; exact hlt
      obtain ⟨b, off, rfl, hbw, hc0, hc1⟩ := pile_at (hr.below hb) hl
      have HC := Lib.hid (plCells_at ps k hl)
      clear hr
      generalize ps[k] = p at *
      obtain ⟨pa, pb⟩ := p
      simp only at hc0 hc1
      have hsz := hb.size
      go_wp2_with fail
      refine (toPile_any (pa, pb) _).mono ?_
      rintro e w2 ⟨he, hb2⟩
      have he' : e = .returned (.agg #[.string pa, .int .i64 pb]) := he
      subst he'
      clear he
      have hb3 : Below w.heap.size w w2 := hb.trans (hb2.mono hsz)
      have hrow2 := hrow.of_block (hb2.block _ hrow.lt)
      have hd0 := hrow2.cell (i := k * 2) (by omega)
      have hd1 := hrow2.cell (i := k * 2 + 1) (by omega)
      have hf0 := hrow2.frozen (k * 2)
      have hf1 := hrow2.frozen (k * 2 + 1)
      rw [if_neg (by omega), if_pos (by omega)] at hd0
      rw [if_neg (by omega), if_neg (by omega)] at hd1
      have HR := Lib.hid hrow2
      clear hrow hrow2 hb2 hc0 hc1 hb
      go_wp2_with fail
      go_roundw
      case rel =>
        refine ⟨k + 1, by omega, by go_num, (hb3.setCell (Nat.le_refl _) _).setCell (Nat.le_refl _) _, ((HR.out.set (k * 2) _).set (k * 2 + 1) _).congr fun i hi => ?_⟩
        by_cases e1 : i = k * 2 + 1
        · subst e1
          simp only [if_true, List.getD_eq_getElem?_getD, HC.out.2]
          rw [if_pos (by omega)]
          rfl
        · by_cases e0 : i = k * 2
          · subst e0
            simp only [if_true, List.getD_eq_getElem?_getD, HC.out.1]
            rw [if_neg (by omega), if_pos (by omega)]
            rfl
          · simp only [e1, e0, if_false]
            by_cases h2 : i < k * 2
            · rw [if_pos h2, if_pos (by omega)]
            · rw [if_neg h2, if_neg (show ¬ i < (k + 1) * 2 by omega)]
      case measure => simp [intOf]; omega
    · obtain rfl : k = n := by omega
      go_wp2_with fail
      go_ret
      exact ⟨rfl, hb, hrow.congr fun i hi => by simp [hi]⟩

end Go.Proofs.Ytkpgbombikgffaa
