/- What the laws' helpers on pairs do: sizes, copies, comparisons. The conditions stand in each theorem. -/
import Derived.Test.YtkpgbombikgffaaPair
namespace Go.Proofs.Ytkpgbombikgffaa
open Go.RowKit Go.ChangeShapes
set_option linter.unusedVariables false

def szP (p : Pr) (left : Int) : Int := if left - p.1.size < 0 then -1 else if left - p.1.size - p.2.size < 0 then -1 else left - p.1.size - p.2.size
theorem szP_bd (p : Pr) (left : Int) (h : left ≤ 1048576) : -1 ≤ szP p left ∧ szP p left ≤ 1048576 ∧ (0 ≤ szP p left → szP p left ≤ left ∧ smallPr p) := by
  unfold szP smallPr
  split
  · omega
  · split <;> omega

set_option maxHeartbeats 1000000 in
theorem szPair_any (p : Pr) (left : Int) (w : World) (h0 : 0 ≤ left) (h1 : left ≤ 1048576) (hs1 : p.1.size ≤ maxLen) (hs2 : p.2.size ≤ maxLen) :
    Calls Try.prog 20 #[prV p, .int .i64 left] w (SaysI w (szP p left)) := by
  obtain ⟨a, b⟩ := p
  simp only at hs1 hs2
  unfold maxLen at hs1 hs2
  show Calls Try.prog 20 #[.agg #[.string a, .string b], .int .i64 left] w _
  by_cases h2 : left - a.size < 0
  · have HQ : Hid (szP (a, b) left = -1) := if_pos h2
    go_enter Try.func20, Try.ntmps20
    go_wp2
    go_ret
    exact ⟨ret_int HQ.out.symm, (Below.refl _ _).alloc (Nat.le_refl _) _⟩
  by_cases h3 : left - a.size - b.size < 0
  · have HQ : Hid (szP (a, b) left = -1) := (if_neg h2).trans (if_pos h3)
    go_enter Try.func20, Try.ntmps20
    go_wp2
    go_ret
    exact ⟨ret_int HQ.out.symm, (Below.refl _ _).alloc (Nat.le_refl _) _⟩
  · have HQ : Hid (szP (a, b) left = left - a.size - b.size) := (if_neg h2).trans (if_neg h3)
    go_enter Try.func20, Try.ntmps20
    go_wp2
    go_ret
    exact ⟨ret_int HQ.out.symm, (Below.refl _ _).alloc (Nat.le_refl _) _⟩

/-- What szPairS tells: if something is left, there are few pairs, and each is small. -/
def SzS (w : World) (ps : List Pr) (e : Ending) (w' : World) : Prop :=
  ∃ r : Int, e = .returned (.int .i64 r) ∧ -1 ≤ r ∧ r ≤ 1048576 ∧ (0 ≤ r → ps.length ≤ 1048576 ∧ ∀ p ∈ ps, smallPr p) ∧ Below w.heap.size w w'
set_option maxHeartbeats 1000000 in
theorem szPairS_any (A : Option Addr) (n c : Nat) (ps : List Pr) (w : World) (hn : ps.length = n) (hm : n ≤ maxLen) (hs : ∀ p ∈ ps, p.1.size ≤ maxLen ∧ p.2.size ≤ maxLen) (ha : Row w w.heap.size A (prCells ps)) :
    Calls Try.prog 24 #[.slice A n c, .int .i64 1048576] w (SzS w ps) := by
  have HN := Lib.hid hn
  have HS := Lib.hid hs
  clear hn hs
  unfold maxLen at hm
  by_cases hbig : 1048576 < n
  · clear ha
    go_enter Try.func24, Try.ntmps24
    go_wp2_with fail
    go_ret
    exact ⟨-1, rfl, by omega, by omega, fun h => absurd h (by omega), Below.refl _ _⟩
  go_enter Try.func24, Try.ntmps24
  go_wp2_with fail
  go_loopw [1, 5] (fun s i wx => ∃ (k : Nat) (r : Int), k ≤ n ∧ i = .int .i64 k ∧ s = .int .i64 r ∧ 0 ≤ r ∧ r ≤ 1048576 ∧ Below w.heap.size w wx ∧ Hid (∀ p ∈ ps.take k, smallPr p)) (fun _ i _ => n - (intOf i).toNat)
  case atStart => exact ⟨0, _, Nat.zero_le _, rfl, rfl, by omega, by omega, Below.refl _ _, by simp [Hid]⟩
  case round =>
    obtain ⟨k, r, hk, rfl, rfl, r0, r1, hbel, HX⟩ := hrel
    have ha' := (ha.below hbel).more hbel.size
    clear ha
    by_cases hlt : k < n
    · have hl : k < ps.length := by rw [HN.out]; exact hlt
      obtain ⟨b, off, rfl, hbw, hc0, hc1⟩ := pair_at ha' hl
      have HP := Lib.hid (HS.out _ (List.getElem_mem hl))
      have HM : Hid (∀ y, y ∈ ps.take (k + 1) → y ∈ ps.take k ∨ y = ps[k]) := fun y hy => by
        rw [List.take_succ_eq_append_getElem hl] at hy
        exact (List.mem_append.1 hy).imp_right List.mem_singleton.1
      clear ha'
      generalize ps[k] = p at *
      obtain ⟨pa, pb⟩ := p
      simp only at hc0 hc1
      have hz := szP_bd (pa, pb) r r1
      go_wp2_with fail
      refine (szPair_any (pa, pb) r _ r0 r1 HP.out.1 HP.out.2).mono ?_
      rintro e w2 ⟨rfl, hb2⟩
      have hbel2 : Below w.heap.size w w2 := hbel.trans (hb2.mono hbel.size)
      clear hb2 hc0 hc1
      by_cases hneg : szP (pa, pb) r < 0
      · generalize szP (pa, pb) r = z at *
        clear hz
        go_wp2_with fail
        go_ret
        exact ⟨-1, rfl, by omega, by omega, fun h => absurd h (by omega), hbel2⟩
      · have HQ := Lib.hid (hz.2.2 (by omega)).2
        have hz1 := hz.2.1
        clear hz
        generalize szP (pa, pb) r = z at *
        go_wp2_with fail
        go_roundw
        case rel =>
          refine ⟨k + 1, _, by omega, by go_num, rfl, by omega, by omega, hbel2, fun p hp => ?_⟩
          rcases HM.out p hp with hp | hp
          · exact HX.out p hp
          · rw [hp]
            exact HQ.out
        case measure => simp [intOf]; omega
    · clear ha'
      go_wp2_with fail
      go_ret
      refine ⟨_, rfl, by omega, by omega, fun _ => ⟨by rw [HN.out]; omega, ?_⟩, hbel⟩
      have h1 := HX.out
      rw [List.take_of_length_le (by rw [HN.out]; omega)] at h1
      exact h1

set_option maxHeartbeats 1000000 in
theorem toPair_any (p : Pr) (w : World) :
    Calls Try.prog 22 #[prV p] w fun e w' => e = .returned (prV p) ∧ Below w.heap.size w w' := by
  obtain ⟨a, b⟩ := p
  show Calls Try.prog 22 #[.agg #[.string a, .string b]] w fun e w' => e = .returned (.agg #[.string a, .string b]) ∧ Below w.heap.size w w'
  go_enter Try.func22, Try.ntmps22
  go_wp2
  exact bodyPost_ret (v := .agg #[.string a, .string b]) (by simp [results, Try.results22, go_sem]) rfl ⟨rfl, (((Below.refl _ _).alloc (Nat.le_refl _) _).alloc (by simp) _).alloc (by simp; omega) _⟩

theorem eqPair_same (p : Pr) (w : World) :
    Calls Try.prog 58 #[prV p, prV p] w (Same w) := by
  obtain ⟨a, b⟩ := p
  show Calls Try.prog 58 #[.agg #[.string a, .string b], .agg #[.string a, .string b]] w _
  go_enter Try.func58, Try.ntmps58
  go_wp2
  go_ret
  exact ⟨rfl, ((Below.refl _ _).alloc (Nat.le_refl _) _).alloc (by simp) _⟩

set_option maxHeartbeats 1000000 in
theorem eqPairS_same (A B : Option Addr) (n c d : Nat) (ps : List Pr) (w : World) (hn : ps.length = n) (hm : n ≤ 1048576) (ha : Row w w.heap.size A (prCells ps)) (hb : Row w w.heap.size B (prCells ps)) :
    Calls Try.prog 26 #[.slice A n c, .slice B n d] w (Same w) := by
  have HN := Lib.hid hn
  clear hn
  go_enter Try.func26, Try.ntmps26
  go_wp2_with fail
  go_loopw [5] (fun i wx => ∃ k : Nat, k ≤ n ∧ i = .int .i64 k ∧ Below w.heap.size w wx) (fun i _ => n - (intOf i).toNat)
  case atStart => exact ⟨0, Nat.zero_le _, rfl, Below.refl _ _⟩
  case round =>
    obtain ⟨k, hk, rfl, hbel⟩ := hrel
    by_cases hlt : k < n
    · have hl : k < ps.length := by rw [HN.out]; exact hlt
      obtain ⟨b, off, rfl, hbw, hc0, hc1⟩ := pair_at (ha.below hbel) hl
      obtain ⟨b', off', rfl, hbw', hd0, hd1⟩ := pair_at (hb.below hbel) hl
      clear ha hb
      generalize ps[k] = p at *
      obtain ⟨pa, pb⟩ := p
      simp only at hc0 hc1 hd0 hd1
      have hsz := hbel.size
      go_wp2_with fail
      go_region_with (go_at_call 58; refine (eqPair_same (pa, pb) _).mono ?_; rintro e w2 ⟨rfl, hb2⟩)
      all_goals
        have hbel2 : Below w.heap.size w w2 := hbel.drew.trans (hb2.mono hsz)
        clear hb2 hc0 hc1 hd0 hd1
        go_wp2_with fail
        go_roundw
        case rel => exact ⟨k + 1, by omega, by go_num, hbel2⟩
        case measure => simp [intOf]; omega
    · go_wp2_with fail
      go_ret
      exact ⟨rfl, hbel⟩

theorem info_pair : (Try.prog.info? 27).map (fun i => (i.zero, i.size, i.bytes)) = some (some (.agg #[.string default, .string default]), 2, 32) := by kernel_rfl
theorem run_make_rowN {P : Program} (t e : TypeId) (i : TypeInfo) (z : Value) (ht : P.underlying t = some (.slice e)) (hi : P.info? e = some i) (hz : i.zero = some z)
    (kl kc : IntKind) (n c : Nat) (hnc : n ≤ c) (hbytes : i.bytes * c ≤ 281474976710656) (h63 : c ≤ 9223372036854775807) (w : World) :
    (Instr.makeSlice t (.int kl (n : Int)) (.int kc (c : Int))).run P w = .ok (.slice (some ⟨w.heap.size, 0, none⟩) n c) (w.alloc (.cells (madeCells z.cells (c * i.size)) e)) := by
  have hb : (i.bytes : Int) * (c : Int) ≤ 281474976710656 := by
    have h : ((i.bytes * c : Nat) : Int) ≤ 281474976710656 := by omega
    rwa [Int.natCast_mul] at h
  have hr := run_make (P := P) w t e i z ht hi hz kl kc n c (by omega) (by omega) hb (by omega)
  simp only [Int.toNat_natCast] at hr
  exact hr
theorem made_pairs (w : World) (n : Nat) (t : TypeId) : (w.alloc (.cells (madeCells #[.string default, .string default] (n * 2)) t)).rowIs w.heap.size t (n * 2) (fun _ => .string default) :=
  ⟨_, heap_alloc_new w _, size_madeCells _ _, fun i hi => by
    have h2 : i % 2 = 0 ∨ i % 2 = 1 := by omega
    simp only [madeCells, Array.getElem?_map, Array.getElem?_range, hi, if_true, Option.map_some]
    rcases h2 with h | h <;> simp [h]⟩

def CopiedP (w : World) (n : Nat) (ps : List Pr) (e : Ending) (w' : World) : Prop :=
  e = .returned (.slice (some ⟨w.heap.size, 0, none⟩) n n) ∧ Below w.heap.size w w' ∧ w'.rowIs w.heap.size 27 (n * 2) (fun i => (prCells ps).getD i undef)
theorem CopiedP.row {w w' : World} {n : Nat} {ps : List Pr} {e : Ending} (h : CopiedP w n ps e w') (hn : ps.length = n) : Row w' w'.heap.size (some ⟨w.heap.size, 0, none⟩) (prCells ps) := by
  refine rowIs_row h.2.2 _ (by rw [prCells_len, hn]; exact Nat.le_refl _) fun i u hu => ?_
  rw [List.getD_eq_getElem?_getD, hu]
  rfl

set_option maxHeartbeats 1000000 in
theorem toPairS_any (A : Option Addr) (n c : Nat) (ps : List Pr) (w : World) (hn : ps.length = n) (hm : n ≤ 1048576) (hr : Row w w.heap.size A (prCells ps)) :
    Calls Try.prog 25 #[.slice A n c] w (CopiedP w n ps) := by
  obtain ⟨i0, hi0, hz0, hz1, hz2⟩ := info_parts info_pair
  have hmk : ∀ W : World, (Instr.makeSlice 23 (.int .i64 (n : Int)) (.int .i64 (n : Int))).run Try.prog W = .ok (.slice (some ⟨W.heap.size, 0, none⟩) n n) (W.alloc (.cells (madeCells #[.string default, .string default] (n * 2)) 27)) := fun W => by
    have h := run_make_rowN (P := Try.prog) 23 27 i0 _ Try.underlying23 hi0 hz0 .i64 .i64 n n (Nat.le_refl _) (by rw [hz2]; omega) (by omega) W
    rw [hz1] at h
    exact h
  have HN := Lib.hid hn
  clear hn hi0 hz0 hz1 hz2
  go_enter Try.func25, Try.ntmps25
  go_wp2_with fail
  clear hmk
  go_loopw [4] (fun i wx => ∃ k : Nat, k ≤ n ∧ i = .int .i64 k ∧ Below w.heap.size w wx ∧ wx.rowIs w.heap.size 27 (n * 2) (fun i => if i < k * 2 then (prCells ps).getD i undef else .string default)) (fun i _ => n - (intOf i).toNat)
  case atStart => exact ⟨0, Nat.zero_le _, rfl, (Below.refl _ _).alloc (Nat.le_refl _) _, (made_pairs w n _).congr (fun i hi => by simp)⟩
  case round =>
    obtain ⟨k, hk, rfl, hb, hrow⟩ := hrel
    by_cases hlt : k < n
    · have hl : k < ps.length := by rw [HN.out]; exact hlt
      obtain ⟨b, off, rfl, hbw, hc0, hc1⟩ := pair_at (hr.below hb) hl
      have HC := Lib.hid (prCells_at ps k hl)
      clear hr
      generalize ps[k] = p at *
      obtain ⟨pa, pb⟩ := p
      simp only at hc0 hc1
      have hsz := hb.size
      go_wp2_with fail
      refine (toPair_any (pa, pb) _).mono ?_
      rintro e w2 ⟨he, hb2⟩
      have he' : e = .returned (.agg #[.string pa, .string pb]) := he
      subst he'
      clear he
      have hb3 : Below w.heap.size w w2 := hb.trans (hb2.mono hsz)
      have hrow2 := hrow.of_block (hb2.block _ hrow.lt)
      have hd0 := hrow2.cell (i := k * 2) (by omega)
      have hd1 := hrow2.cell (i := k * 2 + 1) (by omega)
      have hf0 := hrow2.frozen (k * 2)
      have hf1 := hrow2.frozen (k * 2 + 1)
      rw [if_neg (by omega)] at hd0 hd1
      have HR := Lib.hid hrow2
      clear hrow hrow2 hb2 hc0 hc1 hb
      go_wp2_with fail
      go_roundw
      case rel =>
        refine ⟨k + 1, by omega, by go_num, (hb3.setCell (Nat.le_refl _) _).setCell (Nat.le_refl _) _, ((HR.out.set (k * 2) _).set (k * 2 + 1) _).congr fun i hi => ?_⟩
        by_cases e1 : i = k * 2 + 1
        · subst e1
          simp only [if_true, List.getD_eq_getElem?_getD, HC.out.2]
          rw [if_pos (by omega)]
          rfl
        · by_cases e0 : i = k * 2
          · subst e0
            simp only [if_true, List.getD_eq_getElem?_getD, HC.out.1]
            rw [if_neg (by omega), if_pos (by omega)]
            rfl
          · simp only [e1, e0, if_false]
            by_cases h2 : i < k * 2
            · rw [if_pos h2, if_pos (by omega)]
            · rw [if_neg h2, if_neg (by omega)]
      case measure => simp [intOf]; omega
    · obtain rfl : k = n := by omega
      go_wp2_with fail
      go_ret
      exact ⟨rfl, hb, hrow.congr fun i hi => by simp [hi]⟩

end Go.Proofs.Ytkpgbombikgffaa
