/- The laws' helpers on rows of events, their arguments opened to cells; the law FnExactLedgerValid. The conditions stand in each theorem. -/
import Derived.Test.YtdmgaafmmjeelaaLed1
namespace Go.Proofs.Ytdmgaafmmjeelaa
open Go.RowKit Go.ChangeShapes Go.WideShapes Go.Deep Go.Joins
set_option linter.unusedVariables false

def SzE (w : World) (n : Nat) (e : Ending) (w' : World) : Prop := ∃ r : Int, e = .returned (.int .i64 r) ∧ -1 ≤ r ∧ r ≤ 1048576 ∧ (0 ≤ r → n ≤ 1048576) ∧ w = w'
theorem szEventS_any (A : Option Addr) (n c : Nat) (w : World) (hm : n ≤ maxLen) :
    Calls Try.prog 15 #[.slice A n c, .int .i64 1048576] w (SzE w n) := by
  unfold maxLen at hm
  by_cases hbig : 1048576 < n
  · go_enter Try.func15, Try.ntmps15
    go_wp2_with fail
    go_ret
    exact ⟨-1, rfl, by omega, by omega, fun h => absurd h (by omega), rfl⟩
  · go_enter Try.func15, Try.ntmps15
    go_wp2_with fail
    go_ret
    exact ⟨_, rfl, by omega, by omega, fun _ => by omega, rfl⟩

set_option maxHeartbeats 1000000 in
theorem eqEventS_same (A B : Option Addr) (n c d : Nat) (l : List Ev) (w : World) (hn : l.length = n) (hm : n ≤ 1048576) (ha : Row w w.heap.size A (evCells l)) (hb : Row w w.heap.size B (evCells l)) :
    Calls Try.prog 19 #[.slice A n c, .slice B n d] w (Same w) := by
  have HN := Lib.hid hn
  clear hn
  go_enter Try.func19, Try.ntmps19
  go_wp2_with fail
  go_loopw [5] (fun i wx => ∃ k : Nat, k ≤ n ∧ i = .int .i64 k ∧ Below w.heap.size w wx) (fun i _ => n - (intOf i).toNat)
  case atStart => exact ⟨0, Nat.zero_le _, rfl, Below.refl _ _⟩
  case round =>
    obtain ⟨k, hk, rfl, hbel⟩ := hrel
    by_cases hlt : k < n
    · have hl : k < l.length := by rw [HN.out]; exact hlt
      obtain ⟨b, off, rfl, hbw, hc0, hc1, hc2, hc3⟩ := ev_at (ha.below hbel) hl
      obtain ⟨b', off', rfl, hbw', hd0, hd1, hd2, hd3⟩ := ev_at (hb.below hbel) hl
      clear ha hb
      generalize l[k] = p at *
      obtain ⟨vbx, vkd, vsl, vmn⟩ := p
      simp only at hc0 hc1 hc2 hc3 hd0 hd1 hd2 hd3
      have hsz := hbel.size
      go_wp2_with fail
      go_region_with (go_at_call 38; refine (eqEvent_same ⟨vbx, vkd, vsl, vmn⟩ _).mono ?_; rintro e w2 ⟨rfl, hb2⟩)
      all_goals
        have hbel2 : Below w.heap.size w w2 := hbel.drew.trans (hb2.mono hsz)
        clear hb2 hc0 hc1 hc2 hc3 hd0 hd1 hd2 hd3
        go_wp2_with fail
        go_roundw
        case rel => exact ⟨k + 1, by omega, by go_num, hbel2⟩
        case measure => simp [intOf]; omega
    · go_wp2_with fail
      go_ret
      exact ⟨rfl, hbel⟩

theorem info_ev : (Try.prog.info? 36).map (fun i => (i.zero, i.size, i.bytes)) = some (some (.agg #[.int .i64 0, .int .i64 0, .int .i64 0, .int .i64 0]), 4, 32) := by kernel_rfl
theorem run_make_rowN {P : Program} (t e : TypeId) (i : TypeInfo) (z : Value) (ht : P.underlying t = some (.slice e)) (hi : P.info? e = some i) (hz : i.zero = some z)
    (kl kc : IntKind) (n c : Nat) (hnc : n ≤ c) (hbytes : i.bytes * c ≤ 281474976710656) (h63 : c ≤ 9223372036854775807) (w : World) :
    (Instr.makeSlice t (.int kl (n : Int)) (.int kc (c : Int))).run P w = .ok (.slice (some ⟨w.heap.size, 0, none⟩) n c) (w.alloc (.cells (madeCells z.cells (c * i.size)) e)) := by
  have hb : (i.bytes : Int) * (c : Int) ≤ 281474976710656 := by
    have h : ((i.bytes * c : Nat) : Int) ≤ 281474976710656 := by omega
    rwa [Int.natCast_mul] at h
  have hr := run_make (P := P) w t e i z ht hi hz kl kc n c (by omega) (by omega) hb (by omega)
  simp only [Int.toNat_natCast] at hr
  exact hr
theorem made_evs (w : World) (n : Nat) (t : TypeId) : (w.alloc (.cells (madeCells #[.int .i64 0, .int .i64 0, .int .i64 0, .int .i64 0] (n * 4)) t)).rowIs w.heap.size t (n * 4) (fun _ => .int .i64 0) :=
  ⟨_, heap_alloc_new w _, size_madeCells _ _, fun i hi => by
    have h2 : i % 4 = 0 ∨ i % 4 = 1 ∨ i % 4 = 2 ∨ i % 4 = 3 := by omega
    simp only [madeCells, Array.getElem?_map, Array.getElem?_range, hi, if_true, Option.map_some]
    rcases h2 with h | h | h | h <;> simp [h]⟩

def CopiedE (w : World) (n : Nat) (l : List Ev) (e : Ending) (w' : World) : Prop :=
  e = .returned (.slice (some ⟨w.heap.size, 0, none⟩) n n) ∧ Below w.heap.size w w' ∧ w'.rowIs w.heap.size 36 (n * 4) (fun i => (evCells l).getD i undef)
theorem CopiedE.row {w w' : World} {n : Nat} {l : List Ev} {e : Ending} (h : CopiedE w n l e w') (hn : l.length = n) : Row w' w'.heap.size (some ⟨w.heap.size, 0, none⟩) (evCells l) := by
  refine rowIs_row h.2.2 _ (by rw [evCells_len, hn]; exact Nat.le_refl _) fun i u hu => ?_
  rw [List.getD_eq_getElem?_getD, hu]
  rfl

set_option maxHeartbeats 2000000 in
theorem toEventS_any (A : Option Addr) (n c : Nat) (l : List Ev) (w : World) (hn : l.length = n) (hm : n ≤ 1048576) (hr : Row w w.heap.size A (evCells l)) :
    Calls Try.prog 17 #[.slice A n c] w (CopiedE w n l) := by
  obtain ⟨i0, hi0, hz0, hz1, hz2⟩ := info_parts info_ev
  have hmk : ∀ W : World, (Instr.makeSlice 25 (.int .i64 (n : Int)) (.int .i64 (n : Int))).run Try.prog W = .ok (.slice (some ⟨W.heap.size, 0, none⟩) n n) (W.alloc (.cells (madeCells #[.int .i64 0, .int .i64 0, .int .i64 0, .int .i64 0] (n * 4)) 36)) := fun W => by
    have h := run_make_rowN (P := Try.prog) 25 36 i0 _ Try.underlying25 hi0 hz0 .i64 .i64 n n (Nat.le_refl _) (by rw [hz2]; omega) (by omega) W
    rw [hz1] at h
    exact h
  have HN := Lib.hid hn
  clear hn hi0 hz0 hz1 hz2
  go_enter Try.func17, Try.ntmps17
  go_wp2_with fail
  clear hmk
  go_loopw [4] (fun i wx => ∃ k : Nat, k ≤ n ∧ i = .int .i64 k ∧ Below w.heap.size w wx ∧ wx.rowIs w.heap.size 36 (n * 4) (fun i => if i < k * 4 then (evCells l).getD i undef else .int .i64 0)) (fun i _ => n - (intOf i).toNat)
  case atStart => exact ⟨0, Nat.zero_le _, rfl, (Below.refl _ _).alloc (Nat.le_refl _) _, (made_evs w n _).congr (fun i hi => by simp)⟩
  case round =>
    obtain ⟨k, hk, rfl, hb, hrow⟩ := hrel
    by_cases hlt : k < n
    · have hl : k < l.length := by rw [HN.out]; exact hlt
      obtain ⟨b, off, rfl, hbw, hc0, hc1, hc2, hc3⟩ := ev_at (hr.below hb) hl
      have HC := Lib.hid (evCells_at l k hl)
      clear hr
      generalize l[k] = p at *
      obtain ⟨vbx, vkd, vsl, vmn⟩ := p
      simp only at hc0 hc1 hc2 hc3
      have hsz := hb.size
      go_wp2_with fail
      refine (toEvent_any ⟨vbx, vkd, vsl, vmn⟩ _).mono ?_
      rintro e w2 ⟨he, hb2⟩
      have he' : e = .returned (.agg #[.int .i64 vbx, .int .i64 vkd, .int .i64 vsl, .int .i64 vmn]) := he
      subst he'
      clear he
      have hb3 : Below w.heap.size w w2 := hb.trans (hb2.mono hsz)
      have hrow2 := hrow.of_block (hb2.block _ hrow.lt)
      have hd0 := hrow2.cell (i := k * 4) (by omega)
      have hd1 := hrow2.cell (i := k * 4 + 1) (by omega)
      have hd2 := hrow2.cell (i := k * 4 + 2) (by omega)
      have hd3 := hrow2.cell (i := k * 4 + 3) (by omega)
      have hf0 := hrow2.frozen (k * 4)
      have hf1 := hrow2.frozen (k * 4 + 1)
      have hf2 := hrow2.frozen (k * 4 + 2)
      have hf3 := hrow2.frozen (k * 4 + 3)
      rw [if_neg (by omega)] at hd0 hd1 hd2 hd3
      have HR := Lib.hid hrow2
      clear hrow hrow2 hb2 hc0 hc1 hc2 hc3 hb
      go_wp2_with fail
      go_roundw
      case rel =>
        refine ⟨k + 1, by omega, by go_num, (((hb3.setCell (Nat.le_refl _) _).setCell (Nat.le_refl _) _).setCell (Nat.le_refl _) _).setCell (Nat.le_refl _) _, ((((HR.out.set (k * 4) _).set (k * 4 + 1) _).set (k * 4 + 2) _).set (k * 4 + 3) _).congr fun i hi => ?_⟩
        obtain ⟨q0, q1, q2, q3⟩ := HC.out
        by_cases e3 : i = k * 4 + 3
        · subst e3
          simp only [if_true, List.getD_eq_getElem?_getD, q3]
          rw [if_pos (by omega)]
          rfl
        · by_cases e2 : i = k * 4 + 2
          · subst e2
            simp only [if_true, List.getD_eq_getElem?_getD, q2]
            rw [if_neg (by omega), if_pos (by omega)]
            rfl
          · by_cases e1 : i = k * 4 + 1
            · subst e1
              simp only [if_true, List.getD_eq_getElem?_getD, q1]
              rw [if_neg (by omega), if_neg (by omega), if_pos (by omega)]
              rfl
            · by_cases e0 : i = k * 4
              · subst e0
                simp only [if_true, List.getD_eq_getElem?_getD, q0]
                rw [if_neg (by omega), if_neg (by omega), if_neg (by omega), if_pos (by omega)]
                rfl
              · simp only [e3, e2, e1, e0, if_false]
                by_cases h2 : i < k * 4
                · rw [if_pos h2, if_pos (by omega)]
                · rw [if_neg h2, if_neg (by omega)]
      case measure => simp [intOf]; omega
    · obtain rfl : k = n := by omega
      go_wp2_with fail
      go_ret
      exact ⟨rfl, hb, hrow.congr fun i hi => by simp [hi]⟩

section
variable {H : Type} {enc : TypeId × Value → H} {P : Program} {w : World} {base : Nat} {spare : Nat → Bool} {held : Bool}
theorem open_slice_fields {t e : TypeId} {fs : Array Field} {fuel : Nat} {cs : List Value} {x : DataW H × List MemPlace} (ht : P.underlying t = some (.slice e)) (he : P.underlying e = some (.struct fs))
    (hone : oneCellFields P fs = true) (hC : P.cellsOf e = fs.size) (h : DataW.trod enc P w base spare held fuel t cs = some x) :
    (cs = [.slice none 0 0] ∧ x = (.nil, [])) ∨
    ∃ (a : Addr) (len cap m : Nat), cs = [.slice (some a) len cap] ∧ len ≤ cap ∧ cap ≤ maxLen ∧ m = (if spare a.block then cap else len) ∧
      ∀ i, i < m → ∃ (n : Nat), ∀ (j : Nat) (f : Field), fs[j]? = some f → ∃ (v : Value) (y : DataW H × List MemPlace), w.cell? (a.add (i * fs.size + j)) = some v ∧ DataW.trod enc P w base spare held n f.type [v] = some y := by
  rcases open_slice ht h with h0 | ⟨a, len, cap, m, n, D, Pl, hcs, hb, hl, hm, hmm, hx, hi⟩
  · exact .inl h0
  · refine .inr ⟨a, len, cap, m, hcs, hl, hm, hmm, fun i him => ?_⟩
    obtain ⟨cs', hc, ht'⟩ := hi i him
    rw [hC] at hc
    obtain ⟨ys, n', hn', hy, hlen, hyl, hf⟩ := DataW.trod_struct he ht'
    obtain ⟨_, hcl, hat⟩ := World.cells?_some hc
    refine ⟨n', fun j f hj => ?_⟩
    obtain ⟨ho, hk⟩ := hone_of hone j f hj
    have hjl : j < fs.size := (Array.getElem?_eq_some_iff.1 hj).1
    have hcell := hat j hjl
    have hv : cs'[j]? = some (cs'[j]'(by omega)) := List.getElem?_eq_getElem (by omega)
    have h1 := hf j f hj
    rw [ho, hk] at h1
    have hone' : (cs'.drop j).take 1 = [cs'[j]'(by omega)] := by
      rw [List.drop_eq_getElem_cons (by omega)]
      rfl
    rw [hone'] at h1
    have hys : ys[j]? = some (ys[j]'(by omega)) := List.getElem?_eq_getElem (by omega)
    refine ⟨_, _, ?_, h1.trans hys⟩
    rw [← Go.Deep.add_add, hcell, hv]
end

theorem choose_list {α : Type} [Inhabited α] (n : Nat) (R : Nat → α → Prop) (h : ∀ i, i < n → ∃ a, R i a) : ∃ l : List α, l.length = n ∧ ∀ i (hi : i < l.length), R i l[i] := by
  induction n with
  | zero => exact ⟨[], rfl, fun i hi => absurd hi (by simp)⟩
  | succ n ih =>
    obtain ⟨l, hl, hr⟩ := ih fun i hi => h i (by omega)
    obtain ⟨a, ha⟩ := h n (by omega)
    refine ⟨l ++ [a], by simp [hl], fun i hi => ?_⟩
    by_cases e : i < l.length
    · rw [List.getElem_append_left e]
      exact hr i e
    · have : i = n := by simp [hl] at hi; omega
      subst this
      rw [List.getElem_append_right (by omega)]
      simpa [hl] using ha


def evSl (z : Option Addr × Nat × Nat × List Ev) : Value := .slice z.1 z.2.1 z.2.2.1
def IsEvs (w : World) (z : Option Addr × Nat × Nat × List Ev) : Prop := z.2.2.2.length = z.2.1 ∧ z.2.1 ≤ z.2.2.1 ∧ z.2.2.1 ≤ maxLen ∧ Row w w.heap.size z.1 (evCells z.2.2.2)
set_option maxRecDepth 100000 in
theorem opn_22 {H : Type} {enc : TypeId × Value → H} {W : World} {base : Nat} {v : Value} {d : DataW H} {p : List MemPlace}
    (hv : Value.okWide Try.prog W .any base 22 v) (h : DataW.Trod enc Try.prog W 0 (fun _ => true) true 22 v d p) : ∃ z, v = evSl z ∧ IsEvs W z := by
  obtain ⟨a, len, cap, rfl⟩ := okWide_slice Try.underlying22 hv
  obtain ⟨fuel, hf⟩ := h
  rcases open_slice_fields Try.underlying22 Try.underlying49 (by kernel_rfl) (by kernel_rfl) hf with ⟨hcs, _⟩ | ⟨x, l, c, m, hcs, hl, hm, hmm, hx⟩
  · simp [Value.cells] at hcs
    obtain ⟨rfl, rfl, rfl⟩ := hcs
    exact ⟨(none, 0, 0, []), rfl, rfl, Nat.le_refl _, Nat.zero_le _, .inl rfl⟩
  · simp [Value.cells] at hcs
    obtain ⟨rfl, rfl, rfl⟩ := hcs
    simp only [if_true] at hmm
    have key : ∀ i, i < len → ∃ q : Ev, W.cell? (x.add (i * 4)) = some (.int .i64 q.bx) ∧ W.cell? (x.add (i * 4 + 1)) = some (.int .i64 q.kd) ∧ W.cell? (x.add (i * 4 + 2)) = some (.int .i64 q.sl) ∧ W.cell? (x.add (i * 4 + 3)) = some (.int .i64 q.mn) := by
      intro i hi
      obtain ⟨n, hn⟩ := hx i (by omega)
      obtain ⟨v0, y0, c0, t0⟩ := hn 0 _ rfl
      obtain ⟨v1, y1, c1, t1⟩ := hn 1 _ rfl
      obtain ⟨v2, y2, c2, t2⟩ := hn 2 _ rfl
      obtain ⟨v3, y3, c3, t3⟩ := hn 3 _ rfl
      obtain ⟨s0, e0, _, _⟩ := DataW.trod_int Try.underlying3 t0
      obtain ⟨s1, e1, _, _⟩ := DataW.trod_int Try.underlying3 t1
      obtain ⟨s2, e2, _, _⟩ := DataW.trod_int Try.underlying3 t2
      obtain ⟨s3, e3, _, _⟩ := DataW.trod_int Try.underlying3 t3
      simp at e0 e1 e2 e3
      subst e0 e1 e2 e3
      exact ⟨⟨s0, s1, s2, s3⟩, by simpa using c0, by simpa using c1, by simpa using c2, by simpa using c3⟩
    obtain ⟨es, hpl, hps⟩ := choose_list len _ key
    refine ⟨(some x, len, cap, es), rfl, hpl, hl, hm, ?_⟩
    by_cases h0 : len = 0
    · exact .inl (by rw [List.eq_nil_of_length_eq_zero (hpl.trans h0)]; rfl)
    · obtain ⟨b, off, spot⟩ := x
      have h1 := (hps 0 (by omega)).1
      have hs : spot = none := by simpa [Addr.add] using World.cell?_spot h1
      subst hs
      have hlt : b < W.heap.size := by
        by_cases hlt : b < W.heap.size
        · exact hlt
        · simp [World.cell?, Addr.add, Array.getElem?_eq_none (show W.heap.size ≤ b by omega)] at h1
      refine .inr ⟨b, off, rfl, hlt, fun j u hu => ?_⟩
      have hj : j < es.length * 4 := by
        have := (List.getElem?_eq_some_iff.1 hu).1
        rwa [evCells_len] at this
      have hk : j / 4 < es.length := by omega
      have hat := evCells_at es (j / 4) hk
      have hce := hps (j / 4) hk
      rw [cell_add, cell_add, cell_add, cell_add] at hce
      obtain ⟨a0, a1, a2, a3⟩ := hat
      obtain ⟨c0, c1, c2, c3⟩ := hce
      have h4 : j = j / 4 * 4 ∨ j = j / 4 * 4 + 1 ∨ j = j / 4 * 4 + 2 ∨ j = j / 4 * 4 + 3 := by omega
      rcases h4 with e | e | e | e
      · have hu' : (evCells es)[j / 4 * 4]? = some u := by rw [← e]; exact hu
        rw [a0] at hu'
        injection hu' with hu'
        rw [e, ← hu']
        exact c0
      · have hu' : (evCells es)[j / 4 * 4 + 1]? = some u := by rw [← e]; exact hu
        rw [a1] at hu'
        injection hu' with hu'
        rw [e, ← hu']
        exact c1
      · have hu' : (evCells es)[j / 4 * 4 + 2]? = some u := by rw [← e]; exact hu
        rw [a2] at hu'
        injection hu' with hu'
        rw [e, ← hu']
        exact c2
      · have hu' : (evCells es)[j / 4 * 4 + 3]? = some u := by rw [← e]; exact hu
        rw [a3] at hu'
        injection hu' with hu'
        rw [e, ← hu']
        exact c3

set_option maxHeartbeats 1000000 in
theorem FnExactLedgerValid_walk (z : Option Addr × Nat × Nat × List Ev) (w : World) (w0 : IsEvs w z) :
    Calls Try.prog 3 #[evSl z] w fun e w' => e = .returned (.bool true) ∧ Below w.heap.size w w' := by
  obtain ⟨A, n, c, l⟩ := z
  obtain ⟨hn, h1, h2, hr⟩ := w0
  simp only at hn h1 h2 hr
  show Calls Try.prog 3 #[.slice A n c] w _
  have HN := Lib.hid hn
  have HR := Lib.hid hr
  clear hn hr
  go_enter Try.func3, Try.ntmps3
  go_wp2_with fail
  refine (szEventS_any _ _ _ _ (Nat.le_trans h1 h2)).mono ?_
  rintro e w' ⟨r, rfl, r0, r1, hsm, rfl⟩
  by_cases hneg : r < 0
  · go_wp2_with fail
    go_ret
    exact ⟨rfl, Below.refl _ _⟩
  have hm := hsm (by omega)
  clear hsm h2
  go_wp2_with fail
  refine (toEventS_any _ _ _ l _ HN.out hm HR.out).mono ?_
  intro e w2 C2
  have hq2 := C2.row HN.out
  obtain ⟨rfl, hb2, _⟩ := C2
  go_wp2_with fail
  refine (sLedgerValid_any _ _ _ l _ HN.out hm hq2).mono ?_
  rintro e w3 ⟨rfl, hb3⟩
  have B3 := hb2.trans (hb3.mono hb2.size)
  clear hq2 hb2 hb3
  go_wp2_with fail
  refine (toEventS_any _ _ _ l _ HN.out hm ((HR.out.below B3).more B3.size)).mono ?_
  intro e w4 C4
  have hq4 := C4.row HN.out
  obtain ⟨rfl, hb4, _⟩ := C4
  go_wp2_with fail
  refine (LedgerValid_any _ _ _ l _ HN.out hm hq4).mono ?_
  rintro e w5 ⟨rfl, hb5⟩
  have hq5 := (hq4.below hb5).more hb5.size
  have B4 := B3.trans (hb4.mono B3.size)
  have B5 := B4.trans (hb5.mono B4.size)
  clear hq4 hb4 hb5 B3 B4
  go_wp2_with fail
  refine (toEventS_any _ _ _ l _ HN.out hm ((HR.out.below B5).more B5.size)).mono ?_
  intro e w6 C6
  have hq6 := C6.row HN.out
  obtain ⟨rfl, hb6, _⟩ := C6
  have hq7 := (hq5.below hb6).more hb6.size
  have B6 := B5.trans (hb6.mono B5.size)
  clear hq5 hb6 B5
  go_wp2_with fail
  refine (eqEventS_same _ _ _ _ _ l _ HN.out hm hq7 hq6).mono ?_
  rintro e w7 ⟨rfl, hb7⟩
  clear hq6 hq7
  go_wp2_with fail
  go_ret
  exact ⟨rfl, B6.trans (hb7.mono B6.size)⟩

end Go.Proofs.Ytdmgaafmmjeelaa
