/- What the laws' helpers on piles and precincts do: sizes, copies, comparisons. The conditions stand in each theorem. -/
import Derived.Test.YtkpgbombikgffaaPrec
import Derived.Test.YtkpgbombikgffaaPile2
namespace Go.Proofs.Ytkpgbombikgffaa
open Go.RowKit Go.ChangeShapes
set_option linter.unusedVariables false

def szPl (p : Pl) (left : Int) : Int := if left - p.1.size < 0 then -1 else left - p.1.size
theorem szPl_bd (p : Pl) (left : Int) (h : left ≤ 1048576) : -1 ≤ szPl p left ∧ szPl p left ≤ 1048576 ∧ (0 ≤ szPl p left → smallPl p) := by
  unfold szPl smallPl
  split <;> omega
set_option maxHeartbeats 1000000 in
theorem szPile_any (p : Pl) (left : Int) (w : World) (h0 : 0 ≤ left) (h1 : left ≤ 1048576) (hs1 : p.1.size ≤ maxLen) :
    Calls Try.prog 82 #[plV p, .int .i64 left] w (SaysI w (szPl p left)) := by
  obtain ⟨a, b⟩ := p
  simp only at hs1
  unfold maxLen at hs1
  show Calls Try.prog 82 #[.agg #[.string a, .int .i64 b], .int .i64 left] w _
  by_cases h2 : left - a.size < 0
  · have HQ : Hid (szPl (a, b) left = -1) := if_pos h2
    go_enter Try.func82, Try.ntmps82
    go_wp2
    go_ret
    exact ⟨ret_int HQ.out.symm, (Below.refl _ _).alloc (Nat.le_refl _) _⟩
  · have HQ : Hid (szPl (a, b) left = left - a.size) := if_neg h2
    go_enter Try.func82, Try.ntmps82
    go_wp2
    go_ret
    exact ⟨ret_int HQ.out.symm, (Below.refl _ _).alloc (Nat.le_refl _) _⟩

/-- If something is left, there are few piles, and each is small. -/
def SzL (w : World) (ps : List Pl) (e : Ending) (w' : World) : Prop :=
  ∃ r : Int, e = .returned (.int .i64 r) ∧ -1 ≤ r ∧ r ≤ 1048576 ∧ (0 ≤ r → ps.length ≤ 1048576 ∧ ∀ p ∈ ps, smallPl p) ∧ Below w.heap.size w w'
set_option maxHeartbeats 1000000 in
theorem szPileS_any (A : Option Addr) (n c : Nat) (ps : List Pl) (left : Int) (w : World) (h0 : 0 ≤ left) (h1 : left ≤ 1048576) (hn : ps.length = n) (hm : n ≤ maxLen) (hs : ∀ p ∈ ps, longPl p) (ha : Row w w.heap.size A (plCells ps)) :
    Calls Try.prog 75 #[.slice A n c, .int .i64 left] w (SzL w ps) := by
  have HN := Lib.hid hn
  have HS := Lib.hid hs
  clear hn hs
  unfold maxLen at hm
  by_cases hbig : left < n
  · clear ha
    go_enter Try.func75, Try.ntmps75
    go_wp2_with fail
    go_ret
    exact ⟨-1, rfl, by omega, by omega, fun h => absurd h (by omega), Below.refl _ _⟩
  go_enter Try.func75, Try.ntmps75
  go_wp2_with fail
  go_loopw [1, 5] (fun s i wx => ∃ (k : Nat) (r : Int), k ≤ n ∧ i = .int .i64 k ∧ s = .int .i64 r ∧ 0 ≤ r ∧ r ≤ 1048576 ∧ Below w.heap.size w wx ∧ Hid (∀ p ∈ ps.take k, smallPl p)) (fun _ i _ => n - (intOf i).toNat)
  case atStart => exact ⟨0, _, Nat.zero_le _, rfl, rfl, by omega, by omega, Below.refl _ _, by simp [Hid]⟩
  case round =>
    obtain ⟨k, r, hk, rfl, rfl, r0, r1, hbel, HX⟩ := hrel
    have ha' := (ha.below hbel).more hbel.size
    clear ha
    by_cases hlt : k < n
    · have hl : k < ps.length := by rw [HN.out]; exact hlt
      obtain ⟨b, off, rfl, hbw, hc0, hc1⟩ := pile_at ha' hl
      have HP := Lib.hid (HS.out _ (List.getElem_mem hl))
      have HM : Hid (∀ y, y ∈ ps.take (k + 1) → y ∈ ps.take k ∨ y = ps[k]) := fun y hy => by
        rw [List.take_succ_eq_append_getElem hl] at hy
        exact (List.mem_append.1 hy).imp_right List.mem_singleton.1
      clear ha'
      generalize ps[k] = p at *
      obtain ⟨pa, pb⟩ := p
      simp only at hc0 hc1
      have hz := szPl_bd (pa, pb) r r1
      go_wp2_with fail
      refine (szPile_any (pa, pb) r _ r0 r1 HP.out).mono ?_
      rintro e w2 ⟨rfl, hb2⟩
      have hbel2 : Below w.heap.size w w2 := hbel.trans (hb2.mono hbel.size)
      clear hb2 hc0 hc1
      by_cases hneg : szPl (pa, pb) r < 0
      · generalize szPl (pa, pb) r = z at *
        clear hz
        go_wp2_with fail
        go_ret
        exact ⟨-1, rfl, by omega, by omega, fun h => absurd h (by omega), hbel2⟩
      · have HQ := Lib.hid (hz.2.2 (by omega))
        have hz1 := hz.2.1
        clear hz
        generalize szPl (pa, pb) r = z at *
        go_wp2_with fail
        go_roundw
        case rel =>
          refine ⟨k + 1, _, by omega, by go_num, rfl, by omega, by omega, hbel2, fun p hp => ?_⟩
          rcases HM.out p hp with hp | hp
          · exact HX.out p hp
          · rw [hp]
            exact HQ.out
        case measure => simp [intOf]; omega
    · clear ha'
      go_wp2_with fail
      go_ret
      refine ⟨_, rfl, by omega, by omega, fun _ => ⟨by rw [HN.out]; omega, ?_⟩, hbel⟩
      have h1 := HX.out
      rw [List.take_of_length_le (by rw [HN.out]; omega)] at h1
      exact h1

set_option maxHeartbeats 1000000 in
theorem szPrecinct_any (p : Pc) (left : Int) (w : World) (h0 : 0 ≤ left) (h1 : left ≤ 1048576) (hp : PcIn w w.heap.size p) (hs : ∀ q ∈ p.ps, longPl q) :
    Calls Try.prog 65 #[pcV p, .int .i64 left] w (SzL w p.ps) := by
  obtain ⟨pid, A, n, c, ps⟩ := p
  obtain ⟨hn, hc1, hc2, hr⟩ := hp
  simp only at hn hc1 hc2 hr hs
  show Calls Try.prog 65 #[.agg #[.int .i64 pid, .slice A n c], .int .i64 left] w (SzL w ps)
  have hmx := Nat.le_trans hc1 hc2
  have hb1 : Below w.heap.size w (w.alloc (.cells #[.int .i64 pid, .slice A n c] 83)) := (Below.refl _ _).alloc (Nat.le_refl _) _
  have HC := Lib.hid (szPileS_any A n c ps left (w.alloc (.cells #[.int .i64 pid, .slice A n c] 83)) h0 h1 hn hmx hs ((hr.below hb1).more hb1.size))
  clear hn hc1 hc2 hr hs hmx
  go_enter Try.func65, Try.ntmps65
  go_wp2_with fail
  refine HC.out.mono ?_
  rintro e w2 ⟨r, rfl, r0, r1, hr, hb2⟩
  have HR := Lib.hid hr
  have hb3 := hb1.trans (hb2.mono hb1.size)
  clear hr hb2 hb1
  by_cases hneg : r < 0
  · go_wp2_with fail
    go_ret
    exact ⟨-1, rfl, by omega, by omega, fun h => absurd h (by omega), hb3⟩
  · go_wp2_with fail
    go_ret
    exact ⟨r, rfl, r0, r1, HR.out, hb3⟩

def SzC (w : World) (l : List Pc) (e : Ending) (w' : World) : Prop :=
  ∃ r : Int, e = .returned (.int .i64 r) ∧ -1 ≤ r ∧ r ≤ 1048576 ∧ (0 ≤ r → l.length ≤ 1048576 ∧ ∀ p ∈ l, p.ps.length ≤ 1048576 ∧ ∀ q ∈ p.ps, smallPl q) ∧ Below w.heap.size w w'
set_option maxHeartbeats 1000000 in
theorem szPrecinctS_any (A : Option Addr) (n c : Nat) (l : List Pc) (w : World) (hn : l.length = n) (hm : n ≤ maxLen) (hs : ∀ p ∈ l, PcIn w w.heap.size p ∧ ∀ q ∈ p.ps, longPl q) (ha : Row w w.heap.size A (pcCells l)) :
    Calls Try.prog 45 #[.slice A n c, .int .i64 1048576] w (SzC w l) := by
  have HN := Lib.hid hn
  have HS := Lib.hid hs
  clear hn hs
  unfold maxLen at hm
  by_cases hbig : 1048576 < n
  · clear ha
    go_enter Try.func45, Try.ntmps45
    go_wp2_with fail
    go_ret
    exact ⟨-1, rfl, by omega, by omega, fun h => absurd h (by omega), Below.refl _ _⟩
  go_enter Try.func45, Try.ntmps45
  go_wp2_with fail
  go_loopw [1, 5] (fun s i wx => ∃ (k : Nat) (r : Int), k ≤ n ∧ i = .int .i64 k ∧ s = .int .i64 r ∧ 0 ≤ r ∧ r ≤ 1048576 ∧ Below w.heap.size w wx ∧ Hid (∀ p ∈ l.take k, p.ps.length ≤ 1048576 ∧ ∀ q ∈ p.ps, smallPl q)) (fun _ i _ => n - (intOf i).toNat)
  case atStart => exact ⟨0, _, Nat.zero_le _, rfl, rfl, by omega, by omega, Below.refl _ _, by simp [Hid]⟩
  case round =>
    obtain ⟨k, r, hk, rfl, rfl, r0, r1, hbel, HX⟩ := hrel
    have ha' := (ha.below hbel).more hbel.size
    clear ha
    by_cases hlt : k < n
    · have hl : k < l.length := by rw [HN.out]; exact hlt
      obtain ⟨b, off, rfl, hbw, hc0, hc1⟩ := prec_at ha' hl
      have hp := HS.out _ (List.getElem_mem hl)
      have HP := Lib.hid (szPrecinct_any l[k] r wr r0 r1 ((hp.1.below hbel).more hbel.size) hp.2)
      have HM : Hid (∀ y, y ∈ l.take (k + 1) → y ∈ l.take k ∨ y = l[k]) := fun y hy => by
        rw [List.take_succ_eq_append_getElem hl] at hy
        exact (List.mem_append.1 hy).imp_right List.mem_singleton.1
      clear ha' hp
      generalize l[k] = p at *
      obtain ⟨pid, pA, pn, pc, pps⟩ := p
      simp only at hc0 hc1
      go_wp2_with fail
      refine HP.out.mono ?_
      rintro e w2 ⟨z, rfl, z0, z1, hz, hb2⟩
      have hbel2 : Below w.heap.size w w2 := hbel.trans (hb2.mono hbel.size)
      have HQ := Lib.hid hz
      clear hb2 hc0 hc1 hz
      by_cases hneg : z < 0
      · go_wp2_with fail
        go_ret
        exact ⟨-1, rfl, by omega, by omega, fun h => absurd h (by omega), hbel2⟩
      · go_wp2_with fail
        go_roundw
        case rel =>
          refine ⟨k + 1, _, by omega, by go_num, rfl, by omega, by omega, hbel2, fun p hp => ?_⟩
          rcases HM.out p hp with hp | hp
          · exact HX.out p hp
          · rw [hp]
            exact HQ.out (by omega)
        case measure => simp [intOf]; omega
    · clear ha'
      go_wp2_with fail
      go_ret
      refine ⟨_, rfl, by omega, by omega, fun _ => ⟨by rw [HN.out]; omega, ?_⟩, hbel⟩
      have h1 := HX.out
      rw [List.take_of_length_le (by rw [HN.out]; omega)] at h1
      exact h1

theorem Row.far {w : World} {B : Nat} {A : Option Addr} {xs : List Value} (h : Row w B A xs) {b : Nat} (hA : ∀ ad, A = some ad → b < ad.block) (o : Nat) (u : Value) : Row (w.setCell ⟨b, o, none⟩ u) B A xs := by
  rcases h with h | ⟨b', off, e, hb, hc⟩
  · exact .inl h
  · exact .inr ⟨b', off, e, hb, fun j v hv => (World.cell?_setCell_other w _ _ u (fun e' => by have := hA _ e; injection e' with e'; simp only at this; omega)).trans (hc j v hv)⟩
/-- The piles of a precinct lie above block b. -/
def PcOut (w : World) (b : Nat) (p : Pc) : Prop := PcIn w w.heap.size p ∧ ∀ ad, p.A = some ad → b < ad.block
theorem PcOut.set {w : World} {b : Nat} {p : Pc} (h : PcOut w b p) (o : Nat) (u : Value) : PcOut (w.setCell ⟨b, o, none⟩ u) b p :=
  ⟨⟨h.1.len, h.1.cap, h.1.max, (h.1.row.far h.2 o u).more (by simp [World.setCell])⟩, h.2⟩
theorem PcOut.below {w w' : World} {b : Nat} {p : Pc} (h : PcOut w b p) (hb : Below w.heap.size w w') : PcOut w' b p := ⟨(h.1.below hb).more hb.size, h.2⟩
theorem Blk.below_ {w w' : World} {b B : Nat} {t : TypeId} {cs : Array Value} (h : Blk w b t cs) (hb : Below B w w') (hlt : b < B) : Blk w' b t cs := (hb.block b hlt).trans h
/-- A copy of a precinct: the same number, the piles in a block of their own. -/
def CopiedPc (w : World) (p : Pc) (e : Ending) (w' : World) : Prop :=
  ∃ q : Pc, e = .returned (pcV q) ∧ core q = core p ∧ PcIn w' w'.heap.size q ∧ (∀ ad, q.A = some ad → w.heap.size ≤ ad.block) ∧ Below w.heap.size w w'
set_option maxHeartbeats 1000000 in
theorem toPrecinct_any (p : Pc) (w : World) (hp : PcIn w w.heap.size p) (hm : p.ps.length ≤ 1048576) :
    Calls Try.prog 67 #[pcV p] w (CopiedPc w p) := by
  obtain ⟨pid, A, n, c, ps⟩ := p
  obtain ⟨hn, hc1, hc2, hr⟩ := hp
  simp only at hn hc1 hc2 hr hm
  show Calls Try.prog 67 #[.agg #[.int .i64 pid, .slice A n c]] w (CopiedPc w ⟨pid, A, n, c, ps⟩)
  rw [hn] at hm
  have HN := Lib.hid hn
  clear hn
  go_enter Try.func67, Try.ntmps67
  go_wp2_with fail
  have hb3 : Below w.heap.size w (((w.alloc (.cells #[.int .i64 pid, .slice A n c] 83)).alloc (.cells #[.int .i64 0, .slice none 0 0] 86)).alloc (.cells #[.int .i64 pid, .slice none 0 0] 86)) := (((Below.refl _ _).alloc (Nat.le_refl _) _).alloc (by simp) _).alloc (by simp; omega) _
  have K1 : Blk (((w.alloc (.cells #[.int .i64 pid, .slice A n c] 83)).alloc (.cells #[.int .i64 0, .slice none 0 0] 86)).alloc (.cells #[.int .i64 pid, .slice none 0 0] 86)) (w.heap.size + 1) 86 #[.int .i64 0, .slice none 0 0] := by
    have h := (Blk.new (w.alloc (.cells #[.int .i64 pid, .slice A n c] 83)) 86 #[.int .i64 0, .slice none 0 0]).alloc (.cells #[.int .i64 pid, .slice none 0 0] 86)
    simpa using h
  have K2 : Blk (((w.alloc (.cells #[.int .i64 pid, .slice A n c] 83)).alloc (.cells #[.int .i64 0, .slice none 0 0] 86)).alloc (.cells #[.int .i64 pid, .slice none 0 0] 86)) (w.heap.size + 1 + 1) 86 #[.int .i64 pid, .slice none 0 0] := by
    have h := Blk.new ((w.alloc (.cells #[.int .i64 pid, .slice A n c] 83)).alloc (.cells #[.int .i64 0, .slice none 0 0] 86)) 86 #[.int .i64 pid, .slice none 0 0]
    simpa using h
  have hsz : (((w.alloc (.cells #[.int .i64 pid, .slice A n c] 83)).alloc (.cells #[.int .i64 0, .slice none 0 0] 86)).alloc (.cells #[.int .i64 pid, .slice none 0 0] 86)).heap.size = w.heap.size + 3 := by simp
  have HSZ := Lib.hid hsz
  have hr3 := (hr.below hb3).more hb3.size
  clear hsz hr
  generalize ((w.alloc (.cells #[.int .i64 pid, .slice A n c] 83)).alloc (.cells #[.int .i64 0, .slice none 0 0] 86)).alloc (.cells #[.int .i64 pid, .slice none 0 0] 86) = w3 at *
  refine (toPileS_any A n c ps w3 HN.out hm hr3).mono ?_
  intro e w4 C4
  have hq4 := C4.row HN.out
  obtain ⟨he, hb4, _⟩ := C4
  subst he
  rw [HSZ.out] at hb4 hq4
  rw [HSZ.out]
  have L1 := K1.below_ hb4 (by omega)
  have L2 := K2.below_ hb4 (by omega)
  have d0 := L1.cell 0
  have d1 := L1.cell 1
  have d2 := L2.cell 0
  have d3 := L2.cell 1
  simp at d0 d1 d2 d3
  have f0 := L1.frozen 0
  have f1 := L1.frozen 1
  have f2 := L2.frozen 0
  have f3 := L2.frozen 1
  have HB3 := Lib.hid hb3
  have HB4 := Lib.hid hb4
  have HL1 := Lib.hid L1
  have HL2 := Lib.hid L2
  clear hb3 hb4 K1 K2 hr3 L1 L2
  go_wp2_with fail
  have hA : ∀ ad : Addr, some (⟨w.heap.size + 3, 0, none⟩ : Addr) = some ad → w.heap.size + 2 < ad.block := fun ad h => by
    injection h with h
    subst h
    simp only
    omega
  refine bodyPost_ret (v := .agg #[.int .i64 pid, .slice (some ⟨w.heap.size + 3, 0, none⟩) n n]) (by simp [results, Try.results67, go_sem, d0, d1]) rfl ⟨⟨pid, some ⟨w.heap.size + 3, 0, none⟩, n, n, ps⟩, rfl, rfl, ⟨HN.out, Nat.le_refl _, ?_, ?_⟩, fun ad h => ?_, ?_⟩
  · show n ≤ maxLen
    unfold maxLen
    omega
  · exact (((hq4.far (fun ad h => by have := hA ad h; omega) _ _).far (fun ad h => by have := hA ad h; omega) _ _).far (fun ad h => by have := hA ad h; omega) _ _).more (by simp [World.setCell])
  · have := hA ad h
    omega
  · exact (((HB3.out.trans (HB4.out.mono (by omega))).setCell (by simp only; omega) _).setCell (by simp only; omega) _).setCell (by simp only; omega) _

theorem info_prec : (Try.prog.info? 86).map (fun i => (i.zero, i.size, i.bytes)) = some (some (.agg #[.int .i64 0, .slice none 0 0]), 2, 32) := by kernel_rfl
theorem made_precs (w : World) (n : Nat) (t : TypeId) : (w.alloc (.cells (madeCells #[.int .i64 0, .slice none 0 0] (n * 2)) t)).rowIs w.heap.size t (n * 2) (fun i => if i % 2 = 0 then .int .i64 0 else .slice none 0 0) :=
  ⟨_, heap_alloc_new w _, size_madeCells _ _, fun i hi => by
    have h2 : i % 2 = 0 ∨ i % 2 = 1 := by omega
    simp only [madeCells, Array.getElem?_map, Array.getElem?_range, hi, if_true, Option.map_some]
    rcases h2 with h | h <;> simp [h]⟩

def CopiedPcS (w : World) (n : Nat) (l : List Pc) (e : Ending) (w' : World) : Prop :=
  ∃ l' : List Pc, e = .returned (.slice (some ⟨w.heap.size, 0, none⟩) n n) ∧ l'.map core = l.map core ∧ Below w.heap.size w w' ∧ (∀ p ∈ l', PcIn w' w'.heap.size p) ∧ Row w' w'.heap.size (some ⟨w.heap.size, 0, none⟩) (pcCells l')

set_option maxHeartbeats 1000000 in
theorem toPrecinctS_any (A : Option Addr) (n c : Nat) (l : List Pc) (w : World) (hn : l.length = n) (hm : n ≤ 1048576) (hs : ∀ p ∈ l, PcIn w w.heap.size p ∧ p.ps.length ≤ 1048576) (hr : Row w w.heap.size A (pcCells l)) :
    Calls Try.prog 47 #[.slice A n c] w (CopiedPcS w n l) := by
  obtain ⟨i0, hi0, hz0, hz1, hz2⟩ := info_parts info_prec
  have hmk : ∀ W : World, (Instr.makeSlice 63 (.int .i64 (n : Int)) (.int .i64 (n : Int))).run Try.prog W = .ok (.slice (some ⟨W.heap.size, 0, none⟩) n n) (W.alloc (.cells (madeCells #[.int .i64 0, .slice none 0 0] (n * 2)) 86)) := fun W => by
    have h := run_make_rowN (P := Try.prog) 63 86 i0 _ Try.underlying63 hi0 hz0 .i64 .i64 n n (Nat.le_refl _) (by rw [hz2]; omega) (by omega) W
    rw [hz1] at h
    exact h
  have HN := Lib.hid hn
  have HS := Lib.hid hs
  clear hn hs hi0 hz0 hz1 hz2
  go_enter Try.func47, Try.ntmps47
  go_wp2_with fail
  clear hmk
  go_loopw [4] (fun i wx => ∃ (k : Nat) (m : List Pc), k ≤ n ∧ i = .int .i64 k ∧ Below w.heap.size w wx ∧ Hid (m.length = k ∧ m.map core = (l.take k).map core ∧ ∀ p ∈ m, PcOut wx w.heap.size p) ∧ wx.rowIs w.heap.size 86 (n * 2) (fun i => if i < k * 2 then (pcCells m).getD i undef else if i % 2 = 0 then .int .i64 0 else .slice none 0 0)) (fun i _ => n - (intOf i).toNat)
  case atStart => exact ⟨0, [], Nat.zero_le _, rfl, (Below.refl _ _).alloc (Nat.le_refl _) _, ⟨rfl, by simp, fun p hp => by cases hp⟩, (made_precs w n _).congr (fun i hi => by simp)⟩
  case round =>
    obtain ⟨k, m, hk, rfl, hb, HX, hrow⟩ := hrel
    by_cases hlt : k < n
    · have hl : k < l.length := by rw [HN.out]; exact hlt
      obtain ⟨b, off, rfl, hbw, hc0, hc1⟩ := prec_at (hr.below hb) hl
      have hp := HS.out _ (List.getElem_mem hl)
      have HP := Lib.hid (toPrecinct_any l[k] wr ((hp.1.below hb).more hb.size) hp.2)
      have HT : Hid ((l.take (k + 1)).map core = (l.take k).map core ++ [core l[k]]) := by
        show _ = _
        rw [List.take_succ_eq_append_getElem hl, List.map_append]
        rfl
      clear hr hp
      generalize l[k] = p at *
      obtain ⟨pid, pA, pn, pc, pps⟩ := p
      simp only at hc0 hc1
      have hsz := hb.size
      go_wp2_with fail
      refine HP.out.mono ?_
      rintro e w2 ⟨⟨qid, qA, qn, qc, qps⟩, he, hq1, hq2, hq3, hb2⟩
      have he' : e = .returned (.agg #[.int .i64 qid, .slice qA qn qc]) := he
      subst he'
      have HQ := Lib.hid (And.intro hq1 (And.intro hq2 (And.intro hq3 hb2)))
      clear he HP hq1 hq2 hq3
      have hb3 : Below w.heap.size w w2 := hb.trans (hb2.mono hsz)
      have hltb := hrow.lt
      have hrow2 := hrow.of_block (hb2.block _ hrow.lt)
      have hd0 := hrow2.cell (i := k * 2) (by omega)
      have hd1 := hrow2.cell (i := k * 2 + 1) (by omega)
      have hf0 := hrow2.frozen (k * 2)
      have hf1 := hrow2.frozen (k * 2 + 1)
      rw [if_neg (by omega), if_pos (by omega)] at hd0
      rw [if_neg (by omega), if_neg (by omega)] at hd1
      have HR := Lib.hid hrow2
      clear hrow hrow2 hb2 hc0 hc1 hb
      go_wp2_with fail
      go_roundw
      case rel =>
        have ml := HX.out.1
        have mc := pcCells_len m
        rw [ml] at mc
        refine ⟨k + 1, m ++ [⟨qid, qA, qn, qc, qps⟩], by omega, by go_num, (hb3.setCell (Nat.le_refl _) _).setCell (Nat.le_refl _) _, ⟨by simp [ml], ?_, fun p hp => ?_⟩, ((HR.out.set (k * 2) _).set (k * 2 + 1) _).congr fun i hi => ?_⟩
        · rw [HT.out, List.map_append, HX.out.2.1]
          show _ ++ [core _] = _
          rw [HQ.out.1]
        · rcases List.mem_append.1 hp with hp | hp
          · exact (((HX.out.2.2 p hp).below HQ.out.2.2.2).set _ _).set _ _
          · rw [List.mem_singleton.1 hp]
            have h : PcOut w2 w.heap.size ⟨qid, qA, qn, qc, qps⟩ := ⟨HQ.out.2.1, fun ad h => Nat.lt_of_lt_of_le hltb (HQ.out.2.2.1 ad h)⟩
            exact (h.set _ _).set _ _
        · rw [pcCells_app]
          by_cases e1 : i = k * 2 + 1
          · subst e1
            simp only [if_true]
            rw [if_pos (by omega), List.getD_eq_getElem?_getD, List.getElem?_append_right (by omega), mc, show k * 2 + 1 - k * 2 = 1 by omega]
            rfl
          · by_cases e0 : i = k * 2
            · subst e0
              simp only [if_true]
              rw [if_neg (by omega), if_pos (by omega), List.getD_eq_getElem?_getD, List.getElem?_append_right (by omega), mc, show k * 2 - k * 2 = 0 by omega]
              rfl
            · simp only [e1, e0, if_false]
              by_cases h2 : i < k * 2
              · rw [if_pos h2, if_pos (by omega), List.getD_eq_getElem?_getD, List.getD_eq_getElem?_getD, List.getElem?_append_left (by omega)]
              · rw [if_neg h2, if_neg (show ¬ i < (k + 1) * 2 by omega)]
      case measure => simp [intOf]; omega
    · obtain rfl : k = n := by omega
      go_wp2_with fail
      go_ret
      refine ⟨m, rfl, ?_, hb, fun p hp => (HX.out.2.2 p hp).1, ?_⟩
      · have h := HX.out.2.1
        rw [List.take_of_length_le (by rw [HN.out]; exact Nat.le_refl _)] at h
        exact h
      · have mc := pcCells_len m
        rw [HX.out.1] at mc
        refine rowIs_row hrow _ (by omega) fun i u hu => ?_
        have := (List.getElem?_eq_some_iff.1 hu).1
        rw [if_pos (by omega), List.getD_eq_getElem?_getD, hu]
        rfl

set_option maxHeartbeats 1000000 in
theorem eqPrecinct_same (p q : Pc) (w : World) (h : core p = core q) (hm : p.ps.length ≤ 1048576) (hp : PcIn w w.heap.size p) (hq : PcIn w w.heap.size q) :
    Calls Try.prog 69 #[pcV p, pcV q] w (Same w) := by
  obtain ⟨pid, A, n, c, ps⟩ := p
  obtain ⟨qid, B, n', d, qs⟩ := q
  injection h with h1 h2
  simp only at h1 h2
  subst h1 h2
  obtain ⟨p1, p2, p3, p4⟩ := hp
  obtain ⟨q1, q2, q3, q4⟩ := hq
  simp only at p1 p2 p3 p4 q1 q2 q3 q4 hm
  obtain rfl : n' = n := by omega
  show Calls Try.prog 69 #[.agg #[.int .i64 pid, .slice A n' c], .agg #[.int .i64 pid, .slice B n' d]] w (Same w)
  have hb2 : Below w.heap.size w ((w.alloc (.cells #[.int .i64 pid, .slice A n' c] 86)).alloc (.cells #[.int .i64 pid, .slice B n' d] 86)) := ((Below.refl _ _).alloc (Nat.le_refl _) _).alloc (by simp) _
  have HC := Lib.hid (eqPileS_same A B n' c d ps _ p1 (by omega) ((p4.below hb2).more hb2.size) ((q4.below hb2).more hb2.size))
  clear p1 p2 p3 p4 q1 q2 q3 q4 hm
  go_enter Try.func69, Try.ntmps69
  go_wp2_with fail
  refine HC.out.mono ?_
  rintro e w3 ⟨rfl, hb3⟩
  have hb4 := hb2.trans (hb3.mono hb2.size)
  clear hb3 hb2
  go_wp2_with fail
  go_ret
  exact ⟨rfl, hb4⟩

set_option maxHeartbeats 1000000 in
theorem eqPrecinctS_same (A B : Option Addr) (n c d : Nat) (l m : List Pc) (w : World) (hn : l.length = n) (hm : n ≤ 1048576) (he : l.map core = m.map core) (hl : ∀ p ∈ l, PcIn w w.heap.size p ∧ p.ps.length ≤ 1048576) (hq : ∀ p ∈ m, PcIn w w.heap.size p) (ha : Row w w.heap.size A (pcCells l)) (hb : Row w w.heap.size B (pcCells m)) :
    Calls Try.prog 49 #[.slice A n c, .slice B n d] w (Same w) := by
  have HN := Lib.hid hn
  have HM : Hid (m.length = n) := by
    have := congrArg List.length he
    simp only [List.length_map] at this
    exact this.symm.trans hn
  have HE := Lib.hid he
  have HL := Lib.hid hl
  have HQ := Lib.hid hq
  clear hn he hl hq
  go_enter Try.func49, Try.ntmps49
  go_wp2_with fail
  go_loopw [5] (fun i wx => ∃ k : Nat, k ≤ n ∧ i = .int .i64 k ∧ Below w.heap.size w wx) (fun i _ => n - (intOf i).toNat)
  case atStart => exact ⟨0, Nat.zero_le _, rfl, Below.refl _ _⟩
  case round =>
    obtain ⟨k, hk, rfl, hbel⟩ := hrel
    by_cases hlt : k < n
    · have hl : k < l.length := by rw [HN.out]; exact hlt
      have hl' : k < m.length := by rw [HM.out]; exact hlt
      obtain ⟨b, off, rfl, hbw, hc0, hc1⟩ := prec_at (ha.below hbel) hl
      obtain ⟨b', off', rfl, hbw', hd0, hd1⟩ := prec_at (hb.below hbel) hl'
      have h1 := HL.out _ (List.getElem_mem hl)
      have h2 := HQ.out _ (List.getElem_mem hl')
      have h3 : core l[k] = core m[k] := by
        have := congrArg (fun x => x[k]?) HE.out
        simpa [List.getElem?_eq_getElem hl, List.getElem?_eq_getElem hl'] using this
      have HP : Hid (∀ W, Below w.heap.size w W → w.heap.size ≤ W.heap.size → Calls Try.prog 69 #[pcV l[k], pcV m[k]] W (Same W)) := fun W hW hs => eqPrecinct_same _ _ W h3 h1.2 ((h1.1.below hW).more hs) ((h2.below hW).more hs)
      clear ha hb h1 h2 h3
      generalize l[k] = p at *
      generalize m[k] = q at *
      obtain ⟨pid, pA, pn, pc, pps⟩ := p
      obtain ⟨qid, qA, qn, qc, qps⟩ := q
      simp only at hc0 hc1 hd0 hd1
      have hsz := hbel.size
      go_wp2_with fail
      go_region_with (go_at_call 69; refine (HP.out _ hbel.drew hsz).mono ?_; rintro e w2 ⟨rfl, hb2⟩)
      all_goals
        have hbel2 : Below w.heap.size w w2 := hbel.drew.trans (hb2.mono hsz)
        clear hb2 hc0 hc1 hd0 hd1
        go_wp2_with fail
        go_roundw
        case rel => exact ⟨k + 1, by omega, by go_num, hbel2⟩
        case measure => simp [intOf]; omega
    · go_wp2_with fail
      go_ret
      exact ⟨rfl, hbel⟩

end Go.Proofs.Ytkpgbombikgffaa
