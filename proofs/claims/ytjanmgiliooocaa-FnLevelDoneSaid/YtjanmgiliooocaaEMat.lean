/- Slices of slices of ints, read as lists; rows of the call's own that begin as made. The conditions stand in each theorem. -/
import Derived.Test.YtjanmgiliooocaaLevQ
import Derived.Test.YtjanmgiliooocaaApp
namespace Go.Proofs.Ytjanmgiliooocaa
open Go.RowKit Go.ChangeShapes
open Man
set_option linter.unusedVariables false

structure Sl where
  A : Option Addr
  n : Nat
  c : Nat
  zs : List Int
def Sl.v (r : Sl) : Value := .slice r.A r.n r.c
structure SlOk (w : World) (B : Nat) (r : Sl) : Prop where
  len : r.zs.length = r.n
  le : r.n ≤ r.c
  cm : r.c ≤ maxLen
  sm : r.n ≤ 1048576
  row : Row w B r.A (r.zs.map (Value.int .i64))
/-- The slice of slices at A reads as these rows. -/
structure Mat (w : World) (B : Nat) (A : Option Addr) (rs : List Sl) : Prop where
  out : Row w B A (rs.map Sl.v)
  row : ∀ r ∈ rs, SlOk w B r
theorem SlOk.below {w w' : World} {B : Nat} {r : Sl} (h : SlOk w B r) (hb : Below B w w') : SlOk w' B r := ⟨h.len, h.le, h.cm, h.sm, h.row.below hb⟩
theorem SlOk.more {w : World} {B B' : Nat} {r : Sl} (h : SlOk w B r) (hb : B ≤ B') : SlOk w B' r := ⟨h.len, h.le, h.cm, h.sm, h.row.more hb⟩
theorem Mat.below {w w' : World} {B : Nat} {A : Option Addr} {rs : List Sl} (h : Mat w B A rs) (hb : Below B w w') : Mat w' B A rs := ⟨h.out.below hb, fun r hr => (h.row r hr).below hb⟩
theorem Mat.more {w : World} {B B' : Nat} {A : Option Addr} {rs : List Sl} (h : Mat w B A rs) (hb : B ≤ B') : Mat w B' A rs := ⟨h.out.more hb, fun r hr => (h.row r hr).more hb⟩
theorem Mat.on {w w' : World} {A : Option Addr} {rs : List Sl} (h : Mat w w.heap.size A rs) (hb : Below w.heap.size w w') : Mat w' w'.heap.size A rs := (h.below hb).more hb.size
theorem Row.on {w w' : World} {A : Option Addr} {xs : List Value} (h : Row w w.heap.size A xs) (hb : Below w.heap.size w w') : Row w' w'.heap.size A xs := (h.below hb).more hb.size
theorem Mat.at_ {w : World} {B : Nat} {A : Option Addr} {rs : List Sl} (h : Mat w B A rs) {k : Nat} (hk : k < rs.length) : ∃ b off, A = some ⟨b, off, none⟩ ∧ b < B ∧ w.cell? ⟨b, off + k, none⟩ = some (.slice rs[k].A rs[k].n rs[k].c) := by
  obtain ⟨b, off, e, hb, hc⟩ := h.out.at_ (k := k) (by simpa using hk)
  refine ⟨b, off, e, hb, ?_⟩
  rw [hc]
  simp [Sl.v]
theorem Mat.cellOf {w : World} {B b off : Nat} {rs : List Sl} (h : Mat w B (some ⟨b, off, none⟩) rs) {k : Nat} (hk : k < rs.length) : w.cell? ⟨b, off + k, none⟩ = some (.slice rs[k].A rs[k].n rs[k].c) := by
  obtain ⟨b', off', e, _, hc⟩ := h.at_ hk
  injection e with e
  injection e with e1 e2
  subst e1 e2
  exact hc
def vals (rs : List Sl) : List (List Int) := rs.map Sl.zs
theorem vals_len (rs : List Sl) : (vals rs).length = rs.length := by simp [vals]
theorem vals_at (rs : List Sl) (k : Nat) (h : k < rs.length) : (vals rs)[k]'(by rw [vals_len]; exact h) = rs[k].zs := by simp [vals]
theorem vals_wid {rs : List Sl} (h : 0 < rs.length) : wid (vals rs) = rs[0].zs.length := by
  cases rs with
  | nil => simp at h
  | cons r l => rfl

theorem made_ints (n : Nat) : (madeCells #[Value.int .i64 0] n).toList = (zerosL n).map (Value.int .i64) := by
  refine List.ext_getElem? fun i => ?_
  unfold zerosL madeCells
  simp [List.getElem?_replicate]
  by_cases h : i < n
  · simp [h, Nat.mod_one]
  · simp [h]
theorem own_made (w : World) (base n : Nat) (t : TypeId) (hb : base ≤ w.heap.size) (hn : n ≤ maxLen) : (w.alloc (.cells (madeCells #[Value.int .i64 0] n) t)).ownsRow base t 1 (.slice (some ⟨w.heap.size, 0, none⟩) n n) n ((zerosL n).map (Value.int .i64)) := by
  refine ⟨by simp [zerosL], .inr ⟨w.heap.size, n, madeCells #[Value.int .i64 0] n, rfl, hb, heap_alloc_new w _, Nat.le_refl _, hn, by simp [size_madeCells], ?_⟩⟩
  rw [made_ints]
  exact List.take_of_length_le (by simp [zerosL])
theorem make_ints (n : Nat) (hn : n ≤ 1048576) : ∀ w : World, (Instr.makeSlice 24 (.int .i64 (n : Int)) (.int .i64 (n : Int))).run Try.prog w = .ok (.slice (some ⟨w.heap.size, 0, none⟩) n n) (w.alloc (.cells (madeCells #[Value.int .i64 0] n) 3)) :=
  run_make_row' (P := Try.prog) 24 3 (.int .i64 0) 8 Try.underlying24 info_int rfl .i64 .i64 n (by omega) (by omega)

/-- A row of ints of the call's own. -/
def OwnI (w : World) (base : Nat) (v : Value) (n : Nat) (zs : List Int) : Prop := w.ownsRow base 3 1 v n (zs.map (Value.int .i64))
theorem OwnI.len {w : World} {base n : Nat} {v : Value} {zs : List Int} (h : OwnI w base v n zs) : zs.length = n := by have := h.1; simpa using this
theorem OwnI.cell {w : World} {base n g c : Nat} {zs : List Int} (h : OwnI w base (.slice (some ⟨g, 0, none⟩) n c) n zs) {k : Nat} (hk : k < zs.length) : w.cell? ⟨g, k, none⟩ = some (.int .i64 zs[k]) := by
  have hl := h.len
  have := World.ownsRow.cellAt h k (by omega)
  rw [this]
  simp [hk]
theorem OwnI.frozen {w : World} {base n g c : Nat} {zs : List Int} (h : OwnI w base (.slice (some ⟨g, 0, none⟩) n c) n zs) (k : Nat) : w.frozen? ⟨g, k, none⟩ = false := World.ownsRow.frozenAt h k
theorem OwnI.lt {w : World} {base n g c : Nat} {zs : List Int} (h : OwnI w base (.slice (some ⟨g, 0, none⟩) n c) n zs) : base ≤ g ∧ g < w.heap.size := own_block h g (by simp [Value.ownBlock])
theorem OwnI.set {w : World} {base n g c : Nat} {zs : List Int} (h : OwnI w base (.slice (some ⟨g, 0, none⟩) n c) n zs) (k : Nat) (x : Int) : OwnI (w.setCell ⟨g, k, none⟩ (.int .i64 x)) base (.slice (some ⟨g, 0, none⟩) n c) n (zs.set k x) := by
  have := (World.ownsRow.stored h k (.int .i64 x)).1
  unfold OwnI
  rw [List.map_set]
  exact this
theorem OwnI.other {w : World} {base n g c : Nat} {zs : List Int} (h : OwnI w base (.slice (some ⟨g, 0, none⟩) n c) n zs) {w' : World} (hk : w'.heap[g]? = w.heap[g]?) : OwnI w' base (.slice (some ⟨g, 0, none⟩) n c) n zs := by
  refine ⟨h.1, ?_⟩
  rcases h.2 with ⟨h0, _⟩ | ⟨g', cap, cur, hv, hb, hh, h1, h2, h3, h4⟩
  · cases h0
  · have hg : g = g' := by
      injection hv with hA
      injection hA with hA
      injection hA
    subst hg
    exact .inr ⟨g, cap, cur, hv, hb, hk.trans hh, h1, h2, h3, h4⟩
theorem OwnI.row {w : World} {base n : Nat} {v : Value} {zs : List Int} (h : OwnI w base v n zs) : ∃ A c, v = .slice A n c ∧ n ≤ c ∧ c ≤ maxLen ∧ Row w w.heap.size A (zs.map (Value.int .i64)) := by
  obtain ⟨A, c, h1, h2, h3, _, h4⟩ := own_slice h
  exact ⟨A, c, h1, h2, h3, h4⟩
theorem OwnI.rowAt {w : World} {base n c : Nat} {A : Option Addr} {zs : List Int} (h : OwnI w base (.slice A n c) n zs) : n ≤ c ∧ c ≤ maxLen ∧ Row w w.heap.size A (zs.map (Value.int .i64)) := by
  obtain ⟨A', c', e, h2, h3, h4⟩ := h.row
  injection e with e1 e2 e3
  subst e1 e3
  exact ⟨h2, h3, h4⟩
theorem OwnI.made (w : World) (base n : Nat) (hb : base ≤ w.heap.size) (hn : n ≤ 1048576) : OwnI (w.alloc (.cells (madeCells #[Value.int .i64 0] n) 3)) base (.slice (some ⟨w.heap.size, 0, none⟩) n n) n (zerosL n) := own_made w base n 3 hb (by unfold maxLen; omega)
theorem OwnI.some {w : World} {base n : Nat} {v : Value} {zs : List Int} (h : OwnI w base v n zs) (hn : 0 < n) : ∃ g c, v = .slice (some ⟨g, 0, none⟩) n c ∧ base ≤ g ∧ g < w.heap.size ∧ n ≤ c ∧ c ≤ maxLen := by
  rcases h.2 with ⟨_, h0⟩ | ⟨g, c, cur, h1, h2, h3, h4, h5, _⟩
  · omega
  · subst h1
    exact ⟨g, c, rfl, h2, (OwnI.lt (h := h)).2, h4, h5⟩
theorem OwnI.from_ {w : World} {base base' n : Nat} {v : Value} {zs : List Int} (h : OwnI w base v n zs) (hb : base' ≤ base) : OwnI w base' v n zs := by
  refine ⟨h.1, ?_⟩
  rcases h.2 with h0 | ⟨g, cap, cur, hv, h1, h2⟩
  · exact .inl h0
  · exact .inr ⟨g, cap, cur, hv, by omega, h2⟩
theorem OwnI.below {w w' : World} {base n : Nat} {v : Value} {zs : List Int} (h : OwnI w base v n zs) (hb : Below w.heap.size w w') : OwnI w' base v n zs := own_below h hb
theorem OwnI.alloc {w : World} {base n : Nat} {v : Value} {zs : List Int} (h : OwnI w base v n zs) (o : Obj) : OwnI (w.alloc o) base v n zs := own_alloc h o

end Go.Proofs.Ytjanmgiliooocaa
