/- Words for memory that the proofs of this seat share: a block that is known whole, a slice that reads as a list of cells, what a step leaves alone; and what l6Open and pick of the reference's drawing do. The conditions stand in each theorem. -/
import Derived.Test.YtjanmgiliooocaaProg
import Derived.WalkKit
import Derived.WalkLawsBesides
import Derived.WalkSpells
import Derived.Below
import Derived.Lib.Hide
import Derived.Outline
import Derived.Deep.QuietTactic
import Derived.BigQuiet
import Derived.Deep.Draws
import Derived.Laws.Rows
import Derived.Laws.BitsAllLaws
import Derived.Laws.BitsLemmas
namespace Go.Proofs.Ytjanmgiliooocaa
open Go.RowKit Go.ChangeShapes

def IsRow (k : IntKind) (w : World) (a : Option Addr) (len cap : Nat) (zs : List Int) : Prop :=
  (a = none ∧ len = 0 ∧ cap = 0 ∧ zs = []) ∨
  ∃ x, a = some x ∧ len ≤ cap ∧ cap ≤ maxLen ∧ zs.length = cap ∧ (∀ i, i < zs.length → w.cell? (x.add i) = some (.int k (zs.getD i 0))) ∧ ∀ n ∈ zs, (Lit.int k n).wf = true

/-- Block g is just these cells, none of them frozen. -/
def Blk (w : World) (g : Nat) (t : TypeId) (cs : Array Value) : Prop := w.heap[g]? = some (.cells cs t (0, 0))

theorem Blk.lt {w : World} {g : Nat} {t : TypeId} {cs : Array Value} (h : Blk w g t cs) : g < w.heap.size := by
  by_cases hlt : g < w.heap.size
  · exact hlt
  · unfold Blk at h
    rw [Array.getElem?_eq_none (by omega)] at h
    cases h
theorem Blk.cell {w : World} {g : Nat} {t : TypeId} {cs : Array Value} (h : Blk w g t cs) (i : Nat) : w.cell? ⟨g, i, none⟩ = cs[i]? := cell_of_row w g i cs t (0, 0) h
theorem Blk.frozen {w : World} {g : Nat} {t : TypeId} {cs : Array Value} (h : Blk w g t cs) (i : Nat) : w.frozen? ⟨g, i, none⟩ = false := by
  unfold Blk at h
  simp [World.frozen?, h]
theorem Blk.new (w : World) (t : TypeId) (cs : Array Value) : Blk (w.alloc (.cells cs t)) w.heap.size t cs := heap_alloc_new w _
theorem Blk.alloc {w : World} {g : Nat} {t : TypeId} {cs : Array Value} (h : Blk w g t cs) (o : Obj) : Blk (w.alloc o) g t cs := (Below.heap_alloc w o g h.lt).trans h
theorem Blk.put {w : World} {g : Nat} {t : TypeId} {cs : Array Value} (h : Blk w g t cs) (i : Nat) (u : Value) : Blk (w.setCell ⟨g, i, none⟩ u) g t (cs.setIfInBounds i u) := by
  unfold Blk at h ⊢
  simp [World.setCell, Array.getElem?_modify, h]

/-- The slice at address A reads as the cells xs and lies below block B. -/
def Row (w : World) (B : Nat) (A : Option Addr) (xs : List Value) : Prop :=
  xs = [] ∨ ∃ b off, A = some ⟨b, off, none⟩ ∧ b < B ∧ ∀ j u, xs[j]? = some u → w.cell? ⟨b, off + j, none⟩ = some u

theorem Row.keep {w w' : World} {B : Nat} {A : Option Addr} {xs : List Value} (h : Row w B A xs) (hk : ∀ p : Addr, p.block < B → w'.cell? p = w.cell? p) : Row w' B A xs := by
  rcases h with h | ⟨b, off, e, hb, hc⟩
  · exact .inl h
  · exact .inr ⟨b, off, e, hb, fun j u hu => (hk ⟨b, off + j, none⟩ hb).trans (hc j u hu)⟩
theorem Row.more {w : World} {B B' : Nat} {A : Option Addr} {xs : List Value} (h : Row w B A xs) (hB : B ≤ B') : Row w B' A xs := by
  rcases h with h | ⟨b, off, e, hb, hc⟩
  · exact .inl h
  · exact .inr ⟨b, off, e, by omega, hc⟩
theorem Row.below {w w' : World} {B : Nat} {A : Option Addr} {xs : List Value} (h : Row w B A xs) (hb : Below B w w') : Row w' B A xs := h.keep fun _ hp => hb.cell hp
theorem Row.take {w : World} {B : Nat} {A : Option Addr} {xs : List Value} (h : Row w B A xs) (n : Nat) : Row w B A (xs.take n) := by
  rcases h with h | ⟨b, off, e, hb, hc⟩
  · exact .inl (by rw [h]; simp)
  · refine .inr ⟨b, off, e, hb, fun j u hu => hc j u ?_⟩
    rw [List.getElem?_take] at hu
    split at hu
    · exact hu
    · cases hu

theorem IsRow.row {k : IntKind} {w : World} {a : Option Addr} {len cap : Nat} {zs : List Int} (h : IsRow k w a len cap zs) : Row w w.heap.size a ((zs.take len).map (Value.int k)) := by
  rcases h with ⟨_, _, _, rfl⟩ | ⟨x, rfl, hl, hm, hz, hc, _⟩
  · exact .inl (by simp)
  · by_cases h0 : zs.length = 0
    · exact .inl (by rw [List.eq_nil_of_length_eq_zero h0]; simp)
    · obtain ⟨b, off, spot⟩ := x
      have h1 := hc 0 (by omega)
      have hs : spot = none := by simpa [Addr.add] using World.cell?_spot h1
      subst hs
      have hlt : b < w.heap.size := by
        by_cases hlt : b < w.heap.size
        · exact hlt
        · simp [World.cell?, Addr.add, Array.getElem?_eq_none (show w.heap.size ≤ b by omega)] at h1
      refine .inr ⟨b, off, rfl, hlt, fun j u hu => ?_⟩
      rw [List.getElem?_map, List.getElem?_take] at hu
      split at hu
      · have hj : j < zs.length := by omega
        rw [List.getElem?_eq_getElem hj] at hu
        simp at hu
        subst hu
        have h2 := hc j hj
        rw [List.getD_eq_getElem?_getD, List.getElem?_eq_getElem hj] at h2
        by_cases hj0 : j = 0
        · subst hj0
          simpa [Addr.add] using h2
        · simpa [Addr.add, hj0] using h2
      · cases hu

theorem IsRow.len_le {k : IntKind} {w : World} {a : Option Addr} {len cap : Nat} {zs : List Int} (h : IsRow k w a len cap zs) : len ≤ cap ∧ cap ≤ maxLen ∧ (zs.take len).length = len := by
  rcases h with ⟨_, rfl, rfl, rfl⟩ | ⟨x, rfl, hl, hm, hz, hc, _⟩
  · exact ⟨Nat.le_refl _, by unfold maxLen; omega, rfl⟩
  · refine ⟨hl, hm, ?_⟩
    rw [List.length_take]
    omega

/-- The reader at block g: its bytes lie below it, it has been asked p times. -/
def Rd (w : World) (g p : Nat) : Prop := ∃ (A : Option Addr) (n c : Nat) (zs : List Int), Blk w g 60 #[.slice A n c, .int .i64 (p : Int)] ∧ n ≤ 2000 ∧ n ≤ c ∧ c ≤ maxLen ∧ zs.length = n ∧ (∀ z ∈ zs, 0 ≤ z ∧ z ≤ 255) ∧ Row w g A (zs.map (Value.int .u8))

/-- What drawing from w0 on keeps: nothing below w0's size has turned, the reader stands. -/
structure RdI (w0 w : World) (g p : Nat) : Prop where
  bel : Below w0.heap.size w0 w
  at_ : w0.heap.size ≤ g
  rd : Rd w g p

theorem Rd.alloc {w : World} {g p : Nat} (h : Rd w g p) (o : Obj) : Rd (w.alloc o) g p := by
  obtain ⟨A, n, c, zs, hb, h1, h2, h3, h4, h5, h6⟩ := h
  exact ⟨A, n, c, zs, hb.alloc o, h1, h2, h3, h4, h5, h6.keep fun p hp => World.cell?_alloc_lt w o p (by have := hb.lt; omega)⟩
theorem RdI.alloc {w0 w : World} {g p : Nat} (h : RdI w0 w g p) (o : Obj) : RdI w0 (w.alloc o) g p :=
  ⟨h.bel.alloc h.bel.size o, h.at_, h.rd.alloc o⟩
theorem Rd.drewN {w : World} {g p : Nat} (h : Rd w g p) (n : Nat) : Rd (w.drewN n) g p := h
theorem Rd.drew {w : World} {g p : Nat} (h : Rd w g p) : Rd w.drew g p := h
theorem below_drewN {B : Nat} {a w : World} (h : Below B a w) (n : Nat) : Below B a (w.drewN n) := ⟨h.os, h.tape, h.output, h.size, h.block⟩
theorem RdI.drewN {w0 w : World} {g p : Nat} (h : RdI w0 w g p) (n : Nat) : RdI w0 (w.drewN n) g p := ⟨below_drewN h.bel n, h.at_, h.rd⟩
theorem RdI.drew {w0 w : World} {g p : Nat} (h : RdI w0 w g p) : RdI w0 w.drew g p := ⟨h.bel.drew, h.at_, h.rd⟩

theorem Rd.put {w : World} {g p : Nat} (h : Rd w g p) (q : Nat) : Rd (w.setCell ⟨g, 1, none⟩ (.int .i64 (q : Int))) g q := by
  obtain ⟨A, n, c, zs, hb, h1, h2, h3, h4, h5, h6⟩ := h
  refine ⟨A, n, c, zs, by simpa using hb.put 1 (.int .i64 (q : Int)), h1, h2, h3, h4, h5, h6.keep fun r hr => World.cell?_setCell_other w _ _ _ (fun e => by subst e; simp at hr)⟩

/-- What a further pick leaves: the number r, the reader asked once more, nothing else turned. -/
def Picked (w : World) (g p : Nat) (m : Int) (e : Ending) (w' : World) : Prop :=
  ∃ r : Int, e = .returned (.int .i64 r) ∧ 0 ≤ r ∧ (r < m ∨ r = 0) ∧ Rd w' g (p + 1) ∧ w.grownBy w' (some g)

end Go.Proofs.Ytjanmgiliooocaa
