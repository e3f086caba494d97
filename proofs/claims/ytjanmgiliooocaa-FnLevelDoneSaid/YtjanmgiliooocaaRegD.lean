/- Kinds of slots for regions in which numbers are picked out of literal lists. The conditions stand in each theorem. -/
import Derived.Test.YtjanmgiliooocaaReg
namespace Go.Proofs.Ytjanmgiliooocaa
open Go.RowKit Go.ChangeShapes
set_option linter.unusedVariables false

def RR (g : Nat) (w w' : World) : Prop := w.heap.size ≤ w'.heap.size ∧ ∀ b, b < w.heap.size → b ≠ g → w'.heap[b]? = w.heap[b]?
theorem RR.refl (g : Nat) (w : World) : RR g w w := ⟨Nat.le_refl _, fun _ _ _ => rfl⟩
theorem RR.alloc (g : Nat) (w : World) (o : Obj) : RR g w (w.alloc o) := ⟨by simp, fun b hb _ => Below.heap_alloc w o b hb⟩
theorem RR.grown {g : Nat} {w w' : World} (h : w.grownBy w' (some g)) : RR g w w' := ⟨h.size, fun b hb hne => h.block b hb (fun e => hne (by injection e))⟩
def IntAt (g : Nat) (w : World) (b i : Nat) : Prop := b ≠ g ∧ b < w.heap.size ∧ ∃ z : Int, w.cell? ⟨b, i, none⟩ = some (.int .i64 z)
theorem IntAt.keep {g b i : Nat} {w w' : World} (h : IntAt g w b i) (hr : RR g w w') : IntAt g w' b i := by
  obtain ⟨h1, h2, z, h3⟩ := h
  exact ⟨h1, Nat.lt_of_lt_of_le h2 hr.1, z, (World.cell?_of_block (hr.2 b h2 h1)).trans h3⟩
def TInt (v : Value) : Prop := ∃ z : Int, v = .int .i64 z
def TIdx (m : Int) (v : Value) : Prop := ∃ r : Int, v = .int .i64 r ∧ 0 ≤ r ∧ r < m
def TRd (g : Nat) (v : Value) : Prop := v = .pointer (some ⟨g, 0, none⟩)
def TLit (g : Nat) (w : World) (m : Nat) (v : Value) : Prop := ∃ b, v = .slice (some ⟨b, 0, none⟩) m m ∧ ∀ i, i < m → IntAt g w b i
def TPtr (g : Nat) (w : World) (v : Value) : Prop := ∃ b i, v = .pointer (some ⟨b, i, none⟩) ∧ IntAt g w b i
theorem TLit.keep {g m : Nat} {w w' : World} {v : Value} (h : TLit g w m v) (hr : RR g w w') : TLit g w' m v := by
  obtain ⟨b, h1, h2⟩ := h
  exact ⟨b, h1, fun i hi => (h2 i hi).keep hr⟩
theorem TPtr.keep {g : Nat} {w w' : World} {v : Value} (h : TPtr g w v) (hr : RR g w w') : TPtr g w' v := by
  obtain ⟨b, i, h1, h2⟩ := h
  exact ⟨b, i, h1, h2.keep hr⟩
theorem TLit.new {g m : Nat} {w : World} {t : TypeId} (zs : List Int) (hm : zs.length = m) (hg : g < w.heap.size) : TLit g (w.alloc (.cells (zs.map (Value.int .i64)).toArray t)) m (.slice (some ⟨w.heap.size, 0, none⟩) m m) :=
  ⟨w.heap.size, rfl, fun i hi => ⟨by omega, by simp, zs[i]'(by omega), by
    rw [(Blk.new w t (zs.map (Value.int .i64)).toArray).cell i]
    have : i < zs.length := by omega
    simp [this]⟩⟩

/-- The reader stands, and may be asked as often as operations are left. -/
def JR (N : Nat) (w0 : World) (g n : Nat) (w : World) : Prop := ∃ p, p + (N - n) ≤ 900 ∧ RdI w0 w g p
theorem JR.next {N g n : Nat} {w0 w : World} (h : JR N w0 g n w) : JR N w0 g (n + 1) w := by
  obtain ⟨p, h1, h2⟩ := h
  exact ⟨p, by omega, h2⟩
theorem JR.alloc {N g n : Nat} {w0 w : World} (h : JR N w0 g n w) (o : Obj) : JR N w0 g (n + 1) (w.alloc o) := by
  obtain ⟨p, h1, h2⟩ := h
  exact ⟨p, by omega, h2.alloc o⟩
theorem JR.lt {N g n : Nat} {w0 w : World} (h : JR N w0 g n w) : g < w.heap.size := by
  obtain ⟨p, _, h2⟩ := h
  exact h2.rd.lt_
def PickedJ (N : Nat) (w0 w : World) (g n : Nat) (m : Int) (e : Ending) (w' : World) : Prop := ∃ r : Int, e = .returned (.int .i64 r) ∧ 0 ≤ r ∧ (r < m ∨ r = 0) ∧ JR N w0 g (n + 1) w' ∧ RR g w w'
theorem pickJ {N g n : Nat} {w0 w : World} (m : Int) (h : JR N w0 g n w) (hn : n < N) (hm : m ≤ 1000000) :
    Calls Try.prog 35 #[.pointer (some ⟨g, 0, none⟩), .int .i64 m] w (PickedJ N w0 w g n m) := by
  obtain ⟨p, h1, h2⟩ := h
  exact (pickI m h2 (by omega) hm).mono fun e w' ⟨r, he, r0, r1, I, G⟩ => ⟨r, he, r0, r1, ⟨p + 1, by omega, I⟩, RR.grown G⟩

end Go.Proofs.Ytjanmgiliooocaa
