/- What the drawing of arguments gives for the laws of pairs. The conditions stand in each theorem. -/
import Derived.Test.YtkpgbombikgffaaPairW
import Derived.Test.YtkpgbombikgffaaApp
namespace Go.Proofs.Ytkpgbombikgffaa
open Go.RowKit Go.ChangeShapes
set_option linter.unusedVariables false

theorem grown_trans' {a b c : World} {row : Option Nat} (h : a.grownBy b row) (k : b.grownBy c row) : a.grownBy c row :=
  ⟨k.os.trans h.os, k.tape.trans h.tape, k.output.trans h.output, Nat.le_trans h.size k.size, fun i hi hne => (k.block i (Nat.lt_of_lt_of_le hi h.size) hne).trans (h.block i hi hne)⟩
theorem grown_alloc {a b : World} {row : Option Nat} (h : a.grownBy b row) (o : Obj) : a.grownBy (b.alloc o) row :=
  grown_trans' h (World.grownBy_alloc b o row)

/-- A text out of a list, the reader asked once more. -/
def OfS (w0 w : World) (g p : Nat) (ss : List ByteArray) (e : Ending) (w' : World) : Prop :=
  ∃ s ∈ ss, e = .returned (.string s) ∧ RdI w0 w' g (p + 1) ∧ w.grownBy w' (some g)
set_option maxHeartbeats 400000 in
theorem of_any {w0 w : World} {g p : Nat} (ss : List ByteArray) (b n : Nat) (I : RdI w0 w g p) (hp : p ≤ 1000) (hn : ss.length = n) (h0 : 0 < n) (h9 : n ≤ 100) (hb : Blk w b 9 (ss.map Value.string).toArray) (hne : b ≠ g) :
    Calls Try.prog 70 #[.pointer (some ⟨g, 0, none⟩), .slice (some ⟨b, 0, none⟩) n n] w (OfS w0 w g p ss) := by
  have HN := Lib.hid hn
  have HB := Lib.hid hb
  have HE := Lib.hid hne
  clear hn hb hne
  go_enter Try.func70, Try.ntmps70
  go_wp2_with fail
  refine (pickI _ I (by omega) (by omega)).mono ?_
  rintro e w2 ⟨r, rfl, r0, r1, I2, G2⟩
  have r2 : r < (n : Int) := by omega
  have hl : r.toNat < ss.length := by have := HN.out; omega
  have hc : w2.cell? ⟨b, r.toNat, none⟩ = some (.string ss[r.toNat]) := by
    rw [World.cell?_of_block (G2.block b HB.out.lt (fun e => by injection e with e; exact HE.out e)), HB.out.cell]
    simp [hl]
  have HM := Lib.hid (List.getElem_mem hl)
  clear I r1
  generalize ss[r.toNat] = s at *
  go_wp2_with fail
  go_ret
  exact ⟨s, HM.out, rfl, I2, G2⟩

/-- A pair of short texts. -/
def shortPr (p : Pr) : Prop := p.1.size ≤ 3 ∧ p.2.size ≤ 3
theorem short_small {p : Pr} (h : shortPr p) : smallPr p := ⟨by have := h.1; omega, by have := h.2; omega⟩
def DrawnP (w0 w : World) (g p : Nat) (e : Ending) (w' : World) : Prop :=
  ∃ (pr : Pr) (q : Nat), e = .returned (prV pr) ∧ shortPr pr ∧ q ≤ p + 3 ∧ RdI w0 w' g q ∧ w.grownBy w' (some g)

def toldL : List ByteArray := [⟨#[97]⟩, ⟨#[98]⟩, ⟨#[97, 98]⟩, ⟨#[]⟩, ⟨#[99, 97, 98]⟩, ⟨#[98, 99, 97]⟩, ⟨#[99]⟩]
def seenL : List ByteArray := [⟨#[97]⟩, ⟨#[98]⟩, ⟨#[98, 97]⟩, ⟨#[]⟩, ⟨#[99]⟩]
def badL : List ByteArray := [⟨#[97, 97]⟩, ⟨#[120]⟩, ⟨#[102]⟩]
theorem told_short : ∀ s ∈ toldL, s.size ≤ 3 := by decide
theorem seen_short : ∀ s ∈ seenL, s.size ≤ 3 := by decide
theorem bad_short : ∀ s ∈ badL, s.size ≤ 3 := by decide

theorem grown_far {a b : World} {g B : Nat} (h : a.grownBy b (some g)) (hB : a.heap.size ≤ B) (i : Nat) (u : Value) : a.grownBy (b.setCell ⟨B, i, none⟩ u) (some g) :=
  ⟨h.os, h.tape, h.output, by simpa [World.setCell] using h.size, fun k hk hne => (Below.heap_setCell b ⟨B, i, none⟩ u k (fun e => by simp at e; omega)).trans (h.block k hk hne)⟩
theorem RdI.far {w0 w : World} {g p B : Nat} (h : RdI w0 w g p) (hB : g < B) (i : Nat) (u : Value) : RdI w0 (w.setCell ⟨B, i, none⟩ u) g p :=
  h.grown (grown_set w B i u) (fun k hk => by injection hk with hk; omega)
theorem Blk.grown_ {w w' : World} {g b : Nat} {t : TypeId} {cs : Array Value} (h : Blk w b t cs) (hg : w.grownBy w' (some g)) (hne : b ≠ g) : Blk w' b t cs :=
  (hg.block b h.lt (fun e => by injection e with e; exact hne e)).trans h

set_option maxHeartbeats 1000000 in
theorem l93Pair_any {w0 w : World} {g p : Nat} (I : RdI w0 w g p) (hp : p ≤ 500) :
    Calls Try.prog 59 #[.pointer (some ⟨g, 0, none⟩)] w (DrawnP w0 w g p) := by
  have hg1 := I.rd.lt_
  have I1 := I.alloc (.cells #[.string ⟨#[]⟩, .string ⟨#[]⟩] 27)
  have B1 := Blk.new w 27 #[.string ⟨#[]⟩, .string ⟨#[]⟩]
  have G1 := World.grownBy_alloc w (.cells #[.string ⟨#[]⟩, .string ⟨#[]⟩] 27) (some g)
  go_enter Try.func59, Try.ntmps59
  go_wp2_with fail
  have L2 := Blk.new (w.alloc (.cells #[.string ⟨#[]⟩, .string ⟨#[]⟩] 27)) 9 (toldL.map Value.string).toArray
  rw [show (w.alloc (.cells #[.string ⟨#[]⟩, .string ⟨#[]⟩] 27)).heap.size = w.heap.size + 1 by simp] at L2
  refine (of_any toldL (w.heap.size + 1) 7 (I1.alloc _) (by omega) rfl (by omega) (by omega) L2 (by omega)).mono ?_
  rintro e w2 ⟨s, hs, rfl, I2, G2⟩
  have B2 := (B1.alloc _).grown_ G2 (by omega)
  have G2' := grown_trans' (grown_alloc G1 _) G2
  have HS := Lib.hid (told_short s hs)
  have hs2 := G2'.size
  clear I I1 B1 G1 L2 hs G2
  go_wp2_with fail
  refine (pickI _ I2 (by omega) (by omega)).mono ?_
  rintro e w3 ⟨t, rfl, t0, t1, I3, G3⟩
  have B3 := B2.grown_ G3 (by omega)
  have G3' := grown_trans' G2' G3
  have hs3 := G3'.size
  clear I2 B2 G2' G3
  by_cases ht : t = 0
  · subst ht
    go_wp2_with fail
    have L4 := Blk.new w3 9 (seenL.map Value.string).toArray
    have hg3 := I3.rd.lt_
    refine (of_any seenL w3.heap.size 5 (I3.alloc _) (by omega) rfl (by omega) (by omega) L4 (by omega)).mono ?_
    rintro e w5 ⟨s', hs', rfl, I5, G5⟩
    have B5 := (B3.alloc _).grown_ G5 (by omega)
    have G5' := grown_trans' (grown_alloc G3' _) G5
    have HS' := Lib.hid (seen_short s' hs')
    have hc0 : w5.cell? ⟨w.heap.size, 0, none⟩ = some (.string ⟨#[]⟩) := by simpa using B5.cell 0
    have hc1 : w5.cell? ⟨w.heap.size, 1, none⟩ = some (.string ⟨#[]⟩) := by simpa using B5.cell 1
    have hf0 := B5.frozen 0
    have hf1 := B5.frozen 1
    clear I3 B3 G3' L4 hs' G5 B5
    go_wp2_with fail
    refine bodyPost_ret (v := .agg #[.string s, .string s']) (by simp [results, Try.results59, go_sem, hc0, hc1]) rfl ⟨(s, s'), _, rfl, ⟨HS.out, HS'.out⟩, ?_, (I5.far hg1 _ _).far hg1 _ _, grown_far (grown_far G5' (Nat.le_refl _) _ _) (Nat.le_refl _) _ _⟩
    omega
  · have ht' : (t == 0) = false := by simpa using ht
    have hc0 : w3.cell? ⟨w.heap.size, 0, none⟩ = some (.string ⟨#[]⟩) := by simpa using B3.cell 0
    have hc1 : w3.cell? ⟨w.heap.size, 1, none⟩ = some (.string ⟨#[]⟩) := by simpa using B3.cell 1
    have hf0 := B3.frozen 0
    have hf1 := B3.frozen 1
    clear B3
    go_wp2_with fail
    refine bodyPost_ret (v := .agg #[.string s, .string s]) (by simp [results, Try.results59, go_sem, hc0, hc1]) rfl ⟨(s, s), _, rfl, ⟨HS.out, HS.out⟩, ?_, (I3.far hg1 _ _).far hg1 _ _, grown_far (grown_far G3' (Nat.le_refl _) _ _) (Nat.le_refl _) _ _⟩
    omega

end Go.Proofs.Ytkpgbombikgffaa
