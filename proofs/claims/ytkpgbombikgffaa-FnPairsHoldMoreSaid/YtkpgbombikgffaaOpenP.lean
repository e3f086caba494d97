/- The laws' arguments that are pairs or slices of pairs, opened to cells. The conditions stand in each theorem. -/
import Derived.Test.YtkpgbombikgffaaPair2
import Derived.Test.YtkpgbombikgffaaChecked
import Derived.Deep.Slices
import Derived.Deep.Fields
import Derived.ChangeSame
import Derived.Lib.SmallJoins
namespace Go.Proofs.Ytkpgbombikgffaa
open Go.RowKit Go.ChangeShapes Go.WideShapes Go.Deep Go.Joins
set_option linter.unusedVariables false

def longPr (p : Pr) : Prop := p.1.size ≤ maxLen ∧ p.2.size ≤ maxLen
set_option maxRecDepth 100000 in
theorem opn_29 {H : Type} {enc : TypeId × Value → H} {W : World} {base : Nat} {v : Value} {d : DataW H} {p : List MemPlace}
    (hv : Value.okWide Try.prog W .any base 29 v) (h : DataW.Trod enc Try.prog W 0 (fun _ => true) true 29 v d p) : ∃ z, v = prV z ∧ longPr z := by
  obtain ⟨v0, v1, y0, y1, n, rfl, _, _, h0, h1⟩ := open_agg2 Try.underlying29 (by kernel_rfl) (by kernel_rfl) hv h
  obtain ⟨s0, e0, _, b0⟩ := DataW.trod_string Try.underlying9 h0
  obtain ⟨s1, e1, _, b1⟩ := DataW.trod_string Try.underlying9 h1
  simp at e0 e1
  subst e0 e1
  exact ⟨(s0, s1), rfl, b0, b1⟩

section
variable {H : Type} {enc : TypeId × Value → H} {P : Program} {w : World} {base : Nat} {spare : Nat → Bool} {held : Bool}
theorem open_slice_fields {t e : TypeId} {fs : Array Field} {fuel : Nat} {cs : List Value} {x : DataW H × List MemPlace} (ht : P.underlying t = some (.slice e)) (he : P.underlying e = some (.struct fs))
    (hone : oneCellFields P fs = true) (hC : P.cellsOf e = fs.size) (h : DataW.trod enc P w base spare held fuel t cs = some x) :
    (cs = [.slice none 0 0] ∧ x = (.nil, [])) ∨
    ∃ (a : Addr) (len cap m : Nat), cs = [.slice (some a) len cap] ∧ len ≤ cap ∧ cap ≤ maxLen ∧ m = (if spare a.block then cap else len) ∧
      ∀ i, i < m → ∃ (n : Nat), ∀ (j : Nat) (f : Field), fs[j]? = some f → ∃ (v : Value) (y : DataW H × List MemPlace), w.cell? (a.add (i * fs.size + j)) = some v ∧ DataW.trod enc P w base spare held n f.type [v] = some y := by
  rcases open_slice ht h with h0 | ⟨a, len, cap, m, n, D, Pl, hcs, hb, hl, hm, hmm, hx, hi⟩
  · exact .inl h0
  · refine .inr ⟨a, len, cap, m, hcs, hl, hm, hmm, fun i him => ?_⟩
    obtain ⟨cs', hc, ht'⟩ := hi i him
    rw [hC] at hc
    obtain ⟨ys, n', hn', hy, hlen, hyl, hf⟩ := DataW.trod_struct he ht'
    obtain ⟨_, hcl, hat⟩ := World.cells?_some hc
    refine ⟨n', fun j f hj => ?_⟩
    obtain ⟨ho, hk⟩ := hone_of hone j f hj
    have hjl : j < fs.size := (Array.getElem?_eq_some_iff.1 hj).1
    have hcell := hat j hjl
    have hv : cs'[j]? = some (cs'[j]'(by omega)) := List.getElem?_eq_getElem (by omega)
    have h1 := hf j f hj
    rw [ho, hk] at h1
    have hone' : (cs'.drop j).take 1 = [cs'[j]'(by omega)] := by
      rw [List.drop_eq_getElem_cons (by omega)]
      rfl
    rw [hone'] at h1
    have hys : ys[j]? = some (ys[j]'(by omega)) := List.getElem?_eq_getElem (by omega)
    refine ⟨_, _, ?_, h1.trans hys⟩
    rw [← Go.Deep.add_add, hcell, hv]
end

def prSl (z : Option Addr × Nat × Nat × List Pr) : Value := .slice z.1 z.2.1 z.2.2.1
def IsPairs (w : World) (z : Option Addr × Nat × Nat × List Pr) : Prop := z.2.2.2.length = z.2.1 ∧ z.2.1 ≤ z.2.2.1 ∧ z.2.2.1 ≤ maxLen ∧ (∀ p ∈ z.2.2.2, longPr p) ∧ Row w w.heap.size z.1 (prCells z.2.2.2)

theorem choose_list {α : Type} [Inhabited α] (n : Nat) (R : Nat → α → Prop) (h : ∀ i, i < n → ∃ a, R i a) : ∃ l : List α, l.length = n ∧ ∀ i (hi : i < l.length), R i l[i] := by
  induction n with
  | zero => exact ⟨[], rfl, fun i hi => absurd hi (by simp)⟩
  | succ n ih =>
    obtain ⟨l, hl, hr⟩ := ih fun i hi => h i (by omega)
    obtain ⟨a, ha⟩ := h n (by omega)
    refine ⟨l ++ [a], by simp [hl], fun i hi => ?_⟩
    by_cases e : i < l.length
    · rw [List.getElem_append_left e]
      exact hr i e
    · have : i = n := by simp [hl] at hi; omega
      subst this
      rw [List.getElem_append_right (by omega)]
      simpa [hl] using ha

set_option maxRecDepth 100000 in
theorem opn_34 {H : Type} {enc : TypeId × Value → H} {W : World} {base : Nat} {v : Value} {d : DataW H} {p : List MemPlace}
    (hv : Value.okWide Try.prog W .any base 34 v) (h : DataW.Trod enc Try.prog W 0 (fun _ => true) true 34 v d p) : ∃ z, v = prSl z ∧ IsPairs W z := by
  obtain ⟨a, len, cap, rfl⟩ := okWide_slice Try.underlying34 hv
  obtain ⟨fuel, hf⟩ := h
  rcases open_slice_fields Try.underlying34 Try.underlying29 (by kernel_rfl) (by kernel_rfl) hf with ⟨hcs, _⟩ | ⟨x, l, c, m, hcs, hl, hm, hmm, hx⟩
  · simp [Value.cells] at hcs
    obtain ⟨rfl, rfl, rfl⟩ := hcs
    exact ⟨(none, 0, 0, []), rfl, rfl, Nat.le_refl _, Nat.zero_le _, fun p hp => by simp at hp, .inl rfl⟩
  · simp [Value.cells] at hcs
    obtain ⟨rfl, rfl, rfl⟩ := hcs
    simp only [if_true] at hmm
    have key : ∀ i, i < len → ∃ q : Pr, longPr q ∧ W.cell? (x.add (i * 2)) = some (.string q.1) ∧ W.cell? (x.add (i * 2 + 1)) = some (.string q.2) := by
      intro i hi
      obtain ⟨n, hn⟩ := hx i (by omega)
      obtain ⟨v0, y0, c0, t0⟩ := hn 0 _ rfl
      obtain ⟨v1, y1, c1, t1⟩ := hn 1 _ rfl
      obtain ⟨s0, e0, _, b0⟩ := DataW.trod_string Try.underlying9 t0
      obtain ⟨s1, e1, _, b1⟩ := DataW.trod_string Try.underlying9 t1
      simp at e0 e1
      subst e0 e1
      exact ⟨(s0, s1), ⟨b0, b1⟩, by simpa using c0, by simpa using c1⟩
    obtain ⟨ps, hpl, hps⟩ := choose_list len _ key
    refine ⟨(some x, len, cap, ps), rfl, hpl, hl, hm, fun q hq => ?_, ?_⟩
    · obtain ⟨i, hi, rfl⟩ := List.getElem_of_mem hq
      exact (hps i hi).1
    by_cases h0 : len = 0
    · exact .inl (by rw [List.eq_nil_of_length_eq_zero (hpl.trans h0)]; rfl)
    · obtain ⟨b, off, spot⟩ := x
      have h1 := (hps 0 (by omega)).2.1
      have hs : spot = none := by simpa [Addr.add] using World.cell?_spot h1
      subst hs
      have hlt : b < W.heap.size := by
        by_cases hlt : b < W.heap.size
        · exact hlt
        · simp [World.cell?, Addr.add, Array.getElem?_eq_none (show W.heap.size ≤ b by omega)] at h1
      have hadd : ∀ j, W.cell? ((⟨b, off, none⟩ : Addr).add j) = W.cell? ⟨b, off + j, none⟩ := by
        intro j
        by_cases hj0 : j = 0
        · subst hj0
          simp [Addr.add]
        · simp [Addr.add, hj0]
      refine .inr ⟨b, off, rfl, hlt, fun j u hu => ?_⟩
      have hj : j < ps.length * 2 := by
        have := (List.getElem?_eq_some_iff.1 hu).1
        rwa [prCells_len] at this
      have hk : j / 2 < ps.length := by omega
      have hat := prCells_at ps (j / 2) hk
      have hce := (hps (j / 2) hk).2
      rw [hadd, hadd] at hce
      have h2 : j = j / 2 * 2 ∨ j = j / 2 * 2 + 1 := by omega
      rcases h2 with e | e
      · rw [e] at hu ⊢
        have e2 : j / 2 * 2 / 2 = j / 2 := by omega
        rw [hat.1] at hu
        injection hu with hu
        rw [← hu]
        exact hce.1
      · have hu' : (prCells ps)[j / 2 * 2 + 1]? = some u := by rw [← e]; exact hu
        rw [hat.2] at hu'
        injection hu' with hu'
        rw [e, ← hu']
        have e2 : (j / 2 * 2 + 1) / 2 = j / 2 := by omega
        exact hce.2

end Go.Proofs.Ytkpgbombikgffaa
