/- Precincts: cells, what makes them valid; the law's argument opened to cells. The conditions stand in each theorem. -/
import Derived.Test.YtkpgbombikgffaaPile
import Derived.Test.YtkpgbombikgffaaOpenP
namespace Go.Proofs.Ytkpgbombikgffaa
open Go.RowKit Go.ChangeShapes Go.WideShapes Go.Deep Go.Joins
set_option linter.unusedVariables false

/-- A precinct: its number, where its piles lie, the piles. -/
structure Pc where
  id : Int
  A : Option Addr
  n : Nat
  c : Nat
  ps : List Pl
instance : Inhabited Pc := ⟨⟨0, none, 0, 0, []⟩⟩
def pcV (p : Pc) : Value := .agg #[.int .i64 p.id, .slice p.A p.n p.c]
def pcCells (l : List Pc) : List Value := l.flatMap fun p => [.int .i64 p.id, .slice p.A p.n p.c]
theorem pcCells_len (l : List Pc) : (pcCells l).length = l.length * 2 := by
  induction l with
  | nil => rfl
  | cons p l ih =>
    simp only [pcCells, List.flatMap_cons, List.length_append, List.length_cons, List.length_nil] at ih ⊢
    omega
theorem pcCells_app (l m : List Pc) : pcCells (l ++ m) = pcCells l ++ pcCells m := by simp [pcCells]
theorem pcCells_at : ∀ (l : List Pc) (k : Nat) (h : k < l.length), (pcCells l)[k * 2]? = some (.int .i64 l[k].id) ∧ (pcCells l)[k * 2 + 1]? = some (.slice l[k].A l[k].n l[k].c)
  | p :: l, 0, _ => ⟨rfl, rfl⟩
  | p :: l, k + 1, h => by
    have ih := pcCells_at l k (by simpa using h)
    have e1 : (k + 1) * 2 = k * 2 + 1 + 1 := by omega
    rw [e1]
    show (Value.int .i64 p.id :: Value.slice p.A p.n p.c :: pcCells l)[k * 2 + 1 + 1]? = _ ∧ (Value.int .i64 p.id :: Value.slice p.A p.n p.c :: pcCells l)[k * 2 + 1 + 1 + 1]? = _
    simpa using ih
theorem prec_at {w : World} {B : Nat} {A : Option Addr} {l : List Pc} (h : Row w B A (pcCells l)) {k : Nat} (hk : k < l.length) :
    ∃ b off, A = some ⟨b, off, none⟩ ∧ b < B ∧ w.cell? ⟨b, off + k * 2, none⟩ = some (.int .i64 l[k].id) ∧ w.cell? ⟨b, off + k * 2 + 1, none⟩ = some (.slice l[k].A l[k].n l[k].c) := by
  rcases h with h | ⟨b, off, e, hb, hc⟩
  · have := pcCells_len l
    rw [h] at this
    simp at this
    omega
  · have h1 := pcCells_at l k hk
    exact ⟨b, off, e, hb, hc _ _ h1.1, hc _ _ h1.2⟩
theorem prec_of {w : World} {B b off : Nat} {l : List Pc} (h : Row w B (some ⟨b, off, none⟩) (pcCells l)) {k : Nat} (hk : k < l.length) :
    w.cell? ⟨b, off + k * 2, none⟩ = some (.int .i64 l[k].id) ∧ w.cell? ⟨b, off + k * 2 + 1, none⟩ = some (.slice l[k].A l[k].n l[k].c) := by
  obtain ⟨b', off', e, _, h0, h1⟩ := prec_at h hk
  injection e with e
  injection e with e1 e2
  subst e1 e2
  exact ⟨h0, h1⟩
/-- The piles of a precinct lie below B. -/
structure PcIn (w : World) (B : Nat) (p : Pc) : Prop where
  len : p.ps.length = p.n
  cap : p.n ≤ p.c
  max : p.c ≤ maxLen
  row : Row w B p.A (plCells p.ps)
theorem PcIn.below {w w' : World} {B : Nat} {p : Pc} (h : PcIn w B p) (hb : Below B w w') : PcIn w' B p := ⟨h.len, h.cap, h.max, h.row.below hb⟩
theorem PcIn.more {w : World} {B B' : Nat} {p : Pc} (h : PcIn w B p) (hB : B ≤ B') : PcIn w B' p := ⟨h.len, h.cap, h.max, h.row.more hB⟩
/-- What counts of a precinct. -/
def core (p : Pc) : Int × List Pl := (p.id, p.ps)

def okIdAt (l : List (Int × List Pl)) (k : Nat) : Bool := match l[k]? with
  | some p => decide ((1 : Int) ≤ p.1 ∧ p.1 ≤ (99 : Int)) && (plsB p.2 && (match k with | 0 => true | j + 1 => (match l[j]? with | some q => decide (q.1 < p.1) | none => true)))
  | none => true
theorem okIdAt_zero {l : List (Int × List Pl)} (h : 0 < l.length) : okIdAt l 0 = (decide ((1 : Int) ≤ l[0].1 ∧ l[0].1 ≤ (99 : Int)) && plsB l[0].2) := by
  simp [okIdAt, List.getElem?_eq_getElem h]
theorem okIdAt_succ {l : List (Int × List Pl)} {j : Nat} (h : j + 1 < l.length) : okIdAt l (j + 1) = (decide ((1 : Int) ≤ l[j + 1].1 ∧ l[j + 1].1 ≤ (99 : Int)) && (plsB l[j + 1].2 && decide ((l[j]'(by omega)).1 < l[j + 1].1))) := by
  simp [okIdAt, List.getElem?_eq_getElem h, List.getElem?_eq_getElem (show j < l.length by omega)]
theorem okIdAt_bad1 {l : List (Int × List Pl)} {k : Nat} (h : k < l.length) (hb : l[k].1 < 1 ∨ 99 < l[k].1) : okIdAt l k = false := by
  have e : decide ((1 : Int) ≤ l[k].1 ∧ l[k].1 ≤ (99 : Int)) = false := decide_eq_false (by omega)
  cases k with
  | zero => rw [okIdAt_zero h, e]; rfl
  | succ j => rw [okIdAt_succ h, e]; rfl
theorem okIdAt_bad2 {l : List (Int × List Pl)} {k : Nat} (h : k < l.length) (hb : plsB l[k].2 = false) : okIdAt l k = false := by
  cases k with
  | zero => rw [okIdAt_zero h, hb]; simp
  | succ j => rw [okIdAt_succ h, hb]; simp
def pcsB (l : List (Int × List Pl)) : Bool := allR (okIdAt l) l.length && decide (l.length ≤ 6)
theorem pcsB_bad {l : List (Int × List Pl)} {k : Nat} (hk : k < l.length) (h : okIdAt l k = false) : pcsB l = false := by
  unfold pcsB
  rw [allR_bad hk h]
  rfl
theorem pcsB_all {l : List (Int × List Pl)} (h : allR (okIdAt l) l.length = true) : pcsB l = decide ((l.length : Int) ≤ 6) := by
  unfold pcsB
  rw [h, Bool.true_and]
  exact decide_eq_decide.2 (by omega)

/-! The law's argument. -/
def pcSl (z : Option Addr × Nat × Nat × List Pc) : Value := .slice z.1 z.2.1 z.2.2.1
def longPl (p : Pl) : Prop := p.1.size ≤ maxLen
def IsPrecs (w : World) (z : Option Addr × Nat × Nat × List Pc) : Prop := z.2.2.2.length = z.2.1 ∧ z.2.1 ≤ z.2.2.1 ∧ z.2.2.1 ≤ maxLen ∧ Row w w.heap.size z.1 (pcCells z.2.2.2) ∧ ∀ p ∈ z.2.2.2, PcIn w w.heap.size p ∧ ∀ q ∈ p.ps, longPl q
theorem lt_of_cell {W : World} {b o : Nat} {u : Value} (h : W.cell? ⟨b, o, none⟩ = some u) : b < W.heap.size := by
  by_cases hlt : b < W.heap.size
  · exact hlt
  · simp [World.cell?, Array.getElem?_eq_none (show W.heap.size ≤ b by omega)] at h
theorem row_two {W : World} {x : Addr} {len : Nat} {xs : List Value} (hl : xs.length = len * 2) (f g : Nat → Value) (hx : ∀ i, i < len → xs[i * 2]? = some (f i) ∧ xs[i * 2 + 1]? = some (g i))
    (hc : ∀ i, i < len → W.cell? (x.add (i * 2)) = some (f i) ∧ W.cell? (x.add (i * 2 + 1)) = some (g i)) : Row W W.heap.size (some x) xs := by
  by_cases h0 : len = 0
  · exact .inl (List.eq_nil_of_length_eq_zero (by omega))
  · obtain ⟨b, off, spot⟩ := x
    have h1 := (hc 0 (by omega)).1
    have hs : spot = none := by simpa [Addr.add] using World.cell?_spot h1
    subst hs
    have hadd : ∀ j, W.cell? ((⟨b, off, none⟩ : Addr).add j) = W.cell? ⟨b, off + j, none⟩ := by
      intro j
      by_cases hj0 : j = 0
      · subst hj0
        simp [Addr.add]
      · simp [Addr.add, hj0]
    rw [hadd] at h1
    refine .inr ⟨b, off, rfl, lt_of_cell h1, fun j u hu => ?_⟩
    have hj : j < len * 2 := by
      have := (List.getElem?_eq_some_iff.1 hu).1
      omega
    have hat := hx (j / 2) (by omega)
    have hce := hc (j / 2) (by omega)
    rw [hadd, hadd] at hce
    have h2 : j = j / 2 * 2 ∨ j = j / 2 * 2 + 1 := by omega
    rcases h2 with e | e
    · have hu' : xs[j / 2 * 2]? = some u := by rw [← e]; exact hu
      rw [hat.1] at hu'
      injection hu' with hu'
      rw [e, ← hu']
      exact hce.1
    · have hu' : xs[j / 2 * 2 + 1]? = some u := by rw [← e]; exact hu
      rw [hat.2] at hu'
      injection hu' with hu'
      rw [e, ← hu']
      exact hce.2

set_option maxRecDepth 100000 in
theorem opn_piles {H : Type} {enc : TypeId × Value → H} {W : World} {fuel : Nat} {v : Value} {y : DataW H × List MemPlace}
    (h : DataW.trod enc Try.prog W 0 (fun _ => true) true fuel 81 [v] = some y) : ∃ (A : Option Addr) (n c : Nat) (ps : List Pl), v = .slice A n c ∧ ps.length = n ∧ n ≤ c ∧ c ≤ maxLen ∧ Row W W.heap.size A (plCells ps) ∧ ∀ q ∈ ps, longPl q := by
  rcases open_slice_fields Try.underlying81 Try.underlying103 (by kernel_rfl) (by kernel_rfl) h with ⟨hcs, _⟩ | ⟨x, l, c, m, hcs, hl, hm, hmm, hx⟩
  · simp at hcs
    subst hcs
    exact ⟨none, 0, 0, [], rfl, rfl, Nat.le_refl _, Nat.zero_le _, .inl rfl, fun q hq => by cases hq⟩
  · simp at hcs
    subst hcs
    simp only [if_true] at hmm
    have key : ∀ i, i < l → ∃ q : Pl, longPl q ∧ W.cell? (x.add (i * 2)) = some (.string q.1) ∧ W.cell? (x.add (i * 2 + 1)) = some (.int .i64 q.2) := by
      intro i hi
      obtain ⟨n, hn⟩ := hx i (by omega)
      obtain ⟨v0, y0, c0, t0⟩ := hn 0 _ rfl
      obtain ⟨v1, y1, c1, t1⟩ := hn 1 _ rfl
      obtain ⟨s0, e0, _, b0⟩ := DataW.trod_string Try.underlying9 t0
      obtain ⟨s1, e1, _⟩ := DataW.trod_int Try.underlying3 t1
      simp at e0 e1
      subst e0 e1
      exact ⟨(s0, s1), b0, by simpa using c0, by simpa using c1⟩
    obtain ⟨ps, hpl, hps⟩ := choose_list l _ key
    refine ⟨some x, l, c, ps, rfl, hpl, hl, hm, ?_, fun q hq => ?_⟩
    · refine row_two (by rw [plCells_len, hpl]) (fun i => .string (ps.getD i default).1) (fun i => .int .i64 (ps.getD i default).2) (fun i hi => ?_) fun i hi => ?_
      · have := plCells_at ps i (by omega)
        simpa [List.getD_eq_getElem?_getD, List.getElem?_eq_getElem (show i < ps.length by omega)] using this
      · have := (hps i (by omega)).2
        simpa [List.getD_eq_getElem?_getD, List.getElem?_eq_getElem (show i < ps.length by omega)] using this
    · obtain ⟨i, hi, rfl⟩ := List.getElem_of_mem hq
      exact (hps i hi).1

set_option maxRecDepth 100000 in
theorem opn_60 {H : Type} {enc : TypeId × Value → H} {W : World} {base : Nat} {v : Value} {d : DataW H} {p : List MemPlace}
    (hv : Value.okWide Try.prog W .any base 60 v) (h : DataW.Trod enc Try.prog W 0 (fun _ => true) true 60 v d p) : ∃ z, v = pcSl z ∧ IsPrecs W z := by
  obtain ⟨a, len, cap, rfl⟩ := okWide_slice Try.underlying60 hv
  obtain ⟨fuel, hf⟩ := h
  rcases open_slice_fields Try.underlying60 Try.underlying83 (by kernel_rfl) (by kernel_rfl) hf with ⟨hcs, _⟩ | ⟨x, l, c, m, hcs, hl, hm, hmm, hx⟩
  · simp [Value.cells] at hcs
    obtain ⟨rfl, rfl, rfl⟩ := hcs
    exact ⟨(none, 0, 0, []), rfl, rfl, Nat.le_refl _, Nat.zero_le _, .inl rfl, fun p hp => by cases hp⟩
  · simp [Value.cells] at hcs
    obtain ⟨rfl, rfl, rfl⟩ := hcs
    simp only [if_true] at hmm
    have key : ∀ i, i < len → ∃ q : Pc, (PcIn W W.heap.size q ∧ ∀ r ∈ q.ps, longPl r) ∧ W.cell? (x.add (i * 2)) = some (.int .i64 q.id) ∧ W.cell? (x.add (i * 2 + 1)) = some (.slice q.A q.n q.c) := by
      intro i hi
      obtain ⟨n, hn⟩ := hx i (by omega)
      obtain ⟨v0, y0, c0, t0⟩ := hn 0 _ rfl
      obtain ⟨v1, y1, c1, t1⟩ := hn 1 _ rfl
      obtain ⟨s0, e0, _⟩ := DataW.trod_int Try.underlying3 t0
      simp at e0
      subst e0
      obtain ⟨A, k, cc, ps, rfl, h1, h2, h3, h4, h5⟩ := opn_piles t1
      exact ⟨⟨s0, A, k, cc, ps⟩, ⟨⟨h1, h2, h3, h4⟩, h5⟩, by simpa using c0, by simpa using c1⟩
    obtain ⟨ps, hpl, hps⟩ := choose_list len _ key
    refine ⟨(some x, len, cap, ps), rfl, hpl, hl, hm, ?_, fun q hq => ?_⟩
    · refine row_two (by rw [pcCells_len, hpl]) (fun i => .int .i64 (ps.getD i default).id) (fun i => .slice (ps.getD i default).A (ps.getD i default).n (ps.getD i default).c) (fun i hi => ?_) fun i hi => ?_
      · have := pcCells_at ps i (by omega)
        simpa [List.getD_eq_getElem?_getD, List.getElem?_eq_getElem (show i < ps.length by omega)] using this
      · have := (hps i (by omega)).2
        simpa [List.getD_eq_getElem?_getD, List.getElem?_eq_getElem (show i < ps.length by omega)] using this
    · obtain ⟨i, hi, rfl⟩ := List.getElem_of_mem hq
      exact (hps i hi).1

end Go.Proofs.Ytkpgbombikgffaa
