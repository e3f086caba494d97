/- Ledgers of events: what moving and opening a box does, and what another lock or other ballots do, in plain lists and functions. -/
import Derived.Test.YtdmgaafmmjeelaaEvP
import Derived.Test.YtdmgaafmmjeelaaLed7
namespace Go.Proofs.Ytdmgaafmmjeelaa
set_option linter.unusedVariables false

theorem sea_true {l : List Ev} {b : Int} (h : (sea l b).2.2 = true) : lvB l = true ∧ ∃ e, (foll l l.length).last b = some e ∧ okE e = true ∧ e.bx = b ∧ e.kd ≠ 3 ∧ sea l b = (e.sl, e.mn, true) := by
  cases hv : lvB l with
  | false => rw [sea_bad hv] at h; cases h
  | true =>
    refine ⟨rfl, ?_⟩
    cases h1 : (foll l l.length).last b with
    | none => rw [sea_none hv h1] at h; cases h
    | some e =>
      have hb := foll_last l (lvB_of hv).2 l.length b e h1
      by_cases h3 : e.kd = 3
      · rw [sea_open hv h1 h3] at h; cases h
      · exact ⟨e, rfl, hb.1, hb.2, h3, sea_yes hv h1 h3⟩
theorem fits_open {s : St} {e x : Ev} (h : s.last e.bx = some x) (h1 : e.kd ≠ 1) : s.fits e = (x.kd != 3 && (x.sl == e.sl && x.mn == e.mn)) := by
  unfold St.fits
  rw [if_neg h1, h]
theorem take_last (s : St) (e : Ev) : (s.take e).last e.bx = some e := if_pos rfl

theorem moved {l : List Ev} {b s m : Int} (h : sea l b = (s, m, true)) (hl : l.length + 2 ≤ 20) :
    (sea (l ++ [⟨b, 2, s, m⟩, ⟨b, 3, s, m⟩]) b).2.2 = false ∧ gapsE (l ++ [⟨b, 2, s, m⟩, ⟨b, 3, s, m⟩]) = gapsE l := by
  obtain ⟨hv, e, h1, hok, hb, hk, hs⟩ := sea_true (l := l) (b := b) (by rw [h])
  rw [h] at hs
  injection hs with hs1 hs2
  injection hs2 with hs2 _
  have he := (okE_iff e).1 hok
  have o1 : okE ⟨b, 2, s, m⟩ = true := (okE_iff _).2 (by simp only; omega)
  have o2 : okE ⟨b, 3, s, m⟩ = true := (okE_iff _).2 (by simp only; omega)
  have ea : l ++ [⟨b, 2, s, m⟩, ⟨b, 3, s, m⟩] = (l ++ [⟨b, 2, s, m⟩]) ++ [⟨b, 3, s, m⟩] := by simp
  have f1 : (foll l l.length).fits ⟨b, 2, s, m⟩ = true := by
    rw [fits_open (x := e) h1 (by simp)]
    simp [hk, hs1, hs2]
  have v1 := lvB_snoc hv o1 (by omega)
  have l1 : (l ++ [(⟨b, 2, s, m⟩ : Ev)]).length = l.length + 1 := by simp
  have s1 : foll (l ++ [⟨b, 2, s, m⟩]) (l ++ [(⟨b, 2, s, m⟩ : Ev)]).length = (foll l l.length).take ⟨b, 2, s, m⟩ := by
    rw [l1, foll_snoc, step_yes f1]
  have f2 : (foll (l ++ [⟨b, 2, s, m⟩]) (l ++ [(⟨b, 2, s, m⟩ : Ev)]).length).fits ⟨b, 3, s, m⟩ = true := by
    rw [s1, fits_open (e := ⟨b, 3, s, m⟩) (x := ⟨b, 2, s, m⟩) (take_last _ ⟨b, 2, s, m⟩) (by simp)]
    simp
  have v2 := lvB_snoc v1 o2 (by omega)
  rw [ea]
  constructor
  · have s2 : (foll ((l ++ [(⟨b, 2, s, m⟩ : Ev)]) ++ [(⟨b, 3, s, m⟩ : Ev)]) ((l ++ [(⟨b, 2, s, m⟩ : Ev)]) ++ [(⟨b, 3, s, m⟩ : Ev)]).length).last b = some ⟨b, 3, s, m⟩ := by
      rw [List.length_append]
      show (foll _ ((l ++ [(⟨b, 2, s, m⟩ : Ev)]).length + 1)).last b = _
      rw [foll_snoc, step_yes f2]
      exact take_last _ ⟨b, 3, s, m⟩
    rw [sea_open v2 s2 rfl]
  · rw [gapsE_snoc v1 o2 (by omega), step_yes f2]
    show (foll (l ++ [⟨b, 2, s, m⟩]) (l ++ [(⟨b, 2, s, m⟩ : Ev)]).length).gaps = _
    rw [s1, gapsE_yes hv]
    rfl
theorem other {l : List Ev} {b s m s' m' : Int} (h : sea l b = (s, m, true)) (hl : l.length + 1 ≤ 20) (ho : 1 ≤ s' ∧ s' ≤ 99 ∧ 0 ≤ m' ∧ m' ≤ 99) (hd : s' ≠ s ∨ m' ≠ m) :
    (sea (l ++ [⟨b, 3, s', m'⟩]) b).2.2 = true ∧ hasB (gapsE (l ++ [⟨b, 3, s', m'⟩])) (l.length : Int) = true := by
  obtain ⟨hv, e, h1, hok, hb, hk, hs⟩ := sea_true (l := l) (b := b) (by rw [h])
  rw [h] at hs
  injection hs with hs1 hs2
  injection hs2 with hs2 _
  have he := (okE_iff e).1 hok
  have o1 : okE ⟨b, 3, s', m'⟩ = true := (okE_iff _).2 (by simp only; omega)
  have f1 : (foll l l.length).fits ⟨b, 3, s', m'⟩ = false := by
    rw [fits_open (x := e) h1 (by simp)]
    have : (e.sl == s' && e.mn == m') = false := by
      rw [← hs1, ← hs2]
      rcases hd with hd | hd
      · have : (s == s') = false := by simp; exact fun e => hd e.symm
        rw [this]; rfl
      · have : (m == m') = false := by simp; exact fun e => hd e.symm
        rw [this]; simp
    simp only [this, Bool.and_false]
  have v1 := lvB_snoc hv o1 hl
  constructor
  · have s2 : (foll (l ++ [⟨b, 3, s', m'⟩]) (l ++ [(⟨b, 3, s', m'⟩ : Ev)]).length).last b = some e := by
      rw [List.length_append]
      show (foll _ (l.length + 1)).last b = _
      rw [foll_snoc, step_no f1]
      exact h1
    rw [sea_yes v1 s2 hk]
  · rw [gapsE_snoc hv o1 hl, step_no f1]
    exact (hasB_iff _ _).2 (by simp)
theorem sea_one {l : List Ev} {b : Int} (h : (sea l b).2.2 = true) : 1 ≤ (sea l b).1 ∧ (sea l b).1 ≤ 99 ∧ 0 ≤ (sea l b).2.1 ∧ (sea l b).2.1 ≤ 99 ∧ l.length ≤ 20 := by
  obtain ⟨hv, e, h1, hok, hb, hk, hs⟩ := sea_true h
  have he := (okE_iff e).1 hok
  have := (lvB_of hv).1
  rw [hs]
  simp only
  omega

end Go.Proofs.Ytdmgaafmmjeelaa
