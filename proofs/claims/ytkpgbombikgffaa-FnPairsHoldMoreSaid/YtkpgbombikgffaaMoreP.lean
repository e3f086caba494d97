/- The plain law for FnPairsHoldMore; two operations of a region that are ready together. The conditions stand in each theorem. -/
import Derived.Test.YtkpgbombikgffaaPair4
import Derived.Test.YtkpgbombikgffaaPairM
import Derived.Test.YtkpgbombikgffaaSeq
import Derived.Test.YtkpgbombikgffaaApp
namespace Go.Proofs.Ytkpgbombikgffaa
open Go.RowKit Go.ChangeShapes
set_option linter.unusedVariables false

/-- One pair more and one error fewer that is not looked at: what held still holds. -/
theorem ph_more {ps : List Pr} {x y m u : Int} (h : phB ps x y m u = true) (hu : u ≠ 0) (hn : (ps.length : Int) ≠ 20) {p : Pr} (hp : okPr p = true) : phB (ps ++ [p]) x y m (u - 1) = true := by
  unfold phB at h
  rw [Bool.and_eq_true] at h
  obtain ⟨h1, h2⟩ := h
  have h2 := of_decide_eq_true h2
  obtain ⟨m0, m1, u0, u1, hz⟩ := h2
  unfold pseB at h1
  rw [Bool.and_eq_true] at h1
  obtain ⟨hv, hr⟩ := h1
  obtain ⟨hl, ha⟩ := pvB_len hv
  have hv2 : pvB (ps ++ [p]) = true := by
    unfold pvB
    rw [List.all_append, ha, List.length_append]
    simp [hp]
    omega
  have e1 := pse_yes hv hr
  have e2 := pse_yes hv2 hr
  have e3 := psum_app ps [p] x y
  have e4 : psum [p] x y = pe p x y := by
    show pe p x y + 0 = _
    omega
  have b := pe_bd p x y
  rw [phB_yes e2.2 m0 m1 (by omega) (by omega), e2.1, e3, e4]
  rw [e1.1] at hz
  exact decide_eq_true (by omega)
theorem phB_rv {ps : List Pr} {x y m u : Int} (h : phB ps x y m u = true) : rvB x y = true := by
  unfold phB pseB at h
  rw [Bool.and_eq_true, Bool.and_eq_true] at h
  exact h.1.2
theorem okPr_chr (x y : Nat) (hx : x < 5) (hy : y < 5) : okPr (chr x, chr y) = true := by
  unfold okPr
  rw [(chr_ok x hx).2.1, (chr_ok y hy).2.1]
  rfl
theorem okPr_nil : okPr (⟨#[]⟩, ⟨#[]⟩) = true := by
  unfold okPr
  rw [nil_ok.1]
  rfl

section
variable {P : Program} {md : Region.Mode} {l : List Oper} {Q : Exit → Act → World → Prop} {S : World → Prop}
theorem seq_two {i j : Nat} {oi oj : Oper} {fuel : Nat} {listed : Array Bool} {a : Act} {w : World} (hi : l[i]? = some oi) (hj : l[j]? = some oj) (hr : Region.ready md l.toArray listed = [i, j])
    (hwi : Region.wanted oi (yielded l.toArray a.tmps) = true) (hwj : Region.wanted oj (yielded l.toArray a.tmps) = true)
    (h1 : ∀ K' : Act → World → Prop, Shut (∀ a w, S w → (S w → wpAnyH P md l.toArray Q S fuel (listed.setIfInBounds i true) a w) → K' a w) → Oper.wp P oi a w K' Q)
    (h2 : ∀ K' : Act → World → Prop, Shut (∀ a w, S w → (S w → wpAnyH P md l.toArray Q S fuel (listed.setIfInBounds j true) a w) → K' a w) → Oper.wp P oj a w K' Q) : wpAnyH P md l.toArray Q S (fuel + 1) listed a w :=
  wpAnyH_ready hr (by simp) (AllReadyH.cons (by simpa using hi) (fun K hK => by rw [if_pos hwi]; exact h1 K hK) (AllReadyH.cons (by simpa using hj) (fun K hK => by rw [if_pos hwj]; exact h2 K hK) AllReadyH.nil))
end

end Go.Proofs.Ytkpgbombikgffaa
