/- Pairs of ballots: plain facts on votes, errors and sums of errors. The conditions stand in each theorem. -/
import Derived.Test.YtkpgbombikgffaaPair3
namespace Go.Proofs.Ytkpgbombikgffaa
set_option linter.unusedVariables false

theorem voteL_swap (zs : List Int) (wi lo : Int) : voteL zs lo wi = -voteL zs wi lo := by
  cases zs with
  | nil => simp [voteL]
  | cons z t => simp only [voteL]; omega
theorem rvB_swap (wi lo : Int) : rvB lo wi = rvB wi lo := by
  unfold rvB
  exact decide_eq_decide.2 (by omega)
theorem pe_swap (p : Pr) (wi lo : Int) : pe p lo wi = -pe p wi lo := by
  unfold pe voteZ
  rw [rvB_swap wi lo, voteL_swap (zsP p.1) wi lo, voteL_swap (zsP p.2) wi lo]
  split <;> omega
theorem pe_rev (a b : ByteArray) (wi lo : Int) : pe (b, a) wi lo = -pe (a, b) wi lo := by
  unfold pe okPr
  rw [Bool.and_comm (okP b) (okP a)]
  simp only
  split <;> omega
theorem pe_self (a : ByteArray) (wi lo : Int) : pe (a, a) wi lo = 0 := by
  unfold pe
  split <;> simp
/-- The text of one letter. -/
def chr (x : Nat) : ByteArray := ⟨#[UInt8.ofNat (97 + x)]⟩
theorem chr_size (x : Nat) : (chr x).size = 1 := rfl
theorem chr_ok (x : Nat) (h : x < 5) : parseZ (chr x) = [(x : Int)] ∧ okP (chr x) = true ∧ zsP (chr x) = [(x : Int)] := by
  have h5 : x = 0 ∨ x = 1 ∨ x = 2 ∨ x = 3 ∨ x = 4 := by omega
  have h1 : parseZ (chr x) = [(x : Int)] := by rcases h5 with rfl | rfl | rfl | rfl | rfl <;> decide
  have h2 : okP (chr x) = true := by rcases h5 with rfl | rfl | rfl | rfl | rfl <;> decide
  exact ⟨h1, h2, (zsP_yes h2).trans h1⟩
theorem nil_ok : okP ⟨#[]⟩ = true ∧ zsP ⟨#[]⟩ = [] := by decide
theorem aa_no : okP ⟨#[97, 97]⟩ = false := by decide
theorem vote_chr (x : Nat) (wi lo : Int) (h : x < 5) : voteZ (chr x) wi lo = one01 ((x : Int) == wi) - one01 ((x : Int) == lo) := by
  unfold voteZ
  rw [(chr_ok x h).2.2]
  rfl
theorem vote_nil (wi lo : Int) : voteZ ⟨#[]⟩ wi lo = 0 := by
  unfold voteZ
  rw [nil_ok.2]
  rfl
theorem pe_two (x y : Nat) (hx : x < 5) (hy : y < 5) (hne : x ≠ y) :
    pe (chr x, chr y) x y = 2 ∧ pe (chr x, ⟨#[]⟩) x y = 1 ∧ pe (⟨#[]⟩, chr x) x y = -1 := by
  have hr : rvB (x : Int) (y : Int) = true := rvB_yes (by omega)
  have e1 : (((x : Int)) == (y : Int)) = false := by simp; omega
  have e2 : (((y : Int)) == (x : Int)) = false := by simp; omega
  have o1 : okP (chr x) = true := (chr_ok x hx).2.1
  have o2 : okP (chr y) = true := (chr_ok y hy).2.1
  refine ⟨?_, ?_, ?_⟩
  · rw [pe_yes (by unfold okPr; rw [o1, o2]; rfl) hr]
    show voteZ (chr x) x y - voteZ (chr y) x y = 2
    rw [vote_chr x _ _ hx, vote_chr y _ _ hy, e1, e2]
    simp [one01]
  · rw [pe_yes (by unfold okPr; rw [o1, nil_ok.1]; rfl) hr]
    show voteZ (chr x) x y - voteZ ⟨#[]⟩ x y = 1
    rw [vote_chr x _ _ hx, vote_nil, e1]
    simp [one01]
  · rw [pe_yes (by unfold okPr; rw [o1, nil_ok.1]; rfl) hr]
    show voteZ ⟨#[]⟩ x y - voteZ (chr x) x y = -1
    rw [vote_chr x _ _ hx, vote_nil, e1]
    simp [one01]

/-- The places at which a pair differs. -/
def wrongs : List Pr → Nat → List Int
  | [], _ => []
  | p :: l, k => if p.1 = p.2 then wrongs l (k + 1) else (k : Int) :: wrongs l (k + 1)
theorem wrongs_app (l m : List Pr) : ∀ k, wrongs (l ++ m) k = wrongs l k ++ wrongs m (k + l.length) := by
  induction l with
  | nil => intro k; simp [wrongs]
  | cons p l ih =>
    intro k
    simp only [List.cons_append, wrongs, ih (k + 1), List.length_cons]
    rw [show k + 1 + l.length = k + (l.length + 1) by omega]
    split <;> simp
theorem wrongs_len (l : List Pr) : ∀ k, (wrongs l k).length ≤ l.length := by
  induction l with
  | nil => intro k; simp [wrongs]
  | cons p l ih =>
    intro k
    have := ih (k + 1)
    simp only [wrongs]
    split <;> simp <;> omega
theorem wrongs_step_no (ps : List Pr) (k : Nat) (h : k < ps.length) (e : ps[k].1 = ps[k].2) : wrongs (ps.take (k + 1)) 0 = wrongs (ps.take k) 0 := by
  rw [List.take_succ_eq_append_getElem h, wrongs_app]
  simp [wrongs, e]
theorem wrongs_step_yes (ps : List Pr) (k : Nat) (h : k < ps.length) (e : ps[k].1 ≠ ps[k].2) : wrongs (ps.take (k + 1)) 0 = wrongs (ps.take k) 0 ++ [(k : Int)] := by
  rw [List.take_succ_eq_append_getElem h, wrongs_app]
  have : (ps.take k).length = k := by rw [List.length_take]; omega
  simp [wrongs, e, this]
theorem wrongs_mem (l : List Pr) : ∀ (k : Nat) (x : Int), x ∈ wrongs l k ↔ ∃ (i : Nat) (h : i < l.length), x = (k : Int) + (i : Int) ∧ l[i].1 ≠ l[i].2 := by
  induction l with
  | nil => intro k x; simp [wrongs]
  | cons p l ih =>
    intro k x
    have key : x ∈ wrongs l (k + 1) ↔ ∃ (i : Nat) (h : i + 1 < (p :: l).length), x = (k : Int) + ((i + 1 : Nat) : Int) ∧ ((p :: l)[i + 1]).1 ≠ ((p :: l)[i + 1]).2 := by
      rw [ih (k + 1) x]
      constructor
      · rintro ⟨i, h, e, hn⟩
        exact ⟨i, by simpa using h, by omega, by simpa using hn⟩
      · rintro ⟨i, h, e, hn⟩
        exact ⟨i, by simpa using h, by omega, by simpa using hn⟩
    constructor
    · intro hx
      simp only [wrongs] at hx
      split at hx
      · obtain ⟨i, h, e, hn⟩ := key.1 hx
        exact ⟨i + 1, h, e, hn⟩
      · rcases List.mem_cons.1 hx with hx | hx
        · exact ⟨0, by simp, by simpa using hx, by simpa using ‹¬ p.1 = p.2›⟩
        · obtain ⟨i, h, e, hn⟩ := key.1 hx
          exact ⟨i + 1, h, e, hn⟩
    · rintro ⟨i, h, e, hn⟩
      simp only [wrongs]
      cases i with
      | zero =>
        have hn' : ¬ p.1 = p.2 := by simpa using hn
        rw [if_neg hn']
        exact List.mem_cons.2 (.inl (by simpa using e))
      | succ i =>
        have hx := key.2 ⟨i, h, e, hn⟩
        split
        · exact hx
        · exact List.mem_cons_of_mem _ hx
theorem wrongs_has (ps : List Pr) (k : Nat) (h : k < ps.length) : hasB (wrongs ps 0) (k : Int) = decide (ps[k].1 ≠ ps[k].2) := by
  rw [Bool.eq_iff_iff, hasB_iff, wrongs_mem, decide_eq_true_eq]
  constructor
  · rintro ⟨i, hi, e, hn⟩
    have : i = k := by omega
    subst this
    exact hn
  · intro hn
    exact ⟨k, h, by omega, hn⟩
def wrgL (ps : List Pr) : List Int := if pvB ps = true then wrongs ps 0 else []
theorem wrg_yes {ps : List Pr} (h : pvB ps = true) : wrgL ps = wrongs ps 0 := if_pos h
theorem wrg_no {ps : List Pr} (h : pvB ps = false) : wrgL ps = [] := if_neg (by rw [h]; exact Bool.false_ne_true)
theorem wrg_len (ps : List Pr) : (wrgL ps).length ≤ 20 := by
  cases h : pvB ps with
  | true =>
    rw [wrg_yes h]
    have := wrongs_len ps 0
    have := (pvB_len h).1
    omega
  | false => rw [wrg_no h]; simp

theorem pvB_sub {ps qs : List Pr} (h : pvB ps = true) (hs : ∀ p ∈ qs, p ∈ ps) (hl : qs.length ≤ 20) : pvB qs = true := by
  have h1 := (pvB_len h).2
  unfold pvB
  rw [List.all_eq_true] at h1
  have h2 : qs.all okPr = true := List.all_eq_true.2 fun p hp => h1 p (hs p hp)
  rw [h2]
  simp [hl]
theorem psum_split (ps : List Pr) (k : Nat) (wi lo : Int) : psum (ps.take k) wi lo + psum (ps.drop k) wi lo = psum ps wi lo := by
  rw [← psum_app, List.take_append_drop]

end Go.Proofs.Ytkpgbombikgffaa
