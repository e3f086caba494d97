/- Seats by divisors, in plain lists: who gets the next seat; the seats behind some rounds; that rounds which begin with fewer seats come to the same seats. The conditions stand in each theorem. -/
import Derived.Test.YtjanmgiliooocaaManM
namespace Go.Proofs.Ytjanmgiliooocaa
open Man
set_option linter.unusedVariables false

def atZ (l : List Int) (k : Int) : Int := l.getD k.toNat 0
theorem atZ_nat (l : List Int) {i : Nat} (h : i < l.length) : atZ l (i : Int) = l[i] := by
  unfold atZ
  rw [Int.toNat_natCast, List.getD_eq_getElem?_getD, List.getElem?_eq_getElem h]
  rfl
def dv (me g : Int) : Int := me * g + 1
theorem dv_mono {me a b : Int} (hm : 1 ≤ me) (h : a ≤ b) : dv me a ≤ dv me b := by
  unfold dv
  have := Int.mul_le_mul_of_nonneg_left h (show 0 ≤ me by omega)
  omega
theorem dv_pos {me a : Int} (hm : 1 ≤ me) (h : 0 ≤ a) : 1 ≤ dv me a := by
  unfold dv
  have := Int.mul_nonneg (show 0 ≤ me by omega) h
  omega
/-- The quotient of k is greater than that of b. -/
def gtQ (v g : List Int) (me k b : Int) : Bool := decide (atZ v b * dv me (atZ g k) < atZ v k * dv me (atZ g b))
def bestF (v g : List Int) (me b : Int) : List Int → Int
  | [] => b
  | k :: l => bestF v g me (if gtQ v g me k b = true then k else b) l
theorem bestF_snoc (v g : List Int) (me : Int) : ∀ (l : List Int) (b k : Int), bestF v g me b (l ++ [k]) = if gtQ v g me k (bestF v g me b l) = true then k else bestF v g me b l
  | [], b, k => rfl
  | x :: l, b, k => bestF_snoc v g me l _ k
theorem gtQ_self (v g : List Int) (me b : Int) : gtQ v g me b b = false := by
  unfold gtQ
  simp
def nextL (v g : List Int) (me : Int) (lots : List Int) : Int := bestF v g me (lots.headD 0) lots
theorem nextL_tail (v g : List Int) (me : Int) (x : Int) (l : List Int) : nextL v g me (x :: l) = bestF v g me x l := by
  unfold nextL
  simp [bestF]

theorem frac_lt {a b c d e f : Int} (hd : 0 < d) (h1 : a * d ≤ c * b) (h2 : c * f < e * d) (hb : 0 < b) (hf : 0 ≤ f) : a * f < e * b := by
  have h3 : a * d * f ≤ c * b * f := Int.mul_le_mul_of_nonneg_right h1 hf
  have h4 : c * f * b < e * d * b := Int.mul_lt_mul_of_pos_right h2 hb
  have e1 : a * d * f = (a * f) * d := by rw [Int.mul_assoc, Int.mul_comm d f, ← Int.mul_assoc]
  have e2 : c * b * f = c * f * b := by rw [Int.mul_assoc, Int.mul_comm b f, ← Int.mul_assoc]
  have e3 : e * d * b = (e * b) * d := by rw [Int.mul_assoc, Int.mul_comm d b, ← Int.mul_assoc]
  rw [e1, e2] at h3
  rw [e3] at h4
  exact Int.lt_of_mul_lt_mul_right (Int.lt_of_le_of_lt h3 h4) (Int.le_of_lt hd)

/-- b is in the list; nobody has a greater quotient, and those ahead of it have a lesser one. -/
def Best (v g : List Int) (me : Int) (l : List Int) (b : Int) : Prop :=
  ∃ l1 l2, l = l1 ++ b :: l2 ∧ (∀ k ∈ l1, atZ v k * dv me (atZ g b) < atZ v b * dv me (atZ g k)) ∧ ∀ k ∈ l2, atZ v k * dv me (atZ g b) ≤ atZ v b * dv me (atZ g k)
theorem best_snoc {v g : List Int} {me : Int} (hm : 1 ≤ me) (hg : ∀ k, 0 ≤ atZ g k) {l : List Int} {b k : Int} (h : Best v g me l b) : Best v g me (l ++ [k]) (if gtQ v g me k b = true then k else b) := by
  obtain ⟨l1, l2, rfl, h1, h2⟩ := h
  have hpos : ∀ x, 0 < dv me (atZ g x) := fun x => by have := dv_pos hm (hg x); omega
  cases hq : gtQ v g me k b with
  | true =>
    simp only [gtQ, decide_eq_true_eq] at hq
    refine ⟨l1 ++ b :: l2, [], by simp, fun x hx => ?_, fun x hx => by cases hx⟩
    simp only [if_true]
    rcases List.mem_append.1 hx with hx | hx
    · exact frac_lt (hpos b) (Int.le_of_lt (h1 x hx)) hq (hpos x) (Int.le_of_lt (hpos k))
    · rcases List.mem_cons.1 hx with rfl | hx
      · exact hq
      · exact frac_lt (hpos b) (h2 x hx) hq (hpos x) (Int.le_of_lt (hpos k))
  | false =>
    simp only [gtQ, decide_eq_false_iff_not] at hq
    refine ⟨l1, l2 ++ [k], by simp, fun x hx => by simpa using h1 x hx, fun x hx => ?_⟩
    simp only [Bool.false_eq_true, if_false]
    rcases List.mem_append.1 hx with hx | hx
    · exact h2 x hx
    · rw [List.mem_singleton.1 hx]
      omega
theorem best_of {v g : List Int} {me : Int} (hm : 1 ≤ me) (hg : ∀ k, 0 ≤ atZ g k) : ∀ (l p : List Int) (b : Int), Best v g me p b → Best v g me (p ++ l) (bestF v g me b l)
  | [], p, b, h => by simpa [bestF] using h
  | k :: l, p, b, h => by
    have ih := best_of hm hg l (p ++ [k]) _ (best_snoc (k := k) hm hg h)
    rw [List.append_assoc] at ih
    exact ih
theorem best_next {v g : List Int} {me : Int} (hm : 1 ≤ me) (hg : ∀ k, 0 ≤ atZ g k) {lots : List Int} (hl : lots ≠ []) : Best v g me lots (nextL v g me lots) := by
  cases lots with
  | nil => exact absurd rfl hl
  | cons x l =>
    rw [nextL_tail]
    exact best_of hm hg l [x] x ⟨[], [], rfl, fun k hk => (by cases hk), fun k hk => (by cases hk)⟩
/-- The same by places. -/
theorem best_idx {v g : List Int} {me : Int} {l : List Int} {b : Int} (h : Best v g me l b) :
    b ∈ l ∧ ∀ p ∈ l, atZ v p * dv me (atZ g b) ≤ atZ v b * dv me (atZ g p) ∧ (l.idxOf p < l.idxOf b → atZ v p * dv me (atZ g b) < atZ v b * dv me (atZ g p)) := by
  obtain ⟨l1, l2, rfl, h1, h2⟩ := h
  refine ⟨by simp, fun p hp => ?_⟩
  have hb : (l1 ++ b :: l2).idxOf b ≤ l1.length := by
    rw [List.idxOf_append]
    split
    · exact List.idxOf_le_length
    · simp
  constructor
  · rcases List.mem_append.1 hp with hp | hp
    · exact Int.le_of_lt (h1 p hp)
    · rcases List.mem_cons.1 hp with rfl | hp
      · exact Int.le_refl _
      · exact h2 p hp
  · intro hlt
    refine h1 p ?_
    rw [List.idxOf_append] at hlt
    split at hlt
    · assumption
    · exfalso; omega

/-- One seat more for k. -/
def inc (g : List Int) (k : Int) : List Int := g.set k.toNat (atZ g k + 1)
theorem inc_len (g : List Int) (k : Int) : (inc g k).length = g.length := by simp [inc]
theorem atZ_inc {g : List Int} {k p : Int} (hk : 0 ≤ k) (hk2 : k < g.length) (hp : 0 ≤ p) : atZ (inc g k) p = if p = k then atZ g k + 1 else atZ g p := by
  unfold inc
  by_cases e : p = k
  · subst e
    rw [if_pos rfl]
    show (g.set p.toNat (atZ g p + 1)).getD p.toNat 0 = _
    rw [List.getD_eq_getElem?_getD, List.getElem?_set_self (by omega)]
    rfl
  · rw [if_neg e]
    show (g.set k.toNat (atZ g k + 1)).getD p.toNat 0 = g.getD p.toNat 0
    rw [List.getD_eq_getElem?_getD, List.getD_eq_getElem?_getD, List.getElem?_set_ne (by omega)]
theorem sumI_set (g : List Int) (i : Nat) (h : i < g.length) (x : Int) : sumI (g.set i x) = sumI g - g[i] + x := by
  induction g generalizing i with
  | nil => simp at h
  | cons z l ih =>
    cases i with
    | zero => simp only [List.set_cons_zero, sumI, List.getElem_cons_zero]; omega
    | succ i =>
      have := ih i (by simpa using h)
      simp only [List.set_cons_succ, sumI, List.getElem_cons_succ, this]
      omega
theorem sumI_inc {g : List Int} {k : Int} (hk : 0 ≤ k) (hk2 : k < g.length) : sumI (inc g k) = sumI g + 1 := by
  unfold inc
  rw [sumI_set g k.toNat (by omega)]
  have : atZ g k = g[k.toNat]'(by omega) := by
    have := atZ_nat g (i := k.toNat) (by omega)
    rwa [Int.toNat_of_nonneg hk] at this
  rw [this]
  omega

/-- Seats behind some rounds. -/
def alloc (v : List Int) (me : Int) (lots g : List Int) : Nat → List Int
  | 0 => g
  | k + 1 => inc (alloc v me lots g k) (nextL v (alloc v me lots g k) me lots)
structure Lots (n : Nat) (lots : List Int) : Prop where
  ne : lots ≠ []
  bd : ∀ p ∈ lots, 0 ≤ p ∧ p < (n : Int)
  all : ∀ i, i < n → (i : Int) ∈ lots
structure Seats (n : Nat) (g : List Int) : Prop where
  len : g.length = n
  nn : ∀ k, 0 ≤ atZ g k
theorem next_mem {n : Nat} {v g : List Int} {me : Int} {lots : List Int} (hm : 1 ≤ me) (L : Lots n lots) (G : Seats n g) : nextL v g me lots ∈ lots ∧ 0 ≤ nextL v g me lots ∧ nextL v g me lots < (n : Int) := by
  have h := (best_idx (best_next (v := v) hm G.nn L.ne)).1
  exact ⟨h, L.bd _ h⟩
theorem Seats.inc {n : Nat} {g : List Int} (G : Seats n g) {k : Int} (h0 : 0 ≤ k) (h1 : k < (n : Int)) : Seats n (inc g k) := by
  refine ⟨(inc_len g k).trans G.len, fun p => ?_⟩
  have hk : k < (g.length : Int) := by rw [G.len]; exact h1
  by_cases hp : 0 ≤ p
  · rw [atZ_inc h0 hk hp]
    split
    · have := G.nn k; omega
    · exact G.nn p
  · have h2 : atZ (Go.Proofs.Ytjanmgiliooocaa.inc g k) p = atZ (Go.Proofs.Ytjanmgiliooocaa.inc g k) 0 := by
      unfold atZ
      rw [show p.toNat = 0 by omega]
      rfl
    rw [h2, atZ_inc h0 hk (Int.le_refl 0)]
    split
    · have := G.nn k; omega
    · exact G.nn 0
theorem alloc_seats {n : Nat} {v g : List Int} {me : Int} {lots : List Int} (hm : 1 ≤ me) (L : Lots n lots) (G : Seats n g) : ∀ k, Seats n (alloc v me lots g k)
  | 0 => G
  | k + 1 => by
    have ih := alloc_seats (v := v) hm L G k
    have h := next_mem (v := v) hm L ih
    exact ih.inc h.2.1 h.2.2
theorem alloc_sum {n : Nat} {v g : List Int} {me : Int} {lots : List Int} (hm : 1 ≤ me) (L : Lots n lots) (G : Seats n g) : ∀ k : Nat, sumI (alloc v me lots g k) = sumI g + (k : Int)
  | 0 => by simp [alloc]
  | k + 1 => by
    have ih := alloc_sum (v := v) hm L G k
    have S := alloc_seats (v := v) hm L G k
    have h := next_mem (v := v) hm L S
    show sumI (inc _ _) = _
    rw [sumI_inc h.2.1 (by rw [S.len]; exact h.2.2), ih]
    omega
theorem alloc_mono {n : Nat} {v g : List Int} {me : Int} {lots : List Int} (hm : 1 ≤ me) (L : Lots n lots) (G : Seats n g) (k : Nat) (p : Int) (hp : 0 ≤ p) : atZ (alloc v me lots g k) p ≤ atZ (alloc v me lots g (k + 1)) p := by
  have S := alloc_seats (v := v) hm L G k
  have h := next_mem (v := v) hm L S
  show _ ≤ atZ (inc _ _) p
  rw [atZ_inc h.2.1 (by rw [S.len]; exact h.2.2) hp]
  split
  · rename_i e; rw [e]; omega
  · exact Int.le_refl _
theorem alloc_ge {n : Nat} {v g : List Int} {me : Int} {lots : List Int} (hm : 1 ≤ me) (L : Lots n lots) (G : Seats n g) (p : Int) (hp : 0 ≤ p) : ∀ k, atZ g p ≤ atZ (alloc v me lots g k) p
  | 0 => Int.le_refl _
  | k + 1 => Int.le_trans (alloc_ge (v := v) hm L G p hp k) (alloc_mono hm L G k p hp)
/-- Whoever has no votes gets no seat. -/
theorem alloc_none {n : Nat} {v g : List Int} {me : Int} {lots : List Int} (hm : 1 ≤ me) (L : Lots n lots) (G : Seats n g) {j p : Int} (hj : j ∈ lots) (hv : 0 < atZ v j) (hz : atZ v p = 0) (hp : 0 ≤ p) : ∀ k, atZ (alloc v me lots g k) p = atZ g p
  | 0 => rfl
  | k + 1 => by
    have ih := alloc_none hm L G hj hv hz hp k
    have S := alloc_seats (v := v) hm L G k
    have h := next_mem (v := v) hm L S
    show atZ (inc _ _) p = _
    rw [atZ_inc h.2.1 (by rw [S.len]; exact h.2.2) hp]
    split
    · rename_i e
      exfalso
      have hb := ((best_idx (best_next (v := v) hm S.nn L.ne)).2 j hj).1
      rw [← e, hz, Int.zero_mul] at hb
      have := dv_pos hm (S.nn p)
      have := Int.mul_pos hv (show 0 < dv me (atZ (alloc v me lots g k) p) by omega)
      omega
    · exact ih

/-- What seats by divisors keep. -/
def Stable (v x : List Int) (me : Int) (lots : List Int) : Prop := ∀ p ∈ lots, ∀ q ∈ lots, p ≠ q → 1 ≤ atZ x q →
  atZ v p * dv me (atZ x q - 1) ≤ atZ v q * dv me (atZ x p) ∧ (lots.idxOf p < lots.idxOf q → atZ v p * dv me (atZ x q - 1) < atZ v q * dv me (atZ x p))
theorem stable_alloc {n : Nat} {v g : List Int} {me : Int} {lots : List Int} (hm : 1 ≤ me) (L : Lots n lots) (G : Seats n g) (hz : ∀ k, atZ g k = 0) (hv : ∀ k, 0 ≤ atZ v k) : ∀ k, Stable v (alloc v me lots g k) me lots
  | 0 => fun p _ q _ _ h => by
    have := hz q
    simp only [alloc] at h
    omega
  | k + 1 => fun p hp q hq hne h1 => by
    have ih := stable_alloc hm L G hz hv k
    have S := alloc_seats (v := v) hm L G k
    have hn := next_mem (v := v) hm L S
    have hb := best_idx (best_next (v := v) hm S.nn L.ne)
    have hp0 := (L.bd p hp).1
    have hq0 := (L.bd q hq).1
    have hlen : nextL v (alloc v me lots g k) me lots < ((alloc v me lots g k).length : Int) := by rw [S.len]; exact hn.2.2
    have eq1 := atZ_inc (g := alloc v me lots g k) hn.2.1 hlen hq0
    have ep1 := atZ_inc (g := alloc v me lots g k) hn.2.1 hlen hp0
    have eq : atZ (alloc v me lots g (k + 1)) q = _ := eq1
    have ep : atZ (alloc v me lots g (k + 1)) p = _ := ep1
    rw [eq] at h1
    rw [eq, ep]
    by_cases e : q = nextL v (alloc v me lots g k) me lots
    · have e' : ¬ p = nextL v (alloc v me lots g k) me lots := fun h => hne (h.trans e.symm)
      rw [if_pos e, if_neg e', ← e]
      have := hb.2 p hp
      rw [← e] at this
      rw [show atZ (alloc v me lots g k) q + 1 - 1 = atZ (alloc v me lots g k) q by omega]
      exact this
    · rw [if_neg e] at h1 ⊢
      have h2 := ih p hp q hq hne h1
      by_cases e2 : p = nextL v (alloc v me lots g k) me lots
      · rw [if_pos e2, ← e2]
        have h3 := Int.mul_le_mul_of_nonneg_left (dv_mono hm (show atZ (alloc v me lots g k) p ≤ atZ (alloc v me lots g k) p + 1 by omega)) (hv q)
        exact ⟨Int.le_trans h2.1 h3, fun hi => Int.lt_of_lt_of_le (h2.2 hi) h3⟩
      · rw [if_neg e2]
        exact h2
theorem idx_ne {l : List Int} {p q : Int} (hp : p ∈ l) (hq : q ∈ l) (h : p ≠ q) : l.idxOf p ≠ l.idxOf q := fun e => by
  have h1 := List.getElem_idxOf (List.idxOf_lt_length_iff.2 hp)
  have h2 := List.getElem_idxOf (List.idxOf_lt_length_iff.2 hq)
  apply h
  rw [← h1, ← h2]
  congr 1
/-- The next seat does not pass stable seats. -/
theorem next_under {n : Nat} {v g x : List Int} {me : Int} {lots : List Int} (hm : 1 ≤ me) (L : Lots n lots) (G : Seats n g) (hv : ∀ k, 0 ≤ atZ v k) (hs : Stable v x me lots) (hle : ∀ k, 0 ≤ k → atZ g k ≤ atZ x k)
    {q : Int} (hq : q ∈ lots) (hlt : atZ g q < atZ x q) : atZ g (nextL v g me lots) < atZ x (nextL v g me lots) := by
  have hn := next_mem (v := v) hm L G
  have hb := best_idx (best_next (v := v) hm G.nn L.ne)
  generalize nextL v g me lots = p at *
  have h0 := hle p hn.2.1
  by_cases hc : atZ g p < atZ x p
  · exact hc
  · exfalso
    have e : atZ x p = atZ g p := by omega
    have hne : p ≠ q := fun h => by subst h; omega
    have h1 := hs p hn.1 q hq hne (by have := G.nn q; omega)
    have h2 := hb.2 q hq
    rw [e] at h1
    have h3 := Int.mul_le_mul_of_nonneg_left (dv_mono hm (show atZ g q ≤ atZ x q - 1 by omega)) (hv p)
    have hi := idx_ne hn.1 hq hne
    rcases Nat.lt_or_ge (lots.idxOf p) (lots.idxOf q) with hlt' | hge
    · have := h1.2 hlt'
      omega
    · have := h2.2 (by omega)
      omega
theorem sum_le : ∀ (g x : List Int), g.length = x.length → (∀ i, (h : i < g.length) → (h2 : i < x.length) → g[i] ≤ x[i]) → sumI g ≤ sumI x ∧ (sumI g = sumI x → g = x) ∧ (sumI g < sumI x → ∃ i, ∃ h : i < g.length, ∃ h2 : i < x.length, g[i] < x[i])
  | [], [], _, _ => ⟨Int.le_refl _, fun _ => rfl, fun h => by simp [sumI] at h⟩
  | [], _ :: _, h, _ => by simp at h
  | _ :: _, [], h, _ => by simp at h
  | a :: g, b :: x, h, hle => by
    have h0 := hle 0 (by simp) (by simp)
    simp only [List.getElem_cons_zero] at h0
    obtain ⟨i1, i2, i3⟩ := sum_le g x (by simpa using h) fun i hi hi2 => by
      have := hle (i + 1) (by simpa using hi) (by simpa using hi2)
      simpa using this
    refine ⟨by simp only [sumI]; omega, fun e => ?_, fun e => ?_⟩
    · simp only [sumI] at e
      have h1 : a = b := by omega
      rw [h1, i2 (by omega)]
    · simp only [sumI] at e
      by_cases hab : a < b
      · exact ⟨0, by simp, by simp, hab⟩
      · obtain ⟨i, hi, hi2, hlt⟩ := i3 (by omega)
        exact ⟨i + 1, by simpa using hi, by simpa using hi2, by simpa using hlt⟩
/-- Rounds that begin with fewer seats come to the same. -/
theorem alloc_same {n : Nat} {v g z : List Int} {me : Int} {lots : List Int} (hm : 1 ≤ me) (L : Lots n lots) (G : Seats n g) (Z : Seats n z) (hz : ∀ k, atZ z k = 0) (hv : ∀ k, 0 ≤ atZ v k) (N F : Nat)
    (hsum : sumI g + (F : Int) = sumI (alloc v me lots z N)) (hle : ∀ k, 0 ≤ k → atZ g k ≤ atZ (alloc v me lots z N) k) : alloc v me lots g F = alloc v me lots z N := by
  have X := alloc_seats (v := v) hm L Z N
  have hs := stable_alloc hm L Z hz hv N
  generalize alloc v me lots z N = x at *
  have key : ∀ k, k ≤ F → ∀ p, 0 ≤ p → atZ (alloc v me lots g k) p ≤ atZ x p := by
    intro k
    induction k with
    | zero => exact fun _ => hle
    | succ k ih =>
      intro hk p hp
      have ih := ih (by omega)
      have S := alloc_seats (v := v) hm L G k
      have hn := next_mem (v := v) hm L S
      have hsm := alloc_sum (v := v) hm L G k
      obtain ⟨_, _, h3⟩ := sum_le (alloc v me lots g k) x (S.len.trans X.len.symm) fun i h1 h2 => by
        have := ih i (by omega)
        rwa [atZ_nat _ h1, atZ_nat _ h2] at this
      obtain ⟨i, hi, hi2, hlt⟩ := h3 (by omega)
      have hq := L.all i (by rw [← S.len]; exact hi)
      have hnx := next_under hm L S hv hs ih hq (by rw [atZ_nat _ hi, atZ_nat _ hi2]; exact hlt)
      show atZ (inc _ _) p ≤ _
      rw [atZ_inc hn.2.1 (by rw [S.len]; exact hn.2.2) hp]
      split
      · rename_i e; rw [e]; omega
      · exact ih p hp
  have S := alloc_seats (v := v) hm L G F
  have hsm := alloc_sum (v := v) hm L G F
  refine (sum_le _ x (S.len.trans X.len.symm) fun i h1 h2 => ?_).2.1 (by omega)
  have := key F (Nat.le_refl _) i (by omega)
  rwa [atZ_nat _ h1, atZ_nat _ h2] at this

end Go.Proofs.Ytjanmgiliooocaa
