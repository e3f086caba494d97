/- Plain facts on the sizes of batches: their sum, the batch of a ballot. No program in sight, no conditions but those in each theorem. -/
namespace Go.Proofs.Ytjanmgiliooocaa.Man

def sumI : List Int → Int
  | [] => 0
  | z :: l => z + sumI l
theorem sumI_app (l m : List Int) : sumI (l ++ m) = sumI l + sumI m := by
  induction l with
  | nil => simp [sumI]
  | cons z l ih => simp only [List.cons_append, sumI, ih]; omega
theorem sumI_step (l : List Int) (k : Nat) (h : k < l.length) : sumI (l.take (k + 1)) = sumI (l.take k) + l[k] := by
  rw [List.take_succ_eq_append_getElem h, sumI_app]
  simp [sumI]
theorem sumI_split (l : List Int) (k : Nat) : sumI (l.take k) + sumI (l.drop k) = sumI l := by
  rw [← sumI_app, List.take_append_drop]
theorem sumI_nonneg (l : List Int) (h : ∀ z ∈ l, 0 ≤ z) : 0 ≤ sumI l := by
  induction l with
  | nil => simp [sumI]
  | cons z l ih =>
    have h1 := h z (List.mem_cons_self ..)
    have h2 := ih fun y hy => h y (List.mem_cons_of_mem _ hy)
    simp only [sumI]
    omega
theorem sumI_bd (l : List Int) (h : ∀ z ∈ l, 0 ≤ z ∧ z ≤ 99) : 0 ≤ sumI l ∧ sumI l ≤ 99 * l.length := by
  induction l with
  | nil => simp [sumI]
  | cons z l ih =>
    have h1 := h z (List.mem_cons_self ..)
    have h2 := ih fun y hy => h y (List.mem_cons_of_mem _ hy)
    simp only [sumI, List.length_cons]
    omega

def ok (l : List Int) : Prop := (∀ z ∈ l, 0 ≤ z ∧ z ≤ 99) ∧ l.length ≤ 8 ∧ sumI l ≤ 99
instance (l : List Int) : Decidable (ok l) := by unfold ok; infer_instance
def tot (l : List Int) : Int := if ok l then sumI l else -1
theorem tot_in {l : List Int} (h : ok l) : tot l = sumI l := if_pos h
theorem tot_out {l : List Int} (h : ¬ ok l) : tot l = -1 := if_neg h
theorem tot_bd (l : List Int) : -1 ≤ tot l ∧ tot l ≤ 99 := by
  by_cases h : ok l
  · rw [tot_in h]
    have := sumI_nonneg l fun z hz => (h.1 z hz).1
    have := h.2.2
    omega
  · rw [tot_out h]
    omega
theorem tot_bad {l : List Int} {k : Nat} (hk : k < l.length) (h : l[k] < 0 ∨ 99 < l[k]) : tot l = -1 :=
  tot_out fun hok => by have := hok.1 l[k] (List.getElem_mem hk); omega
theorem tot_over {l : List Int} {k : Nat} (hs : 99 < sumI (l.take k)) : tot l = -1 :=
  tot_out fun hok => by
    have h1 := sumI_split l k
    have h2 := sumI_nonneg (l.drop k) fun z hz => (hok.1 z (List.mem_of_mem_drop hz)).1
    have := hok.2.2
    omega
theorem ok_sub {l m : List Int} (h : ok l) (hs : ∀ z ∈ m, z ∈ l) (hl : m.length ≤ l.length) (hsum : sumI m ≤ sumI l) : ok m :=
  ⟨fun z hz => h.1 z (hs z hz), by have := h.2.1; omega, by have := h.2.2; omega⟩
theorem ok_take {l : List Int} (h : ok l) (k : Nat) : ok (l.take k) := by
  refine ok_sub h (fun z hz => List.mem_of_mem_take hz) (List.length_take_le' ..) ?_
  have h1 := sumI_split l k
  have h2 := sumI_nonneg (l.drop k) fun z hz => (h.1 z (List.mem_of_mem_drop hz)).1
  omega
theorem ok_drop {l : List Int} (h : ok l) (k : Nat) : ok (l.drop k) := by
  refine ok_sub h (fun z hz => List.mem_of_mem_drop hz) (by rw [List.length_drop]; omega) ?_
  have h1 := sumI_split l k
  have h2 := sumI_nonneg (l.take k) fun z hz => (h.1 z (List.mem_of_mem_take hz)).1
  omega

/-- The batch of a ballot, and its place. -/
def loc : List Int → Int → Nat × Int
  | [], b => (0, b)
  | z :: l, b => if b < z then (0, b) else ((loc l (b - z)).1 + 1, (loc l (b - z)).2)

theorem loc_lt {z : Int} {l : List Int} {b : Int} (h : b < z) : loc (z :: l) b = (0, b) := if_pos h
theorem loc_ge {z : Int} {l : List Int} {b : Int} (h : ¬ b < z) : loc (z :: l) b = ((loc l (b - z)).1 + 1, (loc l (b - z)).2) := if_neg h
theorem loc_spec : ∀ (l : List Int) (b : Int), 0 ≤ b → b < sumI l → (loc l b).1 < l.length ∧ 0 ≤ (loc l b).2 ∧ (loc l b).2 < l.getD (loc l b).1 0 ∧ sumI (l.take (loc l b).1) + (loc l b).2 = b
  | [], b, h0, h1 => by simp [sumI] at h1; omega
  | z :: l, b, h0, h1 => by
    by_cases h : b < z
    · rw [loc_lt h]
      exact ⟨by simp, h0, by simpa using h, by simp [sumI]⟩
    · rw [loc_ge h]
      simp only [sumI] at h1
      obtain ⟨i1, i2, i3, i4⟩ := loc_spec l (b - z) (by omega) (by omega)
      refine ⟨by simpa using i1, i2, by simpa using i3, ?_⟩
      simp only [List.take_succ_cons, sumI]
      omega
/-- The place is found by a search from the left: the first k that has the ballot. -/
theorem loc_find : ∀ (l : List Int) (b : Int) (k : Nat) (hk : k < l.length), 0 ≤ b - sumI (l.take k) → (∀ j, j < k → (hj : j < l.length) → l[j] ≤ b - sumI (l.take j)) → b - sumI (l.take k) < l[k] → loc l b = (k, b - sumI (l.take k))
  | z :: l, b, 0, hk, h0, hj, h => by
    simp [sumI] at h
    unfold loc
    rw [if_pos h]
    simp [sumI]
  | z :: l, b, k + 1, hk, h0, hj, h => by
    have hz := hj 0 (by omega) (by simp)
    simp [sumI] at hz
    unfold loc
    rw [if_neg (by omega)]
    have e : b - sumI ((z :: l).take (k + 1)) = (b - z) - sumI (l.take k) := by
      simp only [List.take_succ_cons, sumI]
      omega
    have ih := loc_find l (b - z) k (by simpa using hk) (by rw [← e]; exact h0) (fun j hjk hjl => by
      have := hj (j + 1) (by omega) (by simpa using hjl)
      simp only [List.getElem_cons_succ, List.take_succ_cons, sumI] at this
      omega) (by rw [← e]; simpa using h)
    rw [ih, e]
theorem loc_next : ∀ (l : List Int) (b : Int), 0 ≤ b → b + 1 < sumI l → (∀ z ∈ l, 0 ≤ z) →
    ((loc l (b + 1)).1 = (loc l b).1 ∧ (loc l (b + 1)).2 = (loc l b).2 + 1) ∨ ((loc l b).1 < (loc l (b + 1)).1 ∧ (loc l (b + 1)).2 = 0 ∧ (loc l b).2 = l.getD (loc l b).1 0 - 1)
  | [], b, h0, h1, _ => by simp [sumI] at h1; omega
  | z :: l, b, h0, h1, hp => by
    simp only [sumI] at h1
    by_cases h : b < z
    · rw [loc_lt h]
      by_cases h' : b + 1 < z
      · rw [loc_lt h']
        exact .inl ⟨rfl, rfl⟩
      · rw [loc_ge h']
        obtain rfl : z = b + 1 := by omega
        refine .inr ⟨by simp, ?_, by simp⟩
        have e : b + 1 - (b + 1) = 0 := by omega
        rw [e]
        obtain ⟨i1, i2, i3, i4⟩ := loc_spec l 0 (by omega) (by omega)
        have := sumI_nonneg (l.take (loc l 0).1) fun y hy => hp y (List.mem_cons_of_mem _ (List.mem_of_mem_take hy))
        show (loc l 0).2 = 0
        omega
    · rw [loc_ge h, loc_ge (by omega)]
      have e : b + 1 - z = (b - z) + 1 := by omega
      rw [e]
      rcases loc_next l (b - z) (by omega) (by omega) (fun y hy => hp y (List.mem_cons_of_mem _ hy)) with ⟨i1, i2⟩ | ⟨i1, i2, i3⟩
      · exact .inl ⟨by simp [i1], i2⟩
      · exact .inr ⟨by simpa using i1, i2, by simpa using i3⟩

end Go.Proofs.Ytjanmgiliooocaa.Man
