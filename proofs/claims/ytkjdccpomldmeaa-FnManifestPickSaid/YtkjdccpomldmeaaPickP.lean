/- The batches of a sample, in plain lists: what sorting and compacting leaves is the ascending list of those batches. The conditions stand in each theorem. -/
import Derived.Test.YtkjdccpomldmeaaSamp
import Derived.Lib.SlicesCompact
import Derived.Lib.RowBridge
namespace Go.Proofs.Ytkjdccpomldmeaa
open Man
set_option linter.unusedVariables false

theorem asc_ext : ∀ (a b : List Int), a.Pairwise (· < ·) → b.Pairwise (· < ·) → (∀ x, x ∈ a ↔ x ∈ b) → a = b
  | [], [], _, _, _ => rfl
  | [], y :: b, _, _, h => by have := (h y).2 (List.mem_cons_self ..); cases this
  | x :: a, [], _, _, h => by have := (h x).1 (List.mem_cons_self ..); cases this
  | x :: a, y :: b, ha, hb, h => by
    rw [List.pairwise_cons] at ha hb
    have hxy : x = y := by
      have h1 := (h x).1 (List.mem_cons_self ..)
      have h2 := (h y).2 (List.mem_cons_self ..)
      rcases List.mem_cons.1 h1 with e | h1
      · exact e
      · rcases List.mem_cons.1 h2 with e | h2
        · exact e.symm
        · have := hb.1 x h1
          have := ha.1 y h2
          omega
    subst hxy
    rw [asc_ext a b ha.2 hb.2 fun z => ?_]
    constructor
    · intro hz
      rcases List.mem_cons.1 ((h z).1 (List.mem_cons_of_mem _ hz)) with e | h'
      · have := ha.1 z hz; omega
      · exact h'
    · intro hz
      rcases List.mem_cons.1 ((h z).2 (List.mem_cons_of_mem _ hz)) with e | h'
      · have := hb.1 z hz; omega
      · exact h'

theorem get_arr (zs : List Int) {j : Nat} (hj : j < zs.length) : zs.toArray[j]! = zs[j] := by
  rw [getElem!_pos zs.toArray j (by simpa using hj)]
  simp
theorem compact_asc (zs : List Int) (h : zs.Pairwise (· ≤ ·)) : (Lib.compact zs).Pairwise (· < ·) := by
  unfold Lib.compact Lib.compactUpTo
  rw [List.pairwise_map]
  have hp : ((List.range zs.length).filter (Lib.keeps zs.toArray)).Pairwise (· < ·) := (List.pairwise_lt_range (n := zs.length)).filter _
  rw [List.pairwise_iff_getElem] at hp ⊢
  intro i j hi hj hij
  have h1 := hp i j hi hj hij
  have hmj := List.getElem_mem hj
  rw [List.mem_filter, List.mem_range] at hmj
  have hmi := List.getElem_mem hi
  rw [List.mem_filter, List.mem_range] at hmi
  generalize ((List.range zs.length).filter (Lib.keeps zs.toArray))[i] = a at *
  generalize ((List.range zs.length).filter (Lib.keeps zs.toArray))[j] = b at *
  obtain ⟨hb, hk⟩ := hmj
  obtain ⟨ha, _⟩ := hmi
  have hs := List.pairwise_iff_getElem.1 h
  simp only [Lib.keeps, decide_eq_true_eq] at hk
  have hb1 : b - 1 < zs.length := by omega
  rw [get_arr zs hb, get_arr zs hb1] at hk
  rw [get_arr zs ha, get_arr zs hb]
  have h2 : zs[b - 1] ≤ zs[b] := by
    by_cases e : b - 1 = b
    · omega
    · exact hs (b - 1) b hb1 hb (by omega)
  have h3 : zs[a] ≤ zs[b - 1] := by
    by_cases e : a = b - 1
    · subst e; exact Int.le_refl _
    · exact hs a (b - 1) ha hb1 (by omega)
  rcases hk with hk | hk
  · omega
  · omega
theorem compact_mem (zs : List Int) (x : Int) : x ∈ Lib.compact zs ↔ x ∈ zs := by
  unfold Lib.compact Lib.compactUpTo
  rw [List.mem_map]
  constructor
  · rintro ⟨j, hj, rfl⟩
    rw [List.mem_filter, List.mem_range] at hj
    rw [get_arr zs hj.1]
    exact List.getElem_mem hj.1
  · intro hx
    obtain ⟨j, hj, rfl⟩ := List.getElem_of_mem hx
    have key : ∀ n (h : n < zs.length), ∃ i, ∃ hi : i < zs.length, zs[i] = zs[n] ∧ Lib.keeps zs.toArray i = true := by
      intro n
      induction n with
      | zero => exact fun h => ⟨0, h, rfl, by simp [Lib.keeps]⟩
      | succ n ih =>
        intro h
        by_cases e : zs[n + 1] = zs[n]
        · obtain ⟨i, hi, h1, h2⟩ := ih (by omega)
          exact ⟨i, hi, h1.trans e.symm, h2⟩
        · refine ⟨n + 1, h, rfl, ?_⟩
          simp only [Lib.keeps, decide_eq_true_eq]
          right
          rw [get_arr zs h, show n + 1 - 1 = n by omega, get_arr zs (show n < zs.length by omega)]
          exact e
    obtain ⟨i, hi, h1, h2⟩ := key j hj
    exact ⟨i, List.mem_filter.2 ⟨List.mem_range.2 hi, h2⟩, (get_arr zs hi).trans h1⟩

/-- The batches among the first k of which the sample has a ballot. -/
def batB (zs sm : List Int) (i : Nat) : Bool := sm.any (fun x => (loc zs x).1 == i)
def refL (zs sm : List Int) : Nat → List Int
  | 0 => []
  | k + 1 => if batB zs sm k = true then refL zs sm k ++ [(k : Int)] else refL zs sm k
theorem refL_len (zs sm : List Int) : ∀ k, (refL zs sm k).length ≤ k
  | 0 => Nat.le_refl _
  | k + 1 => by
    have := refL_len zs sm k
    simp only [refL]
    split
    · simp; omega
    · omega
theorem refL_mem (zs sm : List Int) (x : Int) : ∀ k, x ∈ refL zs sm k ↔ ∃ i, i < k ∧ x = (i : Int) ∧ batB zs sm i = true
  | 0 => by simp [refL]
  | k + 1 => by
    have ih := refL_mem zs sm x k
    simp only [refL]
    split
    · rename_i hb
      rw [List.mem_append, List.mem_singleton, ih]
      constructor
      · rintro (⟨i, h1, h2, h3⟩ | e)
        · exact ⟨i, by omega, h2, h3⟩
        · exact ⟨k, by omega, e, hb⟩
      · rintro ⟨i, h1, h2, h3⟩
        by_cases e : i = k
        · subst e; exact .inr h2
        · exact .inl ⟨i, by omega, h2, h3⟩
    · rename_i hb
      rw [ih]
      constructor
      · rintro ⟨i, h1, h2, h3⟩
        exact ⟨i, by omega, h2, h3⟩
      · rintro ⟨i, h1, h2, h3⟩
        by_cases e : i = k
        · subst e; exact absurd h3 hb
        · exact ⟨i, by omega, h2, h3⟩
theorem refL_asc (zs sm : List Int) : ∀ k, (refL zs sm k).Pairwise (· < ·)
  | 0 => List.Pairwise.nil
  | k + 1 => by
    have ih := refL_asc zs sm k
    simp only [refL]
    split
    · rw [List.pairwise_append]
      refine ⟨ih, List.pairwise_singleton _ _, fun a ha b hb => ?_⟩
      obtain ⟨i, h1, h2, _⟩ := (refL_mem zs sm a k).1 ha
      rw [List.mem_singleton.1 hb, h2]
      omega
    · exact ih
def leI (x y : Int) : Bool := decide (x ≤ y)
def sorted (bs : List Int) : List Int := bs.mergeSort fun x y => decide (x ≤ y)
theorem sorted_len (bs : List Int) : (sorted bs).length = bs.length := (List.mergeSort_perm bs _).length_eq
theorem sorted_mem (bs : List Int) (x : Int) : x ∈ sorted bs ↔ x ∈ bs := (List.mergeSort_perm bs _).mem_iff
theorem sorted_asc (bs : List Int) : (sorted bs).Pairwise (· ≤ ·) := by
  have h := List.pairwise_mergeSort (le := fun x y : Int => decide (x ≤ y)) (fun a b c h1 h2 => by simp only [decide_eq_true_eq] at *; omega) (fun a b => by simp only [Bool.or_eq_true, decide_eq_true_eq]; omega) bs
  exact h.imp fun {a b} hab => by simpa using hab
theorem pick_eq {zs sm : List Int} (hin : ∀ x ∈ sm, 0 ≤ x ∧ x < tot zs) : Lib.compact (sorted (sm.map (atA zs))) = refL zs sm zs.length := by
  refine asc_ext _ _ (compact_asc _ (sorted_asc _)) (refL_asc _ _ _) fun x => ?_
  rw [compact_mem, sorted_mem, refL_mem, List.mem_map]
  constructor
  · rintro ⟨y, hy, rfl⟩
    have h1 := hin y hy
    obtain ⟨hok, hs⟩ := tot_ok h1.1 h1.2
    have hl := (loc_spec zs y h1.1 hs).1
    refine ⟨(loc zs y).1, hl, (at_in h1).1, ?_⟩
    unfold batB
    rw [List.any_eq_true]
    exact ⟨y, hy, by simp⟩
  · rintro ⟨i, hi, rfl, hb⟩
    unfold batB at hb
    rw [List.any_eq_true] at hb
    obtain ⟨y, hy, e⟩ := hb
    refine ⟨y, hy, ?_⟩
    rw [(at_in (hin y hy)).1]
    have : (loc zs y).1 = i := by simpa using e
    rw [this]
def pickL (zs : List Int) (m s : Int) : List Int := if okS (tot zs) m s then refL zs (smpL (tot zs) m s) zs.length else []
theorem pickL_yes {zs : List Int} {m s : Int} (h : okS (tot zs) m s) : pickL zs m s = refL zs (smpL (tot zs) m s) zs.length := if_pos h
theorem pickL_no {zs : List Int} {m s : Int} (h : ¬ okS (tot zs) m s) : pickL zs m s = [] := if_neg h
theorem smp_in_tot {zs : List Int} {m s : Int} (h : okS (tot zs) m s) : ∀ x ∈ smpL (tot zs) m s, 0 ≤ x ∧ x < tot zs := fun x hx => by
  rw [(smp_in h).1] at hx
  obtain ⟨h1, h2, h3, h4, h5, h6⟩ := h
  have := (run_out (tot zs).toNat s m.toNat (by omega)).2 x hx
  omega
theorem pick_prog {zs : List Int} {m s : Int} (h : okS (tot zs) m s) : Lib.compact (sorted ((smpL (tot zs) m s).map (atA zs))) = pickL zs m s := by
  rw [pickL_yes h]
  exact pick_eq (smp_in_tot h)
theorem okS_ok {zs : List Int} {m s : Int} (h : okS (tot zs) m s) : ok zs ∧ zs.length ≤ 8 := by
  obtain ⟨h1, _⟩ := h
  have hok : ok zs := by
    by_cases hok : ok zs
    · exact hok
    · rw [tot_out hok] at h1
      omega
  exact ⟨hok, hok.2.1⟩
theorem pickL_len (zs : List Int) (m s : Int) : (pickL zs m s).length ≤ 8 := by
  by_cases h : okS (tot zs) m s
  · rw [pickL_yes h]
    have := refL_len zs (smpL (tot zs) m s) zs.length
    have := (okS_ok h).2
    omega
  · rw [pickL_no h]; simp
/-- A batch is opened if the sample has a ballot of it. -/
theorem pick_has {zs : List Int} {m s : Int} (h : okS (tot zs) m s) {x : Int} (hx : x ∈ smpL (tot zs) m s) : atA zs x ∈ pickL zs m s ∧ atC zs x = true := by
  have h1 := smp_in_tot h x hx
  refine ⟨?_, (at_in h1).2.2⟩
  rw [← pick_prog h, compact_mem, sorted_mem]
  exact List.mem_map_of_mem hx
theorem pick_len {zs : List Int} {m s : Int} (h : okS (tot zs) m s) : (pickL zs m s).length ≤ (smpL (tot zs) m s).length := by
  rw [← pick_prog h]
  refine Nat.le_trans (Lib.compact_length_le _) ?_
  rw [sorted_len, List.length_map]
  exact Nat.le_refl _
theorem pick_asc {zs : List Int} {m s : Int} {i j : Nat} (hi : i < (pickL zs m s).length) (hj : j < (pickL zs m s).length) (hij : i < j) : (pickL zs m s)[i] < (pickL zs m s)[j] := by
  have key : (pickL zs m s).Pairwise (· < ·) := by
    by_cases h : okS (tot zs) m s
    · rw [pickL_yes h]; exact refL_asc _ _ _
    · rw [pickL_no h]; exact List.Pairwise.nil
  exact List.pairwise_iff_getElem.1 key i j hi hj hij
theorem batB_snoc {zs sm : List Int} {k : Nat} (hk : k < sm.length) (i : Nat) : batB zs (sm.take (k + 1)) i = (batB zs (sm.take k) i || (((loc zs sm[k]).1 : Int) == (i : Int))) := by
  unfold batB
  rw [List.take_succ_eq_append_getElem hk, List.any_append]
  have : ((loc zs sm[k]).1 == i) = (((loc zs sm[k]).1 : Int) == (i : Int)) := by
    rw [Bool.eq_iff_iff]; simp; omega
  simp [this]

end Go.Proofs.Ytkjdccpomldmeaa
