/- Ledgers of events: the laws on gaps, locks and counts, in plain lists and functions. -/
import Derived.Test.YtdmgaafmmjeelaaEvM
namespace Go.Proofs.Ytdmgaafmmjeelaa
set_option linter.unusedVariables false

theorem foll_take (l : List Ev) (K : Nat) : ∀ k, k ≤ K → foll (l.take K) k = foll l k
  | 0, _ => rfl
  | k + 1, h => by
    have ih := foll_take l K k (by omega)
    simp only [foll, ih]
    rw [List.getElem?_take_of_lt (by omega)]
theorem foll_app (l m : List Ev) : ∀ k, k ≤ l.length → foll (l ++ m) k = foll l k
  | 0, _ => rfl
  | k + 1, h => by
    have ih := foll_app l m k (by omega)
    simp only [foll, ih]
    rw [List.getElem?_append_left (by omega)]
theorem foll_snoc (l : List Ev) (e : Ev) : foll (l ++ [e]) (l.length + 1) = (foll l l.length).step l.length e := by
  have h : l.length < (l ++ [e]).length := by simp
  rw [foll_succ h, foll_app l [e] l.length (Nat.le_refl _)]
  congr 1
  simp
theorem lvB_take {l : List Ev} (h : lvB l = true) (K : Nat) : lvB (l.take K) = true := by
  unfold lvB at *
  simp only [Bool.and_eq_true, List.all_eq_true, decide_eq_true_eq] at *
  refine ⟨fun x hx => h.1 x (List.mem_of_mem_take hx), ?_⟩
  rw [List.length_take]
  omega
theorem lvB_snoc {l : List Ev} {e : Ev} (h : lvB l = true) (he : okE e = true) (hl : l.length + 1 ≤ 20) : lvB (l ++ [e]) = true := by
  refine lvB_mk (by simpa using hl) fun x hx => ?_
  rcases List.mem_append.1 hx with hx | hx
  · exact (lvB_of h).2 x hx
  · rw [List.mem_singleton.1 hx]
    exact he
theorem lvB_snoc_bad {l : List Ev} {e : Ev} (he : okE e = false) : lvB (l ++ [e]) = false := by
  have h : l.length < (l ++ [e]).length := by simp
  refine lvB_bad h ?_
  simpa using he
theorem gapsE_snoc {l : List Ev} {e : Ev} (h : lvB l = true) (he : okE e = true) (hl : l.length + 1 ≤ 20) : gapsE (l ++ [e]) = ((foll l l.length).step l.length e).gaps := by
  rw [gapsE_yes (lvB_snoc h he hl), List.length_append]
  show (foll (l ++ [e]) (l.length + 1)).gaps = _
  rw [foll_snoc]

/-- The gaps ascend. -/
theorem gaps_asc (l : List Ev) : ∀ k, (foll l k).gaps.Pairwise (· < ·)
  | 0 => List.Pairwise.nil
  | k + 1 => by
    have ih := gaps_asc l k
    rcases gaps_succ l k with h | ⟨_, h⟩
    · rw [h]; exact ih
    · rw [h, List.pairwise_append]
      refine ⟨ih, List.pairwise_singleton _ _, fun a ha b hb => ?_⟩
      rw [List.mem_singleton.1 hb]
      exact (gaps_lt l k a ha).2.1
theorem gapsE_asc {l : List Ev} {i j : Nat} (hi : i < (gapsE l).length) (hj : j < (gapsE l).length) (hij : i < j) : (gapsE l)[i] < (gapsE l)[j] := by
  have key : (gapsE l).Pairwise (· < ·) := by
    cases h : lvB l with
    | true => rw [gapsE_yes h]; exact gaps_asc _ _
    | false => rw [gapsE_no h]; exact List.Pairwise.nil
  exact List.pairwise_iff_getElem.1 key i j hi hj hij
theorem gapsE_in {l : List Ev} {i : Nat} (hi : i < (gapsE l).length) : 0 ≤ (gapsE l)[i] ∧ (gapsE l)[i] < (l.length : Int) := by
  cases h : lvB l with
  | true =>
    have key : ∀ (g : List Int), g = (foll l l.length).gaps → ∀ h : i < g.length, g[i] ∈ (foll l l.length).gaps := fun g e h => by subst e; exact List.getElem_mem h
    have hm := key _ (gapsE_yes h) hi
    have := gaps_lt l l.length _ hm
    omega
  | false =>
    exfalso
    rw [gapsE_no h] at hi
    exact absurd hi (by simp)
/-- An event is a gap if it does not fit those before it. -/
theorem gapB {l : List Ev} (h : lvB l = true) {k : Nat} (hk : k < l.length) : hasB (gapsE l) (k : Int) = !((foll l k).fits l[k]) := by
  rw [gapsE_yes h]
  have e := (gaps_mem l k l.length hk).trans (gap_at hk)
  cases hf : (foll l k).fits l[k] with
  | false => exact (hasB_iff _ _).2 (e.2 hf)
  | true =>
    refine hasB_no fun hm => ?_
    have := e.1 hm
    rw [hf] at this
    cases this

/-- FnGaps: the boxes of which something is remembered are among those seen. -/
def Seen (l : List Ev) (S : List Int) (k : Nat) : Prop := ∀ b, ((foll l k).last b).isSome = true → b ∈ S
theorem Seen.zero (l : List Ev) : Seen l [] 0 := fun b h => by simp [foll, St.init] at h
theorem Seen.gap {l : List Ev} {S : List Int} {k : Nat} (h : Seen l S k) (hk : k < l.length) (hf : (foll l k).fits l[k] = false) : Seen l S (k + 1) := fun b hb => by
  rw [foll_succ hk, step_no hf] at hb
  exact h b hb
theorem Seen.fit {l : List Ev} {S T : List Int} {k : Nat} (h : Seen l S k) (hk : k < l.length) (hf : (foll l k).fits l[k] = true) (hS : ∀ b ∈ S, b ∈ T) (hT : l[k].bx ∈ T) : Seen l T (k + 1) := fun b hb => by
  rw [foll_succ hk, step_yes hf] at hb
  have hb' : ((if b = l[k].bx then some l[k] else (foll l k).last b)).isSome = true := hb
  by_cases e : b = l[k].bx
  · rw [e]; exact hT
  · rw [if_neg e] at hb'
    exact hS b (h b hb')
theorem Seen.kd {l : List Ev} {S : List Int} {k : Nat} (h : Seen l S k) (hk : k < l.length) (hf : (foll l k).fits l[k] = true) (hn : hasB S l[k].bx = false) : l[k].kd = 1 := by
  have hnone : (foll l k).last l[k].bx = none := by
    cases e : (foll l k).last l[k].bx with
    | none => rfl
    | some x =>
      have := (hasB_iff S _).2 (h l[k].bx (by rw [e]; rfl))
      rw [hn] at this
      cases this
  by_cases e : l[k].kd = 1
  · exact e
  · unfold St.fits at hf
    rw [if_neg e, hnone] at hf
    cases hf

/-- FnGapsSeal: what is remembered of the ballots of a box. -/
def manyOf (s : St) (b : Int) : Int := match s.last b with | some e => e.mn | none => -1
theorem manyOf_gap {l : List Ev} {k : Nat} (hk : k < l.length) (hf : (foll l k).fits l[k] = false) (b : Int) : manyOf (foll l (k + 1)) b = manyOf (foll l k) b := by
  rw [foll_succ hk, step_no hf]
  rfl
theorem manyOf_fit {l : List Ev} {k : Nat} (hk : k < l.length) (hf : (foll l k).fits l[k] = true) (b : Int) : manyOf (foll l (k + 1)) b = if l[k].bx = b then l[k].mn else manyOf (foll l k) b := by
  rw [foll_succ hk, step_yes hf]
  unfold manyOf
  show (match (if b = l[k].bx then some l[k] else (foll l k).last b) with | some e => e.mn | none => -1) = _
  by_cases e : b = l[k].bx
  · rw [if_pos e, if_pos e.symm]
  · rw [if_neg e, if_neg (fun h => e h.symm)]
theorem manyOf_fits {l : List Ev} {k : Nat} (hk : k < l.length) (hf : (foll l k).fits l[k] = true) : manyOf (foll l k) l[k].bx < 0 ∨ manyOf (foll l k) l[k].bx = l[k].mn := by
  unfold manyOf
  cases h : (foll l k).last l[k].bx with
  | none => exact .inl (by simp)
  | some x =>
    refine .inr ?_
    unfold St.fits at hf
    rw [h] at hf
    split at hf <;> simp_all
theorem manyOf_bd {l : List Ev} (hv : ∀ e ∈ l, okE e = true) (k : Nat) (b : Int) : -1 ≤ manyOf (foll l k) b ∧ manyOf (foll l k) b ≤ 99 := by
  unfold manyOf
  cases h : (foll l k).last b with
  | none => simp
  | some x =>
    have := (okE_iff x).1 (foll_last l hv k b x h).1
    simp only
    omega
theorem used_of {l : List Ev} : ∀ (n : Nat) {k : Nat}, k < n → n ≤ l.length → (hk : k < l.length) → (foll l k).fits l[k] = true → l[k].kd = 1 → (foll l n).used l[k].sl = true
  | 0, k, h, _, _, _, _ => by omega
  | n + 1, k, h, hn, hk, hf, h1 => by
    have hn' : n < l.length := by omega
    rw [foll_succ hn']
    by_cases e : k = n
    · subst e
      rw [step_yes hf]
      show (if l[k].kd = 1 ∧ l[k].sl = l[k].sl then true else _) = true
      rw [if_pos ⟨h1, rfl⟩]
    · have ih := used_of n (k := k) (by omega) (by omega) hk hf h1
      cases hg : (foll l n).fits l[n] with
      | true =>
        rw [step_yes hg]
        show (if l[n].kd = 1 ∧ l[k].sl = l[n].sl then true else (foll l n).used l[k].sl) = true
        split
        · rfl
        · exact ih
      | false =>
        rw [step_no hg]
        exact ih
theorem seal_once {l : List Ev} {i k : Nat} (hi : i < l.length) (hk : k < l.length) (hki : k < i) (hfi : (foll l i).fits l[i] = true) (hfk : (foll l k).fits l[k] = true) (h1 : l[i].kd = 1) (h2 : l[k].kd = 1) : l[i].sl ≠ l[k].sl := fun e => by
  have hu := used_of i hki (by omega) hk hfk h2
  unfold St.fits at hfi
  rw [if_pos h1, e, hu] at hfi
  cases hfi

/-- FnGapsNone: the events that fit, alone. -/
def keepE (l : List Ev) : Nat → List Ev
  | 0 => []
  | k + 1 => match l[k]? with
    | some e => if (foll l k).fits e = true then keepE l k ++ [e] else keepE l k
    | none => keepE l k
theorem keepE_fit {l : List Ev} {k : Nat} (hk : k < l.length) (hf : (foll l k).fits l[k] = true) : keepE l (k + 1) = keepE l k ++ [l[k]] := by
  simp only [keepE, List.getElem?_eq_getElem hk]
  exact if_pos hf
theorem keepE_gap {l : List Ev} {k : Nat} (hk : k < l.length) (hf : (foll l k).fits l[k] = false) : keepE l (k + 1) = keepE l k := by
  simp only [keepE, List.getElem?_eq_getElem hk]
  exact if_neg (by rw [hf]; exact Bool.false_ne_true)
theorem keepE_len (l : List Ev) : ∀ k, k ≤ l.length → (keepE l k).length ≤ k
  | 0, _ => by simp [keepE]
  | k + 1, h => by
    have ih := keepE_len l k (by omega)
    have hk : k < l.length := h
    cases hf : (foll l k).fits l[k] with
    | true => rw [keepE_fit hk hf]; simp; omega
    | false => rw [keepE_gap hk hf]; omega
theorem keepE_ok (l : List Ev) (hv : ∀ e ∈ l, okE e = true) : ∀ k, k ≤ l.length → ∀ e ∈ keepE l k, okE e = true
  | 0, _, e, h => by simp [keepE] at h
  | k + 1, hl, e, h => by
    have ih := keepE_ok l hv k (by omega) e
    have hk : k < l.length := hl
    cases hf : (foll l k).fits l[k] with
    | true =>
      rw [keepE_fit hk hf] at h
      rcases List.mem_append.1 h with h | h
      · exact ih h
      · rw [List.mem_singleton.1 h]
        exact hv _ (List.getElem_mem hk)
    | false =>
      rw [keepE_gap hk hf] at h
      exact ih h
theorem keepE_foll (l : List Ev) : ∀ k, k ≤ l.length → (foll (keepE l k) (keepE l k).length).last = (foll l k).last ∧ (foll (keepE l k) (keepE l k).length).used = (foll l k).used ∧ (foll (keepE l k) (keepE l k).length).gaps = []
  | 0, _ => ⟨rfl, rfl, rfl⟩
  | k + 1, h => by
    obtain ⟨h1, h2, h3⟩ := keepE_foll l k (by omega)
    have hk : k < l.length := h
    cases hf : (foll l k).fits l[k] with
    | true =>
      have hf' : (foll (keepE l k) (keepE l k).length).fits l[k] = true := by
        unfold St.fits at *
        rw [h1, h2]
        exact hf
      rw [keepE_fit hk hf, List.length_append]
      show (foll (keepE l k ++ [l[k]]) ((keepE l k).length + 1)).last = _ ∧ (foll (keepE l k ++ [l[k]]) ((keepE l k).length + 1)).used = _ ∧ (foll (keepE l k ++ [l[k]]) ((keepE l k).length + 1)).gaps = _
      rw [foll_snoc, step_yes hf', foll_succ hk, step_yes hf]
      refine ⟨?_, ?_, h3⟩
      · simp only [St.take, h1]
      · simp only [St.take, h2]
    | false =>
      rw [keepE_gap hk hf, foll_succ hk, step_no hf]
      exact ⟨h1, h2, h3⟩
theorem keepE_none {l : List Ev} (h : lvB l = true) : gapsE (keepE l l.length) = [] := by
  have hl := keepE_len l l.length (Nat.le_refl _)
  rw [gapsE_yes (lvB_mk (Nat.le_trans hl (lvB_of h).1) (keepE_ok l (lvB_of h).2 _ (Nat.le_refl _)))]
  exact (keepE_foll l l.length (Nat.le_refl _)).2.2

/-- FnLedgerCount: the ballots of a box that is opened and has no gaps. -/
def gapBox (l : List Ev) (b : Int) : Bool := (foll l l.length).gaps.any (fun g => match l[g.toNat]? with | some e => e.bx == b | none => false)
def boxVal (l : List Ev) (b : Int) : Int := match (foll l l.length).last b with
  | some e => if gapBox l b = false ∧ e.kd = 3 then e.mn else 0
  | none => 0
def boxSum (l : List Ev) : Nat → Int
  | 0 => 0
  | k + 1 => boxSum l k + boxVal l ((k : Int) + 1)
def cntE (l : List Ev) : Int := if lvB l = true then boxSum l 6 else -1
theorem cntE_yes {l : List Ev} (h : lvB l = true) : cntE l = boxSum l 6 := if_pos h
theorem cntE_no {l : List Ev} (h : lvB l = false) : cntE l = -1 := if_neg (by rw [h]; exact Bool.false_ne_true)
theorem boxVal_bd {l : List Ev} (hv : ∀ e ∈ l, okE e = true) (b : Int) : 0 ≤ boxVal l b ∧ boxVal l b ≤ 99 := by
  unfold boxVal
  cases h : (foll l l.length).last b with
  | none => simp
  | some e =>
    have := (okE_iff e).1 (foll_last l hv _ b e h).1
    simp only
    split <;> omega
theorem boxSum_bd {l : List Ev} (hv : ∀ e ∈ l, okE e = true) : ∀ k, 0 ≤ boxSum l k ∧ boxSum l k ≤ 99 * (k : Int)
  | 0 => by simp [boxSum]
  | k + 1 => by
    have ih := boxSum_bd hv k
    have := boxVal_bd hv ((k : Int) + 1)
    simp only [boxSum]
    omega
/-- The sum over those boxes that are still to come. -/
def restSum (l : List Ev) (P : Int → Bool) : Nat → Int
  | 0 => 0
  | k + 1 => restSum l P k + (if P ((k : Int) + 1) = true then boxVal l ((k : Int) + 1) else 0)
theorem restSum_bd {l : List Ev} (hv : ∀ e ∈ l, okE e = true) (P : Int → Bool) : ∀ k, 0 ≤ restSum l P k ∧ restSum l P k ≤ 99 * (k : Int)
  | 0 => by simp [restSum]
  | k + 1 => by
    have ih := restSum_bd hv P k
    have := boxVal_bd hv ((k : Int) + 1)
    simp only [restSum]
    split <;> omega
theorem restSum_none {l : List Ev} {P : Int → Bool} (h : ∀ x, P x = false) : ∀ k, restSum l P k = 0
  | 0 => rfl
  | k + 1 => by
    simp only [restSum, h, restSum_none h k]
    simp
theorem restSum_all {l : List Ev} {P : Int → Bool} (h : ∀ x, P x = ((foll l l.length).last x).isSome) : ∀ k, restSum l P k = boxSum l k
  | 0 => rfl
  | k + 1 => by
    simp only [restSum, boxSum, restSum_all h k, h]
    congr 1
    unfold boxVal
    cases (foll l l.length).last ((k : Int) + 1) <;> simp
theorem restSum_other {l : List Ev} {P Q : Int → Bool} {b : Int} (hQ : ∀ x, Q x = (P x && !(x == b))) : ∀ k : Nat, (k : Int) < b → restSum l Q k = restSum l P k
  | 0, _ => rfl
  | k + 1, h => by
    have ih := restSum_other (l := l) hQ k (by omega)
    have : (((k : Int) + 1) == b) = false := by simp; omega
    simp only [restSum, ih, hQ, this]
    simp
theorem restSum_strike {l : List Ev} {P Q : Int → Bool} {b : Int} (hQ : ∀ x, Q x = (P x && !(x == b))) (hP : P b = true) (h1 : 1 ≤ b) : ∀ k : Nat, b ≤ (k : Int) → restSum l Q k + boxVal l b = restSum l P k
  | 0, h => by omega
  | k + 1, h => by
    by_cases e : b = (k : Int) + 1
    · have ih := restSum_other (l := l) hQ k (by omega)
      have hq : Q ((k : Int) + 1) = false := by rw [hQ, ← e]; simp
      simp only [restSum, ih, hq]
      rw [← e, hP]
      simp
    · have ih := restSum_strike (l := l) hQ hP h1 k (by omega)
      have : (((k : Int) + 1) == b) = false := by simp; omega
      simp only [restSum, hQ, this]
      simp only [Bool.not_false, Bool.and_true]
      omega
theorem gapBox_iff {l : List Ev} (b : Int) : gapBox l b = true ↔ ∃ i, ∃ h : i < l.length, (i : Int) ∈ (foll l l.length).gaps ∧ l[i].bx = b := by
  unfold gapBox
  rw [List.any_eq_true]
  constructor
  · rintro ⟨g, hg, hb⟩
    have hb2 := gaps_lt l l.length g hg
    have hl : g.toNat < l.length := by omega
    rw [List.getElem?_eq_getElem hl] at hb
    refine ⟨g.toNat, hl, ?_, by simpa using hb⟩
    rw [Int.toNat_of_nonneg hb2.1]
    exact hg
  · rintro ⟨i, h, hg, hb⟩
    refine ⟨(i : Int), hg, ?_⟩
    rw [Int.toNat_natCast, List.getElem?_eq_getElem h]
    simpa using hb

/-- The law's own look at a box: the ballots of its last event if that opens it; whether no event of it is a gap. -/
def lawMany (l : List Ev) (b : Int) : Nat → Int
  | 0 => 0
  | k + 1 => match l[k]? with
    | some e => if e.bx = b then (if e.kd = 3 then e.mn else 0) else lawMany l b k
    | none => lawMany l b k
def lawClean (l : List Ev) (g : List Int) (b : Int) : Nat → Bool
  | 0 => true
  | k + 1 => match l[k]? with
    | some e => if e.bx = b then lawClean l g b k && !(hasB g (k : Int)) else lawClean l g b k
    | none => lawClean l g b k
theorem lawMany_succ {l : List Ev} {b : Int} {k : Nat} (hk : k < l.length) : lawMany l b (k + 1) = if l[k].bx = b then (if l[k].kd = 3 then l[k].mn else 0) else lawMany l b k := by
  simp only [lawMany, List.getElem?_eq_getElem hk]
theorem lawClean_succ {l : List Ev} {g : List Int} {b : Int} {k : Nat} (hk : k < l.length) : lawClean l g b (k + 1) = if l[k].bx = b then lawClean l g b k && !(hasB g (k : Int)) else lawClean l g b k := by
  simp only [lawClean, List.getElem?_eq_getElem hk]
theorem lawMany_bd {l : List Ev} (hv : ∀ e ∈ l, okE e = true) (b : Int) : ∀ k, k ≤ l.length → 0 ≤ lawMany l b k ∧ lawMany l b k ≤ 99
  | 0, _ => by simp [lawMany]
  | k + 1, h => by
    have hk : k < l.length := h
    have ih := lawMany_bd hv b k (by omega)
    have := (okE_iff _).1 (hv _ (List.getElem_mem hk))
    rw [lawMany_succ hk]
    split
    · split <;> omega
    · exact ih
theorem lawClean_iff {l : List Ev} {b : Int} : ∀ k, k ≤ l.length → (lawClean l (gapsE l) b k = true ↔ ∀ i, (h : i < l.length) → i < k → l[i].bx = b → hasB (gapsE l) (i : Int) = false)
  | 0, _ => by simp [lawClean]
  | k + 1, h => by
    have hk : k < l.length := h
    have ih := lawClean_iff (l := l) (b := b) k (by omega)
    rw [lawClean_succ hk]
    by_cases hb : l[k].bx = b
    · rw [if_pos hb, Bool.and_eq_true, ih]
      constructor
      · rintro ⟨h1, h2⟩ i hi hik hib
        by_cases e : i = k
        · subst e; simpa using h2
        · exact h1 i hi (by omega) hib
      · intro h1
        refine ⟨fun i hi hik hib => h1 i hi (by omega) hib, ?_⟩
        have := h1 k hk (by omega) hb
        rw [this]
        rfl
    · rw [if_neg hb, ih]
      constructor
      · intro h1 i hi hik hib
        by_cases e : i = k
        · subst e; exact absurd hib hb
        · exact h1 i hi (by omega) hib
      · intro h1 i hi hik hib
        exact h1 i hi (by omega) hib
theorem lawMany_clean {l : List Ev} (h : lvB l = true) {b : Int} : ∀ k, k ≤ l.length → lawClean l (gapsE l) b k = true → lawMany l b k = match (foll l k).last b with | some e => if e.kd = 3 then e.mn else 0 | none => 0
  | 0, _, _ => rfl
  | k + 1, hl, hc => by
    have hk : k < l.length := hl
    have ih := lawMany_clean h (b := b) k (by omega)
    rw [lawClean_succ hk] at hc
    rw [lawMany_succ hk, foll_succ hk]
    by_cases hb : l[k].bx = b
    · rw [if_pos hb, Bool.and_eq_true] at hc
      have hg := gapB h hk
      have hf : (foll l k).fits l[k] = true := by
        cases e : (foll l k).fits l[k] with
        | true => rfl
        | false =>
          rw [e] at hg
          rw [hg] at hc
          exact absurd hc.2 (by simp)
      rw [if_pos hb, step_yes hf]
      show _ = match (if b = l[k].bx then some l[k] else (foll l k).last b) with | some e => if e.kd = 3 then e.mn else 0 | none => 0
      rw [if_pos hb.symm]
    · rw [if_neg hb] at hc
      rw [if_neg hb, ih hc]
      cases hf : (foll l k).fits l[k] with
      | true =>
        rw [step_yes hf]
        show _ = match (if b = l[k].bx then some l[k] else (foll l k).last b) with | some e => if e.kd = 3 then e.mn else 0 | none => 0
        rw [if_neg (fun e => hb e.symm)]
      | false => rw [step_no hf]
theorem law_val {l : List Ev} (h : lvB l = true) (b : Int) : (if lawClean l (gapsE l) b l.length = true then lawMany l b l.length else 0) = boxVal l b := by
  have hgb : lawClean l (gapsE l) b l.length = true ↔ gapBox l b = false := by
    rw [lawClean_iff l.length (Nat.le_refl _)]
    constructor
    · intro h1
      cases hg : gapBox l b with
      | false => rfl
      | true =>
        obtain ⟨i, hi, hm, hb⟩ := (gapBox_iff b).1 hg
        have := h1 i hi hi hb
        rw [gapsE_yes h, (hasB_iff _ _).2 hm] at this
        cases this
    · intro hg i hi _ hb
      rw [gapsE_yes h]
      refine hasB_no fun hm => ?_
      have := (gapBox_iff b).2 ⟨i, hi, hm, hb⟩
      rw [hg] at this
      cases this
  unfold boxVal
  by_cases hc : lawClean l (gapsE l) b l.length = true
  · rw [if_pos hc, lawMany_clean h l.length (Nat.le_refl _) hc]
    have hg := hgb.1 hc
    cases (foll l l.length).last b with
    | none => rfl
    | some e =>
      simp only [hg, true_and]
  · rw [if_neg hc]
    have hg : gapBox l b ≠ false := fun e => hc (hgb.2 e)
    cases (foll l l.length).last b with
    | none => rfl
    | some e =>
      simp only
      rw [if_neg (fun e => hg e.1)]

end Go.Proofs.Ytdmgaafmmjeelaa
