/- Seats in districts, in plain lists: sums of rows place by place; further seats beside the seats that were there. The conditions stand in each theorem. -/
import Derived.Test.YtjanmgiliooocaaE1
namespace Go.Proofs.Ytjanmgiliooocaa
open Man
set_option linter.unusedVariables false

def zerosL (n : Nat) : List Int := List.replicate n 0
theorem zerosL_len (n : Nat) : (zerosL n).length = n := by simp [zerosL]
theorem atZ_zeros (n : Nat) (k : Int) : atZ (zerosL n) k = 0 := by
  unfold atZ zerosL
  rw [List.getD_eq_getElem?_getD, List.getElem?_replicate]
  split <;> rfl
theorem sumI_zeros (n : Nat) : sumI (zerosL n) = 0 := by
  induction n with
  | zero => rfl
  | succ n ih =>
    unfold zerosL at *
    rw [List.replicate_succ]
    simp only [sumI, ih]
    omega
theorem seats_zeros (n : Nat) : Seats n (zerosL n) := ⟨zerosL_len n, fun k => by rw [atZ_zeros]; omega⟩
theorem atZ_mem {l : List Int} {k : Int} (h0 : 0 ≤ k) (h1 : k < (l.length : Int)) : atZ l k ∈ l := by
  obtain ⟨i, rfl⟩ := Int.eq_ofNat_of_zero_le h0
  rw [atZ_nat l (by omega)]
  exact List.getElem_mem _
theorem seats_of {g : List Int} (h : ∀ z ∈ g, 0 ≤ z) : Seats g.length g := ⟨rfl, fun k => by
  unfold atZ
  rw [List.getD_eq_getElem?_getD]
  by_cases hk : k.toNat < g.length
  · rw [List.getElem?_eq_getElem hk]
    exact h _ (List.getElem_mem _)
  · rw [List.getElem?_eq_none (by omega)]
    exact Int.le_refl _⟩
theorem seats_mem {n : Nat} {g : List Int} (G : Seats n g) : ∀ z ∈ g, 0 ≤ z := fun z hz => by
  obtain ⟨i, hi, rfl⟩ := List.getElem_of_mem hz
  have := G.nn (i : Int)
  rwa [atZ_nat g hi] at this
theorem mem_le_sum {m : Int} : ∀ {l : List Int}, (∀ z ∈ l, 0 ≤ z) → sumI l ≤ m → ∀ z ∈ l, 0 ≤ z ∧ z ≤ m
  | [], _, _, z, hz => by cases hz
  | x :: l, h, hs, z, hz => by
    have hx := h x (List.mem_cons_self ..)
    have hl := fun y hy => h y (List.mem_cons_of_mem _ hy)
    have hn := sumI_nonneg l hl
    simp only [sumI] at hs
    rcases List.mem_cons.1 hz with rfl | hz
    · omega
    · exact mem_le_sum hl (by omega) z hz
theorem inAll_mk {m : Int} {v : List Int} (h : ∀ z ∈ v, 0 ≤ z ∧ z ≤ m) : inAll m v = true := by
  unfold inAll
  rw [List.all_eq_true]
  exact fun z hz => decide_eq_true (h z hz)

/-- Lots of n parties. -/
theorem lots_of {lots : List Int} (h : ltB lots = true) : Lots lots.length lots := by
  obtain ⟨h1, h2, h3⟩ := ltB_of h
  obtain ⟨hn, hb⟩ := okN_nodup _ _ h1
  refine ⟨fun e => by rw [e] at h2; simp at h2, hb, fun i hi => ?_⟩
  by_cases hm : (i : Int) ∈ lots
  · exact hm
  · have := pigeon lots.length ((i : Int) :: lots) (List.nodup_cons.2 ⟨hm, hn⟩) (fun x hx => by
      rcases List.mem_cons.1 hx with rfl | hx
      · omega
      · exact hb x hx)
    simp at this
    omega

/-- Who gets the next seat, whether it may be asked. -/
def svB (v g : List Int) : Bool := inAll 20 g && (vvB v && (decide (g.length = v.length) && decide (sumI g ≤ 20)))
def snB (v g : List Int) (me : Int) (lots : List Int) : Bool := svB v g && (meB me && (ltB lots && decide (lots.length = v.length)))
def snZ (v g : List Int) (me : Int) (lots : List Int) : Int := if snB v g me lots = true then nextL v g me lots else -1
theorem snB_of {v g : List Int} {me : Int} {lots : List Int} (h : snB v g me lots = true) : inAll 20 g = true ∧ vvB v = true ∧ g.length = v.length ∧ sumI g ≤ 20 ∧ (me = 1 ∨ me = 2) ∧ ltB lots = true ∧ lots.length = v.length := by
  unfold snB svB at h
  simp only [Bool.and_eq_true, decide_eq_true_eq] at h
  exact ⟨h.1.1, h.1.2.1, h.1.2.2.1, h.1.2.2.2, meB_of h.2.1, h.2.2.1, h.2.2.2⟩
theorem snB_mk {v g : List Int} {me : Int} {lots : List Int} (h1 : ∀ z ∈ g, 0 ≤ z) (h2 : vvB v = true) (h3 : g.length = v.length) (h4 : sumI g ≤ 20) (h5 : meB me = true) (h6 : ltB lots = true) (h7 : lots.length = v.length) : snB v g me lots = true := by
  unfold snB svB
  rw [inAll_mk (mem_le_sum h1 h4), h2, h5, h6]
  simp [h3, h4, h7]
theorem snZ_yes {v g : List Int} {me : Int} {lots : List Int} (h : snB v g me lots = true) : snZ v g me lots = nextL v g me lots := if_pos h
theorem snZ_no {v g : List Int} {me : Int} {lots : List Int} (h : snB v g me lots = false) : snZ v g me lots = -1 := by
  unfold snZ
  rw [h]
  rfl

/-- Rows added place by place. -/
def addL : List Int → List Int → List Int
  | x :: a, y :: b => (x + y) :: addL a b
  | a, _ => a
theorem addL_len : ∀ (a b : List Int), (addL a b).length = a.length
  | [], _ => by simp [addL]
  | _ :: _, [] => by simp [addL]
  | _ :: a, _ :: b => by simp [addL, addL_len a b]
theorem addL_at : ∀ (a b : List Int) (i : Nat) (h : i < a.length) (h2 : i < b.length), (addL a b)[i]'(by rw [addL_len]; exact h) = a[i] + b[i]
  | x :: a, y :: b, 0, _, _ => rfl
  | x :: a, y :: b, i + 1, h, h2 => addL_at a b i (by simpa using h) (by simpa using h2)
theorem sumI_addL : ∀ (a b : List Int), a.length = b.length → sumI (addL a b) = sumI a + sumI b
  | [], [], _ => rfl
  | [], _ :: _, h => by simp at h
  | _ :: _, [], h => by simp at h
  | x :: a, y :: b, h => by
    have ih := sumI_addL a b (by simpa using h)
    simp only [addL, sumI, ih]
    omega
/-- The first k places added. -/
def addK : List Int → List Int → Nat → List Int
  | x :: a, y :: b, k + 1 => (x + y) :: addK a b k
  | a, _, _ => a
theorem addK_zero (a b : List Int) : addK a b 0 = a := by cases a <;> cases b <;> rfl
theorem addK_len : ∀ (a b : List Int) (k : Nat), (addK a b k).length = a.length
  | a, b, 0 => by rw [addK_zero]
  | [], _, _ + 1 => by simp [addK]
  | _ :: _, [], _ + 1 => by simp [addK]
  | _ :: a, _ :: b, k + 1 => by simp [addK, addK_len a b k]
theorem addK_at : ∀ (a b : List Int) (k : Nat) (h : k < a.length), (addK a b k)[k]'(by rw [addK_len]; exact h) = a[k]
  | a, b, 0, h => by simp [addK_zero]
  | x :: a, [], k + 1, h => by simp [addK]
  | x :: a, y :: b, k + 1, h => addK_at a b k (by simpa using h)
theorem addK_step : ∀ (a b : List Int) (k : Nat) (h : k < a.length) (h2 : k < b.length), (addK a b k).set k (a[k] + b[k]) = addK a b (k + 1)
  | x :: a, y :: b, 0, _, _ => by simp [addK_zero, addK]
  | x :: a, y :: b, k + 1, h, h2 => by
    have ih := addK_step a b k (by simpa using h) (by simpa using h2)
    simp only [addK, List.set_cons_succ, List.getElem_cons_succ]
    rw [ih]
theorem addK_all : ∀ (a b : List Int) (k : Nat), a.length ≤ k → addK a b k = addL a b
  | [], b, k, _ => by cases k <;> simp [addK, addL]
  | x :: a, [], k, _ => by cases k <;> simp [addK, addL]
  | x :: a, y :: b, 0, h => by simp at h
  | x :: a, y :: b, k + 1, h => by
    simp only [addK, addL]
    rw [addK_all a b k (by simpa using h)]

def tog (n : Nat) (rows : List (List Int)) : List Int := rows.foldl addL (zerosL n)
theorem tog_snoc (n : Nat) (rows : List (List Int)) (i : Nat) (h : i < rows.length) : tog n (rows.take (i + 1)) = addL (tog n (rows.take i)) rows[i] := by
  unfold tog
  rw [List.take_succ_eq_append_getElem h, List.foldl_append]
  rfl
theorem foldl_addL_len : ∀ (rows : List (List Int)) (z : List Int), (rows.foldl addL z).length = z.length
  | [], z => rfl
  | r :: rows, z => by
    show (rows.foldl addL (addL z r)).length = _
    rw [foldl_addL_len rows, addL_len]
theorem tog_len (n : Nat) (rows : List (List Int)) : (tog n rows).length = n := by
  unfold tog
  rw [foldl_addL_len, zerosL_len]
/-- The sum of place i in all rows. -/
def colS (i : Nat) : List (List Int) → Int
  | [] => 0
  | r :: rows => r.getD i 0 + colS i rows
def sumS : List (List Int) → Int
  | [] => 0
  | r :: rows => sumI r + sumS rows
theorem foldl_addL_at : ∀ (rows : List (List Int)) (z : List Int) (i : Nat) (h : i < z.length), (∀ r ∈ rows, r.length = z.length) → (rows.foldl addL z)[i]'(by rw [foldl_addL_len]; exact h) = z[i] + colS i rows
  | [], z, i, h, _ => by simp [colS]
  | r :: rows, z, i, h, hr => by
    have h1 := hr r (List.mem_cons_self ..)
    have ih := foldl_addL_at rows (addL z r) i (by rw [addL_len]; exact h) (fun x hx => by rw [addL_len]; exact hr x (List.mem_cons_of_mem _ hx))
    have e := addL_at z r i h (by omega)
    simp only [List.foldl_cons]
    rw [ih, e]
    simp only [colS, List.getD_eq_getElem?_getD, List.getElem?_eq_getElem (show i < r.length by omega), Option.getD_some]
    omega
theorem tog_at {n : Nat} {rows : List (List Int)} (hr : ∀ r ∈ rows, r.length = n) {i : Nat} (h : i < n) : atZ (tog n rows) (i : Int) = colS i rows := by
  rw [atZ_nat _ (by rw [tog_len]; exact h)]
  have := foldl_addL_at rows (zerosL n) i (by rw [zerosL_len]; exact h) (fun r hx => by rw [zerosL_len]; exact hr r hx)
  unfold tog
  rw [this]
  simp [zerosL]
theorem foldl_addL_sum : ∀ (rows : List (List Int)) (z : List Int), (∀ r ∈ rows, r.length = z.length) → sumI (rows.foldl addL z) = sumI z + sumS rows
  | [], z, _ => by simp [sumS]
  | r :: rows, z, hr => by
    have h1 := hr r (List.mem_cons_self ..)
    have ih := foldl_addL_sum rows (addL z r) (fun x hx => by rw [addL_len]; exact hr x (List.mem_cons_of_mem _ hx))
    simp only [List.foldl_cons, sumS]
    rw [ih, sumI_addL z r h1.symm]
    omega
theorem tog_sum {n : Nat} {rows : List (List Int)} (hr : ∀ r ∈ rows, r.length = n) : sumI (tog n rows) = sumS rows := by
  unfold tog
  rw [foldl_addL_sum rows (zerosL n) (fun r hx => by rw [zerosL_len]; exact hr r hx), sumI_zeros]
  omega
theorem addL_bd {m d : Int} : ∀ (a b : List Int), (∀ z ∈ a, 0 ≤ z ∧ z ≤ m) → (∀ z ∈ b, 0 ≤ z ∧ z ≤ d) → 0 ≤ d → ∀ z ∈ addL a b, 0 ≤ z ∧ z ≤ m + d
  | [], _, _, _, _, z, hz => by simp [addL] at hz
  | x :: a, [], ha, _, hd, z, hz => by
    have := ha z (by simpa [addL] using hz)
    omega
  | x :: a, y :: b, ha, hb, hd, z, hz => by
    simp only [addL] at hz
    rcases List.mem_cons.1 hz with rfl | hz
    · have := ha x (List.mem_cons_self ..)
      have := hb y (List.mem_cons_self ..)
      omega
    · exact addL_bd a b (fun z hz => ha z (List.mem_cons_of_mem _ hz)) (fun z hz => hb z (List.mem_cons_of_mem _ hz)) hd z hz
theorem tog_bd {n : Nat} {rows : List (List Int)} (hb : ∀ r ∈ rows, ∀ z ∈ r, 0 ≤ z ∧ z ≤ 99) : ∀ i : Nat, i ≤ rows.length → ∀ z ∈ tog n (rows.take i), 0 ≤ z ∧ z ≤ 99 * (i : Int)
  | 0, _, z, hz => by
    simp [tog, zerosL] at hz
    omega
  | i + 1, hi, z, hz => by
    have ih := tog_bd (n := n) hb i (by omega)
    rw [tog_snoc n rows i (by omega)] at hz
    have := addL_bd _ _ ih (hb rows[i] (List.getElem_mem _)) (by omega) z hz
    omega

/-- Seats by divisors: whether they may be asked, and which. -/
def sdB (v : List Int) (s me : Int) (lots : List Int) : Bool := vvB v && (decide (0 ≤ s ∧ s ≤ 20) && (meB me && (ltB lots && decide (lots.length = v.length))))
def sdL (v : List Int) (s me : Int) (lots : List Int) : List Int := if sdB v s me lots = true then alloc v me lots (zerosL v.length) s.toNat else []
theorem sdB_of {v : List Int} {s me : Int} {lots : List Int} (h : sdB v s me lots = true) : vvB v = true ∧ 0 ≤ s ∧ s ≤ 20 ∧ meB me = true ∧ ltB lots = true ∧ lots.length = v.length := by
  unfold sdB at h
  simp only [Bool.and_eq_true, decide_eq_true_eq] at h
  exact ⟨h.1, h.2.1.1, h.2.1.2, h.2.2.1, h.2.2.2.1, h.2.2.2.2⟩
theorem sdB_mk {v : List Int} {s me : Int} {lots : List Int} (h1 : vvB v = true) (h2 : 0 ≤ s) (h3 : s ≤ 20) (h4 : meB me = true) (h5 : ltB lots = true) (h6 : lots.length = v.length) : sdB v s me lots = true := by
  unfold sdB
  rw [h1, h4, h5]
  simp [h2, h3, h6]
theorem sdL_yes {v : List Int} {s me : Int} {lots : List Int} (h : sdB v s me lots = true) : sdL v s me lots = alloc v me lots (zerosL v.length) s.toNat := if_pos h
theorem sdL_no {v : List Int} {s me : Int} {lots : List Int} (h : sdB v s me lots = false) : sdL v s me lots = [] := by
  unfold sdL
  rw [h]
  rfl
theorem me_one {me : Int} (h : meB me = true) : 1 ≤ me := by
  have := meB_of h
  omega
/-- Behind k rounds the next may be asked, too. -/
theorem round_ok {v : List Int} {s me : Int} {lots : List Int} (h : sdB v s me lots = true) {k : Nat} (hk : (k : Int) ≤ 20) : snB v (alloc v me lots (zerosL v.length) k) me lots = true := by
  obtain ⟨h1, h2, h3, h4, h5, h6⟩ := sdB_of h
  have L := lots_of h5
  rw [h6] at L
  have S := alloc_seats (v := v) (me_one h4) L (seats_zeros v.length) k
  have hs := alloc_sum (v := v) (me_one h4) L (seats_zeros v.length) k
  rw [sumI_zeros] at hs
  exact snB_mk (seats_mem S) h1 S.len (by omega) h4 h5 h6

/-- Further seats: begun with the seats g. -/
def lev (v : List Int) (me : Int) (lots g : List Int) : Nat → List Int
  | 0 => zerosL g.length
  | k + 1 => inc (lev v me lots g k) (nextL v (alloc v me lots g k) me lots)
theorem lev_len (v : List Int) (me : Int) (lots g : List Int) : ∀ k, (lev v me lots g k).length = g.length
  | 0 => zerosL_len _
  | k + 1 => by
    show (inc _ _).length = _
    rw [inc_len, lev_len v me lots g k]
theorem lev_at {n : Nat} {v g : List Int} {me : Int} {lots : List Int} (hm : 1 ≤ me) (L : Lots n lots) (G : Seats n g) {p : Int} (hp : 0 ≤ p) : ∀ k, atZ (lev v me lots g k) p = atZ (alloc v me lots g k) p - atZ g p
  | 0 => by
    show atZ (zerosL _) p = atZ g p - atZ g p
    rw [atZ_zeros]
    omega
  | k + 1 => by
    have ih := lev_at (v := v) hm L G hp k
    have S := alloc_seats (v := v) hm L G k
    have h := next_mem (v := v) hm L S
    have ih2 := lev_at (v := v) hm L G h.2.1 k
    show atZ (inc _ _) p = atZ (inc _ _) p - _
    rw [atZ_inc h.2.1 (by rw [lev_len, G.len]; exact h.2.2) hp, atZ_inc h.2.1 (by rw [S.len]; exact h.2.2) hp]
    split
    · rename_i e
      rw [ih2, e]
      omega
    · exact ih
theorem lev_sum {n : Nat} {v g : List Int} {me : Int} {lots : List Int} (hm : 1 ≤ me) (L : Lots n lots) (G : Seats n g) : ∀ k : Nat, sumI (lev v me lots g k) = (k : Int)
  | 0 => sumI_zeros _
  | k + 1 => by
    have ih := lev_sum (v := v) hm L G k
    have S := alloc_seats (v := v) hm L G k
    have h := next_mem (v := v) hm L S
    show sumI (inc _ _) = _
    rw [sumI_inc h.2.1 (by rw [lev_len, G.len]; exact h.2.2), ih]
    omega

/-- Districts. -/
def wid (vs : List (List Int)) : Nat := (vs.headD []).length
def dvB (vs : List (List Int)) : Bool := inB (vs.length : Int) 1 4 && (vs.all (fun r => vvB r && decide (r.length = wid vs)) && vvB (tog (wid vs) vs))
theorem dvB_of {vs : List (List Int)} (h : dvB vs = true) : 1 ≤ vs.length ∧ vs.length ≤ 4 ∧ (∀ r ∈ vs, vvB r = true ∧ r.length = wid vs) ∧ vvB (tog (wid vs) vs) = true := by
  unfold dvB inB at h
  simp only [Bool.and_eq_true, decide_eq_true_eq, List.all_eq_true] at h
  exact ⟨by omega, by omega, h.2.1, h.2.2⟩
theorem dvB_row {vs : List (List Int)} {i : Nat} (hi : i < vs.length) (h : vvB vs[i] = false ∨ vs[i].length ≠ wid vs) : dvB vs = false := by
  cases hb : dvB vs with
  | false => rfl
  | true =>
    have := (dvB_of hb).2.2.1 _ (List.getElem_mem hi)
    rcases h with h | h
    · rw [h] at this
      cases this.1
    · exact absurd this.2 h
theorem dvB_len {vs : List (List Int)} (h : inB (vs.length : Int) 1 4 = false) : dvB vs = false := by
  unfold dvB
  rw [h]
  rfl
theorem dvB_end {vs : List (List Int)} (h : inB (vs.length : Int) 1 4 = true) (hr : ∀ r ∈ vs, vvB r = true ∧ r.length = wid vs) : dvB vs = vvB (tog (wid vs) vs) := by
  unfold dvB
  rw [h, List.all_eq_true.2 (fun r hx => by rw [(hr r hx).1, decide_eq_true (hr r hx).2]; rfl)]
  rfl
def dsB (vs : List (List Int)) (s me : Int) (lots : List Int) : Bool := dvB vs && (decide (0 ≤ s ∧ s * (vs.length : Int) ≤ 20) && (meB me && (ltB lots && decide (lots.length = wid vs))))
theorem dsB_of {vs : List (List Int)} {s me : Int} {lots : List Int} (h : dsB vs s me lots = true) : dvB vs = true ∧ 0 ≤ s ∧ s * (vs.length : Int) ≤ 20 ∧ meB me = true ∧ ltB lots = true ∧ lots.length = wid vs := by
  unfold dsB at h
  simp only [Bool.and_eq_true, decide_eq_true_eq] at h
  exact ⟨h.1, h.2.1.1, h.2.1.2, h.2.2.1, h.2.2.2.1, h.2.2.2.2⟩
theorem s_le {s : Int} {n : Nat} (h0 : 0 ≤ s) (h1 : 1 ≤ n) (h : s * (n : Int) ≤ 20) : s ≤ 20 := by
  have := Int.mul_le_mul_of_nonneg_left (show (1 : Int) ≤ (n : Int) by omega) h0
  omega
theorem s_div {s : Int} {n : Nat} (h1 : 1 ≤ n) (h4 : n ≤ 4) : s ≤ 20 / (n : Int) ↔ s * (n : Int) ≤ 20 := by
  have : n = 1 ∨ n = 2 ∨ n = 3 ∨ n = 4 := by omega
  rcases this with rfl | rfl | rfl | rfl <;> omega
/-- Each district's seats. -/
def apL (vs : List (List Int)) (s me : Int) (lots : List Int) : List (List Int) := vs.map (fun v => alloc v me lots (zerosL v.length) s.toNat)
theorem ds_row {vs : List (List Int)} {s me : Int} {lots : List Int} (h : dsB vs s me lots = true) {v : List Int} (hv : v ∈ vs) : sdB v s me lots = true ∧ v.length = wid vs := by
  obtain ⟨h1, h2, h3, h4, h5, h6⟩ := dsB_of h
  obtain ⟨l1, l4, hr, _⟩ := dvB_of h1
  obtain ⟨r1, r2⟩ := hr v hv
  exact ⟨sdB_mk r1 h2 (s_le h2 l1 h3) h4 h5 (by rw [h6, r2]), r2⟩
theorem ds_bad {vs : List (List Int)} {s me : Int} {lots : List Int} (h1 : dvB vs = true) (h2 : 0 ≤ s) (h3 : s * (vs.length : Int) ≤ 20) (h : dsB vs s me lots = false) {v : List Int} (hv : v ∈ vs) : sdB v s me lots = false := by
  cases hb : sdB v s me lots with
  | false => rfl
  | true =>
    obtain ⟨_, _, _, g4, g5, g6⟩ := sdB_of hb
    have := (dvB_of h1).2.2.1 v hv
    unfold dsB at h
    rw [h1, g4, g5, g6, this.2] at h
    simp [h2, h3] at h
theorem ap_len {vs : List (List Int)} {s me : Int} {lots : List Int} (h : dsB vs s me lots = true) : ∀ r ∈ apL vs s me lots, r.length = wid vs ∧ (∀ z ∈ r, 0 ≤ z ∧ z ≤ 20) ∧ sumI r = s := by
  intro r hr
  unfold apL at hr
  obtain ⟨v, hv, rfl⟩ := List.mem_map.1 hr
  obtain ⟨hs, hl⟩ := ds_row h hv
  obtain ⟨g1, g2, g3, g4, g5, g6⟩ := sdB_of hs
  have L := lots_of g5
  rw [g6] at L
  have S := alloc_seats (v := v) (me_one g4) L (seats_zeros v.length) s.toNat
  have hsum := alloc_sum (v := v) (me_one g4) L (seats_zeros v.length) s.toNat
  rw [sumI_zeros, Int.toNat_of_nonneg g2] at hsum
  exact ⟨S.len.trans hl, mem_le_sum (seats_mem S) (by omega), by omega⟩
theorem sumS_const {s : Int} : ∀ (rows : List (List Int)), (∀ r ∈ rows, sumI r = s) → sumS rows = s * (rows.length : Int)
  | [], _ => by simp [sumS]
  | r :: rows, h => by
    have ih := sumS_const rows (fun x hx => h x (List.mem_cons_of_mem _ hx))
    have h1 := h r (List.mem_cons_self ..)
    simp only [sumS, List.length_cons, ih, h1]
    have : s * ((rows.length + 1 : Nat) : Int) = s * (rows.length : Int) + s := by
      rw [Int.natCast_add, Int.mul_add]
      simp
    omega
/-- The seats of all districts. -/
def givL (vs : List (List Int)) (s me : Int) (lots : List Int) : List Int := tog (wid vs) (apL vs s me lots)
theorem giv_ok {vs : List (List Int)} {s me : Int} {lots : List Int} (h : dsB vs s me lots = true) : Seats (wid vs) (givL vs s me lots) ∧ sumI (givL vs s me lots) = s * (vs.length : Int) := by
  have ha := ap_len h
  constructor
  · have hb := tog_bd (n := wid vs) (rows := apL vs s me lots) (fun r hr z hz => by have := (ha r hr).2.1 z hz; omega) (apL vs s me lots).length (Nat.le_refl _)
    rw [List.take_length] at hb
    have := seats_of (g := givL vs s me lots) (fun z hz => (hb z hz).1)
    have hl : (givL vs s me lots).length = wid vs := tog_len _ _
    rw [hl] at this
    exact this
  · unfold givL
    rw [tog_sum (fun r hr => (ha r hr).1), sumS_const _ (fun r hr => (ha r hr).2.2)]
    simp [apL]
def dlB (vs : List (List Int)) (s f me : Int) (lots : List Int) : Bool := dsB vs s me lots && decide (0 ≤ f ∧ s * (vs.length : Int) + f ≤ 20)
def dlL (vs : List (List Int)) (s f me : Int) (lots : List Int) : List Int := if dlB vs s f me lots = true then lev (tog (wid vs) vs) me lots (givL vs s me lots) f.toNat else []
theorem dlB_of {vs : List (List Int)} {s f me : Int} {lots : List Int} (h : dlB vs s f me lots = true) : dsB vs s me lots = true ∧ 0 ≤ f ∧ s * (vs.length : Int) + f ≤ 20 := by
  unfold dlB at h
  simp only [Bool.and_eq_true, decide_eq_true_eq] at h
  exact ⟨h.1, h.2.1, h.2.2⟩
theorem dlB_no {vs : List (List Int)} {s f me : Int} {lots : List Int} (h : dsB vs s me lots = false ∨ f < 0 ∨ 20 < s * (vs.length : Int) + f) : dlB vs s f me lots = false := by
  unfold dlB
  rcases h with h | h
  · rw [h]; rfl
  · rw [decide_eq_false (by omega)]; simp
theorem dlB_yes {vs : List (List Int)} {s f me : Int} {lots : List Int} (h : dsB vs s me lots = true) (h1 : 0 ≤ f) (h2 : s * (vs.length : Int) + f ≤ 20) : dlB vs s f me lots = true := by
  unfold dlB
  rw [h]
  simp [h1, h2]
theorem dlL_yes {vs : List (List Int)} {s f me : Int} {lots : List Int} (h : dlB vs s f me lots = true) : dlL vs s f me lots = lev (tog (wid vs) vs) me lots (givL vs s me lots) f.toNat := if_pos h
theorem dlL_no {vs : List (List Int)} {s f me : Int} {lots : List Int} (h : dlB vs s f me lots = false) : dlL vs s f me lots = [] := by
  unfold dlL
  rw [h]
  rfl
/-- In a round of further seats the next may be asked. -/
theorem lev_ok {vs : List (List Int)} {s me : Int} {lots : List Int} (h : dsB vs s me lots = true) {k : Nat} (hk : s * (vs.length : Int) + (k : Int) ≤ 20) : snB (tog (wid vs) vs) (alloc (tog (wid vs) vs) me lots (givL vs s me lots) k) me lots = true := by
  obtain ⟨h1, h2, h3, h4, h5, h6⟩ := dsB_of h
  obtain ⟨l1, l4, hr, hv⟩ := dvB_of h1
  obtain ⟨G, hg⟩ := giv_ok h
  have L := lots_of h5
  rw [h6] at L
  have S := alloc_seats (v := tog (wid vs) vs) (me_one h4) L G k
  have hs := alloc_sum (v := tog (wid vs) vs) (me_one h4) L G k
  rw [hg] at hs
  exact snB_mk (seats_mem S) hv (by rw [S.len, tog_len]) (by omega) h4 h5 (by rw [h6, tog_len])

end Go.Proofs.Ytjanmgiliooocaa
