/- Methods of divisors and valid votes: what the program's and the reference's small functions return. The conditions stand in each theorem. -/
import Derived.Test.YtjanmgiliooocaaELot
import Derived.Test.YtjanmgiliooocaaLevP
namespace Go.Proofs.Ytjanmgiliooocaa
open Go.RowKit Go.ChangeShapes
open Man
set_option linter.unusedVariables false

def meB (m : Int) : Bool := decide (m = 1 ∨ m = 2)
theorem meB_yes {m : Int} (h : m = 1 ∨ m = 2) : meB m = true := decide_eq_true h
theorem meB_no {m : Int} (h : ¬ (m = 1 ∨ m = 2)) : meB m = false := decide_eq_false h
theorem meB_of {m : Int} (h : meB m = true) : m = 1 ∨ m = 2 := of_decide_eq_true h
theorem isMethod_any (m : Int) (w : World) : Calls Try.prog 39 #[.int .i64 m] w fun e w' => e = .returned (.bool (meB m)) ∧ w = w' := by
  by_cases h1 : m = 1
  · subst h1
    go_enter Try.func39, Try.ntmps39
    go_wp2
    go_ret
    exact ⟨rfl, rfl⟩
  by_cases h2 : m = 2
  · subst h2
    go_enter Try.func39, Try.ntmps39
    go_wp2
    go_ret
    exact ⟨rfl, rfl⟩
  · have HQ := Lib.hid (meB_no (m := m) (by omega))
    have q1 : (m == 1) = false := by simpa using h1
    have q2 : (m == 2) = false := by simpa using h2
    clear h1 h2
    go_enter Try.func39, Try.ntmps39
    go_wp2
    go_ret
    exact ⟨ret_bool HQ.out.symm, rfl⟩
theorem sl21Method_any (m : Int) (w : World) : Calls Try.prog 43 #[.int .i64 m] w fun e w' => e = .returned (.bool (meB m)) ∧ w = w' := by
  by_cases h1 : m = 1
  · subst h1
    go_enter Try.func43, Try.ntmps43
    go_wp2
    go_ret
    exact ⟨rfl, rfl⟩
  by_cases h2 : m = 2
  · subst h2
    go_enter Try.func43, Try.ntmps43
    go_wp2
    go_ret
    exact ⟨rfl, rfl⟩
  · have HQ := Lib.hid (meB_no (m := m) (by omega))
    have q1 : (m == 1) = false := by simpa using h1
    have q2 : (m == 2) = false := by simpa using h2
    clear h1 h2
    go_enter Try.func43, Try.ntmps43
    go_wp2
    go_ret
    exact ⟨ret_bool HQ.out.symm, rfl⟩
theorem divisor_any (s m : Int) (w : World) (h0 : 0 ≤ s) (h1 : s ≤ 1000) (hm : m = 1 ∨ m = 2) : Calls Try.prog 41 #[.int .i64 s, .int .i64 m] w fun e w' => e = .returned (.int .i64 (dv m s)) ∧ w = w' := by
  rcases hm with rfl | rfl
  · go_enter Try.func41, Try.ntmps41
    go_wp2
    go_ret
    exact ⟨ret_int (by unfold dv; omega), rfl⟩
  · go_enter Try.func41, Try.ntmps41
    go_wp2
    go_ret
    exact ⟨ret_int (by unfold dv; omega), rfl⟩
theorem sl21Divisor_any (s m : Int) (w : World) (h0 : 0 ≤ s) (h1 : s ≤ 1000) (hm : m = 1 ∨ m = 2) : Calls Try.prog 46 #[.int .i64 s, .int .i64 m] w fun e w' => e = .returned (.int .i64 (dv m s)) ∧ w = w' := by
  rcases hm with rfl | rfl
  · go_enter Try.func46, Try.ntmps46
    go_wp2
    go_ret
    exact ⟨ret_int (by unfold dv; omega), rfl⟩
  · go_enter Try.func46, Try.ntmps46
    go_wp2
    go_ret
    exact ⟨ret_int (by unfold dv; omega), rfl⟩

/-- Numbers from 0 to m. -/
def inAll (m : Int) (v : List Int) : Bool := v.all (fun z => decide (0 ≤ z ∧ z ≤ m))
theorem inAll_bad {m : Int} {v : List Int} {k : Nat} (hk : k < v.length) (h : v[k] < 0 ∨ m < v[k]) : inAll m v = false := by
  unfold inAll
  cases hb : v.all (fun z => decide (0 ≤ z ∧ z ≤ m)) with
  | false => rfl
  | true =>
    rw [List.all_eq_true] at hb
    have := of_decide_eq_true (hb _ (List.getElem_mem hk))
    omega
theorem inAll_snoc {m : Int} {v : List Int} {k : Nat} (hk : k < v.length) (h1 : inAll m (v.take k) = true) (h2 : 0 ≤ v[k]) (h3 : v[k] ≤ m) : inAll m (v.take (k + 1)) = true := by
  unfold inAll at *
  rw [List.take_succ_eq_append_getElem hk, List.all_append, h1]
  simp [h2, h3]
theorem inAll_of {m : Int} {v : List Int} (h : inAll m v = true) : ∀ z ∈ v, 0 ≤ z ∧ z ≤ m := by
  unfold inAll at h
  rw [List.all_eq_true] at h
  exact fun z hz => of_decide_eq_true (h z hz)
def vvB (v : List Int) : Bool := inAll 99 v && (inB (v.length : Int) 1 5 && decide (0 < sumI v))
theorem vvB_bad {v : List Int} (h : inAll 99 v = false) : vvB v = false := by unfold vvB; rw [h]; rfl
theorem vvB_all {v : List Int} (h : inAll 99 v = true) : vvB v = (inB (v.length : Int) 1 5 && decide (0 < sumI v)) := by unfold vvB; rw [h]; rfl
theorem vvB_of {v : List Int} (h : vvB v = true) : (∀ z ∈ v, 0 ≤ z ∧ z ≤ 99) ∧ 1 ≤ v.length ∧ v.length ≤ 5 ∧ 0 < sumI v := by
  unfold vvB inB at h
  simp only [Bool.and_eq_true, decide_eq_true_eq] at h
  exact ⟨inAll_of h.1, by omega, by omega, h.2.2⟩
/-- The greatest number. -/
def maxL : List Int → Int
  | [] => 0
  | z :: l => l.foldl max z
theorem maxL_snoc {v : List Int} {k : Nat} (h0 : 0 < k) (hk : k < v.length) : maxL (v.take (k + 1)) = max (maxL (v.take k)) v[k] := by
  rw [List.take_succ_eq_append_getElem hk]
  cases h : v.take k with
  | nil =>
    have := congrArg List.length h
    rw [List.length_take, List.length_nil] at this
    omega
  | cons z l => simp [maxL]
theorem foldl_max_pos : ∀ (l : List Int) (z : Int), (∀ x ∈ l, 0 ≤ x) → 0 ≤ z → (0 < l.foldl max z ↔ 0 < z + sumI l)
  | [], z, _, _ => by simp [sumI]
  | x :: l, z, h, hz => by
    have hx := h x (List.mem_cons_self ..)
    have hl := fun y hy => h y (List.mem_cons_of_mem _ hy)
    have ih := foldl_max_pos l (max z x) hl (by omega)
    have hs := sumI_nonneg l hl
    simp only [List.foldl_cons, sumI]
    rw [ih]
    omega
theorem maxL_pos {v : List Int} (h : ∀ x ∈ v, 0 ≤ x) (hv : v ≠ []) : (0 < maxL v ↔ 0 < sumI v) := by
  cases v with
  | nil => exact absurd rfl hv
  | cons z l => exact foldl_max_pos l z (fun y hy => h y (List.mem_cons_of_mem _ hy)) (h z (List.mem_cons_self ..))
theorem foldl_max_bd (m : Int) : ∀ (l : List Int) (z : Int), (∀ x ∈ l, 0 ≤ x ∧ x ≤ m) → 0 ≤ z → z ≤ m → 0 ≤ l.foldl max z ∧ l.foldl max z ≤ m
  | [], z, _, h1, h2 => ⟨h1, h2⟩
  | x :: l, z, h, h1, h2 => by
    have hx := h x (List.mem_cons_self ..)
    exact foldl_max_bd m l (max z x) (fun y hy => h y (List.mem_cons_of_mem _ hy)) (by omega) (by omega)

end Go.Proofs.Ytjanmgiliooocaa
