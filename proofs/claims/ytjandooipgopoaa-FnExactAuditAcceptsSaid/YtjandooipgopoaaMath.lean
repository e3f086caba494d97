/- Plain arithmetic of binomial numbers and of the number of samples that have at least some ballots of the winner. No program in sight, no conditions but those in each theorem. -/
namespace Go.Proofs.Ytjandooipgopoaa.Bin

def C : Nat → Nat → Nat
  | _, 0 => 1
  | 0, _ + 1 => 0
  | n + 1, k + 1 => C n k + C n (k + 1)

theorem C_zero (n : Nat) : C n 0 = 1 := by cases n <;> rfl
theorem C_zero_succ (k : Nat) : C 0 (k + 1) = 0 := rfl
theorem C_succ (n k : Nat) : C (n + 1) (k + 1) = C n k + C n (k + 1) := rfl

theorem C_lt : ∀ (n k : Nat), n < k → C n k = 0
  | 0, 0, h => absurd h (by omega)
  | 0, k + 1, _ => rfl
  | n + 1, 0, h => absurd h (by omega)
  | n + 1, k + 1, h => by
    rw [C_succ, C_lt n k (by omega), C_lt n (k + 1) (by omega)]

theorem C_pos : ∀ (n k : Nat), k ≤ n → 0 < C n k
  | n, 0, _ => by rw [C_zero]; omega
  | 0, k + 1, h => absurd h (by omega)
  | n + 1, k + 1, h => by
    rw [C_succ]
    have := C_pos n k (by omega)
    omega

theorem C_self (n : Nat) : C n n = 1 := by
  induction n with
  | zero => rfl
  | succ n ih => rw [C_succ, ih, C_lt n (n + 1) (by omega)]

theorem absorb : ∀ (n k : Nat), C n (k + 1) * (k + 1) = C n k * (n - k)
  | 0, k => by simp [C_zero_succ]
  | n + 1, 0 => by
    have ih := absorb n 0
    rw [C_zero] at ih
    rw [C_succ, C_zero, C_zero]
    simp at ih ⊢
    omega
  | n + 1, j + 1 => by
    have ih1 := absorb n (j + 1)
    have ih2 := absorb n j
    rw [C_succ n (j + 1), C_succ n j, Nat.add_mul, Nat.add_mul, ih1]
    have e : n + 1 - (j + 1) = n - j := by omega
    rw [e, ← ih2, ← Nat.mul_add, ← Nat.mul_add]
    by_cases h : j + 1 ≤ n
    · congr 1
      omega
    · rw [C_lt n (j + 1) (by omega)]
      simp

theorem grow (n k : Nat) (h : k ≤ n) : C (n + 1) (k + 1) * (k + 1) = C n k * (n + 1) := by
  rw [C_succ, Nat.add_mul, absorb, ← Nat.mul_add]
  congr 1
  omega

theorem C_symm : ∀ (a b : Nat), C (a + b) a = C (a + b) b
  | 0, b => by rw [C_zero, Nat.zero_add, C_self]
  | a + 1, 0 => by rw [C_zero, Nat.add_zero, C_self]
  | a + 1, b + 1 => by
    have h1 := C_symm a (b + 1)
    have h2 := C_symm (a + 1) b
    have e1 : a + 1 + (b + 1) = (a + (b + 1)) + 1 := by omega
    have e2 : a + 1 + b = a + (b + 1) := by omega
    rw [e2] at h2
    rw [e1, C_succ, C_succ, h1, h2]
    omega

theorem C_flip (n k : Nat) (h : k ≤ n) : C n (n - k) = C n k := by
  have := C_symm k (n - k)
  have e : k + (n - k) = n := by omega
  rw [e] at this
  exact this.symm

theorem C_le : ∀ (n k : Nat), C n k ≤ 2 ^ n
  | 0, 0 => by decide
  | 0, k + 1 => by rw [C_zero_succ]; omega
  | n + 1, 0 => by rw [C_zero]; exact Nat.one_le_two_pow
  | n + 1, k + 1 => by
    have h1 := C_le n k
    have h2 := C_le n (k + 1)
    rw [C_succ, Nat.pow_succ]
    omega

theorem C_le20 (n k : Nat) (h : n ≤ 20) : C n k ≤ 1048576 :=
  Nat.le_trans (C_le n k) (Nat.le_trans (Nat.pow_le_pow_right (by omega) h) (by decide))

theorem CC_le20 (a b i j : Nat) (h : a + b ≤ 20) : C a i * C b j ≤ 1048576 := by
  have h1 := Nat.mul_le_mul (C_le a i) (C_le b j)
  rw [← Nat.pow_add] at h1
  exact Nat.le_trans h1 (Nat.le_trans (Nat.pow_le_pow_right (by omega) h) (by decide))

/-- The samples with at least s ballots of the winner, f cases from s on. -/
def from_ (w m k : Nat) : Nat → Nat → Nat
  | 0, _ => 0
  | f + 1, s => C w s * C m (k - s) + from_ w m k f (s + 1)

def ways (w m k l : Nat) : Nat := from_ w m k (k + 1 - l) l

theorem ways_end (w m k l : Nat) (h : k < l) : ways w m k l = 0 := by
  unfold ways
  have e : k + 1 - l = 0 := by omega
  rw [e]
  rfl

theorem ways_step (w m k l : Nat) (h : l ≤ k) : ways w m k l = C w l * C m (k - l) + ways w m k (l + 1) := by
  unfold ways
  have e : k + 1 - l = (k + 1 - (l + 1)) + 1 := by omega
  rw [e]
  rfl

theorem ways_anti (w m k l : Nat) : ways w m k (l + 1) ≤ ways w m k l := by
  by_cases h : l ≤ k
  · rw [ways_step w m k l h]; omega
  · rw [ways_end w m k (l + 1) (by omega)]; omega

theorem ways_anti_add (w m k l d : Nat) : ways w m k (l + d) ≤ ways w m k l := by
  induction d with
  | zero => exact Nat.le_refl _
  | succ d ih => exact Nat.le_trans (ways_anti w m k (l + d)) ih

theorem ways_anti_le (w m k l l' : Nat) (h : l ≤ l') : ways w m k l' ≤ ways w m k l := by
  have := ways_anti_add w m k l (l' - l)
  have e : l + (l' - l) = l' := by omega
  rw [e] at this
  exact this

def part (w m k : Nat) : Nat → Nat
  | 0 => 0
  | l + 1 => C w l * C m (k - (l + 1))

theorem ways_shift_aux (w m k : Nat) : ∀ (d l : Nat), l + d = k → ways (w + 1) m k l = ways w (m + 1) k l + part w m k l
  | 0, l, h => by
    obtain rfl : l = k := by omega
    rw [ways_step _ _ _ _ (Nat.le_refl _), ways_step _ _ _ _ (Nat.le_refl _), ways_end _ _ _ _ (Nat.lt_succ_self _), ways_end _ _ _ _ (Nat.lt_succ_self _)]
    simp only [Nat.sub_self, C_zero]
    cases l with
    | zero => simp [part, C_zero]
    | succ j => simp only [part, C_succ, Nat.sub_self, C_zero]; omega
  | d + 1, l, h => by
    have ih := ways_shift_aux w m k d (l + 1) (by omega)
    rw [ways_step _ _ _ l (by omega), ways_step _ _ _ l (by omega), ih]
    have e : k - l = d + 1 := by omega
    have e1 : k - (l + 1) = d := by omega
    cases l with
    | zero => simp only [part, e, e1, C_zero, C_succ]; omega
    | succ j =>
      simp only [part, e, e1, C_succ, Nat.add_mul, Nat.mul_add]
      omega

theorem ways_shift (w m k l : Nat) : ways w (m + 1) k l ≤ ways (w + 1) m k l := by
  by_cases h : l ≤ k
  · have := ways_shift_aux w m k (k - l) l (by omega)
    omega
  · rw [ways_end _ _ _ _ (by omega), ways_end _ _ _ _ (by omega)]
    exact Nat.le_refl _

theorem ways_zero_aux (m k : Nat) : ∀ (f s : Nat), 0 < s → from_ 0 m k f s = 0
  | 0, _, _ => rfl
  | f + 1, s, h => by
    obtain ⟨j, rfl⟩ : ∃ j, s = j + 1 := ⟨s - 1, by omega⟩
    show C 0 (j + 1) * _ + _ = 0
    rw [C_zero_succ, ways_zero_aux m k f _ (by omega)]
    omega

theorem ways_all : ∀ (w m k : Nat), ways w m k 0 = C (w + m) k
  | 0, m, k => by
    rw [ways_step _ _ _ _ (Nat.zero_le _), C_zero]
    unfold ways
    rw [ways_zero_aux m k _ _ (by omega)]
    simp
  | w + 1, m, k => by
    have h := ways_shift_aux w m k k 0 (by omega)
    rw [h, ways_all w (m + 1) k]
    have e : w + (m + 1) = w + 1 + m := by omega
    rw [e]
    rfl

theorem ways_mono (n : Nat) (k l : Nat) : ∀ (d w : Nat), w + d ≤ n → ways w (n - w) k l ≤ ways (w + d) (n - (w + d)) k l
  | 0, _, _ => Nat.le_refl _
  | d + 1, w, h => by
    have h1 := ways_mono n k l d w (by omega)
    have h2 := ways_shift (w + d) (n - (w + d + 1)) k l
    have e : n - (w + d + 1) + 1 = n - (w + d) := by omega
    rw [e] at h2
    exact Nat.le_trans h1 h2

theorem ways_mono_le (n k l w w' : Nat) (h : w ≤ w') (h' : w' ≤ n) : ways w (n - w) k l ≤ ways w' (n - w') k l := by
  have := ways_mono n k l (w' - w) w (by omega)
  have e : w + (w' - w) = w' := by omega
  rw [e] at this
  exact this

theorem ways_le (n w k l : Nat) (h : w ≤ n) : ways w (n - w) k l ≤ C n k := by
  have h1 := ways_anti_le w (n - w) k 0 l (Nat.zero_le _)
  rw [ways_all] at h1
  have e : w + (n - w) = n := by omega
  rw [e] at h1
  exact h1

theorem ways_le20 (n w k l : Nat) (h : w ≤ n) (hn : n ≤ 20) : ways w (n - w) k l ≤ 1048576 :=
  Nat.le_trans (ways_le n w k l h) (C_le20 n k hn)

/-- A sample of all ballots has just the winner's ones. -/
theorem ways_full (w m l : Nat) : ways w m (w + m) l = if l ≤ w then 1 else 0 := by
  have key : ∀ (d l : Nat), l + d = w + m + 1 → ways w m (w + m) l = if l ≤ w then 1 else 0 := by
    intro d
    induction d with
    | zero =>
      intro l h
      rw [ways_end _ _ _ _ (by omega), if_neg (by omega)]
    | succ d ih =>
      intro l h
      rw [ways_step _ _ _ _ (by omega), ih (l + 1) (by omega)]
      by_cases h1 : l < w
      · rw [if_pos (by omega), if_pos (by omega), C_lt m _ (by omega)]
        simp
      · by_cases h2 : l = w
        · subst h2
          have e : l + m - l = m := by omega
          rw [if_neg (by omega), if_pos (Nat.le_refl _), C_self, e, C_self]
        · rw [if_neg (by omega), if_neg (by omega), C_lt w l (by omega)]
          simp
  by_cases h : l ≤ w + m
  · exact key (w + m + 1 - l) l (by omega)
  · rw [ways_end _ _ _ _ (by omega), if_neg (by omega)]

end Go.Proofs.Ytjandooipgopoaa.Bin
