/- What AuditLimit returns for every argument, the reference's and the program's: the least number whose risk is small enough. The conditions stand in each theorem. -/
import Derived.Test.YtjandooipgopoaaAud3
namespace Go.Proofs.Ytjandooipgopoaa
open Go.RowKit Go.ChangeShapes
set_option linter.unusedVariables false

/-- The first place from a on where p holds; a + f if there is none before. -/
def limFrom (p : Nat → Bool) : Nat → Nat → Nat
  | 0, a => a
  | f + 1, a => if p a then a else limFrom p f (a + 1)
theorem lim_find (p : Nat → Bool) : ∀ (f a s : Nat), a ≤ s → s ≤ a + f → (∀ t, a ≤ t → t < s → p t = false) → p s = true → limFrom p f a = s
  | 0, a, s, h1, h2, _, _ => by
    show a = s
    omega
  | f + 1, a, s, h1, h2, h3, h4 => by
    unfold limFrom
    by_cases e : a = s
    · subst e
      rw [if_pos h4]
    · rw [if_neg (by rw [h3 a (Nat.le_refl _) (by omega)]; exact Bool.false_ne_true)]
      exact lim_find p f (a + 1) s (by omega) (by omega) (fun t ht ht' => h3 t (by omega) ht') h4
theorem lim_spec (p : Nat → Bool) : ∀ (f a : Nat), p (a + f) = true → p (limFrom p f a) = true ∧ limFrom p f a ≤ a + f ∧ a ≤ limFrom p f a ∧ ∀ t, a ≤ t → t < limFrom p f a → p t = false
  | 0, a, h => ⟨h, Nat.le_refl _, Nat.le_refl _, fun t h1 h2 => by
      have : limFrom p 0 a = a := rfl
      omega⟩
  | f + 1, a, h => by
    unfold limFrom
    by_cases e : p a = true
    · rw [if_pos e]
      exact ⟨e, by omega, Nat.le_refl _, fun t h1 h2 => absurd h2 (by omega)⟩
    · rw [if_neg e]
      obtain ⟨i1, i2, i3, i4⟩ := lim_spec p f (a + 1) (by rw [show a + 1 + f = a + (f + 1) by omega]; exact h)
      refine ⟨i1, by omega, by omega, fun t h1 h2 => ?_⟩
      by_cases ht : t = a
      · subst ht
        simpa using e
      · exact i4 t (by omega) h2

def fitB (n k num den : Int) (s : Nat) : Bool := decide (wz n (n / 2) k s * den ≤ num * chz n k)
theorem fitB_end (n k num den : Int) (hk : 0 ≤ k) (hnum : 0 ≤ num) (hn : n ≤ 20) (s : Nat) (hs : k < s) : fitB n k num den s = true := by
  unfold fitB
  have h0 : wz n (n / 2) k s = 0 := by
    unfold wz
    rw [Bin.ways_end _ _ _ _ (by omega)]
    rfl
  rw [h0, Int.zero_mul]
  have := Int.mul_nonneg hnum (chz_bd n k hn).1
  simpa using this
def okL (n k num den : Int) : Prop := 1 ≤ n ∧ n ≤ 20 ∧ 0 ≤ k ∧ k ≤ n ∧ 1 ≤ den ∧ den ≤ 1000 ∧ 0 ≤ num ∧ num ≤ den
instance (n k num den : Int) : Decidable (okL n k num den) := by unfold okL; infer_instance
def lz (n k num den : Int) : Nat := limFrom (fitB n k num den) (k.toNat + 1) 0
def li (n k num den : Int) : Int := if okL n k num den then (lz n k num den : Int) else -1
theorem li_in {n k num den : Int} (h : okL n k num den) : li n k num den = (lz n k num den : Int) := if_pos h
theorem li_out {n k num den : Int} (h : ¬ okL n k num den) : li n k num den = -1 := if_neg h
theorem lz_eq {n k num den : Int} (K s : Nat) (hK : k = K) (hs : s ≤ K + 1) (h : ∀ t, t < s → fitB n k num den t = false) (h1 : fitB n k num den s = true) : (lz n k num den : Int) = (s : Int) := by
  subst hK
  unfold lz
  rw [lim_find _ _ 0 s (Nat.zero_le _) (by omega) (fun t _ ht => h t ht) h1]
theorem li_spec {n k num den : Int} (h : okL n k num den) : fitB n k num den (lz n k num den) = true ∧ (lz n k num den : Int) ≤ k + 1 ∧ ∀ t, t < lz n k num den → fitB n k num den t = false := by
  obtain ⟨_, g2, g3, _, _, _, g7, _⟩ := h
  have := lim_spec (fitB n k num den) (k.toNat + 1) 0 (fitB_end n k num den g3 g7 g2 _ (by omega))
  exact ⟨this.1, by have := this.2.1; unfold lz; omega, fun t ht => this.2.2.2 t (Nat.zero_le _) ht⟩
theorem prods (n k num den : Int) (s : Int) (h1 : 1 ≤ n) (h2 : n ≤ 20) (hd : 1 ≤ den) (hd' : den ≤ 1000) (hn : 0 ≤ num) (hn' : num ≤ den) :
    (0 ≤ wz n (n / 2) k s * den ∧ wz n (n / 2) k s * den ≤ 1048576 * 1000) ∧ (0 ≤ num * chz n k ∧ num * chz n k ≤ 1000 * 1048576) := by
  have b1 := wz_bd n (n / 2) k s (by omega) (by omega) h2
  have b2 := chz_bd n k h2
  exact ⟨mul_bd b1.1 b1.2 (by omega) hd', mul_bd hn (by omega) b2.1 b2.2⟩

set_option maxHeartbeats 1000000 in
theorem slimit_any (n k num den : Int) (w : World) (h : okL n k num den) :
    Calls Try.prog 42 #[.int .i64 n, .int .i64 k, .int .i64 num, .int .i64 den] w fun e w' => e = .returned (.int .i64 (lz n k num den : Int)) ∧ w = w' := by
  obtain ⟨g1, g2, g3, g4, g5, g6, g7, g8⟩ := h
  obtain ⟨K, rfl⟩ := Int.eq_ofNat_of_zero_le g3
  go_enter Try.func42, Try.ntmps42
  go_wp2
  go_loop [9] (fun c => ∃ s : Nat, s ≤ K + 1 ∧ c = .int .i64 s ∧ Hid (∀ t, t < s → fitB n K num den t = false)) (fun c => K + 2 - (intOf c).toNat)
  case atStart => exact ⟨0, Nat.zero_le _, rfl, fun t ht => absurd ht (by omega)⟩
  case round =>
    obtain ⟨s, hs, rfl, HX⟩ := hrel
    by_cases hle : s ≤ K
    · cases hfit : fitB n K num den s with
      | true =>
        have HF := Lib.hid hfit
        have d0 : wz n (n / 2) K s * den ≤ num * chz n K := by simpa [fitB] using hfit
        have hp := prods n K num den s g1 g2 g5 g6 g7 g8
        clear hfit
        go_wp2_with (first | (go_at_call 38; refine (sways_any _ _ _ _ _ (by omega) (by omega) (by omega) (by omega) (by omega) (by omega)).mono ?_; rintro e w' ⟨rfl, rfl⟩) | (go_at_call 36; refine (lchoose_any _ _ _ (by omega) (by omega) (by omega)).mono ?_; rintro e w' ⟨rfl, rfl⟩))
        go_ret
        exact ⟨ret_int (lz_eq K s rfl (by omega) HX.out HF.out).symm, rfl⟩
      | false =>
        have HF := Lib.hid hfit
        have d0 : num * chz n K < wz n (n / 2) K s * den := by simpa [fitB] using hfit
        have hp := prods n K num den s g1 g2 g5 g6 g7 g8
        clear hfit
        go_wp2_with (first | (go_at_call 38; refine (sways_any _ _ _ _ _ (by omega) (by omega) (by omega) (by omega) (by omega) (by omega)).mono ?_; rintro e w' ⟨rfl, rfl⟩) | (go_at_call 36; refine (lchoose_any _ _ _ (by omega) (by omega) (by omega)).mono ?_; rintro e w' ⟨rfl, rfl⟩))
        go_round
        case rel => exact ⟨s + 1, by omega, by go_num, fun t ht => by
          by_cases e : t = s
          · rw [e]; exact HF.out
          · exact HX.out t (by omega)⟩
        case measure => simp [intOf]; omega
    · obtain rfl : s = K + 1 := by omega
      have hfit := fitB_end n K num den g3 g7 g2 (K + 1) (by omega)
      have HF := Lib.hid hfit
      clear hfit
      go_wp2
      go_ret
      exact ⟨ret_int (by rw [lz_eq K (K + 1) rfl (by omega) HX.out HF.out]; omega), rfl⟩

set_option maxHeartbeats 1000000 in
theorem limit_any (n k num den : Int) (w : World) (h : okL n k num den) :
    Calls Try.prog 26 #[.int .i64 n, .int .i64 k, .int .i64 num, .int .i64 den] w fun e w' => e = .returned (.int .i64 (lz n k num den : Int)) ∧ w = w' := by
  obtain ⟨g1, g2, g3, g4, g5, g6, g7, g8⟩ := h
  obtain ⟨K, rfl⟩ := Int.eq_ofNat_of_zero_le g3
  have d1 : smpB n K = true := smpB_yes ⟨g1, g2, g3, g4⟩
  have d2 : decide (den < 1) = false := by simp; omega
  have d3 : decide (1000 < den) = false := by simp; omega
  have d4 : decide (num < 0) = false := by simp; omega
  have d5 : decide (den < num) = false := by simp; omega
  have hok : okR n K := ⟨g1, g2, g3, g4⟩
  have HR : Hid (∀ (l : Int) (w : World), Calls Try.prog 23 #[.int .i64 n, .int .i64 K, .int .i64 l] w fun e w' => e = .returned (.tuple #[.int .i64 (wz n (n / 2) K l), .int .i64 (chz n K)]) ∧ w = w') := fun l w => by
    have := AuditRisk_any n K l w
    rw [ra_in l hok, rb_in hok] at this
    exact this
  clear hok
  go_enter Try.func26, Try.ntmps26
  go_wp2_with (go_at_call 39; refine (smp_any _ _ _).mono ?_; rintro e w' ⟨rfl, rfl⟩)
  go_loop [9] (fun c => ∃ s : Nat, s ≤ K + 1 ∧ c = .int .i64 s ∧ Hid (∀ t, t < s → fitB n K num den t = false)) (fun c => K + 2 - (intOf c).toNat)
  case atStart => exact ⟨0, Nat.zero_le _, rfl, fun t ht => absurd ht (by omega)⟩
  case round =>
    obtain ⟨s, hs, rfl, HX⟩ := hrel
    cases hfit : fitB n K num den s with
    | true =>
      have HF := Lib.hid hfit
      have d0 : wz n (n / 2) K s * den ≤ num * chz n K := by simpa [fitB] using hfit
      have hp := prods n K num den s g1 g2 g5 g6 g7 g8
      clear hfit
      go_wp2_with (go_at_call 23; refine (HR.out _ _).mono ?_; rintro e w' ⟨rfl, rfl⟩)
      go_ret
      exact ⟨ret_int (lz_eq K s rfl (by omega) HX.out HF.out).symm, rfl⟩
    | false =>
      have hle : s ≤ K := by
        by_cases hle : s ≤ K
        · exact hle
        · rw [fitB_end n K num den g3 g7 g2 s (by omega)] at hfit
          cases hfit
      have HF := Lib.hid hfit
      have d0 : num * chz n K < wz n (n / 2) K s * den := by simpa [fitB] using hfit
      have hp := prods n K num den s g1 g2 g5 g6 g7 g8
      clear hfit
      go_wp2_with (go_at_call 23; refine (HR.out _ _).mono ?_; rintro e w' ⟨rfl, rfl⟩)
      go_round
      case rel => exact ⟨s + 1, by omega, by go_num, fun t ht => by
        by_cases e : t = s
        · rw [e]; exact HF.out
        · exact HX.out t (by omega)⟩
      case measure => simp [intOf]; omega

set_option maxHeartbeats 400000 in
theorem AuditLimit_any (n k num den : Int) (w : World) :
    Calls Try.prog 26 #[.int .i64 n, .int .i64 k, .int .i64 num, .int .i64 den] w fun e w' => e = .returned (.int .i64 (li n k num den)) ∧ w = w' := by
  by_cases h : okL n k num den
  · rw [li_in h]
    exact limit_any n k num den w h
  · rw [li_out h]
    unfold okL at h
    by_cases h1 : 1 ≤ n ∧ n ≤ 20 ∧ 0 ≤ k ∧ k ≤ n
    · have d0 := smpB_yes h1
      by_cases h2 : den < 1
      · clear h h1
        go_enter Try.func26, Try.ntmps26
        go_wp2_with (go_at_call 39; refine (smp_any _ _ _).mono ?_; rintro e w' ⟨rfl, rfl⟩)
        go_ret
        exact ⟨rfl, rfl⟩
      by_cases h3 : 1000 < den
      · clear h h1
        go_enter Try.func26, Try.ntmps26
        go_wp2_with (go_at_call 39; refine (smp_any _ _ _).mono ?_; rintro e w' ⟨rfl, rfl⟩)
        go_ret
        exact ⟨rfl, rfl⟩
      by_cases h4 : num < 0
      · clear h h1
        go_enter Try.func26, Try.ntmps26
        go_wp2_with (go_at_call 39; refine (smp_any _ _ _).mono ?_; rintro e w' ⟨rfl, rfl⟩)
        go_ret
        exact ⟨rfl, rfl⟩
      · have h5 : den < num := by omega
        clear h h1
        go_enter Try.func26, Try.ntmps26
        go_wp2_with (go_at_call 39; refine (smp_any _ _ _).mono ?_; rintro e w' ⟨rfl, rfl⟩)
        go_ret
        exact ⟨rfl, rfl⟩
    · have d0 := smpB_no h1
      clear h h1
      go_enter Try.func26, Try.ntmps26
      go_wp2_with (go_at_call 39; refine (smp_any _ _ _).mono ?_; rintro e w' ⟨rfl, rfl⟩)
      go_ret
      exact ⟨rfl, rfl⟩

set_option maxHeartbeats 400000 in
theorem sAuditLimit_any (n k num den : Int) (w : World) :
    Calls Try.prog 25 #[.int .i64 n, .int .i64 k, .int .i64 num, .int .i64 den] w fun e w' => e = .returned (.int .i64 (li n k num den)) ∧ w = w' := by
  by_cases h : okL n k num den
  · rw [li_in h]
    have HC := Lib.hid (slimit_any n k num den)
    have HO := Lib.hid h
    obtain ⟨g1, g2, g3, g4, g5, g6, g7, g8⟩ := h
    have d1 := inB_yes g1 g2
    have d2 := inB_yes g3 g4
    have d3 := inB_yes g5 g6
    have d4 := inB_yes g7 g8
    go_enter Try.func25, Try.ntmps25
    go_wp2_with (first | (go_at_call 35; refine (in_any _ _ _ _).mono ?_; rintro e w' ⟨rfl, rfl⟩) | (go_at_call 42; refine (HC.out _ HO.out).mono ?_; rintro e w' ⟨rfl, rfl⟩))
    go_ret
    exact ⟨rfl, rfl⟩
  · rw [li_out h]
    unfold okL at h
    by_cases h1 : 1 ≤ n ∧ n ≤ 20
    · have d1 := inB_yes h1.1 h1.2
      by_cases h2 : 0 ≤ k ∧ k ≤ n
      · have d2 := inB_yes h2.1 h2.2
        by_cases h3 : 1 ≤ den ∧ den ≤ 1000
        · have d3 := inB_yes h3.1 h3.2
          have d4 := inB_no (a := num) (lo := 0) (hi := den) (by omega)
          clear h h1 h2 h3
          go_enter Try.func25, Try.ntmps25
          go_wp2_with (go_at_call 35; refine (in_any _ _ _ _).mono ?_; rintro e w' ⟨rfl, rfl⟩)
          go_ret
          exact ⟨rfl, rfl⟩
        · have d3 := inB_no (a := den) (lo := 1) (hi := 1000) (by omega)
          clear h h1 h2 h3
          go_enter Try.func25, Try.ntmps25
          go_wp2_with (go_at_call 35; refine (in_any _ _ _ _).mono ?_; rintro e w' ⟨rfl, rfl⟩)
          go_ret
          exact ⟨rfl, rfl⟩
      · have d2 := inB_no (a := k) (lo := 0) (hi := n) (by omega)
        clear h h1 h2
        go_enter Try.func25, Try.ntmps25
        go_wp2_with (go_at_call 35; refine (in_any _ _ _ _).mono ?_; rintro e w' ⟨rfl, rfl⟩)
        go_ret
        exact ⟨rfl, rfl⟩
    · have d1 := inB_no (a := n) (lo := 1) (hi := 20) (by omega)
      clear h h1
      go_enter Try.func25, Try.ntmps25
      go_wp2_with (go_at_call 35; refine (in_any _ _ _ _).mono ?_; rintro e w' ⟨rfl, rfl⟩)
      go_ret
      exact ⟨rfl, rfl⟩

end Go.Proofs.Ytjandooipgopoaa
