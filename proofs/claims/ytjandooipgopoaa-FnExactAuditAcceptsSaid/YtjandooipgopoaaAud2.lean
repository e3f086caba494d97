/- What AuditWays, AuditRisk and AuditLimit return, the reference's and the program's, by the plain functions of Bin. The conditions stand in each theorem. -/
import Derived.Test.YtjandooipgopoaaAud
namespace Go.Proofs.Ytjandooipgopoaa
open Go.RowKit Go.ChangeShapes

def inB (a lo hi : Int) : Bool := decide (lo ≤ a) && decide (a ≤ hi)
theorem inB_yes {a lo hi : Int} (h1 : lo ≤ a) (h2 : a ≤ hi) : inB a lo hi = true := by simp [inB, h1, h2]
theorem inB_no {a lo hi : Int} (h : a < lo ∨ hi < a) : inB a lo hi = false := by
  unfold inB
  rcases h with h | h
  · have : decide (lo ≤ a) = false := by simp; omega
    rw [this]; rfl
  · have : decide (a ≤ hi) = false := by simp; omega
    rw [this]; simp
theorem in_any (a lo hi : Int) (w : World) :
    Calls Try.prog 35 #[.int .i64 a, .int .i64 lo, .int .i64 hi] w fun e w' => e = .returned (.bool (inB a lo hi)) ∧ w = w' := by
  by_cases h : lo ≤ a ∧ a ≤ hi
  · rw [inB_yes h.1 h.2]; exact in_yes a lo hi w h.1 h.2
  · rw [inB_no (by omega)]; exact in_no a lo hi w (by omega)

def smpB (n k : Int) : Bool := decide (1 ≤ n) && (decide (n ≤ 20) && (decide (0 ≤ k) && decide (k ≤ n)))
theorem smpB_yes {n k : Int} (h : 1 ≤ n ∧ n ≤ 20 ∧ 0 ≤ k ∧ k ≤ n) : smpB n k = true := by simp [smpB, h.1, h.2.1, h.2.2.1, h.2.2.2]
theorem smpB_no {n k : Int} (h : ¬ (1 ≤ n ∧ n ≤ 20 ∧ 0 ≤ k ∧ k ≤ n)) : smpB n k = false := by
  cases hb : smpB n k with
  | false => rfl
  | true => simp [smpB] at hb; omega
set_option maxHeartbeats 400000 in
theorem smp_any (n k : Int) (w : World) :
    Calls Try.prog 39 #[.int .i64 n, .int .i64 k] w fun e w' => e = .returned (.bool (smpB n k)) ∧ w = w' := by
  by_cases h : 1 ≤ n ∧ n ≤ 20 ∧ 0 ≤ k ∧ k ≤ n
  · rw [smpB_yes h]
    have d1 : decide (1 ≤ n) = true := by simpa using h.1
    have d2 : decide (n ≤ 20) = true := by simpa using h.2.1
    have d3 : decide (0 ≤ k) = true := by simpa using h.2.2.1
    have d4 : decide (k ≤ n) = true := by simpa using h.2.2.2
    clear h
    go_enter Try.func39, Try.ntmps39
    go_wp2
    go_ret
    exact ⟨rfl, rfl⟩
  · rw [smpB_no h]
    by_cases h1 : 1 ≤ n
    · have d1 : decide (1 ≤ n) = true := by simpa using h1
      by_cases h2 : n ≤ 20
      · have d2 : decide (n ≤ 20) = true := by simpa using h2
        by_cases h3 : 0 ≤ k
        · have d3 : decide (0 ≤ k) = true := by simpa using h3
          have d4 : decide (k ≤ n) = false := by simp; omega
          clear h
          go_enter Try.func39, Try.ntmps39
          go_wp2
          go_ret
          exact ⟨rfl, rfl⟩
        · have d3 : decide (0 ≤ k) = false := by simpa using h3
          clear h
          go_enter Try.func39, Try.ntmps39
          go_wp2
          go_ret
          exact ⟨rfl, rfl⟩
      · have d2 : decide (n ≤ 20) = false := by simpa using h2
        clear h
        go_enter Try.func39, Try.ntmps39
        go_wp2
        go_ret
        exact ⟨rfl, rfl⟩
    · have d1 : decide (1 ≤ n) = false := by simpa using h1
      clear h
      go_enter Try.func39, Try.ntmps39
      go_wp2
      go_ret
      exact ⟨rfl, rfl⟩

def wz (n w k l : Int) : Int := (Bin.ways w.toNat (n - w).toNat k.toNat l.toNat : Int)
theorem wz_bd (n w k l : Int) (hw0 : 0 ≤ w) (hw : w ≤ n) (hn : n ≤ 20) : 0 ≤ wz n w k l ∧ wz n w k l ≤ 1048576 := by
  have := Bin.ways_le20 n.toNat w.toNat k.toNat l.toNat (by omega) (by omega)
  have e : (n - w).toNat = n.toNat - w.toNat := by omega
  unfold wz
  rw [e]
  omega

/-- One round of the sum. -/
theorem wz_step (N W K L s : Nat) (x : Int) (hW : W ≤ N) (hs : s ≤ K) (H : x + (Bin.ways W (N - W) K s : Int) = (Bin.ways W (N - W) K L : Int)) :
    (x + chz W s * chz ((N : Int) - (W : Int)) ((K : Int) - (s : Int))) + (Bin.ways W (N - W) K (s + 1) : Int) = (Bin.ways W (N - W) K L : Int) := by
  rw [Bin.ways_step W (N - W) K s hs] at H
  unfold chz
  have e1 : ((N : Int) - (W : Int)).toNat = N - W := by omega
  have e2 : ((K : Int) - (s : Int)).toNat = K - s := by omega
  rw [e1, e2]
  simp only [Int.toNat_natCast]
  rw [Int.natCast_add, Int.natCast_mul] at H
  omega


set_option maxHeartbeats 1000000 in
theorem sways_any (n wi k l : Int) (w : World) (hn1 : 1 ≤ n) (hn : n ≤ 20) (hw0 : 0 ≤ wi) (hw : wi ≤ n) (hk0 : 0 ≤ k) (hk : k ≤ n) :
    Calls Try.prog 38 #[.int .i64 n, .int .i64 wi, .int .i64 k, .int .i64 l] w fun e w' => e = .returned (.int .i64 (wz n wi k l)) ∧ w = w' := by
  obtain ⟨N, rfl⟩ := Int.eq_ofNat_of_zero_le (show 0 ≤ n by omega)
  obtain ⟨W, rfl⟩ := Int.eq_ofNat_of_zero_le hw0
  obtain ⟨K, rfl⟩ := Int.eq_ofNat_of_zero_le hk0
  obtain ⟨L, hL⟩ : ∃ L : Nat, L = l.toNat := ⟨_, rfl⟩
  have HR : Hid (wz N W K l = (Bin.ways W (N - W) K L : Int)) := by
    have e : ((N : Int) - (W : Int)).toNat = N - W := by omega
    show wz N W K l = _
    unfold wz
    rw [e, ← hL]
    rfl
  have tot := Bin.ways_le20 N W K L (by omega) (by omega)
  by_cases hl : l < 0
  · obtain rfl : L = 0 := by omega
    clear hL
    go_enter Try.func38, Try.ntmps38
    go_wp2
    go_loop [9, 10] (fun o c => ∃ (s : Nat) (x : Int), 0 ≤ s ∧ c = .int .i64 s ∧ o = .int .i64 x ∧ 0 ≤ x ∧ x ≤ 1048576 ∧ Hid (x + (Bin.ways W (N - W) K s : Int) = (Bin.ways W (N - W) K 0 : Int))) (fun _ c => K + 1 - (intOf c).toNat)
    case atStart => exact ⟨0, 0, Nat.le_refl _, rfl, rfl, by omega, by omega, Int.zero_add _⟩
    case round =>
      obtain ⟨s, x, hs, rfl, rfl, hx0, hx1, HX⟩ := hrel
      by_cases hlt : s ≤ K
      · have HS := Lib.hid (wz_step N W K 0 s x (by omega) (by omega) HX.out)
        have hm := chz2_bd W ((N : Int) - (W : Int)) s ((K : Int) - (s : Int)) (by omega) (by omega) (by omega)
        go_wp2_with (go_at_call 36; refine (lchoose_any _ _ _ (by omega) (by omega) (by omega)).mono ?_; rintro e w' ⟨rfl, rfl⟩)
        go_round
        case rel =>
          have hq := HS.out
          exact ⟨s + 1, _, by omega, by go_num, rfl, by omega, by omega, HS⟩
        case measure => simp [intOf]; omega
      · have hz := Bin.ways_end W (N - W) K s (by omega)
        have HZ := Lib.hid hz
        clear hz
        go_wp2
        go_ret
        have hq := HX.out
        rw [HZ.out] at hq
        exact ⟨ret_int (by rw [HR.out]; omega), rfl⟩
  · obtain rfl : l = (L : Int) := by omega
    clear hL hl
    go_enter Try.func38, Try.ntmps38
    go_wp2
    go_loop [9, 10] (fun o c => ∃ (s : Nat) (x : Int), L ≤ s ∧ c = .int .i64 s ∧ o = .int .i64 x ∧ 0 ≤ x ∧ x ≤ 1048576 ∧ Hid (x + (Bin.ways W (N - W) K s : Int) = (Bin.ways W (N - W) K L : Int))) (fun _ c => K + 1 - (intOf c).toNat)
    case atStart => exact ⟨L, 0, Nat.le_refl _, rfl, rfl, by omega, by omega, Int.zero_add _⟩
    case round =>
      obtain ⟨s, x, hs, rfl, rfl, hx0, hx1, HX⟩ := hrel
      by_cases hlt : s ≤ K
      · have HS := Lib.hid (wz_step N W K L s x (by omega) (by omega) HX.out)
        have hm := chz2_bd W ((N : Int) - (W : Int)) s ((K : Int) - (s : Int)) (by omega) (by omega) (by omega)
        go_wp2_with (go_at_call 36; refine (lchoose_any _ _ _ (by omega) (by omega) (by omega)).mono ?_; rintro e w' ⟨rfl, rfl⟩)
        go_round
        case rel =>
          have hq := HS.out
          exact ⟨s + 1, _, by omega, by go_num, rfl, by omega, by omega, HS⟩
        case measure => simp [intOf]; omega
      · have hz := Bin.ways_end W (N - W) K s (by omega)
        have HZ := Lib.hid hz
        clear hz
        go_wp2
        go_ret
        have hq := HX.out
        rw [HZ.out] at hq
        exact ⟨ret_int (by rw [HR.out]; omega), rfl⟩

set_option maxHeartbeats 1000000 in
theorem ways_any (n wi k l : Int) (w : World) (hn1 : 1 ≤ n) (hn : n ≤ 20) (hw0 : 0 ≤ wi) (hw : wi ≤ n) (hk0 : 0 ≤ k) (hk : k ≤ n) :
    Calls Try.prog 21 #[.int .i64 n, .int .i64 wi, .int .i64 k, .int .i64 l] w fun e w' => e = .returned (.int .i64 (wz n wi k l)) ∧ w = w' := by
  obtain ⟨N, rfl⟩ := Int.eq_ofNat_of_zero_le (show 0 ≤ n by omega)
  obtain ⟨W, rfl⟩ := Int.eq_ofNat_of_zero_le hw0
  obtain ⟨K, rfl⟩ := Int.eq_ofNat_of_zero_le hk0
  obtain ⟨L, hL⟩ : ∃ L : Nat, L = l.toNat := ⟨_, rfl⟩
  have HR : Hid (wz N W K l = (Bin.ways W (N - W) K L : Int)) := by
    have e : ((N : Int) - (W : Int)).toNat = N - W := by omega
    show wz N W K l = _
    unfold wz
    rw [e, ← hL]
    rfl
  have tot := Bin.ways_le20 N W K L (by omega) (by omega)
  have d0 : smpB N K = true := smpB_yes (by omega)
  have d1 : decide ((W : Int) < 0) = false := by simp
  have d2 : decide (N < W) = false := by simp; omega
  by_cases hl : l ≤ 0
  · obtain rfl : L = 0 := by omega
    clear hL
    go_enter Try.func21, Try.ntmps21
    go_wp2_with (go_at_call 39; refine (smp_any _ _ _).mono ?_; rintro e w' ⟨rfl, rfl⟩)
    go_loop [9, 10] (fun o c => ∃ (s : Nat) (x : Int), 0 ≤ s ∧ c = .int .i64 s ∧ o = .int .i64 x ∧ 0 ≤ x ∧ x ≤ 1048576 ∧ Hid (x + (Bin.ways W (N - W) K s : Int) = (Bin.ways W (N - W) K 0 : Int))) (fun _ c => K + 1 - (intOf c).toNat)
    case atStart => exact ⟨0, 0, Nat.le_refl _, rfl, rfl, by omega, by omega, Int.zero_add _⟩
    case round =>
      obtain ⟨s, x, hs, rfl, rfl, hx0, hx1, HX⟩ := hrel
      by_cases hlt : s ≤ K
      · have HS := Lib.hid (wz_step N W K 0 s x (by omega) (by omega) HX.out)
        have hm := chz2_bd W ((N : Int) - (W : Int)) s ((K : Int) - (s : Int)) (by omega) (by omega) (by omega)
        go_wp2_with (go_at_call 37; refine (choose_any _ _ _ (by omega) (by omega) (by omega)).mono ?_; rintro e w' ⟨rfl, rfl⟩)
        go_round
        case rel =>
          have hq := HS.out
          exact ⟨s + 1, _, by omega, by go_num, rfl, by omega, by omega, HS⟩
        case measure => simp [intOf]; omega
      · have hz := Bin.ways_end W (N - W) K s (by omega)
        have HZ := Lib.hid hz
        clear hz
        go_wp2
        go_ret
        have hq := HX.out
        rw [HZ.out] at hq
        exact ⟨ret_int (by rw [HR.out]; omega), rfl⟩
  · obtain rfl : l = (L : Int) := by omega
    clear hL
    go_enter Try.func21, Try.ntmps21
    go_wp2_with (go_at_call 39; refine (smp_any _ _ _).mono ?_; rintro e w' ⟨rfl, rfl⟩)
    go_loop [9, 10] (fun o c => ∃ (s : Nat) (x : Int), L ≤ s ∧ c = .int .i64 s ∧ o = .int .i64 x ∧ 0 ≤ x ∧ x ≤ 1048576 ∧ Hid (x + (Bin.ways W (N - W) K s : Int) = (Bin.ways W (N - W) K L : Int))) (fun _ c => K + 1 - (intOf c).toNat)
    case atStart => exact ⟨L, 0, Nat.le_refl _, rfl, rfl, by omega, by omega, Int.zero_add _⟩
    case round =>
      obtain ⟨s, x, hs, rfl, rfl, hx0, hx1, HX⟩ := hrel
      by_cases hlt : s ≤ K
      · have HS := Lib.hid (wz_step N W K L s x (by omega) (by omega) HX.out)
        have hm := chz2_bd W ((N : Int) - (W : Int)) s ((K : Int) - (s : Int)) (by omega) (by omega) (by omega)
        go_wp2_with (go_at_call 37; refine (choose_any _ _ _ (by omega) (by omega) (by omega)).mono ?_; rintro e w' ⟨rfl, rfl⟩)
        go_round
        case rel =>
          have hq := HS.out
          exact ⟨s + 1, _, by omega, by go_num, rfl, by omega, by omega, HS⟩
        case measure => simp [intOf]; omega
      · have hz := Bin.ways_end W (N - W) K s (by omega)
        have HZ := Lib.hid hz
        clear hz
        go_wp2
        go_ret
        have hq := HX.out
        rw [HZ.out] at hq
        exact ⟨ret_int (by rw [HR.out]; omega), rfl⟩

end Go.Proofs.Ytjandooipgopoaa
