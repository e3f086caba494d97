/- What the functions of the audits return, the reference's and the program's: numbers of ways, of samples, risks and limits, as the plain functions of Bin give them. The conditions stand in each theorem. -/
import Derived.Test.YtjandooipgopoaaProg
import Derived.Test.YtjandooipgopoaaMath
import Derived.WalkKit
import Derived.WalkLawsBesides
import Derived.WalkSpells
import Derived.Below
import Derived.Lib.Hide
import Derived.Outline
namespace Go.Proofs.Ytjandooipgopoaa
open Go.RowKit Go.ChangeShapes

theorem ret_int {k : IntKind} {a b : Int} (h : a = b) : Ending.returned (.int k a) = .returned (.int k b) := by rw [h]

def chz (n k : Int) : Int := (Bin.C n.toNat k.toNat : Int)
theorem chz_bd (n k : Int) (h : n ≤ 20) : 0 ≤ chz n k ∧ chz n k ≤ 1048576 := by
  have := Bin.C_le20 n.toNat k.toNat (by omega)
  unfold chz
  omega
theorem chz_zero (n k : Int) (h0 : 0 ≤ n) (h : n < k) : chz n k = 0 := by
  unfold chz
  rw [Bin.C_lt _ _ (by omega)]
  rfl
theorem mul_bd {x y m n : Int} (hx : 0 ≤ x) (hx' : x ≤ m) (hy : 0 ≤ y) (hy' : y ≤ n) : 0 ≤ x * y ∧ x * y ≤ m * n :=
  ⟨Int.mul_nonneg hx hy, Int.mul_le_mul hx' hy' hy (by omega)⟩
theorem chz2_bd (a b i j : Int) (ha : 0 ≤ a) (hb : 0 ≤ b) (h : a + b ≤ 20) : 0 ≤ chz a i * chz b j ∧ chz a i * chz b j ≤ 1048576 := by
  have h1 := Bin.CC_le20 a.toNat b.toNat i.toNat j.toNat (by omega)
  unfold chz
  rw [← Int.natCast_mul]
  omega

theorem choose_step (N j : Nat) (x : Int) (h : x = (Bin.C N j : Int)) (hj : j ≤ N) : x * ((N : Int) - (j : Int)) / ((j : Int) + 1) = (Bin.C N (j + 1) : Int) := by
  have ha := Bin.absorb N j
  have e : ((N : Int) - (j : Int)) = ((N - j : Nat) : Int) := by omega
  rw [h, e, ← Int.natCast_mul, ← ha, Int.natCast_mul]
  have e2 : ((j + 1 : Nat) : Int) = (j : Int) + 1 := by omega
  rw [e2]
  exact Int.mul_ediv_cancel _ (by omega)

set_option maxHeartbeats 400000 in
theorem choose_any (n k : Int) (w : World) (hn0 : 0 ≤ n) (hn : n ≤ 20) (hk : 0 ≤ k) :
    Calls Try.prog 37 #[.int .i64 n, .int .i64 k] w fun e w' => e = .returned (.int .i64 (chz n k)) ∧ w = w' := by
  by_cases hkn : n < k
  · go_enter Try.func37, Try.ntmps37
    go_wp2
    go_ret
    exact ⟨ret_int (chz_zero n k hn0 hkn).symm, rfl⟩
  · obtain ⟨N, rfl⟩ := Int.eq_ofNat_of_zero_le hn0
    obtain ⟨K, rfl⟩ := Int.eq_ofNat_of_zero_le hk
    go_enter Try.func37, Try.ntmps37
    go_wp2
    go_loop [5, 11] (fun o c => ∃ (j : Nat) (x : Int), j ≤ K ∧ c = .int .i64 j ∧ o = .int .i64 x ∧ 0 ≤ x ∧ x ≤ 1048576 ∧ Hid (x = (Bin.C N j : Int))) (fun _ c => K - (intOf c).toNat)
    case atStart => exact ⟨0, 1, Nat.zero_le _, rfl, rfl, by omega, by omega, by rw [Bin.C_zero]; rfl⟩
    case round =>
      obtain ⟨j, x, hj, rfl, rfl, hx0, hx1, HX⟩ := hrel
      have hm := mul_bd (x := x) (y := (N : Int) - (j : Int)) hx0 hx1 (by omega) (by omega : (N : Int) - (j : Int) ≤ 20)
      by_cases hlt : j < K
      · have HS := Lib.hid (choose_step N j x HX.out (by omega))
        have hb := Bin.C_le20 N (j + 1) (by omega)
        go_wp2
        go_round
        case rel => exact ⟨j + 1, _, by omega, by go_num, rfl, by rw [HS.out]; omega, by rw [HS.out]; omega, HS.out⟩
        case measure => simp [intOf]; omega
      · go_wp2
        go_ret
        obtain rfl : j = K := by omega
        exact ⟨ret_int HX.out, rfl⟩

theorem in_yes (a lo hi : Int) (w : World) (h1 : lo ≤ a) (h2 : a ≤ hi) :
    Calls Try.prog 35 #[.int .i64 a, .int .i64 lo, .int .i64 hi] w fun e w' => e = .returned (.bool true) ∧ w = w' := by
  have d1 : decide (lo ≤ a) = true := by simpa using h1
  have d2 : decide (a ≤ hi) = true := by simpa using h2
  go_enter Try.func35, Try.ntmps35
  go_wp2
  go_ret
  exact ⟨rfl, rfl⟩
theorem in_no (a lo hi : Int) (w : World) (h : a < lo ∨ hi < a) :
    Calls Try.prog 35 #[.int .i64 a, .int .i64 lo, .int .i64 hi] w fun e w' => e = .returned (.bool false) ∧ w = w' := by
  by_cases h1 : lo ≤ a
  · have d1 : decide (lo ≤ a) = true := by simpa using h1
    have d2 : decide (a ≤ hi) = false := by simp; omega
    clear h
    go_enter Try.func35, Try.ntmps35
    go_wp2
    go_ret
    exact ⟨rfl, rfl⟩
  · have d1 : decide (lo ≤ a) = false := by simpa using h1
    clear h
    go_enter Try.func35, Try.ntmps35
    go_wp2
    go_ret
    exact ⟨rfl, rfl⟩

theorem lchoose_step (M j : Nat) (x : Int) (h : x = (Bin.C (M + j) j : Int)) : x * ((M : Int) + ((j : Int) + 1)) / ((j : Int) + 1) = (Bin.C (M + (j + 1)) (j + 1) : Int) := by
  have ha := Bin.grow (M + j) j (by omega)
  have e : ((M : Int) + ((j : Int) + 1)) = ((M + j + 1 : Nat) : Int) := by omega
  rw [h, e, ← Int.natCast_mul, ← ha, Int.natCast_mul]
  have e2 : ((j + 1 : Nat) : Int) = (j : Int) + 1 := by omega
  rw [e2]
  exact Int.mul_ediv_cancel _ (by omega)

set_option maxHeartbeats 400000 in
theorem lchoose_any (n k : Int) (w : World) (hn0 : 0 ≤ n) (hn : n ≤ 20) (hk : 0 ≤ k) :
    Calls Try.prog 36 #[.int .i64 n, .int .i64 k] w fun e w' => e = .returned (.int .i64 (chz n k)) ∧ w = w' := by
  by_cases hkn : n < k
  · go_enter Try.func36, Try.ntmps36
    go_wp2_with (go_at_call 35; refine (in_no _ _ _ _ (by omega)).mono ?_; rintro e w' ⟨rfl, rfl⟩)
    go_ret
    exact ⟨ret_int (chz_zero n k hn0 hkn).symm, rfl⟩
  · obtain ⟨K, rfl⟩ := Int.eq_ofNat_of_zero_le hk
    obtain ⟨M, hM⟩ : ∃ M : Nat, n = (M : Int) + (K : Int) := ⟨(n - K).toNat, by omega⟩
    subst hM
    go_enter Try.func36, Try.ntmps36
    go_wp2_with (go_at_call 35; refine (in_yes _ _ _ _ (by omega) (by omega)).mono ?_; rintro e w' ⟨rfl, rfl⟩)
    go_loop [5, 6] (fun o c => ∃ (j : Nat) (x : Int), j ≤ K ∧ c = .int .i64 ((j : Int) + 1) ∧ o = .int .i64 x ∧ 0 ≤ x ∧ x ≤ 1048576 ∧ Hid (x = (Bin.C (M + j) j : Int))) (fun _ c => K + 1 - (intOf c).toNat)
    case atStart => exact ⟨0, 1, Nat.zero_le _, rfl, rfl, by omega, by omega, by rw [Bin.C_zero]; rfl⟩
    case round =>
      obtain ⟨j, x, hj, rfl, rfl, hx0, hx1, HX⟩ := hrel
      have hm := mul_bd (x := x) (y := (M : Int) + ((j : Int) + 1)) hx0 hx1 (by omega) (by omega : _ ≤ (40 : Int))
      by_cases hlt : j < K
      · have HS := Lib.hid (lchoose_step M j x HX.out)
        have hb := Bin.C_le20 (M + (j + 1)) (j + 1) (by omega)
        go_wp2
        go_round
        case rel => exact ⟨j + 1, _, by omega, by go_num, rfl, by rw [HS.out]; omega, by rw [HS.out]; omega, HS.out⟩
        case measure => simp [intOf]; omega
      · go_wp2
        go_ret
        obtain rfl : j = K := by omega
        exact ⟨ret_int (by rw [HX.out]; unfold chz; congr 2), rfl⟩


def cz (n k : Int) : Int := if 0 ≤ n ∧ n ≤ 20 ∧ 0 ≤ k then chz n k else -1
theorem cz_in {n k : Int} (h : 0 ≤ n ∧ n ≤ 20 ∧ 0 ≤ k) : cz n k = chz n k := if_pos h
theorem cz_out {n k : Int} (h : ¬ (0 ≤ n ∧ n ≤ 20 ∧ 0 ≤ k)) : cz n k = -1 := if_neg h

set_option maxHeartbeats 400000 in
theorem Choose_any (n k : Int) (w : World) :
    Calls Try.prog 19 #[.int .i64 n, .int .i64 k] w fun e w' => e = .returned (.int .i64 (cz n k)) ∧ w = w' := by
  by_cases h1 : n < 0
  · have E := cz_out (n := n) (k := k) (by omega)
    have H := Lib.hid E
    clear E
    go_enter Try.func19, Try.ntmps19
    go_wp2
    go_ret
    exact ⟨ret_int H.out.symm, rfl⟩
  by_cases h2 : 20 < n
  · have E := cz_out (n := n) (k := k) (by omega)
    have H := Lib.hid E
    clear E
    go_enter Try.func19, Try.ntmps19
    go_wp2
    go_ret
    exact ⟨ret_int H.out.symm, rfl⟩
  by_cases h3 : k < 0
  · have E := cz_out (n := n) (k := k) (by omega)
    have H := Lib.hid E
    clear E
    go_enter Try.func19, Try.ntmps19
    go_wp2
    go_ret
    exact ⟨ret_int H.out.symm, rfl⟩
  · have E := cz_in (n := n) (k := k) (by omega)
    have H := Lib.hid E
    clear E
    go_enter Try.func19, Try.ntmps19
    go_wp2_with (go_at_call 37; refine (choose_any _ _ _ (by omega) (by omega) (by omega)).mono ?_; rintro e w' ⟨rfl, rfl⟩)
    go_ret
    exact ⟨ret_int H.out.symm, rfl⟩

set_option maxHeartbeats 400000 in
theorem sChoose_any (n k : Int) (w : World) :
    Calls Try.prog 18 #[.int .i64 n, .int .i64 k] w fun e w' => e = .returned (.int .i64 (cz n k)) ∧ w = w' := by
  by_cases h1 : n < 0 ∨ 20 < n
  · have E := cz_out (n := n) (k := k) (by omega)
    have H := Lib.hid E
    have H1 := Lib.hid h1
    clear E h1
    go_enter Try.func18, Try.ntmps18
    go_wp2_with (go_at_call 35; refine (in_no _ _ _ _ H1.out).mono ?_; rintro e w' ⟨rfl, rfl⟩)
    go_ret
    exact ⟨ret_int H.out.symm, rfl⟩
  by_cases h3 : k < 0
  · have E := cz_out (n := n) (k := k) (by omega)
    have H := Lib.hid E
    have g1 : 0 ≤ n := by omega
    have g2 : n ≤ 20 := by omega
    clear E h1
    go_enter Try.func18, Try.ntmps18
    go_wp2_with (go_at_call 35; refine (in_yes _ _ _ _ (by omega) (by omega)).mono ?_; rintro e w' ⟨rfl, rfl⟩)
    go_ret
    exact ⟨ret_int H.out.symm, rfl⟩
  · have E := cz_in (n := n) (k := k) (by omega)
    have H := Lib.hid E
    have g1 : 0 ≤ n := by omega
    have g2 : n ≤ 20 := by omega
    clear E h1
    go_enter Try.func18, Try.ntmps18
    go_wp2_with (first
      | (go_at_call 35; refine (in_yes _ _ _ _ (by omega) (by omega)).mono ?_; rintro e w' ⟨rfl, rfl⟩)
      | (go_at_call 36; refine (lchoose_any _ _ _ (by omega) (by omega) (by omega)).mono ?_; rintro e w' ⟨rfl, rfl⟩))
    go_ret
    exact ⟨ret_int H.out.symm, rfl⟩

end Go.Proofs.Ytjandooipgopoaa
