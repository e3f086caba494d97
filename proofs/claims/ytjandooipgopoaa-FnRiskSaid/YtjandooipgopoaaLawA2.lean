/- The walks of the laws of audits over drawn arguments: each returns true, and nothing that was there has turned. The conditions stand in each theorem. -/
import Derived.Test.YtjandooipgopoaaAud4
import Derived.Test.YtjandooipgopoaaDrawA2
namespace Go.Proofs.Ytjandooipgopoaa
open Go.RowKit Go.ChangeShapes
set_option linter.unusedVariables false

theorem chz_pos (n k : Int) (h0 : 0 ≤ n) (hk : 0 ≤ k) (h : k ≤ n) : 0 < chz n k := by
  have := Bin.C_pos n.toNat k.toNat (by omega)
  unfold chz
  omega
theorem chz_flip (n k : Int) (h0 : 0 ≤ n) (hk : 0 ≤ k) (h : k ≤ n) : chz n (n - k) = chz n k := by
  unfold chz
  have e : (n - k).toNat = n.toNat - k.toNat := by omega
  rw [e, Bin.C_flip _ _ (by omega)]
theorem chz_sum (n k : Int) (h0 : 1 ≤ n) (hk : 1 ≤ k) : chz (n - 1) k + chz (n - 1) (k - 1) = chz n k := by
  unfold chz
  obtain ⟨N, hN⟩ : ∃ N : Nat, n.toNat = N + 1 := ⟨n.toNat - 1, by omega⟩
  obtain ⟨K, hK⟩ : ∃ K : Nat, k.toNat = K + 1 := ⟨k.toNat - 1, by omega⟩
  have e1 : (n - 1).toNat = N := by omega
  have e2 : (k - 1).toNat = K := by omega
  rw [hN, hK, e1, e2, Bin.C_succ]
  omega
theorem wz_all (n wi k : Int) (h0 : 0 ≤ wi) (h : wi ≤ n) : wz n wi k 0 = chz n k := by
  unfold wz chz
  show (Bin.ways wi.toNat (n - wi).toNat k.toNat 0 : Int) = _
  rw [Bin.ways_all]
  congr 2
  omega
theorem wz_end (n wi k l : Int) (hk : 0 ≤ k) (h : k < l) : wz n wi k l = 0 := by
  unfold wz
  rw [Bin.ways_end _ _ _ _ (by omega)]
  rfl
theorem wz_anti (n wi k l : Int) : wz n wi k (l + 1) ≤ wz n wi k l := by
  unfold wz
  have := Bin.ways_anti_le wi.toNat (n - wi).toNat k.toNat l.toNat (l + 1).toNat (by omega)
  omega
theorem wz_neg (n wi k l : Int) (h : l < 0) : wz n wi k (l + 1) = wz n wi k l := by
  unfold wz
  have e : (l + 1).toNat = l.toNat := by omega
  rw [e]
theorem wz_more (n wi k l : Int) (h0 : 0 ≤ wi) (h : wi < n) : wz n wi k l ≤ wz n (wi + 1) k l := by
  unfold wz
  have := Bin.ways_mono_le n.toNat k.toNat l.toNat wi.toNat (wi + 1).toNat (by omega) (by omega)
  have e1 : (n - wi).toNat = n.toNat - wi.toNat := by omega
  have e2 : (n - (wi + 1)).toNat = n.toNat - (wi + 1).toNat := by omega
  rw [e1, e2]
  omega
theorem wz_mono (n wi wj k l : Int) (h0 : 0 ≤ wi) (h : wi ≤ wj) (hj : wj ≤ n) : wz n wi k l ≤ wz n wj k l := by
  unfold wz
  have := Bin.ways_mono_le n.toNat k.toNat l.toNat wi.toNat wj.toNat (by omega) (by omega)
  have e1 : (n - wi).toNat = n.toNat - wi.toNat := by omega
  have e2 : (n - wj).toNat = n.toNat - wj.toNat := by omega
  rw [e1, e2]
  omega
theorem wz_le (n wi k l : Int) (h0 : 0 ≤ wi) (h : wi ≤ n) : wz n wi k l ≤ chz n k := by
  unfold wz chz
  have := Bin.ways_le n.toNat wi.toNat k.toNat l.toNat (by omega)
  have e1 : (n - wi).toNat = n.toNat - wi.toNat := by omega
  rw [e1]
  omega
theorem wz_one (n wi k l : Int) (h0 : 0 ≤ wi) (h : wi ≤ n) (hk : 0 ≤ k) (hl : 0 ≤ l) (hlk : l ≤ k) : wz n wi k (l + 1) + chz wi l * chz (n - wi) (k - l) = wz n wi k l := by
  unfold wz chz
  have hs := Bin.ways_step wi.toNat (n - wi).toNat k.toNat l.toNat (by omega)
  have e1 : (l + 1).toNat = l.toNat + 1 := by omega
  have e2 : (k - l).toNat = k.toNat - l.toNat := by omega
  rw [e1, e2, hs, Int.natCast_add, Int.natCast_mul]
  omega

set_option maxHeartbeats 2000000 in
theorem FnChoose_walk (a0 : Option Addr) (len0 cap0 : Nat) (z0 : List Int) (w : World) (w0 : IsRow .u8 w a0 len0 cap0 z0) :
    Calls Try.prog 6 #[.slice a0 len0 cap0] w fun e w' => e = .returned (.bool true) ∧ Below w.heap.size w w' := by
  have hcap := w0.len_le.2.1
  have hlen := w0.len_le.1
  unfold maxLen at hcap
  by_cases hbig : 1048576 < len0
  · clear w0
    go_enter Try.func6, Try.ntmps6
    go_wp2
    go_ret
    exact ⟨rfl, Below.refl _ _⟩
  go_enter Try.func6, Try.ntmps6
  go_wp2_with fail
  refine (DrawChoose_any _ _ _ _ _ w0).mono ?_
  rintro e w1 ⟨n, k, rfl, hn, hk, hb⟩
  clear w0 hbig hcap hlen
  by_cases h1 : 0 ≤ n ∧ n ≤ 20 ∧ 0 ≤ k
  · by_cases h2 : n < k
    · have E : cz n k = 0 := (cz_in h1).trans (chz_zero n k h1.1 h2)
      clear h1
      go_wp2_with (first
      | (go_at_call 19; refine (Choose_any _ _ _).mono ?_; rintro e w' ⟨rfl, rfl⟩)
      | (go_at_call 18; refine (sChoose_any _ _ _).mono ?_; rintro e w' ⟨rfl, rfl⟩))
      go_ret
      exact ⟨rfl, hb⟩
    · have E : cz n k = chz n k := cz_in h1
      have E2 : cz n (n - k) = chz n k := (cz_in (by omega)).trans (chz_flip n k h1.1 h1.2.2 (by omega))
      have hp := chz_pos n k h1.1 h1.2.2 (by omega)
      clear h1
      go_wp2_with (first
      | (go_at_call 19; refine (Choose_any _ _ _).mono ?_; rintro e w' ⟨rfl, rfl⟩)
      | (go_at_call 18; refine (sChoose_any _ _ _).mono ?_; rintro e w' ⟨rfl, rfl⟩))
      go_ret
      exact ⟨rfl, hb⟩
  · have E : cz n k = -1 := cz_out h1
    clear h1
    go_wp2_with (first
      | (go_at_call 19; refine (Choose_any _ _ _).mono ?_; rintro e w' ⟨rfl, rfl⟩)
      | (go_at_call 18; refine (sChoose_any _ _ _).mono ?_; rintro e w' ⟨rfl, rfl⟩))
    go_ret
    exact ⟨rfl, hb⟩

set_option maxHeartbeats 2000000 in
theorem FnChooseSum_walk (a0 : Option Addr) (len0 cap0 : Nat) (z0 : List Int) (w : World) (w0 : IsRow .u8 w a0 len0 cap0 z0) :
    Calls Try.prog 7 #[.slice a0 len0 cap0] w fun e w' => e = .returned (.bool true) ∧ Below w.heap.size w w' := by
  have hcap := w0.len_le.2.1
  have hlen := w0.len_le.1
  unfold maxLen at hcap
  by_cases hbig : 1048576 < len0
  · clear w0
    go_enter Try.func7, Try.ntmps7
    go_wp2
    go_ret
    exact ⟨rfl, Below.refl _ _⟩
  go_enter Try.func7, Try.ntmps7
  go_wp2_with fail
  refine (DrawChoose_any _ _ _ _ _ w0).mono ?_
  rintro e w1 ⟨n, k, rfl, hn, hk, hb⟩
  clear w0 hbig hcap hlen
  by_cases h1 : 0 ≤ n ∧ n ≤ 20 ∧ 0 ≤ k
  · obtain ⟨g1, g2, g3⟩ := h1
    have E : cz n k = chz n k := cz_in ⟨g1, g2, g3⟩
    have hbd := chz_bd n k g2
    by_cases h2 : n = 0
    · have q1 : (n == 0) = true := by simpa using h2
      have Q := Lib.hid h2
      clear h2
      go_wp2_with (first
      | (go_at_call 19; refine (Choose_any _ _ _).mono ?_; rintro e w' ⟨rfl, rfl⟩)
      | (go_at_call 18; refine (sChoose_any _ _ _).mono ?_; rintro e w' ⟨rfl, rfl⟩))
      go_ret
      exact ⟨rfl, hb⟩
    · have q1 : (n == 0) = false := by simpa using h2
      by_cases h3 : k = 0
      · have q2 : (k == 0) = true := by simpa using h3
        have Q := Lib.hid h3
        clear h3 h2
        go_wp2_with (first
      | (go_at_call 19; refine (Choose_any _ _ _).mono ?_; rintro e w' ⟨rfl, rfl⟩)
      | (go_at_call 18; refine (sChoose_any _ _ _).mono ?_; rintro e w' ⟨rfl, rfl⟩))
        go_ret
        exact ⟨rfl, hb⟩
      · have q2 : (k == 0) = false := by simpa using h3
        have E2 : cz (n - 1) k = chz (n - 1) k := cz_in (by omega)
        have E3 : cz (n - 1) (k - 1) = chz (n - 1) (k - 1) := cz_in (by omega)
        have b2 := chz_bd (n - 1) k (by omega)
        have b3 := chz_bd (n - 1) (k - 1) (by omega)
        have E4 := chz_sum n k (by omega) (by omega)
        clear h2 h3
        go_wp2_with (first
      | (go_at_call 19; refine (Choose_any _ _ _).mono ?_; rintro e w' ⟨rfl, rfl⟩)
      | (go_at_call 18; refine (sChoose_any _ _ _).mono ?_; rintro e w' ⟨rfl, rfl⟩))
        go_ret
        exact ⟨rfl, hb⟩
  · have E : cz n k = -1 := cz_out h1
    clear h1
    go_wp2_with (first
      | (go_at_call 19; refine (Choose_any _ _ _).mono ?_; rintro e w' ⟨rfl, rfl⟩)
      | (go_at_call 18; refine (sChoose_any _ _ _).mono ?_; rintro e w' ⟨rfl, rfl⟩))
    go_ret
    exact ⟨rfl, hb⟩

set_option maxHeartbeats 2000000 in
theorem FnWaysMore_walk (a0 : Option Addr) (len0 cap0 : Nat) (z0 : List Int) (w : World) (w0 : IsRow .u8 w a0 len0 cap0 z0) :
    Calls Try.prog 9 #[.slice a0 len0 cap0] w fun e w' => e = .returned (.bool true) ∧ Below w.heap.size w w' := by
  have hcap := w0.len_le.2.1
  have hlen := w0.len_le.1
  unfold maxLen at hcap
  by_cases hbig : 1048576 < len0
  · clear w0
    go_enter Try.func9, Try.ntmps9
    go_wp2
    go_ret
    exact ⟨rfl, Below.refl _ _⟩
  go_enter Try.func9, Try.ntmps9
  go_wp2_with fail
  refine (DrawAuditWays_any _ _ _ _ _ w0).mono ?_
  rintro e w1 ⟨n, wi, k, l, rfl, hn, hw, hk, hl, hb⟩
  clear w0 hbig hcap hlen
  by_cases h1 : okW n wi k
  · have E : aw n wi k l = wz n wi k l := aw_in l h1
    obtain ⟨g1, g2, g3, g4, g5, g6⟩ := h1
    have hbd := wz_bd n wi k l g3 g4 g2
    by_cases h2 : wi = n
    · have q1 : (wi == n) = true := by simpa using h2
      have Q := Lib.hid h2
      clear h2
      go_wp2_with (first
      | (go_at_call 21; refine (AuditWays_any _ _ _ _ _).mono ?_; rintro e w' ⟨rfl, rfl⟩)
      | (go_at_call 20; refine (sAuditWays_any _ _ _ _ _).mono ?_; rintro e w' ⟨rfl, rfl⟩))
      go_ret
      exact ⟨rfl, hb⟩
    · have q1 : (wi == n) = false := by simpa using h2
      have E2 : aw n (wi + 1) k l = wz n (wi + 1) k l := aw_in l ⟨g1, g2, by omega, by omega, g5, g6⟩
      have hm := wz_more n wi k l g3 (by omega)
      clear h2
      go_wp2_with (first
      | (go_at_call 21; refine (AuditWays_any _ _ _ _ _).mono ?_; rintro e w' ⟨rfl, rfl⟩)
      | (go_at_call 20; refine (sAuditWays_any _ _ _ _ _).mono ?_; rintro e w' ⟨rfl, rfl⟩))
      go_ret
      exact ⟨rfl, hb⟩
  · have E : aw n wi k l = -1 := aw_out l h1
    clear h1
    go_wp2_with (first
      | (go_at_call 21; refine (AuditWays_any _ _ _ _ _).mono ?_; rintro e w' ⟨rfl, rfl⟩)
      | (go_at_call 20; refine (sAuditWays_any _ _ _ _ _).mono ?_; rintro e w' ⟨rfl, rfl⟩))
    go_ret
    exact ⟨rfl, hb⟩

set_option maxHeartbeats 2000000 in
theorem FnWays_walk (a0 : Option Addr) (len0 cap0 : Nat) (z0 : List Int) (w : World) (w0 : IsRow .u8 w a0 len0 cap0 z0) :
    Calls Try.prog 10 #[.slice a0 len0 cap0] w fun e w' => e = .returned (.bool true) ∧ Below w.heap.size w w' := by
  have hcap := w0.len_le.2.1
  have hlen := w0.len_le.1
  unfold maxLen at hcap
  by_cases hbig : 1048576 < len0
  · clear w0
    go_enter Try.func10, Try.ntmps10
    go_wp2
    go_ret
    exact ⟨rfl, Below.refl _ _⟩
  go_enter Try.func10, Try.ntmps10
  go_wp2_with fail
  refine (DrawAuditWays_any _ _ _ _ _ w0).mono ?_
  rintro e w1 ⟨n, wi, k, l, rfl, hn, hw, hk, hl, hb⟩
  clear w0 hbig hcap hlen
  by_cases h1 : okW n wi k
  · have E : aw n wi k l = wz n wi k l := aw_in l h1
    have E2 : aw n wi k 0 = chz n k := (aw_in 0 h1).trans (wz_all n wi k h1.2.2.1 h1.2.2.2.1)
    have E3 : aw n wi k (k + 1) = 0 := (aw_in (k + 1) h1).trans (wz_end n wi k (k + 1) h1.2.2.2.2.1 (by omega))
    have E4 : aw n wi k (l + 1) = wz n wi k (l + 1) := aw_in (l + 1) h1
    have E5 : cz n k = chz n k := cz_in ⟨by have := h1.1; omega, h1.2.1, h1.2.2.2.2.1⟩
    have hm := wz_anti n wi k l
    obtain ⟨g1, g2, g3, g4, g5, g6⟩ := h1
    have hbd := wz_bd n wi k l g3 g4 g2
    go_wp2_with (first
      | (go_at_call 21; refine (AuditWays_any _ _ _ _ _).mono ?_; rintro e w' ⟨rfl, rfl⟩)
      | (go_at_call 20; refine (sAuditWays_any _ _ _ _ _).mono ?_; rintro e w' ⟨rfl, rfl⟩)
      | (go_at_call 19; refine (Choose_any _ _ _).mono ?_; rintro e w' ⟨rfl, rfl⟩))
    go_ret
    exact ⟨rfl, hb⟩
  · have E : aw n wi k l = -1 := aw_out l h1
    clear h1
    go_wp2_with (first
      | (go_at_call 21; refine (AuditWays_any _ _ _ _ _).mono ?_; rintro e w' ⟨rfl, rfl⟩)
      | (go_at_call 20; refine (sAuditWays_any _ _ _ _ _).mono ?_; rintro e w' ⟨rfl, rfl⟩)
      | (go_at_call 19; refine (Choose_any _ _ _).mono ?_; rintro e w' ⟨rfl, rfl⟩))
    go_ret
    exact ⟨rfl, hb⟩

set_option maxHeartbeats 2000000 in
theorem FnWaysStep_walk (a0 : Option Addr) (len0 cap0 : Nat) (z0 : List Int) (w : World) (w0 : IsRow .u8 w a0 len0 cap0 z0) :
    Calls Try.prog 11 #[.slice a0 len0 cap0] w fun e w' => e = .returned (.bool true) ∧ Below w.heap.size w w' := by
  have hcap := w0.len_le.2.1
  have hlen := w0.len_le.1
  unfold maxLen at hcap
  by_cases hbig : 1048576 < len0
  · clear w0
    go_enter Try.func11, Try.ntmps11
    go_wp2
    go_ret
    exact ⟨rfl, Below.refl _ _⟩
  go_enter Try.func11, Try.ntmps11
  go_wp2_with fail
  refine (DrawAuditWays_any _ _ _ _ _ w0).mono ?_
  rintro e w1 ⟨n, wi, k, l, rfl, hn, hw, hk, hl, hb⟩
  clear w0 hbig hcap hlen
  by_cases h1 : okW n wi k
  · have E : aw n wi k l = wz n wi k l := aw_in l h1
    have E4 : aw n wi k (l + 1) = wz n wi k (l + 1) := aw_in (l + 1) h1
    obtain ⟨g1, g2, g3, g4, g5, g6⟩ := h1
    have hbd := wz_bd n wi k l g3 g4 g2
    by_cases h2 : l < 0
    · have E5 := wz_neg n wi k l h2
      go_wp2_with (first
      | (go_at_call 21; refine (AuditWays_any _ _ _ _ _).mono ?_; rintro e w' ⟨rfl, rfl⟩)
      | (go_at_call 20; refine (sAuditWays_any _ _ _ _ _).mono ?_; rintro e w' ⟨rfl, rfl⟩)
      | (go_at_call 19; refine (Choose_any _ _ _).mono ?_; rintro e w' ⟨rfl, rfl⟩))
      go_ret
      exact ⟨rfl, hb⟩
    · by_cases h3 : k < l
      · have E5 := wz_end n wi k l g5 h3
        have E6 := wz_end n wi k (l + 1) g5 (by omega)
        go_wp2_with (first
      | (go_at_call 21; refine (AuditWays_any _ _ _ _ _).mono ?_; rintro e w' ⟨rfl, rfl⟩)
      | (go_at_call 20; refine (sAuditWays_any _ _ _ _ _).mono ?_; rintro e w' ⟨rfl, rfl⟩)
      | (go_at_call 19; refine (Choose_any _ _ _).mono ?_; rintro e w' ⟨rfl, rfl⟩))
        go_ret
        exact ⟨rfl, hb⟩
      · have E5 : cz wi l = chz wi l := cz_in (by omega)
        have E6 : cz (n - wi) (k - l) = chz (n - wi) (k - l) := cz_in (by omega)
        have E7 := wz_one n wi k l g3 g4 g5 (by omega) (by omega)
        have hp := chz2_bd wi (n - wi) l (k - l) g3 (by omega) (by omega)
        have hb2 := wz_bd n wi k (l + 1) g3 g4 g2
        go_wp2_with (first
      | (go_at_call 21; refine (AuditWays_any _ _ _ _ _).mono ?_; rintro e w' ⟨rfl, rfl⟩)
      | (go_at_call 20; refine (sAuditWays_any _ _ _ _ _).mono ?_; rintro e w' ⟨rfl, rfl⟩)
      | (go_at_call 19; refine (Choose_any _ _ _).mono ?_; rintro e w' ⟨rfl, rfl⟩))
        go_ret
        exact ⟨rfl, hb⟩
  · have E : aw n wi k l = -1 := aw_out l h1
    clear h1
    go_wp2_with (first
      | (go_at_call 21; refine (AuditWays_any _ _ _ _ _).mono ?_; rintro e w' ⟨rfl, rfl⟩)
      | (go_at_call 20; refine (sAuditWays_any _ _ _ _ _).mono ?_; rintro e w' ⟨rfl, rfl⟩)
      | (go_at_call 19; refine (Choose_any _ _ _).mono ?_; rintro e w' ⟨rfl, rfl⟩))
    go_ret
    exact ⟨rfl, hb⟩

end Go.Proofs.Ytjandooipgopoaa
