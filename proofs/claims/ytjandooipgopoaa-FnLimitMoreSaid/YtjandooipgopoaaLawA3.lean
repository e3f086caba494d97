/- The laws on risks and limits of audits: FnRisk, FnLimit, FnLimitMore and FnLimitAll return true and leave all that was there as it was. The conditions stand in each theorem. -/
import Derived.Test.YtjandooipgopoaaLawA2
namespace Go.Proofs.Ytjandooipgopoaa
open Go.RowKit Go.ChangeShapes
set_option linter.unusedVariables false

theorem fit_le {n k num den : Int} {s : Nat} (h : fitB n k num den s = true) : wz n (n / 2) k s * den ≤ num * chz n k := by simpa [fitB] using h
theorem fit_gt {n k num den : Int} {s : Nat} (h : fitB n k num den s = false) : num * chz n k < wz n (n / 2) k s * den := by simpa [fitB] using h
theorem lz_more {n k num den : Int} (h : okL n k num den) (hlt : num < den) : lz n k (num + 1) den ≤ lz n k num den := by
  have h1 := li_spec h
  have h2 := li_spec (n := n) (k := k) (num := num + 1) (den := den) (by unfold okL at *; omega)
  by_cases hc : lz n k (num + 1) den ≤ lz n k num den
  · exact hc
  · have hf := fit_gt (h2.2.2 _ (Nat.lt_of_not_le hc))
    have ht := fit_le h1.1
    have hb := (chz_bd n k h.2.1).1
    rw [Int.add_mul] at hf
    omega
theorem lz_full {n num den : Int} (h : okL n n num den) (hlt : num < den) : (lz n n num den : Int) = n / 2 + 1 := by
  obtain ⟨g1, g2, g3, g4, g5, g6, g7, g8⟩ := h
  obtain ⟨K, hK⟩ := Int.eq_ofNat_of_zero_le (show 0 ≤ n by omega)
  have full : ∀ s : Nat, wz n (n / 2) n s = if (s : Int) ≤ n / 2 then 1 else 0 := by
    intro s
    have hw := Bin.ways_full (n / 2).toNat (n - n / 2).toNat s
    have e1 : (n / 2).toNat + (n - n / 2).toNat = n.toNat := by omega
    rw [e1] at hw
    unfold wz
    rw [Int.toNat_natCast, hw]
    by_cases hs : (s : Int) ≤ n / 2
    · rw [if_pos hs, if_pos (by omega)]; rfl
    · rw [if_neg hs, if_neg (by omega)]; rfl
  have c1 : chz n n = 1 := by
    unfold chz
    rw [Bin.C_self]
    rfl
  have p1 : ∀ t, t < (n / 2).toNat + 1 → fitB n n num den t = false := by
    intro t ht
    unfold fitB
    rw [full, c1, if_pos (by omega)]
    simp
    omega
  have p2 : fitB n n num den ((n / 2).toNat + 1) = true := by
    unfold fitB
    rw [full, c1, if_neg (by omega)]
    simp
    omega
  rw [lz_eq K ((n / 2).toNat + 1) hK (by omega) p1 p2]
  omega
theorem fit_all {n k num den wi : Int} {s : Nat} (h : fitB n k num den s = true) (h0 : 0 ≤ wi) (h1 : wi ≤ n / 2) (hn : 1 ≤ n) (hd : 1 ≤ den) : wz n wi k s * den ≤ num * chz n k := by
  have h2 := fit_le h
  have h3 := wz_mono n wi (n / 2) k s h0 h1 (by omega)
  exact Int.le_trans (Int.mul_le_mul_of_nonneg_right h3 (by omega)) h2

set_option maxHeartbeats 2000000 in
theorem FnRisk_walk (a0 : Option Addr) (len0 cap0 : Nat) (z0 : List Int) (w : World) (w0 : IsRow .u8 w a0 len0 cap0 z0) :
    Calls Try.prog 12 #[.slice a0 len0 cap0] w fun e w' => e = .returned (.bool true) ∧ Below w.heap.size w w' := by
  have hcap := w0.len_le.2.1
  have hlen := w0.len_le.1
  unfold maxLen at hcap
  by_cases hbig : 1048576 < len0
  · clear w0
    go_enter Try.func12, Try.ntmps12
    go_wp2
    go_ret
    exact ⟨rfl, Below.refl _ _⟩
  go_enter Try.func12, Try.ntmps12
  go_wp2_with fail
  refine (DrawAuditRisk_any _ _ _ _ _ w0).mono ?_
  rintro e w1 ⟨n, k, l, rfl, hn, hk, hl, hb⟩
  clear w0 hbig hcap hlen
  by_cases h1 : okR n k
  · have E : ra n k l = wz n (n / 2) k l := ra_in l h1
    have E2 : rb n k = chz n k := rb_in h1
    obtain ⟨g1, g2, g3, g4⟩ := h1
    have hbd := wz_bd n (n / 2) k l (by omega) (by omega) g2
    have hcb := chz_bd n k g2
    go_wp2_with (first
      | (go_at_call 23; refine (AuditRisk_any _ _ _ _).mono ?_; rintro e w' ⟨rfl, rfl⟩)
      | (go_at_call 22; refine (sAuditRisk_any _ _ _ _).mono ?_; rintro e w' ⟨rfl, rfl⟩))
    go_loop [10] (fun c => ∃ j : Nat, (j : Int) ≤ n / 2 + 1 ∧ c = .int .i64 j) (fun c => 12 - (intOf c).toNat)
    case atStart => exact ⟨0, by omega, rfl⟩
    case round =>
      obtain ⟨j, hj, rfl⟩ := hrel
      by_cases hlt : (j : Int) ≤ n / 2
      · have E3 : aw n j k l = wz n j k l := aw_in l ⟨g1, g2, by omega, by omega, g3, g4⟩
        have hm := wz_mono n j (n / 2) k l (by omega) hlt (by omega)
        go_wp2_with (go_at_call 21; refine (AuditWays_any _ _ _ _ _).mono ?_; rintro e w' ⟨rfl, rfl⟩)
        go_round
        case rel => exact ⟨j + 1, by omega, by go_num⟩
        case measure => simp [intOf]; omega
      · have E3 : aw n (n / 2) k l = wz n (n / 2) k l := aw_in l ⟨g1, g2, by omega, by omega, g3, g4⟩
        have E4 : cz n k = chz n k := cz_in ⟨by omega, g2, g3⟩
        have hm := wz_le n (n / 2) k l (by omega) (by omega)
        go_wp2_with (first
          | (go_at_call 21; refine (AuditWays_any _ _ _ _ _).mono ?_; rintro e w' ⟨rfl, rfl⟩)
          | (go_at_call 19; refine (Choose_any _ _ _).mono ?_; rintro e w' ⟨rfl, rfl⟩))
        go_ret
        exact ⟨rfl, hb⟩
  · have E : ra n k l = -1 := ra_out l h1
    have E2 : rb n k = -1 := rb_out h1
    clear h1
    go_wp2_with (first
      | (go_at_call 23; refine (AuditRisk_any _ _ _ _).mono ?_; rintro e w' ⟨rfl, rfl⟩)
      | (go_at_call 22; refine (sAuditRisk_any _ _ _ _).mono ?_; rintro e w' ⟨rfl, rfl⟩))
    go_ret
    exact ⟨rfl, hb⟩

set_option maxHeartbeats 2000000 in
theorem FnLimit_walk (a0 : Option Addr) (len0 cap0 : Nat) (z0 : List Int) (w : World) (w0 : IsRow .u8 w a0 len0 cap0 z0) :
    Calls Try.prog 13 #[.slice a0 len0 cap0] w fun e w' => e = .returned (.bool true) ∧ Below w.heap.size w w' := by
  have hcap := w0.len_le.2.1
  have hlen := w0.len_le.1
  unfold maxLen at hcap
  by_cases hbig : 1048576 < len0
  · clear w0
    go_enter Try.func13, Try.ntmps13
    go_wp2
    go_ret
    exact ⟨rfl, Below.refl _ _⟩
  go_enter Try.func13, Try.ntmps13
  go_wp2_with fail
  refine (DrawAuditLimit_any _ _ _ _ _ w0).mono ?_
  rintro e w1 ⟨n, k, num, den, rfl, hn, hk, hnum, hden, hb⟩
  clear w0 hbig hcap hlen
  by_cases h1 : okL n k num den
  · have E : li n k num den = (lz n k num den : Int) := li_in h1
    have d0 := fit_le (li_spec h1).1
    have d1 := (li_spec h1).2.1
    have HX := Lib.hid (li_spec h1).2.2
    generalize lz n k num den = L at *
    obtain ⟨g1, g2, g3, g4, g5, g6, g7, g8⟩ := h1
    have F1 : ra n k L = wz n (n / 2) k L := ra_in _ ⟨g1, g2, g3, g4⟩
    have F2 : rb n k = chz n k := rb_in ⟨g1, g2, g3, g4⟩
    have hp := prods n k num den L g1 g2 g5 g6 g7 g8
    go_wp2_with (first
      | (go_at_call 26; refine (AuditLimit_any _ _ _ _ _).mono ?_; rintro e w' ⟨rfl, rfl⟩)
      | (go_at_call 25; refine (sAuditLimit_any _ _ _ _ _).mono ?_; rintro e w' ⟨rfl, rfl⟩)
      | (go_at_call 23; refine (AuditRisk_any _ _ _ _).mono ?_; rintro e w' ⟨rfl, rfl⟩))
    go_loop [11] (fun c => ∃ j : Nat, j ≤ L ∧ c = .int .i64 j) (fun c => L - (intOf c).toNat)
    case atStart => exact ⟨0, by omega, rfl⟩
    case round =>
      obtain ⟨j, hj, rfl⟩ := hrel
      by_cases hlt : j < L
      · have F3 : ra n k j = wz n (n / 2) k j := ra_in _ ⟨g1, g2, g3, g4⟩
        have hf := fit_gt (HX.out j hlt)
        have hq := prods n k num den j g1 g2 g5 g6 g7 g8
        go_wp2_with (go_at_call 23; refine (AuditRisk_any _ _ _ _).mono ?_; rintro e w' ⟨rfl, rfl⟩)
        go_round
        case rel => exact ⟨j + 1, by omega, by go_num⟩
        case measure => simp [intOf]; omega
      · have q1 : decide (0 ≤ (L : Int)) = true := by simp
        go_wp2
        go_ret
        exact ⟨rfl, hb⟩
  · have E : li n k num den = -1 := li_out h1
    clear h1
    go_wp2_with (first
      | (go_at_call 26; refine (AuditLimit_any _ _ _ _ _).mono ?_; rintro e w' ⟨rfl, rfl⟩)
      | (go_at_call 25; refine (sAuditLimit_any _ _ _ _ _).mono ?_; rintro e w' ⟨rfl, rfl⟩))
    go_ret
    exact ⟨rfl, hb⟩

set_option maxHeartbeats 2000000 in
theorem FnLimitMore_walk (a0 : Option Addr) (len0 cap0 : Nat) (z0 : List Int) (w : World) (w0 : IsRow .u8 w a0 len0 cap0 z0) :
    Calls Try.prog 14 #[.slice a0 len0 cap0] w fun e w' => e = .returned (.bool true) ∧ Below w.heap.size w w' := by
  have hcap := w0.len_le.2.1
  have hlen := w0.len_le.1
  unfold maxLen at hcap
  by_cases hbig : 1048576 < len0
  · clear w0
    go_enter Try.func14, Try.ntmps14
    go_wp2
    go_ret
    exact ⟨rfl, Below.refl _ _⟩
  go_enter Try.func14, Try.ntmps14
  go_wp2_with fail
  refine (DrawAuditLimit_any _ _ _ _ _ w0).mono ?_
  rintro e w1 ⟨n, k, num, den, rfl, hn, hk, hnum, hden, hb⟩
  clear w0 hbig hcap hlen
  by_cases h1 : okL n k num den
  · have E : li n k num den = (lz n k num den : Int) := li_in h1
    by_cases h2 : num = den
    · have q1 : (num == den) = true := by simpa using h2
      clear h1 h2
      generalize lz n k num den = L at *
      go_wp2_with (first
      | (go_at_call 26; refine (AuditLimit_any _ _ _ _ _).mono ?_; rintro e w' ⟨rfl, rfl⟩)
      | (go_at_call 25; refine (sAuditLimit_any _ _ _ _ _).mono ?_; rintro e w' ⟨rfl, rfl⟩))
      go_ret
      exact ⟨rfl, hb⟩
    · have q1 : (num == den) = false := by simpa using h2
      have hlt : num < den := by have := h1.2.2.2.2.2.2.2; omega
      have h3 : okL n k (num + 1) den := by unfold okL at *; omega
      have h4 : okL n n num den := by unfold okL at *; omega
      have E2 : li n k (num + 1) den = (lz n k (num + 1) den : Int) := li_in h3
      have E3 : li n n num den = n / 2 + 1 := (li_in h4).trans (lz_full h4 hlt)
      have hm := lz_more h1 hlt
      have g1 := h1.1
      have g2 := h1.2.1
      clear h1 h2 h3 h4
      generalize lz n k num den = L at *
      generalize lz n k (num + 1) den = M at *
      go_wp2_with (first
      | (go_at_call 26; refine (AuditLimit_any _ _ _ _ _).mono ?_; rintro e w' ⟨rfl, rfl⟩)
      | (go_at_call 25; refine (sAuditLimit_any _ _ _ _ _).mono ?_; rintro e w' ⟨rfl, rfl⟩))
      go_ret
      exact ⟨rfl, hb⟩
  · have E : li n k num den = -1 := li_out h1
    clear h1
    go_wp2_with (first
      | (go_at_call 26; refine (AuditLimit_any _ _ _ _ _).mono ?_; rintro e w' ⟨rfl, rfl⟩)
      | (go_at_call 25; refine (sAuditLimit_any _ _ _ _ _).mono ?_; rintro e w' ⟨rfl, rfl⟩))
    go_ret
    exact ⟨rfl, hb⟩

set_option maxHeartbeats 2000000 in
theorem FnLimitAll_walk (a0 : Option Addr) (len0 cap0 : Nat) (z0 : List Int) (w : World) (w0 : IsRow .u8 w a0 len0 cap0 z0) :
    Calls Try.prog 15 #[.slice a0 len0 cap0] w fun e w' => e = .returned (.bool true) ∧ Below w.heap.size w w' := by
  have hcap := w0.len_le.2.1
  have hlen := w0.len_le.1
  unfold maxLen at hcap
  by_cases hbig : 1048576 < len0
  · clear w0
    go_enter Try.func15, Try.ntmps15
    go_wp2
    go_ret
    exact ⟨rfl, Below.refl _ _⟩
  go_enter Try.func15, Try.ntmps15
  go_wp2_with fail
  refine (DrawAuditLimit_any _ _ _ _ _ w0).mono ?_
  rintro e w1 ⟨n, k, num, den, rfl, hn, hk, hnum, hden, hb⟩
  clear w0 hbig hcap hlen
  by_cases h1 : okL n k num den
  · have E : li n k num den = (lz n k num den : Int) := li_in h1
    have HX := Lib.hid (li_spec h1).1
    have d1 := (li_spec h1).2.1
    generalize lz n k num den = L at *
    obtain ⟨g1, g2, g3, g4, g5, g6, g7, g8⟩ := h1
    have E4 : cz n k = chz n k := cz_in ⟨by omega, g2, g3⟩
    have hp := prods n k num den L g1 g2 g5 g6 g7 g8
    go_wp2_with (first
      | (go_at_call 26; refine (AuditLimit_any _ _ _ _ _).mono ?_; rintro e w' ⟨rfl, rfl⟩)
      | (go_at_call 25; refine (sAuditLimit_any _ _ _ _ _).mono ?_; rintro e w' ⟨rfl, rfl⟩))
    go_loop [9] (fun c => ∃ j : Nat, (j : Int) ≤ n / 2 + 1 ∧ c = .int .i64 j) (fun c => 12 - (intOf c).toNat)
    case atStart => exact ⟨0, by omega, rfl⟩
    case round =>
      obtain ⟨j, hj, rfl⟩ := hrel
      by_cases hlt : (j : Int) ≤ n / 2
      · have E3 : aw n j k L = wz n j k L := aw_in _ ⟨g1, g2, by omega, by omega, g3, g4⟩
        have hm := fit_all (wi := j) HX.out (by omega) hlt g1 g5
        have b1 := wz_bd n j k L (by omega) (by omega) g2
        have b2 := mul_bd b1.1 b1.2 (show 0 ≤ den by omega) g6
        go_wp2_with (first
          | (go_at_call 21; refine (AuditWays_any _ _ _ _ _).mono ?_; rintro e w' ⟨rfl, rfl⟩)
          | (go_at_call 19; refine (Choose_any _ _ _).mono ?_; rintro e w' ⟨rfl, rfl⟩))
        go_round
        case rel => exact ⟨j + 1, by omega, by go_num⟩
        case measure => simp [intOf]; omega
      · go_wp2
        go_ret
        exact ⟨rfl, hb⟩
  · have E : li n k num den = -1 := li_out h1
    clear h1
    go_wp2_with (first
      | (go_at_call 26; refine (AuditLimit_any _ _ _ _ _).mono ?_; rintro e w' ⟨rfl, rfl⟩)
      | (go_at_call 25; refine (sAuditLimit_any _ _ _ _ _).mono ?_; rintro e w' ⟨rfl, rfl⟩))
    go_ret
    exact ⟨rfl, hb⟩

end Go.Proofs.Ytjandooipgopoaa
