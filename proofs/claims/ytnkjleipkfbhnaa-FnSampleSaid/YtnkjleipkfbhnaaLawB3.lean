/- The laws FnSampleFirst, FnSampleMore and FnSample return true and leave all that was there as it was. The conditions stand in each theorem. -/
import Derived.Test.YtnkjleipkfbhnaaDrawS
import Derived.Test.YtnkjleipkfbhnaaSamp3
namespace Go.Proofs.Ytnkjleipkfbhnaa
open Go.RowKit Go.ChangeShapes
set_option linter.unusedVariables false

theorem own_row {w : World} {base : Nat} {e : TypeId} {A : Option Addr} {n c : Nat} {xs : List Value} (h : w.ownsRow base e 1 (.slice A n c) n xs) : Row w w.heap.size A xs := by
  obtain ⟨_, _, he, _, _, _, hr⟩ := own_slice h
  injection he with e1
  rw [e1]
  exact hr
theorem quiet_left2 {P : Program} {f : FuncId} {args : Array Value} {w : World} {n : Nat} {v : Value}
    (h : Calls P f args (w.drewN n) fun e w' => e = .returned v ∧ w.drewN n = w') : Calls P f args (w.drewN n) fun e w'' => e = .returned v ∧ ∃ m, w'' = w.drewN m :=
  h.mono fun _ _ ⟨he, hm⟩ => ⟨he, n, hm.symm⟩

set_option maxRecDepth 100000 in
set_option maxHeartbeats 2000000 in
theorem FnSampleFirst_walk (a0 : Option Addr) (len0 cap0 : Nat) (z0 : List Int) (w : World) (w0 : IsRow .u8 w a0 len0 cap0 z0) :
    Calls Try.prog 11 #[.slice a0 len0 cap0] w fun e w' => e = .returned (.bool true) ∧ Below w.heap.size w w' := by
  have hcap := w0.len_le.2.1
  have hlen := w0.len_le.1
  unfold maxLen at hcap
  by_cases hbig : 1048576 < len0
  · clear w0
    go_enter Try.func11, Try.ntmps11
    go_wp2
    go_ret
    exact ⟨rfl, Below.refl _ _⟩
  have dd0 : decide ((1048576 : Int) < (len0 : Int)) = false := by simp; omega
  go_enter Try.func11, Try.ntmps11
  go_wp2_with fail
  refine (DrawSampleOf_any _ _ _ _ _ w0).mono ?_
  rintro e w1 ⟨n, m, s, rfl, hb1⟩
  clear w0 hbig hcap hlen
  go_wp2_with fail
  refine (SampleOf_any n m s _).mono ?_
  rintro e w2 ⟨A1, k1, c1, rfl, hl1, hk1, hc11, hc12, hown1, hb2⟩
  have hrow1 := own_row hown1
  have hbF2 := hb1.trans (hb2.mono hb1.size)
  clear hown1 hb2 hb1
  go_wp2_with fail
  refine (sSampleOf_any n m s _).mono ?_
  rintro e w3 ⟨A2, k2, c2, rfl, hl2, hk2, hc21, hc22, hown2, hb3⟩
  have hrow2 := own_row hown2
  have hrow1' := (hrow1.below hb3).more hb3.size
  have hbF3 := hbF2.trans (hb3.mono hbF2.size)
  obtain rfl : k2 = k1 := by omega
  have HL := Lib.hid hl1
  clear hown2 hb3 hbF2 hrow1 hl1 hl2
  unfold maxLen at hc12 hc22
  by_cases hok : okS n m s
  · have HO := Lib.hid hok
    have HSM := Lib.hid (smp_in hok)
    have e0 : smpB n m s = true := HSM.out.2
    rw [e0]
    clear e0
    obtain ⟨g1, g2, g3, g4, g5, g6⟩ := hok
    go_wp2_with fail
    refine (sameInts_same _ _ _ _ _ (smpL n m s) _ HL.out (by omega) hrow1' hrow2).mono ?_
    rintro e w4 ⟨rfl, hb4⟩
    have hr4 := (hrow1'.below hb4).more hb4.size
    have hr4' := (hrow2.below hb4).more hb4.size
    have hbF4 := hbF3.trans (hb4.mono hbF3.size)
    clear hrow1' hrow2 hb4 hbF3
    obtain ⟨N, rfl⟩ := Int.eq_ofNat_of_zero_le (show 0 ≤ n by omega)
    obtain ⟨M, rfl⟩ := Int.eq_ofNat_of_zero_le g3
    simp only [Int.toNat_natCast] at HSM
    by_cases hm : M = 0
    · have q : ((M : Int) == 0) = true := by simp; omega
      clear hm
      go_wp2_with fail
      refine (sameInts_same _ _ _ _ _ (smpL N M s) _ HL.out (by omega) hr4 hr4').mono ?_
      rintro e w5 ⟨rfl, hb5⟩
      clear hr4 hr4'
      go_wp2_with fail
      go_ret
      exact ⟨rfl, hbF4.trans (hb5.mono hbF4.size)⟩
    · have q : ((M : Int) == 0) = false := by simp; omega
      have hlen : (smpL N M s).length = M := by rw [HSM.out.1]; exact (run_len N s M (by omega)).2
      have hkM : k2 = M := by have := HL.out; omega
      obtain ⟨b, off, rfl, hbw, hc⟩ := int_at hr4 (k := 0) (by omega)
      have hv : (smpL N M s)[0]'(by omega) = nxt s % (N : Int) := by
        have h1 := run_first N s (M - 1) (by omega)
        rw [show M - 1 + 1 = M by omega] at h1
        rw [← h1, ← HSM.out.1]
        have : 0 < (smpL N M s).length := by omega
        simp [this]
      rw [hv] at hc
      simp only [Nat.add_zero] at hc
      have E : snx s = nxt s := snx_in ⟨by omega, by omega⟩
      have nb := nxt_bd s
      have k0 : 0 < k2 := by omega
      clear hr4 hr4' hv hlen hkM hm
      have n0 : (0 : Int) < (N : Int) := by omega
      have qq : ((N : Int) == 0) = false := by simp; omega
      go_wp2_with fail
      go_quiet ((go_at_call 15; exact quiet_left2 (SampleNext_any _ _)))
      go_wp2_with fail
      go_ret
      exact ⟨rfl, below_drewN hbF4 _⟩
  · have e0 : smpB n m s = false := (smp_out hok).2
    rw [e0]
    clear e0 hok
    go_wp2_with fail
    refine (sameInts_same _ _ _ _ _ (smpL n m s) _ HL.out (by omega) hrow1' hrow2).mono ?_
    rintro e w4 ⟨rfl, hb4⟩
    have hr4 := (hrow1'.below hb4).more hb4.size
    have hr4' := (hrow2.below hb4).more hb4.size
    have hbF4 := hbF3.trans (hb4.mono hbF3.size)
    clear hrow1' hrow2 hb4 hbF3
    go_wp2_with fail
    refine (sameInts_same _ _ _ _ _ (smpL n m s) _ HL.out (by omega) hr4 hr4').mono ?_
    rintro e w5 ⟨rfl, hb5⟩
    clear hr4 hr4'
    go_wp2_with fail
    go_ret
    exact ⟨rfl, hbF4.trans (hb5.mono hbF4.size)⟩

set_option maxRecDepth 100000 in
set_option maxHeartbeats 2000000 in
theorem FnSampleMore_walk (a0 : Option Addr) (len0 cap0 : Nat) (z0 : List Int) (w : World) (w0 : IsRow .u8 w a0 len0 cap0 z0) :
    Calls Try.prog 12 #[.slice a0 len0 cap0] w fun e w' => e = .returned (.bool true) ∧ Below w.heap.size w w' := by
  have hcap := w0.len_le.2.1
  have hlen := w0.len_le.1
  unfold maxLen at hcap
  by_cases hbig : 1048576 < len0
  · clear w0
    go_enter Try.func12, Try.ntmps12
    go_wp2
    go_ret
    exact ⟨rfl, Below.refl _ _⟩
  have dd0 : decide ((1048576 : Int) < (len0 : Int)) = false := by simp; omega
  go_enter Try.func12, Try.ntmps12
  go_wp2_with fail
  refine (DrawSampleOf_any _ _ _ _ _ w0).mono ?_
  rintro e w1 ⟨n, m, s, rfl, hb1⟩
  clear w0 hbig hcap hlen
  go_wp2_with fail
  refine (SampleOf_any n m s _).mono ?_
  rintro e w2 ⟨A1, k1, c1, rfl, hl1, hk1, hc11, hc12, hown1, hb2⟩
  have hrow1 := own_row hown1
  have hbF2 := hb1.trans (hb2.mono hb1.size)
  clear hown1 hb2 hb1
  go_wp2_with fail
  refine (sSampleOf_any n m s _).mono ?_
  rintro e w3 ⟨A2, k2, c2, rfl, hl2, hk2, hc21, hc22, hown2, hb3⟩
  have hrow2 := own_row hown2
  have hrow1' := (hrow1.below hb3).more hb3.size
  have hbF3 := hbF2.trans (hb3.mono hbF2.size)
  obtain rfl : k2 = k1 := by omega
  have HL := Lib.hid hl1
  clear hown2 hb3 hbF2 hrow1 hl1 hl2
  unfold maxLen at hc12 hc22
  by_cases hok : okS n m s
  · have HO := Lib.hid hok
    have HSM := Lib.hid (smp_in hok)
    have e0 : smpB n m s = true := HSM.out.2
    rw [e0]
    clear e0
    obtain ⟨g1, g2, g3, g4, g5, g6⟩ := hok
    go_wp2_with fail
    refine (sameInts_same _ _ _ _ _ (smpL n m s) _ HL.out (by omega) hrow1' hrow2).mono ?_
    rintro e w4 ⟨rfl, hb4⟩
    have hr4 := (hrow1'.below hb4).more hb4.size
    have hr4' := (hrow2.below hb4).more hb4.size
    have hbF4 := hbF3.trans (hb4.mono hbF3.size)
    clear hrow1' hrow2 hb4 hbF3
    by_cases hm : m = n
    · have q : (m == n) = true := by simpa using hm
      clear hm
      go_wp2_with fail
      refine (sameInts_same _ _ _ _ _ (smpL n m s) _ HL.out (by omega) hr4 hr4').mono ?_
      rintro e w5 ⟨rfl, hb5⟩
      clear hr4 hr4'
      go_wp2_with fail
      go_ret
      exact ⟨rfl, hbF4.trans (hb5.mono hbF4.size)⟩
    · have q : (m == n) = false := by simpa using hm
      have hok2 : okS n (m + 1) s := ⟨by omega, by omega, by omega, by omega, by omega, by omega⟩
      have HSM2 := Lib.hid (smp_in hok2)
      have e2 : smpB n (m + 1) s = true := HSM2.out.2
      have HP : Hid ((smpL n (m + 1) s).take k2 = smpL n m s) := by
        show _ = _
        have hl : (smpL n m s).length = m.toNat := by rw [HSM.out.1]; exact (run_len _ _ _ (by omega)).2
        have hk : k2 = m.toNat := by have := HL.out; omega
        rw [HSM2.out.1, HSM.out.1, hk, show (m + 1).toNat = m.toNat + 1 by omega]
        exact run_prefix _ _ _ (by omega)
      have HL2 : Hid ((smpL n (m + 1) s).length = k2 + 1) := by
        show _ = _
        have hl : (smpL n m s).length = m.toNat := by rw [HSM.out.1]; exact (run_len _ _ _ (by omega)).2
        have hk : k2 = m.toNat := by have := HL.out; omega
        rw [HSM2.out.1, (run_len _ _ _ (by omega)).2]
        omega
      have hkm : (k2 : Int) = m := by
        have hl : (smpL n m s).length = m.toNat := by rw [HSM.out.1]; exact (run_len _ _ _ (by omega)).2
        have := HL.out
        omega
      subst hkm
      clear hm hok2 hr4'
      go_wp2_with fail
      refine (SampleOf_any n ((k2 : Int) + 1) s _).mono ?_
      rintro e w5 ⟨A5, k5, c5, rfl, hl5, hk5, hc51, hc52, hown5, hb5⟩
      obtain rfl : k5 = k2 + 1 := by have := HL2.out; omega
      have hrow5 := own_row hown5
      have hr5 := (hr4.below hb5).more hb5.size
      have hbF5 := hbF4.trans (hb5.mono hbF4.size)
      have hrT : Row w5 w5.heap.size A5 ((smpL n (k2 : Int) s).map (Value.int .i64)) := by
        rw [← HP.out, List.map_take]
        exact hrow5.take k2
      rw [e2]
      unfold maxLen at hc52
      clear e2 hown5 hb5 hrow5 hr4 hl5
      have z1 : k2 ≤ k2 + 1 := by omega
      have z2 : k2 ≤ c5 := by omega
      have z3 : (k2 : Int) ≤ (k2 : Int) + 1 := by omega
      go_wp2_with fail
      refine (sameInts_same _ _ _ _ _ (smpL n (k2 : Int) s) _ HL.out (by omega) hrT hr5).mono ?_
      rintro e w6 ⟨rfl, hb6⟩
      clear hrT hr5
      go_wp2_with fail
      go_ret
      exact ⟨rfl, hbF5.trans (hb6.mono hbF5.size)⟩
  · have e0 : smpB n m s = false := (smp_out hok).2
    rw [e0]
    clear e0 hok
    go_wp2_with fail
    refine (sameInts_same _ _ _ _ _ (smpL n m s) _ HL.out (by omega) hrow1' hrow2).mono ?_
    rintro e w4 ⟨rfl, hb4⟩
    have hr4 := (hrow1'.below hb4).more hb4.size
    have hr4' := (hrow2.below hb4).more hb4.size
    have hbF4 := hbF3.trans (hb4.mono hbF3.size)
    clear hrow1' hrow2 hb4 hbF3
    go_wp2_with fail
    refine (sameInts_same _ _ _ _ _ (smpL n m s) _ HL.out (by omega) hr4 hr4').mono ?_
    rintro e w5 ⟨rfl, hb5⟩
    clear hr4 hr4'
    go_wp2_with fail
    go_ret
    exact ⟨rfl, hbF4.trans (hb5.mono hbF4.size)⟩

set_option maxRecDepth 100000 in
set_option maxHeartbeats 2000000 in
theorem FnSample_walk (a0 : Option Addr) (len0 cap0 : Nat) (z0 : List Int) (w : World) (w0 : IsRow .u8 w a0 len0 cap0 z0) :
    Calls Try.prog 13 #[.slice a0 len0 cap0] w fun e w' => e = .returned (.bool true) ∧ Below w.heap.size w w' := by
  have hcap := w0.len_le.2.1
  have hlen := w0.len_le.1
  unfold maxLen at hcap
  by_cases hbig : 1048576 < len0
  · clear w0
    go_enter Try.func13, Try.ntmps13
    go_wp2
    go_ret
    exact ⟨rfl, Below.refl _ _⟩
  have dd0 : decide ((1048576 : Int) < (len0 : Int)) = false := by simp; omega
  go_enter Try.func13, Try.ntmps13
  go_wp2_with fail
  refine (DrawSampleOf_any _ _ _ _ _ w0).mono ?_
  rintro e w1 ⟨n, m, s, rfl, hb1⟩
  clear w0 hbig hcap hlen
  go_wp2_with fail
  refine (SampleOf_any n m s _).mono ?_
  rintro e w2 ⟨A1, k1, c1, rfl, hl1, hk1, hc11, hc12, hown1, hb2⟩
  have hrow1 := own_row hown1
  have hbF2 := hb1.trans (hb2.mono hb1.size)
  clear hown1 hb2 hb1
  go_wp2_with fail
  refine (sSampleOf_any n m s _).mono ?_
  rintro e w3 ⟨A2, k2, c2, rfl, hl2, hk2, hc21, hc22, hown2, hb3⟩
  have hrow2 := own_row hown2
  have hrow1' := (hrow1.below hb3).more hb3.size
  have hbF3 := hbF2.trans (hb3.mono hbF2.size)
  obtain rfl : k2 = k1 := by omega
  have HL := Lib.hid hl1
  clear hown2 hb3 hbF2 hrow1 hl1 hl2
  unfold maxLen at hc12 hc22
  by_cases hok : okS n m s
  · have HO := Lib.hid hok
    have HSM := Lib.hid (smp_in hok)
    have e0 : smpB n m s = true := HSM.out.2
    rw [e0]
    clear e0
    obtain ⟨g1, g2, g3, g4, g5, g6⟩ := hok
    go_wp2_with fail
    refine (sameInts_same _ _ _ _ _ (smpL n m s) _ HL.out (by omega) hrow1' hrow2).mono ?_
    rintro e w4 ⟨rfl, hb4⟩
    have hr4 := (hrow1'.below hb4).more hb4.size
    have hr4' := (hrow2.below hb4).more hb4.size
    have hbF4 := hbF3.trans (hb4.mono hbF3.size)
    clear hrow1' hrow2 hb4 hbF3
    have HOUT := Lib.hid (run_out n.toNat s m.toNat (by omega))
    have hkm : (k2 : Int) = m := by
      have hl : (smpL n m s).length = m.toNat := by rw [HSM.out.1]; exact (run_len _ _ _ (by omega)).2
      have := HL.out
      omega
    subst hkm
    have HR := Lib.hid hr4
    clear hr4 hr4'
    go_wp2_with fail
    go_loopw [10] (fun i wx => ∃ k : Nat, k ≤ k2 ∧ i = .int .i64 k ∧ Below w4.heap.size w4 wx) (fun i _ => k2 - (intOf i).toNat)
    case atStart => exact ⟨0, Nat.zero_le _, rfl, Below.refl _ _⟩
    case round =>
      obtain ⟨k, hk, rfl, hbel⟩ := hrel
      by_cases hlt : k < k2
      · have hl : k < (smpL n (k2 : Int) s).length := by rw [HL.out]; exact hlt
        have hr5 := (HR.out.below hbel).more hbel.size
        have hrT : Row wr wr.heap.size A1 (((smpL n (k2 : Int) s).take k).map (Value.int .i64)) := by
          rw [List.map_take]
          exact hr5.take k
        have HLT : Hid (((smpL n (k2 : Int) s).take k).length = k) := by
          show _ = _
          rw [List.length_take]
          omega
        have hz : 0 ≤ (smpL n (k2 : Int) s)[k] ∧ (smpL n (k2 : Int) s)[k] < n := by
          have key : ∀ x ∈ smpL n (k2 : Int) s, 0 ≤ x ∧ x < n := by
            rw [HSM.out.1]
            intro x hx
            have := HOUT.out.2 x hx
            omega
          exact key _ (List.getElem_mem hl)
        have hno : hasB ((smpL n (k2 : Int) s).take k) (smpL n (k2 : Int) s)[k] = false := by
          refine hasB_no fun hm => ?_
          have hnd : (smpL n (k2 : Int) s).Nodup := by rw [HSM.out.1]; exact HOUT.out.1
          unfold List.Nodup at hnd
          rw [List.pairwise_iff_getElem] at hnd
          obtain ⟨j, hj, he⟩ := List.getElem_of_mem hm
          have hjk : j < k := by rw [List.length_take] at hj; omega
          rw [List.getElem_take] at he
          exact hnd j k (by omega) hl hjk he
        obtain ⟨b, off, rfl, hbw, hc⟩ := int_at hr5 hl
        obtain ⟨q1, q2⟩ := hz
        generalize (smpL n (k2 : Int) s)[k] = z at *
        have d1 : decide (z < 0) = false := by simp; omega
        have d2 : decide (n ≤ z) = false := by simp; omega
        have y1 : k ≤ k2 := by omega
        have y2 : k ≤ c1 := by omega
        have y3 : (k : Int) ≤ (k2 : Int) := by omega
        have y4 : (k : Int) < (k2 : Int) := by omega
        clear hr5
        go_wp2_with fail
        go_quiet ((go_at_call 31; exact quiet_left2 (hasInt_any _ _ _ ((smpL n (k2 : Int) s).take k) _ _ HLT.out (by omega) hrT)))
        clear hrT
        go_wp2_with fail
        go_roundw
        case rel => exact ⟨k + 1, by omega, by go_num, below_drewN hbel _⟩
        case measure => simp [intOf]; omega
      · have hbF := hbF4.trans (hbel.mono hbF4.size)
        go_wp2_with fail
        go_ret
        exact ⟨rfl, hbF⟩
  · have e0 : smpB n m s = false := (smp_out hok).2
    rw [e0]
    clear e0 hok
    go_wp2_with fail
    refine (sameInts_same _ _ _ _ _ (smpL n m s) _ HL.out (by omega) hrow1' hrow2).mono ?_
    rintro e w4 ⟨rfl, hb4⟩
    have hr4 := (hrow1'.below hb4).more hb4.size
    have hr4' := (hrow2.below hb4).more hb4.size
    have hbF4 := hbF3.trans (hb4.mono hbF3.size)
    clear hrow1' hrow2 hb4 hbF3
    go_wp2_with fail
    refine (sameInts_same _ _ _ _ _ (smpL n m s) _ HL.out (by omega) hr4 hr4').mono ?_
    rintro e w5 ⟨rfl, hb5⟩
    clear hr4 hr4'
    go_wp2_with fail
    go_ret
    exact ⟨rfl, hbF4.trans (hb5.mono hbF4.size)⟩

end Go.Proofs.Ytnkjleipkfbhnaa
