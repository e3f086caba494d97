/- The law FnManifestPick returns true and leaves all that was there as it was; what is drawn for it. The conditions stand in each theorem. -/
import Derived.Test.YtkjdccpomldmeaaPickA
import Derived.Test.YtkjdccpomldmeaaPickB
import Derived.Test.YtkjdccpomldmeaaDrawB
import Derived.Test.YtkjdccpomldmeaaToInts
namespace Go.Proofs.Ytkjdccpomldmeaa
open Go.RowKit Go.ChangeShapes
open Man
set_option linter.unusedVariables false

def GotSizes2 (w : World) (e : Ending) (w' : World) : Prop :=
  ∃ (A : Option Addr) (zs : List Int) (n c : Nat) (m s : Int), e = .returned (.tuple #[.slice A n c, .int .i64 m, .int .i64 s]) ∧ zs.length = n ∧ n ≤ 10 ∧ n ≤ c ∧ c ≤ maxLen ∧ Row w' w'.heap.size A (zs.map (Value.int .i64)) ∧ Below w.heap.size w w'
set_option maxHeartbeats 1000000 in
theorem DrawManifestPick_any (a : Option Addr) (len cap : Nat) (zs : List Int) (w : World) (h : IsRow .u8 w a len cap zs) :
    Calls Try.prog 17 #[.slice a len cap] w (GotSizes2 w) := by
  go_enter Try.func17, Try.ntmps17
  go_wp2_with fail
  refine (open_any _ _ _ _ _ h).mono ?_
  rintro e w1 ⟨g, rfl, I⟩
  clear h
  have hg1 := I.rd.lt_
  go_wp2_with fail
  refine (l93Sizes_any I (by omega)).mono ?_
  rintro e w2 ⟨A, ys, n, c, q, rfl, hl, hn, hb, hq, I2, hs, hc1, hc2, hown⟩
  have HL := Lib.hid hl
  clear hl hb I
  obtain ⟨A', c', e, _, _, _, hrow⟩ := own_slice hown
  injection e with e1 e2 e3
  subst e1 e3
  clear e2
  have hbd := Man.tot_bd ys
  go_wp2_with fail
  refine (sTotal_any _ _ _ ys _ HL.out (by omega) hrow).mono ?_
  rintro e w' ⟨rfl, rfl⟩
  clear hrow
  go_wp2_with fail
  all_goals
    refine (pickI _ I2 (by omega) (by omega)).mono ?_
    rintro e w3 ⟨r, rfl, r0, r1, I3, G3⟩
    have hown3 := own_grown hown G3 (by omega)
    clear I2 G3 hown
    go_wp2_with fail
    refine (pickI _ I3 (by omega) (by omega)).mono ?_
    rintro e w4 ⟨s, rfl, s0, s1, I4, G4⟩
    have hown4 := own_grown hown3 G4 (by omega)
    clear I3 G4 hown3
    obtain ⟨A', c', e, _, _, _, hrow⟩ := own_slice hown4
    injection e with e1 e2 e3
    subst e1 e3
    clear e2 hown4
    go_wp2_with fail
    go_ret3
    exact ⟨_, ys, _, _, _, _, rfl, HL.out, hn, hc1, hc2, hrow, I4.bel⟩

set_option maxRecDepth 100000 in
set_option maxHeartbeats 4000000 in
theorem FnManifestPick_walk (a0 : Option Addr) (len0 cap0 : Nat) (z0 : List Int) (w : World) (w0 : IsRow .u8 w a0 len0 cap0 z0) :
    Calls Try.prog 4 #[.slice a0 len0 cap0] w fun e w' => e = .returned (.bool true) ∧ Below w.heap.size w w' := by
  have hcap := w0.len_le.2.1
  have hlen := w0.len_le.1
  unfold maxLen at hcap
  by_cases hbig : 1048576 < len0
  · clear w0
    go_enter Try.func4, Try.ntmps4
    go_wp2
    go_ret
    exact ⟨rfl, Below.refl _ _⟩
  have dd0 : decide ((1048576 : Int) < (len0 : Int)) = false := by simp; omega
  go_enter Try.func4, Try.ntmps4
  go_wp2_with fail
  refine (DrawManifestPick_any _ _ _ _ _ w0).mono ?_
  rintro e w2 ⟨A, ys, n, c, m, s, rfl, hl, hn, hc1, hc2, hr, hb⟩
  have HN := Lib.hid hl
  clear w0 hbig hcap hlen hl
  unfold maxLen at hc2
  have hk8 := pickL_len ys m s
  go_wp2_with fail
  refine (ManifestPick_any _ _ _ ys m s _ HN.out (by omega) hr).mono ?_
  rintro e w3 ⟨A1, k1, c1, rfl, hl1, hrow1, hwr1, hA1, hb3⟩
  have hr3 := (hr.below hb3).more hb3.size
  have hbF3 := hb.trans (hb3.mono hb.size)
  clear hr hb3 hb hwr1 hA1
  have hk1 : k1 ≤ 8 := by omega
  have HL := Lib.hid hl1
  clear hl1 hk8
  go_wp2_with fail
  refine (sManifestPick_any _ _ _ ys m s _ HN.out (by omega) hr3).mono ?_
  rintro e w4 ⟨A2, k2, c2, rfl, hl2, hrow2, hwr2, hA2, hb4⟩
  obtain rfl : k2 = k1 := by have := HL.out; omega
  have hr4 := (hr3.below hb4).more hb4.size
  have hrow1' := (hrow1.below hb4).more hb4.size
  have hbF4 := hbF3.trans (hb4.mono hbF3.size)
  clear hr3 hb4 hbF3 hrow1 hwr2 hA2 hl2
  by_cases hok : okS (tot ys) m s
  · have HOK := Lib.hid hok
    have e1 : smpB (tot ys) m s = true := (smp_in hok).2
    rw [e1]
    clear e1 hok
    go_wp2_with fail
    refine (sameInts_same _ _ _ _ _ (pickL ys m s) _ HL.out (by omega) hrow1' hrow2).mono ?_
    rintro e w5 ⟨rfl, hb5⟩
    have hr5 := (hr4.below hb5).more hb5.size
    have hrow5 := (hrow1'.below hb5).more hb5.size
    have hbF5 := hbF4.trans (hb5.mono hbF4.size)
    clear hr4 hrow1' hrow2 hb5 hbF4
    go_wp2_with fail
    refine (Total_any _ _ _ ys _ HN.out (by omega) hr5).mono ?_
    rintro e w' ⟨rfl, rfl⟩
    go_wp2_with fail
    refine (SampleOf_any (tot ys) m s _).mono ?_
    rintro e w6 ⟨AS, kS, cS, rfl, hlS, hkS, hcS1, hcS2, hownS, hb6⟩
    have e1 : smpB (tot ys) m s = true := (smp_in HOK.out).2
    rw [e1]
    obtain ⟨_, _, he, _, _, _, hrowS⟩ := own_slice hownS
    injection he with he1 he2 he3
    subst he1 he3
    have hr6 := (hr5.below hb6).more hb6.size
    have hrow6 := (hrow5.below hb6).more hb6.size
    have hbF6 := hbF5.trans (hb6.mono hbF5.size)
    have HLS := Lib.hid hlS
    have hPS : k2 ≤ kS := by have := pick_len HOK.out; have := HL.out; omega
    have HHAS : Hid (∀ x ∈ smpL (tot ys) m s, hasB (pickL ys m s) (atA ys x) = true ∧ atC ys x = true) := fun x hx => by
      obtain ⟨h1, h2⟩ := pick_has HOK.out hx
      exact ⟨(hasB_iff _ _).2 h1, h2⟩
    clear e1 he2 hownS hr5 hrow5 hb6 hbF5 hlS
    generalize smpL (tot ys) m s = sm at *
    go_wp2_with fail
    go_loopw [12] (fun i wx => ∃ k : Nat, k ≤ kS ∧ i = .int .i64 k ∧ wx = w6) (fun i _ => kS - (intOf i).toNat)
    case atStart => exact ⟨0, Nat.zero_le _, rfl, rfl⟩
    case round =>
      obtain ⟨k, hk, rfl, rfl⟩ := hrel
      by_cases hlt : k < kS
      · have hl : k < sm.length := by rw [HLS.out]; exact hlt
        have HX := Lib.hid (HHAS.out _ (List.getElem_mem hl))
        obtain ⟨b, off, rfl, hbw, hc⟩ := int_at hrowS hl
        generalize sm[k] = x at *
        go_wp2_with fail
        refine (At_any _ _ _ ys x _ HN.out (by omega) hr6).mono ?_
        rintro e w7 ⟨rfl, rfl⟩
        rw [HX.out.2]
        clear hc
        go_wp2_with fail
        refine (hasInt_any _ _ _ (pickL ys m s) _ _ HL.out (by omega) hrow6).mono ?_
        rintro e w8 ⟨rfl, rfl⟩
        rw [HX.out.1]
        clear HX
        go_wp2_with fail
        go_roundw
        case rel => exact ⟨k + 1, by omega, by go_num, trivial⟩
        case measure => simp [intOf]; omega
      · obtain rfl : k = kS := by omega
        clear hr6 hrowS
        go_wp2_with fail
        go_loopw [16] (fun i wx => ∃ j : Nat, j ≤ k2 ∧ i = .int .i64 ((j : Int) + 1) ∧ ∃ nq, wx = wr.drewN nq) (fun i _ => k2 + 2 - (intOf i).toNat)
        case atStart => exact ⟨0, Nat.zero_le _, rfl, 0, rfl⟩
        case round =>
          obtain ⟨j, hj, rfl, nq0, rfl⟩ := hrel
          by_cases hlt2 : j + 1 < k2
          · have hl : j + 1 < (pickL ys m s).length := by rw [HL.out]; exact hlt2
            have hasc := pick_asc (by omega) hl (Nat.lt_succ_self j)
            obtain ⟨b, off, rfl, hbw, hc⟩ := int_at hrow6 hl
            have hcj := hrow6.cellOf (k := j) (by rw [List.length_map]; omega)
            simp only [List.getElem_map] at hcj
            generalize (pickL ys m s)[j + 1] = z at *
            generalize (pickL ys m s)[j] = y at *
            have d3 : decide (z ≤ y) = false := by simp; omega
            have g1 : (j : Int) + 1 < (k2 : Int) := by omega
            go_wp2_with fail
            go_quiet (fail)
            go_wp2_with fail
            go_roundw
            case rel => exact ⟨j + 1, by omega, by go_num, _, rfl⟩
            case measure => simp [intOf]; omega
          · have g1 : ¬ (j : Int) + 1 < (k2 : Int) := by omega
            have hbF := below_drewN hbF6 nq0
            clear hrow6
            go_wp2_with fail
            go_ret
            exact ⟨rfl, hbF⟩
  · have e1 : smpB (tot ys) m s = false := (smp_out hok).2
    rw [e1]
    clear e1 hok
    go_wp2_with fail
    refine (sameInts_same _ _ _ _ _ (pickL ys m s) _ HL.out (by omega) hrow1' hrow2).mono ?_
    rintro e w5 ⟨rfl, hb5⟩
    have hrow5 := (hrow1'.below hb5).more hb5.size
    have hrow5' := (hrow2.below hb5).more hb5.size
    have hbF5 := hbF4.trans (hb5.mono hbF4.size)
    clear hr4 hrow1' hrow2 hb5 hbF4
    go_wp2_with fail
    refine (sameInts_same _ _ _ _ _ (pickL ys m s) _ HL.out (by omega) hrow5 hrow5').mono ?_
    rintro e w6 ⟨rfl, hb6⟩
    clear hrow5 hrow5'
    go_wp2_with fail
    go_ret
    exact ⟨rfl, hbF5.trans (hb6.mono hbF5.size)⟩

end Go.Proofs.Ytkjdccpomldmeaa
