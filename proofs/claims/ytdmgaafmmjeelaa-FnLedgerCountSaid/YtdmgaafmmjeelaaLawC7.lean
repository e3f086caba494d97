/- The laws FnLedgerPart and FnLedgerCount return true and leave all that was there as it was. The conditions stand in each theorem. -/
import Derived.Test.YtdmgaafmmjeelaaDrawC2
import Derived.Test.YtdmgaafmmjeelaaLed11
namespace Go.Proofs.Ytdmgaafmmjeelaa
open Go.RowKit Go.ChangeShapes
set_option linter.unusedVariables false

set_option maxRecDepth 100000 in
set_option maxHeartbeats 4000000 in
theorem FnLedgerCount_walk (a0 : Option Addr) (len0 cap0 : Nat) (z0 : List Int) (w : World) (w0 : IsRow .u8 w a0 len0 cap0 z0) :
    Calls Try.prog 14 #[.slice a0 len0 cap0] w fun e w' => e = .returned (.bool true) ∧ Below w.heap.size w w' := by
  have hcap := w0.len_le.2.1
  have hlen := w0.len_le.1
  unfold maxLen at hcap
  by_cases hbig : 1048576 < len0
  · clear w0
    go_enter Try.func14, Try.ntmps14
    go_wp2
    go_ret
    exact ⟨rfl, Below.refl _ _⟩
  have dd0 : decide ((1048576 : Int) < (len0 : Int)) = false := by simp; omega
  go_enter Try.func14, Try.ntmps14
  go_wp2_with fail
  refine (DrawLedgerCount_any _ _ _ _ _ w0).mono ?_
  rintro e w2 ⟨A, ps, n, c, rfl, hl, hn, hc1, hc2, hr, hb⟩
  have HN := Lib.hid hl
  clear w0 hbig hcap hlen hl
  unfold maxLen at hc2
  go_wp2_with fail
  refine (LedgerCount_any _ _ _ ps _ HN.out (by omega) hr).mono ?_
  rintro e w3 ⟨rfl, hb3⟩
  have hr3 := (hr.below hb3).more hb3.size
  have hbF3 := hb.trans (hb3.mono hb.size)
  clear hr hb3 hb
  go_wp2_with fail
  refine (sLedgerCount_any _ _ _ ps _ HN.out (by omega) hr3).mono ?_
  rintro e w4 ⟨rfl, hb4⟩
  have hr4 := (hr3.below hb4).more hb4.size
  have hbF4 := hbF3.trans (hb4.mono hbF3.size)
  clear hr3 hb4 hbF3
  generalize hcnt : cntE ps = cn at *
  have HCN := Lib.hid hcnt
  clear hcnt
  go_wp2_with fail
  refine (sLedgerValid_any _ _ _ ps _ HN.out (by omega) hr4).mono ?_
  rintro e w6 ⟨rfl, hb6⟩
  have hr6 := (hr4.below hb6).more hb6.size
  have hbF6 := hbF4.trans (hb6.mono hbF4.size)
  clear hr4 hbF4 hb6
  cases hv : lvB ps with
  | false =>
    clear hv hr6
    go_wp2_with fail
    go_ret
    exact ⟨rfl, hbF6⟩
  | true =>
    have HVAL := Lib.hid hv
    have HV := Lib.hid (lvB_of hv).2
    clear hv
    go_wp2_with fail
    refine (LedgerGaps_any _ _ _ ps _ HN.out (by omega) hr6).mono ?_
    rintro e w7 ⟨G, kg, cg, rfl, hlg, hkg, hcg, howng, hb7⟩
    have hr7 := (hr6.below hb7).more hb7.size
    have hrG := own_row howng
    have hbF7 := hbF6.trans (hb7.mono hbF6.size)
    have hkg20 : kg ≤ 20 := by have := gapsE_len ps; omega
    have HLG := Lib.hid hlg
    clear hlg howng hr6 hb7 hbF6 hkg hcg
    go_wp2_with fail
    go_loopw [7, 8] (fun s b wx => ∃ k : Nat, k ≤ 6 ∧ b = .int .i64 ((k : Int) + 1) ∧ s = .int .i64 (boxSum ps k) ∧ wx = w7) (fun _ b _ => 7 - (intOf b).toNat)
    case atStart => exact ⟨0, by omega, rfl, rfl, rfl⟩
    case round =>
      obtain ⟨k, hk, rfl, rfl, rfl⟩ := hrel
      have hbd := boxSum_bd HV.out k
      by_cases hlt : k < 6
      · have HVL := Lib.hid (law_val HVAL.out ((k : Int) + 1))
        generalize hz0 : boxSum ps k = zz at *
        have HSUM : Hid (zz + boxVal ps ((k : Int) + 1) = boxSum ps (k + 1)) := by
          show _ = _
          rw [← hz0]
          rfl
        clear hz0
        have hz1 : zz ≤ 594 := by omega
        obtain ⟨hz0, _⟩ := hbd
        have hb0 : 1 ≤ (k : Int) + 1 := by omega
        have hb6 : (k : Int) + 1 ≤ 6 := by omega
        generalize hbv : boxVal ps ((k : Int) + 1) = zv at *
        clear hbv
        obtain ⟨bx, hbx⟩ : ∃ bx : Int, bx = (k : Int) + 1 := ⟨_, rfl⟩
        rw [← hbx] at HVL hb0 hb6 ⊢
        have HBX := Lib.hid hbx
        clear hbx
        obtain ⟨wo, rfl⟩ : ∃ wo : World, wo = wr := ⟨_, rfl⟩
        go_wp2_with fail
        go_loopw [9, 10, 11] (fun v u i wx => ∃ m : Nat, m ≤ n ∧ i = .int .i64 m ∧ v = .int .i64 (lawMany ps bx m) ∧ u = .bool (lawClean ps (gapsE ps) bx m) ∧ wx = wo) (fun _ _ i _ => n - (intOf i).toNat)
        case atStart => exact ⟨0, Nat.zero_le _, rfl, rfl, rfl, rfl⟩
        case round =>
          obtain ⟨m, hm, rfl, rfl, rfl, rfl⟩ := hrel
          by_cases hlt2 : m < n
          · have hl : m < ps.length := by rw [HN.out]; exact hlt2
            have HM := Lib.hid (lawMany_succ (b := bx) hl)
            have HC := Lib.hid (lawClean_succ (g := gapsE ps) (b := bx) hl)
            obtain ⟨b, off, rfl, hbw1, hc0, hc1', hc2', hc3⟩ := ev_at hr7 hl
            generalize ps[m] = p at *
            obtain ⟨vbx, vkd, vsl, vmn⟩ := p
            simp only at hc0 hc1' hc2' hc3 HM HC
            by_cases heb : vbx = bx
            · have HC2 : Hid (lawClean ps (gapsE ps) bx (m + 1) = (lawClean ps (gapsE ps) bx m && !hasB (gapsE ps) (m : Int))) := HC.out.trans (if_pos heb)
              have HMI := Lib.hid (fun (x : Int) (h : (if vkd = 3 then vmn else 0) = x) => (HM.out.trans ((if_pos heb).trans h)))
              subst heb
              clear HM HC
              generalize lawMany ps vbx m = ma at *
              generalize lawClean ps (gapsE ps) vbx m = cl at *
              by_cases h3 : vkd = 3
              · have HM2 := Lib.hid (HMI.out vmn (if_pos h3))
                subst h3
                clear HMI
                cases cl with
                | false =>
                  go_wp2_with fail
                  go_roundw
                  case rel => exact ⟨m + 1, by omega, by go_num, by rw [HM2.out], by rw [HC2.out]; rfl, trivial⟩
                  case measure => simp [intOf]; omega
                | true =>
                  go_wp2_with fail
                  refine (hasInt_any _ _ _ (gapsE ps) _ _ HLG.out (by omega) hrG).mono ?_
                  rintro e w8 ⟨rfl, rfl⟩
                  go_wp2_with fail
                  go_roundw
                  case rel => exact ⟨m + 1, by omega, by go_num, by rw [HM2.out], by rw [HC2.out]; simp, trivial⟩
                  case measure => simp [intOf]; omega
              · have HM2 := Lib.hid (HMI.out 0 (if_neg h3))
                have q3 : (vkd == 3) = false := by simpa using h3
                clear HMI h3
                cases cl with
                | false =>
                  go_wp2_with fail
                  go_roundw
                  case rel => exact ⟨m + 1, by omega, by go_num, by rw [HM2.out], by rw [HC2.out]; rfl, trivial⟩
                  case measure => simp [intOf]; omega
                | true =>
                  go_wp2_with fail
                  refine (hasInt_any _ _ _ (gapsE ps) _ _ HLG.out (by omega) hrG).mono ?_
                  rintro e w8 ⟨rfl, rfl⟩
                  go_wp2_with fail
                  go_roundw
                  case rel => exact ⟨m + 1, by omega, by go_num, by rw [HM2.out], by rw [HC2.out]; simp, trivial⟩
                  case measure => simp [intOf]; omega
            · have HM2 := Lib.hid (HM.out.trans (if_neg heb))
              have HC2 := Lib.hid (HC.out.trans (if_neg heb))
              have q3 : (vbx == bx) = false := by simpa using heb
              clear HM HC heb
              go_wp2_with fail
              go_roundw
              case rel => exact ⟨m + 1, by omega, by go_num, by rw [HM2.out], by rw [HC2.out], trivial⟩
              case measure => simp [intOf]; omega
          · obtain rfl : m = n := by omega
            have HVL2 := HVL.out
            rw [HN.out] at HVL2
            have hmb := lawMany_bd HV.out bx m (by rw [HN.out]; exact Nat.le_refl _)
            generalize lawMany ps bx m = ma at *
            generalize lawClean ps (gapsE ps) bx m = cl at *
            cases cl with
            | true =>
              have HZ : Hid (zz + ma = boxSum ps (k + 1)) := val_yes HSUM.out (by rw [← HVL2]; rfl)
              clear HVL2 HVL HSUM
              go_wp2_with fail
              go_roundw
              case rel => exact ⟨k + 1, by omega, by rw [HBX.out]; go_num, by rw [HZ.out], trivial⟩
              case measure => rw [HBX.out]; simp [intOf]; omega
            | false =>
              have HZ : Hid (zz = boxSum ps (k + 1)) := val_no HSUM.out (by rw [← HVL2]; rfl)
              clear HVL2 HVL HSUM
              go_wp2_with fail
              go_roundw
              case rel => exact ⟨k + 1, by omega, by rw [HBX.out]; go_num, by rw [HZ.out], trivial⟩
              case measure => rw [HBX.out]; simp [intOf]; omega
      · obtain rfl : k = 6 := by omega
        have HE : Hid (boxSum ps 6 = cn) := (cntE_yes HVAL.out).symm.trans HCN.out
        generalize boxSum ps 6 = z at *
        obtain rfl : z = cn := HE.out
        go_wp2_with fail
        go_ret
        exact ⟨rfl, hbF7⟩

end Go.Proofs.Ytdmgaafmmjeelaa
