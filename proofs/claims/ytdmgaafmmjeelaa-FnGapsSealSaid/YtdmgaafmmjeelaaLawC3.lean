/- The law FnGapsSeal returns true and leaves all that was there as it was. The conditions stand in each theorem. -/
import Derived.Test.YtdmgaafmmjeelaaDrawC2
import Derived.Test.YtdmgaafmmjeelaaEvP
namespace Go.Proofs.Ytdmgaafmmjeelaa
open Go.RowKit Go.ChangeShapes
set_option linter.unusedVariables false

theorem ev_of {w : World} {B b off : Nat} {l : List Ev} (h : Row w B (some ⟨b, off, none⟩) (evCells l)) {k : Nat} (hk : k < l.length) :
    w.cell? ⟨b, off + k * 4, none⟩ = some (.int .i64 l[k].bx) ∧ w.cell? ⟨b, off + k * 4 + 1, none⟩ = some (.int .i64 l[k].kd) ∧ w.cell? ⟨b, off + k * 4 + 2, none⟩ = some (.int .i64 l[k].sl) ∧ w.cell? ⟨b, off + k * 4 + 3, none⟩ = some (.int .i64 l[k].mn) := by
  obtain ⟨b', off', e, _, h0, h1, h2, h3⟩ := ev_at h hk
  injection e with e
  injection e with e1 e2
  subst e1 e2
  exact ⟨h0, h1, h2, h3⟩

set_option maxRecDepth 100000 in
set_option maxHeartbeats 4000000 in
theorem FnGapsSeal_walk (a0 : Option Addr) (len0 cap0 : Nat) (z0 : List Int) (w : World) (w0 : IsRow .u8 w a0 len0 cap0 z0) :
    Calls Try.prog 12 #[.slice a0 len0 cap0] w fun e w' => e = .returned (.bool true) ∧ Below w.heap.size w w' := by
  have hcap := w0.len_le.2.1
  have hlen := w0.len_le.1
  unfold maxLen at hcap
  by_cases hbig : 1048576 < len0
  · clear w0
    go_enter Try.func12, Try.ntmps12
    go_wp2
    go_ret
    exact ⟨rfl, Below.refl _ _⟩
  have dd0 : decide ((1048576 : Int) < (len0 : Int)) = false := by simp; omega
  go_enter Try.func12, Try.ntmps12
  go_wp2_with fail
  refine (DrawLedgerGaps_any _ _ _ _ _ w0).mono ?_
  rintro e w2 ⟨A, ps, n, c, rfl, hl, hn, hc1, hc2, hr, hb⟩
  have HN := Lib.hid hl
  clear w0 hbig hcap hlen hl
  unfold maxLen at hc2
  go_wp2_with fail
  refine (LedgerGaps_any _ _ _ ps _ HN.out (by omega) hr).mono ?_
  rintro e w3 ⟨A1, k1, c1, rfl, hl1, hk1, hcc1, hown1, hb3⟩
  have hr3 := (hr.below hb3).more hb3.size
  have hbF3 := hb.trans (hb3.mono hb.size)
  have hrow1 := own_row hown1
  clear hr hb3 hb hown1 hk1 hcc1
  go_wp2_with fail
  refine (sLedgerGaps_any _ _ _ ps _ HN.out (by omega) hr3).mono ?_
  rintro e w4 ⟨A2, k2, c2, rfl, hl2, hk2, hcc2, hown2, hb4⟩
  have hr4 := (hr3.below hb4).more hb4.size
  have hrow1' := (hrow1.below hb4).more hb4.size
  have hbF4 := hbF3.trans (hb4.mono hbF3.size)
  have hrow2 := own_row hown2
  obtain rfl : k2 = k1 := by omega
  clear hr3 hb4 hbF3 hrow1 hown2 hk2 hcc2 hl2
  have hk20 : k2 ≤ 20 := by have := gapsE_len ps; omega
  have HL := Lib.hid hl1
  clear hl1
  go_wp2_with fail
  refine (sameInts_same _ _ _ _ _ (gapsE ps) _ HL.out (by omega) hrow1' hrow2).mono ?_
  rintro e w5 ⟨rfl, hb5⟩
  have hr5 := (hr4.below hb5).more hb5.size
  have hrow5 := (hrow1'.below hb5).more hb5.size
  have hrow5' := (hrow2.below hb5).more hb5.size
  have hbF5 := hbF4.trans (hb5.mono hbF4.size)
  clear hr4 hrow1' hrow2 hbF4 hb5
  go_wp2_with fail
  refine (sLedgerValid_any _ _ _ ps _ HN.out (by omega) hr5).mono ?_
  rintro e w6 ⟨rfl, hb6⟩
  have hr6 := (hr5.below hb6).more hb6.size
  have hrow6 := (hrow5.below hb6).more hb6.size
  have hrow6' := (hrow5'.below hb6).more hb6.size
  have hbF6 := hbF5.trans (hb6.mono hbF5.size)
  clear hr5 hrow5 hrow5' hbF5 hb6
  cases hv : lvB ps with
  | false =>
    clear hv
    go_wp2_with fail
    refine (sameInts_same _ _ _ _ _ (gapsE ps) _ HL.out (by omega) hrow6 hrow6').mono ?_
    rintro e w7 ⟨rfl, hb7⟩
    clear hr6 hrow6 hrow6'
    go_wp2_with fail
    go_ret
    exact ⟨rfl, hbF6.trans (hb7.mono hbF6.size)⟩
  | true =>
    have HVAL := Lib.hid hv
    clear hv hrow6'
    go_wp2_with fail
    go_loopw [6] (fun i wx => ∃ m : Nat, m ≤ n ∧ i = .int .i64 m ∧ Below w.heap.size w wx ∧ Row wx wx.heap.size A (evCells ps) ∧ Row wx wx.heap.size A1 ((gapsE ps).map (Value.int .i64))) (fun i _ => n - (intOf i).toNat)
    case atStart => exact ⟨0, Nat.zero_le _, rfl, hbF6, hr6, hrow6⟩
    case round =>
      clear hbF6 hr6 hrow6
      obtain ⟨m, hm, rfl, hbw, hrw, hgw⟩ := hrel
      obtain ⟨wo, rfl⟩ : ∃ wo : World, wo = wr := ⟨_, rfl⟩
      by_cases hlt : m < n
      · have hl : m < ps.length := by rw [HN.out]; exact hlt
        have hG := gapB HVAL.out hl
        cases hf : (foll ps m).fits ps[m] with
        | false =>
          rw [hf] at hG
          simp only [Bool.not_false] at hG
          clear hf
          go_wp2_with fail
          go_loopw [7, 8] (fun v k wx => v = .int .i64 (-1) ∧ k = .int .i64 0 ∧ wx = wo) (fun _ _ _ => 0)
          case atStart => exact ⟨rfl, rfl, rfl⟩
          case round =>
            obtain ⟨rfl, rfl, rfl⟩ := hrel
            by_cases h0 : 0 < m
            · go_wp2_with fail
              refine (hasInt_any _ _ _ (gapsE ps) _ wr HL.out (by omega) hgw).mono ?_
              rintro e w8 ⟨rfl, rfl⟩
              go_wp2_with fail
              go_roundw
              case rel => exact ⟨m + 1, by omega, by go_num, hbw, hrw, hgw⟩
              case measure => simp [intOf]; omega
            · obtain rfl : m = 0 := by omega
              go_wp2_with fail
              go_roundw
              case rel => exact ⟨1, by omega, by go_num, hbw, hrw, hgw⟩
              case measure => simp [intOf]; omega
        | true =>
          rw [hf] at hG
          simp only [Bool.not_true] at hG
          have HEND := Lib.hid (manyOf_fits hl hf)
          have HONCE : Hid (∀ k (hk : k < ps.length), k < m → (foll ps k).fits ps[k] = true → ps[m].kd = 1 → ps[k].kd = 1 → ps[m].sl ≠ ps[k].sl) := fun k hk hkm hfk h1 h2 => seal_once hl hk hkm hf hfk h1 h2
          have hok := (okE_iff _).1 ((lvB_of HVAL.out).2 _ (List.getElem_mem hl))
          have HAT : Hid (∀ (W : World) (A : Option Addr), Row W W.heap.size A (evCells ps) → ∃ b off, A = some ⟨b, off, none⟩ ∧ W.cell? ⟨b, off + m * 4, none⟩ = some (.int .i64 ps[m].bx) ∧ W.cell? ⟨b, off + m * 4 + 1, none⟩ = some (.int .i64 ps[m].kd) ∧ W.cell? ⟨b, off + m * 4 + 2, none⟩ = some (.int .i64 ps[m].sl) ∧ W.cell? ⟨b, off + m * 4 + 3, none⟩ = some (.int .i64 ps[m].mn)) := fun W A hW => by
            obtain ⟨b, off, e, _, h0, h1, h2, h3⟩ := ev_at hW hl
            exact ⟨b, off, e, h0, h1, h2, h3⟩
          clear hf
          generalize ps[m] = p at *
          obtain ⟨vbx, vkd, vsl, vmn⟩ := p
          simp only at hok HEND HONCE HAT
          have hmn0 : 0 ≤ vmn := by omega
          clear hok
          go_wp2_with fail
          go_loopw [7, 8] (fun v i wx => ∃ k : Nat, k ≤ m ∧ i = .int .i64 k ∧ v = .int .i64 (manyOf (foll ps k) vbx) ∧ Below w.heap.size w wx ∧ Row wx wx.heap.size A (evCells ps) ∧ Row wx wx.heap.size A1 ((gapsE ps).map (Value.int .i64))) (fun _ i _ => m - (intOf i).toNat)
          case atStart => exact ⟨0, Nat.zero_le _, rfl, rfl, hbw, hrw, hgw⟩
          case round =>
            clear hbw hrw hgw
            obtain ⟨k, hk, rfl, rfl, hbk, hrk, hgk⟩ := hrel
            obtain ⟨b, off, rfl, hc0, hc1', hc2', hc3⟩ := HAT.out _ _ hrk
            by_cases hlt2 : k < m
            · have hlk : k < ps.length := by omega
              have hGk := gapB HVAL.out hlk
              cases hfk : (foll ps k).fits ps[k] with
              | false =>
                have HM := Lib.hid (manyOf_gap hlk hfk vbx)
                rw [hfk] at hGk
                simp only [Bool.not_false] at hGk
                clear hfk hc0 hc1' hc2' hc3
                generalize manyOf (foll ps k) vbx = M at *
                have HM2 : Hid (Value.int .i64 M = .int .i64 (manyOf (foll ps (k + 1)) vbx)) := by
                  show _ = _
                  rw [HM.out]
                clear HM
                go_wp2_with fail
                refine (hasInt_any _ _ _ (gapsE ps) _ wr HL.out (by omega) hgk).mono ?_
                rintro e w8 ⟨rfl, rfl⟩
                go_wp2_with fail
                go_quiet ((go_at_call 26; exact quiet_left (hasInt_any _ _ _ (gapsE ps) _ _ HL.out (by omega) hgk)))
                have hb7 := below_drewN hbk nq
                have hr7 : Row (wr.drewN nq) (wr.drewN nq).heap.size (some ⟨b, off, none⟩) (evCells ps) := hrk
                have hg7 : Row (wr.drewN nq) (wr.drewN nq).heap.size A1 ((gapsE ps).map (Value.int .i64)) := hgk
                clear hbk hrk hgk
                generalize wr.drewN nq = w7 at *
                go_wp2_with fail
                go_quiet ((go_at_call 26; exact quiet_left (hasInt_any _ _ _ (gapsE ps) _ _ HL.out (by omega) hg7)))
                go_wp2_with fail
                go_roundw
                case rel => exact ⟨k + 1, by omega, by go_num, HM2.out, below_drewN hb7 _, hr7, hg7⟩
                case measure => simp [intOf]; omega
              | true =>
                have HM := Lib.hid (manyOf_fit hlk hfk vbx)
                have HON := Lib.hid (HONCE.out k hlk hlt2 hfk)
                obtain ⟨kc0, kc1, kc2, kc3⟩ := ev_of hrk hlk
                rw [hfk] at hGk
                simp only [Bool.not_true] at hGk
                clear hfk HONCE HAT
                generalize ps[k] = q at *
                obtain ⟨kbx, kkd, ksl, kmn⟩ := q
                simp only at kc0 kc1 kc2 kc3 HM HON
                generalize manyOf (foll ps k) vbx = M at *
                by_cases e1 : vkd = 1
                · by_cases e2 : kkd = 1
                  · have q1 : (vsl == ksl) = false := by simpa using HON.out e1 e2
                    subst e1
                    subst e2
                    clear HON
                    by_cases eb : kbx = vbx
                    · have HM2 : Hid (Value.int .i64 kmn = .int .i64 (manyOf (foll ps (k + 1)) vbx)) := by
                        show _ = _
                        rw [HM.out, if_pos eb]
                      subst eb
                      clear HM
                      go_wp2_with fail
                      refine (hasInt_any _ _ _ (gapsE ps) _ wr HL.out (by omega) hgk).mono ?_
                      rintro e w8 ⟨rfl, rfl⟩
                      go_wp2_with fail
                      go_quiet ((go_at_call 26; exact quiet_left (hasInt_any _ _ _ (gapsE ps) _ _ HL.out (by omega) hgk)))
                      have hb7 := below_drewN hbk nq
                      have hr7 : Row (wr.drewN nq) (wr.drewN nq).heap.size (some ⟨b, off, none⟩) (evCells ps) := hrk
                      have hg7 : Row (wr.drewN nq) (wr.drewN nq).heap.size A1 ((gapsE ps).map (Value.int .i64)) := hgk
                      have kc0' : (wr.drewN nq).cell? ⟨b, off + k * 4, none⟩ = some (.int .i64 kbx) := kc0
                      have kc1' : (wr.drewN nq).cell? ⟨b, off + k * 4 + 1, none⟩ = some (.int .i64 1) := kc1
                      have kc2' : (wr.drewN nq).cell? ⟨b, off + k * 4 + 2, none⟩ = some (.int .i64 ksl) := kc2
                      have kc3' : (wr.drewN nq).cell? ⟨b, off + k * 4 + 3, none⟩ = some (.int .i64 kmn) := kc3
                      have hc0q : (wr.drewN nq).cell? ⟨b, off + m * 4, none⟩ = some (.int .i64 kbx) := hc0
                      have hc1'q : (wr.drewN nq).cell? ⟨b, off + m * 4 + 1, none⟩ = some (.int .i64 1) := hc1'
                      have hc2'q : (wr.drewN nq).cell? ⟨b, off + m * 4 + 2, none⟩ = some (.int .i64 vsl) := hc2'
                      have hc3q : (wr.drewN nq).cell? ⟨b, off + m * 4 + 3, none⟩ = some (.int .i64 vmn) := hc3
                      clear kc0 kc1 kc2 kc3 hc0 hc1' hc2' hc3
                      clear hbk hrk hgk
                      generalize wr.drewN nq = w7 at *
                      go_wp2_with fail
                      go_quiet ((go_at_call 26; exact quiet_left (hasInt_any _ _ _ (gapsE ps) _ _ HL.out (by omega) hg7)))
                      go_wp2_with fail
                      go_roundw
                      case rel => exact ⟨k + 1, by omega, by go_num, HM2.out, below_drewN hb7 _, hr7, hg7⟩
                      case measure => simp [intOf]; omega
                    · have HM2 : Hid (Value.int .i64 M = .int .i64 (manyOf (foll ps (k + 1)) vbx)) := by
                        show _ = _
                        rw [HM.out, if_neg eb]
                      have q9 : (kbx == vbx) = false := by simpa using eb
                      clear HM eb
                      go_wp2_with fail
                      refine (hasInt_any _ _ _ (gapsE ps) _ wr HL.out (by omega) hgk).mono ?_
                      rintro e w8 ⟨rfl, rfl⟩
                      go_wp2_with fail
                      go_quiet ((go_at_call 26; exact quiet_left (hasInt_any _ _ _ (gapsE ps) _ _ HL.out (by omega) hgk)))
                      have hb7 := below_drewN hbk nq
                      have hr7 : Row (wr.drewN nq) (wr.drewN nq).heap.size (some ⟨b, off, none⟩) (evCells ps) := hrk
                      have hg7 : Row (wr.drewN nq) (wr.drewN nq).heap.size A1 ((gapsE ps).map (Value.int .i64)) := hgk
                      have kc0' : (wr.drewN nq).cell? ⟨b, off + k * 4, none⟩ = some (.int .i64 kbx) := kc0
                      have kc1' : (wr.drewN nq).cell? ⟨b, off + k * 4 + 1, none⟩ = some (.int .i64 1) := kc1
                      have kc2' : (wr.drewN nq).cell? ⟨b, off + k * 4 + 2, none⟩ = some (.int .i64 ksl) := kc2
                      have kc3' : (wr.drewN nq).cell? ⟨b, off + k * 4 + 3, none⟩ = some (.int .i64 kmn) := kc3
                      have hc0q : (wr.drewN nq).cell? ⟨b, off + m * 4, none⟩ = some (.int .i64 vbx) := hc0
                      have hc1'q : (wr.drewN nq).cell? ⟨b, off + m * 4 + 1, none⟩ = some (.int .i64 1) := hc1'
                      have hc2'q : (wr.drewN nq).cell? ⟨b, off + m * 4 + 2, none⟩ = some (.int .i64 vsl) := hc2'
                      have hc3q : (wr.drewN nq).cell? ⟨b, off + m * 4 + 3, none⟩ = some (.int .i64 vmn) := hc3
                      clear kc0 kc1 kc2 kc3 hc0 hc1' hc2' hc3
                      clear hbk hrk hgk
                      generalize wr.drewN nq = w7 at *
                      go_wp2_with fail
                      go_quiet ((go_at_call 26; exact quiet_left (hasInt_any _ _ _ (gapsE ps) _ _ HL.out (by omega) hg7)))
                      go_wp2_with fail
                      go_roundw
                      case rel => exact ⟨k + 1, by omega, by go_num, HM2.out, below_drewN hb7 _, hr7, hg7⟩
                      case measure => simp [intOf]; omega
                  · have q2 : (kkd == 1) = false := by simpa using e2
                    subst e1
                    clear HON e2
                    by_cases eb : kbx = vbx
                    · have HM2 : Hid (Value.int .i64 kmn = .int .i64 (manyOf (foll ps (k + 1)) vbx)) := by
                        show _ = _
                        rw [HM.out, if_pos eb]
                      subst eb
                      clear HM
                      go_wp2_with fail
                      refine (hasInt_any _ _ _ (gapsE ps) _ wr HL.out (by omega) hgk).mono ?_
                      rintro e w8 ⟨rfl, rfl⟩
                      go_wp2_with fail
                      go_quiet ((go_at_call 26; exact quiet_left (hasInt_any _ _ _ (gapsE ps) _ _ HL.out (by omega) hgk)))
                      have hb7 := below_drewN hbk nq
                      have hr7 : Row (wr.drewN nq) (wr.drewN nq).heap.size (some ⟨b, off, none⟩) (evCells ps) := hrk
                      have hg7 : Row (wr.drewN nq) (wr.drewN nq).heap.size A1 ((gapsE ps).map (Value.int .i64)) := hgk
                      have kc0' : (wr.drewN nq).cell? ⟨b, off + k * 4, none⟩ = some (.int .i64 kbx) := kc0
                      have kc1' : (wr.drewN nq).cell? ⟨b, off + k * 4 + 1, none⟩ = some (.int .i64 kkd) := kc1
                      have kc2' : (wr.drewN nq).cell? ⟨b, off + k * 4 + 2, none⟩ = some (.int .i64 ksl) := kc2
                      have kc3' : (wr.drewN nq).cell? ⟨b, off + k * 4 + 3, none⟩ = some (.int .i64 kmn) := kc3
                      have hc0q : (wr.drewN nq).cell? ⟨b, off + m * 4, none⟩ = some (.int .i64 kbx) := hc0
                      have hc1'q : (wr.drewN nq).cell? ⟨b, off + m * 4 + 1, none⟩ = some (.int .i64 1) := hc1'
                      have hc2'q : (wr.drewN nq).cell? ⟨b, off + m * 4 + 2, none⟩ = some (.int .i64 vsl) := hc2'
                      have hc3q : (wr.drewN nq).cell? ⟨b, off + m * 4 + 3, none⟩ = some (.int .i64 vmn) := hc3
                      clear kc0 kc1 kc2 kc3 hc0 hc1' hc2' hc3
                      clear hbk hrk hgk
                      generalize wr.drewN nq = w7 at *
                      go_wp2_with fail
                      go_quiet ((go_at_call 26; exact quiet_left (hasInt_any _ _ _ (gapsE ps) _ _ HL.out (by omega) hg7)))
                      go_wp2_with fail
                      go_roundw
                      case rel => exact ⟨k + 1, by omega, by go_num, HM2.out, below_drewN hb7 _, hr7, hg7⟩
                      case measure => simp [intOf]; omega
                    · have HM2 : Hid (Value.int .i64 M = .int .i64 (manyOf (foll ps (k + 1)) vbx)) := by
                        show _ = _
                        rw [HM.out, if_neg eb]
                      have q9 : (kbx == vbx) = false := by simpa using eb
                      clear HM eb
                      go_wp2_with fail
                      refine (hasInt_any _ _ _ (gapsE ps) _ wr HL.out (by omega) hgk).mono ?_
                      rintro e w8 ⟨rfl, rfl⟩
                      go_wp2_with fail
                      go_quiet ((go_at_call 26; exact quiet_left (hasInt_any _ _ _ (gapsE ps) _ _ HL.out (by omega) hgk)))
                      have hb7 := below_drewN hbk nq
                      have hr7 : Row (wr.drewN nq) (wr.drewN nq).heap.size (some ⟨b, off, none⟩) (evCells ps) := hrk
                      have hg7 : Row (wr.drewN nq) (wr.drewN nq).heap.size A1 ((gapsE ps).map (Value.int .i64)) := hgk
                      have kc0' : (wr.drewN nq).cell? ⟨b, off + k * 4, none⟩ = some (.int .i64 kbx) := kc0
                      have kc1' : (wr.drewN nq).cell? ⟨b, off + k * 4 + 1, none⟩ = some (.int .i64 kkd) := kc1
                      have kc2' : (wr.drewN nq).cell? ⟨b, off + k * 4 + 2, none⟩ = some (.int .i64 ksl) := kc2
                      have kc3' : (wr.drewN nq).cell? ⟨b, off + k * 4 + 3, none⟩ = some (.int .i64 kmn) := kc3
                      have hc0q : (wr.drewN nq).cell? ⟨b, off + m * 4, none⟩ = some (.int .i64 vbx) := hc0
                      have hc1'q : (wr.drewN nq).cell? ⟨b, off + m * 4 + 1, none⟩ = some (.int .i64 1) := hc1'
                      have hc2'q : (wr.drewN nq).cell? ⟨b, off + m * 4 + 2, none⟩ = some (.int .i64 vsl) := hc2'
                      have hc3q : (wr.drewN nq).cell? ⟨b, off + m * 4 + 3, none⟩ = some (.int .i64 vmn) := hc3
                      clear kc0 kc1 kc2 kc3 hc0 hc1' hc2' hc3
                      clear hbk hrk hgk
                      generalize wr.drewN nq = w7 at *
                      go_wp2_with fail
                      go_quiet ((go_at_call 26; exact quiet_left (hasInt_any _ _ _ (gapsE ps) _ _ HL.out (by omega) hg7)))
                      go_wp2_with fail
                      go_roundw
                      case rel => exact ⟨k + 1, by omega, by go_num, HM2.out, below_drewN hb7 _, hr7, hg7⟩
                      case measure => simp [intOf]; omega
                · have q1 : (vkd == 1) = false := by simpa using e1
                  clear HON e1
                  by_cases eb : kbx = vbx
                  · have HM2 : Hid (Value.int .i64 kmn = .int .i64 (manyOf (foll ps (k + 1)) vbx)) := by
                      show _ = _
                      rw [HM.out, if_pos eb]
                    subst eb
                    clear HM
                    go_wp2_with fail
                    refine (hasInt_any _ _ _ (gapsE ps) _ wr HL.out (by omega) hgk).mono ?_
                    rintro e w8 ⟨rfl, rfl⟩
                    go_wp2_with fail
                    go_quiet ((go_at_call 26; exact quiet_left (hasInt_any _ _ _ (gapsE ps) _ _ HL.out (by omega) hgk)))
                    have hb7 := below_drewN hbk nq
                    have hr7 : Row (wr.drewN nq) (wr.drewN nq).heap.size (some ⟨b, off, none⟩) (evCells ps) := hrk
                    have hg7 : Row (wr.drewN nq) (wr.drewN nq).heap.size A1 ((gapsE ps).map (Value.int .i64)) := hgk
                    have kc0' : (wr.drewN nq).cell? ⟨b, off + k * 4, none⟩ = some (.int .i64 kbx) := kc0
                    have kc1' : (wr.drewN nq).cell? ⟨b, off + k * 4 + 1, none⟩ = some (.int .i64 kkd) := kc1
                    have kc2' : (wr.drewN nq).cell? ⟨b, off + k * 4 + 2, none⟩ = some (.int .i64 ksl) := kc2
                    have kc3' : (wr.drewN nq).cell? ⟨b, off + k * 4 + 3, none⟩ = some (.int .i64 kmn) := kc3
                    have hc0q : (wr.drewN nq).cell? ⟨b, off + m * 4, none⟩ = some (.int .i64 kbx) := hc0
                    have hc1'q : (wr.drewN nq).cell? ⟨b, off + m * 4 + 1, none⟩ = some (.int .i64 vkd) := hc1'
                    have hc2'q : (wr.drewN nq).cell? ⟨b, off + m * 4 + 2, none⟩ = some (.int .i64 vsl) := hc2'
                    have hc3q : (wr.drewN nq).cell? ⟨b, off + m * 4 + 3, none⟩ = some (.int .i64 vmn) := hc3
                    clear kc0 kc1 kc2 kc3 hc0 hc1' hc2' hc3
                    clear hbk hrk hgk
                    generalize wr.drewN nq = w7 at *
                    go_wp2_with fail
                    go_quiet ((go_at_call 26; exact quiet_left (hasInt_any _ _ _ (gapsE ps) _ _ HL.out (by omega) hg7)))
                    go_wp2_with fail
                    go_roundw
                    case rel => exact ⟨k + 1, by omega, by go_num, HM2.out, below_drewN hb7 _, hr7, hg7⟩
                    case measure => simp [intOf]; omega
                  · have HM2 : Hid (Value.int .i64 M = .int .i64 (manyOf (foll ps (k + 1)) vbx)) := by
                      show _ = _
                      rw [HM.out, if_neg eb]
                    have q9 : (kbx == vbx) = false := by simpa using eb
                    clear HM eb
                    go_wp2_with fail
                    refine (hasInt_any _ _ _ (gapsE ps) _ wr HL.out (by omega) hgk).mono ?_
                    rintro e w8 ⟨rfl, rfl⟩
                    go_wp2_with fail
                    go_quiet ((go_at_call 26; exact quiet_left (hasInt_any _ _ _ (gapsE ps) _ _ HL.out (by omega) hgk)))
                    have hb7 := below_drewN hbk nq
                    have hr7 : Row (wr.drewN nq) (wr.drewN nq).heap.size (some ⟨b, off, none⟩) (evCells ps) := hrk
                    have hg7 : Row (wr.drewN nq) (wr.drewN nq).heap.size A1 ((gapsE ps).map (Value.int .i64)) := hgk
                    have kc0' : (wr.drewN nq).cell? ⟨b, off + k * 4, none⟩ = some (.int .i64 kbx) := kc0
                    have kc1' : (wr.drewN nq).cell? ⟨b, off + k * 4 + 1, none⟩ = some (.int .i64 kkd) := kc1
                    have kc2' : (wr.drewN nq).cell? ⟨b, off + k * 4 + 2, none⟩ = some (.int .i64 ksl) := kc2
                    have kc3' : (wr.drewN nq).cell? ⟨b, off + k * 4 + 3, none⟩ = some (.int .i64 kmn) := kc3
                    have hc0q : (wr.drewN nq).cell? ⟨b, off + m * 4, none⟩ = some (.int .i64 vbx) := hc0
                    have hc1'q : (wr.drewN nq).cell? ⟨b, off + m * 4 + 1, none⟩ = some (.int .i64 vkd) := hc1'
                    have hc2'q : (wr.drewN nq).cell? ⟨b, off + m * 4 + 2, none⟩ = some (.int .i64 vsl) := hc2'
                    have hc3q : (wr.drewN nq).cell? ⟨b, off + m * 4 + 3, none⟩ = some (.int .i64 vmn) := hc3
                    clear kc0 kc1 kc2 kc3 hc0 hc1' hc2' hc3
                    clear hbk hrk hgk
                    generalize wr.drewN nq = w7 at *
                    go_wp2_with fail
                    go_quiet ((go_at_call 26; exact quiet_left (hasInt_any _ _ _ (gapsE ps) _ _ HL.out (by omega) hg7)))
                    go_wp2_with fail
                    go_roundw
                    case rel => exact ⟨k + 1, by omega, by go_num, HM2.out, below_drewN hb7 _, hr7, hg7⟩
                    case measure => simp [intOf]; omega
            · obtain rfl : k = m := by omega
              clear HONCE HAT
              have hend := HEND.out
              clear HEND
              generalize manyOf (foll ps k) vbx = M at *
              rcases hend with hneg | rfl
              · go_wp2_with fail
                go_roundw
                case rel => exact ⟨k + 1, by omega, by go_num, hbk, hrk, hgk⟩
                case measure => simp [intOf]; omega
              · go_wp2_with fail
                go_roundw
                case rel => exact ⟨k + 1, by omega, by go_num, hbk, hrk, hgk⟩
                case measure => simp [intOf]; omega
      · have hbF := hbw
        clear hrw hgw
        go_wp2_with fail
        go_ret
        exact ⟨rfl, hbF⟩
end Go.Proofs.Ytdmgaafmmjeelaa
