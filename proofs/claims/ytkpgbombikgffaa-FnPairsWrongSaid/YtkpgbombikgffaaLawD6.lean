/- The law FnPairsWrong returns true and leaves all that was there as it was. The conditions stand in each theorem. -/
import Derived.Test.YtkpgbombikgffaaLawD4
namespace Go.Proofs.Ytkpgbombikgffaa
open Go.RowKit Go.ChangeShapes
set_option linter.unusedVariables false

set_option maxRecDepth 100000 in
set_option maxHeartbeats 4000000 in
theorem FnPairsWrong_walk (a0 : Option Addr) (len0 cap0 : Nat) (z0 : List Int) (w : World) (w0 : IsRow .u8 w a0 len0 cap0 z0) :
    Calls Try.prog 8 #[.slice a0 len0 cap0] w fun e w' => e = .returned (.bool true) ∧ Below w.heap.size w w' := by
  have hcap := w0.len_le.2.1
  have hlen := w0.len_le.1
  unfold maxLen at hcap
  by_cases hbig : 1048576 < len0
  · clear w0
    go_enter Try.func8, Try.ntmps8
    go_wp2
    go_ret
    exact ⟨rfl, Below.refl _ _⟩
  have dd0 : decide ((1048576 : Int) < (len0 : Int)) = false := by simp; omega
  go_enter Try.func8, Try.ntmps8
  go_wp2_with fail
  refine (DrawPairsWrong_any _ _ _ _ _ w0).mono ?_
  rintro e w2 ⟨A, ps, n, c, rfl, hl, hn, hsh, hc1, hc2, hr, hb⟩
  have HN := Lib.hid hl
  have HS : Hid (∀ z ∈ ps, smallPr z) := fun z hz => short_small (hsh z hz)
  clear w0 hbig hcap hlen hl hsh hc1 hc2
  go_wp2_with fail
  refine (PairsWrong_any _ _ _ ps _ HN.out (by omega) HS.out hr).mono ?_
  rintro e w3 ⟨A1, k1, c1, rfl, hl1, hk1, hc1, hown1, hb3⟩
  have hr3 := (hr.below hb3).more hb3.size
  have hbF3 := hb.trans (hb3.mono hb.size)
  obtain ⟨_, _, he, _, _, _, hrow1⟩ := own_slice hown1
  injection he with e1 e2 e3
  subst e1 e3
  clear hr hb3 hb e2 hown1 hk1 hc1
  go_wp2_with fail
  refine (sPairsWrong_any _ _ _ ps _ HN.out (by omega) HS.out hr3).mono ?_
  rintro e w4 ⟨A2, k2, c2, rfl, hl2, hk2, hc2, hown2, hb4⟩
  have hr4 := (hr3.below hb4).more hb4.size
  have hrow1' := (hrow1.below hb4).more hb4.size
  have hbF4 := hbF3.trans (hb4.mono hbF3.size)
  obtain ⟨_, _, he, _, _, _, hrow2⟩ := own_slice hown2
  injection he with e1 e2 e3
  subst e1 e3
  obtain rfl : k2 = k1 := by omega
  clear hr3 hb4 hbF3 hrow1 e2 hown2 hk2 hc2 hl2
  have hk20 : k2 ≤ 20 := by have := wrg_len ps; omega
  have HL := Lib.hid hl1
  clear hl1
  go_wp2_with fail
  refine (sameInts_same _ _ _ _ _ (wrgL ps) _ HL.out (by omega) hrow1' hrow2).mono ?_
  rintro e w5 ⟨rfl, hb5⟩
  have hr5 := (hr4.below hb5).more hb5.size
  have hrow5 := (hrow1'.below hb5).more hb5.size
  have hrow5' := (hrow2.below hb5).more hb5.size
  have hbF5 := hbF4.trans (hb5.mono hbF4.size)
  clear hr4 hrow1' hrow2 hbF4 hb5
  go_wp2_with fail
  refine (sPairsValid_any _ _ _ ps _ HN.out (by omega) HS.out hr5).mono ?_
  rintro e w6 ⟨rfl, hb6⟩
  have hr6 := (hr5.below hb6).more hb6.size
  have hrow6 := (hrow5.below hb6).more hb6.size
  have hrow6' := (hrow5'.below hb6).more hb6.size
  have hbF6 := hbF5.trans (hb6.mono hbF5.size)
  clear hr5 hrow5 hrow5' hbF5 hb6
  cases hv : pvB ps with
  | false =>
    clear hv
    go_wp2_with fail
    refine (sameInts_same _ _ _ _ _ (wrgL ps) _ HL.out (by omega) hrow6 hrow6').mono ?_
    rintro e w7 ⟨rfl, hb7⟩
    clear hr6 hrow6 hrow6'
    go_wp2_with fail
    go_ret
    exact ⟨rfl, hbF6.trans (hb7.mono hbF6.size)⟩
  | true =>
    have HW := Lib.hid (wrg_yes hv)
    have HWL : Hid (k2 ≤ n) := by
      show _ ≤ _
      rw [← HL.out, HW.out, ← HN.out]
      exact wrongs_len ps 0
    have HR6 := Lib.hid hr6
    have HROW := Lib.hid hrow6
    clear hv hr6 hrow6 hrow6'
    go_wp2_with fail
    go_loopw [6, 7] (fun s i wx => ∃ k : Nat, k ≤ n ∧ i = .int .i64 k ∧ s = .int .i64 0 ∧ Below w6.heap.size w6 wx) (fun _ i _ => n - (intOf i).toNat)
    case atStart => exact ⟨0, Nat.zero_le _, rfl, rfl, Below.refl _ _⟩
    case round =>
      obtain ⟨k, hk, rfl, rfl, hbel⟩ := hrel
      by_cases hlt : k < n
      · have hl : k < ps.length := by rw [HN.out]; exact hlt
        have ha2 := (HR6.out.below hbel).more hbel.size
        have hrw := (HROW.out.below hbel).more hbel.size
        obtain ⟨b, off, rfl, hbw, hk0, hk1⟩ := pair_at ha2 hl
        have HP := Lib.hid (HS.out _ (List.getElem_mem hl))
        have HH : Hid (hasB (wrgL ps) (k : Int) = decide (ps[k].1 ≠ ps[k].2)) := by
          show _ = _
          rw [HW.out]
          exact wrongs_has ps k hl
        clear ha2
        generalize ps[k] = p at *
        obtain ⟨pa, pb⟩ := p
        simp only at hk0 hk1 HH
        by_cases he : pa = pb
        · have h1 : hasB (wrgL ps) (k : Int) = false := by
            rw [HH.out]
            exact decide_eq_false (fun h => h he)
          have HPE : Hid (pe (pa, pb) 0 1 = 0) := by
            show _ = _
            rw [he]
            exact pe_self pb 0 1
          have q : (pa.toList == pb.toList) = true := by rw [he]; simp
          clear he HH
          go_wp2_with fail
          go_quiet ((go_at_call 33; exact quiet_left (hasInt_any _ _ _ (wrgL ps) _ _ HL.out (by omega) hrw)))
          go_wp2_with fail
          refine (hasInt_any _ _ _ (wrgL ps) _ (wr.drewN nq) HL.out (by omega) hrw).mono ?_
          rintro e w8 ⟨rfl, rfl⟩
          go_wp2_with fail
          refine (PairError_any (pa, pb) 0 1 _ HP.out).mono ?_
          rintro e w9 ⟨rfl, hb9⟩
          have hbel2 : Below w6.heap.size w6 w9 := (below_drewN hbel _).trans (hb9.mono hbel.size)
          clear hb9 hk0 hk1 hrw hbel
          rw [HPE.out]
          go_wp2_with fail
          go_roundw
          case rel => exact ⟨k + 1, by omega, by go_num, rfl, hbel2⟩
          case measure => simp [intOf]; omega
        · have h1 : hasB (wrgL ps) (k : Int) = true := by
            rw [HH.out]
            exact decide_eq_true he
          have q := str_ne he
          clear he HH
          go_wp2_with fail
          go_quiet ((go_at_call 33; exact quiet_left (hasInt_any _ _ _ (wrgL ps) _ _ HL.out (by omega) hrw)))
          go_wp2_with fail
          refine (hasInt_any _ _ _ (wrgL ps) _ (wr.drewN nq) HL.out (by omega) hrw).mono ?_
          rintro e w8 ⟨rfl, rfl⟩
          clear hk0 hk1 hrw
          go_wp2_with fail
          go_roundw
          case rel => exact ⟨k + 1, by omega, by go_num, rfl, below_drewN hbel _⟩
          case measure => simp [intOf]; omega
      · have hbF := hbF6.trans (hbel.mono hbF6.size)
        have hle := HWL.out
        go_wp2_with fail
        go_ret
        exact ⟨rfl, hbF⟩

end Go.Proofs.Ytkpgbombikgffaa
