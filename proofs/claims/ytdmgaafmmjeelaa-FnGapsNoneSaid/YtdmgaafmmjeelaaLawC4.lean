/- The law FnGapsNone returns true and leaves all that was there as it was. The conditions stand in each theorem. -/
import Derived.Test.YtdmgaafmmjeelaaDrawC2
import Derived.Test.YtdmgaafmmjeelaaEvP
namespace Go.Proofs.Ytdmgaafmmjeelaa
open Go.RowKit Go.ChangeShapes
set_option linter.unusedVariables false

set_option maxRecDepth 100000 in
set_option maxHeartbeats 4000000 in
theorem FnGapsNone_walk (a0 : Option Addr) (len0 cap0 : Nat) (z0 : List Int) (w : World) (w0 : IsRow .u8 w a0 len0 cap0 z0) :
    Calls Try.prog 11 #[.slice a0 len0 cap0] w fun e w' => e = .returned (.bool true) ∧ Below w.heap.size w w' := by
  have hcap := w0.len_le.2.1
  have hlen := w0.len_le.1
  unfold maxLen at hcap
  by_cases hbig : 1048576 < len0
  · clear w0
    go_enter Try.func11, Try.ntmps11
    go_wp2
    go_ret
    exact ⟨rfl, Below.refl _ _⟩
  have dd0 : decide ((1048576 : Int) < (len0 : Int)) = false := by simp; omega
  go_enter Try.func11, Try.ntmps11
  go_wp2_with fail
  refine (DrawLedgerGaps_any _ _ _ _ _ w0).mono ?_
  rintro e w2 ⟨A, ps, n, c, rfl, hl, hn, hc1, hc2, hr, hb⟩
  have HN := Lib.hid hl
  clear w0 hbig hcap hlen hl
  unfold maxLen at hc2
  go_wp2_with fail
  refine (LedgerGaps_any _ _ _ ps _ HN.out (by omega) hr).mono ?_
  rintro e w3 ⟨A1, k1, c1, rfl, hl1, hk1, hcc1, hown1, hb3⟩
  have hr3 := (hr.below hb3).more hb3.size
  have hbF3 := hb.trans (hb3.mono hb.size)
  have hrow1 := own_row hown1
  clear hr hb3 hb hown1 hk1 hcc1
  go_wp2_with fail
  refine (sLedgerGaps_any _ _ _ ps _ HN.out (by omega) hr3).mono ?_
  rintro e w4 ⟨A2, k2, c2, rfl, hl2, hk2, hcc2, hown2, hb4⟩
  have hr4 := (hr3.below hb4).more hb4.size
  have hrow1' := (hrow1.below hb4).more hb4.size
  have hbF4 := hbF3.trans (hb4.mono hbF3.size)
  have hrow2 := own_row hown2
  obtain rfl : k2 = k1 := by omega
  clear hr3 hb4 hbF3 hrow1 hown2 hk2 hcc2 hl2
  have hk20 : k2 ≤ 20 := by have := gapsE_len ps; omega
  have HL := Lib.hid hl1
  clear hl1
  go_wp2_with fail
  refine (sameInts_same _ _ _ _ _ (gapsE ps) _ HL.out (by omega) hrow1' hrow2).mono ?_
  rintro e w5 ⟨rfl, hb5⟩
  have hr5 := (hr4.below hb5).more hb5.size
  have hrow5 := (hrow1'.below hb5).more hb5.size
  have hrow5' := (hrow2.below hb5).more hb5.size
  have hbF5 := hbF4.trans (hb5.mono hbF4.size)
  clear hr4 hrow1' hrow2 hbF4 hb5
  go_wp2_with fail
  refine (sLedgerValid_any _ _ _ ps _ HN.out (by omega) hr5).mono ?_
  rintro e w6 ⟨rfl, hb6⟩
  have hr6 := (hr5.below hb6).more hb6.size
  have hrow6 := (hrow5.below hb6).more hb6.size
  have hrow6' := (hrow5'.below hb6).more hb6.size
  have hbF6 := hbF5.trans (hb6.mono hbF5.size)
  clear hr5 hrow5 hrow5' hbF5 hb6
  cases hv : lvB ps with
  | false =>
    clear hv
    go_wp2_with fail
    refine (sameInts_same _ _ _ _ _ (gapsE ps) _ HL.out (by omega) hrow6 hrow6').mono ?_
    rintro e w7 ⟨rfl, hb7⟩
    clear hr6 hrow6 hrow6'
    go_wp2_with fail
    go_ret
    exact ⟨rfl, hbF6.trans (hb7.mono hbF6.size)⟩
  | true =>
    have HVAL := Lib.hid hv
    have HBF := Lib.hid (hbF6.alloc hbF6.size (.cells #[] 36))
    have hsz6 := hbF6.size
    obtain ⟨i0, hi0, hz0, hz1, hz2⟩ := info_parts info_ev
    have HI := Lib.hid hi0
    have HZ0 := Lib.hid hz0
    have HZ1 := Lib.hid hz1
    have HZ2 := Lib.hid hz2
    have hown7 := own_empty w6 w6.heap.size 36 4 (Nat.le_refl _)
    have hsz7 : w6.heap.size ≤ (w6.alloc (.cells #[] 36)).heap.size := by simp
    have hr7 : Row (w6.alloc (.cells #[] 36)) w6.heap.size A (evCells ps) := hr6.below ((Below.refl w6.heap.size w6).alloc (Nat.le_refl _) _)
    have hg7 : Row (w6.alloc (.cells #[] 36)) w6.heap.size A1 ((gapsE ps).map (Value.int .i64)) := hrow6.below ((Below.refl w6.heap.size w6).alloc (Nat.le_refl _) _)
    clear hv hrow6' hbF6 hi0 hz0 hz1 hz2 hr6 hrow6
    go_wp2_with fail
    generalize w6.alloc (.cells #[] 36) = w7 at *
    have HB6 := Lib.hid hsz6
    generalize w6.heap.size = B6 at *
    go_loopw [6, 7] (fun v i wx => ∃ (m : Nat) (S : List Ev) (q : Nat), m ≤ n ∧ i = .int .i64 m ∧ Hid (S.length = q) ∧ q ≤ m ∧ Hid (S = keepE ps m) ∧ Below w.heap.size w wx ∧ B6 ≤ wx.heap.size ∧ Row wx B6 A (evCells ps) ∧ Row wx B6 A1 ((gapsE ps).map (Value.int .i64)) ∧ wx.ownsRow B6 36 4 v q (evCells S)) (fun _ i _ => n - (intOf i).toNat)
    case atStart => exact ⟨0, [], 0, Nat.zero_le _, rfl, rfl, Nat.le_refl _, rfl, HBF.out, hsz7, hr7, hg7, hown7⟩
    case round =>
      clear HBF hsz7 hr7 hg7 hown7
      obtain ⟨m, S, q, hm, rfl, HQ, hq, HS, hbw, hsw, hrw, hgw, hownw⟩ := hrel
      obtain ⟨AS, cS, rfl, hcS1, hcS2, _, hrowS⟩ := own_sliceN hownw
      unfold maxLen at hcS2
      by_cases hlt2 : m < n
      · have hl : m < ps.length := by rw [HN.out]; exact hlt2
        have hG := gapB HVAL.out hl
        have hgw2 := hgw.more hsw
        clear hrowS
        cases hf : (foll ps m).fits ps[m] with
        | false =>
          have HS2 : Hid (S = keepE ps (m + 1)) := by
            show _ = _
            rw [keepE_gap hl hf]
            exact HS.out
          rw [hf] at hG
          simp only [Bool.not_false] at hG
          clear hf
          go_wp2_with fail
          refine (hasInt_any _ _ _ (gapsE ps) _ _ HL.out (by omega) hgw2).mono ?_
          rintro e w8 ⟨rfl, rfl⟩
          go_wp2_with fail
          go_roundw
          case rel => exact ⟨m + 1, S, q, by omega, by go_num, HQ.out, by omega, HS2.out, hbw, hsw, hrw, hgw, hownw⟩
          case measure => simp [intOf]; omega
        | true =>
          have HS2 : Hid (S ++ [ps[m]] = keepE ps (m + 1)) := by
            show _ = _
            rw [keepE_fit hl hf, HS.out]
          obtain ⟨b, off, rfl, hbw1, hc0, hc1', hc2', hc3⟩ := ev_at hrw hl
          rw [hf] at hG
          simp only [Bool.not_true] at hG
          clear hf
          generalize ps[m] = p at *
          obtain ⟨vbx, vkd, vsl, vmn⟩ := p
          simp only at hc0 hc1' hc2' hc3
          go_wp2_with fail
          refine (hasInt_any _ _ _ (gapsE ps) _ _ HL.out (by omega) hgw2).mono ?_
          rintro e w8 ⟨rfl, rfl⟩
          go_wp2_with (at_builtin; refine wpList_append_own_at _ rfl (.tmp 40) (.tmp 45) _ rfl B6 36 i0 _ 4 32 Try.underlying25 HI.out HZ0.out HZ1.out HZ2.out rfl (by omega) (.slice AS q cS) _ _ rfl (own_alloc hownw _) ⟨wr.heap.size, 0, none⟩ 1 1 [.int .i64 vbx, .int .i64 vkd, .int .i64 vsl, .int .i64 vmn] rfl rfl (World.news_of_block (heap_alloc_new wr _)) (by intro u hu; simp at hu; rcases hu with rfl | rfl | rfl | rfl <;> rfl) (by unfold maxLen; omega) (by omega) (by simp; omega) ?_; intro v' w12 hown12 hgrow12 hnil12 hat12; clear hnil12 hat12)
          go_roundw
          case rel =>
            have hs12 := hgrow12.size
            simp at hs12
            have hbk : ∀ x, (Value.slice AS q cS).ownBlock = some x → B6 ≤ x := fun x hx => (own_block hownw x hx).1
            refine ⟨m + 1, S ++ [⟨vbx, vkd, vsl, vmn⟩], q + 1, by omega, by go_num, ?_, by omega, HS2, (hbw.alloc hbw.size _).grown hgrow12 (by have := hbw.size; simp; omega) (fun x hx => Nat.le_trans HB6.out (hbk x hx)), by omega, ?_, ?_, ?_⟩
            · show (S ++ [_]).length = q + 1
              rw [List.length_append, HQ.out]
              rfl
            · exact hrw.keep fun p hp => (World.cell?_of_block (hgrow12.block p.block (by simp; omega) (fun e => by have := hbk _ e.symm; omega))).trans (World.cell?_alloc_lt wr _ p (by omega))
            · exact hgw.keep fun p hp => (World.cell?_of_block (hgrow12.block p.block (by simp; omega) (fun e => by have := hbk _ e.symm; omega))).trans (World.cell?_alloc_lt wr _ p (by omega))
            · rw [evCells_app]
              exact hown12
          case measure => simp [intOf]; omega
      · obtain rfl : m = n := by omega
        have hbF := hbw
        have HGE : Hid ((gapsE S).length = 0) := by
          show _ = _
          rw [HS.out, ← HN.out, keepE_none HVAL.out]
          rfl
        clear hrw hgw hownw
        go_wp2_with fail
        refine (LedgerGaps_any _ _ _ S _ HQ.out (by omega) hrowS).mono ?_
        rintro e w12 ⟨A4, k4, c4, rfl, hl4, hk4, hcc4, hown4, hb4⟩
        obtain rfl : k4 = 0 := by rw [← hl4]; exact HGE.out
        have hbF4 := hbF.trans (hb4.mono hbF.size)
        clear hl4 hown4 hb4 hbF hrowS
        go_wp2_with fail
        go_ret
        exact ⟨rfl, hbF4⟩
end Go.Proofs.Ytdmgaafmmjeelaa
