/- The law FnGapsBegin returns true and leaves all that was there as it was. The conditions stand in each theorem. -/
import Derived.Test.YtdmgaafmmjeelaaDrawC2
import Derived.Test.YtdmgaafmmjeelaaEvP
namespace Go.Proofs.Ytdmgaafmmjeelaa
open Go.RowKit Go.ChangeShapes
set_option linter.unusedVariables false

theorem gapsE_take {l : List Ev} (h : lvB l = true) {K : Nat} (hK : K ≤ l.length) : gapsE (l.take K) = (foll l K).gaps := by
  rw [gapsE_yes (lvB_take h K), List.length_take, Nat.min_eq_left hK, foll_take l K K (Nat.le_refl _)]
theorem gaps_more (l : List Ev) (k : Nat) : ∀ n, k ≤ n → (foll l k).gaps.length ≤ (foll l n).gaps.length
  | 0, h => by
    obtain rfl : k = 0 := by omega
    exact Nat.le_refl _
  | n + 1, h => by
    rcases Nat.lt_or_ge n k with h' | h'
    · obtain rfl : k = n + 1 := by omega
      exact Nat.le_refl _
    · have ih := gaps_more l k n h'
      rcases gaps_succ l n with e | ⟨_, e⟩
      · rw [e]; exact ih
      · rw [e, List.length_append]; omega
theorem has_take {l : List Ev} (h : lvB l = true) {K i : Nat} (hK : K ≤ l.length) (hi : i < K) : hasB (gapsE (l.take K)) (i : Int) = hasB (gapsE l) (i : Int) := by
  rw [gapsE_take h hK, gapsE_yes h]
  have e := (gaps_mem l i K hi).trans (gaps_mem l i l.length (by omega)).symm
  cases hb : hasB (foll l l.length).gaps (i : Int) with
  | true => exact (hasB_iff _ _).2 (e.2 ((hasB_iff _ _).1 hb))
  | false =>
    cases ha : hasB (foll l K).gaps (i : Int) with
    | false => rfl
    | true =>
      have := (hasB_iff _ _).2 (e.1 ((hasB_iff _ _).1 ha))
      rw [hb] at this
      cases this

set_option maxRecDepth 100000 in
set_option maxHeartbeats 4000000 in
theorem FnGapsBegin_walk (a0 : Option Addr) (len0 cap0 : Nat) (z0 : List Int) (a1 : Option Addr) (len1 cap1 : Nat) (z1 : List Int) (w : World) (w0 : IsRow .u8 w a0 len0 cap0 z0) (w1 : IsRow .u8 w a1 len1 cap1 z1) :
    Calls Try.prog 10 #[.slice a0 len0 cap0, .slice a1 len1 cap1] w fun e w' => e = .returned (.bool true) ∧ Below w.heap.size w w' := by
  have hcap := w0.len_le.2.1
  have hlen := w0.len_le.1
  have hcap1 := w1.len_le.2.1
  have hlen1 := w1.len_le.1
  unfold maxLen at hcap hcap1
  clear w1
  by_cases hbig : 1048576 < len0
  · clear w0
    go_enter Try.func10, Try.ntmps10
    go_wp2
    go_ret
    exact ⟨rfl, Below.refl _ _⟩
  by_cases hbig1 : 1048576 < len1
  · clear w0
    go_enter Try.func10, Try.ntmps10
    go_wp2
    go_ret
    exact ⟨rfl, Below.refl _ _⟩
  have dd0 : decide ((1048576 : Int) < (len0 : Int)) = false := by simp; omega
  have dd1 : decide ((1048576 : Int) < (len1 : Int)) = false := by simp; omega
  go_enter Try.func10, Try.ntmps10
  go_wp2_with fail
  refine (DrawLedgerGaps_any _ _ _ _ _ w0).mono ?_
  rintro e w2 ⟨A, ps, n, c, rfl, hl, hn, hc1, hc2, hr, hb⟩
  have HN := Lib.hid hl
  clear w0 hbig hcap hlen hl
  unfold maxLen at hc2
  go_wp2_with fail
  refine (LedgerGaps_any _ _ _ ps _ HN.out (by omega) hr).mono ?_
  rintro e w3 ⟨A1, k1, c1, rfl, hl1, hk1, hcc1, hown1, hb3⟩
  have hr3 := (hr.below hb3).more hb3.size
  have hbF3 := hb.trans (hb3.mono hb.size)
  have hrow1 := own_row hown1
  clear hr hb3 hb hown1 hk1 hcc1
  go_wp2_with fail
  refine (sLedgerGaps_any _ _ _ ps _ HN.out (by omega) hr3).mono ?_
  rintro e w4 ⟨A2, k2, c2, rfl, hl2, hk2, hcc2, hown2, hb4⟩
  have hr4 := (hr3.below hb4).more hb4.size
  have hrow1' := (hrow1.below hb4).more hb4.size
  have hbF4 := hbF3.trans (hb4.mono hbF3.size)
  have hrow2 := own_row hown2
  obtain rfl : k2 = k1 := by omega
  clear hr3 hb4 hbF3 hrow1 hown2 hk2 hcc2 hl2
  have hk20 : k2 ≤ 20 := by have := gapsE_len ps; omega
  have HL := Lib.hid hl1
  clear hl1
  go_wp2_with fail
  refine (sameInts_same _ _ _ _ _ (gapsE ps) _ HL.out (by omega) hrow1' hrow2).mono ?_
  rintro e w5 ⟨rfl, hb5⟩
  have hr5 := (hr4.below hb5).more hb5.size
  have hrow5 := (hrow1'.below hb5).more hb5.size
  have hrow5' := (hrow2.below hb5).more hb5.size
  have hbF5 := hbF4.trans (hb5.mono hbF4.size)
  clear hr4 hrow1' hrow2 hbF4 hb5
  go_wp2_with fail
  refine (sLedgerValid_any _ _ _ ps _ HN.out (by omega) hr5).mono ?_
  rintro e w6 ⟨rfl, hb6⟩
  have hr6 := (hr5.below hb6).more hb6.size
  have hrow6 := (hrow5.below hb6).more hb6.size
  have hrow6' := (hrow5'.below hb6).more hb6.size
  have hbF6 := hbF5.trans (hb6.mono hbF5.size)
  clear hr5 hrow5 hrow5' hbF5 hb6
  cases hv : lvB ps with
  | false =>
    clear hv
    go_wp2_with fail
    refine (sameInts_same _ _ _ _ _ (gapsE ps) _ HL.out (by omega) hrow6 hrow6').mono ?_
    rintro e w7 ⟨rfl, hb7⟩
    clear hr6 hrow6 hrow6'
    go_wp2_with fail
    go_ret
    exact ⟨rfl, hbF6.trans (hb7.mono hbF6.size)⟩
  | true =>
    obtain ⟨K, hK⟩ : ∃ K : Nat, K = len1 % (n + 1) := ⟨_, rfl⟩
    have hKn : K ≤ n := by have := Nat.mod_lt len1 (show 0 < n + 1 by omega); omega
    have eK : (len1 : Int) % ((n : Int) + 1) = (K : Int) := by rw [hK]; rfl
    have hKl : K ≤ ps.length := by rw [HN.out]; exact hKn
    have HLK : Hid ((ps.take K).length = K) := by
      show _ = _
      rw [List.length_take]
      omega
    have HHAS : Hid (∀ i : Nat, i < K → hasB (gapsE (ps.take K)) (i : Int) = hasB (gapsE ps) (i : Int)) := fun i hi => has_take hv hKl hi
    have HLE : Hid ((gapsE (ps.take K)).length ≤ (gapsE ps).length) := by
      show _ ≤ _
      rw [gapsE_take hv hKl, gapsE_yes hv]
      exact gaps_more _ _ _ hKl
    have hr6' : Row w6 w6.heap.size A (evCells (ps.take K)) := by rw [evCells_take]; exact hr6.take _
    clear hK hr6 hrow6' hKl hv
    go_wp2_with fail
    simp only [eK]
    clear eK
    go_wp2_with fail
    refine (LedgerGaps_any _ _ _ (ps.take K) _ HLK.out (by omega) hr6').mono ?_
    rintro e w7 ⟨A3, k3, c3, rfl, hl3, hk3, hcc3, hown3, hb7⟩
    have HROW1 := Lib.hid ((hrow6.below hb7).more hb7.size)
    have HROW3 := Lib.hid (own_row hown3)
    have HBF := Lib.hid (hbF6.trans (hb7.mono hbF6.size))
    have hk32 : k3 ≤ k2 := by have := HLE.out; have := HL.out; omega
    have HL3 := Lib.hid hl3
    clear hr6' hrow6 hown3 hb7 hbF6 hl3 hk3 hcc3
    go_wp2_with fail
    go_loopw [10] (fun i wx => ∃ k : Nat, k ≤ K ∧ i = .int .i64 k ∧ wx = w7) (fun i _ => K - (intOf i).toNat)
    case atStart => exact ⟨0, Nat.zero_le _, rfl, rfl⟩
    case round =>
      obtain ⟨k, hk, rfl, rfl⟩ := hrel
      by_cases hlt : k < K
      · have hh := HHAS.out k hlt
        go_wp2_with fail
        refine (hasInt_any _ _ _ (gapsE (ps.take K)) _ _ HL3.out (by omega) HROW3.out).mono ?_
        rintro e w8 ⟨rfl, rfl⟩
        go_wp2_with fail
        refine (hasInt_any _ _ _ (gapsE ps) _ _ HL.out (by omega) HROW1.out).mono ?_
        rintro e w9 ⟨rfl, rfl⟩
        clear hh
        generalize hasB (gapsE ps) (k : Int) = bb
        cases bb
        all_goals
          go_wp2_with fail
          go_roundw
          case rel => exact ⟨k + 1, by omega, by go_num, trivial⟩
          case measure => simp [intOf]; omega
      · obtain rfl : k = K := by omega
        go_wp2_with fail
        go_ret
        exact ⟨rfl, HBF.out⟩
end Go.Proofs.Ytdmgaafmmjeelaa
