/- The law FnLevel returns true and leaves all that was there as it was. The conditions stand in each theorem. -/
import Derived.Test.YtjanmgiliooocaaE15
import Derived.Test.YtjanmgiliooocaaE10
import Derived.Test.YtjanmgiliooocaaLevR
import Derived.Test.YtjanmgiliooocaaSeq
namespace Go.Proofs.Ytjanmgiliooocaa
open Go.RowKit Go.ChangeShapes
open Man
set_option linter.unusedVariables false

set_option maxRecDepth 100000 in
set_option maxHeartbeats 16000000 in
theorem FnLevel_walk (a0 : Option Addr) (len0 cap0 : Nat) (z0 : List Int) (w : World) (w0 : IsRow .u8 w a0 len0 cap0 z0) :
    Calls Try.prog 3 #[.slice a0 len0 cap0] w fun e w' => e = .returned (.bool true) ∧ Below w.heap.size w w' := by
  have hcap := w0.len_le.2.1
  have hlen := w0.len_le.1
  unfold maxLen at hcap
  by_cases hbig : 1048576 < len0
  · clear w0
    go_enter Try.func3, Try.ntmps3
    go_wp2
    go_ret
    exact ⟨rfl, Below.refl _ _⟩
  have dd0 : decide ((1048576 : Int) < (len0 : Int)) = false := by simp; omega
  go_enter Try.func3, Try.ntmps3
  go_wp2_with fail
  refine (DrawDistrictLevel_any _ _ _ _ _ w0 (by omega)).mono ?_
  rintro e w2 ⟨A, k, c, rs, s, fu, me, Lo, l, f, lots, rfl, h1, h2, h3, h4, h5, h6, h7, h8, h9, h10, hb⟩
  obtain ⟨F, rfl⟩ := Int.eq_ofNat_of_zero_le h4
  have HN := Lib.hid h1
  have HLL := Lib.hid h6
  have HF9 := Lib.hid h9
  clear w0 hbig hcap hlen h1 h4 h6 h9
  go_wp2_with fail
  refine (DistrictLevel_any A k c rs s _ me Lo l f lots w2 HN.out (by omega) h3 HLL.out (by omega) h8 HF9.out h10).mono ?_
  rintro e w3 ⟨A1, k1, c1, rfl, q1, q2, q3, q4, q5, hb3⟩
  have hM3 := h3.on hb3
  have hL3 := h10.on hb3
  have hbF3 := hb.trans (hb3.mono hb.size)
  have HQ1 := Lib.hid q1
  have HO1 := Lib.hid q5
  clear h3 h10 hb hb3 q1 q3 q4 q5
  go_wp2_with fail
  refine (sDistrictLevel_any A k c rs s _ me Lo l f lots w3 HN.out (by omega) hM3 HLL.out (by omega) h8 HF9.out hL3).mono ?_
  rintro e w4 ⟨A2, k2, c2, rfl, r1, r2, r3, r4, r5, hb4⟩
  obtain rfl : k2 = k1 := by rw [← HQ1.out, ← r1]
  have hM4 := hM3.on hb4
  have hL4 := hL3.on hb4
  have hbF4 := hbF3.trans (hb4.mono hbF3.size)
  have hO4 := HO1.out.below hb4
  have hrow1 := hO4.rowAt.2.2
  have hrow2 := r5.rowAt.2.2
  have HSM := Lib.hid (sameInts_same A1 A2 k2 c1 c2 _ w4 HQ1.out q2 hrow1 hrow2)
  clear hM3 hL3 hb4 hbF3 HO1 r1 r3 r4 r5
  cases hB : dlB (vals rs) s (F : Int) me lots with
  | false =>
    clear hM4 hL4 hO4
    go_wp2_with fail
    refine HSM.out.mono ?_
    rintro e w5 ⟨rfl, hb5⟩
    have HSM2 := Lib.hid (sameInts_same A1 A2 k2 c1 c2 _ w5 HQ1.out q2 (hrow1.on hb5) (hrow2.on hb5))
    have hbF5 := hbF4.trans (hb5.mono hbF4.size)
    clear hrow1 hrow2 HSM hb5 hbF4
    go_wp2_with fail
    refine HSM2.out.mono ?_
    rintro e w6 ⟨rfl, hb6⟩
    have hbF6 := hbF5.trans (hb6.mono hbF5.size)
    clear HSM2 hb6 hbF5
    go_wp2_with fail
    go_ret
    exact ⟨rfl, hbF6⟩
  | true =>
    have H := levF_of hB
    have hsF := (dlB_of hB).2.2
    have hs0 : 0 ≤ s := (dsB_of H.dss).2.1
    have hk := dv_rows H.dvv
    rw [HN.out] at hk
    rw [vals_len, HN.out] at hsF
    have hsn : 0 ≤ s * (k : Int) := Int.mul_nonneg hs0 (by omega)
    have HWD : Hid (wid (vals rs) = l) := by
      show _ = _
      rw [← H.ll, HLL.out]
    have HE : Hid (dlL (vals rs) s (F : Int) me lots = lev (tog l (vals rs)) me lots (givL (vals rs) s me lots) F) := by
      show _ = _
      rw [dlL_yes hB, HWD.out, Int.toNat_natCast]
    rw [HWD.out] at H hk
    have HH := Lib.hid H
    have HLE : Hid ((lev (tog l (vals rs)) me lots (givL (vals rs) s me lots) F).length = l) := by
      show _ = _
      rw [lev_len, H.G.len]
    obtain rfl : l = k2 := by rw [← HQ1.out, HE.out, HLE.out]
    obtain ⟨hk1, hk4, hl5, hl1, _⟩ := hk
    rw [HE.out] at HQ1 hO4
    have HO4 := Lib.hid hO4
    clear hrow1 hrow2 H hO4 h2 h7
    go_wp2_with fail
    refine HSM.out.mono ?_
    rintro e w5 ⟨rfl, hb5⟩
    have hM5 := hM4.on hb5
    have hL5 := hL4.on hb5
    have hbF5 := hbF4.trans (hb5.mono hbF4.size)
    have HO5 := Lib.hid (HO4.out.below hb5)
    clear HSM hM4 hL4 hb5 hbF4 HO4
    go_wp2_with fail
    refine (DistrictVotes_any A k c rs w5 HN.out (by omega) hM5).mono ?_
    rintro e w6 ⟨A3, k3, c3, rfl, t1, t2, t3, t4, t5, hb6⟩
    rw [HH.out.dvv]
    have hM6 := hM5.on hb6
    have hL6 := hL5.on hb6
    have hbF6 := hbF5.trans (hb6.mono hbF5.size)
    have HO6 := Lib.hid (HO5.out.below hb6)
    have HV3 : Hid (dtL (vals rs) = (tog l (vals rs))) := by
      show dtL (vals rs) = _
      unfold dtL
      rw [HH.out.dvv, HWD.out]
      rfl
    obtain rfl : l = k3 := by rw [← t1, HV3.out, tog_len]
    rw [HV3.out] at t5
    have HA6 := Lib.hid t5
    clear hM5 hL5 hb6 hbF5 HO5 t1 t3 t4 t5
    have HX : Hid (∀ X : Int, X = ((F - 1 : Nat) : Int) → dlB (vals rs) s X me lots = true ∧ dlL (vals rs) s X me lots = lev (tog l (vals rs)) me lots (givL (vals rs) s me lots) (F - 1)) := fun X hX => by
      subst hX
      have hb1 : dlB (vals rs) s ((F - 1 : Nat) : Int) me lots = true := dlB_yes HH.out.dss (by omega) (by rw [vals_len, HN.out]; omega)
      exact ⟨hb1, by rw [dlL_yes hb1, HWD.out, Int.toNat_natCast]⟩
    have hvl : (vals rs).length = k := by rw [vals_len, HN.out]
    have HLV : Hid (∀ j, j < l → ∀ h1 h2 h3, _) := fun j hj h1 h2 h3 => level_ok HH.out (F := F) (by rw [hvl]; exact hsF) hj h1 h2 h3
    have HLX : Hid ((lev (tog l (vals rs)) me lots (givL (vals rs) s me lots) (F - 1)).length = l) := by
      show _ = _
      rw [lev_len, HH.out.G.len]
    have HLA : Hid ((tog l (vals rs)).length = l) := tog_len _ _
    have HSUM := Lib.hid (lev_all HH.out (F := F) (by rw [hvl]; exact hsF) (by rw [hvl]; exact hsn))
    clear hvl hB
    go_wp2_with fail
    all_goals
      first
        | (have hx := HX.out 0 (by omega))
        | (have hx := HX.out ((F : Int) - 1) (by omega))
      refine (DistrictLevel_any A k c rs s _ me Lo l f lots w6 HN.out (by omega) hM6 HLL.out (by omega) h8 HF9.out hL6).mono ?_
      rintro e w7 ⟨A4, k4, c4, rfl, u1, u2, u3, u4, u5, hb7⟩
      rw [hx.2] at u1 u5
      rw [hx.1]
      obtain rfl : l = k4 := by rw [← u1, HLX.out]
      have hbF7 := hbF6.trans (hb7.mono hbF6.size)
      have hO7 := (HO6.out.below hb7).rowAt.2.2
      have hA7 := (HA6.out.below hb7).rowAt.2.2
      have hX7 := u5.rowAt.2.2
      clear hx hM6 hL6 hb7 hbF6 HO6 HA6 u1 u3 u4 u5 HX
      generalize (tog l (vals rs)) = va at *
      generalize lev va me lots (givL (vals rs) s me lots) (F - 1) = vx at *
      generalize lev va me lots (givL (vals rs) s me lots) F = vo at *
      go_wp2_with fail
      go_loopw [16] (fun i wx => ∃ j : Nat, j ≤ l ∧ i = .int .i64 j ∧ Below w7.heap.size w7 wx) (fun i _ => l - (intOf i).toNat)
      case atStart => exact ⟨0, Nat.zero_le _, rfl, Below.refl _ _⟩
      case round =>
        obtain ⟨j, hj, rfl, hbel⟩ := hrel
        by_cases hlt : j < l
        · have p1 : j < vo.length := by rw [HLE.out]; exact hlt
          have p2 : j < vx.length := by rw [HLX.out]; exact hlt
          have p3 : j < va.length := by rw [HLA.out]; exact hlt
          obtain ⟨hz, hle⟩ := HLV.out j hlt p1 p2 p3
          obtain ⟨bo, oo, rfl, _, co⟩ := int_at (hO7.below hbel) p1
          obtain ⟨bx, ox, rfl, _, cx⟩ := int_at (hX7.below hbel) p2
          obtain ⟨ba, oa, rfl, _, ca⟩ := int_at (hA7.below hbel) p3
          generalize vo[j] = yo at *
          generalize vx[j] = yx at *
          generalize va[j] = ya at *
          have hdec : decide (yo < yx) = false := by simp; omega
          clear hO7 hX7 hA7
          by_cases hz0 : ya = 0
          · obtain rfl := hz hz0
            subst hz0
            clear hz
            go_wp2_with fail
            refine wp_region_held_drew (S := fun W : World => ∃ m, W = wr.drewN m) (by kernel_rfl) ⟨1, rfl⟩ (fun HS => ?_)
            refine seq_take (i := 0) (v := ?_) rfl (by kernel_rfl) (by kernel_rfl) (by kernel_rfl) (fun _ _ _ h => h) (by rfl) ?_ HS ?_
            rotate_left
            · rintro W ⟨m, rfl⟩
              (go_simp <;> first | done | with_reducible rfl)
            try simp only [Act.put, List.setIfInBounds_toArray, List.set_cons_zero, List.set_cons_succ]
            refine seq_take (i := 1) (v := ?_) rfl (by kernel_rfl) (by kernel_rfl) (by kernel_rfl) (fun _ _ _ h => h) (by rfl) ?_ HS ?_
            rotate_left
            · rintro W ⟨m, rfl⟩
              (go_simp <;> first | done | with_reducible rfl)
            try simp only [Act.put, List.setIfInBounds_toArray, List.set_cons_zero, List.set_cons_succ]
            refine seq_take (i := 2) (v := ?_) rfl (by kernel_rfl) (by kernel_rfl) (by kernel_rfl) (fun _ _ _ h => h) (by rfl) ?_ HS ?_
            rotate_left
            · rintro W ⟨m, rfl⟩
              (go_simp <;> first | done | with_reducible rfl)
            try simp only [Act.put, List.setIfInBounds_toArray, List.set_cons_zero, List.set_cons_succ]
            refine seq_take (i := 3) (v := ?_) rfl (by kernel_rfl) (by kernel_rfl) (by kernel_rfl) (fun _ _ _ h => h) (by rfl) ?_ HS ?_
            rotate_left
            · rintro W ⟨m, rfl⟩
              (go_simp <;> first | done | with_reducible rfl)
            try simp only [Act.put, List.setIfInBounds_toArray, List.set_cons_zero, List.set_cons_succ]
            refine seq_take (i := 4) (v := ?_) rfl (by kernel_rfl) (by kernel_rfl) (by kernel_rfl) (fun _ _ _ h => h) (by rfl) ?_ HS ?_
            rotate_left
            · rintro W ⟨m, rfl⟩
              (go_simp <;> first | done | with_reducible rfl)
            try simp only [Act.put, List.setIfInBounds_toArray, List.set_cons_zero, List.set_cons_succ]
            refine seq_take (i := 5) (v := ?_) rfl (by kernel_rfl) (by kernel_rfl) (by kernel_rfl) (fun _ _ _ h => h) (by rfl) ?_ HS ?_
            rotate_left
            · rintro W ⟨m, rfl⟩
              (go_simp <;> first | done | with_reducible rfl)
            try simp only [Act.put, List.setIfInBounds_toArray, List.set_cons_zero, List.set_cons_succ]
            refine seq_take (i := 6) (v := ?_) rfl (by kernel_rfl) (by kernel_rfl) (by kernel_rfl) (fun _ _ _ h => h) (by rfl) ?_ HS ?_
            rotate_left
            · rintro W ⟨m, rfl⟩
              (go_simp <;> first | done | with_reducible rfl)
            try simp only [Act.put, List.setIfInBounds_toArray, List.set_cons_zero, List.set_cons_succ]
            refine seq_take (i := 7) (v := ?_) rfl (by kernel_rfl) (by kernel_rfl) (by kernel_rfl) (fun _ _ _ h => h) (by rfl) ?_ HS ?_
            rotate_left
            · rintro W ⟨m, rfl⟩
              (go_simp <;> first | done | with_reducible rfl)
            try simp only [Act.put, List.setIfInBounds_toArray, List.set_cons_zero, List.set_cons_succ]
            refine seq_take (i := 8) (v := ?_) rfl (by kernel_rfl) (by kernel_rfl) (by kernel_rfl) (fun _ _ _ h => h) (by rfl) ?_ HS ?_
            rotate_left
            · rintro W ⟨m, rfl⟩
              (go_simp <;> first | done | with_reducible rfl)
            try simp only [Act.put, List.setIfInBounds_toArray, List.set_cons_zero, List.set_cons_succ]
            refine seq_take (i := 9) (v := ?_) rfl (by kernel_rfl) (by kernel_rfl) (by kernel_rfl) (fun _ _ _ h => h) (by rfl) ?_ HS ?_
            rotate_left
            · rintro W ⟨m, rfl⟩
              (go_simp <;> first | done | with_reducible rfl)
            try simp only [Act.put, List.setIfInBounds_toArray, List.set_cons_zero, List.set_cons_succ]
            refine seq_take (i := 10) (v := ?_) rfl (by kernel_rfl) (by kernel_rfl) (by kernel_rfl) (fun _ _ _ h => h) (by rfl) ?_ HS ?_
            rotate_left
            · rintro W ⟨m, rfl⟩
              (go_simp <;> first | done | with_reducible rfl)
            try simp only [Act.put, List.setIfInBounds_toArray, List.set_cons_zero, List.set_cons_succ]
            refine seq_take (i := 11) (v := ?_) rfl (by kernel_rfl) (by kernel_rfl) (by kernel_rfl) (fun _ _ _ h => h) (by rfl) ?_ HS ?_
            rotate_left
            · rintro W ⟨m, rfl⟩
              (go_simp <;> first | done | with_reducible rfl)
            try simp only [Act.put, List.setIfInBounds_toArray, List.set_cons_zero, List.set_cons_succ]
            refine seq_take (i := 12) (v := ?_) rfl (by kernel_rfl) (by kernel_rfl) (by kernel_rfl) (fun _ _ _ h => h) (by rfl) ?_ HS ?_
            rotate_left
            · rintro W ⟨m, rfl⟩
              (go_simp <;> first | done | with_reducible rfl)
            try simp only [Act.put, List.setIfInBounds_toArray, List.set_cons_zero, List.set_cons_succ]
            refine seq_take (i := 13) (v := ?_) rfl (by kernel_rfl) (by kernel_rfl) (by kernel_rfl) (fun _ _ _ h => h) (by rfl) ?_ HS ?_
            rotate_left
            · rintro W ⟨m, rfl⟩
              (go_simp <;> first | done | with_reducible rfl)
            try simp only [Act.put, List.setIfInBounds_toArray, List.set_cons_zero, List.set_cons_succ]
            refine seq_take (i := 14) (v := ?_) rfl (by kernel_rfl) (by kernel_rfl) (by kernel_rfl) (fun _ _ _ h => h) (by rfl) ?_ HS ?_
            rotate_left
            · rintro W ⟨m, rfl⟩
              (go_simp <;> first | done | with_reducible rfl)
            try simp only [Act.put, List.setIfInBounds_toArray, List.set_cons_zero, List.set_cons_succ]
            refine seq_take (i := 15) (v := ?_) rfl (by kernel_rfl) (by kernel_rfl) (by kernel_rfl) (fun _ _ _ h => h) (by rfl) ?_ HS ?_
            rotate_left
            · rintro W ⟨m, rfl⟩
              (go_simp <;> first | done | with_reducible rfl)
            try simp only [Act.put, List.setIfInBounds_toArray, List.set_cons_zero, List.set_cons_succ]
            refine seq_take (i := 16) (v := ?_) rfl (by kernel_rfl) (by kernel_rfl) (by kernel_rfl) (fun _ _ _ h => h) (by rfl) ?_ HS ?_
            rotate_left
            · rintro W ⟨m, rfl⟩
              (go_simp <;> first | done | with_reducible rfl)
            try simp only [Act.put, List.setIfInBounds_toArray, List.set_cons_zero, List.set_cons_succ]
            refine seq_take (i := 17) (v := ?_) rfl (by kernel_rfl) (by kernel_rfl) (by kernel_rfl) (fun _ _ _ h => h) (by rfl) ?_ HS ?_
            rotate_left
            · rintro W ⟨m, rfl⟩
              (go_simp <;> first | done | with_reducible rfl)
            try simp only [Act.put, List.setIfInBounds_toArray, List.set_cons_zero, List.set_cons_succ]
            refine seq_take (i := 18) (v := ?_) rfl (by kernel_rfl) (by kernel_rfl) (by kernel_rfl) (fun _ _ _ h => h) (by rfl) ?_ HS ?_
            rotate_left
            · rintro W ⟨m, rfl⟩
              (go_simp <;> first | done | with_reducible rfl)
            try simp only [Act.put, List.setIfInBounds_toArray, List.set_cons_zero, List.set_cons_succ]
            refine seq_take (i := 19) (v := ?_) rfl (by kernel_rfl) (by kernel_rfl) (by kernel_rfl) (fun _ _ _ h => h) (by rfl) ?_ HS ?_
            rotate_left
            · rintro W ⟨m, rfl⟩
              (go_simp <;> first | done | with_reducible rfl)
            try simp only [Act.put, List.setIfInBounds_toArray, List.set_cons_zero, List.set_cons_succ]
            refine seq_take (i := 20) (v := ?_) rfl (by kernel_rfl) (by kernel_rfl) (by kernel_rfl) (fun _ _ _ h => h) (by rfl) ?_ HS ?_
            rotate_left
            · rintro W ⟨m, rfl⟩
              (go_simp <;> first | done | with_reducible rfl)
            try simp only [Act.put, List.setIfInBounds_toArray, List.set_cons_zero, List.set_cons_succ]
            refine seq_take (i := 21) (v := ?_) rfl (by kernel_rfl) (by kernel_rfl) (by kernel_rfl) (fun _ _ _ h => h) (by rfl) ?_ HS ?_
            rotate_left
            · rintro W ⟨m, rfl⟩
              (go_simp <;> first | done | with_reducible rfl)
            try simp only [Act.put, List.setIfInBounds_toArray, List.set_cons_zero, List.set_cons_succ]
            refine seq_take (i := 22) (v := ?_) rfl (by kernel_rfl) (by kernel_rfl) (by kernel_rfl) (fun _ _ _ h => h) (by rfl) ?_ HS ?_
            rotate_left
            · rintro W ⟨m, rfl⟩
              (go_simp <;> first | done | with_reducible rfl)
            try simp only [Act.put, List.setIfInBounds_toArray, List.set_cons_zero, List.set_cons_succ]
            refine wpAnyH_done (by kernel_rfl) ?_ _
            clear HS
            go_wp2_with fail
            go_roundw
            case rel => exact ⟨j + 1, by omega, by go_num, hbel.drew⟩
            case measure => simp [intOf]; omega
          · have hz1 : (ya == 0) = false := by simpa using hz0
            clear hz hz0
            go_wp2_with fail
            refine wp_region_held_drew (S := fun W : World => ∃ m, W = wr.drewN m) (by kernel_rfl) ⟨1, rfl⟩ (fun HS => ?_)
            refine seq_take (i := 0) (v := ?_) rfl (by kernel_rfl) (by kernel_rfl) (by kernel_rfl) (fun _ _ _ h => h) (by rfl) ?_ HS ?_
            rotate_left
            · rintro W ⟨m, rfl⟩
              (go_simp <;> first | done | with_reducible rfl)
            try simp only [Act.put, List.setIfInBounds_toArray, List.set_cons_zero, List.set_cons_succ]
            refine seq_take (i := 1) (v := ?_) rfl (by kernel_rfl) (by kernel_rfl) (by kernel_rfl) (fun _ _ _ h => h) (by rfl) ?_ HS ?_
            rotate_left
            · rintro W ⟨m, rfl⟩
              (go_simp <;> first | done | with_reducible rfl)
            try simp only [Act.put, List.setIfInBounds_toArray, List.set_cons_zero, List.set_cons_succ]
            refine seq_take (i := 2) (v := ?_) rfl (by kernel_rfl) (by kernel_rfl) (by kernel_rfl) (fun _ _ _ h => h) (by rfl) ?_ HS ?_
            rotate_left
            · rintro W ⟨m, rfl⟩
              (go_simp <;> first | done | with_reducible rfl)
            try simp only [Act.put, List.setIfInBounds_toArray, List.set_cons_zero, List.set_cons_succ]
            refine seq_take (i := 3) (v := ?_) rfl (by kernel_rfl) (by kernel_rfl) (by kernel_rfl) (fun _ _ _ h => h) (by rfl) ?_ HS ?_
            rotate_left
            · rintro W ⟨m, rfl⟩
              (go_simp <;> first | done | with_reducible rfl)
            try simp only [Act.put, List.setIfInBounds_toArray, List.set_cons_zero, List.set_cons_succ]
            refine seq_take (i := 4) (v := ?_) rfl (by kernel_rfl) (by kernel_rfl) (by kernel_rfl) (fun _ _ _ h => h) (by rfl) ?_ HS ?_
            rotate_left
            · rintro W ⟨m, rfl⟩
              (go_simp <;> first | done | with_reducible rfl)
            try simp only [Act.put, List.setIfInBounds_toArray, List.set_cons_zero, List.set_cons_succ]
            refine seq_take (i := 5) (v := ?_) rfl (by kernel_rfl) (by kernel_rfl) (by kernel_rfl) (fun _ _ _ h => h) (by rfl) ?_ HS ?_
            rotate_left
            · rintro W ⟨m, rfl⟩
              (go_simp <;> first | done | with_reducible rfl)
            try simp only [Act.put, List.setIfInBounds_toArray, List.set_cons_zero, List.set_cons_succ]
            refine seq_skip (i := 6) rfl (by kernel_rfl) (by kernel_rfl) (by kernel_rfl) (fun _ _ _ h => h) (by rfl) HS ?_
            try simp only [Act.put, List.setIfInBounds_toArray, List.set_cons_zero, List.set_cons_succ]
            refine seq_skip (i := 7) rfl (by kernel_rfl) (by kernel_rfl) (by kernel_rfl) (fun _ _ _ h => h) (by rfl) HS ?_
            try simp only [Act.put, List.setIfInBounds_toArray, List.set_cons_zero, List.set_cons_succ]
            refine seq_skip (i := 8) rfl (by kernel_rfl) (by kernel_rfl) (by kernel_rfl) (fun _ _ _ h => h) (by rfl) HS ?_
            try simp only [Act.put, List.setIfInBounds_toArray, List.set_cons_zero, List.set_cons_succ]
            refine seq_skip (i := 9) rfl (by kernel_rfl) (by kernel_rfl) (by kernel_rfl) (fun _ _ _ h => h) (by rfl) HS ?_
            try simp only [Act.put, List.setIfInBounds_toArray, List.set_cons_zero, List.set_cons_succ]
            refine seq_skip (i := 10) rfl (by kernel_rfl) (by kernel_rfl) (by kernel_rfl) (fun _ _ _ h => h) (by rfl) HS ?_
            try simp only [Act.put, List.setIfInBounds_toArray, List.set_cons_zero, List.set_cons_succ]
            refine seq_take (i := 11) (v := ?_) rfl (by kernel_rfl) (by kernel_rfl) (by kernel_rfl) (fun _ _ _ h => h) (by rfl) ?_ HS ?_
            rotate_left
            · rintro W ⟨m, rfl⟩
              (go_simp <;> first | done | with_reducible rfl)
            try simp only [Act.put, List.setIfInBounds_toArray, List.set_cons_zero, List.set_cons_succ]
            refine seq_take (i := 12) (v := ?_) rfl (by kernel_rfl) (by kernel_rfl) (by kernel_rfl) (fun _ _ _ h => h) (by rfl) ?_ HS ?_
            rotate_left
            · rintro W ⟨m, rfl⟩
              (go_simp <;> first | done | with_reducible rfl)
            try simp only [Act.put, List.setIfInBounds_toArray, List.set_cons_zero, List.set_cons_succ]
            refine seq_take (i := 13) (v := ?_) rfl (by kernel_rfl) (by kernel_rfl) (by kernel_rfl) (fun _ _ _ h => h) (by rfl) ?_ HS ?_
            rotate_left
            · rintro W ⟨m, rfl⟩
              (go_simp <;> first | done | with_reducible rfl)
            try simp only [Act.put, List.setIfInBounds_toArray, List.set_cons_zero, List.set_cons_succ]
            refine seq_take (i := 14) (v := ?_) rfl (by kernel_rfl) (by kernel_rfl) (by kernel_rfl) (fun _ _ _ h => h) (by rfl) ?_ HS ?_
            rotate_left
            · rintro W ⟨m, rfl⟩
              (go_simp <;> first | done | with_reducible rfl)
            try simp only [Act.put, List.setIfInBounds_toArray, List.set_cons_zero, List.set_cons_succ]
            refine seq_take (i := 15) (v := ?_) rfl (by kernel_rfl) (by kernel_rfl) (by kernel_rfl) (fun _ _ _ h => h) (by rfl) ?_ HS ?_
            rotate_left
            · rintro W ⟨m, rfl⟩
              (go_simp <;> first | done | with_reducible rfl)
            try simp only [Act.put, List.setIfInBounds_toArray, List.set_cons_zero, List.set_cons_succ]
            refine seq_take (i := 16) (v := ?_) rfl (by kernel_rfl) (by kernel_rfl) (by kernel_rfl) (fun _ _ _ h => h) (by rfl) ?_ HS ?_
            rotate_left
            · rintro W ⟨m, rfl⟩
              (go_simp <;> first | done | with_reducible rfl)
            try simp only [Act.put, List.setIfInBounds_toArray, List.set_cons_zero, List.set_cons_succ]
            refine seq_take (i := 17) (v := ?_) rfl (by kernel_rfl) (by kernel_rfl) (by kernel_rfl) (fun _ _ _ h => h) (by rfl) ?_ HS ?_
            rotate_left
            · rintro W ⟨m, rfl⟩
              (go_simp <;> first | done | with_reducible rfl)
            try simp only [Act.put, List.setIfInBounds_toArray, List.set_cons_zero, List.set_cons_succ]
            refine seq_take (i := 18) (v := ?_) rfl (by kernel_rfl) (by kernel_rfl) (by kernel_rfl) (fun _ _ _ h => h) (by rfl) ?_ HS ?_
            rotate_left
            · rintro W ⟨m, rfl⟩
              (go_simp <;> first | done | with_reducible rfl)
            try simp only [Act.put, List.setIfInBounds_toArray, List.set_cons_zero, List.set_cons_succ]
            refine seq_take (i := 19) (v := ?_) rfl (by kernel_rfl) (by kernel_rfl) (by kernel_rfl) (fun _ _ _ h => h) (by rfl) ?_ HS ?_
            rotate_left
            · rintro W ⟨m, rfl⟩
              (go_simp <;> first | done | with_reducible rfl)
            try simp only [Act.put, List.setIfInBounds_toArray, List.set_cons_zero, List.set_cons_succ]
            refine seq_take (i := 20) (v := ?_) rfl (by kernel_rfl) (by kernel_rfl) (by kernel_rfl) (fun _ _ _ h => h) (by rfl) ?_ HS ?_
            rotate_left
            · rintro W ⟨m, rfl⟩
              (go_simp <;> first | done | with_reducible rfl)
            try simp only [Act.put, List.setIfInBounds_toArray, List.set_cons_zero, List.set_cons_succ]
            refine seq_take (i := 21) (v := ?_) rfl (by kernel_rfl) (by kernel_rfl) (by kernel_rfl) (fun _ _ _ h => h) (by rfl) ?_ HS ?_
            rotate_left
            · rintro W ⟨m, rfl⟩
              (go_simp <;> first | done | with_reducible rfl)
            try simp only [Act.put, List.setIfInBounds_toArray, List.set_cons_zero, List.set_cons_succ]
            refine seq_take (i := 22) (v := ?_) rfl (by kernel_rfl) (by kernel_rfl) (by kernel_rfl) (fun _ _ _ h => h) (by rfl) ?_ HS ?_
            rotate_left
            · rintro W ⟨m, rfl⟩
              (go_simp <;> first | done | with_reducible rfl)
            try simp only [Act.put, List.setIfInBounds_toArray, List.set_cons_zero, List.set_cons_succ]
            refine wpAnyH_done (by kernel_rfl) ?_ _
            clear HS
            go_wp2_with fail
            go_roundw
            case rel => exact ⟨j + 1, by omega, by go_num, hbel.drew⟩
            case measure => simp [intOf]; omega
        · obtain rfl : j = l := by omega
          have HC := Lib.hid (lsumOf_any A1 j c1 vo wr HLE.out (by omega) HSUM.out.2 (hO7.on hbel))
          rw [HSUM.out.1] at HC
          have hbF8 := hbF7.trans (hbel.mono hbF7.size)
          clear hO7 hX7 hA7
          go_wp2_with fail
          refine HC.out.mono ?_
          rintro e w8 ⟨rfl, rfl⟩
          go_wp2_with fail
          go_ret
          exact ⟨rfl, hbF8⟩

end Go.Proofs.Ytjanmgiliooocaa
