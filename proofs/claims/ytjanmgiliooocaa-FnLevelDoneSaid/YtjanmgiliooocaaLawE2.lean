/- The law FnLevelDone returns true and leaves all that was there as it was. The conditions stand in each theorem. -/
import Derived.Test.YtjanmgiliooocaaE15
import Derived.Test.YtjanmgiliooocaaE10
import Derived.Test.YtjanmgiliooocaaLevR
import Derived.Test.YtjanmgiliooocaaSeq
namespace Go.Proofs.Ytjanmgiliooocaa
open Go.RowKit Go.ChangeShapes
open Man
set_option linter.unusedVariables false

set_option maxRecDepth 100000 in
set_option maxHeartbeats 16000000 in
theorem FnLevelDone_walk (a0 : Option Addr) (len0 cap0 : Nat) (z0 : List Int) (w : World) (w0 : IsRow .u8 w a0 len0 cap0 z0) :
    Calls Try.prog 4 #[.slice a0 len0 cap0] w fun e w' => e = .returned (.bool true) ∧ Below w.heap.size w w' := by
  have hcap := w0.len_le.2.1
  have hlen := w0.len_le.1
  unfold maxLen at hcap
  by_cases hbig : 1048576 < len0
  · clear w0
    go_enter Try.func4, Try.ntmps4
    go_wp2
    go_ret
    exact ⟨rfl, Below.refl _ _⟩
  have dd0 : decide ((1048576 : Int) < (len0 : Int)) = false := by simp; omega
  go_enter Try.func4, Try.ntmps4
  go_wp2_with fail
  refine (DrawDistrictLevel_any _ _ _ _ _ w0 (by omega)).mono ?_
  rintro e w2 ⟨A, k, c, rs, s, fu, me, Lo, l, f, lots, rfl, h1, h2, h3, h4, h5, h6, h7, h8, h9, h10, hb⟩
  obtain ⟨F, rfl⟩ := Int.eq_ofNat_of_zero_le h4
  have HN := Lib.hid h1
  have HLL := Lib.hid h6
  have HF9 := Lib.hid h9
  clear w0 hbig hcap hlen h1 h4 h6 h9
  go_wp2_with fail
  refine (DistrictLevel_any A k c rs s _ me Lo l f lots w2 HN.out (by omega) h3 HLL.out (by omega) h8 HF9.out h10).mono ?_
  rintro e w3 ⟨A1, k1, c1, rfl, q1, q2, q3, q4, q5, hb3⟩
  have hM3 := h3.on hb3
  have hL3 := h10.on hb3
  have hbF3 := hb.trans (hb3.mono hb.size)
  have HQ1 := Lib.hid q1
  have HO1 := Lib.hid q5
  clear h3 h10 hb hb3 q1 q3 q4 q5
  go_wp2_with fail
  refine (sDistrictLevel_any A k c rs s _ me Lo l f lots w3 HN.out (by omega) hM3 HLL.out (by omega) h8 HF9.out hL3).mono ?_
  rintro e w4 ⟨A2, k2, c2, rfl, r1, r2, r3, r4, r5, hb4⟩
  obtain rfl : k2 = k1 := by rw [← HQ1.out, ← r1]
  have hM4 := hM3.on hb4
  have hL4 := hL3.on hb4
  have hbF4 := hbF3.trans (hb4.mono hbF3.size)
  have hO4 := HO1.out.below hb4
  have hrow1 := hO4.rowAt.2.2
  have hrow2 := r5.rowAt.2.2
  have HSM := Lib.hid (sameInts_same A1 A2 k2 c1 c2 _ w4 HQ1.out q2 hrow1 hrow2)
  clear hM3 hL3 hb4 hbF3 HO1 r1 r3 r4 r5
  cases hB : dlB (vals rs) s (F : Int) me lots with
  | false =>
    clear hM4 hL4 hO4
    go_wp2_with fail
    refine HSM.out.mono ?_
    rintro e w5 ⟨rfl, hb5⟩
    have HSM2 := Lib.hid (sameInts_same A1 A2 k2 c1 c2 _ w5 HQ1.out q2 (hrow1.on hb5) (hrow2.on hb5))
    have hbF5 := hbF4.trans (hb5.mono hbF4.size)
    clear hrow1 hrow2 HSM hb5 hbF4
    go_wp2_with fail
    refine HSM2.out.mono ?_
    rintro e w6 ⟨rfl, hb6⟩
    have hbF6 := hbF5.trans (hb6.mono hbF5.size)
    clear HSM2 hb6 hbF5
    go_wp2_with fail
    go_ret
    exact ⟨rfl, hbF6⟩
  | true =>
    have H := levF_of hB
    have hsF := (dlB_of hB).2.2
    have hs0 : 0 ≤ s := (dsB_of H.dss).2.1
    have hk := dv_rows H.dvv
    rw [HN.out] at hk
    rw [vals_len, HN.out] at hsF
    have hsn : 0 ≤ s * (k : Int) := Int.mul_nonneg hs0 (by omega)
    have HWD : Hid (wid (vals rs) = l) := by
      show _ = _
      rw [← H.ll, HLL.out]
    have HE : Hid (dlL (vals rs) s (F : Int) me lots = lev (tog l (vals rs)) me lots (givL (vals rs) s me lots) F) := by
      show _ = _
      rw [dlL_yes hB, HWD.out, Int.toNat_natCast]
    rw [HWD.out] at H hk
    have HH := Lib.hid H
    have HLE : Hid ((lev (tog l (vals rs)) me lots (givL (vals rs) s me lots) F).length = l) := by
      show _ = _
      rw [lev_len, H.G.len]
    obtain rfl : l = k2 := by rw [← HQ1.out, HE.out, HLE.out]
    obtain ⟨hk1, hk4, hl5, hl1, _⟩ := hk
    rw [HE.out] at HQ1 hO4
    have HO4 := Lib.hid hO4
    clear hrow1 hrow2 H hO4 h2 h7
    go_wp2_with fail
    refine HSM.out.mono ?_
    rintro e w5 ⟨rfl, hb5⟩
    have hM5 := hM4.on hb5
    have hL5 := hL4.on hb5
    have hbF5 := hbF4.trans (hb5.mono hbF4.size)
    have HO5 := Lib.hid (HO4.out.below hb5)
    clear HSM hM4 hL4 hb5 hbF4 HO4
    go_wp2_with fail
    refine (DistrictSeats_any A k c rs s me Lo l f lots w5 HN.out (by omega) hM5 HLL.out (by omega) h8 HF9.out hL5).mono ?_
    rintro e w6 ⟨A3, k3, c3, qs, rfl, t1, t2, t3, t4, t5, hQ6, hb6⟩
    rw [HH.out.dss]
    have hM6 := hM5.on hb6
    have hL6 := hL5.on hb6
    have hbF6 := hbF5.trans (hb6.mono hbF5.size)
    have HO6 := Lib.hid (HO5.out.below hb6)
    have HQV : Hid (vals qs = apL (vals rs) s me lots) := t5.trans (if_pos HH.out.dss)
    have HQN := Lib.hid t1
    have hk3 : k3 = k := by
      have h := congrArg List.length HQV.out
      rw [vals_len, t1] at h
      simp only [apL, List.length_map, vals_len, HN.out] at h
      exact h
    clear hM5 hL5 hb6 hbF5 HO5 t1 t3 t4 t5
    go_wp2_with fail
    refine (DistrictVotes_any A k c rs w6 HN.out (by omega) hM6).mono ?_
    rintro e w7 ⟨A4, k4, c4, rfl, u1, u2, u3, u4, u5, hb7⟩
    rw [HH.out.dvv]
    have hL7 := hL6.on hb7
    have hQ7 := hQ6.on hb7
    have hbF7 := hbF6.trans (hb7.mono hbF6.size)
    have HO7 := Lib.hid (HO6.out.below hb7)
    have HV3 : Hid (dtL (vals rs) = (tog l (vals rs))) := by
      show dtL (vals rs) = _
      unfold dtL
      rw [HH.out.dvv, HWD.out]
      rfl
    obtain rfl : l = k4 := by rw [← u1, HV3.out, tog_len]
    rw [HV3.out] at u5
    have hA7 := u5.rowAt.2.2
    obtain ⟨T, hT⟩ := Int.eq_ofNat_of_zero_le (show 0 ≤ s * (k : Int) + (F : Int) by omega)
    have hT20 : T ≤ 20 := by omega
    have hTB : sdB (tog l (vals rs)) ((T : Nat) : Int) me lots = true := sdB_mk HH.out.vv (by omega) (by omega) HH.out.mB HH.out.lB (by rw [HH.out.ll, tog_len])
    have HTB := Lib.hid hTB
    have HXX : Hid (sdL (tog l (vals rs)) ((T : Nat) : Int) me lots = alloc (tog l (vals rs)) me lots (zerosL l) T) := by
      show _ = _
      rw [sdL_yes hTB, tog_len, Int.toNat_natCast]
    have HTL : Hid ((tog l (vals rs)).length = l) := tog_len _ _
    have w1k : IntKind.i64.wrap (s * (k : Int)) = s * (k : Int) := IntWalk.i64_in _ (by omega)
    have w2k : IntKind.i64.wrap (s * (k : Int) + (F : Int)) = (T : Int) := by rw [hT]; exact IntWalk.i64_in _ (by omega)
    have HT2 := Lib.hid hT
    clear hM6 hL6 hQ6 hb7 hbF6 HO6 u1 u3 u4 u5 hTB hT
    go_wp2_with fail
    refine (SeatsDivisor_any A4 l c4 (tog l (vals rs)) (T : Int) me Lo l f lots w7 HTL.out HLL.out (by omega) (by omega) h8 HF9.out hA7 hL7).mono ?_
    rintro e w8 ⟨A5, k5, c5, rfl, v1, v2, v3, v4, v5, hb8⟩
    rw [HTB.out]
    rw [HXX.out] at v1 v5
    obtain rfl : l = k5 := by rw [← v1, (alloc_seats HH.out.hm HH.out.L (seats_zeros l) T).len]
    have hQ8 := hQ7.on hb8
    have hX8 := v5.rowAt.2.2
    have hbF8 := hbF7.trans (hb8.mono hbF7.size)
    have hO8 := (HO7.out.below hb8).rowAt.2.2
    have HXL := Lib.hid v1
    have hvl : (vals rs).length = k := by rw [vals_len, HN.out]
    have HDONE : Hid ((∀ j, j < l → 0 ≤ atZ (alloc (tog l (vals rs)) me lots (zerosL l) T) (j : Int) - colS j (apL (vals rs) s me lots)) → resL (alloc (tog l (vals rs)) me lots (zerosL l) T) (apL (vals rs) s me lots) l = lev (tog l (vals rs)) me lots (givL (vals rs) s me lots) F) := fun h => done_eq HH.out HWD.out (by rw [hvl]; exact hsn) T (by rw [hvl]; exact HT2.out.symm) h
    have HAPB : Hid (∀ r ∈ apL (vals rs) s me lots, r.length = l ∧ ∀ z ∈ r, 0 ≤ z ∧ z ≤ 20) := fun r hr => by
      obtain ⟨a1, a2, _⟩ := ap_len HH.out.dss r hr
      exact ⟨a1.trans HWD.out, a2⟩
    have HXB : Hid (∀ z ∈ alloc (tog l (vals rs)) me lots (zerosL l) T, 0 ≤ z ∧ z ≤ 20) := by
      have S := alloc_seats (v := (tog l (vals rs))) HH.out.hm HH.out.L (seats_zeros l) T
      have hsum := alloc_sum (v := (tog l (vals rs))) HH.out.hm HH.out.L (seats_zeros l) T
      rw [sumI_zeros] at hsum
      exact mem_le_sum (seats_mem S) (by omega)
    obtain ⟨i0, hi0, hz0, hz1, hz2⟩ := info_parts info_int
    have HI := Lib.hid hi0
    have HZ0 := Lib.hid hz0
    have HZ1 := Lib.hid hz1
    have HZ2 := Lib.hid hz2
    clear hA7 hL7 hQ7 hb8 hbF7 HO7 v1 v3 v4 v5 hvl hi0 hz0 hz1 hz2 HTB HXX HV3 w1k w2k HE hB
    subst hk3
    generalize alloc (tog l (vals rs)) me lots (zerosL l) T = xs at *
    generalize apL (vals rs) s me lots = ap at *
    generalize lev (tog l (vals rs)) me lots (givL (vals rs) s me lots) F = vo at *
    have hbE := (Below.refl w8.heap.size w8).alloc (Nat.le_refl _) (.cells #[] 3)
    have hownE : OwnI (w8.alloc (.cells #[] 3)) w8.heap.size (.slice (some ⟨w8.heap.size, 0, none⟩) 0 0) 0 (resL xs ap 0) := own_empty w8 w8.heap.size _ _ (Nat.le_refl _)
    go_wp2_with fail
    go_loopw [18, 19] (fun u i wx => ∃ j : Nat, j ≤ l ∧ i = .int .i64 j ∧ Below w8.heap.size w8 wx ∧ OwnI wx w8.heap.size u j (resL xs ap j) ∧ Hid (∀ t, t < j → 0 ≤ atZ xs (t : Int) - colS t ap)) (fun _ i _ => l - (intOf i).toNat)
    case atStart => exact ⟨0, Nat.zero_le _, rfl, hbE, hownE, fun t ht => absurd ht (by omega)⟩
    case round =>
      clear hbE hownE
      obtain ⟨j, hj, rfl, hbel, hown, HNN⟩ := hrel
      have hbs := hbel.size
      by_cases hlt : j < l
      · have p1 : j < xs.length := by rw [HXL.out]; exact hlt
        obtain ⟨bx, ox, rfl, _, cx⟩ := int_at (hX8.below hbel) p1
        have hxb := HXB.out _ (List.getElem_mem p1)
        have HXJ : Hid (atZ xs (j : Int) = xs[j]) := atZ_nat xs p1
        generalize xs[j] = xj at *
        have HOW := Lib.hid hown
        clear hown
        go_wp2_with fail
        go_loopw [20, 21] (fun v i wx => ∃ (a : Nat) (x : Int), a ≤ k3 ∧ i = .int .i64 a ∧ v = .int .i64 x ∧ xj - 20 * (a : Int) ≤ x ∧ x ≤ xj ∧ Hid (x = xj - colS j (ap.take a)) ∧ wx = wr) (fun _ i _ => k3 - (intOf i).toNat)
        case atStart => exact ⟨0, xj, Nat.zero_le _, rfl, rfl, by omega, by omega, by show _ = _; simp [colS], rfl⟩
        case round =>
          clear cx
          obtain ⟨a, x, ha, rfl, rfl, x0, x1, HX, rfl⟩ := hrel
          by_cases hlt2 : a < k3
          · have hq : a < qs.length := by rw [HQN.out]; exact hlt2
            have ha1 : a < ap.length := by rw [← HQV.out, vals_len]; exact hq
            have hro : ap[a] = qs[a].zs := by
              have := vals_at qs a hq
              simp only [HQV.out] at this
              exact this
            have HCT := Lib.hid (colS_take j ap a ha1)
            obtain ⟨rl, rb⟩ := HAPB.out _ (List.getElem_mem ha1)
            rw [hro] at HCT rl rb
            have HR := (hQ8.below hbel).row _ (List.getElem_mem hq)
            obtain ⟨bq, oq, rfl, _, cq⟩ := (hQ8.below hbel).at_ hq
            generalize qs[a] = r at *
            obtain ⟨rA, rn, rc, rz⟩ := r
            obtain ⟨o1, o2, o3, o4, hrow⟩ := HR
            simp only at o1 o2 o3 o4 hrow cq HCT rl rb
            obtain rfl : l = rn := by rw [← o1, rl]
            have p2 : j < rz.length := by rw [rl]; exact hlt
            obtain ⟨br, orr, rfl, _, cr⟩ := int_at hrow p2
            have hyb := rb _ (List.getElem_mem p2)
            have HYJ : Hid (rz.getD j 0 = rz[j]) := by
              show _ = _
              rw [List.getD_eq_getElem?_getD, List.getElem?_eq_getElem p2]
              rfl
            generalize rz[j] = y at *
            have wy : IntKind.i64.wrap (x - y) = x - y := IntWalk.i64_in _ (by omega)
            clear o1 rl rb hrow hro hX8 hO8 HNN
            go_wp2_with fail
            go_roundw
            case rel => exact ⟨a + 1, x - y, by omega, by go_num, rfl, by omega, by omega, by show _ = _; rw [HCT.out, HX.out, HYJ.out]; omega, trivial⟩
            case measure => simp [intOf]; omega
          · obtain rfl : a = k3 := by omega
            have HXF : Hid (x = atZ xs (j : Int) - colS j ap) := by
              have h := HX.out
              rw [List.take_of_length_le (by rw [← HQV.out, vals_len, HQN.out]; exact Nat.le_refl _)] at h
              show _ = _
              rw [h, HXJ.out]
            clear hX8 hO8 hQ8
            by_cases hneg : x < 0
            · have hbF9 := hbF8.trans (hbel.mono hbF8.size)
              go_wp2_with fail
              go_ret
              exact ⟨rfl, hbF9⟩
            · have HNN2 : Hid (∀ t, t < j + 1 → 0 ≤ atZ xs (t : Int) - colS t ap) := fun t ht => by
                by_cases e : t = j
                · subst e
                  have := HXF.out
                  omega
                · exact HNN.out t (by omega)
              go_wp2_with (at_builtin; refine wpList_append_own_at _ rfl (.tmp 143) (.tmp 145) _ rfl w8.heap.size 3 i0 _ 1 8 Try.underlying24 HI.out HZ0.out HZ1.out HZ2.out rfl (by omega) u18 _ _ rfl (own_alloc HOW.out _) ⟨wr.heap.size, 0, none⟩ 1 1 [.int .i64 x] rfl rfl (cell_one_new _ _ _) (by intro u hu; simp at hu; subst hu; rfl) (by unfold maxLen; omega) (by omega) (by simp; omega) ?_; intro v9 w9 hown9 hgrow9 hnil9 hat9)
              go_roundw
              case rel =>
                refine ⟨j + 1, by omega, by go_num, (hbel.alloc hbs _).grown hgrow9 (by simp; omega) (fun x hx => (own_block HOW.out x hx).1), ?_, HNN2.out⟩
                unfold OwnI
                rw [resL_snoc, List.map_append, ← HXF.out]
                exact hown9
              case measure => simp [intOf]; omega
      · obtain rfl : j = l := by omega
        have hres := HDONE.out HNN.out
        rw [hres] at hown
        obtain ⟨A9, c9, rfl, _, _, hrow9⟩ := hown.row
        have HC := Lib.hid (sameInts_same A9 A1 j c9 c1 vo wr HLE.out (by omega) hrow9 (hO8.on hbel))
        have hbF9 := hbF8.trans (hbel.mono hbF8.size)
        clear hown hrow9 hX8 hO8 hQ8 hres
        go_wp2_with fail
        refine HC.out.mono ?_
        rintro e w10 ⟨rfl, hb10⟩
        have hbF10 := hbF9.trans (hb10.mono hbF9.size)
        clear HC hb10 hbF9
        go_wp2_with fail
        go_ret
        exact ⟨rfl, hbF10⟩

end Go.Proofs.Ytjanmgiliooocaa
