/- Ledgers: what the reference's LedgerCount returns, and the law FnExactLedgerCount. The conditions stand in each theorem. -/
import Derived.Test.YtdmgaafmmjeelaaLed10
import Derived.Test.YtdmgaafmmjeelaaLed8
namespace Go.Proofs.Ytdmgaafmmjeelaa
open Go.RowKit Go.ChangeShapes
set_option linter.unusedVariables false

theorem boxVal_getD (l : List Ev) (b : Int) : boxVal l b = if gapBox l b = false ∧ (((foll l l.length).last b).getD evZ).kd = 3 then (((foll l l.length).last b).getD evZ).mn else 0 := by
  unfold boxVal
  cases (foll l l.length).last b with
  | none => simp [evZ]
  | some e => rfl
theorem anyBox_full {l : List Ev} {gs : List Int} {k : Nat} (h : gs.length ≤ k) (b : Int) : anyBox l (gs.take k) b = anyBox l gs b := by rw [List.take_of_length_le h]
theorem evZ_bd {l : List Ev} (hv : ∀ e ∈ l, okE e = true) (b : Int) : 0 ≤ (((foll l l.length).last b).getD evZ).mn ∧ (((foll l l.length).last b).getD evZ).mn ≤ 99 := by
  cases h : (foll l l.length).last b with
  | none => simp [evZ]
  | some e =>
    have := (okE_iff e).1 (foll_last l hv _ b e h).1
    simp only [Option.getD_some]
    omega
theorem val_yes {a v m t : Int} (h : a + v = t) (hv : v = m) : a + m = t := by omega
theorem val_no {a v t : Int} (h : a + v = t) (hv : v = 0) : a = t := by omega

set_option maxRecDepth 100000 in
set_option maxHeartbeats 4000000 in
theorem sLedgerCount_any (A : Option Addr) (n c : Nat) (l : List Ev) (w : World) (hn : l.length = n) (hm : n ≤ 1048576) (ha : Row w w.heap.size A (evCells l)) :
    Calls Try.prog 27 #[.slice A n c] w (SaysI w (cntE l)) := by
  have HN := Lib.hid hn
  clear hn
  go_enter Try.func27, Try.ntmps27
  go_wp2_with fail
  refine (sLedgerValid_any _ _ _ l _ HN.out hm ha).mono ?_
  rintro e w2 ⟨rfl, hb2⟩
  have ha2 := (ha.below hb2).more hb2.size
  clear ha
  cases hv : lvB l with
  | false =>
    have HC : Hid (cntE l = -1) := cntE_no hv
    clear hv ha2
    go_wp2_with fail
    go_ret
    exact ⟨ret_int HC.out.symm, hb2⟩
  | true =>
    have HC : Hid (cntE l = boxSum l 6) := cntE_yes hv
    have hl20 := (lvB_of hv).1
    rw [HN.out] at hl20
    have HV := Lib.hid (lvB_of hv).2
    clear hv
    go_wp2_with fail
    refine (sl31Gaps_any _ _ _ l _ HN.out hm HV.out ha2).mono ?_
    rintro e w3 ⟨G, kg, cg, rfl, hlg, hkg, hcg, howng, hb3⟩
    have hrG := own_row howng
    rw [← HN.out] at hrG hlg
    have HLG := Lib.hid hlg
    have hkg20 : kg ≤ 20 := by have := gaps_len l l.length; have := HN.out; omega
    have HIN : Hid (∀ x ∈ (foll l l.length).gaps, 0 ≤ x ∧ x < (n : Int)) := fun x hx => by
      have := gaps_lt l l.length x hx
      rw [HN.out] at this
      omega
    have ha3 := (ha2.below hb3).more hb3.size
    have hbF3 := hb2.trans (hb3.mono hb2.size)
    clear hlg howng ha2 hb2 hb3 hkg hcg
    generalize hgs : (foll l l.length).gaps = gs at *
    have HGS := Lib.hid hgs
    clear hgs
    go_wp2_with fail
    go_loopw [4, 5] (fun s b wx => ∃ k : Nat, k ≤ 6 ∧ b = .int .i64 ((k : Int) + 1) ∧ s = .int .i64 (boxSum l k) ∧ Below w.heap.size w wx ∧ Row wx wx.heap.size A (evCells l) ∧ Row wx wx.heap.size G (gs.map (Value.int .i64))) (fun _ b _ => 7 - (intOf b).toNat)
    case atStart => exact ⟨0, by omega, rfl, rfl, hbF3, ha3, hrG⟩
    case round =>
      clear hbF3 ha3 hrG
      obtain ⟨k, hk, rfl, rfl, hbw, haw, hgw⟩ := hrel
      obtain ⟨wo, rfl⟩ : ∃ wo : World, wo = wr := ⟨_, rfl⟩
      have hbd := boxSum_bd HV.out k
      by_cases hlt : k < 6
      · have HSUM : Hid (boxSum l k + boxVal l ((k : Int) + 1) = boxSum l (k + 1)) := rfl
        have HLAST : Hid (lastL l gs ((k : Int) + 1) n = ((foll l l.length).last ((k : Int) + 1)).getD evZ) := by
          show _ = _
          rw [← HGS.out, ← HN.out]
          exact lastL_foll l _ _ _ (Nat.le_refl _) (Nat.le_refl _)
        have HVAL := Lib.hid (boxVal_getD l ((k : Int) + 1))
        have hmb := evZ_bd HV.out ((k : Int) + 1)
        have HANY : Hid (anyBox l gs ((k : Int) + 1) = gapBox l ((k : Int) + 1)) := by
          show _ = _
          rw [← HGS.out]
          rfl
        generalize boxSum l k = z0 at *
        generalize boxVal l ((k : Int) + 1) = zv at *
        have hz1 : z0 ≤ 594 := by omega
        obtain ⟨hz0, _⟩ := hbd
        have hb0 : 1 ≤ (k : Int) + 1 := by omega
        have hb6 : (k : Int) + 1 ≤ 6 := by omega
        obtain ⟨bx, hbx⟩ : ∃ bx : Int, bx = (k : Int) + 1 := ⟨_, rfl⟩
        rw [← hbx] at HLAST HVAL hmb HANY hb0 hb6 ⊢
        have HBX := Lib.hid hbx
        clear hbx
        go_wp2_with fail
        go_loopw [6, 7] (fun v i wx => ∃ j : Nat, j ≤ kg ∧ i = .int .i64 j ∧ v = .bool (!anyBox l (gs.take j) bx) ∧ wx = wo) (fun _ i _ => kg - (intOf i).toNat)
        case atStart => exact ⟨0, Nat.zero_le _, rfl, rfl, rfl⟩
        case round =>
          obtain ⟨j, hj, rfl, rfl, rfl⟩ := hrel
          by_cases hlt2 : j < kg
          · have hl : j < gs.length := by rw [HLG.out]; exact hlt2
            have hz := HIN.out _ (List.getElem_mem hl)
            obtain ⟨i, hi⟩ : ∃ i : Nat, gs[j] = (i : Int) := ⟨gs[j].toNat, by omega⟩
            have hil : i < l.length := by rw [HN.out]; omega
            have hin : i < n := by omega
            have HSN := Lib.hid (anyBox_snoc (b := bx) hl hi hil)
            obtain ⟨gb, goff, rfl, hgbw, hgc⟩ := int_at hgw hl
            rw [hi] at hgc
            obtain ⟨b, off, rfl, hbw1, hc0, _, _, _⟩ := ev_at haw hil
            clear hz hi
            generalize l[i].bx = x at *
            cases ha : anyBox l (gs.take j) bx with
            | true =>
              have HT : Hid (Value.bool false = .bool (!anyBox l (gs.take (j + 1)) bx)) := by
                show _ = _
                rw [HSN.out, ha]
                rfl
              clear ha
              go_wp2_with fail
              go_roundw
              case rel => exact ⟨j + 1, by omega, by go_num, HT.out, trivial⟩
              case measure => simp [intOf]; omega
            | false =>
              have HT : Hid (Value.bool (x != bx) = .bool (!anyBox l (gs.take (j + 1)) bx)) := by
                show _ = _
                rw [HSN.out, ha]
                rfl
              clear ha
              go_wp2_with fail
              go_roundw
              case rel => exact ⟨j + 1, by omega, by go_num, HT.out, trivial⟩
              case measure => simp [intOf]; omega
          · have HFULL : Hid (anyBox l (gs.take j) bx = gapBox l bx) := by
              show _ = _
              rw [anyBox_full (by rw [HLG.out]; omega), HANY.out]
            clear HANY
            generalize anyBox l (gs.take j) bx = ab at *
            go_wp2_with fail
            refine (sl31Last_any _ n _ l _ kg _ gs bx n _ HN.out hm haw HLG.out (by omega) hgw (Nat.le_refl _)).mono ?_
            rintro e w8 ⟨rfl, hb8⟩
            have haw8 := (haw.below hb8).more hb8.size
            have hgw8 := (hgw.below hb8).more hb8.size
            have hbw8 := hbw.trans (hb8.mono hbw.size)
            rw [HLAST.out]
            clear haw hgw hb8 hbw HLAST
            generalize ((foll l l.length).last bx).getD evZ = x at *
            obtain ⟨xa, xb, xc, xd⟩ := x
            simp only at HVAL hmb
            obtain ⟨hm0, hm1⟩ := hmb
            simp only [evV]
            have hbA : Below w8.heap.size w8 (w8.alloc (.cells #[.int .i64 xa, .int .i64 xb, .int .i64 xc, .int .i64 xd] 36)) := (Below.refl _ _).alloc (Nat.le_refl _) _
            have haw9 := (haw8.below hbA).more hbA.size
            have hgw9 := (hgw8.below hbA).more hbA.size
            have hbw9 := hbw8.trans (hbA.mono hbw8.size)
            clear haw8 hgw8 hbw8 hbA
            cases ab with
            | true =>
              have HZ : Hid (z0 = boxSum l (k + 1)) := val_no HSUM.out (HVAL.out.trans (if_neg (by rw [← HFULL.out]; exact fun h => by cases h.1)))
              clear HVAL HSUM HFULL
              go_wp2_with fail
              go_roundw
              case rel => exact ⟨k + 1, by omega, by rw [HBX.out]; go_num, by rw [HZ.out], hbw9, haw9, hgw9⟩
              case measure => rw [HBX.out]; simp [intOf]; omega
            | false =>
              by_cases h3 : xb = 3
              · have HZ : Hid (z0 + xd = boxSum l (k + 1)) := val_yes HSUM.out (HVAL.out.trans (if_pos ⟨HFULL.out.symm, h3⟩))
                subst h3
                clear HVAL HSUM HFULL
                go_wp2_with fail
                go_roundw
                case rel => exact ⟨k + 1, by omega, by rw [HBX.out]; go_num, by rw [← HZ.out], hbw9, haw9, hgw9⟩
                case measure => rw [HBX.out]; simp [intOf]; omega
              · have HZ : Hid (z0 = boxSum l (k + 1)) := val_no HSUM.out (HVAL.out.trans (if_neg fun h => h3 h.2))
                have q3 : (xb == 3) = false := by simpa using h3
                clear HVAL HSUM HFULL h3
                go_wp2_with fail
                go_roundw
                case rel => exact ⟨k + 1, by omega, by rw [HBX.out]; go_num, by rw [HZ.out], hbw9, haw9, hgw9⟩
                case measure => rw [HBX.out]; simp [intOf]; omega
      · obtain rfl : k = 6 := by omega
        have HE := Lib.hid HC.out.symm
        generalize boxSum l 6 = z at *
        go_wp2_with fail
        go_ret
        exact ⟨ret_int HE.out, hbw⟩

set_option maxHeartbeats 2000000 in
theorem FnExactLedgerCount_walk (z : Option Addr × Nat × Nat × List Ev) (w : World) (w0 : IsEvs w z) :
    Calls Try.prog 8 #[evSl z] w fun e w' => e = .returned (.bool true) ∧ Below w.heap.size w w' := by
  obtain ⟨A, n, c, l⟩ := z
  obtain ⟨hn, h1, h2, hr⟩ := w0
  simp only at hn h1 h2 hr
  show Calls Try.prog 8 #[.slice A n c] w _
  have HN := Lib.hid hn
  have HR := Lib.hid hr
  clear hn hr
  go_enter Try.func8, Try.ntmps8
  go_wp2_with fail
  refine (szEventS_any _ _ _ _ (Nat.le_trans h1 h2)).mono ?_
  rintro e w' ⟨r, rfl, r0, r1, hsm, rfl⟩
  by_cases hneg : r < 0
  · go_wp2_with fail
    go_ret
    exact ⟨rfl, Below.refl _ _⟩
  have hm := hsm (by omega)
  clear hsm h2
  go_wp2_with fail
  refine (toEventS_any _ _ _ l _ HN.out hm HR.out).mono ?_
  intro e w2 C2
  have hq2 := C2.row HN.out
  obtain ⟨rfl, hb2, _⟩ := C2
  go_wp2_with fail
  refine (sLedgerCount_any _ _ _ l _ HN.out hm hq2).mono ?_
  rintro e w3 ⟨rfl, hb3⟩
  have B3 := hb2.trans (hb3.mono hb2.size)
  clear hq2 hb2 hb3
  go_wp2_with fail
  refine (toEventS_any _ _ _ l _ HN.out hm ((HR.out.below B3).more B3.size)).mono ?_
  intro e w4 C4
  have hq4 := C4.row HN.out
  obtain ⟨rfl, hb4, _⟩ := C4
  go_wp2_with fail
  refine (LedgerCount_any _ _ _ l _ HN.out hm hq4).mono ?_
  rintro e w5 ⟨rfl, hb5⟩
  have hq5 := (hq4.below hb5).more hb5.size
  have B4 := B3.trans (hb4.mono B3.size)
  have B5 := B4.trans (hb5.mono B4.size)
  clear hq4 hb4 hb5 B3 B4
  generalize cntE l = s
  go_wp2_with fail
  refine (toEventS_any _ _ _ l _ HN.out hm ((HR.out.below B5).more B5.size)).mono ?_
  intro e w6 C6
  have hq6 := C6.row HN.out
  obtain ⟨rfl, hb6, _⟩ := C6
  have hq7 := (hq5.below hb6).more hb6.size
  have B6 := B5.trans (hb6.mono B5.size)
  clear hq5 hb6 B5
  go_wp2_with fail
  refine (eqEventS_same _ _ _ _ _ l _ HN.out hm hq7 hq6).mono ?_
  rintro e w7 ⟨rfl, hb7⟩
  clear hq6 hq7
  go_wp2_with fail
  go_ret
  exact ⟨rfl, B6.trans (hb7.mono B6.size)⟩

end Go.Proofs.Ytdmgaafmmjeelaa
