/- What the reference's ManifestPick returns. The conditions stand in each theorem. -/
import Derived.Test.YtkjdccpomldmeaaPickS
import Derived.Test.YtkjdccpomldmeaaSamp3
namespace Go.Proofs.Ytkjdccpomldmeaa
open Go.RowKit Go.ChangeShapes
open Man
set_option linter.unusedVariables false

theorem refL_yes {zs sm : List Int} {k : Nat} (h : batB zs sm k = true) : refL zs sm (k + 1) = refL zs sm k ++ [(k : Int)] := if_pos h
theorem refL_no {zs sm : List Int} {k : Nat} (h : batB zs sm k = false) : refL zs sm (k + 1) = refL zs sm k := if_neg (by rw [h]; exact Bool.false_ne_true)

set_option maxRecDepth 100000 in
set_option maxHeartbeats 4000000 in
theorem sManifestPick_any (A : Option Addr) (n c : Nat) (zs : List Int) (m s : Int) (w : World) (hn : zs.length = n) (hm : n ≤ 1048576) (hr : Row w w.heap.size A (zs.map (Value.int .i64))) :
    Calls Try.prog 11 #[.slice A n c, .int .i64 m, .int .i64 s] w (Picks w zs m s) := by
  have HN := Lib.hid hn
  clear hn
  obtain ⟨i0, hi0, hz0, hz1, hz2⟩ := info_parts info_int
  have HI := Lib.hid hi0
  have HZ0 := Lib.hid hz0
  have HZ1 := Lib.hid hz1
  have HZ2 := Lib.hid hz2
  clear hi0 hz0 hz1 hz2
  go_enter Try.func11, Try.ntmps11
  go_wp2_with fail
  refine (sTotal_any _ _ _ zs _ HN.out hm hr).mono ?_
  rintro e w1 ⟨rfl, rfl⟩
  go_wp2_with fail
  refine (sSampleOf_any (tot zs) m s _).mono ?_
  rintro e w3 ⟨AS, kS, cS, rfl, hlS, hkS, hcS1, hcS2, hownS, hb3⟩
  by_cases hok : okS (tot zs) m s
  · have HOK := Lib.hid hok
    have e1 : smpB (tot zs) m s = true := (smp_in hok).2
    rw [e1]
    have HLS := Lib.hid hlS
    have hrS : Row w3 w3.heap.size AS ((smpL (tot zs) m s).map (Value.int .i64)) := by
      obtain ⟨_, _, he, _, _, _, h⟩ := own_slice hownS
      injection he with he
      rw [he]
      exact h
    have hr3 := (hr.below hb3).more hb3.size
    have HINT := Lib.hid (smp_in_tot hok)
    have hn8 := (okS_ok hok).2
    rw [HN.out] at hn8
    have HPK := Lib.hid (pickL_yes hok)
    clear hok e1 hlS hownS hr
    generalize smpL (tot zs) m s = sm at *
    have HB3 := Lib.hid hb3
    have hsz3 := hb3.size
    have hown0 := own_empty w3 w3.heap.size 3 1 (Nat.le_refl _)
    have hb30 : Below w3.heap.size w3 (w3.alloc (.cells #[] 3)) := (Below.refl _ _).alloc (Nat.le_refl _) _
    clear hb3
    go_wp2_with fail
    go_loopw [10, 11] (fun v i wx => ∃ (k q : Nat), k ≤ n ∧ i = .int .i64 k ∧ Hid ((refL zs sm k).length = q) ∧ q ≤ k ∧ Below w3.heap.size w3 wx ∧ wx.ownsRow w3.heap.size 3 1 v q ((refL zs sm k).map (Value.int .i64))) (fun _ i _ => n - (intOf i).toNat)
    case atStart => exact ⟨0, 0, Nat.zero_le _, rfl, rfl, Nat.le_refl _, hb30, hown0⟩
    case round =>
      clear hb30 hown0
      obtain ⟨i, q, hi, rfl, HQ, hq, hbel, hown⟩ := hrel
      obtain ⟨AO, cO, rfl, hcO1, hcO2, _, _⟩ := own_slice hown
      obtain ⟨wo, rfl⟩ : ∃ wo : World, wo = wr := ⟨_, rfl⟩
      have hsw := hbel.size
      by_cases hlt : i < n
      · have hrz := (hr3.below hbel).more hbel.size
        have hrs := (hrS.below hbel).more hbel.size
        go_wp2_with fail
        go_loopw [12, 13] (fun v k wx => ∃ j : Nat, j ≤ kS ∧ k = .int .i64 j ∧ v = .bool (batB zs (sm.take j) i) ∧ wx = wo) (fun _ k _ => kS - (intOf k).toNat)
        case atStart => exact ⟨0, Nat.zero_le _, rfl, rfl, rfl⟩
        case round =>
          obtain ⟨j, hj, rfl, rfl, rfl⟩ := hrel
          by_cases hlt2 : j < kS
          · have hl : j < sm.length := by rw [HLS.out]; exact hlt2
            have hx := HINT.out _ (List.getElem_mem hl)
            have HBS := Lib.hid (batB_snoc (zs := zs) hl i)
            obtain ⟨b, off, rfl, hbw, hc⟩ := int_at hrs hl
            generalize sm[j] = x at *
            obtain ⟨x0, x1⟩ := hx
            go_wp2_with fail
            refine (sl33At_any _ _ _ zs x _ HN.out hm hrz x0 x1).mono ?_
            rintro e w4 ⟨rfl, rfl⟩
            clear hc
            generalize ((loc zs x).1 : Int) = lx at *
            generalize (loc zs x).2 = ly at *
            cases hb : batB zs (sm.take j) i with
            | true =>
              have HT : Hid (Value.bool true = .bool (batB zs (sm.take (j + 1)) i)) := by
                show _ = _
                rw [HBS.out, hb]
                rfl
              clear hb
              go_wp2_with fail
              go_roundw
              case rel => exact ⟨j + 1, by omega, by go_num, HT.out, trivial⟩
              case measure => simp [intOf]; omega
            | false =>
              have HT : Hid (Value.bool (lx == (i : Int)) = .bool (batB zs (sm.take (j + 1)) i)) := by
                show _ = _
                rw [HBS.out, hb]
                rfl
              clear hb
              go_wp2_with fail
              go_roundw
              case rel => exact ⟨j + 1, by omega, by go_num, HT.out, trivial⟩
              case measure => simp [intOf]; omega
          · have HF : Hid (batB zs (sm.take j) i = batB zs sm i) := by
              show _ = _
              rw [List.take_of_length_le (by rw [HLS.out]; omega)]
            have HY := Lib.hid (fun h => refL_yes (zs := zs) (sm := sm) (k := i) h)
            have HNN := Lib.hid (fun h => refL_no (zs := zs) (sm := sm) (k := i) h)
            clear hrz hrs
            rw [HF.out]
            cases hb : batB zs sm i with
            | true =>
              have HY2 := Lib.hid (HY.out hb)
              clear hb
              go_wp2_with (at_builtin; refine wpList_append_own_at _ rfl (.tmp 56) (.tmp 58) _ rfl w3.heap.size 3 i0 _ 1 8 Try.underlying22 HI.out HZ0.out HZ1.out HZ2.out rfl (by omega) (.slice AO q cO) _ _ rfl (own_alloc hown _) ⟨wr.heap.size, 0, none⟩ 1 1 [.int .i64 (i : Int)] rfl rfl (cell_one_new _ _ _) (by intro u hu; simp at hu; subst hu; rfl) (by unfold maxLen; omega) (by omega) (by simp; omega) ?_; intro v' w12 hown12 hgrow12 hnil12 hat12; clear hnil12 hat12)
              go_roundw
              case rel =>
                refine ⟨i + 1, q + 1, by omega, by go_num, ?_, by omega, (hbel.alloc hbel.size _).grown hgrow12 (by simp; omega) (fun x hx => (own_block hown x hx).1), ?_⟩
                · show (refL zs sm (i + 1)).length = q + 1
                  rw [HY2.out, List.length_append, HQ.out]
                  rfl
                · rw [HY2.out, List.map_append]
                  exact hown12
              case measure => simp [intOf]; omega
            | false =>
              have HN2 := Lib.hid (HNN.out hb)
              clear hb
              go_wp2_with fail
              go_roundw
              case rel => exact ⟨i + 1, q, by omega, by go_num, by show (refL zs sm (i + 1)).length = q; rw [HN2.out]; exact HQ.out, by omega, hbel, by rw [HN2.out]; exact hown⟩
              case measure => simp [intOf]; omega
      · obtain rfl : i = n := by omega
        have hbF := HB3.out.trans (hbel.mono hsz3)
        have hown2 : wo.ownsRow w3.heap.size 3 1 (.slice AO q cO) q ((pickL zs m s).map (Value.int .i64)) := by
          rw [HPK.out, HN.out]
          exact hown
        clear hown hrS hr3
        go_wp2_with fail
        go_ret2
        exact Picks.of_ HOK.out hown2 hsz3 hbF
  · have HOK := Lib.hid hok
    have e1 : smpB (tot zs) m s = false := (smp_out hok).2
    rw [e1]
    clear hok e1 hlS hkS hcS1 hcS2 hownS hr
    have hb4 := hb3.alloc hb3.size (.cells #[] 3)
    go_wp2_with fail
    go_ret2
    exact ⟨_, 0, 0, ret_sb (smp_out HOK.out).2.symm, by rw [pickL_no HOK.out]; rfl, .inl (by rw [pickL_no HOK.out]; rfl), .inl rfl, (fun ad e => by injection e with e; subst e; exact hb3.size), hb4⟩

end Go.Proofs.Ytkjdccpomldmeaa
