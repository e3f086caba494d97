/- What ManifestPick of the program and of the reference return. The conditions stand in each theorem. -/
import Derived.Test.YtkjdccpomldmeaaPickS
import Derived.Test.YtkjdccpomldmeaaSamp3
namespace Go.Proofs.Ytkjdccpomldmeaa
open Go.RowKit Go.ChangeShapes
open Man
set_option linter.unusedVariables false

set_option maxRecDepth 100000 in
set_option maxHeartbeats 4000000 in
theorem ManifestPick_any (A : Option Addr) (n c : Nat) (zs : List Int) (m s : Int) (w : World) (hn : zs.length = n) (hm : n ≤ 1048576) (hr : Row w w.heap.size A (zs.map (Value.int .i64))) :
    Calls Try.prog 13 #[.slice A n c, .int .i64 m, .int .i64 s] w (Picks w zs m s) := by
  have HN := Lib.hid hn
  clear hn
  obtain ⟨i0, hi0, hz0, hz1, hz2⟩ := info_parts info_int
  have HI := Lib.hid hi0
  have HZ0 := Lib.hid hz0
  have HZ1 := Lib.hid hz1
  have HZ2 := Lib.hid hz2
  clear hi0 hz0 hz1 hz2
  go_enter Try.func13, Try.ntmps13
  go_wp2_with fail
  refine (Total_any _ _ _ zs _ HN.out hm hr).mono ?_
  rintro e w1 ⟨rfl, rfl⟩
  go_wp2_with fail
  refine (SampleOf_any (tot zs) m s _).mono ?_
  rintro e w3 ⟨AS, kS, cS, rfl, hlS, hkS, hcS1, hcS2, hownS, hb3⟩
  by_cases hok : okS (tot zs) m s
  · have HOK := Lib.hid hok
    have e1 : smpB (tot zs) m s = true := (smp_in hok).2
    rw [e1]
    have HLS := Lib.hid hlS
    have hrS : Row w3 w3.heap.size AS ((smpL (tot zs) m s).map (Value.int .i64)) := by
      obtain ⟨_, _, he, _, _, _, h⟩ := own_slice hownS
      injection he with he
      rw [he]
      exact h
    have hr3 := (hr.below hb3).more hb3.size
    clear hok e1 hlS hownS hr
    generalize hsm : smpL (tot zs) m s = sm at *
    have HSM := Lib.hid hsm
    clear hsm
    have HB3 := Lib.hid hb3
    have hsz3 := hb3.size
    clear hb3
    go_wp2_with fail
    go_loopw [10, 28] (fun v i wx => ∃ k : Nat, k ≤ kS ∧ i = .int .i64 k ∧ Below w3.heap.size w3 wx ∧ wx.ownsRow w3.heap.size 3 1 v k (((sm.map (atA zs)).take k).map (Value.int .i64))) (fun _ i _ => kS - (intOf i).toNat)
    case atStart => exact ⟨0, Nat.zero_le _, rfl, Below.refl _ _, own_nil _ _ _ _⟩
    case round =>
      obtain ⟨k, hk, rfl, hbel, hown⟩ := hrel
      obtain ⟨AO, cO, rfl, hcO1, hcO2, _, _⟩ := own_slice hown
      by_cases hlt : k < kS
      · have hl : k < sm.length := by rw [HLS.out]; exact hlt
        have hl2 : k < (sm.map (atA zs)).length := by simpa using hl
        have HT : Hid ((sm.map (atA zs)).take (k + 1) = (sm.map (atA zs)).take k ++ [atA zs sm[k]]) := by
          show _ = _
          rw [List.take_succ_eq_append_getElem hl2]
          simp
        obtain ⟨b, off, rfl, hbw, hc⟩ := int_at ((hrS.below hbel).more hbel.size) hl
        have hrz := (hr3.below hbel).more hbel.size
        have hsw := hbel.size
        generalize sm[k] = x at *
        go_wp2_with fail
        refine (At_any _ _ _ zs x _ HN.out hm hrz).mono ?_
        rintro e w4 ⟨rfl, rfl⟩
        clear hrz hc
        go_wp2_with (at_builtin; refine wpList_append_own_at _ rfl (.tmp 39) (.tmp 41) _ rfl w3.heap.size 3 i0 _ 1 8 Try.underlying22 HI.out HZ0.out HZ1.out HZ2.out rfl (by omega) (.slice AO k cO) _ _ rfl (own_alloc hown _) ⟨wr.heap.size, 0, none⟩ 1 1 [.int .i64 (atA zs x)] rfl rfl (cell_one_new _ _ _) (by intro u hu; simp at hu; subst hu; rfl) (by unfold maxLen; omega) (by omega) (by simp; omega) ?_; intro v' w12 hown12 hgrow12 hnil12 hat12; clear hnil12 hat12)
        go_roundw
        case rel =>
          refine ⟨k + 1, by omega, by go_num, (hbel.alloc hbel.size _).grown hgrow12 (by simp; omega) (fun x hx => (own_block hown x hx).1), ?_⟩
          rw [HT.out, List.map_append]
          exact hown12
        case measure => simp [intOf]; omega
      · obtain rfl : k = kS := by omega
        have HLB : Hid ((sm.map (atA zs)).length = k) := by
          show _ = _
          rw [List.length_map, HLS.out]
        have hownB : wr.ownsRow w3.heap.size 3 1 (.slice AO k cO) k ((sm.map (atA zs)).map (Value.int .i64)) := by
          have h := hown
          rw [List.take_of_length_le (Nat.le_of_eq HLB.out)] at h
          exact h
        have HP : Hid (Lib.compact (sorted (sm.map (atA zs))) = pickL zs m s) := by
          show _ = _
          rw [← HSM.out]
          exact pick_prog HOK.out
        have hbF := HB3.out.trans (hbel.mono hsz3)
        clear hown hrS hr3
        generalize sm.map (atA zs) = bs at *
        rcases hownB.2 with ⟨hv, hbs⟩ | ⟨g, cap, cur, hv, hgb, hh, h1, h2, h3, h4⟩
        · obtain ⟨rfl, rfl, rfl⟩ : AO = none ∧ k = 0 ∧ cO = 0 := by injection hv with a b c; exact ⟨a, b, c⟩
          have hbs0 : bs = [] := List.eq_nil_of_length_eq_zero HLB.out
          have HPN : Hid (pickL zs m s = []) := by
            show _ = _
            rw [← HP.out]
            have h1 := Lib.compact_length_le (sorted bs)
            have h2 := sorted_len bs
            have h3 := HLB.out
            exact List.eq_nil_of_length_eq_zero (by omega)
          clear hv hbs hbs0 hownB hbel HLB HP
          go_wp2_with fail
          refine (Try.slices_Sort_int_none none 0 wr).mono ?_
          rintro e w5 ⟨rfl, rfl⟩
          go_wp2_with fail
          refine (Try.slices_Compact_int_empty none 0 _).mono ?_
          rintro e w6 ⟨rfl, rfl⟩
          go_wp2_with fail
          refine (Clip_any none 0 0 _ (Nat.le_refl _) (Nat.zero_le _)).mono ?_
          rintro e w7 ⟨rfl, rfl⟩
          go_wp2_with fail
          go_ret2
          exact ⟨none, 0, 0, ret_sb (smp_in HOK.out).2.symm, by rw [HPN.out]; rfl, .inl (by rw [HPN.out]; rfl), .inl rfl, (fun ad e => by cases e), hbF⟩
        · obtain ⟨rfl, rfl⟩ : AO = some ⟨g, 0, none⟩ ∧ cO = cap := by injection hv with a b c; exact ⟨a, c⟩
          clear hv hh h1 h2 h3 h4
          have hownC : wr.ownsRow w3.heap.size 3 1 (.slice (some ⟨g, 0, none⟩) bs.length cO) bs.length (bs.map (Value.int .i64)) := by
            rw [HLB.out]
            exact hownB
          obtain ⟨hH, hgl, _, hbc, hcm⟩ := own_holds hownC
          have hs := Try.slices_Sort_int g 0 cO bs wr hH hgl (by rw [HLB.out]; omega)
          rw [HLB.out] at hs
          have HSORT := Lib.hid hs
          have HOC := Lib.hid hownC
          clear hs hownB hH hownC hbc hcm
          go_wp2_with fail
          refine HSORT.out.mono ?_
          rintro e w5 ⟨rfl, nd, os, hw5⟩
          have hown5 : w5.ownsRow w3.heap.size 3 1 (.slice (some ⟨g, 0, none⟩) bs.length cO) bs.length ((sorted bs).map (Value.int .i64)) := by
            rw [hw5]
            exact own_resorted HOC.out (sorted_len bs)
          have hg5 : wr.grownBy w5 (some g) := by
            rw [hw5]
            exact grownBy_sortedI _
          clear hw5 HSORT HOC
          have hbel5 := hbel.grown hg5 hbel.size (fun x hx => by injection hx with hx; omega)
          have hLS : (sorted bs).length = k := (sorted_len bs).trans HLB.out
          have hownD : w5.ownsRow w3.heap.size 3 1 (.slice (some ⟨g, 0, none⟩) (sorted bs).length cO) (sorted bs).length ((sorted bs).map (Value.int .i64)) := by
            rw [sorted_len]
            exact hown5
          have HLS2 := Lib.hid hLS
          generalize sorted bs = ss at *
          obtain ⟨hH, hgl5, _, hbc, hcm⟩ := own_holds hownD
          have hs := Try.slices_Compact_int g 0 cO ss w5 hH (by rw [HLS2.out]; omega) hbc
          rw [HLS2.out] at hs
          have HCMP := Lib.hid hs
          have HOD := Lib.hid hownD
          clear hs hH hownD hown5 hbc hcm hbel hLS
          go_wp2_with fail
          refine HCMP.out.mono ?_
          rintro e w6 ⟨rfl, q, hw6⟩
          have HLE := Lib.hid (Lib.compact_length_le ss)
          have hown6 : w6.ownsRow w3.heap.size 3 1 (.slice (some ⟨g, 0, none⟩) ss.length cO) ss.length ((Lib.compact ss ++ List.replicate (ss.length - (Lib.compact ss).length) 0).map (Value.int .i64)) := by
            have h := own_resorted (n := q) (os := #[]) (ts := Lib.compact ss ++ List.replicate (ss.length - (Lib.compact ss).length) 0) HOD.out (by rw [List.length_append, List.length_replicate]; have := HLE.out; omega)
            rw [Sort.grow_empty] at h
            rw [hw6]
            rw [HLS2.out] at h ⊢
            exact h
          have hg6 : w5.grownBy w6 (some g) := by
            have h := grownBy_sortedI (w := w5) (g := g) (n := q) (os := #[]) (Lib.compact ss ++ List.replicate (ss.length - (Lib.compact ss).length) 0).toArray
            rw [Sort.grow_empty] at h
            rw [hw6]
            rw [HLS2.out] at h
            exact h
          clear hw6 HCMP HOD
          have hbel6 := hbel5.grown hg6 hbel5.size (fun x hx => by injection hx with hx; omega)
          have hown7 := own_shrink hown6 HLE.out
          rw [List.map_append, List.take_append_of_le_length (by simp), List.take_of_length_le (by simp)] at hown7
          have hle := HLE.out
          have hlc := HLS2.out
          generalize hml : (Lib.compact ss).length = ml at *
          rw [HP.out] at hown7
          have HML : Hid ((pickL zs m s).length = ml) := by
            show _ = _
            rw [← HP.out]
            exact hml
          have hmc : ml ≤ cO := by omega
          clear hml hle hlc hown6 HLE hg5 hg6 hbel5
          go_wp2_with fail
          refine (Clip_any (some ⟨g, 0, none⟩) ml cO w6 hmc hcO2).mono ?_
          rintro e w7 ⟨rfl, rfl⟩
          have hob := own_block hown7
          obtain ⟨_, _, he, _, _, _, hrow7⟩ := own_slice hown7
          injection he with he1 he2 he3
          subst he1
          have hwr7 := own_wr hown7
          have hbF6 := HB3.out.trans (hbel6.mono hsz3)
          clear he2 he3 hown7
          go_wp2_with fail
          go_ret2
          refine ⟨some ⟨g, 0, none⟩, ml, ml, ret_sb (smp_in HOK.out).2.symm, HML.out, hrow7, hwr7, fun ad e => Nat.le_trans hsz3 ?_, hbF6⟩
          exact (hob ad.block (by rw [e]; rfl)).1
  · have HOK := Lib.hid hok
    have e1 : smpB (tot zs) m s = false := (smp_out hok).2
    rw [e1]
    clear hok e1 hlS hkS hcS1 hcS2 hownS hr
    go_wp2_with fail
    go_ret2
    exact Picks.none_ HOK.out hb3

end Go.Proofs.Ytkjdccpomldmeaa
