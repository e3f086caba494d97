/- The law FnPairsPart returns true and leaves all that was there as it was. The conditions stand in each theorem. -/
import Derived.Test.YtkpgbombikgffaaLawD4
import Derived.IntWalk
namespace Go.Proofs.Ytkpgbombikgffaa
open Go.RowKit Go.ChangeShapes
set_option linter.unusedVariables false

theorem prCells_set0 : ∀ (l : List Pr) (k : Nat) (s : ByteArray) (h : k < l.length), (prCells l).set (k * 2) (.string s) = prCells (l.set k (s, l[k].2))
  | p :: l, 0, s, _ => rfl
  | p :: l, k + 1, s, h => by
    have ih := prCells_set0 l k s (by simpa using h)
    have e1 : (k + 1) * 2 = k * 2 + 1 + 1 := by omega
    rw [e1]
    show (Value.string p.1 :: Value.string p.2 :: prCells l).set (k * 2 + 1 + 1) _ = Value.string p.1 :: Value.string p.2 :: prCells (l.set k (s, (l[k]'(by simpa using h)).2))
    rw [← ih]
    rfl
theorem pairs_oneCell (l : List Pr) : ∀ u ∈ prCells l, u.oneCell' = true := by
  induction l with
  | nil => intro u hu; simp [prCells] at hu
  | cons p l ih =>
    intro u hu
    have : u ∈ Value.string p.1 :: Value.string p.2 :: prCells l := hu
    rcases List.mem_cons.1 this with rfl | h
    · rfl
    · rcases List.mem_cons.1 h with rfl | h
      · rfl
      · exact ih u h
theorem pvB_aa {ps : List Pr} {k : Nat} (hk : k < ps.length) (s : ByteArray) : pvB (ps.set k (⟨#[97, 97]⟩, s)) = false := by
  refine pvB_bad (k := k) (by rw [List.length_set]; exact hk) ?_
  rw [List.getElem_set_self]
  unfold okPr
  rw [aa_no]
  rfl

theorem own_some {w : World} {base : Nat} {e : TypeId} {size n : Nat} {v : Value} {xs : List Value} (h : w.ownsRow base e size v n xs) (hn : 0 < n) : ∃ g cc, v = .slice (some ⟨g, 0, none⟩) n cc ∧ base ≤ g ∧ n ≤ cc ∧ cc ≤ maxLen := by
  rcases h.2 with ⟨_, h0⟩ | ⟨g, cc, cur, h1, h2, h3, h4, h5, _⟩
  · omega
  · exact ⟨g, cc, h1, h2, h4, h5⟩

set_option maxRecDepth 100000 in
set_option maxHeartbeats 4000000 in
theorem FnPairsPart_walk (a0 : Option Addr) (len0 cap0 : Nat) (z0 : List Int) (a1 : Option Addr) (len1 cap1 : Nat) (z1 : List Int) (w : World) (w0 : IsRow .u8 w a0 len0 cap0 z0) (w1 : IsRow .u8 w a1 len1 cap1 z1) :
    Calls Try.prog 3 #[.slice a0 len0 cap0, .slice a1 len1 cap1] w fun e w' => e = .returned (.bool true) ∧ Below w.heap.size w w' := by
  have hcap := w0.len_le.2.1
  have hlen := w0.len_le.1
  have hcap1 := w1.len_le.2.1
  have hlen1 := w1.len_le.1
  unfold maxLen at hcap hcap1
  clear w1
  by_cases hbig : 1048576 < len0
  · clear w0
    go_enter Try.func3, Try.ntmps3
    go_wp2
    go_ret
    exact ⟨rfl, Below.refl _ _⟩
  by_cases hbig1 : 1048576 < len1
  · clear w0
    go_enter Try.func3, Try.ntmps3
    go_wp2
    go_ret
    exact ⟨rfl, Below.refl _ _⟩
  obtain ⟨i0, hi0, hz0, hz1, hz2⟩ := info_parts info_pair
  have HI := Lib.hid hi0
  have HZ0 := Lib.hid hz0
  have HZ1 := Lib.hid hz1
  have HZ2 := Lib.hid hz2
  clear hi0 hz0 hz1 hz2
  have dd0 : decide ((1048576 : Int) < (len0 : Int)) = false := by simp; omega
  have dd1 : decide ((1048576 : Int) < (len1 : Int)) = false := by simp; omega
  go_enter Try.func3, Try.ntmps3
  go_wp2_with fail
  refine (DrawPairsValid_any _ _ _ _ _ w0).mono ?_
  rintro e w2 ⟨A, ps, n, c, rfl, hl, hn, hsh, hc1, hc2, hr, hb⟩
  have HN := Lib.hid hl
  have HS : Hid (∀ z ∈ ps, smallPr z) := fun z hz => short_small (hsh z hz)
  clear w0 hbig hcap hlen hl hsh
  unfold maxLen at hc2
  go_wp2_with fail
  refine (PairsValid_any _ _ _ ps _ HN.out (by omega) HS.out hr).mono ?_
  rintro e w3 ⟨rfl, hb3⟩
  have hr3 := (hr.below hb3).more hb3.size
  have hbF3 := hb.trans (hb3.mono hb.size)
  clear hr hb3 hb
  go_wp2_with fail
  refine (sPairsValid_any _ _ _ ps _ HN.out (by omega) HS.out hr3).mono ?_
  rintro e w4 ⟨rfl, hb4⟩
  have hr4 := (hr3.below hb4).more hb4.size
  have hbF4 := hbF3.trans (hb4.mono hbF3.size)
  have hsF4 := hbF4.size
  clear hr3 hb4 hbF3
  cases hv : pvB ps with
  | false =>
    clear hr4 hv
    go_wp2_with fail
    go_ret
    exact ⟨rfl, hbF4⟩
  | true =>
    by_cases hn0 : n = 0
    · have e0 : ((n : Int) == 0) = true := by simp; omega
      subst hn0
      clear hr4 hv
      go_wp2_with fail
      go_ret
      exact ⟨rfl, hbF4⟩
    have e0 : ((n : Int) == 0) = false := by simp; omega
    obtain ⟨K, hK⟩ : ∃ K : Nat, K = len1 % n := ⟨_, rfl⟩
    have hKn : K < n := by have := Nat.mod_lt len1 (show 0 < n by omega); omega
    have eK : (len1 : Int) % (n : Int) = (K : Int) := by rw [hK]; rfl
    have l20 := (pvB_len hv).1
    have hKl : K < ps.length := by rw [HN.out]; exact hKn
    have HV : Hid (pvB (ps.take K ++ ps.drop (K + 1)) = true) := pvB_sub hv (fun p hp => by
      rcases List.mem_append.1 hp with hp | hp
      · exact List.mem_of_mem_take hp
      · exact List.mem_of_mem_drop hp) (by rw [List.length_append, List.length_take, List.length_drop]; omega)
    have HSX : Hid (∀ z ∈ ps.take K ++ ps.drop (K + 1), smallPr z) := fun z hz => by
      rcases List.mem_append.1 hz with hp | hp
      · exact HS.out _ (List.mem_of_mem_take hp)
      · exact HS.out _ (List.mem_of_mem_drop hp)
    have HLX : Hid ((ps.take K ++ ps.drop (K + 1)).length = K + (n - (K + 1))) := by
      show _ = _
      rw [List.length_append, List.length_take, List.length_drop, HN.out]
      omega
    have HVY := Lib.hid (pvB_aa hKl ps[K].2)
    have HSY : Hid (∀ z ∈ ps.set K (⟨#[97, 97]⟩, ps[K].2), smallPr z) := fun z hz => by
      rcases List.mem_or_eq_of_mem_set hz with hz | hz
      · exact HS.out z hz
      · rw [hz]
        exact ⟨by show 2 ≤ 1048576; omega, (HS.out _ (List.getElem_mem hKl)).2⟩
    have HLY : Hid ((ps.set K (⟨#[97, 97]⟩, ps[K].2)).length = n) := by
      show _ = _
      rw [List.length_set]
      exact HN.out
    have HCY := Lib.hid (prCells_set0 ps K ⟨#[97, 97]⟩ hKl)
    obtain ⟨b, off, rfl, hbw, _, _⟩ := pair_at hr4 hKl
    have hlenP : (prCells ps).length = n * 2 := by rw [prCells_len, HN.out]
    have S1 : Src w4 2 (some ⟨b, off, none⟩) K (prCells (ps.take K)) := by
      rw [prCells_take]
      exact (hr4.take (K * 2)).src (by omega) (by rw [List.length_take, hlenP]; omega)
    have S3 : Src w4 2 (some ⟨b, off, none⟩) n (prCells ps) := hr4.src (by omega) hlenP
    have hcut := hr4.cutN (n := n) (k := K + 1) (c := c) (size := 2) hlenP (by omega) hc1
    have lenD : ((prCells ps).drop ((K + 1) * 2)).length = (n - (K + 1)) * 2 := by rw [List.length_drop, hlenP]; omega
    have HS1 := Lib.hid S1
    have HS3 := Lib.hid S3
    have HCUT := Lib.hid hcut
    have HLD := Lib.hid lenD
    have HO1 := Lib.hid (pairs_oneCell (ps.take K))
    have HO2 : Hid (∀ u ∈ (prCells ps).drop ((K + 1) * 2), u.oneCell' = true) := by
      rw [← prCells_drop]
      exact pairs_oneCell _
    have HO3 := Lib.hid (pairs_oneCell ps)
    clear S1 S3 hcut lenD hr4 hv hK l20 hlenP
    go_wp2_with fail
    simp only [eK]
    clear eK
    have y1 : K ≤ c := by omega
    have y2 : K + 1 ≤ n := by omega
    have y3 : K + 1 ≤ c := by omega
    have y4 : (K : Int) + 1 ≤ (n : Int) := by omega
    have y5 : (0 : Int) ≤ (K : Int) + 1 := by omega
    have y6 : ((K : Int) + 1).toNat = K + 1 := by omega
    have y7 : IntKind.i64.wrap ((K : Int) + 1) = (K : Int) + 1 := IntWalk.i64_in _ (by omega)
    have y8 : (K : Int) ≤ (K : Int) + 1 := by omega
    by_cases hcK : c = K + 1
    · obtain rfl : n = K + 1 := by omega
      subst hcK
      have HS2 : Hid (Src w4 2 (some ⟨b, off, none⟩) 0 ((prCells ps).drop ((K + 1) * 2))) := ⟨by rw [HLD.out]; omega, fun h => absurd h (by omega)⟩
      have HLX' : Hid ((ps.take K ++ ps.drop (K + 1)).length = K + 0) := by
        have := HLX.out
        show _ = _
        omega
      clear HLX
      have HLX := HLX'
      clear HLX'
      go_region_law (first
        | (refine step_append_src _ rfl (.tmp 45) (.tmp 48) _ rfl w4.heap.size 27 i0 _ 2 32 Try.underlying23 HI.out HZ0.out HZ1.out HZ2.out rfl (by omega) (.slice (some ⟨w4.heap.size, 0, none⟩) 0 0) 0 [] rfl (own_empty w4 _ _ _ (Nat.le_refl _)) (some ⟨b, off, none⟩) K (K + 1) (prCells (ps.take K)) rfl (HS1.out.keep (fun ad he => by injection he with he; subst he; exact Below.heap_alloc w4 _ b hbw)) HO1.out (by unfold maxLen; omega) (by omega) (by simp) ?_; intro v7 w7 hown7 hgrow7 hat7; have hb47 : Below w4.heap.size w4 w7 := ((Below.refl _ _).alloc (Nat.le_refl _) _).drew.grown hgrow7 (by simp) (fun x hx => (own_block (own_empty w4 w4.heap.size 27 2 (Nat.le_refl _)) x hx).1))
        | (refine step_append_src _ rfl (.tmp 49) (.tmp 53) _ rfl w4.heap.size 27 i0 _ 2 32 Try.underlying23 HI.out HZ0.out HZ1.out HZ2.out rfl (by omega) v7 (0 + K) _ rfl hown7 (some ⟨b, off, none⟩) 0 0 ((prCells ps).drop ((K + 1) * 2)) rfl (HS2.out.keep (fun ad he => by injection he with he; subst he; exact hb47.block b hbw)) HO2.out (by unfold maxLen; omega) (by omega) hb47.size ?_; intro v9 w9 hown9 hgrow9 hat9; have hb49 : Below w4.heap.size w4 w9 := hb47.grown hgrow9 hb47.size (fun x hx => (own_block hown7 x hx).1)))
      have hownX : w9.ownsRow w4.heap.size 27 2 v9 (K + 0) (prCells (ps.take K ++ ps.drop (K + 1))) := by
        have h := hown9
        rw [Nat.zero_add, List.nil_append] at h
        rw [prCells_app, prCells_drop]
        exact h
      obtain ⟨A9, c9, rfl, hc91, hc92, _, _⟩ := own_sliceN hownX
      have hbF9 := hbF4.trans (hb49.mono hsF4)
      have hb9 := hb49.block b hbw
      have hbw9 : b < w9.heap.size := Nat.lt_of_lt_of_le hbw hb49.size
      have hM : K + 0 ≤ 21 := by omega
      clear hown9 hown7 hgrow7 hgrow9 hat7 hat9 hb47
      generalize K + 0 = M at *
      generalize ps.take K ++ ps.drop (K + 1) = X at *
      generalize ps.set K (⟨#[97, 97]⟩, ps[K].2) = Y at *
      have HB9 := Lib.hid hb9
      have yK : (K : Int) < (((K + 1 : Nat)) : Int) := by omega
      clear hb9
      go_simp
      go_wp2_with (at_builtin; refine wpList_append_src _ rfl (.tmp 55) (.tmp 56) _ rfl w9.heap.size 27 i0 _ 2 32 Try.underlying23 HI.out HZ0.out HZ1.out HZ2.out rfl (by omega) (.slice (some ⟨w9.heap.size, 0, none⟩) 0 0) 0 [] rfl (own_empty w9 _ _ _ (Nat.le_refl _)) (some ⟨b, off, none⟩) (K + 1) (K + 1) (prCells ps) rfl (HS3.out.keep (fun ad he => by injection he with he; subst he; exact (Below.heap_alloc w9 _ b hbw9).trans HB9.out)) HO3.out (by unfold maxLen; omega) (by omega) (by simp) ?_; intro v11 w11 hown11 hgrow11 hat11; rw [Nat.zero_add, List.nil_append] at hown11; obtain ⟨g, cc, rfl, hgb, hcc1, hcc2⟩ := own_some hown11 (by omega); have hb911 : Below w9.heap.size w9 w11 := ((Below.refl _ _).alloc (Nat.le_refl _) _).grown hgrow11 (by simp) (fun x hx => (own_block (own_empty w9 w9.heap.size 27 2 (Nat.le_refl _)) x hx).1); have hu : ∃ u, w11.cell? ⟨g, K * 2, none⟩ = some u := ⟨_, (hown11.cellAt (K * 2) (by omega)).trans (List.getElem?_eq_getElem (by rw [prCells_len, HN.out]; omega))⟩; obtain ⟨u, hu⟩ := hu; have hfz := hown11.frozenAt (K * 2); have ST := Lib.hid (hown11.stored (K * 2) (.string ⟨#[97, 97]⟩)); clear hown11 hgrow11 hat11)
      have hb9F := hb911.setCell (p := ⟨g, K * 2, none⟩) hgb (.string ⟨#[97, 97]⟩)
      have hownX2 := own_below hownX hb9F
      have hownY : World.ownsRow (w11.setCell ⟨g, K * 2, none⟩ (.string ⟨#[97, 97]⟩)) w9.heap.size 27 2 (.slice (some ⟨g, 0, none⟩) (K + 1) cc) (K + 1) (prCells Y) := by
        rw [← HCY.out]
        exact ST.out.1
      clear hb911 hownX ST hu hfz
      generalize w11.setCell ⟨g, K * 2, none⟩ (.string ⟨#[97, 97]⟩) = w12 at *
      obtain ⟨_, _, hev, _, _, _, hrowX⟩ := own_sliceN hownX2
      injection hev with ev1 ev2 ev3
      subst ev1
      obtain ⟨_, _, hev', _, _, _, hrowY⟩ := own_sliceN hownY
      injection hev' with ev1' ev2' ev3'
      subst ev1'
      clear ev2 ev3 ev2' ev3' hownX2 hownY
      refine (PairsValid_any _ M _ X _ HLX.out (by omega) HSX.out hrowX).mono ?_
      rintro e w13 ⟨rfl, hb13⟩
      have hrowY2 := (hrowY.below hb13).more hb13.size
      rw [HV.out]
      clear hrowX hrowY
      go_wp2_with fail
      refine (PairsValid_any _ (K + 1) _ Y _ HLY.out (by omega) HSY.out hrowY2).mono ?_
      rintro e w14 ⟨rfl, hb14⟩
      rw [HVY.out]
      clear hrowY2
      go_wp2_with fail
      go_ret
      have b12 := hbF9.trans (hb9F.mono hbF9.size)
      have b13 := b12.trans (hb13.mono b12.size)
      exact ⟨rfl, b13.trans (hb14.mono b13.size)⟩
    · have hcut := HCUT.out
      rw [if_neg hcK] at hcut
      have HS2 := Lib.hid (hcut.src (m := n - (K + 1)) (by omega) HLD.out)
      clear hcut
      go_region_law (first
        | (refine step_append_src _ rfl (.tmp 45) (.tmp 48) _ rfl w4.heap.size 27 i0 _ 2 32 Try.underlying23 HI.out HZ0.out HZ1.out HZ2.out rfl (by omega) (.slice (some ⟨w4.heap.size, 0, none⟩) 0 0) 0 [] rfl (own_empty w4 _ _ _ (Nat.le_refl _)) (some ⟨b, off, none⟩) K c (prCells (ps.take K)) rfl (HS1.out.keep (fun ad he => by injection he with he; subst he; exact Below.heap_alloc w4 _ b hbw)) HO1.out (by unfold maxLen; omega) (by omega) (by simp) ?_; intro v7 w7 hown7 hgrow7 hat7; have hb47 : Below w4.heap.size w4 w7 := ((Below.refl _ _).alloc (Nat.le_refl _) _).drew.grown hgrow7 (by simp) (fun x hx => (own_block (own_empty w4 w4.heap.size 27 2 (Nat.le_refl _)) x hx).1))
        | (refine step_append_src _ rfl (.tmp 49) (.tmp 53) _ rfl w4.heap.size 27 i0 _ 2 32 Try.underlying23 HI.out HZ0.out HZ1.out HZ2.out rfl (by omega) v7 (0 + K) _ rfl hown7 (some ⟨b, off + (K + 1) * 2, none⟩) (n - (K + 1)) (c - (K + 1)) ((prCells ps).drop ((K + 1) * 2)) rfl (HS2.out.keep (fun ad he => by injection he with he; subst he; exact hb47.block b hbw)) HO2.out (by unfold maxLen; omega) (by omega) hb47.size ?_; intro v9 w9 hown9 hgrow9 hat9; have hb49 : Below w4.heap.size w4 w9 := hb47.grown hgrow9 hb47.size (fun x hx => (own_block hown7 x hx).1)))
      have hownX : w9.ownsRow w4.heap.size 27 2 v9 (K + (n - (K + 1))) (prCells (ps.take K ++ ps.drop (K + 1))) := by
        have h := hown9
        rw [Nat.zero_add, List.nil_append] at h
        rw [prCells_app, prCells_drop]
        exact h
      obtain ⟨A9, c9, rfl, hc91, hc92, _, _⟩ := own_sliceN hownX
      have hbF9 := hbF4.trans (hb49.mono hsF4)
      have hb9 := hb49.block b hbw
      have hbw9 : b < w9.heap.size := Nat.lt_of_lt_of_le hbw hb49.size
      have hM : K + (n - (K + 1)) ≤ 21 := by omega
      clear hown9 hown7 hgrow7 hgrow9 hat7 hat9 hb47
      generalize K + (n - (K + 1)) = M at *
      generalize ps.take K ++ ps.drop (K + 1) = X at *
      generalize ps.set K (⟨#[97, 97]⟩, ps[K].2) = Y at *
      have HB9 := Lib.hid hb9
      have yK : (K : Int) < (n : Int) := by omega
      clear hb9
      go_simp
      go_wp2_with (at_builtin; refine wpList_append_src _ rfl (.tmp 55) (.tmp 56) _ rfl w9.heap.size 27 i0 _ 2 32 Try.underlying23 HI.out HZ0.out HZ1.out HZ2.out rfl (by omega) (.slice (some ⟨w9.heap.size, 0, none⟩) 0 0) 0 [] rfl (own_empty w9 _ _ _ (Nat.le_refl _)) (some ⟨b, off, none⟩) (n) (c) (prCells ps) rfl (HS3.out.keep (fun ad he => by injection he with he; subst he; exact (Below.heap_alloc w9 _ b hbw9).trans HB9.out)) HO3.out (by unfold maxLen; omega) (by omega) (by simp) ?_; intro v11 w11 hown11 hgrow11 hat11; rw [Nat.zero_add, List.nil_append] at hown11; obtain ⟨g, cc, rfl, hgb, hcc1, hcc2⟩ := own_some hown11 (by omega); have hb911 : Below w9.heap.size w9 w11 := ((Below.refl _ _).alloc (Nat.le_refl _) _).grown hgrow11 (by simp) (fun x hx => (own_block (own_empty w9 w9.heap.size 27 2 (Nat.le_refl _)) x hx).1); have hu : ∃ u, w11.cell? ⟨g, K * 2, none⟩ = some u := ⟨_, (hown11.cellAt (K * 2) (by omega)).trans (List.getElem?_eq_getElem (by rw [prCells_len, HN.out]; omega))⟩; obtain ⟨u, hu⟩ := hu; have hfz := hown11.frozenAt (K * 2); have ST := Lib.hid (hown11.stored (K * 2) (.string ⟨#[97, 97]⟩)); clear hown11 hgrow11 hat11)
      have hb9F := hb911.setCell (p := ⟨g, K * 2, none⟩) hgb (.string ⟨#[97, 97]⟩)
      have hownX2 := own_below hownX hb9F
      have hownY : World.ownsRow (w11.setCell ⟨g, K * 2, none⟩ (.string ⟨#[97, 97]⟩)) w9.heap.size 27 2 (.slice (some ⟨g, 0, none⟩) (n) cc) (n) (prCells Y) := by
        rw [← HCY.out]
        exact ST.out.1
      clear hb911 hownX ST hu hfz
      generalize w11.setCell ⟨g, K * 2, none⟩ (.string ⟨#[97, 97]⟩) = w12 at *
      obtain ⟨_, _, hev, _, _, _, hrowX⟩ := own_sliceN hownX2
      injection hev with ev1 ev2 ev3
      subst ev1
      obtain ⟨_, _, hev', _, _, _, hrowY⟩ := own_sliceN hownY
      injection hev' with ev1' ev2' ev3'
      subst ev1'
      clear ev2 ev3 ev2' ev3' hownX2 hownY
      refine (PairsValid_any _ M _ X _ HLX.out (by omega) HSX.out hrowX).mono ?_
      rintro e w13 ⟨rfl, hb13⟩
      have hrowY2 := (hrowY.below hb13).more hb13.size
      rw [HV.out]
      clear hrowX hrowY
      go_wp2_with fail
      refine (PairsValid_any _ (n) _ Y _ HLY.out (by omega) HSY.out hrowY2).mono ?_
      rintro e w14 ⟨rfl, hb14⟩
      rw [HVY.out]
      clear hrowY2
      go_wp2_with fail
      go_ret
      have b12 := hbF9.trans (hb9F.mono hbF9.size)
      have b13 := b12.trans (hb13.mono b12.size)
      exact ⟨rfl, b13.trans (hb14.mono b13.size)⟩

end Go.Proofs.Ytkpgbombikgffaa
