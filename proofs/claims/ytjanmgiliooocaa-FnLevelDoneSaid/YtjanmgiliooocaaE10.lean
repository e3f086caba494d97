/- Further seats: what DistrictLevel of the reference returns. The conditions stand in each theorem. -/
import Derived.Test.YtjanmgiliooocaaE9
namespace Go.Proofs.Ytjanmgiliooocaa
open Go.RowKit Go.ChangeShapes
open Man
set_option linter.unusedVariables false

set_option maxHeartbeats 4000000 in
theorem sDistrictLevel_any (A : Option Addr) (N C : Nat) (rs : List Sl) (s fu me : Int) (Lo : Option Addr) (l f : Nat) (lots : List Int) (w : World) (hN : rs.length = N) (hNm : N ≤ 1048576) (ha : Mat w w.heap.size A rs)
    (hl0 : lots.length = l) (hl1 : l ≤ 1048576) (hf1 : l ≤ f) (hf2 : f ≤ maxLen) (hl : Row w w.heap.size Lo (lots.map (Value.int .i64))) :
    Calls Try.prog 9 #[.slice A N C, .int .i64 s, .int .i64 fu, .int .i64 me, .slice Lo l f] w (Seated w (dlB (vals rs) s fu me lots) (dlL (vals rs) s fu me lots)) := by
  have HM := Lib.hid ha
  have HL := Lib.hid hl
  have HC := Lib.hid (l24Ok_any A N C rs s me Lo l f lots w hN hNm ha hl0 hl1 hf1 hf2 hl)
  have HN := Lib.hid hN
  have HLL := Lib.hid hl0
  clear ha hN hl hl0
  cases hB : dsB (vals rs) s me lots with
  | false =>
    have hQ : dlB (vals rs) s fu me lots = false := dlB_no (.inl hB)
    rw [hB] at HC
    rw [dlL_no hQ, hQ]
    clear hQ hB
    go_enter Try.func9, Try.ntmps9
    go_wp2_with fail
    refine HC.out.mono ?_
    rintro e w2 ⟨rfl, hb2⟩
    go_wp2_with fail
    go_ret2
    exact Seated.emp hb2
  | true =>
    obtain ⟨g1, g2, g3, g4, g5, g6⟩ := dsB_of hB
    obtain ⟨d1, d2, d3, d4, _⟩ := dv_rows g1
    rw [HN.out] at d1 d2
    rw [vals_len, HN.out] at g3
    rw [HLL.out] at g6
    have hsn : 0 ≤ s * (N : Int) := Int.mul_nonneg g2 (by omega)
    by_cases hf0 : 0 ≤ fu ∧ fu ≤ 20
    · have hin := inB_yes hf0.1 hf0.2
      obtain ⟨hf01, hf02⟩ := hf0
      have hw1 : IntKind.i64.wrap (s * (N : Int)) = s * (N : Int) := IntWalk.i64_in _ (by omega)
      by_cases hf3 : 20 < s * (N : Int) + fu
      · have hQ : dlB (vals rs) s fu me lots = false := dlB_no (.inr (.inr (by rw [vals_len, HN.out]; omega)))
        rw [hB] at HC
        rw [dlL_no hQ, hQ]
        clear hQ hB g1 g4 g5 g6
        go_enter Try.func9, Try.ntmps9
        go_wp2_with fail
        refine HC.out.mono ?_
        rintro e w2 ⟨rfl, hb2⟩
        go_wp2_with fail
        refine (in_any _ _ _ _).mono ?_
        rintro e w' ⟨rfl, rfl⟩
        rw [hin]
        go_wp2_with fail
        go_ret2
        exact Seated.emp hb2
      · obtain ⟨F, rfl⟩ := Int.eq_ofNat_of_zero_le hf01
        have hQ : dlB (vals rs) s (F : Int) me lots = true := dlB_yes hB (by omega) (by rw [vals_len, HN.out]; omega)
        have HR : Hid (dlL (vals rs) s (F : Int) me lots = lev (tog l (vals rs)) me lots (givL (vals rs) s me lots) F) := by
          show _ = _
          rw [dlL_yes hQ, ← g6, Int.toNat_natCast]
        have HROUND : Hid (∀ k, k < F → _) := fun k hk => lev_round hB g6.symm (k := k) (by rw [vals_len, HN.out]; omega)
        have HROWS : Hid (∀ r ∈ rs, r.zs.length = l ∧ ∀ z ∈ r.zs, 0 ≤ z ∧ z ≤ 99) := by
          have := (dv_rows g1).2.2.2.2
          rw [← g6] at this
          exact this
        have HGL : Hid ((givL (vals rs) s me lots).length = l) := (giv_ok hB).1.len.trans g6.symm
        have HDS := Lib.hid hB
        have hln : 1 ≤ l := by omega
        have hl5 : l ≤ 5 := by omega
        have hmk := make_ints l hl1
        obtain ⟨i0, hi0, hz0, hz1, hz2⟩ := info_parts info_int
        have HI := Lib.hid hi0
        have HZ0 := Lib.hid hz0
        have HZ1 := Lib.hid hz1
        have HZ2 := Lib.hid hz2
        rw [hQ]
        rw [hB] at HC
        clear hQ hB g1 g4 g5 g6 d3 d4 hi0 hz0 hz1 hz2
        go_enter Try.func9, Try.ntmps9
        go_wp2_with fail
        refine HC.out.mono ?_
        rintro e w1 ⟨rfl, hb1⟩
        go_wp2_with fail
        refine (in_any _ _ _ _).mono ?_
        rintro e w' ⟨rfl, rfl⟩
        rw [hin]
        have HC2 := Lib.hid (l24Sum_any A N C rs s me Lo l f lots w1 HDS.out HN.out (HM.out.on hb1) HLL.out hl1 hf1 hf2 (HL.out.on hb1))
        clear HC hin HDS
        go_wp2_with fail
        refine HC2.out.mono ?_
        rintro e w3 ⟨rfl, hown3, hb3⟩
        have hb23 := hb1.trans (hb3.mono hb1.size)
        have hown3' := hown3.from_ hb1.size
        have hg1lt := hown3.lt.2
        have hg1le := hb1.size
        have hb4 := hb23.alloc hb23.size (.cells (madeCells #[Value.int .i64 0] l) 3)
        have hown4 : OwnI (w3.alloc (.cells (madeCells #[Value.int .i64 0] l) 3)) w.heap.size (.slice (some ⟨w3.heap.size, 0, none⟩) l l) l (lev (tog l (vals rs)) me lots (givL (vals rs) s me lots) 0) := by
          have h := OwnI.made w3 w.heap.size l hb23.size hl1
          show OwnI _ _ _ _ (zerosL (givL (vals rs) s me lots).length)
          rw [HGL.out]
          exact h
        have hown34 := hown3'.alloc (.cells (madeCells #[Value.int .i64 0] l) 3)
        have HO34 := Lib.hid hown34
        have HO4 := Lib.hid hown4
        clear HC2 hb1 hb3 hb23 hown3 hown3' hown34 hown4
        go_wp2_with fail
        clear hmk
        obtain ⟨ga, hga⟩ : ∃ ga, ga = w1.heap.size := ⟨_, rfl⟩
        obtain ⟨gb, hgb⟩ : ∃ gb, gb = w3.heap.size := ⟨_, rfl⟩
        have hO34 := HO34.out
        have hO4 := HO4.out
        rw [← hga] at hg1lt hg1le hO34 ⊢
        rw [← hgb] at hg1lt hO4 ⊢
        go_loopw [12, 14] (fun u i wx => ∃ (k g cc : Nat), k ≤ F ∧ i = .int .i64 k ∧ u = .slice (some ⟨g, 0, none⟩) l cc ∧ l ≤ cc ∧ cc ≤ maxLen ∧ g ≠ gb ∧ Below w.heap.size w wx ∧ OwnI wx w.heap.size (.slice (some ⟨g, 0, none⟩) l cc) l (alloc (tog l (vals rs)) me lots (givL (vals rs) s me lots) k) ∧ OwnI wx w.heap.size (.slice (some ⟨gb, 0, none⟩) l l) l (lev (tog l (vals rs)) me lots (givL (vals rs) s me lots) k)) (fun _ i _ => F - (intOf i).toNat)
        case atStart => exact ⟨0, ga, l, Nat.zero_le _, rfl, rfl, Nat.le_refl _, by unfold maxLen; omega, by omega, hb4, hO34, hO4⟩
        case round =>
          clear hb4 hO34 hO4 HO34 HO4 hga hgb hg1lt hg1le
          obtain ⟨k, g, cc, hk, rfl, rfl, hcc1, hcc2, hgne, hbel, hA, hV⟩ := hrel
          by_cases hlt : k < F
          · obtain ⟨P, hsb, hnx, hPl, hla, hlv, hbd⟩ := HROUND.out k hlt
            have p1 : P < (lev (tog l (vals rs)) me lots (givL (vals rs) s me lots) k).length := by rw [hlv]; exact hPl
            have p2 : P < (alloc (tog l (vals rs)) me lots (givL (vals rs) s me lots) k).length := by rw [hla]; exact hPl
            obtain ⟨b1, b2, b3, b4⟩ := hbd p1 p2
            have hfit := fit_of hsb
            rw [tog_len] at hfit
            obtain ⟨x, hx⟩ : ∃ x, x = (alloc (tog l (vals rs)) me lots (givL (vals rs) s me lots) k)[P] := ⟨_, rfl⟩
            obtain ⟨y, hy⟩ : ∃ y, y = (lev (tog l (vals rs)) me lots (givL (vals rs) s me lots) k)[P] := ⟨_, rfl⟩
            have HA2 : Hid (alloc (tog l (vals rs)) me lots (givL (vals rs) s me lots) (k + 1) = (alloc (tog l (vals rs)) me lots (givL (vals rs) s me lots) k).set P (x + 1)) := by show _ = _; rw [hx]; exact alloc_step hnx p2
            have HV2 : Hid (lev (tog l (vals rs)) me lots (givL (vals rs) s me lots) (k + 1) = (lev (tog l (vals rs)) me lots (givL (vals rs) s me lots) k).set P (y + 1)) := by show _ = _; rw [hy]; exact lev_step hnx p1
            rw [← hx] at b3 b4
            rw [← hy] at b1 b2
            have HX := Lib.hid hx
            have HY := Lib.hid hy
            have HP1 := Lib.hid p1
            have HP2 := Lib.hid p2
            have HFIT := Lib.hid hfit
            have HNX := Lib.hid hnx
            have HAA := Lib.hid hA
            have HVV := Lib.hid hV
            have HLA := Lib.hid hla
            have HT := Lib.hid (l24Votes_any A N C l rs wr HN.out d1 d2 hl1 HROWS.out (HM.out.on hbel))
            clear hx hy hsb hnx hla hlv hbd hA hV hfit HROUND HR
            unfold maxLen at hcc2
            go_wp2_with fail
            refine HT.out.mono ?_
            rintro e w5 ⟨rfl, hown5, hb5⟩
            have hbel5 := hbel.trans (hb5.mono hbel.size)
            have HSN := Lib.hid (l21Next_any (some ⟨wr.heap.size, 0, none⟩) l l (tog l (vals rs)) (some ⟨g, 0, none⟩) cc (alloc (tog l (vals rs)) me lots (givL (vals rs) s me lots) k) me Lo f lots w5 HFIT.out hown5.rowAt.2.2 (HAA.out.below hb5).rowAt.2.2 (HL.out.on hbel5))
            rw [HNX.out] at HSN
            have HA5 := Lib.hid (HAA.out.below hb5)
            have HV5 := Lib.hid (HVV.out.below hb5)
            clear hown5 hb5 HT HNX HAA HVV HFIT
            go_wp2_with fail
            refine HSN.out.mono ?_
            rintro e w6 ⟨rfl, hb6⟩
            have hbel6 := hbel5.trans (hb6.mono hbel5.size)
            have hs6 := hbel6.size
            have hA6 := HA5.out.below hb6
            have hV6 := HV5.out.below hb6
            have hV6a := Lib.hid (hV6.alloc (.cells #[] 3))
            have hgblt := hV6.lt.2
            have hgbw := hV6.lt.1
            have HSRC : Hid (Src (w6.alloc (.cells #[] 3)) 1 (some ⟨g, 0, none⟩) l ((alloc (tog l (vals rs)) me lots (givL (vals rs) s me lots) k).map (Value.int .i64))) := (hA6.alloc _).rowAt.2.2.src (by omega) (by rw [List.length_map, HLA.out]; omega)
            have hempty := own_empty w6 w6.heap.size 3 1 (Nat.le_refl _)
            have HEM := Lib.hid hempty
            have HO := Lib.hid (ints_one (alloc (tog l (vals rs)) me lots (givL (vals rs) s me lots) k))
            clear HSN HA5 HV5 hb6 hA6 hV6 hempty hbel5 hbel
            go_wp2_with (at_builtin; refine wpList_append_src _ rfl (.tmp 56) (.tmp 57) _ rfl w6.heap.size 3 i0 _ 1 8 Try.underlying24 HI.out HZ0.out HZ1.out HZ2.out rfl (by omega) (.slice (some ⟨w6.heap.size, 0, none⟩) 0 0) 0 [] rfl HEM.out (some ⟨g, 0, none⟩) l cc ((alloc (tog l (vals rs)) me lots (givL (vals rs) s me lots) k).map (Value.int .i64)) rfl HSRC.out HO.out (by unfold maxLen; omega) (by omega) (by simp) ?_; intro v7 w7 hown7 hgrow7 hat7; rw [Nat.zero_add, List.nil_append] at hown7; have hbel7 : Below w.heap.size w w7 := (hbel6.alloc hs6 _).grown hgrow7 (by simp; omega) (fun x hx => by simp [Value.ownBlock] at hx; omega); obtain ⟨g7, c7, rfl, hg7, hg7l, hc7, hc7m⟩ := OwnI.some hown7 hln; have cx : w7.cell? ⟨g7, P, none⟩ = some (.int .i64 x) := (OwnI.cell hown7 HP2.out).trans (by rw [HX.out]); have fx := OwnI.frozen hown7 P; have hV7 := hV6a.out.other (hgrow7.block gb (by simp; omega) (fun e => by simp [Value.ownBlock] at e; omega)); have cy : w7.cell? ⟨gb, P, none⟩ = some (.int .i64 y) := (hV7.cell HP1.out).trans (by rw [HY.out]); have fy := hV7.frozen P; have hne : g7 ≠ gb := (by omega); have hne2 : gb ≠ g7 := (by omega); have HA7 := Lib.hid hown7; have HV7 := Lib.hid hV7; clear hown7 hV7 hgrow7 hat7)
            have HO1 : Hid (OwnI ((w7.setCell ⟨g7, P, none⟩ (.int .i64 (x + 1))).setCell ⟨gb, P, none⟩ (.int .i64 (y + 1))) w.heap.size (.slice (some ⟨g7, 0, none⟩) l c7) l (alloc (tog l (vals rs)) me lots (givL (vals rs) s me lots) (k + 1))) := by
              have h := ((OwnI.from_ HA7.out hs6).set P (x + 1)).other (Below.heap_setCell _ ⟨gb, P, none⟩ (.int .i64 (y + 1)) g7 (fun e => by simp at e; omega))
              rw [← HA2.out] at h
              exact h
            have HO2 : Hid (OwnI ((w7.setCell ⟨g7, P, none⟩ (.int .i64 (x + 1))).setCell ⟨gb, P, none⟩ (.int .i64 (y + 1))) w.heap.size (.slice (some ⟨gb, 0, none⟩) l l) l (lev (tog l (vals rs)) me lots (givL (vals rs) s me lots) (k + 1))) := by
              have h := (HV7.out.other (Below.heap_setCell w7 ⟨g7, P, none⟩ (.int .i64 (x + 1)) gb (fun e => by simp at e; omega))).set P (y + 1)
              rw [← HV2.out] at h
              exact h
            have HBF : Hid (Below w.heap.size w ((w7.setCell ⟨g7, P, none⟩ (.int .i64 (x + 1))).setCell ⟨gb, P, none⟩ (.int .i64 (y + 1)))) := (hbel7.setCell (by simp; omega) _).setCell hgbw _
            go_roundw
            case rel => exact ⟨k + 1, g7, c7, by omega, by go_num, rfl, hc7, hc7m, hne, HBF.out, HO1.out, HO2.out⟩
            case measure => simp [intOf]; omega
          · obtain rfl : k = F := by omega
            have HVF := Lib.hid hV
            clear hV hA
            go_wp2_with fail
            go_ret2
            exact ⟨_, l, l, rfl, by rw [HR.out]; exact HVF.out.len, hl1, Nat.le_refl _, by unfold maxLen; omega, by rw [HR.out]; exact HVF.out, hbel⟩
    · have hin := inB_no (a := fu) (lo := 0) (hi := 20) (by omega)
      have hQ : dlB (vals rs) s fu me lots = false := dlB_no (.inr (by rw [vals_len, HN.out]; omega))
      rw [hB] at HC
      rw [dlL_no hQ, hQ]
      clear hQ hB g1 g4 g5 g6 hf0
      go_enter Try.func9, Try.ntmps9
      go_wp2_with fail
      refine HC.out.mono ?_
      rintro e w2 ⟨rfl, hb2⟩
      go_wp2_with fail
      refine (in_any _ _ _ _).mono ?_
      rintro e w' ⟨rfl, rfl⟩
      rw [hin]
      go_wp2_with fail
      go_ret2
      exact Seated.emp hb2

end Go.Proofs.Ytjanmgiliooocaa
