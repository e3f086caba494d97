/- Further seats: what DistrictLevel of the program and of the reference return. The conditions stand in each theorem. -/
import Derived.Test.YtjanmgiliooocaaE8
namespace Go.Proofs.Ytjanmgiliooocaa
open Go.RowKit Go.ChangeShapes
open Man
set_option linter.unusedVariables false

theorem lev_bd {n : Nat} {v g : List Int} {me : Int} {lots : List Int} (hm : 1 ≤ me) (L : Lots n lots) (G : Seats n g) (k P : Nat) (h1 : P < (lev v me lots g k).length) (h2 : P < (alloc v me lots g k).length) : 0 ≤ (lev v me lots g k)[P] ∧ (lev v me lots g k)[P] ≤ (alloc v me lots g k)[P] := by
  have e := lev_at (v := v) hm L G (p := (P : Int)) (by omega) k
  have h3 := alloc_ge (v := v) hm L G (P : Int) (by omega) k
  have h4 := G.nn (P : Int)
  rw [atZ_nat _ h1, atZ_nat _ h2] at e
  rw [atZ_nat _ h2] at h3
  omega
/-- What a round of further seats needs. -/
theorem lev_round {vs : List (List Int)} {s me : Int} {lots : List Int} (h : dsB vs s me lots = true) {n k : Nat} (hn : wid vs = n) (hk : s * (vs.length : Int) + (k : Int) ≤ 20) :
    ∃ P : Nat, snB (tog n vs) (alloc (tog n vs) me lots (givL vs s me lots) k) me lots = true ∧ nextL (tog n vs) (alloc (tog n vs) me lots (givL vs s me lots) k) me lots = (P : Int) ∧ P < n ∧
      (alloc (tog n vs) me lots (givL vs s me lots) k).length = n ∧ (lev (tog n vs) me lots (givL vs s me lots) k).length = n ∧
      ∀ (h1 : P < (lev (tog n vs) me lots (givL vs s me lots) k).length) (h2 : P < (alloc (tog n vs) me lots (givL vs s me lots) k).length),
        0 ≤ (lev (tog n vs) me lots (givL vs s me lots) k)[P] ∧ (lev (tog n vs) me lots (givL vs s me lots) k)[P] ≤ 20 ∧ 0 ≤ (alloc (tog n vs) me lots (givL vs s me lots) k)[P] ∧ (alloc (tog n vs) me lots (givL vs s me lots) k)[P] ≤ 20 := by
  have hs := lev_ok h hk
  rw [hn] at hs
  obtain ⟨P, hP, hPn⟩ := next_nat hs
  rw [tog_len] at hPn
  have F := fit_of hs
  rw [tog_len] at F
  obtain ⟨g1, g2, g3, g4, g5, g6⟩ := dsB_of h
  obtain ⟨G, hg⟩ := giv_ok h
  rw [hn] at G g6
  have L := lots_of g5
  rw [g6] at L
  refine ⟨P, hs, hP, hPn, F.gl, by rw [lev_len, G.len], fun h1 h2 => ?_⟩
  have b1 := lev_bd (v := tog n vs) (me_one g4) L G k P h1 h2
  have b2 := F.gb _ (List.getElem_mem h2)
  omega
theorem giv_tog {qs : List Sl} {vs : List (List Int)} {s me : Int} {lots : List Int} (h : dsB vs s me lots = true) (hq : vals qs = apL vs s me lots) {n : Nat} (hn : wid vs = n) : tog n (vals qs) = givL vs s me lots ∧ ∀ r ∈ qs, r.zs.length = n ∧ ∀ z ∈ r.zs, 0 ≤ z ∧ z ≤ 99 := by
  refine ⟨by rw [hq, ← hn]; rfl, fun r hr => ?_⟩
  have h1 : r.zs ∈ apL vs s me lots := by rw [← hq]; exact List.mem_map.2 ⟨r, hr, rfl⟩
  obtain ⟨a1, a2, a3⟩ := ap_len h _ h1
  exact ⟨a1.trans hn, fun z hz => by have := a2 z hz; omega⟩

set_option maxHeartbeats 4000000 in
theorem DistrictLevel_any (A : Option Addr) (N C : Nat) (rs : List Sl) (s fu me : Int) (Lo : Option Addr) (l f : Nat) (lots : List Int) (w : World) (hN : rs.length = N) (hNm : N ≤ 1048576) (ha : Mat w w.heap.size A rs)
    (hl0 : lots.length = l) (hl1 : l ≤ 1048576) (hf1 : l ≤ f) (hf2 : f ≤ maxLen) (hl : Row w w.heap.size Lo (lots.map (Value.int .i64))) :
    Calls Try.prog 8 #[.slice A N C, .int .i64 s, .int .i64 fu, .int .i64 me, .slice Lo l f] w (Seated w (dlB (vals rs) s fu me lots) (dlL (vals rs) s fu me lots)) := by
  have HM := Lib.hid ha
  have HL := Lib.hid hl
  have HC := Lib.hid (DistrictSeats_any A N C rs s me Lo l f lots w hN hNm ha hl0 hl1 hf1 hf2 hl)
  have HN := Lib.hid hN
  have HLL := Lib.hid hl0
  clear ha hN hl hl0
  cases hB : dsB (vals rs) s me lots with
  | false =>
    have hQ : dlB (vals rs) s fu me lots = false := dlB_no (.inl hB)
    rw [hB] at HC
    rw [dlL_no hQ, hQ]
    clear hQ hB
    go_enter Try.func8, Try.ntmps8
    go_wp2_with fail
    refine HC.out.mono ?_
    rintro e w2 ⟨A2, k2, c2, qs, rfl, _, _, _, _, _, _, hb2⟩
    go_wp2_with fail
    go_ret2
    exact Seated.nil_ hb2
  | true =>
    obtain ⟨g1, g2, g3, g4, g5, g6⟩ := dsB_of hB
    obtain ⟨d1, d2, d3, d4, _⟩ := dv_rows g1
    rw [HN.out] at d1 d2
    rw [vals_len, HN.out] at g3
    rw [HLL.out] at g6
    have hsn : 0 ≤ s * (N : Int) := Int.mul_nonneg g2 (by omega)
    by_cases hf0 : fu < 0
    · have hQ : dlB (vals rs) s fu me lots = false := dlB_no (.inr (.inl hf0))
      rw [hB] at HC
      rw [dlL_no hQ, hQ]
      clear hQ hB g1 g4 g5 g6
      go_enter Try.func8, Try.ntmps8
      go_wp2_with fail
      refine HC.out.mono ?_
      rintro e w2 ⟨A2, k2, c2, qs, rfl, _, _, _, _, _, _, hb2⟩
      go_wp2_with fail
      go_ret2
      exact Seated.nil_ hb2
    have hw1 : IntKind.i64.wrap (s * (N : Int)) = s * (N : Int) := IntWalk.i64_in _ (by omega)
    by_cases hf1' : 20 - s * (N : Int) < fu
    · have hQ : dlB (vals rs) s fu me lots = false := dlB_no (.inr (.inr (by rw [vals_len, HN.out]; omega)))
      rw [hB] at HC
      rw [dlL_no hQ, hQ]
      clear hQ hB g1 g4 g5 g6
      go_enter Try.func8, Try.ntmps8
      go_wp2_with fail
      refine HC.out.mono ?_
      rintro e w2 ⟨A2, k2, c2, qs, rfl, _, _, _, _, _, _, hb2⟩
      go_wp2_with fail
      go_ret2
      exact Seated.nil_ hb2
    · obtain ⟨F, rfl⟩ := Int.eq_ofNat_of_zero_le (show 0 ≤ fu by omega)
      have hQ : dlB (vals rs) s (F : Int) me lots = true := dlB_yes hB (by omega) (by rw [vals_len, HN.out]; omega)
      have HR : Hid (dlL (vals rs) s (F : Int) me lots = lev (tog l (vals rs)) me lots (givL (vals rs) s me lots) F) := by
        show _ = _
        rw [dlL_yes hQ, ← g6, Int.toNat_natCast]
      have hds : dsL (vals rs) s me lots = apL (vals rs) s me lots := if_pos hB
      have HROUND : Hid (∀ k, k < F → _) := fun k hk => lev_round hB g6.symm (k := k) (by rw [vals_len, HN.out]; omega)
      have HGIV : Hid (∀ qs : List Sl, vals qs = apL (vals rs) s me lots → _) := fun qs hq => giv_tog hB hq g6.symm
      have HROWS : Hid (∀ r ∈ rs, r.zs.length = l ∧ ∀ z ∈ r.zs, 0 ≤ z ∧ z ≤ 99) := by
        have := (dv_rows g1).2.2.2.2
        rw [← g6] at this
        exact this
      have HGL : Hid ((givL (vals rs) s me lots).length = l) := (giv_ok hB).1.len.trans g6.symm
      have hln : 1 ≤ l := by omega
      have hl5 : l ≤ 5 := by omega
      have hmk := make_ints l hl1
      rw [hQ]
      rw [hB, hds] at HC
      clear hQ hB hds g1 g4 g5 g6 d3 d4
      go_enter Try.func8, Try.ntmps8
      go_wp2_with fail
      refine HC.out.mono ?_
      rintro e w2 ⟨A2, k2, c2, qs, rfl, q1, q2, q3, q4, hv2, hm2, hb2⟩
      obtain ⟨hgt, hgr⟩ := HGIV.out qs hv2
      have hk2 : 1 ≤ k2 := by
        have := congrArg List.length hv2
        rw [vals_len, q1] at this
        simp [apL, vals, HN.out] at this
        omega
      have HC2 := Lib.hid (together_any A2 k2 c2 l qs w2 q1 hk2 q2 hl1 hgr hm2)
      rw [hgt] at HC2
      clear HC HGIV hv2 hm2 hgr hgt q1 q2 q3 q4 hk2
      go_wp2_with fail
      refine HC2.out.mono ?_
      rintro e w3 ⟨rfl, hown3, hb3⟩
      have hb23 := hb2.trans (hb3.mono hb2.size)
      have hown3' := hown3.from_ hb2.size
      have hg1lt := hown3.lt.2
      have hg1le := hb2.size
      have hb4 := hb23.alloc hb23.size (.cells (madeCells #[Value.int .i64 0] l) 3)
      have hown4 : OwnI (w3.alloc (.cells (madeCells #[Value.int .i64 0] l) 3)) w.heap.size (.slice (some ⟨w3.heap.size, 0, none⟩) l l) l (lev (tog l (vals rs)) me lots (givL (vals rs) s me lots) 0) := by
        have h := OwnI.made w3 w.heap.size l hb23.size hl1
        show OwnI _ _ _ _ (zerosL (givL (vals rs) s me lots).length)
        rw [HGL.out]
        exact h
      have hown34 := hown3'.alloc (.cells (madeCells #[Value.int .i64 0] l) 3)
      have HO34 := Lib.hid hown34
      have HO4 := Lib.hid hown4
      clear HC2 hb2 hb3 hb23 hown3 hown3' hown34 hown4
      go_wp2_with fail
      clear hmk
      obtain ⟨ga, hga⟩ : ∃ ga, ga = w2.heap.size := ⟨_, rfl⟩
      obtain ⟨gb, hgb⟩ : ∃ gb, gb = w3.heap.size := ⟨_, rfl⟩
      have hO34 := HO34.out
      have hO4 := HO4.out
      rw [← hga] at hg1lt hg1le hO34 ⊢
      rw [← hgb] at hg1lt hO4 ⊢
      go_loopw [46] (fun i wx => ∃ k : Nat, k ≤ F ∧ i = .int .i64 k ∧ Below w.heap.size w wx ∧ OwnI wx w.heap.size (.slice (some ⟨ga, 0, none⟩) l l) l (alloc (tog l (vals rs)) me lots (givL (vals rs) s me lots) k) ∧ OwnI wx w.heap.size (.slice (some ⟨gb, 0, none⟩) l l) l (lev (tog l (vals rs)) me lots (givL (vals rs) s me lots) k)) (fun i _ => F - (intOf i).toNat)
      case atStart => exact ⟨0, Nat.zero_le _, rfl, hb4, hO34, hO4⟩
      case round =>
        clear hb4 hO34 hO4 HO34 HO4 hga hgb
        obtain ⟨k, hk, rfl, hbel, hA, hV⟩ := hrel
        by_cases hlt : k < F
        · obtain ⟨P, hsb, hnx, hPl, hla, hlv, hbd⟩ := HROUND.out k hlt
          have p1 : P < (lev (tog l (vals rs)) me lots (givL (vals rs) s me lots) k).length := by rw [hlv]; exact hPl
          have p2 : P < (alloc (tog l (vals rs)) me lots (givL (vals rs) s me lots) k).length := by rw [hla]; exact hPl
          obtain ⟨b1, b2, b3, b4⟩ := hbd p1 p2
          obtain ⟨x, hx⟩ : ∃ x, x = (alloc (tog l (vals rs)) me lots (givL (vals rs) s me lots) k)[P] := ⟨_, rfl⟩
          obtain ⟨y, hy⟩ : ∃ y, y = (lev (tog l (vals rs)) me lots (givL (vals rs) s me lots) k)[P] := ⟨_, rfl⟩
          have HA2 : Hid (alloc (tog l (vals rs)) me lots (givL (vals rs) s me lots) (k + 1) = (alloc (tog l (vals rs)) me lots (givL (vals rs) s me lots) k).set P (x + 1)) := by show _ = _; rw [hx]; exact alloc_step hnx p2
          have HV2 : Hid (lev (tog l (vals rs)) me lots (givL (vals rs) s me lots) (k + 1) = (lev (tog l (vals rs)) me lots (givL (vals rs) s me lots) k).set P (y + 1)) := by show _ = _; rw [hy]; exact lev_step hnx p1
          rw [← hx] at b3 b4
          rw [← hy] at b1 b2
          have HX := Lib.hid hx
          have HY := Lib.hid hy
          have HP1 := Lib.hid p1
          have HP2 := Lib.hid p2
          have HSB := Lib.hid hsb
          have HNX := Lib.hid hnx
          have HAA := Lib.hid hA
          have HVV := Lib.hid hV
          have HT := Lib.hid (together_any A N C l rs wr HN.out d1 d2 hl1 HROWS.out (HM.out.on hbel))
          clear hx hy hsb hnx hla hlv hbd hA hV HROUND HR
          go_wp2_with fail
          refine HT.out.mono ?_
          rintro e w5 ⟨rfl, hown5, hb5⟩
          have hbel5 := hbel.trans (hb5.mono hbel.size)
          have HSN := Lib.hid (SeatsNext_yes (some ⟨wr.heap.size, 0, none⟩) l l (tog l (vals rs)) (some ⟨ga, 0, none⟩) l (alloc (tog l (vals rs)) me lots (givL (vals rs) s me lots) k) me Lo f lots w5 HSB.out hown5.len hf1 hf2 hown5.rowAt.2.2 (HAA.out.below hb5).rowAt.2.2 (HL.out.on hbel5))
          rw [HNX.out] at HSN
          have HA5 := Lib.hid (HAA.out.below hb5)
          have HV5 := Lib.hid (HVV.out.below hb5)
          clear hown5 hb5 HT HSB HNX HAA HVV
          go_wp2_with fail
          refine HSN.out.mono ?_
          rintro e w6 ⟨rfl, hb6⟩
          have hbel6 := hbel5.trans (hb6.mono hbel5.size)
          have hA6 := HA5.out.below hb6
          have hV6 := HV5.out.below hb6
          have cx : w6.cell? ⟨ga, P, none⟩ = some (.int .i64 x) := (hA6.cell HP2.out).trans (by rw [HX.out])
          have cy : w6.cell? ⟨gb, P, none⟩ = some (.int .i64 y) := (hV6.cell HP1.out).trans (by rw [HY.out])
          have fx := hA6.frozen P
          have fy := hV6.frozen P
          have hgaw := hA6.lt.1
          have hgbw := hV6.lt.1
          have hne : ga ≠ gb := by omega
          have hne2 : gb ≠ ga := by omega
          have HO1 : Hid (OwnI ((w6.setCell ⟨ga, P, none⟩ (.int .i64 (x + 1))).setCell ⟨gb, P, none⟩ (.int .i64 (y + 1))) w.heap.size (.slice (some ⟨ga, 0, none⟩) l l) l (alloc (tog l (vals rs)) me lots (givL (vals rs) s me lots) (k + 1))) := by
            have h := (hA6.set P (x + 1)).other (Below.heap_setCell _ ⟨gb, P, none⟩ (.int .i64 (y + 1)) ga (fun e => by simp at e; omega))
            rw [← HA2.out] at h
            exact h
          have HO2 : Hid (OwnI ((w6.setCell ⟨ga, P, none⟩ (.int .i64 (x + 1))).setCell ⟨gb, P, none⟩ (.int .i64 (y + 1))) w.heap.size (.slice (some ⟨gb, 0, none⟩) l l) l (lev (tog l (vals rs)) me lots (givL (vals rs) s me lots) (k + 1))) := by
            have h := (hV6.other (Below.heap_setCell w6 ⟨ga, P, none⟩ (.int .i64 (x + 1)) gb (fun e => by simp at e; omega))).set P (y + 1)
            rw [← HV2.out] at h
            exact h
          have HBF : Hid (Below w.heap.size w ((w6.setCell ⟨ga, P, none⟩ (.int .i64 (x + 1))).setCell ⟨gb, P, none⟩ (.int .i64 (y + 1)))) := (hbel6.setCell hgaw _).setCell hgbw _
          clear HSN HA5 HV5 hb6 hA6 hV6 hbel5 hbel6 hbel HA2 HV2 HX HY HP1 HP2 p1 p2
          go_wp2_with fail
          go_roundw
          case rel => exact ⟨k + 1, by omega, by go_num, HBF.out, HO1.out, HO2.out⟩
          case measure => simp [intOf]; omega
        · obtain rfl : k = F := by omega
          have HVF := Lib.hid hV
          clear hV hA
          go_wp2_with fail
          go_ret2
          exact ⟨_, l, l, rfl, by rw [HR.out]; exact HVF.out.len, hl1, Nat.le_refl _, by unfold maxLen; omega, by rw [HR.out]; exact HVF.out, hbel⟩

end Go.Proofs.Ytjanmgiliooocaa
