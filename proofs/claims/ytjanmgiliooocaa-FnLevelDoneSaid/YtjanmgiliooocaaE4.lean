/- Seats by divisors: what SeatsDivisor of the program and of the reference return. The conditions stand in each theorem. -/
import Derived.Test.YtjanmgiliooocaaE3B
namespace Go.Proofs.Ytjanmgiliooocaa
open Go.RowKit Go.ChangeShapes
open Man
set_option linter.unusedVariables false

theorem alloc_step {v g : List Int} {me : Int} {lots : List Int} {k P : Nat} (h : nextL v (alloc v me lots g k) me lots = (P : Int)) (hP : P < (alloc v me lots g k).length) : alloc v me lots g (k + 1) = (alloc v me lots g k).set P ((alloc v me lots g k)[P] + 1) := by
  show inc _ _ = _
  rw [h]
  unfold inc
  rw [Int.toNat_natCast, atZ_nat _ hP]
theorem lev_step {v g : List Int} {me : Int} {lots : List Int} {k P : Nat} (h : nextL v (alloc v me lots g k) me lots = (P : Int)) (hP : P < (lev v me lots g k).length) : lev v me lots g (k + 1) = (lev v me lots g k).set P ((lev v me lots g k)[P] + 1) := by
  show inc _ _ = _
  rw [h]
  unfold inc
  rw [Int.toNat_natCast, atZ_nat _ hP]
theorem next_nat {v g : List Int} {me : Int} {lots : List Int} (h : snB v g me lots = true) : ∃ P : Nat, nextL v g me lots = (P : Int) ∧ P < v.length := by
  obtain ⟨b1, b2, b3, b4, b5, b6, b7⟩ := snB_of h
  have L := lots_of b6
  rw [b7] at L
  have G : Seats v.length g := by
    have := seats_of (g := g) (fun z hz => (inAll_of b1 z hz).1)
    rwa [b3] at this
  have hm : 1 ≤ me := by omega
  have hn := next_mem (v := v) hm L G
  exact ⟨(nextL v g me lots).toNat, (Int.toNat_of_nonneg hn.2.1).symm, by omega⟩
theorem snB_zero {v : List Int} {s me : Int} {lots : List Int} (h0 : 0 ≤ s) (h1 : s ≤ 20) : snB v (zerosL v.length) me lots = sdB v s me lots := by
  cases hb : sdB v s me lots with
  | true => exact round_ok (k := 0) hb (by omega)
  | false =>
    cases hs : snB v (zerosL v.length) me lots with
    | false => rfl
    | true =>
      obtain ⟨b1, b2, b3, b4, b5, b6, b7⟩ := snB_of hs
      rw [sdB_mk b2 h0 h1 (meB_yes b5) b6 b7] at hb
      cases hb
theorem ints_one (l : List Int) : ∀ u ∈ l.map (Value.int .i64), u.oneCell' = true := by
  intro u hu
  obtain ⟨z, _, rfl⟩ := List.mem_map.1 hu
  rfl

/-- A row of the call's own that reads as the list, and whether there is one. -/
def Seated (w : World) (b : Bool) (zs : List Int) (e : Ending) (w' : World) : Prop :=
  ∃ (A : Option Addr) (k c : Nat), e = .returned (.tuple #[.slice A k c, .bool b]) ∧ zs.length = k ∧ k ≤ 1048576 ∧ k ≤ c ∧ c ≤ maxLen ∧ OwnI w' w.heap.size (.slice A k c) k zs ∧ Below w.heap.size w w'
theorem Seated.nil_ {w w' : World} (hb : Below w.heap.size w w') : Seated w false [] (.returned (.tuple #[.slice none 0 0, .bool false])) w' :=
  ⟨none, 0, 0, rfl, rfl, by omega, Nat.le_refl _, by unfold maxLen; omega, own_nil _ _ _ _, hb⟩
theorem Seated.emp {w w' : World} (hb : Below w.heap.size w w') : Seated w false [] (.returned (.tuple #[.slice (some ⟨w'.heap.size, 0, none⟩) 0 0, .bool false])) (w'.alloc (.cells #[] 3)) :=
  ⟨_, 0, 0, rfl, rfl, by omega, Nat.le_refl _, by unfold maxLen; omega, own_empty _ _ _ _ hb.size, hb.alloc hb.size _⟩

set_option maxHeartbeats 2000000 in
theorem SeatsDivisor_any (A : Option Addr) (n c : Nat) (v : List Int) (s me : Int) (Lo : Option Addr) (l f : Nat) (lots : List Int) (w : World) (hn : v.length = n) (hl0 : lots.length = l) (hn1 : n ≤ 1048576) (hl1 : l ≤ 1048576) (hf1 : l ≤ f) (hf2 : f ≤ maxLen)
    (hv : Row w w.heap.size A (v.map (Value.int .i64))) (hl : Row w w.heap.size Lo (lots.map (Value.int .i64))) :
    Calls Try.prog 14 #[.slice A n c, .int .i64 s, .int .i64 me, .slice Lo l f] w (Seated w (sdB v s me lots) (sdL v s me lots)) := by
  have hmk := make_ints n hn1
  have hb1 : Below w.heap.size w (w.alloc (.cells (madeCells #[Value.int .i64 0] n) 3)) := (Below.refl _ _).alloc (Nat.le_refl _) _
  by_cases h1 : s < 0
  · have hB : sdB v s me lots = false := by
      cases hb : sdB v s me lots with
      | false => rfl
      | true => have := (sdB_of hb).2.1; omega
    rw [hB, sdL_no hB]
    clear hv hl hB
    go_enter Try.func14, Try.ntmps14
    go_wp2_with fail
    go_ret2
    exact Seated.nil_ hb1
  by_cases h2 : 20 < s
  · have hB : sdB v s me lots = false := by
      cases hb : sdB v s me lots with
      | false => rfl
      | true => have := (sdB_of hb).2.2.1; omega
    rw [hB, sdL_no hB]
    clear hv hl hB
    go_enter Try.func14, Try.ntmps14
    go_wp2_with fail
    go_ret2
    exact Seated.nil_ hb1
  have hz := snB_zero (v := v) (me := me) (lots := lots) (show 0 ≤ s by omega) (by omega)
  rw [hn] at hz
  have hown1 := OwnI.made w w.heap.size n (Nat.le_refl _) hn1
  have hv1 := hv.on hb1
  have hl1' := hl.on hb1
  have hsz1 : (w.alloc (.cells (madeCells #[Value.int .i64 0] n) 3)).heap.size = w.heap.size + 1 := by simp
  cases hB : sdB v s me lots with
  | false =>
    rw [hB] at hz
    have HC := Lib.hid (SeatsNext_no A n c v (some ⟨w.heap.size, 0, none⟩) n n (zerosL n) me Lo l f lots _ hz hn (zerosL_len n) hl0 hn1 hn1 hl1 hf1 hf2 hv1 hown1.rowAt.2.2 hl1')
    rw [sdL_no hB]
    clear hv hl hz hv1 hl1' hown1 hB hsz1
    go_enter Try.func14, Try.ntmps14
    go_wp2_with fail
    refine HC.out.mono ?_
    rintro e w' ⟨rfl, rfl⟩
    go_wp2_with fail
    go_ret2
    exact Seated.nil_ hb1
  | true =>
    rw [hB] at hz
    obtain ⟨S, rfl⟩ := Int.eq_ofNat_of_zero_le (show 0 ≤ s by omega)
    obtain ⟨d1, d2, d3, d4, d5, d6⟩ := sdB_of hB
    obtain ⟨_, n1, n5, _⟩ := vvB_of d1
    rw [hn] at d6 n1 n5
    have hll : l = n := by omega
    subst hll
    obtain ⟨Z, hZ, hZn⟩ := next_nat hz
    have HC := Lib.hid (SeatsNext_yes A l c v (some ⟨w.heap.size, 0, none⟩) l (zerosL l) me Lo f lots _ hz hn hf1 hf2 hv1 hown1.rowAt.2.2 hl1')
    rw [hZ] at HC
    have HB := Lib.hid hB
    have HN := Lib.hid hn
    have HR := Lib.hid (sdL_yes hB)
    have HO1 := Lib.hid hown1
    clear hv1 hl1' hown1 hB hz hZ d1 d3 d4 d5 hn
    go_enter Try.func14, Try.ntmps14
    go_wp2_with fail
    refine HC.out.mono ?_
    rintro e w2 ⟨rfl, hb2⟩
    have hown2 := HO1.out.below hb2
    have hbw2 := hb1.trans (hb2.mono hb1.size)
    have hlt2 : w.heap.size < w2.heap.size := by have := hb2.size; omega
    clear HC HO1 hb2 hb1 hmk hsz1 hZn
    go_wp2_with fail
    go_loopw [29] (fun i wx => ∃ k : Nat, k ≤ S ∧ i = .int .i64 k ∧ Below w.heap.size w wx ∧ w.heap.size < wx.heap.size ∧ OwnI wx w.heap.size (.slice (some ⟨w.heap.size, 0, none⟩) l l) l (alloc v me lots (zerosL l) k)) (fun i _ => S - (intOf i).toNat)
    case atStart => exact ⟨0, Nat.zero_le _, rfl, hbw2, hlt2, hown2⟩
    case round =>
      clear hown2 hbw2 hlt2
      obtain ⟨k, hk, rfl, hbel, hlt, hown⟩ := hrel
      by_cases hks : k < S
      · have hr := round_ok HB.out (k := k) (by omega)
        rw [HN.out] at hr
        obtain ⟨P, hP, hPn⟩ := next_nat hr
        rw [HN.out] at hPn
        have hfit := fit_of hr
        have hPl : P < (alloc v me lots (zerosL l) k).length := by rw [hown.len]; exact hPn
        obtain ⟨x, hx⟩ : ∃ x, x = (alloc v me lots (zerosL l) k)[P] := ⟨_, rfl⟩
        have hgb : 0 ≤ x ∧ x ≤ 20 := by rw [hx]; exact hfit.gb _ (List.getElem_mem hPl)
        have HS : Hid (alloc v me lots (zerosL l) (k + 1) = (alloc v me lots (zerosL l) k).set P (x + 1)) := by
          show _ = _
          rw [hx]
          exact alloc_step hP hPl
        have hvr := (hv.below hbel).more hbel.size
        have hlr := (hl.below hbel).more hbel.size
        have HC := Lib.hid (SeatsNext_yes A l c v (some ⟨w.heap.size, 0, none⟩) l (alloc v me lots (zerosL l) k) me Lo f lots wr hr HN.out hf1 hf2 hvr hown.rowAt.2.2 hlr)
        rw [hP] at HC
        have HPl := Lib.hid hPl
        have HOW := Lib.hid hown
        clear hv hl hvr hlr hr hP hfit hown HB HR
        have HX := Lib.hid hx
        clear hx
        generalize hg2 : alloc v me lots (zerosL l) (k + 1) = g2 at *
        have HG2 := Lib.hid hg2
        clear hg2
        generalize alloc v me lots (zerosL l) k = g1 at *
        go_wp2_with fail
        refine HC.out.mono ?_
        rintro e w4 ⟨rfl, hb4⟩
        have hown4 := HOW.out.below hb4
        have hcell4 : w4.cell? ⟨w.heap.size, P, none⟩ = some (.int .i64 x) := by rw [hown4.cell HPl.out, HX.out]
        have hfr4 := hown4.frozen P
        have hbel4 := hbel.trans (hb4.mono hbel.size)
        have hs4 := hb4.size
        have HO4 : Hid (OwnI (w4.setCell ⟨w.heap.size, P, none⟩ (.int .i64 (x + 1))) w.heap.size (.slice (some ⟨w.heap.size, 0, none⟩) l l) l g2) := by
          have := hown4.set P (x + 1)
          rw [← HS.out] at this
          exact this
        clear HC hb4 hown4 HOW
        go_wp2_with fail
        go_roundw
        case rel => exact ⟨k + 1, by omega, by go_num, hbel4.setCell (Nat.le_refl _) _, by simp; omega, by rw [HG2.out]; exact HO4.out⟩
        case measure => simp [intOf]; omega
      · obtain rfl : k = S := by omega
        have HQ : Hid (sdL v (k : Int) me lots = alloc v me lots (zerosL l) k) := by
          have := HR.out
          rw [HN.out, Int.toNat_natCast] at this
          exact this
        clear hv hl
        go_wp2_with fail
        go_ret2
        refine ⟨_, l, l, rfl, ?_, hn1, Nat.le_refl _, by unfold maxLen; omega, ?_, hbel⟩
        · rw [HQ.out]
          exact hown.len
        · rw [HQ.out]
          exact hown

set_option maxHeartbeats 2000000 in
theorem sSeatsDivisor_yes (A : Option Addr) (n c : Nat) (v : List Int) (s me : Int) (Lo : Option Addr) (l f : Nat) (lots : List Int) (w : World) (hB : sdB v s me lots = true) (hn : v.length = n) (hl0 : lots.length = l) (hn1 : n ≤ 1048576) (hl1 : l ≤ 1048576) (hf1 : l ≤ f) (hf2 : f ≤ maxLen)
    (hv : Row w w.heap.size A (v.map (Value.int .i64))) (hl : Row w w.heap.size Lo (lots.map (Value.int .i64))) :
    Calls Try.prog 45 #[.slice A n c, .int .i64 s, .int .i64 me, .slice Lo l f] w (Seated w true (sdL v s me lots)) := by
  obtain ⟨d1, d2, d3, d4, d5, d6⟩ := sdB_of hB
  obtain ⟨S, rfl⟩ := Int.eq_ofNat_of_zero_le d2
  obtain ⟨_, n1, n5, _⟩ := vvB_of d1
  rw [hn] at d6 n1 n5
  have hll : l = n := by omega
  subst hll
  obtain ⟨i0, hi0, hz0, hz1, hz2⟩ := info_parts info_int
  have HI := Lib.hid hi0
  have HZ0 := Lib.hid hz0
  have HZ1 := Lib.hid hz1
  have HZ2 := Lib.hid hz2
  have hmk := make_ints l hn1
  have HB := Lib.hid hB
  have HN := Lib.hid hn
  have HR := Lib.hid (sdL_yes hB)
  have HC1 := Lib.hid (l21Votes_any A l c v w hn hn1 hv)
  have HC2 := Lib.hid (sLotsValid_any Lo l f lots w hl0 hl1 hf1 hf2 hl)
  have hin := inB_yes d2 d3
  clear hi0 hz0 hz1 hz2 hB hn
  go_enter Try.func45, Try.ntmps45
  go_wp2_with fail
  refine HC1.out.mono ?_
  rintro e w' ⟨rfl, rfl⟩
  rw [d1]
  go_wp2_with fail
  refine (in_any _ _ _ _).mono ?_
  rintro e w' ⟨rfl, rfl⟩
  rw [hin]
  go_wp2_with fail
  refine (sl21Method_any me _).mono ?_
  rintro e w' ⟨rfl, rfl⟩
  rw [d4]
  go_wp2_with fail
  refine HC2.out.mono ?_
  rintro e w1 ⟨rfl, hb1⟩
  rw [d5]
  have hb2 := hb1.alloc hb1.size (.cells (madeCells #[Value.int .i64 0] l) 3)
  have hown2 := OwnI.made w1 w.heap.size l hb1.size hn1
  clear HC1 HC2 hin d1 d4 d5 hb1
  go_wp2_with fail
  go_loopw [10, 11] (fun u i wx => ∃ (k g cc : Nat), k ≤ S ∧ i = .int .i64 k ∧ u = .slice (some ⟨g, 0, none⟩) l cc ∧ w.heap.size ≤ g ∧ l ≤ cc ∧ cc ≤ maxLen ∧ Below w.heap.size w wx ∧ OwnI wx w.heap.size (.slice (some ⟨g, 0, none⟩) l cc) l (alloc v me lots (zerosL l) k)) (fun _ i _ => S - (intOf i).toNat)
  case atStart => exact ⟨0, w1.heap.size, l, Nat.zero_le _, rfl, rfl, hown2.lt.1, Nat.le_refl _, by unfold maxLen; omega, hb2, hown2⟩
  case round =>
    clear hown2 hb2 hmk
    obtain ⟨k, g, cc, hk, rfl, rfl, hgb0, hcc1, hcc2, hbel, hown⟩ := hrel
    by_cases hks : k < S
    · have hr := round_ok HB.out (k := k) (by omega)
      rw [HN.out] at hr
      obtain ⟨P, hP, hPn⟩ := next_nat hr
      rw [HN.out] at hPn
      have hfit := fit_of hr
      rw [HN.out] at hfit
      have hPl : P < (alloc v me lots (zerosL l) k).length := by rw [hown.len]; exact hPn
      obtain ⟨x, hx⟩ : ∃ x, x = (alloc v me lots (zerosL l) k)[P] := ⟨_, rfl⟩
      have hgb : 0 ≤ x ∧ x ≤ 20 := by rw [hx]; exact hfit.gb _ (List.getElem_mem hPl)
      have HS : Hid (alloc v me lots (zerosL l) (k + 1) = (alloc v me lots (zerosL l) k).set P (x + 1)) := by
        show _ = _
        rw [hx]
        exact alloc_step hP hPl
      have hvr := (hv.below hbel).more hbel.size
      have hlr := (hl.below hbel).more hbel.size
      have HC := Lib.hid (l21Next_any A l c v (some ⟨g, 0, none⟩) cc (alloc v me lots (zerosL l) k) me Lo f lots wr hfit hvr hown.rowAt.2.2 hlr)
      rw [hP] at HC
      have HPl := Lib.hid hPl
      have HOW := Lib.hid hown
      have HLN := Lib.hid hown.len
      clear hv hl hvr hlr hr hP hfit hown HB HR
      have HX := Lib.hid hx
      clear hx
      generalize hg2 : alloc v me lots (zerosL l) (k + 1) = g2 at *
      have HG2 := Lib.hid hg2
      clear hg2
      generalize alloc v me lots (zerosL l) k = g1 at *
      have HO := Lib.hid (ints_one g1)
      unfold maxLen at hcc2
      go_wp2_with fail
      refine HC.out.mono ?_
      rintro e w4 ⟨rfl, hb4⟩
      have hbel4 := hbel.trans (hb4.mono hbel.size)
      have hs4 := hbel4.size
      have HSRC : Hid (Src (w4.alloc (.cells #[] 3)) 1 (some ⟨g, 0, none⟩) l (g1.map (Value.int .i64))) := ((HOW.out.below hb4).alloc _).rowAt.2.2.src (by omega) (by rw [List.length_map, HLN.out]; omega)
      have hempty := own_empty w4 w.heap.size 3 1 hs4
      have HEB := Lib.hid (own_block hempty)
      have HEM := Lib.hid hempty
      clear HC hb4 HOW hempty
      go_wp2_with (at_builtin; refine wpList_append_src _ rfl (.tmp 52) (.tmp 53) _ rfl w.heap.size 3 i0 _ 1 8 Try.underlying24 HI.out HZ0.out HZ1.out HZ2.out rfl (by omega) (.slice (some ⟨w4.heap.size, 0, none⟩) 0 0) 0 [] rfl HEM.out (some ⟨g, 0, none⟩) l cc (g1.map (Value.int .i64)) rfl HSRC.out HO.out (by unfold maxLen; omega) (by omega) (by simp; omega) ?_; intro v7 w7 hown7 hgrow7 hat7; rw [Nat.zero_add, List.nil_append] at hown7; have hbel7 : Below w.heap.size w w7 := (hbel4.alloc hs4 _).grown hgrow7 (by simp; omega) (fun x hx => (HEB.out x hx).1); obtain ⟨g7, c7, rfl, hg7, hg7l, hc7, hc7m⟩ := OwnI.some hown7 n1; have hcell7 : w7.cell? ⟨g7, P, none⟩ = some (.int .i64 x) := (OwnI.cell hown7 HPl.out).trans (by rw [HX.out]); have hfr7 := OwnI.frozen hown7 P; have HO7 := Lib.hid (OwnI.set hown7 P (x + 1)); clear hgrow7 hat7 hown7)
      go_roundw
      case rel => exact ⟨k + 1, g7, c7, by omega, by go_num, rfl, hg7, hc7, hc7m, hbel7.setCell hg7 _, by have h7 := HO7.out; rw [← HS.out] at h7; rw [HG2.out]; exact h7⟩
      case measure => simp [intOf]; omega
    · obtain rfl : k = S := by omega
      have HQ : Hid (sdL v (k : Int) me lots = alloc v me lots (zerosL l) k) := by
        have := HR.out
        rw [HN.out, Int.toNat_natCast] at this
        exact this
      clear hv hl
      go_wp2_with fail
      go_ret2
      refine ⟨_, l, cc, rfl, ?_, hn1, hcc1, hcc2, ?_, hbel⟩
      · rw [HQ.out]
        exact hown.len
      · rw [HQ.out]
        exact hown

end Go.Proofs.Ytjanmgiliooocaa
