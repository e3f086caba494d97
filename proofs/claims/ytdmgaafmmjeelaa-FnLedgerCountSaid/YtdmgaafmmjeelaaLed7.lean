/- Ledgers: what LedgerGaps and LedgerSealed return. The conditions stand in each theorem. -/
import Derived.Test.YtdmgaafmmjeelaaLed6
namespace Go.Proofs.Ytdmgaafmmjeelaa
open Go.RowKit Go.ChangeShapes
set_option linter.unusedVariables false

theorem field_gaps (m1 m2 g : Value) (w : World) : (Instr.field 56 (.agg #[m1, m2, g]) 2).run Try.prog w = .ok g w := by kernel_rfl
theorem field_last (m1 m2 g : Value) (w : World) : (Instr.field 56 (.agg #[m1, m2, g]) 0).run Try.prog w = .ok m1 w := by kernel_rfl

set_option maxHeartbeats 1000000 in
theorem LedgerGaps_any (A : Option Addr) (n c : Nat) (l : List Ev) (w : World) (hn : l.length = n) (hm : n ≤ 1048576) (ha : Row w w.heap.size A (evCells l)) :
    Calls Try.prog 23 #[.slice A n c] w (GotInts w (gapsE l)) := by
  have HN := Lib.hid hn
  clear hn
  go_enter Try.func23, Try.ntmps23
  go_wp2_with fail
  refine (LedgerValid_any _ _ _ l _ HN.out hm ha).mono ?_
  rintro e w1 ⟨rfl, hb1⟩
  have ha1 := (ha.below hb1).more hb1.size
  clear ha
  cases hv : lvB l with
  | false =>
    have HQ := Lib.hid (gapsE_no hv)
    clear hv
    go_wp2_with fail
    go_ret
    exact GotInts.none_ HQ.out hb1
  | true =>
    have HQ := Lib.hid (gapsE_yes hv)
    have HV := Lib.hid (lvB_of hv).2
    have hm20 : n ≤ 20 := by have := (lvB_of hv).1; rw [HN.out] at this; exact this
    clear hv
    go_wp2_with fail
    refine (followed_any _ _ _ l _ HN.out hm20 HV.out ha1).mono ?_
    rintro e w2 ⟨b1, b2, D1, A2, k2, c2, rfl, M1, hE, hl2, hk2, hc2, hown2, hb2⟩
    have HE := Lib.hid hE
    have hfl := field_gaps (.map (some b1)) (.map (some b2)) (.slice A2 k2 c2) w2
    clear hE
    go_wp2_with fail
    go_ret
    have e1 : gapsE l = (foll l n).gaps := by rw [HQ.out, HN.out]
    refine ⟨A2, k2, c2, rfl, by rw [e1]; exact hl2, hk2, hc2, ?_, hb1.trans (hb2.mono hb1.size)⟩
    rw [e1]
    exact own_from hown2 hb1.size

/-- The lock of a box and its ballots, if it is locked. -/
def sea (l : List Ev) (b : Int) : Int × Int × Bool := if lvB l = true then (match (foll l l.length).last b with | some e => if e.kd = 3 then (0, 0, false) else (e.sl, e.mn, true) | none => (0, 0, false)) else (0, 0, false)
theorem sea_bad {l : List Ev} {b : Int} (h : lvB l = false) : sea l b = (0, 0, false) := if_neg (by rw [h]; exact Bool.false_ne_true)
theorem sea_none {l : List Ev} {b : Int} (h : lvB l = true) (h1 : (foll l l.length).last b = none) : sea l b = (0, 0, false) := by
  unfold sea
  rw [if_pos h, h1]
theorem sea_open {l : List Ev} {b : Int} {e : Ev} (h : lvB l = true) (h1 : (foll l l.length).last b = some e) (h2 : e.kd = 3) : sea l b = (0, 0, false) := by
  unfold sea
  rw [if_pos h, h1]
  exact if_pos h2
theorem sea_yes {l : List Ev} {b : Int} {e : Ev} (h : lvB l = true) (h1 : (foll l l.length).last b = some e) (h2 : e.kd ≠ 3) : sea l b = (e.sl, e.mn, true) := by
  unfold sea
  rw [if_pos h, h1]
  exact if_neg h2
def SaysS (w : World) (x : Int × Int × Bool) (e : Ending) (w' : World) : Prop := e = .returned (.tuple #[.int .i64 x.1, .int .i64 x.2.1, .bool x.2.2]) ∧ Below w.heap.size w w'
theorem SaysS.of_ {w w' : World} {x : Int × Int × Bool} {a b : Int} {c : Bool} (h : x = (a, b, c)) (hb : Below w.heap.size w w') : SaysS w x (.returned (.tuple #[.int .i64 a, .int .i64 b, .bool c])) w' := by
  subst h
  exact ⟨rfl, hb⟩

set_option maxHeartbeats 2000000 in
theorem LedgerSealed_any (A : Option Addr) (n c : Nat) (l : List Ev) (bb : Int) (w : World) (hn : l.length = n) (hm : n ≤ 1048576) (hbb : (Lit.int .i64 bb).wf = true) (ha : Row w w.heap.size A (evCells l)) :
    Calls Try.prog 21 #[.slice A n c, .int .i64 bb] w (SaysS w (sea l bb)) := by
  have HN := Lib.hid hn
  have KB := Lib.hid hbb
  clear hn hbb
  go_enter Try.func21, Try.ntmps21
  go_wp2_with fail
  refine (LedgerValid_any _ _ _ l _ HN.out hm ha).mono ?_
  rintro e w1 ⟨rfl, hb1⟩
  have ha1 := (ha.below hb1).more hb1.size
  clear ha
  cases hv : lvB l with
  | false =>
    have HQ := Lib.hid (sea_bad (b := bb) hv)
    clear hv
    go_wp2_with fail
    exact bodyPost_ret (v := .tuple #[.int .i64 0, .int .i64 0, .bool false]) (by simp [results, Try.results21, go_sem]) rfl (SaysS.of_ HQ.out hb1)
  | true =>
    have HV := Lib.hid (lvB_of hv).2
    have HLV := Lib.hid hv
    have hm20 : n ≤ 20 := by have := (lvB_of hv).1; rw [HN.out] at this; exact this
    clear hv
    go_wp2_with fail
    refine (followed_any _ _ _ l _ HN.out hm20 HV.out ha1).mono ?_
    rintro e w2 ⟨b1, b2, D1, A2, k2, c2, rfl, M1, hE, hl2, hk2, hc2, hown2, hb2⟩
    have HE := Lib.hid hE
    have hbF := hb1.trans (hb2.mono hb1.size)
    have hfl := field_last (.map (some b1)) (.map (some b2)) (.slice A2 k2 c2) w2
    clear hE hl2 hk2 hc2 hown2 hb1 hb2 ha1
    cases hx : (foll l n).last bb with
    | none =>
      have HQ : Hid (sea l bb = (0, 0, false)) := sea_none HLV.out (by rw [HN.out]; exact hx)
      have HXV : Hid (evZ = ((foll l n).last bb).getD evZ) := by rw [hx]; rfl
      have HBV : Hid (false = ((foll l n).last bb).isSome) := by rw [hx]; rfl
      clear hx
      go_wp2_with (at_lookup; refine look_ev _ rfl _ _ rfl b1 n D1 _ rfl M1 HE.out bb rfl KB.out evZ HXV.out false HBV.out ?_)
      exact bodyPost_ret (v := .tuple #[.int .i64 0, .int .i64 0, .bool false]) (by simp [results, Try.results21, go_sem]) rfl (SaysS.of_ HQ.out (hbF.alloc hbF.size _))
    | some x =>
      obtain ⟨xa, xb, xc, xd⟩ := x
      have HXV : Hid ((⟨xa, xb, xc, xd⟩ : Ev) = ((foll l n).last bb).getD evZ) := by rw [hx]; rfl
      have HBV : Hid (true = ((foll l n).last bb).isSome) := by rw [hx]; rfl
      have hx' : (foll l l.length).last bb = some ⟨xa, xb, xc, xd⟩ := by rw [HN.out]; exact hx
      by_cases h3 : xb = 3
      · have q : (xb == 3) = true := by simpa using h3
        have HQ : Hid (sea l bb = (0, 0, false)) := sea_open HLV.out hx' h3
        clear hx hx' h3
        go_wp2_with (at_lookup; refine look_ev _ rfl _ _ rfl b1 n D1 _ rfl M1 HE.out bb rfl KB.out ⟨xa, xb, xc, xd⟩ HXV.out true HBV.out ?_)
        exact bodyPost_ret (v := .tuple #[.int .i64 0, .int .i64 0, .bool false]) (by simp [results, Try.results21, go_sem]) rfl (SaysS.of_ HQ.out (hbF.alloc hbF.size _))
      · have q : (xb == 3) = false := by simpa using h3
        have HQ : Hid (sea l bb = (xc, xd, true)) := sea_yes HLV.out hx' h3
        clear hx hx' h3
        go_wp2_with (at_lookup; refine look_ev _ rfl _ _ rfl b1 n D1 _ rfl M1 HE.out bb rfl KB.out ⟨xa, xb, xc, xd⟩ HXV.out true HBV.out ?_)
        go_quiet (fail)
        go_wp2_with fail
        exact bodyPost_ret (v := .tuple #[.int .i64 xc, .int .i64 xd, .bool true]) (by simp [results, Try.results21, go_sem]) rfl (SaysS.of_ HQ.out (below_drewN (hbF.alloc hbF.size _) _))

set_option maxHeartbeats 2000000 in
theorem sLedgerSealed_any (A : Option Addr) (n c : Nat) (l : List Ev) (bb : Int) (w : World) (hn : l.length = n) (hm : n ≤ 1048576) (ha : Row w w.heap.size A (evCells l)) :
    Calls Try.prog 20 #[.slice A n c, .int .i64 bb] w (SaysS w (sea l bb)) := by
  have HN := Lib.hid hn
  clear hn
  go_enter Try.func20, Try.ntmps20
  go_wp2_with fail
  refine (sLedgerValid_any _ _ _ l _ HN.out hm ha).mono ?_
  rintro e w1 ⟨rfl, hb1⟩
  have ha1 := (ha.below hb1).more hb1.size
  clear ha
  cases hv : lvB l with
  | false =>
    have HQ := Lib.hid (sea_bad (b := bb) hv)
    clear hv
    go_wp2_with fail
    exact bodyPost_ret (v := .tuple #[.int .i64 0, .int .i64 0, .bool false]) (by simp [results, Try.results20, go_sem]) rfl (SaysS.of_ HQ.out hb1)
  | true =>
    have HV := Lib.hid (lvB_of hv).2
    have HLV := Lib.hid hv
    have hm20 : n ≤ 20 := by have := (lvB_of hv).1; rw [HN.out] at this; exact this
    clear hv
    go_wp2_with fail
    refine (sl31Gaps_any _ _ _ l _ HN.out hm HV.out ha1).mono ?_
    rintro e w2 ⟨A2, k2, c2, rfl, hl2, hk2, hc2, hown2, hb2⟩
    have HL2 := Lib.hid hl2
    have hk20 : k2 ≤ 20 := by have := gaps_len l n; omega
    have ha2 := (ha1.below hb2).more hb2.size
    have hrow2 := own_row hown2
    have hbF := hb1.trans (hb2.mono hb1.size)
    clear hl2 hown2 hb1 hb2 ha1
    go_wp2_with fail
    refine (sl31Last_any _ n _ l _ k2 _ (foll l n).gaps bb n _ HN.out hm ha2 HL2.out (by omega) hrow2 (Nat.le_refl _)).mono ?_
    rintro e w3 ⟨rfl, hb3⟩
    have hbF3 := hbF.trans (hb3.mono hbF.size)
    have EL : Hid (lastL l (foll l n).gaps bb n = ((foll l n).last bb).getD evZ) := lastL_foll l bb n n (Nat.le_refl _) (by rw [HN.out]; exact Nat.le_refl _)
    rw [EL.out]
    clear hb3 hbF ha2 hrow2 EL
    cases hx : (foll l n).last bb with
    | none =>
      have HQ : Hid (sea l bb = (0, 0, false)) := sea_none HLV.out (by rw [HN.out]; exact hx)
      clear hx
      simp only [Option.getD_none, evZ, evV]
      go_wp2_with fail
      exact bodyPost_ret (v := .tuple #[.int .i64 0, .int .i64 0, .bool false]) (by simp [results, Try.results20, go_sem]) rfl (SaysS.of_ HQ.out (hbF3.alloc hbF3.size _))
    | some x =>
      have hok := foll_last l HV.out n bb x hx
      have hx' : (foll l l.length).last bb = some x := by rw [HN.out]; exact hx
      have hkd := (okE_iff x).1 hok.1
      have HQY := Lib.hid (sea_yes (e := x) HLV.out hx')
      have HQN := Lib.hid (sea_open (e := x) HLV.out hx')
      clear hx hx' hok
      obtain ⟨xa, xb, xc, xd⟩ := x
      simp only at hkd HQY HQN
      simp only [Option.getD_some, evV]
      have h123 : xb = 1 ∨ xb = 2 ∨ xb = 3 := by omega
      rcases h123 with rfl | rfl | rfl
      · have HQ : Hid (sea l bb = (xc, xd, true)) := HQY.out (by omega)
        clear HQY HQN hkd
        go_wp2_with fail
        go_quiet (fail)
        go_wp2_with fail
        exact bodyPost_ret (v := .tuple #[.int .i64 xc, .int .i64 xd, .bool true]) (by simp [results, Try.results20, go_sem]) rfl (SaysS.of_ HQ.out (below_drewN (hbF3.alloc hbF3.size _) _))
      · have HQ : Hid (sea l bb = (xc, xd, true)) := HQY.out (by omega)
        clear HQY HQN hkd
        go_wp2_with fail
        go_quiet (fail)
        go_wp2_with fail
        exact bodyPost_ret (v := .tuple #[.int .i64 xc, .int .i64 xd, .bool true]) (by simp [results, Try.results20, go_sem]) rfl (SaysS.of_ HQ.out (below_drewN (hbF3.alloc hbF3.size _) _))
      · have HQ : Hid (sea l bb = (0, 0, false)) := HQN.out rfl
        clear HQY HQN hkd
        go_wp2_with fail
        exact bodyPost_ret (v := .tuple #[.int .i64 0, .int .i64 0, .bool false]) (by simp [results, Try.results20, go_sem]) rfl (SaysS.of_ HQ.out (hbF3.alloc hbF3.size _))

end Go.Proofs.Ytdmgaafmmjeelaa
