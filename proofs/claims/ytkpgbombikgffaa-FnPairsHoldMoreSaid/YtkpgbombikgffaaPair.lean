/- Pairs of ballots: what the functions on one pair return, the reference's and the program's. The conditions stand in each theorem. -/
import Derived.Test.YtkpgbombikgffaaBal
import Derived.IntWalk
namespace Go.Proofs.Ytkpgbombikgffaa
open Go.RowKit Go.ChangeShapes
set_option linter.unusedVariables false

def one01 (b : Bool) : Int := if b then 1 else 0
theorem one01_bd (b : Bool) : 0 ≤ one01 b ∧ one01 b ≤ 1 := by cases b <;> simp [one01]
theorem one_any (b : Bool) (w : World) :
    Calls Try.prog 72 #[.bool b] w fun e w' => e = .returned (.int .i64 (one01 b)) ∧ w = w' := by
  cases b
  · go_enter Try.func72, Try.ntmps72
    go_wp2
    go_ret
    exact ⟨rfl, rfl⟩
  · go_enter Try.func72, Try.ntmps72
    go_wp2
    go_ret
    exact ⟨rfl, rfl⟩

def SaysI (w : World) (z : Int) (e : Ending) (w' : World) : Prop := e = .returned (.int .i64 z) ∧ Below w.heap.size w w'

/-- The vote of a text: 1 for the winner, -1 for the loser. -/
def voteL (zs : List Int) (wi lo : Int) : Int := match zs with
  | [] => 0
  | z :: _ => one01 (z == wi) - one01 (z == lo)
def voteZ (s : ByteArray) (wi lo : Int) : Int := voteL (zsP s) wi lo
theorem voteL_bd (zs : List Int) (wi lo : Int) : -1 ≤ voteL zs wi lo ∧ voteL zs wi lo ≤ 1 := by
  cases zs with
  | nil => simp [voteL]
  | cons z t =>
    have h1 := one01_bd (z == wi)
    have h2 := one01_bd (z == lo)
    simp only [voteL]
    omega
theorem voteZ_bd (s : ByteArray) (wi lo : Int) : -1 ≤ voteZ s wi lo ∧ voteZ s wi lo ≤ 1 := voteL_bd _ _ _

set_option maxHeartbeats 1000000 in
theorem voteOf_any (s : ByteArray) (wi lo : Int) (w : World) (hs : s.size ≤ 1048576) :
    Calls Try.prog 57 #[.string s, .int .i64 wi, .int .i64 lo] w (SaysI w (voteZ s wi lo)) := by
  go_enter Try.func57, Try.ntmps57
  go_wp2_with fail
  refine (BallotParse_any s _ hs).mono ?_
  rintro e w1 ⟨A, n, c, rfl, hl, hn5, hc1, hc2, hrow, hb⟩
  have HV : Hid (voteZ s wi lo = voteL (zsP s) wi lo) := rfl
  generalize okP s = bb
  generalize zsP s = zs at *
  have HL := Lib.hid hl
  clear hl
  cases zs with
  | nil =>
    obtain rfl : n = 0 := by have := HL.out; simp at this; exact this.symm
    clear hrow
    go_wp2_with fail
    go_ret
    exact ⟨ret_int HV.out.symm, hb⟩
  | cons z t =>
    obtain ⟨b, off, rfl, hbw, hc⟩ := int_at hrow (k := 0) (by simp)
    have hn0 : 0 < n := by have := HL.out; simp at this; omega
    have e0 : ((n : Int) == 0) = false := by simp; omega
    simp only [List.getElem_cons_zero, Nat.add_zero] at hc
    have b1 := one01_bd (z == wi)
    have b2 := one01_bd (z == lo)
    unfold maxLen at hc2
    clear hrow
    go_wp2_with fail
    go_quiet ((go_at_call 72; exact quiet_left (one_any _ _)))
    go_wp2_with fail
    go_ret
    exact ⟨ret_int HV.out.symm, below_drewN hb _⟩

set_option maxHeartbeats 1000000 in
theorem sl34Vote_any (s : ByteArray) (wi lo : Int) (w : World) (hs : s.size ≤ 1048576) (hne : wi ≠ lo) :
    Calls Try.prog 55 #[.string s, .int .i64 wi, .int .i64 lo] w (SaysI w (voteZ s wi lo)) := by
  have HNE := Lib.hid hne
  clear hne
  go_enter Try.func55, Try.ntmps55
  go_wp2_with fail
  refine (sBallotParse_any s _ hs).mono ?_
  rintro e w1 ⟨A, n, c, rfl, hl, hn5, hc1, hc2, hrow, hb⟩
  have HV : Hid (voteZ s wi lo = voteL (zsP s) wi lo) := rfl
  generalize okP s = bb
  generalize zsP s = zs at *
  have HL := Lib.hid hl
  clear hl
  cases zs with
  | nil =>
    obtain rfl : n = 0 := by have := HL.out; simp at this; exact this.symm
    clear hrow
    go_wp2_with fail
    go_ret
    exact ⟨ret_int HV.out.symm, hb⟩
  | cons z t =>
    obtain ⟨b, off, rfl, hbw, hc⟩ := int_at hrow (k := 0) (by simp)
    have hn0 : 0 < n := by have := HL.out; simp at this; omega
    simp only [List.getElem_cons_zero, Nat.add_zero] at hc
    unfold maxLen at hc2
    clear hrow
    by_cases h1 : z = wi
    · have q1 : (z == wi) = true := by simpa using h1
      have HR : Hid (voteL (z :: t) wi lo = 1) := by
        show _ = _
        simp only [voteL, q1]
        have : (z == lo) = false := by simpa [h1] using HNE.out
        rw [this]
        rfl
      clear h1
      go_wp2_with fail
      go_ret
      exact ⟨ret_int (HV.out.trans HR.out).symm, hb⟩
    · have q1 : (z == wi) = false := by simpa using h1
      by_cases h2 : z = lo
      · have q2 : (z == lo) = true := by simpa using h2
        have HR : Hid (voteL (z :: t) wi lo = -1) := by
          show _ = _
          simp only [voteL, q1, q2]
          rfl
        clear h1 h2
        go_wp2_with fail
        go_ret
        exact ⟨ret_int (HV.out.trans HR.out).symm, hb⟩
      · have q2 : (z == lo) = false := by simpa using h2
        have HR : Hid (voteL (z :: t) wi lo = 0) := by
          show _ = _
          simp only [voteL, q1, q2]
          rfl
        clear h1 h2
        go_wp2_with fail
        go_ret
        exact ⟨ret_int (HV.out.trans HR.out).symm, hb⟩

def rvB (wi lo : Int) : Bool := decide (wi ≠ lo ∧ 0 ≤ wi ∧ wi < 5 ∧ 0 ≤ lo ∧ lo < 5)
theorem rvB_yes {wi lo : Int} (h : wi ≠ lo ∧ 0 ≤ wi ∧ wi < 5 ∧ 0 ≤ lo ∧ lo < 5) : rvB wi lo = true := by simpa [rvB] using h
theorem rvB_no {wi lo : Int} (h : ¬ (wi ≠ lo ∧ 0 ≤ wi ∧ wi < 5 ∧ 0 ≤ lo ∧ lo < 5)) : rvB wi lo = false := by
  unfold rvB
  exact decide_eq_false h
theorem rvB_of {wi lo : Int} (h : rvB wi lo = true) : wi ≠ lo ∧ 0 ≤ wi ∧ wi < 5 ∧ 0 ≤ lo ∧ lo < 5 := by simpa [rvB] using h

set_option maxHeartbeats 1000000 in
theorem rivals_any (wi lo : Int) (w : World) :
    Calls Try.prog 56 #[.int .i64 wi, .int .i64 lo] w fun e w' => e = .returned (.bool (rvB wi lo)) ∧ w = w' := by
  by_cases h0 : wi = lo
  · rw [rvB_no (by omega)]
    have q : (wi != lo) = false := by simpa using h0
    clear h0
    go_enter Try.func56, Try.ntmps56
    go_wp2
    go_ret
    exact ⟨rfl, rfl⟩
  have q : (wi != lo) = true := by simpa using h0
  by_cases h : wi ≠ lo ∧ 0 ≤ wi ∧ wi < 5 ∧ 0 ≤ lo ∧ lo < 5
  · rw [rvB_yes h]
    have d1 : decide (0 ≤ wi) = true := by simpa using h.2.1
    have d2 : decide (wi < 5) = true := by simpa using h.2.2.1
    have d3 : decide (0 ≤ lo) = true := by simpa using h.2.2.2.1
    have d4 : decide (lo < 5) = true := by simpa using h.2.2.2.2
    clear h h0
    go_enter Try.func56, Try.ntmps56
    go_wp2
    go_ret
    exact ⟨rfl, rfl⟩
  · rw [rvB_no h]
    by_cases h1 : 0 ≤ wi
    · have d1 : decide (0 ≤ wi) = true := by simpa using h1
      by_cases h2 : wi < 5
      · have d2 : decide (wi < 5) = true := by simpa using h2
        by_cases h3 : 0 ≤ lo
        · have d3 : decide (0 ≤ lo) = true := by simpa using h3
          have d4 : decide (lo < 5) = false := by simp; omega
          clear h h0
          go_enter Try.func56, Try.ntmps56
          go_wp2
          go_ret
          exact ⟨rfl, rfl⟩
        · have d3 : decide (0 ≤ lo) = false := by simpa using h3
          clear h h0
          go_enter Try.func56, Try.ntmps56
          go_wp2
          go_ret
          exact ⟨rfl, rfl⟩
      · have d2 : decide (wi < 5) = false := by simpa using h2
        clear h h0
        go_enter Try.func56, Try.ntmps56
        go_wp2
        go_ret
        exact ⟨rfl, rfl⟩
    · have d1 : decide (0 ≤ wi) = false := by simpa using h1
      clear h h0
      go_enter Try.func56, Try.ntmps56
      go_wp2
      go_ret
      exact ⟨rfl, rfl⟩

set_option maxHeartbeats 1000000 in
theorem sl34Two_any (wi lo : Int) (w : World) :
    Calls Try.prog 54 #[.int .i64 wi, .int .i64 lo] w fun e w' => e = .returned (.bool (rvB wi lo)) ∧ w = w' := by
  by_cases h1 : 0 ≤ wi ∧ wi ≤ 4
  · have d1 := inB_yes h1.1 h1.2
    by_cases h2 : 0 ≤ lo ∧ lo ≤ 4
    · have d2 := inB_yes h2.1 h2.2
      by_cases h0 : wi = lo
      · rw [rvB_no (by omega)]
        have q : (wi != lo) = false := by simpa using h0
        clear h0 h1 h2
        go_enter Try.func54, Try.ntmps54
        go_wp2_with (go_at_call 63; refine (in_any _ _ _ _).mono ?_; rintro e w' ⟨rfl, rfl⟩)
        go_ret
        exact ⟨rfl, rfl⟩
      · rw [rvB_yes (by omega)]
        have q : (wi != lo) = true := by simpa using h0
        clear h0 h1 h2
        go_enter Try.func54, Try.ntmps54
        go_wp2_with (go_at_call 63; refine (in_any _ _ _ _).mono ?_; rintro e w' ⟨rfl, rfl⟩)
        go_ret
        exact ⟨rfl, rfl⟩
    · have d2 := inB_no (a := lo) (lo := 0) (hi := 4) (by omega)
      rw [rvB_no (by omega)]
      clear h1 h2
      go_enter Try.func54, Try.ntmps54
      go_wp2_with (go_at_call 63; refine (in_any _ _ _ _).mono ?_; rintro e w' ⟨rfl, rfl⟩)
      go_ret
      exact ⟨rfl, rfl⟩
  · have d1 := inB_no (a := wi) (lo := 0) (hi := 4) (by omega)
    rw [rvB_no (by omega)]
    clear h1
    go_enter Try.func54, Try.ntmps54
    go_wp2_with (go_at_call 63; refine (in_any _ _ _ _).mono ?_; rintro e w' ⟨rfl, rfl⟩)
    go_ret
    exact ⟨rfl, rfl⟩

/-- A pair: as it was told, as it was seen. -/
abbrev Pr := ByteArray × ByteArray
def prV (p : Pr) : Value := .agg #[.string p.1, .string p.2]
def okPr (p : Pr) : Bool := okP p.1 && okP p.2
def smallPr (p : Pr) : Prop := p.1.size ≤ 1048576 ∧ p.2.size ≤ 1048576
def prCells (l : List Pr) : List Value := l.flatMap fun p => [.string p.1, .string p.2]
theorem prCells_len (l : List Pr) : (prCells l).length = l.length * 2 := by
  induction l with
  | nil => rfl
  | cons p l ih =>
    simp only [prCells, List.flatMap_cons, List.length_append, List.length_cons, List.length_nil] at ih ⊢
    omega
theorem prCells_at : ∀ (l : List Pr) (k : Nat) (h : k < l.length), (prCells l)[k * 2]? = some (.string l[k].1) ∧ (prCells l)[k * 2 + 1]? = some (.string l[k].2)
  | p :: l, 0, _ => ⟨rfl, rfl⟩
  | p :: l, k + 1, h => by
    have ih := prCells_at l k (by simpa using h)
    have e1 : (k + 1) * 2 = k * 2 + 1 + 1 := by omega
    rw [e1]
    show (Value.string p.1 :: Value.string p.2 :: prCells l)[k * 2 + 1 + 1]? = _ ∧ (Value.string p.1 :: Value.string p.2 :: prCells l)[k * 2 + 1 + 1 + 1]? = _
    simpa using ih
theorem pair_at {w : World} {B : Nat} {A : Option Addr} {ps : List Pr} (h : Row w B A (prCells ps)) {k : Nat} (hk : k < ps.length) :
    ∃ b off, A = some ⟨b, off, none⟩ ∧ b < B ∧ w.cell? ⟨b, off + k * 2, none⟩ = some (.string ps[k].1) ∧ w.cell? ⟨b, off + k * 2 + 1, none⟩ = some (.string ps[k].2) := by
  rcases h with h | ⟨b, off, e, hb, hc⟩
  · have := prCells_len ps
    rw [h] at this
    simp at this
    omega
  · have h1 := prCells_at ps k hk
    exact ⟨b, off, e, hb, hc _ _ h1.1, hc _ _ h1.2⟩

set_option maxHeartbeats 1000000 in
theorem pairValid_any (p : Pr) (w : World) (hs : smallPr p) :
    Calls Try.prog 52 #[prV p] w (Says w (okPr p)) := by
  obtain ⟨a, b⟩ := p
  obtain ⟨h1, h2⟩ := hs
  simp only at h1 h2
  show Calls Try.prog 52 #[.agg #[.string a, .string b]] w _
  go_enter Try.func52, Try.ntmps52
  go_wp2_with fail
  refine (BallotParse_any a _ h1).mono ?_
  rintro e w1 ⟨A, n, c, rfl, x1, x2, x3, x4, x5, hb⟩
  clear x1 x2 x3 x4 x5
  have hc1 := hb.cell (p := ⟨w.heap.size, 1, none⟩) (by simp)
  simp at hc1
  have hb1 : Below w.heap.size w w1 := ((Below.refl _ _).alloc (Nat.le_refl _) _).trans (hb.mono (by simp))
  clear hb
  go_wp2_with fail
  refine (BallotParse_any b _ h2).mono ?_
  rintro e w2 ⟨A', n', c', rfl, x1, x2, x3, x4, x5, hb⟩
  clear x1 x2 x3 x4 x5 hc1
  have hb2 : Below w.heap.size w w2 := hb1.trans (hb.mono hb1.size)
  clear hb hb1
  cases ha : okP a with
  | true =>
    have HA := Lib.hid ha
    clear ha
    go_wp2_with fail
    go_ret
    exact ⟨ret_bool (by simp [okPr, HA.out]), hb2⟩
  | false =>
    have HA := Lib.hid ha
    clear ha
    go_wp2_with fail
    go_ret
    exact ⟨ret_bool (by simp [okPr, HA.out]), hb2⟩

def pvB (ps : List Pr) : Bool := ps.all okPr && decide (ps.length ≤ 20)
theorem pvB_bad {ps : List Pr} {k : Nat} (hk : k < ps.length) (h : okPr ps[k] = false) : pvB ps = false := by
  unfold pvB
  have : ps.all okPr = false := by
    cases hb : ps.all okPr with
    | false => rfl
    | true =>
      rw [List.all_eq_true] at hb
      rw [hb _ (List.getElem_mem hk)] at h
      cases h
  rw [this]
  rfl
theorem all_snoc {ps : List Pr} {k : Nat} (hk : k < ps.length) (h1 : (ps.take k).all okPr = true) (h2 : okPr ps[k] = true) : (ps.take (k + 1)).all okPr = true := by
  rw [List.take_succ_eq_append_getElem hk, List.all_append, h1]
  simp [h2]

theorem pvB_all {ps : List Pr} (h : ps.all okPr = true) : pvB ps = decide ((ps.length : Int) ≤ 20) := by
  unfold pvB
  rw [h, Bool.true_and]
  exact decide_eq_decide.2 (by omega)

set_option maxHeartbeats 1000000 in
theorem PairsValid_any (A : Option Addr) (n c : Nat) (ps : List Pr) (w : World) (hn : ps.length = n) (hm : n ≤ 1048576) (hs : ∀ p ∈ ps, smallPr p) (ha : Row w w.heap.size A (prCells ps)) :
    Calls Try.prog 18 #[.slice A n c] w (Says w (pvB ps)) := by
  have HN := Lib.hid hn
  have HS := Lib.hid hs
  clear hn hs
  go_enter Try.func18, Try.ntmps18
  go_wp2_with fail
  go_loopw [7] (fun i wx => ∃ k : Nat, k ≤ n ∧ i = .int .i64 k ∧ Below w.heap.size w wx ∧ Hid ((ps.take k).all okPr = true)) (fun i _ => n - (intOf i).toNat)
  case atStart => exact ⟨0, Nat.zero_le _, rfl, Below.refl _ _, rfl⟩
  case round =>
    obtain ⟨k, hk, rfl, hbel, HX⟩ := hrel
    have ha' := (ha.below hbel).more hbel.size
    clear ha
    by_cases hlt : k < n
    · have hl : k < ps.length := by rw [HN.out]; exact hlt
      obtain ⟨b, off, rfl, hbw, hc0, hc1⟩ := pair_at ha' hl
      have HP := Lib.hid (HS.out _ (List.getElem_mem hl))
      have HB := Lib.hid (pvB_bad hl)
      have HA := Lib.hid (all_snoc hl HX.out)
      clear ha'
      generalize ps[k] = p at *
      obtain ⟨pa, pb⟩ := p
      simp only at hc0 hc1
      go_wp2_with fail
      refine (pairValid_any (pa, pb) _ HP.out).mono ?_
      rintro e w2 ⟨rfl, hb2⟩
      have hbel2 : Below w.heap.size w w2 := (hbel.alloc hbel.size _).trans (hb2.mono (by have := hbel.size; simp; omega))
      clear hb2 hc0 hc1
      cases hq : okPr (pa, pb) with
      | true =>
        have HQ := Lib.hid (HA.out hq)
        clear hq
        go_wp2_with fail
        go_roundw
        case rel => exact ⟨k + 1, by omega, by go_num, hbel2, HQ⟩
        case measure => simp [intOf]; omega
      | false =>
        have HQ := Lib.hid (HB.out hq)
        clear hq
        go_wp2_with fail
        go_ret
        exact ⟨ret_bool HQ.out.symm, hbel2⟩
    · have HE : Hid (pvB ps = decide ((n : Int) ≤ 20)) := by
        show _ = _
        have h1 := HX.out
        rw [List.take_of_length_le (by rw [HN.out]; omega)] at h1
        rw [pvB_all h1, HN.out]
      clear ha'
      go_wp2_with fail
      go_ret
      exact ⟨ret_bool HE.out.symm, hbel⟩

set_option maxHeartbeats 1000000 in
theorem sPairsValid_any (A : Option Addr) (n c : Nat) (ps : List Pr) (w : World) (hn : ps.length = n) (hm : n ≤ 1048576) (hs : ∀ p ∈ ps, smallPr p) (ha : Row w w.heap.size A (prCells ps)) :
    Calls Try.prog 19 #[.slice A n c] w (Says w (pvB ps)) := by
  have HN := Lib.hid hn
  have HS := Lib.hid hs
  clear hn hs
  go_enter Try.func19, Try.ntmps19
  go_wp2_with fail
  go_loopw [3] (fun i wx => ∃ k : Nat, k ≤ n ∧ i = .int .i64 k ∧ Below w.heap.size w wx ∧ Hid ((ps.take k).all okPr = true)) (fun i _ => n - (intOf i).toNat)
  case atStart => exact ⟨0, Nat.zero_le _, rfl, Below.refl _ _, rfl⟩
  case round =>
    obtain ⟨k, hk, rfl, hbel, HX⟩ := hrel
    have ha' := (ha.below hbel).more hbel.size
    clear ha
    by_cases hlt : k < n
    · have hl : k < ps.length := by rw [HN.out]; exact hlt
      obtain ⟨b, off, rfl, hbw, hc0, hc1⟩ := pair_at ha' hl
      have HP := Lib.hid (HS.out _ (List.getElem_mem hl))
      have HB := Lib.hid (pvB_bad hl)
      have HA := Lib.hid (all_snoc hl HX.out)
      clear ha'
      generalize ps[k] = p at *
      obtain ⟨pa, pb⟩ := p
      simp only at hc0 hc1
      go_wp2_with fail
      refine (sBallotParse_any pa _ HP.out.1).mono ?_
      rintro e w1 ⟨A', n', c', rfl, x1, x2, x3, x4, x5, hb1⟩
      clear x1 x2 x3 x4 x5
      have hd1 := (hb1.cell (p := ⟨b, off + k * 2 + 1, none⟩) hbw).trans hc1
      clear hc0 hc1
      go_wp2_with fail
      refine (sBallotParse_any pb _ HP.out.2).mono ?_
      rintro e w2 ⟨A'', n'', c'', rfl, x1, x2, x3, x4, x5, hb2⟩
      clear x1 x2 x3 x4 x5 hd1
      have hbel2 : Below w.heap.size w w2 := (hbel.trans (hb1.mono hbel.size)).trans (hb2.mono (Nat.le_trans hbel.size hb1.size))
      clear hb1 hb2
      cases hqa : okP pa with
      | false =>
        have HQ := Lib.hid (HB.out (by simp [okPr, hqa]))
        clear hqa
        go_wp2_with fail
        go_ret
        exact ⟨ret_bool HQ.out.symm, hbel2⟩
      | true =>
        cases hqb : okP pb with
        | false =>
          have HQ := Lib.hid (HB.out (by simp [okPr, hqb]))
          clear hqa hqb
          go_wp2_with fail
          go_ret
          exact ⟨ret_bool HQ.out.symm, hbel2⟩
        | true =>
          have HQ := Lib.hid (HA.out (by simp [okPr, hqa, hqb]))
          clear hqa hqb
          go_wp2_with fail
          go_roundw
          case rel => exact ⟨k + 1, by omega, by go_num, hbel2, HQ⟩
          case measure => simp [intOf]; omega
    · have HE : Hid (pvB ps = decide ((n : Int) ≤ 20)) := by
        show _ = _
        have h1 := HX.out
        rw [List.take_of_length_le (by rw [HN.out]; omega)] at h1
        rw [pvB_all h1, HN.out]
      clear ha'
      go_wp2_with fail
      go_ret
      exact ⟨ret_bool HE.out.symm, hbel⟩

/-- A boxed pair still stands, and what was there ahead of it. -/
def Bx (w W : World) (p : Pr) : Prop := W.cell? ⟨w.heap.size, 0, none⟩ = some (.string p.1) ∧ W.cell? ⟨w.heap.size, 1, none⟩ = some (.string p.2) ∧ w.heap.size < W.heap.size ∧ Below w.heap.size w W
theorem Bx.new (w : World) (p : Pr) (t : TypeId) : Bx w (w.alloc (.cells #[.string p.1, .string p.2] t)) p :=
  ⟨(Blk.new w t #[.string p.1, .string p.2]).cell 0, (Blk.new w t #[.string p.1, .string p.2]).cell 1, by simp, (Below.refl _ _).alloc (Nat.le_refl _) _⟩
theorem Bx.step {w W W' : World} {p : Pr} (h : Bx w W p) (hb : Below W.heap.size W W') : Bx w W' p :=
  ⟨(hb.cell (p := ⟨w.heap.size, 0, none⟩) h.2.2.1).trans h.1, (hb.cell (p := ⟨w.heap.size, 1, none⟩) h.2.2.1).trans h.2.1, Nat.lt_of_lt_of_le h.2.2.1 hb.size, h.2.2.2.trans (hb.mono (Nat.le_of_lt h.2.2.1))⟩
theorem Bx.drew {w W : World} {p : Pr} (h : Bx w W p) : Bx w W.drew p := ⟨h.1, h.2.1, h.2.2.1, h.2.2.2.drew⟩
theorem Bx.alloc {w W : World} {p : Pr} (h : Bx w W p) (o : Obj) : Bx w (W.alloc o) p := h.step ((Below.refl _ _).alloc (Nat.le_refl _) _)

def pe (p : Pr) (wi lo : Int) : Int := if (okPr p && rvB wi lo) = true then voteZ p.1 wi lo - voteZ p.2 wi lo else 0
theorem pe_yes {p : Pr} {wi lo : Int} (h1 : okPr p = true) (h2 : rvB wi lo = true) : pe p wi lo = voteZ p.1 wi lo - voteZ p.2 wi lo := if_pos (by rw [h1, h2]; rfl)
theorem pe_no {p : Pr} {wi lo : Int} (h : okPr p = false ∨ rvB wi lo = false) : pe p wi lo = 0 := if_neg (by rcases h with h | h <;> rw [h] <;> simp)
theorem pe_bd (p : Pr) (wi lo : Int) : -2 ≤ pe p wi lo ∧ pe p wi lo ≤ 2 := by
  have h1 := voteZ_bd p.1 wi lo
  have h2 := voteZ_bd p.2 wi lo
  unfold pe
  split <;> omega

set_option maxHeartbeats 2000000 in
theorem PairError_any (p : Pr) (wi lo : Int) (w : World) (hs : smallPr p) :
    Calls Try.prog 23 #[prV p, .int .i64 wi, .int .i64 lo] w (SaysI w (pe p wi lo)) := by
  obtain ⟨a, b⟩ := p
  have HS := Lib.hid hs
  obtain ⟨h1, h2⟩ := hs
  simp only at h1 h2
  show Calls Try.prog 23 #[.agg #[.string a, .string b], .int .i64 wi, .int .i64 lo] w _
  have I0 := Bx.new w (a, b) 27
  go_enter Try.func23, Try.ntmps23
  go_wp2_with fail
  refine (pairValid_any (a, b) _ HS.out).mono ?_
  rintro e w1 ⟨rfl, hb1⟩
  have I1 := I0.step hb1
  clear I0 hb1
  cases hq : okPr (a, b) with
  | false =>
    have HQ := Lib.hid (pe_no (wi := wi) (lo := lo) (.inl hq))
    clear hq
    go_wp2_with fail
    go_ret
    exact ⟨ret_int HQ.out.symm, I1.2.2.2⟩
  | true =>
    go_wp2_with fail
    refine (rivals_any _ _ _).mono ?_
    rintro e w' ⟨rfl, rfl⟩
    cases hr : rvB wi lo with
    | false =>
      have HQ := Lib.hid (pe_no (p := (a, b)) (.inr hr))
      clear hq hr
      go_wp2_with fail
      go_ret
      exact ⟨ret_int HQ.out.symm, I1.2.2.2⟩
    | true =>
      have HQ := Lib.hid (pe_yes hq hr)
      have k0 := I1.1
      have k1 := I1.2.1
      have b1 := voteZ_bd a wi lo
      have b2 := voteZ_bd b wi lo
      clear hq hr
      simp only at k0 k1
      go_wp2_with fail
      go_region_with (go_at_call 57; (first
        | ((with_reducible refine (voteOf_any a wi lo _ h1).mono ?_); rintro e w3 ⟨rfl, hb3⟩; have I3 := I1.drew.step hb3; clear hb3 k0 k1; have k0 := I3.1; have k1 := I3.2.1; simp only at k0 k1)
        | ((with_reducible refine (voteOf_any b wi lo _ h2).mono ?_); rintro e w4 ⟨rfl, hb4⟩; have I4 := I3.step hb4; clear hb4 k0 k1)))
      all_goals
        go_wp2_with fail
        go_ret
        exact ⟨ret_int (by first | exact HQ.out.symm | (rw [IntWalk.i64_in _ (by omega)]; exact HQ.out.symm)), I4.2.2.2⟩

theorem pvB_one (p : Pr) : pvB [p] = okPr p := by simp [pvB]
set_option maxHeartbeats 2000000 in
theorem sPairError_any (p : Pr) (wi lo : Int) (w : World) (hs : smallPr p) :
    Calls Try.prog 21 #[prV p, .int .i64 wi, .int .i64 lo] w (SaysI w (pe p wi lo)) := by
  obtain ⟨a, b⟩ := p
  have HS := Lib.hid hs
  obtain ⟨h1, h2⟩ := hs
  simp only at h1 h2
  show Calls Try.prog 21 #[.agg #[.string a, .string b], .int .i64 wi, .int .i64 lo] w _
  have I0 := Bx.new w (a, b) 27
  go_enter Try.func21, Try.ntmps21
  go_wp2_with fail
  have hrow : Row ((w.alloc (.cells #[.string a, .string b] 27)).alloc (.cells #[.string a, .string b] 27)) ((w.alloc (.cells #[.string a, .string b] 27)).alloc (.cells #[.string a, .string b] 27)).heap.size (some ⟨w.heap.size + 1, 0, none⟩) (prCells [(a, b)]) := by
    have hk := Blk.new (w.alloc (.cells #[.string a, .string b] 27)) 27 #[.string a, .string b]
    have e : (w.alloc (.cells #[.string a, .string b] 27)).heap.size = w.heap.size + 1 := by simp
    rw [e] at hk
    refine .inr ⟨w.heap.size + 1, 0, rfl, by simp, fun j u hu => ?_⟩
    rw [Nat.zero_add, hk.cell j]
    simpa [prCells] using hu
  refine (sPairsValid_any _ 1 _ [(a, b)] _ rfl (by omega) (fun q hq => by rw [List.mem_singleton.1 hq]; exact HS.out) hrow).mono ?_
  rintro e w1 ⟨rfl, hb1⟩
  have I1 := (I0.alloc _).step hb1
  clear I0 hb1 hrow
  rw [pvB_one]
  cases hq : okPr (a, b) with
  | false =>
    have HQ := Lib.hid (pe_no (wi := wi) (lo := lo) (.inl hq))
    clear hq
    go_wp2_with fail
    go_ret
    exact ⟨ret_int HQ.out.symm, I1.2.2.2⟩
  | true =>
    go_wp2_with fail
    refine (sl34Two_any _ _ _).mono ?_
    rintro e w' ⟨rfl, rfl⟩
    cases hr : rvB wi lo with
    | false =>
      have HQ := Lib.hid (pe_no (p := (a, b)) (.inr hr))
      clear hq hr
      go_wp2_with fail
      go_ret
      exact ⟨ret_int HQ.out.symm, I1.2.2.2⟩
    | true =>
      have HQ := Lib.hid (pe_yes hq hr)
      have HNE := Lib.hid (rvB_of hr).1
      have k0 := I1.1
      have k1 := I1.2.1
      have b1 := voteZ_bd a wi lo
      have b2 := voteZ_bd b wi lo
      clear hq hr
      simp only at k0 k1
      go_wp2_with fail
      go_region_with (go_at_call 55; (first
        | ((with_reducible refine (sl34Vote_any a wi lo _ h1 HNE.out).mono ?_); rintro e w3 ⟨rfl, hb3⟩; have I3 := I1.drew.step hb3; clear hb3 k0 k1; have k0 := I3.1; have k1 := I3.2.1; simp only at k0 k1)
        | ((with_reducible refine (sl34Vote_any b wi lo _ h2 HNE.out).mono ?_); rintro e w4 ⟨rfl, hb4⟩; have I4 := I3.step hb4; clear hb4 k0 k1)))
      all_goals
        go_wp2_with fail
        go_ret
        exact ⟨ret_int (by first | exact HQ.out.symm | (rw [IntWalk.i64_in _ (by omega)]; exact HQ.out.symm)), I4.2.2.2⟩

end Go.Proofs.Ytkpgbombikgffaa
