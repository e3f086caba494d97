/- Pairs of ballots: what PairsError and PairsHold return, the reference's and the program's. The conditions stand in each theorem. -/
import Derived.Test.YtkpgbombikgffaaPair2
namespace Go.Proofs.Ytkpgbombikgffaa
open Go.RowKit Go.ChangeShapes
set_option linter.unusedVariables false

def psum : List Pr → Int → Int → Int
  | [], _, _ => 0
  | p :: l, wi, lo => pe p wi lo + psum l wi lo
theorem psum_app (l m : List Pr) (wi lo : Int) : psum (l ++ m) wi lo = psum l wi lo + psum m wi lo := by
  induction l with
  | nil => simp [psum]
  | cons p l ih => simp only [List.cons_append, psum, ih]; omega
theorem psum_step (l : List Pr) (k : Nat) (wi lo : Int) (h : k < l.length) : psum (l.take (k + 1)) wi lo = psum (l.take k) wi lo + pe l[k] wi lo := by
  rw [List.take_succ_eq_append_getElem h, psum_app]
  simp [psum]
theorem psum_bd (l : List Pr) (wi lo : Int) : -2 * (l.length : Int) ≤ psum l wi lo ∧ psum l wi lo ≤ 2 * (l.length : Int) := by
  induction l with
  | nil => simp [psum]
  | cons p l ih =>
    have := pe_bd p wi lo
    simp only [psum, List.length_cons]
    omega
def pseB (ps : List Pr) (wi lo : Int) : Bool := pvB ps && rvB wi lo
def pseZ (ps : List Pr) (wi lo : Int) : Int := if pseB ps wi lo = true then psum ps wi lo else 0
theorem pse_yes {ps : List Pr} {wi lo : Int} (h1 : pvB ps = true) (h2 : rvB wi lo = true) : pseZ ps wi lo = psum ps wi lo ∧ pseB ps wi lo = true := by
  have h : pseB ps wi lo = true := by unfold pseB; rw [h1, h2]; rfl
  exact ⟨if_pos h, h⟩
theorem pse_no {ps : List Pr} {wi lo : Int} (h : pvB ps = false ∨ rvB wi lo = false) : pseZ ps wi lo = 0 ∧ pseB ps wi lo = false := by
  have h : pseB ps wi lo = false := by unfold pseB; rcases h with h | h <;> rw [h] <;> simp
  exact ⟨if_neg (by rw [h]; exact Bool.false_ne_true), h⟩
theorem pvB_len {ps : List Pr} (h : pvB ps = true) : ps.length ≤ 20 ∧ ps.all okPr = true := by
  unfold pvB at h
  simp only [Bool.and_eq_true, decide_eq_true_eq] at h
  exact ⟨h.2, h.1⟩
theorem pse_bd (ps : List Pr) (wi lo : Int) : -40 ≤ pseZ ps wi lo ∧ pseZ ps wi lo ≤ 40 := by
  by_cases h : pseB ps wi lo = true
  · have e : pseZ ps wi lo = psum ps wi lo := if_pos h
    have h1 := psum_bd ps wi lo
    have h2 := (pvB_len (ps := ps) (by unfold pseB at h; simp only [Bool.and_eq_true] at h; exact h.1)).1
    omega
  · have e : pseZ ps wi lo = 0 := if_neg h
    omega
def SaysIB (w : World) (z : Int) (b : Bool) (e : Ending) (w' : World) : Prop := e = .returned (.tuple #[.int .i64 z, .bool b]) ∧ Below w.heap.size w w'
theorem ret_ib {a b : Int} {x y : Bool} (h1 : a = b) (h2 : x = y) : Ending.returned (.tuple #[.int .i64 a, .bool x]) = .returned (.tuple #[.int .i64 b, .bool y]) := by rw [h1, h2]

set_option maxHeartbeats 1000000 in
theorem PairsError_any (A : Option Addr) (n c : Nat) (ps : List Pr) (wi lo : Int) (w : World) (hn : ps.length = n) (hm : n ≤ 1048576) (hs : ∀ p ∈ ps, smallPr p) (ha : Row w w.heap.size A (prCells ps)) :
    Calls Try.prog 35 #[.slice A n c, .int .i64 wi, .int .i64 lo] w (SaysIB w (pseZ ps wi lo) (pseB ps wi lo)) := by
  have HN := Lib.hid hn
  have HS := Lib.hid hs
  have HA0 := Lib.hid ha
  clear hn hs
  go_enter Try.func35, Try.ntmps35
  go_wp2_with fail
  refine (PairsValid_any _ _ _ ps _ HN.out hm HS.out ha).mono ?_
  rintro e w1 ⟨rfl, hb1⟩
  have ha1 := (ha.below hb1).more hb1.size
  clear ha
  cases hv : pvB ps with
  | false =>
    have HQ := Lib.hid (pse_no (wi := wi) (lo := lo) (.inl hv))
    clear hv ha1
    go_wp2_with fail
    go_ret2
    exact ⟨ret_ib HQ.out.1.symm HQ.out.2.symm, hb1⟩
  | true =>
    go_wp2_with fail
    refine (rivals_any _ _ _).mono ?_
    rintro e w' ⟨rfl, rfl⟩
    cases hr : rvB wi lo with
    | false =>
      have HQ := Lib.hid (pse_no (ps := ps) (.inr hr))
      clear hv hr ha1
      go_wp2_with fail
      go_ret2
      exact ⟨ret_ib HQ.out.1.symm HQ.out.2.symm, hb1⟩
    | true =>
      have HQ := Lib.hid (pse_yes hv hr)
      clear hv hr
      go_wp2_with fail
      go_loopw [8, 22] (fun s i wx => ∃ (k : Nat) (z : Int), k ≤ n ∧ i = .int .i64 k ∧ s = .int .i64 z ∧ -2097152 ≤ z ∧ z ≤ 2097152 ∧ Below w.heap.size w wx ∧ Hid (z = psum (ps.take k) wi lo)) (fun _ i _ => n - (intOf i).toNat)
      case atStart => exact ⟨0, 0, Nat.zero_le _, rfl, rfl, by omega, by omega, hb1, rfl⟩
      case round =>
        obtain ⟨k, z, hk, rfl, rfl, z0, z1, hbel, HX⟩ := hrel
        by_cases hlt : k < n
        · have hl : k < ps.length := by rw [HN.out]; exact hlt
          have ha2 := (HA0.out.below hbel).more hbel.size
          obtain ⟨b, off, rfl, hbw, hc0, hc1⟩ := pair_at ha2 hl
          have HP := Lib.hid (HS.out _ (List.getElem_mem hl))
          have HT := Lib.hid (psum_step ps k wi lo hl)
          have hb1' := psum_bd (ps.take (k + 1)) wi lo
          have hl1 : (ps.take (k + 1)).length ≤ k + 1 := List.length_take_le _ _
          have hpb := pe_bd ps[k] wi lo
          have hz2 : -2097152 ≤ z + pe ps[k] wi lo ∧ z + pe ps[k] wi lo ≤ 2097152 := by
            rw [HX.out, ← HT.out]
            omega
          clear ha2 hb1' hl1 HA0 ha1
          generalize ps[k] = p at *
          obtain ⟨pa, pb⟩ := p
          simp only at hc0 hc1
          go_wp2_with fail
          refine (PairError_any (pa, pb) _ _ _ HP.out).mono ?_
          rintro e w2 ⟨rfl, hb2⟩
          have hbel2 : Below w.heap.size w w2 := (hbel.alloc hbel.size _).trans (hb2.mono (by have := hbel.size; simp; omega))
          clear hb2 hc0 hc1
          generalize pe (pa, pb) wi lo = y at *
          go_wp2_with fail
          go_roundw
          case rel => exact ⟨k + 1, _, by omega, by go_num, rfl, by omega, by omega, hbel2, by
            show _ = _
            rw [HT.out, ← HX.out]⟩
          case measure => simp [intOf]; omega
        · have HE : Hid (z = psum ps wi lo) := by
            have h1 := HX.out
            rw [List.take_of_length_le (by rw [HN.out]; omega)] at h1
            exact h1
          clear ha1 HA0
          go_wp2_with fail
          go_ret2
          exact ⟨ret_ib (HE.out.trans HQ.out.1.symm) HQ.out.2.symm, hbel⟩

set_option maxHeartbeats 1000000 in
theorem sPairsError_any (A : Option Addr) (n c : Nat) (ps : List Pr) (wi lo : Int) (w : World) (hn : ps.length = n) (hm : n ≤ 1048576) (hs : ∀ p ∈ ps, smallPr p) (ha : Row w w.heap.size A (prCells ps)) :
    Calls Try.prog 36 #[.slice A n c, .int .i64 wi, .int .i64 lo] w (SaysIB w (pseZ ps wi lo) (pseB ps wi lo)) := by
  have HN := Lib.hid hn
  have HS := Lib.hid hs
  have HA0 := Lib.hid ha
  clear hn hs
  go_enter Try.func36, Try.ntmps36
  go_wp2_with fail
  refine (sPairsValid_any _ _ _ ps _ HN.out hm HS.out ha).mono ?_
  rintro e w1 ⟨rfl, hb1⟩
  have ha1 := (ha.below hb1).more hb1.size
  clear ha
  cases hv : pvB ps with
  | false =>
    have HQ := Lib.hid (pse_no (wi := wi) (lo := lo) (.inl hv))
    clear hv ha1
    go_wp2_with fail
    go_ret2
    exact ⟨ret_ib HQ.out.1.symm HQ.out.2.symm, hb1⟩
  | true =>
    go_wp2_with fail
    refine (sl34Two_any _ _ _).mono ?_
    rintro e w' ⟨rfl, rfl⟩
    cases hr : rvB wi lo with
    | false =>
      have HQ := Lib.hid (pse_no (ps := ps) (.inr hr))
      clear hv hr ha1
      go_wp2_with fail
      go_ret2
      exact ⟨ret_ib HQ.out.1.symm HQ.out.2.symm, hb1⟩
    | true =>
      have HQ := Lib.hid (pse_yes hv hr)
      clear hv hr
      go_wp2_with fail
      go_loopw [8, 9] (fun s i wx => ∃ (k : Nat) (z : Int), k ≤ n ∧ i = .int .i64 k ∧ s = .int .i64 z ∧ -2097152 ≤ z ∧ z ≤ 2097152 ∧ Below w.heap.size w wx ∧ Hid (z = psum (ps.take k) wi lo)) (fun _ i _ => n - (intOf i).toNat)
      case atStart => exact ⟨0, 0, Nat.zero_le _, rfl, rfl, by omega, by omega, hb1, rfl⟩
      case round =>
        obtain ⟨k, z, hk, rfl, rfl, z0, z1, hbel, HX⟩ := hrel
        by_cases hlt : k < n
        · have hl : k < ps.length := by rw [HN.out]; exact hlt
          have ha2 := (HA0.out.below hbel).more hbel.size
          obtain ⟨b, off, rfl, hbw, hc0, hc1⟩ := pair_at ha2 hl
          have HP := Lib.hid (HS.out _ (List.getElem_mem hl))
          have HT := Lib.hid (psum_step ps k wi lo hl)
          have hb1' := psum_bd (ps.take (k + 1)) wi lo
          have hl1 : (ps.take (k + 1)).length ≤ k + 1 := List.length_take_le _ _
          have hpb := pe_bd ps[k] wi lo
          have hz2 : -2097152 ≤ z + pe ps[k] wi lo ∧ z + pe ps[k] wi lo ≤ 2097152 := by
            rw [HX.out, ← HT.out]
            omega
          clear ha2 hb1' hl1 HA0 ha1
          generalize ps[k] = p at *
          obtain ⟨pa, pb⟩ := p
          simp only at hc0 hc1
          go_wp2_with fail
          refine (sPairError_any (pa, pb) _ _ _ HP.out).mono ?_
          rintro e w2 ⟨rfl, hb2⟩
          have hbel2 : Below w.heap.size w w2 := hbel.trans (hb2.mono hbel.size)
          clear hb2 hc0 hc1
          generalize pe (pa, pb) wi lo = y at *
          go_wp2_with fail
          go_roundw
          case rel => exact ⟨k + 1, _, by omega, by go_num, rfl, by omega, by omega, hbel2, by
            show _ = _
            rw [HT.out, ← HX.out]⟩
          case measure => simp [intOf]; omega
        · have HE : Hid (z = psum ps wi lo) := by
            have h1 := HX.out
            rw [List.take_of_length_le (by rw [HN.out]; omega)] at h1
            exact h1
          clear ha1 HA0
          go_wp2_with fail
          go_ret2
          exact ⟨ret_ib (HE.out.trans HQ.out.1.symm) HQ.out.2.symm, hbel⟩

end Go.Proofs.Ytkpgbombikgffaa
