/- Valid votes, sums, valid seats, who gets the next seat: what the program's and the reference's functions return. The conditions stand in each theorem. -/
import Derived.Test.YtjanmgiliooocaaEMat
import Derived.IntWalk
namespace Go.Proofs.Ytjanmgiliooocaa
open Go.RowKit Go.ChangeShapes
open Man
set_option linter.unusedVariables false

set_option maxHeartbeats 1000000 in
theorem Max_any (A : Option Addr) (n c : Nat) (zs : List Int) (w : World) (hn : zs.length = n) (h1 : 1 ≤ n) (hm : n ≤ 1048576) (ha : Row w w.heap.size A (zs.map (Value.int .i64))) :
    Calls Try.prog 55 #[.slice A n c] w fun e w' => e = .returned (.int .i64 (maxL zs)) ∧ w = w' := by
  have HN := Lib.hid hn
  have hl0 : 0 < zs.length := by omega
  clear hn
  obtain ⟨b0, off0, rfl, hbw0, hc0⟩ := int_at ha hl0
  rw [Nat.add_zero] at hc0
  have H0 : Hid (maxL (zs.take 1) = zs[0]) := by
    show _ = _
    cases zs with
    | nil => simp at hl0
    | cons z l => simp [maxL]
  generalize zs[0] = z0 at *
  go_enter Try.func55, Try.ntmps55
  go_wp2_with fail
  go_loop [3, 4] (fun s i => ∃ (k : Nat) (x : Int), 1 ≤ k ∧ k ≤ n ∧ i = .int .i64 k ∧ s = .int .i64 x ∧ Hid (maxL (zs.take k) = x)) (fun _ i => n - (intOf i).toNat)
  case atStart => exact ⟨1, z0, Nat.le_refl _, h1, rfl, rfl, H0⟩
  case round =>
    obtain ⟨k, x, hk1, hk, rfl, rfl, HX⟩ := hrel
    clear hc0
    by_cases hlt : k < n
    · have hl : k < zs.length := by rw [HN.out]; exact hlt
      have HS := Lib.hid (maxL_snoc (v := zs) (by omega) hl)
      obtain ⟨b, off, e, hbw, hcell⟩ := int_at ha hl
      injection e with e
      injection e with e1 e2
      subst e1 e2
      clear ha
      generalize zs[k] = z at *
      go_wp2_with fail
      go_round
      case rel => exact ⟨k + 1, _, by omega, by omega, by go_num, rfl, by show _ = _; rw [HS.out, HX.out]; split <;> omega⟩
      case measure => simp [intOf]; omega
    · have HQ : Hid (maxL zs = x) := by
        have := HX.out
        rwa [List.take_of_length_le (by rw [HN.out]; omega)] at this
      go_wp2_with fail
      go_ret
      exact ⟨ret_int HQ.out.symm, rfl⟩

set_option maxHeartbeats 1000000 in
theorem votesValid_any (A : Option Addr) (n c : Nat) (zs : List Int) (w : World) (hn : zs.length = n) (hm : n ≤ 1048576) (ha : Row w w.heap.size A (zs.map (Value.int .i64))) :
    Calls Try.prog 47 #[.slice A n c] w fun e w' => e = .returned (.bool (vvB zs)) ∧ w = w' := by
  have HN := Lib.hid hn
  clear hn
  go_enter Try.func47, Try.ntmps47
  go_wp2_with fail
  go_loop [7] (fun i => ∃ k : Nat, k ≤ n ∧ i = .int .i64 k ∧ Hid (inAll 99 (zs.take k) = true)) (fun i => n - (intOf i).toNat)
  case atStart => exact ⟨0, Nat.zero_le _, rfl, by simp [Hid, inAll]⟩
  case round =>
    obtain ⟨k, hk, rfl, HX⟩ := hrel
    by_cases hlt : k < n
    · have hl : k < zs.length := by rw [HN.out]; exact hlt
      have HB : Hid (zs[k] < 0 ∨ 99 < zs[k] → vvB zs = false) := fun h => vvB_bad (inAll_bad hl h)
      have HS : Hid (0 ≤ zs[k] → zs[k] ≤ 99 → inAll 99 (zs.take (k + 1)) = true) := fun h1 h2 => inAll_snoc hl HX.out h1 h2
      obtain ⟨b, off, rfl, hbw, hcell⟩ := int_at ha hl
      clear ha
      generalize zs[k] = z at *
      by_cases h1 : z < 0
      · have HQ : Hid (vvB zs = false) := HB.out (by omega)
        go_wp2_with fail
        go_ret
        exact ⟨ret_bool HQ.out.symm, rfl⟩
      by_cases h2 : 99 < z
      · have HQ : Hid (vvB zs = false) := HB.out (by omega)
        go_wp2_with fail
        go_ret
        exact ⟨ret_bool HQ.out.symm, rfl⟩
      · have HQ := Lib.hid (HS.out (by omega) (by omega))
        go_wp2_with fail
        go_round
        case rel => exact ⟨k + 1, by omega, by go_num, HQ⟩
        case measure => simp [intOf]; omega
    · have HA : Hid (inAll 99 zs = true) := by
        have := HX.out
        rwa [List.take_of_length_le (by rw [HN.out]; omega)] at this
      by_cases h5 : 1 ≤ n ∧ n ≤ 5
      · have d := inB_yes (a := (n : Int)) (lo := 1) (hi := 5) (by omega) (by omega)
        have HQ : Hid (vvB zs = decide (0 < maxL zs)) := by
          show _ = _
          rw [vvB_all HA.out, HN.out, d, Bool.true_and]
          refine decide_eq_decide.2 (maxL_pos (fun x hx => (inAll_of HA.out x hx).1) (fun e => ?_)).symm
          have := HN.out
          rw [e] at this
          simp at this
          omega
        have HC := Lib.hid (Max_any A n c zs w HN.out h5.1 hm ha)
        clear ha
        generalize maxL zs = mx at *
        obtain ⟨h51, h52⟩ := h5
        go_wp2_with (first
          | (go_at_call 54; refine (isMany_any n hm _).mono ?_; rintro e w' ⟨rfl, rfl⟩)
          | (go_at_call 55; refine HC.out.mono ?_; rintro e w' ⟨rfl, rfl⟩))
        go_ret
        exact ⟨ret_bool HQ.out.symm, rfl⟩
      · have d := inB_no (a := (n : Int)) (lo := 1) (hi := 5) (by omega)
        have HQ : Hid (vvB zs = false) := by
          show _ = _
          rw [vvB_all HA.out, HN.out, d, Bool.false_and]
        clear ha h5
        go_wp2_with (go_at_call 54; refine (isMany_any n hm _).mono ?_; rintro e w' ⟨rfl, rfl⟩)
        go_ret
        exact ⟨ret_bool HQ.out.symm, rfl⟩

set_option maxHeartbeats 1000000 in
theorem sumOf_any (A : Option Addr) (n c : Nat) (zs : List Int) (w : World) (hn : zs.length = n) (hm : n ≤ 1048576) (hb : ∀ z ∈ zs, 0 ≤ z ∧ z ≤ 99) (ha : Row w w.heap.size A (zs.map (Value.int .i64))) :
    Calls Try.prog 50 #[.slice A n c] w fun e w' => e = .returned (.int .i64 (sumI zs)) ∧ w = w' := by
  have HN := Lib.hid hn
  have HB := Lib.hid hb
  clear hn hb
  go_enter Try.func50, Try.ntmps50
  go_wp2_with fail
  go_loop [3, 8] (fun s i => ∃ (k : Nat) (x : Int), k ≤ n ∧ i = .int .i64 k ∧ s = .int .i64 x ∧ 0 ≤ x ∧ x ≤ 99 * (k : Int) ∧ Hid (sumI (zs.take k) = x)) (fun _ i => n - (intOf i).toNat)
  case atStart => exact ⟨0, 0, Nat.zero_le _, rfl, rfl, by omega, by omega, by simp [Hid, sumI]⟩
  case round =>
    obtain ⟨k, x, hk, rfl, rfl, x0, x1, HX⟩ := hrel
    by_cases hlt : k < n
    · have hl : k < zs.length := by rw [HN.out]; exact hlt
      have HS := Lib.hid (sumI_step zs k hl)
      obtain ⟨z0, z1⟩ := HB.out _ (List.getElem_mem hl)
      obtain ⟨b, off, rfl, hbw, hcell⟩ := int_at ha hl
      clear ha
      generalize zs[k] = z at *
      go_wp2_with fail
      go_round
      case rel => exact ⟨k + 1, _, by omega, by go_num, rfl, by omega, by omega, by show _ = _; rw [HS.out, HX.out]⟩
      case measure => simp [intOf]; omega
    · have HQ : Hid (sumI zs = x) := by
        have := HX.out
        rwa [List.take_of_length_le (by rw [HN.out]; omega)] at this
      go_wp2_with fail
      go_ret
      exact ⟨ret_int HQ.out.symm, rfl⟩

set_option maxHeartbeats 1000000 in
theorem lsumOf_any (A : Option Addr) (n c : Nat) (zs : List Int) (w : World) (hn : zs.length = n) (hm : n ≤ 1048576) (hb : ∀ z ∈ zs, 0 ≤ z ∧ z ≤ 99) (ha : Row w w.heap.size A (zs.map (Value.int .i64))) :
    Calls Try.prog 12 #[.slice A n c] w fun e w' => e = .returned (.int .i64 (sumI zs)) ∧ w = w' := by
  have HN := Lib.hid hn
  have HB := Lib.hid hb
  clear hn hb
  go_enter Try.func12, Try.ntmps12
  go_wp2_with fail
  go_loop [3, 4] (fun s i => ∃ (k : Nat) (x : Int), k ≤ n ∧ i = .int .i64 k ∧ s = .int .i64 x ∧ 0 ≤ x ∧ x ≤ 99 * (k : Int) ∧ Hid (sumI (zs.take k) = x)) (fun _ i => n - (intOf i).toNat)
  case atStart => exact ⟨0, 0, Nat.zero_le _, rfl, rfl, by omega, by omega, by simp [Hid, sumI]⟩
  case round =>
    obtain ⟨k, x, hk, rfl, rfl, x0, x1, HX⟩ := hrel
    by_cases hlt : k < n
    · have hl : k < zs.length := by rw [HN.out]; exact hlt
      have HS := Lib.hid (sumI_step zs k hl)
      obtain ⟨z0, z1⟩ := HB.out _ (List.getElem_mem hl)
      obtain ⟨b, off, rfl, hbw, hcell⟩ := int_at ha hl
      clear ha
      generalize zs[k] = z at *
      go_wp2_with fail
      go_round
      case rel => exact ⟨k + 1, _, by omega, by go_num, rfl, by omega, by omega, by show _ = _; rw [HS.out, HX.out]⟩
      case measure => simp [intOf]; omega
    · have HQ : Hid (sumI zs = x) := by
        have := HX.out
        rwa [List.take_of_length_le (by rw [HN.out]; omega)] at this
      go_wp2_with fail
      go_ret
      exact ⟨ret_int HQ.out.symm, rfl⟩

set_option maxHeartbeats 1000000 in
theorem l21Votes_any (A : Option Addr) (n c : Nat) (zs : List Int) (w : World) (hn : zs.length = n) (hm : n ≤ 1048576) (ha : Row w w.heap.size A (zs.map (Value.int .i64))) :
    Calls Try.prog 52 #[.slice A n c] w fun e w' => e = .returned (.bool (vvB zs)) ∧ w = w' := by
  have HN := Lib.hid hn
  clear hn
  go_enter Try.func52, Try.ntmps52
  go_wp2_with fail
  go_loop [3, 4] (fun s i => ∃ (k : Nat) (x : Int), k ≤ n ∧ i = .int .i64 k ∧ s = .int .i64 x ∧ 0 ≤ x ∧ x ≤ 99 * (k : Int) ∧ Hid (sumI (zs.take k) = x) ∧ Hid (inAll 99 (zs.take k) = true)) (fun _ i => n - (intOf i).toNat)
  case atStart => exact ⟨0, 0, Nat.zero_le _, rfl, rfl, by omega, by omega, by simp [Hid, sumI], by simp [Hid, inAll]⟩
  case round =>
    obtain ⟨k, x, hk, rfl, rfl, x0, x1, HX, HA⟩ := hrel
    by_cases hlt : k < n
    · have hl : k < zs.length := by rw [HN.out]; exact hlt
      have HB : Hid (zs[k] < 0 ∨ 99 < zs[k] → vvB zs = false) := fun h => vvB_bad (inAll_bad hl h)
      have HS : Hid (0 ≤ zs[k] → zs[k] ≤ 99 → inAll 99 (zs.take (k + 1)) = true) := fun h1 h2 => inAll_snoc hl HA.out h1 h2
      have HT := Lib.hid (sumI_step zs k hl)
      obtain ⟨b, off, rfl, hbw, hcell⟩ := int_at ha hl
      clear ha
      generalize zs[k] = z at *
      by_cases h1 : 0 ≤ z ∧ z ≤ 99
      · have d := inB_yes h1.1 h1.2
        obtain ⟨z0, z1⟩ := h1
        have HQ := Lib.hid (HS.out z0 z1)
        go_wp2_with (go_at_call 26; refine (in_any _ _ _ _).mono ?_; rintro e w' ⟨rfl, rfl⟩)
        go_round
        case rel => exact ⟨k + 1, _, by omega, by go_num, rfl, by omega, by omega, by show _ = _; rw [HT.out, HX.out], HQ⟩
        case measure => simp [intOf]; omega
      · have d := inB_no (a := z) (lo := 0) (hi := 99) (by omega)
        have HQ : Hid (vvB zs = false) := HB.out (by omega)
        clear h1
        go_wp2_with (go_at_call 26; refine (in_any _ _ _ _).mono ?_; rintro e w' ⟨rfl, rfl⟩)
        go_ret
        exact ⟨ret_bool HQ.out.symm, rfl⟩
    · have HQ : Hid (vvB zs = (inB (n : Int) 1 5 && decide (0 < x))) := by
        show _ = _
        have h1 := HX.out
        have h2 := HA.out
        rw [List.take_of_length_le (by rw [HN.out]; omega)] at h1 h2
        rw [vvB_all h2, HN.out, h1]
      clear ha
      by_cases h5 : 1 ≤ n ∧ n ≤ 5
      · have d := inB_yes (a := (n : Int)) (lo := 1) (hi := 5) (by omega) (by omega)
        go_wp2_with (go_at_call 26; refine (in_any _ _ _ _).mono ?_; rintro e w' ⟨rfl, rfl⟩)
        go_ret
        exact ⟨ret_bool (by rw [HQ.out, d, Bool.true_and]), rfl⟩
      · have d := inB_no (a := (n : Int)) (lo := 1) (hi := 5) (by omega)
        clear h5
        go_wp2_with (go_at_call 26; refine (in_any _ _ _ _).mono ?_; rintro e w' ⟨rfl, rfl⟩)
        go_ret
        exact ⟨ret_bool (by rw [HQ.out, d, Bool.false_and]), rfl⟩

set_option maxHeartbeats 1000000 in
theorem seatsValid_any (A : Option Addr) (n c : Nat) (v : List Int) (G : Option Addr) (m d : Nat) (g : List Int) (w : World) (hn : v.length = n) (hm : n ≤ 1048576) (ha : Row w w.heap.size A (v.map (Value.int .i64)))
    (hn2 : g.length = m) (hm2 : m ≤ 1048576) (hg : Row w w.heap.size G (g.map (Value.int .i64))) :
    Calls Try.prog 38 #[.slice A n c, .slice G m d] w fun e w' => e = .returned (.bool (svB v g)) ∧ w = w' := by
  have HN := Lib.hid hn
  have HM := Lib.hid hn2
  have HA := Lib.hid ha
  clear hn hn2 ha
  go_enter Try.func38, Try.ntmps38
  go_wp2_with fail
  go_loop [9] (fun i => ∃ k : Nat, k ≤ m ∧ i = .int .i64 k ∧ Hid (inAll 20 (g.take k) = true)) (fun i => m - (intOf i).toNat)
  case atStart => exact ⟨0, Nat.zero_le _, rfl, by simp [Hid, inAll]⟩
  case round =>
    obtain ⟨k, hk, rfl, HX⟩ := hrel
    by_cases hlt : k < m
    · have hl : k < g.length := by rw [HM.out]; exact hlt
      have HB : Hid (g[k] < 0 ∨ 20 < g[k] → svB v g = false) := fun h => by
        unfold svB
        rw [inAll_bad hl h]
        rfl
      have HS : Hid (0 ≤ g[k] → g[k] ≤ 20 → inAll 20 (g.take (k + 1)) = true) := fun h1 h2 => inAll_snoc hl HX.out h1 h2
      obtain ⟨b, off, rfl, hbw, hcell⟩ := int_at hg hl
      clear hg
      generalize g[k] = z at *
      by_cases h1 : z < 0
      · have HQ : Hid (svB v g = false) := HB.out (by omega)
        go_wp2_with fail
        go_ret
        exact ⟨ret_bool HQ.out.symm, rfl⟩
      by_cases h2 : 20 < z
      · have HQ : Hid (svB v g = false) := HB.out (by omega)
        go_wp2_with fail
        go_ret
        exact ⟨ret_bool HQ.out.symm, rfl⟩
      · have HQ := Lib.hid (HS.out (by omega) (by omega))
        go_wp2_with fail
        go_round
        case rel => exact ⟨k + 1, by omega, by go_num, HQ⟩
        case measure => simp [intOf]; omega
    · have HI : Hid (inAll 20 g = true) := by
        have := HX.out
        rwa [List.take_of_length_le (by rw [HM.out]; omega)] at this
      have HC := Lib.hid (sumOf_any G m d g w HM.out hm2 (fun z hz => by have := inAll_of HI.out z hz; omega) hg)
      have hE : svB v g = (vvB v && (decide (g.length = v.length) && decide (sumI g ≤ 20))) := by
        unfold svB
        rw [HI.out, Bool.true_and]
      rw [HN.out, HM.out] at hE
      have HE := Lib.hid hE
      clear hg hE
      cases hv : vvB v with
      | false =>
        rw [hv] at HE
        go_wp2_with fail
        refine (votesValid_any A n c v _ HN.out hm HA.out).mono ?_
        rintro e w' ⟨rfl, rfl⟩
        go_wp2_with fail
        go_ret
        exact ⟨ret_bool HE.out.symm, rfl⟩
      | true =>
        rw [hv] at HE
        by_cases hmn : m = n
        · subst hmn
          have hE2 := HE.out
          simp only [decide_true, Bool.true_and] at hE2
          have HE2 := Lib.hid hE2
          clear hE2 HE
          generalize sumI g = s at *
          go_wp2_with fail
          refine (votesValid_any A m c v _ HN.out hm HA.out).mono ?_
          rintro e w' ⟨rfl, rfl⟩
          go_wp2_with fail
          refine HC.out.mono ?_
          rintro e w' ⟨rfl, rfl⟩
          go_wp2_with fail
          go_ret
          exact ⟨ret_bool HE2.out.symm, rfl⟩
        · have hmn' : ((m : Int) == (n : Int)) = false := by simp; omega
          have hE2 := HE.out
          rw [decide_eq_false hmn, Bool.false_and, Bool.and_false] at hE2
          have HE2 := Lib.hid hE2
          clear hE2 HE HC
          go_wp2_with fail
          refine (votesValid_any A n c v _ HN.out hm HA.out).mono ?_
          rintro e w' ⟨rfl, rfl⟩
          go_wp2_with fail
          go_ret
          exact ⟨ret_bool HE2.out.symm, rfl⟩

end Go.Proofs.Ytjanmgiliooocaa
