/- Lots: what LotsValid of the program and of the reference return, and the searches under them. The conditions stand in each theorem. -/
import Derived.Test.YtjanmgiliooocaaInts
namespace Go.Proofs.Ytjanmgiliooocaa
open Go.RowKit Go.ChangeShapes
set_option linter.unusedVariables false

def Says (w : World) (b : Bool) (e : Ending) (w' : World) : Prop := e = .returned (.bool b) ∧ Below w.heap.size w w'
/-- Each number is a candidate's, and none is named twice. -/
def okN (N : Nat) (b : List Int) : Bool := (List.range b.length).all (fun i => decide (0 ≤ b.getD i 0) && (decide (b.getD i 0 < (N : Int)) && !(hasB (b.take i) (b.getD i 0))))
theorem okN_iff (N : Nat) (b : List Int) : okN N b = true ↔ ∀ i, (h : i < b.length) → 0 ≤ b[i] ∧ b[i] < (N : Int) ∧ b[i] ∉ b.take i := by
  unfold okN
  rw [List.all_eq_true]
  constructor
  · intro h i hi
    have h1 := h i (List.mem_range.2 hi)
    simp only [List.getD_eq_getElem?_getD, List.getElem?_eq_getElem hi, Option.getD_some, Bool.and_eq_true, decide_eq_true_eq, Bool.not_eq_true'] at h1
    refine ⟨h1.1, h1.2.1, fun hm => ?_⟩
    rw [(hasB_iff _ _).2 hm] at h1
    exact absurd h1.2.2 (by simp)
  · intro h i hi
    have hi' := List.mem_range.1 hi
    obtain ⟨h1, h2, h3⟩ := h i hi'
    simp only [List.getD_eq_getElem?_getD, List.getElem?_eq_getElem hi', Option.getD_some, Bool.and_eq_true, decide_eq_true_eq, Bool.not_eq_true']
    exact ⟨h1, h2, hasB_no h3⟩
theorem okN_bad {N : Nat} {b : List Int} {k : Nat} (hk : k < b.length) (h : ¬ (0 ≤ b[k] ∧ b[k] < (N : Int) ∧ b[k] ∉ b.take k)) : okN N b = false := by
  cases hb : okN N b with
  | false => rfl
  | true => exact absurd ((okN_iff N b).1 hb k hk) h
theorem okN_nodup (N : Nat) (b : List Int) (h : okN N b = true) : b.Nodup ∧ ∀ c ∈ b, 0 ≤ c ∧ c < (N : Int) := by
  have h1 := (okN_iff N b).1 h
  refine ⟨?_, fun c hc => ?_⟩
  · unfold List.Nodup
    rw [List.pairwise_iff_getElem]
    intro i j hi hj hij e
    refine (h1 j hj).2.2 ?_
    rw [← e]
    have hl : i < (b.take j).length := by rw [List.length_take]; omega
    have : (b.take j)[i] = b[i] := List.getElem_take
    rw [← this]
    exact List.getElem_mem hl
  · obtain ⟨i, hi, rfl⟩ := List.getElem_of_mem hc
    exact ⟨(h1 i hi).1, (h1 i hi).2.1⟩
theorem pigeon : ∀ (n : Nat) (l : List Int), l.Nodup → (∀ x ∈ l, 0 ≤ x ∧ x < (n : Int)) → l.length ≤ n
  | 0, l, _, h => by
    cases l with
    | nil => simp
    | cons x l =>
      have := h x (List.mem_cons_self ..)
      omega
  | n + 1, l, hn, h => by
    by_cases hm : (n : Int) ∈ l
    · have ih := pigeon n (l.erase (n : Int)) (hn.erase _) (fun x hx => by
        have h1 := h x (List.mem_of_mem_erase hx)
        have h2 : x ≠ (n : Int) := fun e => hn.not_mem_erase (e ▸ hx)
        omega)
      rw [List.length_erase_of_mem hm] at ih
      omega
    · have ih := pigeon n l hn (fun x hx => by
        have h1 := h x hx
        have h2 : x ≠ (n : Int) := fun e => hm (e ▸ hx)
        omega)
      omega
set_option maxHeartbeats 1000000 in
theorem l1Has_any (A : Option Addr) (n c : Nat) (zs : List Int) (x : Int) (w : World) (hn : zs.length = n) (hm : n ≤ 1048576) (ha : Row w w.heap.size A (zs.map (Value.int .i64))) :
    Calls Try.prog 53 #[.slice A n c, .int .i64 x] w fun e w' => e = .returned (.bool (hasB zs x)) ∧ w = w' := by
  have HN := Lib.hid hn
  clear hn
  go_enter Try.func53, Try.ntmps53
  go_wp2
  go_loop [5] (fun i => ∃ k : Nat, k ≤ n ∧ i = .int .i64 k ∧ Hid (x ∉ zs.take k)) (fun i => n - (intOf i).toNat)
  case atStart => exact ⟨0, Nat.zero_le _, rfl, by simp [Hid]⟩
  case round =>
    obtain ⟨k, hk, rfl, HX⟩ := hrel
    by_cases hlt : k < n
    · have hl : k < zs.length := by rw [HN.out]; exact hlt
      obtain ⟨b, off, rfl, hbw, hc⟩ := int_at ha hl
      clear ha
      by_cases hx : zs[k] = x
      · have HQ : Hid (hasB zs x = true) := (hasB_iff zs x).2 (hx ▸ List.getElem_mem hl)
        rw [hx] at hc
        clear hx
        go_wp2
        go_ret
        exact ⟨ret_bool HQ.out.symm, rfl⟩
      · have q1 : (zs[k] == x) = false := by simpa using hx
        have HQ := Lib.hid hx
        clear hx
        go_wp2
        go_round
        case rel =>
          refine ⟨k + 1, by omega, by go_num, ?_⟩
          show x ∉ zs.take (k + 1)
          rw [List.take_succ_eq_append_getElem hl]
          simp only [List.mem_append, List.mem_singleton, not_or]
          exact ⟨HX.out, fun e => HQ.out e.symm⟩
        case measure => simp [intOf]; omega
    · have HQ : Hid (hasB zs x = false) := by
        have := HX.out
        rw [List.take_of_length_le (by rw [HN.out]; omega)] at this
        exact hasB_no this
      go_wp2
      go_ret
      exact ⟨ret_bool HQ.out.symm, rfl⟩

set_option maxHeartbeats 1000000 in
theorem Index_any (A : Option Addr) (n c : Nat) (zs : List Int) (x : Int) (w : World) (hn : zs.length = n) (hm : n ≤ 1048576) (ha : Row w w.heap.size A (zs.map (Value.int .i64))) :
    Calls Try.prog 57 #[.slice A n c, .int .i64 x] w fun e w' => (∃ j : Int, e = .returned (.int .i64 j) ∧ -1 ≤ j ∧ j ≤ 1048576 ∧ hasB zs x = decide (0 ≤ j)) ∧ w = w' := by
  have HN := Lib.hid hn
  clear hn
  go_enter Try.func57, Try.ntmps57
  go_wp2
  go_loop [8] (fun i => ∃ k : Nat, k ≤ n ∧ i = .int .i64 k ∧ Hid (x ∉ zs.take k)) (fun i => n - (intOf i).toNat)
  case atStart => exact ⟨0, Nat.zero_le _, rfl, by simp [Hid]⟩
  case round =>
    obtain ⟨k, hk, rfl, HX⟩ := hrel
    by_cases hlt : k < n
    · have hl : k < zs.length := by rw [HN.out]; exact hlt
      obtain ⟨b, off, rfl, hbw, hc⟩ := int_at ha hl
      clear ha
      by_cases hx : zs[k] = x
      · have HQ : Hid (hasB zs x = true) := (hasB_iff zs x).2 (hx ▸ List.getElem_mem hl)
        rw [hx] at hc
        clear hx
        go_wp2
        go_ret
        exact ⟨⟨k, rfl, by omega, by omega, by rw [HQ.out]; simp⟩, rfl⟩
      · have q1 : (x == zs[k]) = false := by simpa using fun e => hx e.symm
        have HQ := Lib.hid hx
        clear hx
        go_wp2
        go_round
        case rel =>
          refine ⟨k + 1, by omega, by go_num, ?_⟩
          show x ∉ zs.take (k + 1)
          rw [List.take_succ_eq_append_getElem hl]
          simp only [List.mem_append, List.mem_singleton, not_or]
          exact ⟨HX.out, fun e => HQ.out e.symm⟩
        case measure => simp [intOf]; omega
    · have HQ : Hid (hasB zs x = false) := by
        have := HX.out
        rw [List.take_of_length_le (by rw [HN.out]; omega)] at this
        exact hasB_no this
      go_wp2
      go_ret
      exact ⟨⟨-1, rfl, by omega, by omega, by rw [HQ.out]; rfl⟩, rfl⟩
theorem Contains_any (A : Option Addr) (n c : Nat) (zs : List Int) (x : Int) (w : World) (hn : zs.length = n) (hm : n ≤ 1048576) (ha : Row w w.heap.size A (zs.map (Value.int .i64))) :
    Calls Try.prog 56 #[.slice A n c, .int .i64 x] w fun e w' => e = .returned (.bool (hasB zs x)) ∧ w = w' := by
  have HN := Lib.hid hn
  clear hn
  go_enter Try.func56, Try.ntmps56
  go_wp2_with fail
  refine (Index_any _ _ _ zs _ _ HN.out hm ha).mono ?_
  rintro e w' ⟨⟨j, rfl, j0, j1, hj⟩, rfl⟩
  have HJ := Lib.hid hj
  clear hj ha
  go_wp2_with fail
  go_ret
  exact ⟨ret_bool HJ.out.symm, rfl⟩

/-- Lots: each of n candidates once, n from 1 to 5. -/
def ltB (zs : List Int) : Bool := okN zs.length zs && inB (zs.length : Int) 1 5
theorem ltB_bad {zs : List Int} {n : Nat} (hn : zs.length = n) (h : okN n zs = false) : ltB zs = false := by
  unfold ltB
  rw [hn, h]
  rfl
theorem ltB_all {zs : List Int} {n : Nat} (hn : zs.length = n) (h : okN n zs = true) : ltB zs = inB (n : Int) 1 5 := by
  unfold ltB
  rw [hn, h]
  rfl
theorem ltB_of {zs : List Int} (h : ltB zs = true) : okN zs.length zs = true ∧ 1 ≤ zs.length ∧ zs.length ≤ 5 := by
  unfold ltB inB at h
  simp only [Bool.and_eq_true, decide_eq_true_eq] at h
  exact ⟨h.1, by omega, by omega⟩
theorem isMany_yes (N : Nat) (h1 : 1 ≤ N) (h5 : N ≤ 5) (w : World) : Calls Try.prog 54 #[.int .i64 (N : Int)] w fun e w' => e = .returned (.bool true) ∧ w = w' := by
  have d1 : decide ((1 : Int) ≤ (N : Int)) = true := by simp; omega
  have d2 : decide ((N : Int) ≤ 5) = true := by simp; omega
  go_enter Try.func54, Try.ntmps54
  go_wp2
  go_ret
  exact ⟨rfl, rfl⟩
theorem isMany_no (N : Nat) (h : N < 1 ∨ 5 < N) (hm : N ≤ 1048576) (w : World) : Calls Try.prog 54 #[.int .i64 (N : Int)] w fun e w' => e = .returned (.bool false) ∧ w = w' := by
  rcases h with h | h
  · obtain rfl : N = 0 := by omega
    go_enter Try.func54, Try.ntmps54
    go_wp2
    go_ret
    exact ⟨rfl, rfl⟩
  · have d1 : decide ((1 : Int) ≤ (N : Int)) = true := by simp; omega
    have d2 : decide ((N : Int) ≤ 5) = false := by simp; omega
    go_enter Try.func54, Try.ntmps54
    go_wp2
    go_ret
    exact ⟨rfl, rfl⟩
theorem isMany_any (N : Nat) (hm : N ≤ 1048576) (w : World) : Calls Try.prog 54 #[.int .i64 (N : Int)] w fun e w' => e = .returned (.bool (inB (N : Int) 1 5)) ∧ w = w' := by
  by_cases h : 1 ≤ N ∧ N ≤ 5
  · rw [inB_yes (by omega) (by omega)]; exact isMany_yes N h.1 h.2 w
  · rw [inB_no (by omega)]; exact isMany_no N (by omega) hm w

theorem Row.takeI {w : World} {B : Nat} {A : Option Addr} {zs : List Int} (h : Row w B A (zs.map (Value.int .i64))) (k : Nat) : Row w B A ((zs.take k).map (Value.int .i64)) := by
  rw [List.map_take]
  exact h.take k

set_option maxHeartbeats 1000000 in
theorem BallotValid_any (N : Nat) (hN1 : 1 ≤ N) (hN5 : N ≤ 5) (A : Option Addr) (n c : Nat) (zs : List Int) (w : World) (hn : zs.length = n) (hm : n ≤ 1048576) (hc : n ≤ c) (hcm : c ≤ maxLen) (ha : Row w w.heap.size A (zs.map (Value.int .i64))) :
    Calls Try.prog 51 #[.slice A n c, .int .i64 (N : Int)] w fun e w' => e = .returned (.bool (okN N zs)) ∧ w = w' := by
  have HN := Lib.hid hn
  clear hn
  unfold maxLen at hcm
  go_enter Try.func51, Try.ntmps51
  go_wp2_with fail
  refine (isMany_yes N hN1 hN5 _).mono ?_
  rintro e w' ⟨rfl, rfl⟩
  go_wp2_with fail
  go_loop [12] (fun i => ∃ k : Nat, k ≤ n ∧ i = .int .i64 k ∧ Hid (∀ j, j < k → (h : j < zs.length) → 0 ≤ zs[j] ∧ zs[j] < (N : Int) ∧ zs[j] ∉ zs.take j)) (fun i => n - (intOf i).toNat)
  case atStart => exact ⟨0, Nat.zero_le _, rfl, fun j hj => absurd hj (by omega)⟩
  case round =>
    obtain ⟨k, hk, rfl, HX⟩ := hrel
    by_cases hlt : k < n
    · have hl : k < zs.length := by rw [HN.out]; exact hlt
      have hr1 := ha.takeI k
      have HL : Hid ((zs.take k).length = k) := by
        show _ = _
        rw [List.length_take]
        omega
      have HB := Lib.hid (okN_bad (N := N) hl)
      have HS : Hid (0 ≤ zs[k] → zs[k] < (N : Int) → zs[k] ∉ zs.take k → ∀ j, j < k + 1 → (h : j < zs.length) → 0 ≤ zs[j] ∧ zs[j] < (N : Int) ∧ zs[j] ∉ zs.take j) := fun h1 h2 h3 j hj h => by
        by_cases e : j = k
        · subst e
          exact ⟨h1, h2, h3⟩
        · exact HX.out j (by omega) h
      have HM : Hid (hasB (zs.take k) zs[k] = true ↔ zs[k] ∈ zs.take k) := hasB_iff _ _
      obtain ⟨b, off, rfl, hbw, hcell⟩ := int_at ha hl
      clear ha
      generalize zs[k] = z at *
      by_cases h1 : z < 0
      · have HQ : Hid (okN N zs = false) := HB.out (by omega)
        go_wp2_with fail
        go_ret
        exact ⟨ret_bool HQ.out.symm, rfl⟩
      by_cases h2 : (N : Int) ≤ z
      · have HQ : Hid (okN N zs = false) := HB.out (by omega)
        go_wp2_with fail
        go_ret
        exact ⟨ret_bool HQ.out.symm, rfl⟩
      · go_wp2_with fail
        refine (Contains_any _ _ _ (zs.take k) _ _ HL.out (by omega) hr1).mono ?_
        rintro e w' ⟨rfl, rfl⟩
        cases hh : hasB (zs.take k) z with
        | true =>
          have HQ : Hid (okN N zs = false) := HB.out (fun h => h.2.2 (HM.out.1 hh))
          clear hr1 hh
          go_wp2_with fail
          go_ret
          exact ⟨ret_bool HQ.out.symm, rfl⟩
        | false =>
          have HQ := Lib.hid (HS.out (by omega) (by omega) (fun hm => by rw [HM.out.2 hm] at hh; cases hh))
          clear hr1 hh
          go_wp2_with fail
          go_round
          case rel => exact ⟨k + 1, by omega, by go_num, HQ⟩
          case measure => simp [intOf]; omega
    · have HQ : Hid (okN N zs = true) := (okN_iff N zs).2 fun i hi => HX.out i (by have := HN.out; omega) hi
      go_wp2_with fail
      go_ret
      exact ⟨ret_bool HQ.out.symm, rfl⟩

theorem BallotValid_big (N : Nat) (h5 : 5 < N) (A : Option Addr) (n c : Nat) (w : World) (hm : N ≤ 1048576) :
    Calls Try.prog 51 #[.slice A n c, .int .i64 (N : Int)] w fun e w' => e = .returned (.bool false) ∧ w = w' := by
  go_enter Try.func51, Try.ntmps51
  go_wp2_with fail
  refine (isMany_no N (.inr h5) hm _).mono ?_
  rintro e w' ⟨rfl, rfl⟩
  go_wp2_with fail
  go_ret
  exact ⟨rfl, rfl⟩
set_option maxHeartbeats 1000000 in
theorem LotsValid_any (A : Option Addr) (n c : Nat) (zs : List Int) (w : World) (hn : zs.length = n) (hm : n ≤ 1048576) (hc : n ≤ c) (hcm : c ≤ maxLen) (ha : Row w w.heap.size A (zs.map (Value.int .i64))) :
    Calls Try.prog 40 #[.slice A n c] w fun e w' => e = .returned (.bool (ltB zs)) ∧ w = w' := by
  by_cases h0 : n = 0
  · subst h0
    have HQ : Hid (ltB zs = false) := by
      show _ = _
      unfold ltB
      rw [hn]
      simp [inB]
    clear ha hn
    go_enter Try.func40, Try.ntmps40
    go_wp2_with fail
    go_ret
    exact ⟨ret_bool HQ.out.symm, rfl⟩
  · have hpos : 0 < n := by omega
    by_cases h5 : n ≤ 5
    · have HQ : Hid (okN n zs = ltB zs) := by
        show _ = _
        unfold ltB
        rw [hn, inB_yes (by omega) (by omega), Bool.and_true]
      have HC := Lib.hid (BallotValid_any n (by omega) h5 A n c zs w hn hm hc hcm ha)
      clear ha hn
      go_enter Try.func40, Try.ntmps40
      go_wp2_with fail
      refine HC.out.mono ?_
      rintro e w' ⟨rfl, rfl⟩
      go_wp2_with fail
      go_ret
      exact ⟨ret_bool HQ.out, rfl⟩
    · have HQ : Hid (ltB zs = false) := by
        show _ = _
        unfold ltB
        rw [hn, inB_no (a := (n : Int)) (lo := 1) (hi := 5) (by omega), Bool.and_false]
      have HC := Lib.hid (BallotValid_big n (by omega) A n c w hm)
      clear ha hn
      go_enter Try.func40, Try.ntmps40
      go_wp2_with fail
      refine HC.out.mono ?_
      rintro e w' ⟨rfl, rfl⟩
      go_wp2_with fail
      go_ret
      exact ⟨ret_bool HQ.out.symm, rfl⟩

theorem quiet_left {P : Program} {f : FuncId} {args : Array Value} {w : World} {n : Nat} {v : Value}
    (h : Calls P f args (w.drewN n) fun e w' => e = .returned v ∧ w.drewN n = w') : Calls P f args (w.drewN n) fun e w'' => e = .returned v ∧ ∃ m, w'' = w.drewN m :=
  h.mono fun _ _ ⟨he, hm⟩ => ⟨he, n, hm.symm⟩

set_option maxHeartbeats 1000000 in
theorem sLotsValid_any (A : Option Addr) (n c : Nat) (zs : List Int) (w : World) (hn : zs.length = n) (hm : n ≤ 1048576) (hc : n ≤ c) (hcm : c ≤ maxLen) (ha : Row w w.heap.size A (zs.map (Value.int .i64))) :
    Calls Try.prog 44 #[.slice A n c] w (Says w (ltB zs)) := by
  have HN := Lib.hid hn
  clear hn
  unfold maxLen at hcm
  go_enter Try.func44, Try.ntmps44
  go_wp2_with fail
  go_loopw [3] (fun i wx => ∃ k : Nat, k ≤ n ∧ i = .int .i64 k ∧ Below w.heap.size w wx ∧ Hid (∀ j, j < k → (h : j < zs.length) → 0 ≤ zs[j] ∧ zs[j] < (n : Int) ∧ zs[j] ∉ zs.take j)) (fun i _ => n - (intOf i).toNat)
  case atStart => exact ⟨0, Nat.zero_le _, rfl, Below.refl _ _, fun j hj => absurd hj (by omega)⟩
  case round =>
    obtain ⟨k, hk, rfl, hbel, HX⟩ := hrel
    have ha' := (ha.below hbel).more hbel.size
    clear ha
    by_cases hlt : k < n
    · have hl : k < zs.length := by rw [HN.out]; exact hlt
      have hr1 := ha'.takeI k
      have HL : Hid ((zs.take k).length = k) := by
        show _ = _
        rw [List.length_take]
        omega
      have HB := Lib.hid (okN_bad (N := n) hl)
      have HB2 := Lib.hid (ltB_bad (zs := zs) HN.out)
      have HS : Hid (0 ≤ zs[k] → zs[k] < (n : Int) → zs[k] ∉ zs.take k → ∀ j, j < k + 1 → (h : j < zs.length) → 0 ≤ zs[j] ∧ zs[j] < (n : Int) ∧ zs[j] ∉ zs.take j) := fun h1 h2 h3 j hj h => by
        by_cases e : j = k
        · subst e
          exact ⟨h1, h2, h3⟩
        · exact HX.out j (by omega) h
      have HM : Hid (hasB (zs.take k) zs[k] = true ↔ zs[k] ∈ zs.take k) := hasB_iff _ _
      obtain ⟨b, off, rfl, hbw, hcell⟩ := int_at ha' hl
      clear ha'
      generalize zs[k] = z at *
      by_cases h1 : 0 ≤ z ∧ z ≤ (n : Int) - 1
      · have d := inB_yes h1.1 h1.2
        cases hh : hasB (zs.take k) z with
        | true =>
          have HQ : Hid (ltB zs = false) := HB2.out (HB.out (fun h => h.2.2 (HM.out.1 hh)))
          clear h1
          go_wp2_with fail
          go_quiet ((first
            | (go_at_call 26; exact quiet_left (in_any _ _ _ _))
            | (go_at_call 53; exact quiet_left (l1Has_any _ _ _ (zs.take k) _ _ HL.out (by omega) hr1))))
          clear hr1 hh
          go_wp2_with fail
          go_ret
          exact ⟨ret_bool HQ.out.symm, below_drewN hbel _⟩
        | false =>
          have HQ := Lib.hid (HS.out (by omega) (by omega) (fun hm => by rw [HM.out.2 hm] at hh; cases hh))
          clear h1
          go_wp2_with fail
          go_quiet ((first
            | (go_at_call 26; exact quiet_left (in_any _ _ _ _))
            | (go_at_call 53; exact quiet_left (l1Has_any _ _ _ (zs.take k) _ _ HL.out (by omega) hr1))))
          clear hr1 hh
          go_wp2_with fail
          go_roundw
          case rel => exact ⟨k + 1, by omega, by go_num, below_drewN hbel _, HQ⟩
          case measure => simp [intOf]; omega
      · have d := inB_no (a := z) (lo := 0) (hi := (n : Int) - 1) (by omega)
        have HQ : Hid (ltB zs = false) := HB2.out (HB.out (by omega))
        clear h1
        go_wp2_with fail
        go_quiet ((go_at_call 26; exact quiet_left (in_any _ _ _ _)))
        go_wp2_with fail
        go_ret
        exact ⟨ret_bool HQ.out.symm, below_drewN hbel _⟩
    · have HQ : Hid (inB (n : Int) 1 5 = ltB zs) := by
        show _ = _
        rw [ltB_all HN.out ((okN_iff n zs).2 fun i hi => HX.out i (by have := HN.out; omega) hi)]
      clear ha'
      go_wp2_with fail
      refine (in_any _ _ _ _).mono ?_
      rintro e w' ⟨rfl, rfl⟩
      go_wp2_with fail
      go_ret
      exact ⟨ret_bool HQ.out, hbel⟩

end Go.Proofs.Ytjanmgiliooocaa
