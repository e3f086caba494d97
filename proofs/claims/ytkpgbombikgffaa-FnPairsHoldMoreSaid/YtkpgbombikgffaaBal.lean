/- Ballots: what BallotValid and BallotParse return, the reference's and the program's, and the searches under them. The conditions stand in each theorem. -/
import Derived.Test.YtkpgbombikgffaaInts
namespace Go.Proofs.Ytkpgbombikgffaa
open Go.RowKit Go.ChangeShapes
set_option linter.unusedVariables false

/-- Each number is a candidate's, and none is named twice. -/
def okB (b : List Int) : Bool := (List.range b.length).all (fun i => decide (0 ≤ b.getD i 0) && (decide (b.getD i 0 < 5) && !(hasB (b.take i) (b.getD i 0))))
theorem okB_iff (b : List Int) : okB b = true ↔ ∀ i, (h : i < b.length) → 0 ≤ b[i] ∧ b[i] < 5 ∧ b[i] ∉ b.take i := by
  unfold okB
  rw [List.all_eq_true]
  constructor
  · intro h i hi
    have h1 := h i (List.mem_range.2 hi)
    simp only [List.getD_eq_getElem?_getD, List.getElem?_eq_getElem hi, Option.getD_some, Bool.and_eq_true, decide_eq_true_eq, Bool.not_eq_true'] at h1
    refine ⟨h1.1, h1.2.1, fun hm => ?_⟩
    rw [(hasB_iff _ _).2 hm] at h1
    exact absurd h1.2.2 (by simp)
  · intro h i hi
    have hi' := List.mem_range.1 hi
    obtain ⟨h1, h2, h3⟩ := h i hi'
    simp only [List.getD_eq_getElem?_getD, List.getElem?_eq_getElem hi', Option.getD_some, Bool.and_eq_true, decide_eq_true_eq, Bool.not_eq_true']
    exact ⟨h1, h2, hasB_no h3⟩
theorem okB_bad {b : List Int} {k : Nat} (hk : k < b.length) (h : ¬ (0 ≤ b[k] ∧ b[k] < 5 ∧ b[k] ∉ b.take k)) : okB b = false := by
  cases hb : okB b with
  | false => rfl
  | true => exact absurd ((okB_iff b).1 hb k hk) h
theorem okB_nodup (b : List Int) (h : okB b = true) : b.Nodup ∧ ∀ c ∈ b, 0 ≤ c ∧ c < 5 := by
  have h1 := (okB_iff b).1 h
  refine ⟨?_, fun c hc => ?_⟩
  · unfold List.Nodup
    rw [List.pairwise_iff_getElem]
    intro i j hi hj hij e
    refine (h1 j hj).2.2 ?_
    rw [← e]
    have hl : i < (b.take j).length := by rw [List.length_take]; omega
    have : (b.take j)[i] = b[i] := List.getElem_take
    rw [← this]
    exact List.getElem_mem hl
  · obtain ⟨i, hi, rfl⟩ := List.getElem_of_mem hc
    exact ⟨(h1 i hi).1, (h1 i hi).2.1⟩
theorem pigeon : ∀ (n : Nat) (l : List Int), l.Nodup → (∀ x ∈ l, 0 ≤ x ∧ x < (n : Int)) → l.length ≤ n
  | 0, l, _, h => by
    cases l with
    | nil => simp
    | cons x l =>
      have := h x (List.mem_cons_self ..)
      omega
  | n + 1, l, hn, h => by
    by_cases hm : (n : Int) ∈ l
    · have ih := pigeon n (l.erase (n : Int)) (hn.erase _) (fun x hx => by
        have h1 := h x (List.mem_of_mem_erase hx)
        have h2 : x ≠ (n : Int) := fun e => hn.not_mem_erase (e ▸ hx)
        omega)
      rw [List.length_erase_of_mem hm] at ih
      omega
    · have ih := pigeon n l hn (fun x hx => by
        have h1 := h x hx
        have h2 : x ≠ (n : Int) := fun e => hm (e ▸ hx)
        omega)
      omega
theorem okB_len (b : List Int) (h : okB b = true) : b.length ≤ 5 := pigeon 5 b (okB_nodup b h).1 (okB_nodup b h).2

def parseZ (s : ByteArray) : List Int := s.data.toList.map (fun c => (c.toNat : Int) - 97)
theorem parseZ_len (s : ByteArray) : (parseZ s).length = s.size := by simp [parseZ]
theorem parseZ_snoc (s : ByteArray) (k : Nat) (h : k < s.size) : (parseZ s).take (k + 1) = (parseZ s).take k ++ [(s[k].toNat : Int) - 97] := by
  have hl : k < (parseZ s).length := by rw [parseZ_len]; exact h
  rw [List.take_succ_eq_append_getElem hl]
  congr 2
  simp [parseZ]
  rfl
def okP (s : ByteArray) : Bool := okB (parseZ s)
def zsP (s : ByteArray) : List Int := if okP s then parseZ s else []
theorem zsP_yes {s : ByteArray} (h : okP s = true) : zsP s = parseZ s := if_pos h
theorem zsP_no {s : ByteArray} (h : okP s = false) : zsP s = [] := if_neg (by rw [h]; exact Bool.false_ne_true)
theorem okP_long {s : ByteArray} (h : 5 < s.size) : okP s = false := by
  cases hb : okP s with
  | false => rfl
  | true =>
    have := okB_len _ hb
    rw [parseZ_len] at this
    omega

def Says (w : World) (b : Bool) (e : Ending) (w' : World) : Prop := e = .returned (.bool b) ∧ Below w.heap.size w w'

set_option maxHeartbeats 1000000 in
theorem l1Has_any (A : Option Addr) (n c : Nat) (zs : List Int) (x : Int) (w : World) (hn : zs.length = n) (hm : n ≤ 1048576) (ha : Row w w.heap.size A (zs.map (Value.int .i64))) :
    Calls Try.prog 80 #[.slice A n c, .int .i64 x] w fun e w' => e = .returned (.bool (hasB zs x)) ∧ w = w' := by
  have HN := Lib.hid hn
  clear hn
  go_enter Try.func80, Try.ntmps80
  go_wp2
  go_loop [5] (fun i => ∃ k : Nat, k ≤ n ∧ i = .int .i64 k ∧ Hid (x ∉ zs.take k)) (fun i => n - (intOf i).toNat)
  case atStart => exact ⟨0, Nat.zero_le _, rfl, by simp [Hid]⟩
  case round =>
    obtain ⟨k, hk, rfl, HX⟩ := hrel
    by_cases hlt : k < n
    · have hl : k < zs.length := by rw [HN.out]; exact hlt
      obtain ⟨b, off, rfl, hbw, hc⟩ := int_at ha hl
      clear ha
      by_cases hx : zs[k] = x
      · have HQ : Hid (hasB zs x = true) := (hasB_iff zs x).2 (hx ▸ List.getElem_mem hl)
        rw [hx] at hc
        clear hx
        go_wp2
        go_ret
        exact ⟨ret_bool HQ.out.symm, rfl⟩
      · have q1 : (zs[k] == x) = false := by simpa using hx
        have HQ := Lib.hid hx
        clear hx
        go_wp2
        go_round
        case rel =>
          refine ⟨k + 1, by omega, by go_num, ?_⟩
          show x ∉ zs.take (k + 1)
          rw [List.take_succ_eq_append_getElem hl]
          simp only [List.mem_append, List.mem_singleton, not_or]
          exact ⟨HX.out, fun e => HQ.out e.symm⟩
        case measure => simp [intOf]; omega
    · have HQ : Hid (hasB zs x = false) := by
        have := HX.out
        rw [List.take_of_length_le (by rw [HN.out]; omega)] at this
        exact hasB_no this
      go_wp2
      go_ret
      exact ⟨ret_bool HQ.out.symm, rfl⟩

set_option maxHeartbeats 1000000 in
theorem Index_any (A : Option Addr) (n c : Nat) (zs : List Int) (x : Int) (w : World) (hn : zs.length = n) (hm : n ≤ 1048576) (ha : Row w w.heap.size A (zs.map (Value.int .i64))) :
    Calls Try.prog 81 #[.slice A n c, .int .i64 x] w fun e w' => (∃ j : Int, e = .returned (.int .i64 j) ∧ -1 ≤ j ∧ j ≤ 1048576 ∧ hasB zs x = decide (0 ≤ j)) ∧ w = w' := by
  have HN := Lib.hid hn
  clear hn
  go_enter Try.func81, Try.ntmps81
  go_wp2
  go_loop [8] (fun i => ∃ k : Nat, k ≤ n ∧ i = .int .i64 k ∧ Hid (x ∉ zs.take k)) (fun i => n - (intOf i).toNat)
  case atStart => exact ⟨0, Nat.zero_le _, rfl, by simp [Hid]⟩
  case round =>
    obtain ⟨k, hk, rfl, HX⟩ := hrel
    by_cases hlt : k < n
    · have hl : k < zs.length := by rw [HN.out]; exact hlt
      obtain ⟨b, off, rfl, hbw, hc⟩ := int_at ha hl
      clear ha
      by_cases hx : zs[k] = x
      · have HQ : Hid (hasB zs x = true) := (hasB_iff zs x).2 (hx ▸ List.getElem_mem hl)
        rw [hx] at hc
        clear hx
        go_wp2
        go_ret
        exact ⟨⟨k, rfl, by omega, by omega, by rw [HQ.out]; simp⟩, rfl⟩
      · have q1 : (x == zs[k]) = false := by simpa using fun e => hx e.symm
        have HQ := Lib.hid hx
        clear hx
        go_wp2
        go_round
        case rel =>
          refine ⟨k + 1, by omega, by go_num, ?_⟩
          show x ∉ zs.take (k + 1)
          rw [List.take_succ_eq_append_getElem hl]
          simp only [List.mem_append, List.mem_singleton, not_or]
          exact ⟨HX.out, fun e => HQ.out e.symm⟩
        case measure => simp [intOf]; omega
    · have HQ : Hid (hasB zs x = false) := by
        have := HX.out
        rw [List.take_of_length_le (by rw [HN.out]; omega)] at this
        exact hasB_no this
      go_wp2
      go_ret
      exact ⟨⟨-1, rfl, by omega, by omega, by rw [HQ.out]; rfl⟩, rfl⟩
theorem Contains_any (A : Option Addr) (n c : Nat) (zs : List Int) (x : Int) (w : World) (hn : zs.length = n) (hm : n ≤ 1048576) (ha : Row w w.heap.size A (zs.map (Value.int .i64))) :
    Calls Try.prog 74 #[.slice A n c, .int .i64 x] w fun e w' => e = .returned (.bool (hasB zs x)) ∧ w = w' := by
  have HN := Lib.hid hn
  clear hn
  go_enter Try.func74, Try.ntmps74
  go_wp2_with fail
  refine (Index_any _ _ _ zs _ _ HN.out hm ha).mono ?_
  rintro e w' ⟨⟨j, rfl, j0, j1, hj⟩, rfl⟩
  have HJ := Lib.hid hj
  clear hj ha
  go_wp2_with fail
  go_ret
  exact ⟨ret_bool HJ.out.symm, rfl⟩

theorem isMany_five (w : World) : Calls Try.prog 73 #[.int .i64 5] w fun e w' => e = .returned (.bool true) ∧ w = w' := by
  go_enter Try.func73, Try.ntmps73
  go_wp2
  go_ret
  exact ⟨rfl, rfl⟩

theorem Row.takeI {w : World} {B : Nat} {A : Option Addr} {zs : List Int} (h : Row w B A (zs.map (Value.int .i64))) (k : Nat) : Row w B A ((zs.take k).map (Value.int .i64)) := by
  rw [List.map_take]
  exact h.take k

set_option maxHeartbeats 1000000 in
theorem BallotValid_any (A : Option Addr) (n c : Nat) (zs : List Int) (w : World) (hn : zs.length = n) (hm : n ≤ 1048576) (hc : n ≤ c) (hcm : c ≤ maxLen) (ha : Row w w.heap.size A (zs.map (Value.int .i64))) :
    Calls Try.prog 61 #[.slice A n c, .int .i64 5] w fun e w' => e = .returned (.bool (okB zs)) ∧ w = w' := by
  have HN := Lib.hid hn
  clear hn
  unfold maxLen at hcm
  go_enter Try.func61, Try.ntmps61
  go_wp2_with fail
  refine (isMany_five _).mono ?_
  rintro e w' ⟨rfl, rfl⟩
  go_wp2_with fail
  go_loop [12] (fun i => ∃ k : Nat, k ≤ n ∧ i = .int .i64 k ∧ Hid (∀ j, j < k → (h : j < zs.length) → 0 ≤ zs[j] ∧ zs[j] < 5 ∧ zs[j] ∉ zs.take j)) (fun i => n - (intOf i).toNat)
  case atStart => exact ⟨0, Nat.zero_le _, rfl, fun j hj => absurd hj (by omega)⟩
  case round =>
    obtain ⟨k, hk, rfl, HX⟩ := hrel
    by_cases hlt : k < n
    · have hl : k < zs.length := by rw [HN.out]; exact hlt
      have hr1 := ha.takeI k
      have HL : Hid ((zs.take k).length = k) := by
        show _ = _
        rw [List.length_take]
        omega
      have HB := Lib.hid (okB_bad hl)
      have HS : Hid (0 ≤ zs[k] → zs[k] < 5 → zs[k] ∉ zs.take k → ∀ j, j < k + 1 → (h : j < zs.length) → 0 ≤ zs[j] ∧ zs[j] < 5 ∧ zs[j] ∉ zs.take j) := fun h1 h2 h3 j hj h => by
        by_cases e : j = k
        · subst e
          exact ⟨h1, h2, h3⟩
        · exact HX.out j (by omega) h
      have HM : Hid (hasB (zs.take k) zs[k] = true ↔ zs[k] ∈ zs.take k) := hasB_iff _ _
      obtain ⟨b, off, rfl, hbw, hcell⟩ := int_at ha hl
      clear ha
      generalize zs[k] = z at *
      by_cases h1 : z < 0
      · have HQ : Hid (okB zs = false) := HB.out (by omega)
        go_wp2_with fail
        go_ret
        exact ⟨ret_bool HQ.out.symm, rfl⟩
      by_cases h2 : 5 ≤ z
      · have HQ : Hid (okB zs = false) := HB.out (by omega)
        go_wp2_with fail
        go_ret
        exact ⟨ret_bool HQ.out.symm, rfl⟩
      · go_wp2_with fail
        refine (Contains_any _ _ _ (zs.take k) _ _ HL.out (by omega) hr1).mono ?_
        rintro e w' ⟨rfl, rfl⟩
        cases hh : hasB (zs.take k) z with
        | true =>
          have HQ : Hid (okB zs = false) := HB.out (fun h => h.2.2 (HM.out.1 hh))
          clear hr1 hh
          go_wp2_with fail
          go_ret
          exact ⟨ret_bool HQ.out.symm, rfl⟩
        | false =>
          have HQ := Lib.hid (HS.out (by omega) (by omega) (fun hm => by rw [HM.out.2 hm] at hh; cases hh))
          clear hr1 hh
          go_wp2_with fail
          go_round
          case rel => exact ⟨k + 1, by omega, by go_num, HQ⟩
          case measure => simp [intOf]; omega
    · have HQ : Hid (okB zs = true) := (okB_iff zs).2 fun i hi => HX.out i (by have := HN.out; omega) hi
      go_wp2_with fail
      go_ret
      exact ⟨ret_bool HQ.out.symm, rfl⟩

theorem quiet_left {P : Program} {f : FuncId} {args : Array Value} {w : World} {n : Nat} {v : Value}
    (h : Calls P f args (w.drewN n) fun e w' => e = .returned v ∧ w.drewN n = w') : Calls P f args (w.drewN n) fun e w'' => e = .returned v ∧ ∃ m, w'' = w.drewN m :=
  h.mono fun _ _ ⟨he, hm⟩ => ⟨he, n, hm.symm⟩

set_option maxHeartbeats 1000000 in
theorem sBallotValid_any (A : Option Addr) (n c : Nat) (zs : List Int) (w : World) (hn : zs.length = n) (hm : n ≤ 1048576) (hc : n ≤ c) (hcm : c ≤ maxLen) (ha : Row w w.heap.size A (zs.map (Value.int .i64))) :
    Calls Try.prog 71 #[.slice A n c, .int .i64 5] w (Says w (okB zs)) := by
  have HN := Lib.hid hn
  clear hn
  unfold maxLen at hcm
  go_enter Try.func71, Try.ntmps71
  go_wp2_with fail
  go_loopw [5] (fun i wx => ∃ k : Nat, k ≤ n ∧ i = .int .i64 k ∧ Below w.heap.size w wx ∧ Hid (∀ j, j < k → (h : j < zs.length) → 0 ≤ zs[j] ∧ zs[j] < 5 ∧ zs[j] ∉ zs.take j)) (fun i _ => n - (intOf i).toNat)
  case atStart => exact ⟨0, Nat.zero_le _, rfl, Below.refl _ _, fun j hj => absurd hj (by omega)⟩
  case round =>
    obtain ⟨k, hk, rfl, hbel, HX⟩ := hrel
    have ha' := (ha.below hbel).more hbel.size
    clear ha
    by_cases hlt : k < n
    · have hl : k < zs.length := by rw [HN.out]; exact hlt
      have hr1 := ha'.takeI k
      have HL : Hid ((zs.take k).length = k) := by
        show _ = _
        rw [List.length_take]
        omega
      have HB := Lib.hid (okB_bad hl)
      have HS : Hid (0 ≤ zs[k] → zs[k] < 5 → zs[k] ∉ zs.take k → ∀ j, j < k + 1 → (h : j < zs.length) → 0 ≤ zs[j] ∧ zs[j] < 5 ∧ zs[j] ∉ zs.take j) := fun h1 h2 h3 j hj h => by
        by_cases e : j = k
        · subst e
          exact ⟨h1, h2, h3⟩
        · exact HX.out j (by omega) h
      have HM : Hid (hasB (zs.take k) zs[k] = true ↔ zs[k] ∈ zs.take k) := hasB_iff _ _
      obtain ⟨b, off, rfl, hbw, hcell⟩ := int_at ha' hl
      clear ha'
      generalize zs[k] = z at *
      by_cases h1 : 0 ≤ z ∧ z ≤ 4
      · have d := inB_yes h1.1 h1.2
        cases hh : hasB (zs.take k) z with
        | true =>
          have HQ : Hid (okB zs = false) := HB.out (fun h => h.2.2 (HM.out.1 hh))
          clear h1
          go_wp2_with fail
          go_quiet ((first
            | (go_at_call 63; exact quiet_left (in_any _ _ _ _))
            | (go_at_call 80; exact quiet_left (l1Has_any _ _ _ (zs.take k) _ _ HL.out (by omega) hr1))))
          clear hr1 hh
          go_wp2_with fail
          go_ret
          exact ⟨ret_bool HQ.out.symm, below_drewN hbel _⟩
        | false =>
          have HQ := Lib.hid (HS.out (by omega) (by omega) (fun hm => by rw [HM.out.2 hm] at hh; cases hh))
          clear h1
          go_wp2_with fail
          go_quiet ((first
            | (go_at_call 63; exact quiet_left (in_any _ _ _ _))
            | (go_at_call 80; exact quiet_left (l1Has_any _ _ _ (zs.take k) _ _ HL.out (by omega) hr1))))
          clear hr1 hh
          go_wp2_with fail
          go_roundw
          case rel => exact ⟨k + 1, by omega, by go_num, below_drewN hbel _, HQ⟩
          case measure => simp [intOf]; omega
      · have d := inB_no (a := z) (lo := 0) (hi := 4) (by omega)
        have HQ : Hid (okB zs = false) := HB.out (by omega)
        clear h1
        go_wp2_with fail
        go_quiet ((go_at_call 63; exact quiet_left (in_any _ _ _ _)))
        go_wp2_with fail
        go_ret
        exact ⟨ret_bool HQ.out.symm, below_drewN hbel _⟩
    · have HQ : Hid (okB zs = true) := (okB_iff zs).2 fun i hi => HX.out i (by have := HN.out; omega) hi
      have d : inB 5 1 5 = true := rfl
      clear ha'
      go_wp2_with fail
      refine (in_any _ _ _ _).mono ?_
      rintro e w' ⟨rfl, rfl⟩
      go_wp2_with fail
      go_ret
      exact ⟨ret_bool HQ.out.symm, hbel⟩

/-- What BallotParse gives: a slice that reads as the ballot, or as nothing. -/
def Parsed (w : World) (s : ByteArray) (e : Ending) (w' : World) : Prop :=
  ∃ (A : Option Addr) (n c : Nat), e = .returned (.tuple #[.slice A n c, .bool (okP s)]) ∧ (zsP s).length = n ∧ n ≤ 5 ∧ n ≤ c ∧ c ≤ maxLen ∧ Row w' w'.heap.size A ((zsP s).map (Value.int .i64)) ∧ Below w.heap.size w w'
theorem ret_sb {A : Option Addr} {n c : Nat} {a b : Bool} (h : a = b) : Ending.returned (.tuple #[.slice A n c, .bool a]) = .returned (.tuple #[.slice A n c, .bool b]) := by rw [h]

set_option maxRecDepth 100000 in
set_option maxHeartbeats 1000000 in
theorem BallotParse_any (s : ByteArray) (w : World) (hs : s.size ≤ 1048576) :
    Calls Try.prog 37 #[.string s] w (Parsed w s) := by
  obtain ⟨i0, hi0, hz0, hz1, hz2⟩ := info_parts info_int
  have HI := Lib.hid hi0
  have HZ0 := Lib.hid hz0
  have HZ1 := Lib.hid hz1
  have HZ2 := Lib.hid hz2
  clear hi0 hz0 hz1 hz2
  go_enter Try.func37, Try.ntmps37
  go_wp2_with fail
  go_loopw [4, 8] (fun v i wx => ∃ k : Nat, k ≤ s.size ∧ k ≤ 5 ∧ i = .int .i64 k ∧ Below w.heap.size w wx ∧ wx.ownsRow w.heap.size 3 1 v k (((parseZ s).take k).map (Value.int .i64))) (fun _ i _ => s.size - (intOf i).toNat)
  case atStart => exact ⟨0, Nat.zero_le _, by omega, rfl, Below.refl _ _, own_nil _ _ _ _⟩
  case round =>
    obtain ⟨k, hk, hk5, rfl, hbel, hown⟩ := hrel
    have hbs := hbel.size
    by_cases hlt : k < s.size
    · have HS := Lib.hid (parseZ_snoc s k hlt)
      have hbyte : 0 ≤ (s[k].toNat : Int) ∧ (s[k].toNat : Int) ≤ 255 := by
        have := s[k].toNat_lt
        omega
      by_cases h5 : k = 5
      · have HQ : Hid (okP s = false) := okP_long (by omega)
        have hk5' : (5 : Int) ≤ (k : Int) := by omega
        clear h5
        go_wp2_with (at_builtin; refine wpList_append_own_at _ rfl (.tmp 11) (.tmp 17) _ rfl w.heap.size 3 i0 _ 1 8 Try.underlying43 HI.out HZ0.out HZ1.out HZ2.out rfl (by omega) u4 _ _ rfl (own_alloc hown _) ⟨wr.heap.size, 0, none⟩ 1 1 [.int .i64 ((s[k].toNat : Int) - 97)] rfl rfl (cell_one_new _ _ _) (by intro u hu; simp at hu; subst hu; rfl) (by unfold maxLen; omega) (by omega) (by simp; omega) ?_; intro v' w6 hown6 hgrow6 hnil6 hat6; clear hnil6 hat6)
        have HG := Lib.hid hgrow6
        have HO := Lib.hid hown
        clear hgrow6
        go_ret2
        refine ⟨none, 0, 0, ret_sb HQ.out.symm, by rw [zsP_no HQ.out]; rfl, by omega, Nat.le_refl _, by unfold maxLen; omega, .inl (by rw [zsP_no HQ.out]; rfl), ?_⟩
        exact (hbel.alloc hbs _).grown HG.out (by simp; omega) (fun x hx => (own_block HO.out x hx).1)
      · have hk5' : (k : Int) < 5 := by omega
        clear h5
        go_wp2_with (at_builtin; refine wpList_append_own_at _ rfl (.tmp 11) (.tmp 17) _ rfl w.heap.size 3 i0 _ 1 8 Try.underlying43 HI.out HZ0.out HZ1.out HZ2.out rfl (by omega) u4 _ _ rfl (own_alloc hown _) ⟨wr.heap.size, 0, none⟩ 1 1 [.int .i64 ((s[k].toNat : Int) - 97)] rfl rfl (cell_one_new _ _ _) (by intro u hu; simp at hu; subst hu; rfl) (by unfold maxLen; omega) (by omega) (by simp; omega) ?_; intro v' w6 hown6 hgrow6 hnil6 hat6; clear hnil6 hat6)
        go_roundw
        case rel =>
          refine ⟨k + 1, by omega, by omega, by go_num, (hbel.alloc hbs _).grown hgrow6 (by simp; omega) (fun x hx => (own_block hown x hx).1), ?_⟩
          rw [HS.out, List.map_append]
          exact hown6
        case measure => simp [intOf]; omega
    · have HE : Hid ((parseZ s).take k = parseZ s) := by
        show _ = _
        exact List.take_of_length_le (by rw [parseZ_len]; omega)
      rw [HE.out] at hown
      obtain ⟨A', c', rfl, hc1, hc2, hlen', hrow'⟩ := own_slice hown
      rw [List.length_map] at hlen'
      have HL := Lib.hid hlen'
      clear hlen' hown
      go_wp2_with fail
      refine (BallotValid_any _ _ _ (parseZ s) _ HL.out (by omega) hc1 hc2 hrow').mono ?_
      rintro e w' ⟨rfl, rfl⟩
      cases hq : okB (parseZ s) with
      | true =>
        have HQ : Hid (okP s = true) := hq
        clear hq
        go_wp2_with fail
        go_ret2
        exact ⟨A', k, c', ret_sb HQ.out.symm, by rw [zsP_yes HQ.out]; exact HL.out, hk5, hc1, hc2, by rw [zsP_yes HQ.out]; exact hrow', hbel⟩
      | false =>
        have HQ : Hid (okP s = false) := hq
        clear hq
        go_wp2_with fail
        go_ret2
        exact ⟨none, 0, 0, ret_sb HQ.out.symm, by rw [zsP_no HQ.out]; rfl, by omega, Nat.le_refl _, by unfold maxLen; omega, .inl (by rw [zsP_no HQ.out]; rfl), hbel⟩

set_option maxRecDepth 100000 in
set_option maxHeartbeats 1000000 in
theorem sBallotParse_any (s : ByteArray) (w : World) (hs : s.size ≤ 1048576) :
    Calls Try.prog 53 #[.string s] w (Parsed w s) := by
  obtain ⟨i0, hi0, hz0, hz1, hz2⟩ := info_parts info_int
  have HI := Lib.hid hi0
  have HZ0 := Lib.hid hz0
  have HZ1 := Lib.hid hz1
  have HZ2 := Lib.hid hz2
  clear hi0 hz0 hz1 hz2
  go_enter Try.func53, Try.ntmps53
  go_wp2_with fail
  go_loopw [4, 5] (fun v i wx => ∃ k : Nat, k ≤ s.size ∧ i = .int .i64 k ∧ Below w.heap.size w wx ∧ wx.ownsRow w.heap.size 3 1 v k (((parseZ s).take k).map (Value.int .i64))) (fun _ i _ => s.size - (intOf i).toNat)
  case atStart => exact ⟨0, Nat.zero_le _, rfl, (Below.refl _ _).alloc (Nat.le_refl _) _, own_empty _ _ _ _ (Nat.le_refl _)⟩
  case round =>
    obtain ⟨k, hk, rfl, hbel, hown⟩ := hrel
    have hbs := hbel.size
    by_cases hlt : k < s.size
    · have HS := Lib.hid (parseZ_snoc s k hlt)
      have hbyte : 0 ≤ (s[k].toNat : Int) ∧ (s[k].toNat : Int) ≤ 255 := by
        have := s[k].toNat_lt
        omega
      go_wp2_with (at_builtin; refine wpList_append_own_at _ rfl (.tmp 13) (.tmp 19) _ rfl w.heap.size 3 i0 _ 1 8 Try.underlying43 HI.out HZ0.out HZ1.out HZ2.out rfl (by omega) u4 _ _ rfl (own_alloc hown _) ⟨wr.heap.size, 0, none⟩ 1 1 [.int .i64 ((s[k].toNat : Int) - 97)] rfl rfl (cell_one_new _ _ _) (by intro u hu; simp at hu; subst hu; rfl) (by unfold maxLen; omega) (by omega) (by simp; omega) ?_; intro v' w6 hown6 hgrow6 hnil6 hat6; clear hnil6 hat6)
      go_roundw
      case rel =>
        refine ⟨k + 1, by omega, by go_num, (hbel.alloc hbs _).grown hgrow6 (by simp; omega) (fun x hx => (own_block hown x hx).1), ?_⟩
        rw [HS.out, List.map_append]
        exact hown6
      case measure => simp [intOf]; omega
    · have HE : Hid ((parseZ s).take k = parseZ s) := by
        show _ = _
        exact List.take_of_length_le (by rw [parseZ_len]; omega)
      rw [HE.out] at hown
      obtain ⟨A', c', rfl, hc1, hc2, hlen', hrow'⟩ := own_slice hown
      rw [List.length_map] at hlen'
      have HL := Lib.hid hlen'
      clear hlen' hown
      go_wp2_with fail
      refine (sBallotValid_any _ _ _ (parseZ s) _ HL.out (by omega) hc1 hc2 hrow').mono ?_
      rintro e w' ⟨rfl, hb'⟩
      have hrow2 := (hrow'.below hb').more hb'.size
      have hbel2 := hbel.trans (hb'.mono hbs)
      cases hq : okB (parseZ s) with
      | true =>
        have HQ : Hid (okP s = true) := hq
        have hk5 : k ≤ 5 := by have := okB_len _ hq; rw [HL.out] at this; exact this
        clear hq
        go_wp2_with fail
        go_ret2
        exact ⟨A', k, c', ret_sb HQ.out.symm, by rw [zsP_yes HQ.out]; exact HL.out, hk5, hc1, hc2, by rw [zsP_yes HQ.out]; exact hrow2, hbel2⟩
      | false =>
        have HQ : Hid (okP s = false) := hq
        clear hq
        go_wp2_with fail
        go_ret2
        exact ⟨_, 0, 0, ret_sb HQ.out.symm, by rw [zsP_no HQ.out]; rfl, by omega, Nat.le_refl _, by unfold maxLen; omega, .inl (by rw [zsP_no HQ.out]; rfl), hbel2.alloc hbel2.size _⟩

end Go.Proofs.Ytkpgbombikgffaa
