/- What the laws' helpers on rows of ints do: eqIntS, sameInts, hasInt, markIntS, heldIntS. The conditions stand in each theorem. -/
import Derived.Test.YtjanmgiliooocaaBase
import Derived.Test.YtjanmgiliooocaaMem
namespace Go.Proofs.Ytjanmgiliooocaa
open Go.RowKit Go.ChangeShapes
set_option linter.unusedVariables false

theorem info_int : (Try.prog.info? 3).map (fun i => (i.zero, i.size, i.bytes)) = some (some (.int .i64 0), 1, 8) := by kernel_rfl
theorem int_at {w : World} {B : Nat} {A : Option Addr} {zs : List Int} (h : Row w B A (zs.map (Value.int .i64))) {k : Nat} (hk : k < zs.length) : ∃ b off, A = some ⟨b, off, none⟩ ∧ b < B ∧ w.cell? ⟨b, off + k, none⟩ = some (.int .i64 zs[k]) := by
  obtain ⟨b, off, e, hb, hc⟩ := h.at_ (k := k) (by simpa using hk)
  exact ⟨b, off, e, hb, by simpa using hc⟩
def Same (w : World) (e : Ending) (w' : World) : Prop := e = .returned (.bool true) ∧ Below w.heap.size w w'

set_option maxHeartbeats 1000000 in
theorem eqIntS_same (A B : Option Addr) (n c d : Nat) (zs : List Int) (w : World) (hn : zs.length = n) (hm : n ≤ 1048576) (ha : Row w w.heap.size A (zs.map (Value.int .i64))) (hb : Row w w.heap.size B (zs.map (Value.int .i64))) :
    Calls Try.prog 17 #[.slice A n c, .slice B n d] w (Same w) := by
  have HN := Lib.hid hn
  clear hn
  go_enter Try.func17, Try.ntmps17
  go_wp2
  go_loopw [5] (fun i wx => ∃ k : Nat, k ≤ n ∧ i = .int .i64 k ∧ Below w.heap.size w wx) (fun i _ => n - (intOf i).toNat)
  case atStart => exact ⟨0, Nat.zero_le _, rfl, Below.refl _ _⟩
  case round =>
    obtain ⟨k, hk, rfl, hbel⟩ := hrel
    by_cases hlt : k < n
    · obtain ⟨b, off, rfl, hbw, hc⟩ := int_at (ha.below hbel) (k := k) (by rw [HN.out]; exact hlt)
      obtain ⟨b', off', rfl, hbw', hc'⟩ := int_at (hb.below hbel) (k := k) (by rw [HN.out]; exact hlt)
      clear ha hb
      go_wp2
      go_quiet (fail)
      go_wp2
      go_roundw
      case rel => exact ⟨k + 1, by omega, by go_num, below_drewN hbel _⟩
      case measure => simp [intOf]; omega
    · go_wp2
      go_ret
      exact ⟨rfl, hbel⟩

set_option maxHeartbeats 1000000 in
theorem sameInts_same (A B : Option Addr) (n c d : Nat) (zs : List Int) (w : World) (hn : zs.length = n) (hm : n ≤ 1048576) (ha : Row w w.heap.size A (zs.map (Value.int .i64))) (hb : Row w w.heap.size B (zs.map (Value.int .i64))) :
    Calls Try.prog 10 #[.slice A n c, .slice B n d] w (Same w) := by
  have HN := Lib.hid hn
  clear hn
  go_enter Try.func10, Try.ntmps10
  go_wp2
  go_loopw [5] (fun i wx => ∃ k : Nat, k ≤ n ∧ i = .int .i64 k ∧ Below w.heap.size w wx) (fun i _ => n - (intOf i).toNat)
  case atStart => exact ⟨0, Nat.zero_le _, rfl, Below.refl _ _⟩
  case round =>
    obtain ⟨k, hk, rfl, hbel⟩ := hrel
    by_cases hlt : k < n
    · obtain ⟨b, off, rfl, hbw, hc⟩ := int_at (ha.below hbel) (k := k) (by rw [HN.out]; exact hlt)
      obtain ⟨b', off', rfl, hbw', hc'⟩ := int_at (hb.below hbel) (k := k) (by rw [HN.out]; exact hlt)
      clear ha hb
      go_wp2
      go_quiet (fail)
      go_wp2
      go_roundw
      case rel => exact ⟨k + 1, by omega, by go_num, below_drewN hbel _⟩
      case measure => simp [intOf]; omega
    · go_wp2
      go_ret
      exact ⟨rfl, hbel⟩

def hasB (zs : List Int) (x : Int) : Bool := zs.any (fun z => z == x)
theorem hasB_iff (zs : List Int) (x : Int) : hasB zs x = true ↔ x ∈ zs := by
  unfold hasB
  rw [List.any_eq_true]
  constructor
  · rintro ⟨z, hz, e⟩
    have : z = x := by simpa using e
    exact this ▸ hz
  · intro h
    exact ⟨x, h, by simp⟩
theorem hasB_no {zs : List Int} {x : Int} (h : x ∉ zs) : hasB zs x = false := by
  cases hb : hasB zs x with
  | false => rfl
  | true => exact absurd ((hasB_iff zs x).1 hb) h

set_option maxHeartbeats 1000000 in
theorem hasInt_any (A : Option Addr) (n c : Nat) (zs : List Int) (x : Int) (w : World) (hn : zs.length = n) (hm : n ≤ 1048576) (ha : Row w w.heap.size A (zs.map (Value.int .i64))) :
    Calls Try.prog 21 #[.slice A n c, .int .i64 x] w fun e w' => e = .returned (.bool (hasB zs x)) ∧ w = w' := by
  have HN := Lib.hid hn
  clear hn
  go_enter Try.func21, Try.ntmps21
  go_wp2
  go_loop [5] (fun i => ∃ k : Nat, k ≤ n ∧ i = .int .i64 k ∧ Hid (x ∉ zs.take k)) (fun i => n - (intOf i).toNat)
  case atStart => exact ⟨0, Nat.zero_le _, rfl, by simp [Hid]⟩
  case round =>
    obtain ⟨k, hk, rfl, HX⟩ := hrel
    by_cases hlt : k < n
    · have hl : k < zs.length := by rw [HN.out]; exact hlt
      obtain ⟨b, off, rfl, hbw, hc⟩ := int_at ha hl
      clear ha
      by_cases hx : zs[k] = x
      · have HQ : Hid (hasB zs x = true) := (hasB_iff zs x).2 (hx ▸ List.getElem_mem hl)
        rw [hx] at hc
        clear hx
        go_wp2
        go_ret
        exact ⟨ret_bool HQ.out.symm, rfl⟩
      · have q1 : (zs[k] == x) = false := by simpa using hx
        have HQ := Lib.hid hx
        clear hx
        go_wp2
        go_round
        case rel =>
          refine ⟨k + 1, by omega, by go_num, ?_⟩
          show x ∉ zs.take (k + 1)
          rw [List.take_succ_eq_append_getElem hl]
          simp only [List.mem_append, List.mem_singleton, not_or]
          exact ⟨HX.out, fun e => HQ.out e.symm⟩
        case measure => simp [intOf]; omega
    · have HQ : Hid (hasB zs x = false) := by
        have := HX.out
        rw [List.take_of_length_le (by rw [HN.out]; omega)] at this
        exact hasB_no this
      go_wp2
      go_ret
      exact ⟨ret_bool HQ.out.symm, rfl⟩

/-- The n cells from A on may be written. -/
def Wr (w : World) (A : Option Addr) (n : Nat) : Prop := n = 0 ∨ ∃ g off, A = some ⟨g, off, none⟩ ∧ g < w.heap.size ∧ ∀ j, j < n → (∃ u, w.cell? ⟨g, off + j, none⟩ = some u) ∧ w.frozen? ⟨g, off + j, none⟩ = false
theorem own_wr {w : World} {base : Nat} {e : TypeId} {A : Option Addr} {n c : Nat} {xs : List Value} (h : w.ownsRow base e 1 (.slice A n c) n xs) : Wr w A n := by
  rcases h.2 with ⟨h0, rfl⟩ | ⟨g, cap, cur, hv, hb, hh, h1, h2, h3, h4⟩
  · exact .inl rfl
  · injection hv with hA hn hc
    subst hA hc
    refine .inr ⟨g, 0, rfl, (own_block (h := h) g (by simp [Value.ownBlock])).2, fun j hj => ⟨?_, ?_⟩⟩
    · rw [Nat.zero_add, h.cellAt j (by omega)]
      have hl := h.1
      exact ⟨_, List.getElem?_eq_getElem (by omega)⟩
    · rw [Nat.zero_add]
      exact h.frozenAt j
def onBlock (A : Option Addr) : Option Nat := A.map (·.block)
/-- The cells hold k, k + 1, .. -/
def marks (n : Nat) (k : Int) : List Int := (List.range n).map (fun i : Nat => k + (i : Int))
theorem marks_len (n : Nat) (k : Int) : (marks n k).length = n := by simp [marks]
def Marked (w : World) (A : Option Addr) (n : Nat) (k : Int) (e : Ending) (w' : World) : Prop :=
  e = .returned (.int .i64 (k + n)) ∧ w.grownBy w' (onBlock A) ∧ Row w' w'.heap.size A ((marks n k).map (Value.int .i64))
theorem only_set {a w : World} {g : Nat} (h : a.grownBy w (some g)) (i : Nat) (u : Value) : a.grownBy (w.setCell ⟨g, i, none⟩ u) (some g) :=
  ⟨h.os, h.tape, h.output, by simpa [World.setCell] using h.size, fun k hk hne => (Below.heap_setCell w ⟨g, i, none⟩ u k (fun e => hne (by rw [e]))).trans (h.block k hk hne)⟩

set_option maxHeartbeats 1000000 in
theorem markIntS_any (A : Option Addr) (n c : Nat) (k : Int) (w : World) (hm : n ≤ 1048576) (hk0 : 0 ≤ k) (hk1 : k ≤ 1048576) (hw : Wr w A n) :
    Calls Try.prog 18 #[.slice A n c, .int .i64 k] w (Marked w A n k) := by
  rcases hw with rfl | ⟨g, off, rfl, hg, hw⟩
  · go_enter Try.func18, Try.ntmps18
    go_wp2
    go_loop [1, 5] (fun s i => s = .int .i64 k ∧ i = .int .i64 0) (fun _ _ => 0)
    case atStart => exact ⟨rfl, rfl⟩
    case round =>
      obtain ⟨rfl, rfl⟩ := hrel
      go_wp2
      go_ret
      exact ⟨ret_int (by simp), World.grownBy.refl w _, .inl (by simp [marks])⟩
  · have HW := Lib.hid hw
    clear hw
    go_enter Try.func18, Try.ntmps18
    go_wp2
    go_loopw [1, 5] (fun s i wx => ∃ j : Nat, j ≤ n ∧ i = .int .i64 j ∧ s = .int .i64 (k + (j : Int)) ∧ w.grownBy wx (some g) ∧ Hid (∀ t, t < n → (∃ u, wx.cell? ⟨g, off + t, none⟩ = some u) ∧ wx.frozen? ⟨g, off + t, none⟩ = false) ∧ Hid (∀ t, t < j → wx.cell? ⟨g, off + t, none⟩ = some (.int .i64 (k + (t : Int))))) (fun _ i _ => n - (intOf i).toNat)
    case atStart => exact ⟨0, Nat.zero_le _, rfl, by simp, World.grownBy.refl w _, HW, fun t ht => absurd ht (by omega)⟩
    case round =>
      obtain ⟨j, hj, rfl, rfl, hgr, HC, HV⟩ := hrel
      by_cases hlt : j < n
      · obtain ⟨⟨u, hu⟩, hf⟩ := HC.out j hlt
        go_wp2
        go_roundw
        case rel =>
          refine ⟨j + 1, by omega, by go_num, by go_num, only_set hgr _ _, fun t ht => ?_, fun t ht => ?_⟩
          · obtain ⟨⟨u', hu'⟩, hf'⟩ := HC.out t ht
            refine ⟨?_, ?_⟩
            · by_cases e : t = j
              · subst e
                exact ⟨_, World.cell?_setCell_same _ _ _ hu⟩
              · exact ⟨u', (World.cell?_setCell_other _ _ _ _ (fun e' => e (by injection e' with _ e2 _; omega))).trans hu'⟩
            · rw [World.frozen?_setCell]
              exact hf'
          · by_cases e : t = j
            · subst e
              exact World.cell?_setCell_same _ _ _ hu
            · exact (World.cell?_setCell_other _ _ _ _ (fun e' => e (by injection e' with _ e2 _; omega))).trans (HV.out t (by omega))
        case measure => simp [intOf]; omega
      · obtain rfl : j = n := by omega
        go_wp2
        go_ret
        refine ⟨rfl, hgr, .inr ⟨g, off, rfl, by have := hgr.size; omega, fun t u hu => ?_⟩⟩
        have ht : t < j := by
          have := (List.getElem?_eq_some_iff.1 hu).1
          simpa [marks] using this
        simp [marks, List.getElem?_range ht] at hu
        rw [HV.out t ht, hu]

set_option maxHeartbeats 1000000 in
theorem heldIntS_any (A : Option Addr) (n c : Nat) (k : Int) (w : World) (hm : n ≤ 1048576) (hk0 : 0 ≤ k) (hk1 : k ≤ 1048576) (ha : Row w w.heap.size A ((marks n k).map (Value.int .i64))) :
    Calls Try.prog 19 #[.slice A n c, .int .i64 k] w fun e w' => e = .returned (.int .i64 (k + n)) ∧ w = w' := by
  go_enter Try.func19, Try.ntmps19
  go_wp2
  go_loop [1, 5] (fun s i => ∃ j : Nat, j ≤ n ∧ i = .int .i64 j ∧ s = .int .i64 (k + (j : Int))) (fun _ i => n - (intOf i).toNat)
  case atStart => exact ⟨0, Nat.zero_le _, rfl, by simp⟩
  case round =>
    obtain ⟨j, hj, rfl, rfl⟩ := hrel
    by_cases hlt : j < n
    · obtain ⟨b, off, rfl, hbw, hc⟩ := int_at ha (k := j) (by rw [marks_len]; exact hlt)
      have hv : (marks n k)[j]'(by rw [marks_len]; exact hlt) = k + (j : Int) := by simp [marks]
      rw [hv] at hc
      clear ha hv
      go_wp2
      go_round
      case rel => exact ⟨j + 1, by omega, by go_num, by go_num⟩
      case measure => simp [intOf]; omega
    · obtain rfl : j = n := by omega
      go_wp2
      go_ret
      exact ⟨rfl, rfl⟩

end Go.Proofs.Ytjanmgiliooocaa
