/- Ledgers: what LedgerCount of the program and of the reference return. The conditions stand in each theorem. -/
import Derived.Test.YtdmgaafmmjeelaaLed7
import Derived.Test.YtdmgaafmmjeelaaEvP
import Derived.Maps.RangeWalk
namespace Go.Proofs.Ytdmgaafmmjeelaa
open Go.RowKit Go.ChangeShapes
open Go.Maps (Keyed)
set_option linter.unusedVariables false

def anyBox (l : List Ev) (gs : List Int) (b : Int) : Bool := gs.any (fun g => match l[g.toNat]? with | some e => e.bx == b | none => false)
theorem anyBox_gap (l : List Ev) (b : Int) : anyBox l (foll l l.length).gaps b = gapBox l b := rfl
theorem anyBox_snoc {l : List Ev} {gs : List Int} {b : Int} {k : Nat} (hk : k < gs.length) {i : Nat} (hg : gs[k] = (i : Int)) (hi : i < l.length) : anyBox l (gs.take (k + 1)) b = (anyBox l (gs.take k) b || (l[i].bx == b)) := by
  unfold anyBox
  rw [List.take_succ_eq_append_getElem hk, List.any_append]
  simp [hg, List.getElem?_eq_getElem hi]
theorem anyBox_some {l : List Ev} {gs : List Int} {b : Int} {k : Nat} (hk : k < gs.length) {i : Nat} (hg : gs[k] = (i : Int)) (hi : i < l.length) (hb : (l[i].bx == b) = true) : anyBox l gs b = true := by
  unfold anyBox
  rw [List.any_eq_true]
  refine ⟨gs[k], List.getElem_mem hk, ?_⟩
  rw [hg, Int.toNat_natCast, List.getElem?_eq_getElem hi]
  exact hb

theorem below_drewN' {B : Nat} {a w : World} (h : Below B a w) (n : Nat) : Below B a (w.drewN n) := below_drewN h n
def Drew (w : World) (b : Bool) (e : Ending) (w' : World) : Prop := e = .returned (.bool b) ∧ ∃ q, w' = w.drewN q
set_option maxHeartbeats 1000000 in
theorem clos_any (BL BB : Nat) (A : Option Addr) (n c : Nat) (l : List Ev) (box : Int) (i : Nat) (w : World) (hn : l.length = n) (hm : n ≤ 1048576) (ha : Row w w.heap.size A (evCells l)) (cL : w.cell? ⟨BL, 0, none⟩ = some (.slice A n c)) (cB : w.cell? ⟨BB, 0, none⟩ = some (.int .i64 box)) (hi : i < l.length) :
    Calls Try.prog 46 #[.int .i64 (i : Int), .pointer (some ⟨BL, 0, none⟩), .pointer (some ⟨BB, 0, none⟩)] w (Drew w (l[i].bx == box)) := by
  obtain ⟨b, off, rfl, hbw, hc0, hd1, hd2, hd3⟩ := ev_at ha hi
  clear hd1 hd2 hd3
  have hin : i < n := by omega
  generalize l[i].bx = x at *
  clear ha hn hi
  go_enter Try.func46, Try.ntmps46
  go_wp2_with fail
  go_quiet (fail)
  go_wp2_with fail
  go_ret
  exact ⟨rfl, _, rfl⟩

def DrewI (w : World) (l : List Ev) (gs : List Int) (b : Int) (e : Ending) (w' : World) : Prop := ∃ (j : Int) (q : Nat), e = .returned (.int .i64 j) ∧ anyBox l gs b = decide (0 ≤ j) ∧ w' = w.drewN q
set_option maxHeartbeats 1000000 in
theorem IndexFunc_any (BL BB : Nat) (A : Option Addr) (n c : Nat) (l : List Ev) (box : Int) (G : Option Addr) (m d : Nat) (gs : List Int) (w : World) (hn : l.length = n) (hm : n ≤ 1048576) (ha : Row w w.heap.size A (evCells l)) (cL : w.cell? ⟨BL, 0, none⟩ = some (.slice A n c)) (cB : w.cell? ⟨BB, 0, none⟩ = some (.int .i64 box))
    (hg : gs.length = m) (hm2 : m ≤ 1048576) (hgr : Row w w.heap.size G (gs.map (Value.int .i64))) (hin : ∀ x ∈ gs, 0 ≤ x ∧ x < (n : Int)) :
    Calls Try.prog 51 #[.slice G m d, .func (.func 46) #[] #[.pointer (some ⟨BL, 0, none⟩), .pointer (some ⟨BB, 0, none⟩)]] w (DrewI w l gs box) := by
  have HN := Lib.hid hn
  have HG := Lib.hid hg
  have HIN := Lib.hid hin
  clear hn hg hin
  go_enter Try.func51, Try.ntmps51
  go_wp2_with fail
  go_loopw [8] (fun i wx => ∃ k : Nat, k ≤ m ∧ i = .int .i64 k ∧ Hid (anyBox l (gs.take k) box = false) ∧ ∃ q, wx = w.drewN q) (fun i _ => m - (intOf i).toNat)
  case atStart => exact ⟨0, Nat.zero_le _, rfl, rfl, 0, rfl⟩
  case round =>
    obtain ⟨k, hk, rfl, HA, q, rfl⟩ := hrel
    by_cases hlt : k < m
    · have hl : k < gs.length := by rw [HG.out]; exact hlt
      have hz := HIN.out _ (List.getElem_mem hl)
      obtain ⟨b, off, rfl, hbw, hc⟩ := int_at hgr hl
      obtain ⟨i, hi⟩ : ∃ i : Nat, gs[k] = (i : Int) := ⟨gs[k].toNat, by omega⟩
      have hil : i < l.length := by rw [HN.out]; omega
      have HSN := Lib.hid (anyBox_snoc (b := box) hl hi hil)
      have HSO := Lib.hid (fun h => anyBox_some (b := box) hl hi hil h)
      rw [hi] at hc
      clear hgr hi hz
      go_wp2_with fail
      refine (clos_any BL BB A n c l box i (w.drewN q) HN.out hm ha cL cB hil).mono ?_
      rintro e w1 ⟨rfl, q1, rfl⟩
      cases hb : (l[i].bx == box) with
      | true =>
        have HT := Lib.hid (HSO.out hb)
        clear hb
        go_wp2_with fail
        go_ret
        exact ⟨_, _, rfl, by rw [HT.out]; simp, rfl⟩
      | false =>
        have HT : Hid (anyBox l (gs.take (k + 1)) box = false) := by
          show _ = _
          rw [HSN.out, HA.out, hb]
          rfl
        clear hb
        go_wp2_with fail
        go_roundw
        case rel => exact ⟨k + 1, by omega, by go_num, HT.out, _, rfl⟩
        case measure => simp [intOf]; omega
    · have HT : Hid (anyBox l gs box = false) := by
        have h := HA.out
        rw [List.take_of_length_le (by rw [HG.out]; omega)] at h
        exact h
      clear hgr
      go_wp2_with fail
      go_ret
      exact ⟨-1, q, rfl, by rw [HT.out]; rfl, rfl⟩

set_option maxHeartbeats 1000000 in
theorem ContainsFunc_any (BL BB : Nat) (A : Option Addr) (n c : Nat) (l : List Ev) (box : Int) (G : Option Addr) (m d : Nat) (gs : List Int) (w : World) (hn : l.length = n) (hm : n ≤ 1048576) (ha : Row w w.heap.size A (evCells l)) (cL : w.cell? ⟨BL, 0, none⟩ = some (.slice A n c)) (cB : w.cell? ⟨BB, 0, none⟩ = some (.int .i64 box))
    (hg : gs.length = m) (hm2 : m ≤ 1048576) (hgr : Row w w.heap.size G (gs.map (Value.int .i64))) (hin : ∀ x ∈ gs, 0 ≤ x ∧ x < (n : Int)) :
    Calls Try.prog 45 #[.slice G m d, .func (.func 46) #[] #[.pointer (some ⟨BL, 0, none⟩), .pointer (some ⟨BB, 0, none⟩)]] w (Drew w (anyBox l gs box)) := by
  have HC := Lib.hid (IndexFunc_any BL BB A n c l box G m d gs w hn hm ha cL cB hg hm2 hgr hin)
  clear hn ha cL cB hg hgr hin
  go_enter Try.func45, Try.ntmps45
  go_wp2_with fail
  refine HC.out.mono ?_
  rintro e w1 ⟨j, q, rfl, hj, rfl⟩
  have HJ := Lib.hid hj
  clear hj
  go_wp2_with fail
  go_ret
  exact ⟨ret_bool HJ.out.symm, q, rfl⟩

end Go.Proofs.Ytdmgaafmmjeelaa
