/- Ledgers: what the reference's l31Last, l31Used, l31Fits, l31Gaps and LedgerGaps return. The conditions stand in each theorem. -/
import Derived.Test.YtdmgaafmmjeelaaLed1
namespace Go.Proofs.Ytdmgaafmmjeelaa
open Go.RowKit Go.ChangeShapes
set_option linter.unusedVariables false

def SaysE (w : World) (x : Ev) (e : Ending) (w' : World) : Prop := e = .returned (evV x) ∧ Below w.heap.size w w'
theorem Row.blk {w w' : World} {B : Nat} {A : Option Addr} {xs : List Value} (h : Row w B A xs) (hb : Below B w w') : Row w' B A xs := h.below hb

set_option maxHeartbeats 2000000 in
theorem sl31Last_any (A : Option Addr) (n c : Nat) (l : List Ev) (G : Option Addr) (m d : Nat) (g : List Int) (bb : Int) (N : Nat) (w : World) (hn : l.length = n) (hm : n ≤ 1048576) (ha : Row w w.heap.size A (evCells l)) (hg : g.length = m) (hm2 : m ≤ 1048576) (hgr : Row w w.heap.size G (g.map (Value.int .i64))) (hN : N ≤ n) :
    Calls Try.prog 39 #[.slice A n c, .slice G m d, .int .i64 bb, .int .i64 N] w (SaysE w (lastL l g bb N)) := by
  have HN := Lib.hid hn
  have HG := Lib.hid hg
  have HR := Lib.hid ha
  have HGR := Lib.hid hgr
  have B0 := Blk.new w 36 #[.int .i64 0, .int .i64 0, .int .i64 0, .int .i64 0]
  have B1 := Blk.new (w.alloc (.cells #[.int .i64 0, .int .i64 0, .int .i64 0, .int .i64 0] 36)) 36 #[.int .i64 0, .int .i64 0, .int .i64 0, .int .i64 0]
  rw [show (w.alloc (.cells #[.int .i64 0, .int .i64 0, .int .i64 0, .int .i64 0] 36)).heap.size = w.heap.size + 1 by simp] at B1
  have B0' := B0.alloc (.cells #[.int .i64 0, .int .i64 0, .int .i64 0, .int .i64 0] 36)
  clear hn hg ha hgr B0
  go_enter Try.func39, Try.ntmps39
  go_wp2_with fail
  go_loopw [10] (fun i wx => ∃ (k : Nat) (x : Ev), k ≤ N ∧ i = .int .i64 k ∧ Hid (x = lastL l g bb k) ∧ Below w.heap.size w wx ∧ Blk wx w.heap.size 36 #[.int .i64 0, .int .i64 0, .int .i64 0, .int .i64 0] ∧ Blk wx (w.heap.size + 1) 36 #[.int .i64 x.bx, .int .i64 x.kd, .int .i64 x.sl, .int .i64 x.mn]) (fun i _ => N - (intOf i).toNat)
  case atStart => exact ⟨0, evZ, Nat.zero_le _, rfl, rfl, ((Below.refl _ _).alloc (Nat.le_refl _) _).alloc (by simp) _, B0', B1⟩
  case round =>
    clear B0' B1
    obtain ⟨k, x, hk, rfl, HX, hbel, K0, K1⟩ := hrel
    obtain ⟨xa, xb, xc, xd⟩ := x
    simp only at K1
    have k10 : wr.cell? ⟨w.heap.size + 1, 0, none⟩ = some (.int .i64 xa) := by simpa using K1.cell 0
    have k11 : wr.cell? ⟨w.heap.size + 1, 1, none⟩ = some (.int .i64 xb) := by simpa using K1.cell 1
    have k12 : wr.cell? ⟨w.heap.size + 1, 2, none⟩ = some (.int .i64 xc) := by simpa using K1.cell 2
    have k13 : wr.cell? ⟨w.heap.size + 1, 3, none⟩ = some (.int .i64 xd) := by simpa using K1.cell 3
    have f10 := K1.frozen 0
    have f11 := K1.frozen 1
    have f12 := K1.frozen 2
    have f13 := K1.frozen 3
    by_cases hlt : k < N
    · have hl : k < l.length := by rw [HN.out]; omega
      have hkn : (k : Int) < (n : Int) := by omega
      obtain ⟨b, off, rfl, hbw, hc0, hc1, hc2, hc3⟩ := ev_at ((HR.out.below hbel).more hbel.size) hl
      have hgr := (HGR.out.below hbel).more hbel.size
      have HY := Lib.hid (@lastL_yes l g bb k hl)
      have HNo := Lib.hid (@lastL_no l g bb k hl)
      have HM := Lib.hid (hasB_iff g (k : Int))
      have hbne : b ≠ w.heap.size + 1 ∨ True := .inr trivial
      generalize l[k] = p at *
      obtain ⟨vbx, vkd, vsl, vmn⟩ := p
      simp only at hc0 hc1 hc2 hc3 HY HNo
      by_cases hq : vbx = bb
      · have q : (vbx == bb) = true := by simpa using hq
        cases hh : hasB g (k : Int) with
        | true =>
          have HS : Hid (lastL l g bb (k + 1) = lastL l g bb k) := HNo.out (fun h => h.2 (HM.out.1 hh))
          have HH := Lib.hid hh
          clear hq hh HY HNo HM
          go_wp2_with fail
          refine (l1Has_any _ _ _ g _ _ HG.out hm2 hgr).mono ?_
          rintro e w' ⟨rfl, rfl⟩
          rw [HH.out]
          clear hgr hc0 hc1 hc2 hc3 k10 k11 k12 k13 f10 f11 f12 f13
          go_wp2_with fail
          go_roundw
          case rel => exact ⟨k + 1, ⟨xa, xb, xc, xd⟩, by omega, by go_num, HX.out.trans HS.out.symm, hbel, K0, K1⟩
          case measure => simp [intOf]; omega
        | false =>
          have HS : Hid (lastL l g bb (k + 1) = ⟨vbx, vkd, vsl, vmn⟩) := HY.out hq (fun h => by rw [HM.out.2 h] at hh; cases hh)
          have HH := Lib.hid hh
          clear hq hh HY HNo HM
          go_wp2_with fail
          refine (l1Has_any _ _ _ g _ _ HG.out hm2 hgr).mono ?_
          rintro e w' ⟨rfl, rfl⟩
          rw [HH.out]
          clear hgr
          go_wp2_with fail
          go_roundw
          case rel =>
            refine ⟨k + 1, ⟨vbx, vkd, vsl, vmn⟩, by omega, by go_num, HS.out.symm, (((hbel.setCell (by simp) _).setCell (by simp) _).setCell (by simp) _).setCell (by simp) _, ?_, ?_⟩
            · exact (Below.heap_setCell _ _ _ _ (by simp)).trans ((Below.heap_setCell _ _ _ _ (by simp)).trans ((Below.heap_setCell _ _ _ _ (by simp)).trans ((Below.heap_setCell _ _ _ _ (by simp)).trans K0)))
            · have h := (((K1.put 0 (.int .i64 vbx)).put 1 (.int .i64 vkd)).put 2 (.int .i64 vsl)).put 3 (.int .i64 vmn)
              simpa using h
          case measure => simp [intOf]; omega
      · have q : (vbx == bb) = false := by simpa using hq
        have HS : Hid (lastL l g bb (k + 1) = lastL l g bb k) := HNo.out (fun h => hq h.1)
        clear hq HY HNo HM hgr
        go_wp2_with fail
        go_roundw
        case rel => exact ⟨k + 1, ⟨xa, xb, xc, xd⟩, by omega, by go_num, HX.out.trans HS.out.symm, hbel, K0, K1⟩
        case measure => simp [intOf]; omega
    · obtain rfl : k = N := by omega
      have c00 : wr.cell? ⟨w.heap.size, 0, none⟩ = some (.int .i64 0) := by simpa using K0.cell 0
      have c01 : wr.cell? ⟨w.heap.size, 1, none⟩ = some (.int .i64 0) := by simpa using K0.cell 1
      have c02 : wr.cell? ⟨w.heap.size, 2, none⟩ = some (.int .i64 0) := by simpa using K0.cell 2
      have c03 : wr.cell? ⟨w.heap.size, 3, none⟩ = some (.int .i64 0) := by simpa using K0.cell 3
      have f00 := K0.frozen 0
      have f01 := K0.frozen 1
      have f02 := K0.frozen 2
      have f03 := K0.frozen 3
      go_wp2_with fail
      refine bodyPost_ret (v := .agg #[.int .i64 xa, .int .i64 xb, .int .i64 xc, .int .i64 xd]) (by simp [results, Try.results39, go_sem, c00, c01, c02, c03]) rfl ⟨?_, (((hbel.setCell (Nat.le_refl _) _).setCell (Nat.le_refl _) _).setCell (Nat.le_refl _) _).setCell (Nat.le_refl _) _⟩
      rw [← HX.out]
      rfl

theorem usedL_yes {l : List Ev} {g : List Int} {s : Int} : ∀ (N k : Nat), k < N → (h : k < l.length) → N ≤ l.length → l[k].kd = 1 → l[k].sl = s → (k : Int) ∉ g → usedL l g s N = true
  | 0, k, hk, _, _, _, _, _ => by omega
  | N + 1, k, hk, h, hl, h1, h2, h3 => by
    have hN : N < l.length := by omega
    have e1 : usedL l g s (N + 1) = if l[N].kd = 1 ∧ l[N].sl = s ∧ (N : Int) ∉ g then true else usedL l g s N := by
      simp only [usedL, List.getElem?_eq_getElem hN]
    rw [e1]
    by_cases e : k = N
    · subst e
      rw [if_pos ⟨h1, h2, h3⟩]
    · rw [usedL_yes N k (by omega) h (by omega) h1 h2 h3]
      simp
theorem usedL_no {l : List Ev} {g : List Int} {s : Int} : ∀ (N : Nat), N ≤ l.length → (∀ k, k < N → (h : k < l.length) → ¬ (l[k].kd = 1 ∧ l[k].sl = s ∧ (k : Int) ∉ g)) → usedL l g s N = false
  | 0, _, _ => rfl
  | N + 1, hl, h => by
    have hN : N < l.length := by omega
    have e1 : usedL l g s (N + 1) = if l[N].kd = 1 ∧ l[N].sl = s ∧ (N : Int) ∉ g then true else usedL l g s N := by
      simp only [usedL, List.getElem?_eq_getElem hN]
    rw [e1, if_neg (h N (by omega) hN)]
    exact usedL_no N (by omega) (fun k hk h' => h k (by omega) h')

set_option maxHeartbeats 2000000 in
theorem sl31Used_any (A : Option Addr) (n c : Nat) (l : List Ev) (G : Option Addr) (m d : Nat) (g : List Int) (ss : Int) (N : Nat) (w : World) (hn : l.length = n) (hm : n ≤ 1048576) (ha : Row w w.heap.size A (evCells l)) (hg : g.length = m) (hm2 : m ≤ 1048576) (hgr : Row w w.heap.size G (g.map (Value.int .i64))) (hN : N ≤ n) :
    Calls Try.prog 52 #[.slice A n c, .slice G m d, .int .i64 ss, .int .i64 N] w fun e w' => e = .returned (.bool (usedL l g ss N)) ∧ w = w' := by
  have HN := Lib.hid hn
  have HG := Lib.hid hg
  clear hn hg
  go_enter Try.func52, Try.ntmps52
  go_wp2_with fail
  go_loop [9] (fun i => ∃ k : Nat, k ≤ N ∧ i = .int .i64 k ∧ Hid (∀ j, j < k → (h : j < l.length) → ¬ (l[j].kd = 1 ∧ l[j].sl = ss ∧ (j : Int) ∉ g))) (fun i => N - (intOf i).toNat)
  case atStart => exact ⟨0, Nat.zero_le _, rfl, fun j hj => absurd hj (by omega)⟩
  case round =>
    obtain ⟨k, hk, rfl, HX⟩ := hrel
    by_cases hlt : k < N
    · have hl : k < l.length := by rw [HN.out]; omega
      have hkn : (k : Int) < (n : Int) := by omega
      obtain ⟨b, off, rfl, hbw, hc0, hc1, hc2, hc3⟩ := ev_at ha hl
      have HY : Hid (l[k].kd = 1 → l[k].sl = ss → (k : Int) ∉ g → usedL l g ss N = true) := fun h1 h2 h3 => usedL_yes N k hlt hl (by rw [HN.out]; exact hN) h1 h2 h3
      have HZ : Hid (¬ (l[k].kd = 1 ∧ l[k].sl = ss ∧ (k : Int) ∉ g) → ∀ j, j < k + 1 → (h : j < l.length) → ¬ (l[j].kd = 1 ∧ l[j].sl = ss ∧ (j : Int) ∉ g)) := fun h0 j hj h => by
        by_cases e : j = k
        · subst e
          exact h0
        · exact HX.out j (by omega) h
      have HM := Lib.hid (hasB_iff g (k : Int))
      clear ha
      generalize l[k] = p at *
      obtain ⟨vbx, vkd, vsl, vmn⟩ := p
      simp only at hc0 hc1 hc2 hc3 HY HZ
      by_cases h1 : vkd = 1
      · have q1 : (vkd == 1) = true := by simpa using h1
        by_cases h2 : vsl = ss
        · have q2 : (vsl == ss) = true := by simpa using h2
          cases hh : hasB g (k : Int) with
          | true =>
            have HS := Lib.hid (HZ.out (fun h => h.2.2 (HM.out.1 hh)))
            have HH := Lib.hid hh
            clear h1 h2 hh HY HZ HM
            go_wp2_with fail
            refine (l1Has_any _ _ _ g _ _ HG.out hm2 hgr).mono ?_
            rintro e w' ⟨rfl, rfl⟩
            rw [HH.out]
            clear hgr
            go_wp2_with fail
            go_round
            case rel => exact ⟨k + 1, by omega, by go_num, HS⟩
            case measure => simp [intOf]; omega
          | false =>
            have HS := Lib.hid (HY.out h1 h2 (fun h => by rw [HM.out.2 h] at hh; cases hh))
            have HH := Lib.hid hh
            clear h1 h2 hh HY HZ HM
            go_wp2_with fail
            refine (l1Has_any _ _ _ g _ _ HG.out hm2 hgr).mono ?_
            rintro e w' ⟨rfl, rfl⟩
            rw [HH.out]
            clear hgr
            go_wp2_with fail
            go_ret
            exact ⟨ret_bool HS.out.symm, rfl⟩
        · have q2 : (vsl == ss) = false := by simpa using h2
          have HS := Lib.hid (HZ.out (fun h => h2 h.2.1))
          clear h1 h2 HY HZ HM
          go_wp2_with fail
          go_round
          case rel => exact ⟨k + 1, by omega, by go_num, HS⟩
          case measure => simp [intOf]; omega
      · have q1 : (vkd == 1) = false := by simpa using h1
        have HS := Lib.hid (HZ.out (fun h => h1 h.1))
        clear h1 HY HZ HM
        go_wp2_with fail
        go_round
        case rel => exact ⟨k + 1, by omega, by go_num, HS⟩
        case measure => simp [intOf]; omega
    · obtain rfl : k = N := by omega
      have HS := Lib.hid (usedL_no (l := l) (g := g) (s := ss) k (by rw [HN.out]; exact hN) HX.out)
      go_wp2_with fail
      go_ret
      exact ⟨ret_bool HS.out.symm, rfl⟩

end Go.Proofs.Ytdmgaafmmjeelaa
