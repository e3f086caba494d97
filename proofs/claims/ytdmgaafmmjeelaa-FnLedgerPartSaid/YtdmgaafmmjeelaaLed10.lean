/- Ledgers: what LedgerCount of the program and of the reference return, and the law FnExactLedgerCount. The conditions stand in each theorem. -/
import Derived.Test.YtdmgaafmmjeelaaLed9
namespace Go.Proofs.Ytdmgaafmmjeelaa
open Go.RowKit Go.ChangeShapes
open Go.Maps (Keyed)
set_option linter.unusedVariables false

theorem evR_any {v : Value} {y : DataW Unit × List MemPlace} (h : evR v = some y) : ∃ c : Ev, v = evV c ∧ y = (evD c, []) := by
  unfold evR at h
  split at h
  · rename_i cs
    split at h
    · rename_i a b c d hc
      obtain ⟨l⟩ := cs
      simp only at hc
      subst hc
      injection h with h
      exact ⟨⟨a, b, c, d⟩, rfl, h.symm⟩
    · cases h
  · cases h
theorem evD_inj {a b : Ev} (h : evD a = evD b) : a = b := by
  obtain ⟨a1, a2, a3, a4⟩ := a
  obtain ⟨b1, b2, b3, b4⟩ := b
  simp only [evD, DataW.agg.injEq, List.cons.injEq, DataW.lit.injEq, Lit.int.injEq, true_and, and_true] at h
  obtain ⟨h1, h2, h3, h4⟩ := h
  rw [h1, h2, h3, h4]
theorem sameKey_int (x y : Int) : (Lit.int .i64 y).sameKey (.int .i64 x) = (y == x) := by
  have h : (Lit.int .i64 y).sameKey (.int .i64 x) = decide (y = x) := by
    unfold Lit.sameKey
    simp
  rw [h]
  by_cases e : y = x <;> simp [e]
/-- An entry that comes is the box's last event, and was still to come. -/
theorem entry_of {l : List Ev} (hv : ∀ e ∈ l, okE e = true) {D : DataW Unit} {x : Int} {c : Ev} (hD : MapE D (foll l l.length).last) (hat : ∀ zd, D.atKey (.int .i64 x) zd = evD c) (hs : ((foll l l.length).last x).isSome = true) :
    (foll l l.length).last x = some c ∧ okE c = true ∧ c.bx = x := by
  have h1 := (hD.2 x).2
  rw [hat] at h1
  have h2 := evD_inj h1
  cases h : (foll l l.length).last x with
  | none => rw [h] at hs; cases hs
  | some e =>
    rw [h] at h2
    simp only [Option.getD_some] at h2
    subst h2
    exact ⟨rfl, foll_last l hv _ x c h⟩
theorem sum_step {a b v z u t : Int} (h1 : a + v = b) (h2 : z + b = t) (h3 : v = u) : z + u + a = t := by omega
theorem sum_step0 {a b v z t : Int} (h1 : a + v = b) (h2 : z + b = t) (h3 : v = 0) : z + a = t := by omega
def SaysI (w : World) (b : Int) (e : Ending) (w' : World) : Prop := e = .returned (.int .i64 b) ∧ Below w.heap.size w w'

set_option maxRecDepth 100000 in
set_option maxHeartbeats 4000000 in
theorem LedgerCount_any (A : Option Addr) (n c : Nat) (l : List Ev) (w : World) (hn : l.length = n) (hm : n ≤ 1048576) (ha : Row w w.heap.size A (evCells l)) :
    Calls Try.prog 25 #[.slice A n c] w (SaysI w (cntE l)) := by
  have HN := Lib.hid hn
  clear hn
  go_enter Try.func25, Try.ntmps25
  go_wp2_with fail
  have hb1 : Below w.heap.size w (w.alloc (.cells #[.slice A n c] 25)) := (Below.refl _ _).alloc (Nat.le_refl _) _
  have ha1 := (ha.below hb1).more hb1.size
  have hL1 : Blk (w.alloc (.cells #[.slice A n c] 25)) w.heap.size 25 #[.slice A n c] := Blk.new _ _ _
  clear ha
  refine (LedgerValid_any _ _ _ l _ HN.out hm ha1).mono ?_
  rintro e w2 ⟨rfl, hb2⟩
  have ha2 := (ha1.below hb2).more hb2.size
  have hL2 : Blk w2 w.heap.size 25 #[.slice A n c] := (hb2.block _ hL1.lt).trans hL1
  have hbF2 := hb1.trans (hb2.mono hb1.size)
  clear ha1 hL1 hb1 hb2
  cases hv : lvB l with
  | false =>
    have HC : Hid (cntE l = -1) := cntE_no hv
    clear hv ha2 hL2
    go_wp2_with fail
    go_ret
    exact ⟨ret_int HC.out.symm, hbF2⟩
  | true =>
    have HC : Hid (cntE l = boxSum l 6) := cntE_yes hv
    have hl20 := (lvB_of hv).1
    rw [HN.out] at hl20
    have HV := Lib.hid (lvB_of hv).2
    have cL2 : w2.cell? ⟨w.heap.size, 0, none⟩ = some (.slice A n c) := by rw [hL2.cell 0]; rfl
    clear hv
    go_wp2_with fail
    refine (followed_any _ _ _ l _ HN.out hl20 HV.out ha2).mono ?_
    rintro e w3 ⟨b1, b2, D1, G, kg, cg, rfl, M1, hD1, hlg, hkg, hcg, howng, hb3⟩
    have HD : Hid (MapE D1 (foll l l.length).last) := by
      show MapE D1 _
      rw [HN.out]
      exact hD1
    have HLG : Hid ((foll l l.length).gaps.length = kg) := by
      show _ = _
      rw [HN.out]
      exact hlg
    have hkg20 : kg ≤ 20 := by have := gaps_len l n; omega
    have HIN : Hid (∀ x ∈ (foll l l.length).gaps, 0 ≤ x ∧ x < (n : Int)) := fun x hx => by
      have := gaps_lt l l.length x hx
      rw [HN.out] at this
      omega
    have hrowG0 := own_row howng
    rw [← HN.out] at hrowG0
    have ha3 := (ha2.below hb3).more hb3.size
    have hL3 : Blk w3 w.heap.size 25 #[.slice A n c] := (hb3.block _ hL2.lt).trans hL2
    have hbF3 := hbF2.trans (hb3.mono hbF2.size)
    clear hD1 hlg howng ha2 hL2 cL2 hb3 hbF2 hkg hcg
    have hr4 : (w3.alloc (.cells #[.map (some b1), .map (some b2), .slice G kg cg] 56)).heap.size = w3.heap.size + 1 := by simp
    have hb4 : Below w3.heap.size w3 (w3.alloc (.cells #[.map (some b1), .map (some b2), .slice G kg cg] 56)) := (Below.refl _ _).alloc (Nat.le_refl _) _
    have hC4 : Blk (w3.alloc (.cells #[.map (some b1), .map (some b2), .slice G kg cg] 56)) w3.heap.size 56 #[.map (some b1), .map (some b2), .slice G kg cg] := Blk.new _ _ _
    have hL4 : Blk (w3.alloc (.cells #[.map (some b1), .map (some b2), .slice G kg cg] 56)) w.heap.size 25 #[.slice A n c] := hL3.alloc _
    have ha4 := ha3.below hb4
    have hg4 := hrowG0.below hb4
    have hbF4 := hbF3.trans (hb4.mono hbF3.size)
    have HR4 := Lib.hid hr4
    have hwL := hL3.lt
    clear ha3 hrowG0 hL3 hb4 hbF3 hr4
    go_wp2_with (at_range; refine wpList_range_own _ rfl _ 53 rfl 3 36 keyI Try.underlying53 evR b1 n D1 rfl (M1.alloc _) ?_; intro w5 hrg5 hg5 hs5; rw [HR4.out] at hrg5 hs5; rw [HR4.out])
    go_frame
    have hC5 : Blk w5 w3.heap.size 56 #[.map (some b1), .map (some b2), .slice G kg cg] := hC4.grown_ hg5 (by simp)
    have hL5 : Blk w5 w.heap.size 25 #[.slice A n c] := hL4.grown_ hg5 (by simp)
    have hbF5 := hbF4.grown hg5 hbF4.size (fun x hx => by cases hx)
    have ha5 : Row w5 w3.heap.size A (evCells l) := ha4.keep fun p hp => World.cell?_of_block (hg5.block p.block (by rw [HR4.out]; omega) (by simp))
    have hG5 : Row w5 w3.heap.size G ((foll l l.length).gaps.map (Value.int .i64)) := hg4.keep fun p hp => World.cell?_of_block (hg5.block p.block (by rw [HR4.out]; omega) (by simp))
    have HREL : Hid (0 + restSum l (fun x => Maps.has D1 (.int .i64 x)) 6 = boxSum l 6) := by
      show _ = _
      rw [restSum_all (fun x => (HD.out.2 x).1), Int.zero_add]
    have HLE : Hid (∀ x, Maps.has D1 (.int .i64 x) = true → ((foll l l.length).last x).isSome = true) := fun x hx => by rw [← (HD.out.2 x).1]; exact hx
    have HBS := Lib.hid (boxSum_bd HV.out 6)
    clear hC4 hL4 hg5 hbF4 ha4 hg4 M1
    go_loopw [4] (fun s wx => ∃ (left : Lit → Bool) (cnt : Nat) (z : Int), s = .int .i64 z ∧ 0 ≤ z ∧ Hid (z + restSum l (fun x => left (.int .i64 x)) 6 = boxSum l 6) ∧ Hid (∀ x, left (.int .i64 x) = true → ((foll l l.length).last x).isSome = true) ∧ wx.ranges Try.prog 3 evR b1 (w3.heap.size + 1) n D1 left cnt ∧ Below (w3.heap.size + 1) w5 wx) (fun _ wx => wx.rangeLeft b1 (w3.heap.size + 1))
    case atStart => exact ⟨_, _, 0, rfl, by omega, HREL, HLE, hrg5, Below.refl _ _⟩
    case round =>
      clear hrg5 HREL HLE
      obtain ⟨left, cnt, z, rfl, hz0, HS, HLF, hrg, hbel⟩ := hrel
      have hz1 : z ≤ 594 := by
        have h1 := restSum_bd HV.out (fun x => left (.int .i64 x)) 6
        have h2 := HS.out
        have h3 := HBS.out
        omega
      go_wp2_with (at_next; refine wpList_next_ranges _ rfl _ rfl 3 keyI evR (Value.int .i64) evV (fun key kl hkey => by obtain ⟨x, e, _⟩ := Maps.keyOf_int_inv Try.underlying3 hkey; exact ⟨x, e⟩) (fun v y hv => by obtain ⟨c, e, _⟩ := evR_any hv; exact ⟨c, e⟩) b1 (w3.heap.size + 1) n D1 left cnt rfl hrg ?_ ?_)
      · intro hc0 hl0
        have HE : Hid (z = cntE l) := by
          have h := HS.out
          rw [restSum_none (fun x => hl0 _), Int.add_zero] at h
          rw [HC.out]
          exact h
        have hbF6 := hbF5.trans (hbel.mono (by have := hbF5.size; omega))
        clear hl0
        go_wp2_with fail
        go_ret
        exact ⟨ret_int HE.out, hbF6⟩
      · intro x ce kl y1 y2 w6 cnt6 hkey hlk hR hat hrg6 hlt6 hg6 hs6 hen
        obtain ⟨x', ex, rfl, hwx⟩ := Maps.keyOf_int_inv Try.underlying3 hkey
        injection ex with _ ex
        subst ex
        obtain ⟨ce', ec, hy⟩ := evR_any hR
        injection hy with hy1 hy2
        subst hy1 hy2
        obtain rfl : ce = ce' := by
          obtain ⟨p1, p2, p3, p4⟩ := ce
          obtain ⟨q1, q2, q3, q4⟩ := ce'
          simp only [evV, Value.agg.injEq, Array.mk.injEq, List.cons.injEq, Value.int.injEq, true_and, and_true] at ec
          obtain ⟨h1, h2, h3, h4⟩ := ec
          rw [h1, h2, h3, h4]
        have hsome := HLF.out x hlk
        obtain ⟨hlast, hok, hbx⟩ := entry_of HV.out HD.out hat hsome
        have hok' := (okE_iff ce).1 hok
        have HST := Lib.hid (restSum_strike (l := l) (P := fun x => left (.int .i64 x)) (Q := fun z => left (.int .i64 z) && !(Lit.int .i64 z).sameKey (.int .i64 x)) (b := x) (fun z => by simp only [sameKey_int]) hlk (by omega) 6 (by omega))
        have HVAL : Hid (boxVal l x = if gapBox l x = false ∧ ce.kd = 3 then ce.mn else 0) := by
          show _ = _
          unfold boxVal
          rw [hlast]
        have HLF2 : Hid (∀ y, (left (.int .i64 y) && !(Lit.int .i64 y).sameKey (.int .i64 x)) = true → ((foll l l.length).last y).isSome = true) := fun y hy => HLF.out y (by simp only [Bool.and_eq_true] at hy; exact hy.1)
        have hbel6 := hbel.grown hg6 (by have := hbel.size; omega) (fun k hk => by injection hk with hk; omega)
        have HS6 := Lib.hid hs6
        clear hkey hR hat hsome hlast hok ec hlk hg6 hbel HLF hs6
        obtain ⟨kbx, kkd, ksl, kmn⟩ := ce
        simp only [evV] at hen ⊢
        simp only at hok' hbx HVAL
        have hmn : 0 ≤ kmn ∧ kmn ≤ 99 := by omega
        obtain ⟨mn0, mn1⟩ := hmn
        clear hok' hbx
        have hC6 : Blk w6 w3.heap.size 56 #[.map (some b1), .map (some b2), .slice G kg cg] := (hbel6.block _ (by omega)).trans hC5
        have hL6 : Blk w6 w.heap.size 25 #[.slice A n c] := (hbel6.block _ (by omega)).trans hL5
        have hs56 := hbel6.size
        have KC : Blk ((w6.alloc (.cells #[.int .i64 x] 3)).alloc (.cells #[.int .i64 kbx, .int .i64 kkd, .int .i64 ksl, .int .i64 kmn] 36)) w3.heap.size 56 #[.map (some b1), .map (some b2), .slice G kg cg] := (hC6.alloc _).alloc _
        have cC : World.cell? ((w6.alloc (.cells #[.int .i64 x] 3)).alloc (.cells #[.int .i64 kbx, .int .i64 kkd, .int .i64 ksl, .int .i64 kmn] 36)) ⟨w3.heap.size, 2, none⟩ = some (.slice G kg cg) := by rw [KC.cell 2]; rfl
        have KL : Blk ((w6.alloc (.cells #[.int .i64 x] 3)).alloc (.cells #[.int .i64 kbx, .int .i64 kkd, .int .i64 ksl, .int .i64 kmn] 36)) w.heap.size 25 #[.slice A n c] := (hL6.alloc _).alloc _
        have KB : Blk ((w6.alloc (.cells #[.int .i64 x] 3)).alloc (.cells #[.int .i64 kbx, .int .i64 kkd, .int .i64 ksl, .int .i64 kmn] 36)) w6.heap.size 3 #[.int .i64 x] := (Blk.new _ _ _).alloc _
        have hb7 : Below (w3.heap.size + 1) w5 ((w6.alloc (.cells #[.int .i64 x] 3)).alloc (.cells #[.int .i64 kbx, .int .i64 kkd, .int .i64 ksl, .int .i64 kmn] 36)) := (hbel6.alloc (by omega) _).alloc (by simp; omega) _
        have hrg7 := (hrg6.alloc (.cells #[.int .i64 x] 3)).alloc (.cells #[.int .i64 kbx, .int .i64 kkd, .int .i64 ksl, .int .i64 kmn] 36)
        have KE : Blk ((w6.alloc (.cells #[.int .i64 x] 3)).alloc (.cells #[.int .i64 kbx, .int .i64 kkd, .int .i64 ksl, .int .i64 kmn] 36)) (w6.heap.size + 1) 36 #[.int .i64 kbx, .int .i64 kkd, .int .i64 ksl, .int .i64 kmn] := by
          have h := Blk.new (w6.alloc (.cells #[.int .i64 x] 3)) 36 #[.int .i64 kbx, .int .i64 kkd, .int .i64 ksl, .int .i64 kmn]
          simpa using h
        have HB7 := Lib.hid hb7
        have HRG7 := Lib.hid hrg7
        have HRGM := Lib.hid hrg
        have hKE1 : ((w6.alloc (.cells #[.int .i64 x] 3)).alloc (.cells #[.int .i64 kbx, .int .i64 kkd, .int .i64 ksl, .int .i64 kmn] 36)).heap.size = w6.heap.size + 2 := by simp
        have HS7 := Lib.hid hKE1
        clear hb7 hrg7 hrg hrg6 hC6 hL6 hKE1 hbel6 KC
        go_wp2_with fail
        have ha7 := ((ha5.below (HB7.out.mono (by omega))).more (B' := w6.heap.size + 2) (by omega))
        have hg7 := ((hG5.below (HB7.out.mono (by omega))).more (B' := w6.heap.size + 2) (by omega))
        rw [← HS7.out] at ha7 hg7
        have cL7 : World.cell? ((w6.alloc (.cells #[.int .i64 x] 3)).alloc (.cells #[.int .i64 kbx, .int .i64 kkd, .int .i64 ksl, .int .i64 kmn] 36)) ⟨w.heap.size, 0, none⟩ = some (.slice A n c) := by rw [KL.cell 0]; rfl
        have cB7 : World.cell? ((w6.alloc (.cells #[.int .i64 x] 3)).alloc (.cells #[.int .i64 kbx, .int .i64 kkd, .int .i64 ksl, .int .i64 kmn] 36)) ⟨w6.heap.size, 0, none⟩ = some (.int .i64 x) := by rw [KB.cell 0]; rfl
        have cE1 : World.cell? ((w6.alloc (.cells #[.int .i64 x] 3)).alloc (.cells #[.int .i64 kbx, .int .i64 kkd, .int .i64 ksl, .int .i64 kmn] 36)) ⟨w6.heap.size + 1, 1, none⟩ = some (.int .i64 kkd) := by rw [KE.cell 1]; rfl
        have cE3 : World.cell? ((w6.alloc (.cells #[.int .i64 x] 3)).alloc (.cells #[.int .i64 kbx, .int .i64 kkd, .int .i64 ksl, .int .i64 kmn] 36)) ⟨w6.heap.size + 1, 3, none⟩ = some (.int .i64 kmn) := by rw [KE.cell 3]; rfl
        clear KL KB KE cC
        generalize (w6.alloc (.cells #[.int .i64 x] 3)).alloc (.cells #[.int .i64 kbx, .int .i64 kkd, .int .i64 ksl, .int .i64 kmn] 36) = w7 at *
        refine (ContainsFunc_any w.heap.size w6.heap.size A n c l x G kg cg _ w7 HN.out hm ha7 cL7 cB7 HLG.out (by omega) hg7 HIN.out).mono ?_
        rintro e w8 ⟨rfl, q, rfl⟩
        rw [anyBox_gap]
        clear ha7 hg7 cL7 cB7
        have HM := Lib.hid (show (w7.drewN q).rangeLeft b1 (w3.heap.size + 1) < wr.rangeLeft b1 (w3.heap.size + 1) by
          have h1 : (w7.drewN q).rangeLeft b1 (w3.heap.size + 1) = w7.rangeLeft b1 (w3.heap.size + 1) := rfl
          rw [h1, HRG7.out.left_eq, HRGM.out.left_eq]
          exact hlt6)
        cases hgb : gapBox l x with
        | true =>
          have HZ : Hid (z + restSum l (fun y => left (.int .i64 y) && !(Lit.int .i64 y).sameKey (.int .i64 x)) 6 = boxSum l 6) := by
            have h3 := HVAL.out
            rw [if_neg (by rw [hgb]; exact fun h => by cases h.1)] at h3
            exact sum_step0 HST.out HS.out h3
          clear hgb
          go_wp2_with fail
          go_roundw
          case rel => exact ⟨fun z => left z && !z.sameKey (.int .i64 x), cnt6, z, rfl, hz0, HZ, HLF2, HRG7.out, below_drewN HB7.out q⟩
          case measure => exact HM.out
        | false =>
          by_cases h3 : kkd = 3
          · have HZ : Hid (z + kmn + restSum l (fun y => left (.int .i64 y) && !(Lit.int .i64 y).sameKey (.int .i64 x)) 6 = boxSum l 6) := by
              have h4 := HVAL.out
              rw [if_pos ⟨hgb, h3⟩] at h4
              exact sum_step HST.out HS.out h4
            subst h3
            clear hgb
            go_wp2_with fail
            go_roundw
            case rel => exact ⟨fun z => left z && !z.sameKey (.int .i64 x), cnt6, z + kmn, by go_num, by omega, HZ, HLF2, HRG7.out, below_drewN HB7.out q⟩
            case measure => exact HM.out
          · have HZ : Hid (z + restSum l (fun y => left (.int .i64 y) && !(Lit.int .i64 y).sameKey (.int .i64 x)) 6 = boxSum l 6) := by
              have h4 := HVAL.out
              rw [if_neg (fun h => h3 h.2)] at h4
              exact sum_step0 HST.out HS.out h4
            have q3 : (kkd == 3) = false := by simpa using h3
            clear hgb h3
            go_wp2_with fail
            go_roundw
            case rel => exact ⟨fun z => left z && !z.sameKey (.int .i64 x), cnt6, z, rfl, hz0, HZ, HLF2, HRG7.out, below_drewN HB7.out q⟩
            case measure => exact HM.out
end Go.Proofs.Ytdmgaafmmjeelaa
