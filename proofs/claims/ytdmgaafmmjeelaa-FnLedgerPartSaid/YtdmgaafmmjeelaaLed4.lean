/- Ledgers: what the reference's l31Fits, l31Gaps and LedgerGaps return. The conditions stand in each theorem. -/
import Derived.Test.YtdmgaafmmjeelaaLed3
namespace Go.Proofs.Ytdmgaafmmjeelaa
open Go.RowKit Go.ChangeShapes
set_option linter.unusedVariables false

set_option maxRecDepth 100000 in
set_option maxHeartbeats 4000000 in
theorem sl31Fits_any (A : Option Addr) (n c : Nat) (l : List Ev) (G : Option Addr) (m d : Nat) (g : List Int) (N : Nat) (w : World) (hn : l.length = n) (hm : n ≤ 1048576) (ha : Row w w.heap.size A (evCells l)) (hg : g.length = m) (hm2 : m ≤ 1048576) (hgr : Row w w.heap.size G (g.map (Value.int .i64))) (hN : N < l.length) :
    Calls Try.prog 49 #[.slice A n c, .slice G m d, .int .i64 N] w (Says w (fitsL (lastL l g l[N].bx N) (usedL l g l[N].sl N) l[N])) := by
  have HN := Lib.hid hn
  have HG := Lib.hid hg
  have HR0 := Lib.hid ha
  have HGR := Lib.hid hgr
  have hNn : N < n := by rw [← hn]; exact hN
  have hNi : (N : Int) < (n : Int) := by omega
  obtain ⟨b, off, rfl, hbw, hc0, hc1, hc2, hc3⟩ := ev_at ha hN
  clear hn hg ha hgr
  generalize l[N] = p at *
  obtain ⟨vbx, vkd, vsl, vmn⟩ := p
  simp only at hc0 hc1 hc2 hc3
  have KB := Blk.new w 36 #[.int .i64 vbx, .int .i64 vkd, .int .i64 vsl, .int .i64 vmn]
  have B1 : Below w.heap.size w (w.alloc (.cells #[.int .i64 vbx, .int .i64 vkd, .int .i64 vsl, .int .i64 vmn] 36)) := (Below.refl _ _).alloc (Nat.le_refl _) _
  go_enter Try.func49, Try.ntmps49
  go_wp2_with fail
  refine (sl31Last_any _ n _ l _ m _ g vbx N _ HN.out hm ((HR0.out.below B1).more B1.size) HG.out hm2 ((HGR.out.below B1).more B1.size) (by omega)).mono ?_
  rintro e w2 ⟨rfl, hb2⟩
  have KB2 : Blk w2 w.heap.size 36 #[.int .i64 vbx, .int .i64 vkd, .int .i64 vsl, .int .i64 vmn] := (hb2.block _ (by simp)).trans KB
  have B2 := B1.trans (hb2.mono B1.size)
  have hs2 := hb2.size
  simp at hs2
  clear hc0 hc1 hc2 hc3 KB hb2 B1
  have HXX : Hid (lastL l g vbx N = lastL l g vbx N) := rfl
  generalize lastL l g vbx N = x at *
  obtain ⟨xa, xb, xc, xd⟩ := x
  simp only [evV]
  have e0 : w2.cell? ⟨w.heap.size, 0, none⟩ = some (.int .i64 vbx) := by simpa using KB2.cell 0
  have e1 : w2.cell? ⟨w.heap.size, 1, none⟩ = some (.int .i64 vkd) := by simpa using KB2.cell 1
  have e2 : w2.cell? ⟨w.heap.size, 2, none⟩ = some (.int .i64 vsl) := by simpa using KB2.cell 2
  have e3 : w2.cell? ⟨w.heap.size, 3, none⟩ = some (.int .i64 vmn) := by simpa using KB2.cell 3
  have hbel9 : Below w.heap.size w (w2.alloc (.cells #[.int .i64 xa, .int .i64 xb, .int .i64 xc, .int .i64 xd] 36)) := B2.alloc B2.size _
  have hr3 := (HR0.out.below hbel9).more hbel9.size
  have hg3 := (HGR.out.below hbel9).more hbel9.size
  have hlt9 : w.heap.size < w2.heap.size := by omega
  have hne9 : ¬ w.heap.size = w2.heap.size := by omega
  clear KB2 B2 HXX
  by_cases h1 : vkd = 1
  · have qk : (vkd == 1) = true := by simpa using h1
    go_wp2_with fail
    refine (sl31Used_any _ n _ l _ m _ g vsl N _ HN.out hm hr3 HG.out hm2 hg3 (by omega)).mono ?_
    rintro e w' ⟨rfl, rfl⟩
    clear hr3 hg3
    cases hu : usedL l g vsl N with
    | true =>
      have HR : Hid (fitsL ⟨xa, xb, xc, xd⟩ (usedL l g vsl N) ⟨vbx, vkd, vsl, vmn⟩ = false) := by
        show _ = _
        simp only [fitsL, hu, if_pos h1]
        first | rfl | simp
      clear h1 hu
      go_wp2_with fail
      go_ret
      exact ⟨ret_bool HR.out.symm, hbel9⟩
    | false =>
      cases q0 : (xb == 0) with
      | true =>
        have HR : Hid (fitsL ⟨xa, xb, xc, xd⟩ (usedL l g vsl N) ⟨vbx, vkd, vsl, vmn⟩ = true) := by
          show _ = _
          simp only [fitsL, hu, if_pos h1, q0]
          first | rfl | simp
        clear h1 hu
        go_wp2_with fail
        go_ret
        exact ⟨ret_bool HR.out.symm, hbel9⟩
      | false =>
        cases q3 : (xb == 3) with
        | true =>
          have HR : Hid (fitsL ⟨xa, xb, xc, xd⟩ (usedL l g vsl N) ⟨vbx, vkd, vsl, vmn⟩ = (xd == vmn)) := by
            show _ = _
            simp only [fitsL, hu, if_pos h1, q0, q3]
            first | rfl | simp
          clear h1 hu
          go_wp2_with fail
          go_ret
          exact ⟨ret_bool HR.out.symm, hbel9⟩
        | false =>
          have HR : Hid (fitsL ⟨xa, xb, xc, xd⟩ (usedL l g vsl N) ⟨vbx, vkd, vsl, vmn⟩ = false) := by
            show _ = _
            simp only [fitsL, hu, if_pos h1, q0, q3]
            first | rfl | simp
          clear h1 hu
          go_wp2_with fail
          go_ret
          exact ⟨ret_bool HR.out.symm, hbel9⟩
  · have qk : (vkd == 1) = false := by simpa using h1
    clear hr3 hg3
    cases q1 : (xb == 1) with
    | true =>
      cases qs : (xc == vsl) with
      | true =>
        have HR : Hid (fitsL ⟨xa, xb, xc, xd⟩ (usedL l g vsl N) ⟨vbx, vkd, vsl, vmn⟩ = (xd == vmn)) := by
          show _ = _
          simp only [fitsL, if_neg h1, q1, qs]
          first | rfl | simp
        clear h1
        go_wp2_with fail
        go_ret
        exact ⟨ret_bool HR.out.symm, hbel9⟩
      | false =>
        have HR : Hid (fitsL ⟨xa, xb, xc, xd⟩ (usedL l g vsl N) ⟨vbx, vkd, vsl, vmn⟩ = false) := by
          show _ = _
          simp only [fitsL, if_neg h1, q1, qs]
          first | rfl | simp
        clear h1
        go_wp2_with fail
        go_ret
        exact ⟨ret_bool HR.out.symm, hbel9⟩
    | false =>
      cases q2 : (xb == 2) with
      | true =>
        cases qs : (xc == vsl) with
        | true =>
          have HR : Hid (fitsL ⟨xa, xb, xc, xd⟩ (usedL l g vsl N) ⟨vbx, vkd, vsl, vmn⟩ = (xd == vmn)) := by
            show _ = _
            simp only [fitsL, if_neg h1, q1, q2, qs]
            first | rfl | simp
          clear h1
          go_wp2_with fail
          go_ret
          exact ⟨ret_bool HR.out.symm, hbel9⟩
        | false =>
          have HR : Hid (fitsL ⟨xa, xb, xc, xd⟩ (usedL l g vsl N) ⟨vbx, vkd, vsl, vmn⟩ = false) := by
            show _ = _
            simp only [fitsL, if_neg h1, q1, q2, qs]
            first | rfl | simp
          clear h1
          go_wp2_with fail
          go_ret
          exact ⟨ret_bool HR.out.symm, hbel9⟩
      | false =>
        have HR : Hid (fitsL ⟨xa, xb, xc, xd⟩ (usedL l g vsl N) ⟨vbx, vkd, vsl, vmn⟩ = false) := by
          show _ = _
          simp only [fitsL, if_neg h1, q1, q2]
          first | rfl | simp
        clear h1
        go_wp2_with fail
        go_ret
        exact ⟨ret_bool HR.out.symm, hbel9⟩

/-- A slice of ints of the call's own. -/
def GotInts (w : World) (zs : List Int) (e : Ending) (w' : World) : Prop :=
  ∃ (A : Option Addr) (k c : Nat), e = .returned (.slice A k c) ∧ zs.length = k ∧ k ≤ c ∧ c ≤ maxLen ∧ w'.ownsRow w.heap.size 3 1 (.slice A k c) k (zs.map (Value.int .i64)) ∧ Below w.heap.size w w'
theorem GotInts.none_ {w w' : World} {zs : List Int} (h : zs = []) (hb : Below w.heap.size w w') : GotInts w zs (.returned (.slice none 0 0)) w' :=
  ⟨none, 0, 0, rfl, by rw [h]; rfl, Nat.le_refl _, by unfold maxLen; omega, by rw [h]; exact own_nil _ _ _ _, hb⟩
theorem GotInts.of_ {w w' : World} {zs : List Int} {k : Nat} {v : Value} (hown : w'.ownsRow w.heap.size 3 1 v k (zs.map (Value.int .i64))) (hb : Below w.heap.size w w') : GotInts w zs (.returned v) w' := by
  obtain ⟨A, c, rfl, h1, h2, h3, _⟩ := own_slice hown
  exact ⟨A, k, c, rfl, by simpa using h3, h1, h2, hown, hb⟩

set_option maxHeartbeats 2000000 in
theorem sl31Gaps_any (A : Option Addr) (n c : Nat) (l : List Ev) (w : World) (hn : l.length = n) (hm : n ≤ 1048576) (hv : ∀ e ∈ l, okE e = true) (ha : Row w w.heap.size A (evCells l)) :
    Calls Try.prog 40 #[.slice A n c] w (GotInts w (foll l n).gaps) := by
  obtain ⟨i0, hi0, hz0, hz1, hz2⟩ := info_parts info_int
  have HI := Lib.hid hi0
  have HZ0 := Lib.hid hz0
  have HZ1 := Lib.hid hz1
  have HZ2 := Lib.hid hz2
  have HN := Lib.hid hn
  have HV := Lib.hid hv
  have HR := Lib.hid ha
  clear hi0 hz0 hz1 hz2 hn hv ha
  go_enter Try.func40, Try.ntmps40
  go_wp2_with fail
  go_loopw [3, 4] (fun v i wx => ∃ (k j : Nat), k ≤ n ∧ j ≤ k ∧ i = .int .i64 k ∧ Below w.heap.size w wx ∧ wx.ownsRow w.heap.size 3 1 v j ((foll l k).gaps.map (Value.int .i64))) (fun _ i _ => n - (intOf i).toNat)
  case atStart => exact ⟨0, 0, Nat.zero_le _, Nat.le_refl _, rfl, (Below.refl _ _).alloc (Nat.le_refl _) _, own_empty _ _ _ _ (Nat.le_refl _)⟩
  case round =>
    obtain ⟨k, j, hk, hj, rfl, hbel, hown⟩ := hrel
    have hbs := hbel.size
    by_cases hlt : k < n
    · have hl : k < l.length := by rw [HN.out]; exact hlt
      obtain ⟨A3, c3, rfl, hc31, hc32, hlen3, hrow3⟩ := own_slice hown
      have hl3 : (foll l k).gaps.length = j := by simpa using hlen3
      have HL3 := Lib.hid hl3
      have HE : Hid (fitsL (lastL l (foll l k).gaps l[k].bx k) (usedL l (foll l k).gaps l[k].sl k) l[k] = (foll l k).fits l[k]) := by
        show _ = _
        rw [lastL_foll l _ k k (Nat.le_refl _) (by omega), usedL_foll l _ k k (Nat.le_refl _) (by omega)]
        exact fitsL_foll l HV.out k l[k]
      have HFY : Hid ((foll l k).fits l[k] = true → (foll l (k + 1)).gaps = (foll l k).gaps) := fun h => by rw [foll_succ hl, step_yes h]; rfl
      have HFN : Hid ((foll l k).fits l[k] = false → (foll l (k + 1)).gaps = (foll l k).gaps ++ [(k : Int)]) := fun h => by rw [foll_succ hl, step_no h]
      clear hlen3 hl3
      go_wp2_with fail
      refine (sl31Fits_any _ n _ l _ j _ (foll l k).gaps k _ HN.out hm ((HR.out.below hbel).more hbel.size) HL3.out (by omega) hrow3 hl).mono ?_
      rintro e w2 ⟨rfl, hb2⟩
      have hbel2 := hbel.trans (hb2.mono hbs)
      have hown2 := own_below hown hb2
      have hbs2 := hbel2.size
      rw [HE.out]
      clear hbel hown hrow3 hb2
      cases hf : (foll l k).fits l[k] with
      | true =>
        have HG := Lib.hid (HFY.out hf)
        clear hf HFY HFN HE
        go_wp2_with fail
        go_roundw
        case rel => exact ⟨k + 1, j, by omega, by omega, by go_num, hbel2, by rw [HG.out]; exact hown2⟩
        case measure => simp [intOf]; omega
      | false =>
        have HG := Lib.hid (HFN.out hf)
        clear hf HFY HFN HE
        go_wp2_with (at_builtin; refine wpList_append_own_at _ rfl (.tmp 17) (.tmp 19) _ rfl w.heap.size 3 i0 _ 1 8 Try.underlying37 HI.out HZ0.out HZ1.out HZ2.out rfl (by omega) (.slice A3 j c3) _ _ rfl (own_alloc hown2 _) ⟨w2.heap.size, 0, none⟩ 1 1 [.int .i64 (k : Int)] rfl rfl (cell_one_new _ _ _) (by intro u hu; simp at hu; subst hu; rfl) (by unfold maxLen; omega) (by omega) (by simp; omega) ?_; intro v' w6 hown6 hgrow6 hnil6 hat6; clear hnil6 hat6)
        go_roundw
        case rel =>
          refine ⟨k + 1, j + 1, by omega, by omega, by go_num, (hbel2.alloc hbs2 _).grown hgrow6 (by simp; omega) (fun x hx => (own_block hown2 x hx).1), ?_⟩
          rw [HG.out, List.map_append]
          exact hown6
        case measure => simp [intOf]; omega
    · obtain rfl : k = n := by omega
      go_wp2_with fail
      go_ret
      exact GotInts.of_ hown hbel

set_option maxHeartbeats 1000000 in
theorem sLedgerGaps_any (A : Option Addr) (n c : Nat) (l : List Ev) (w : World) (hn : l.length = n) (hm : n ≤ 1048576) (ha : Row w w.heap.size A (evCells l)) :
    Calls Try.prog 29 #[.slice A n c] w (GotInts w (gapsE l)) := by
  have HN := Lib.hid hn
  clear hn
  go_enter Try.func29, Try.ntmps29
  go_wp2_with fail
  refine (sLedgerValid_any _ _ _ l _ HN.out hm ha).mono ?_
  rintro e w1 ⟨rfl, hb1⟩
  have ha1 := (ha.below hb1).more hb1.size
  clear ha
  cases hv : lvB l with
  | false =>
    have HQ := Lib.hid (gapsE_no hv)
    clear hv
    go_wp2_with fail
    go_ret
    refine GotInts.of_ (k := 0) ?_ (hb1.alloc hb1.size _)
    rw [HQ.out]
    exact own_empty w1 _ _ _ hb1.size
  | true =>
    have HQ := Lib.hid (gapsE_yes hv)
    have HV := Lib.hid (lvB_of hv).2
    clear hv
    go_wp2_with fail
    refine (sl31Gaps_any _ _ _ l _ HN.out hm HV.out ha1).mono ?_
    rintro e w2 ⟨A2, k2, c2, rfl, hl2, hk2, hc2, hown2, hb2⟩
    go_wp2_with fail
    go_ret
    have e1 : gapsE l = (foll l n).gaps := by rw [HQ.out, HN.out]
    refine ⟨A2, k2, c2, rfl, by rw [e1]; exact hl2, hk2, hc2, ?_, hb1.trans (hb2.mono hb1.size)⟩
    rw [e1]
    refine ⟨hown2.1, ?_⟩
    have hs := hb1.size
    rcases hown2.2 with h0 | ⟨g, cap, cur, hv, h1, h2⟩
    · exact .inl h0
    · exact .inr ⟨g, cap, cur, hv, by omega, h2⟩

end Go.Proofs.Ytdmgaafmmjeelaa
