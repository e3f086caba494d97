/- Ledgers: the laws FnExactLedgerGaps and FnExactLedgerSealed return true and leave all that was there as it was. The conditions stand in each theorem. -/
import Derived.Test.YtdmgaafmmjeelaaLed7
import Derived.Test.YtdmgaafmmjeelaaLed2
namespace Go.Proofs.Ytdmgaafmmjeelaa
open Go.RowKit Go.ChangeShapes
set_option linter.unusedVariables false

theorem rowIs_wrE {w : World} {b : Nat} {t : TypeId} {n : Nat} {f : Nat → Value} (h : w.rowIs b t n f) : Wr w (some ⟨b, 0, none⟩) n :=
  .inr ⟨b, 0, rfl, h.lt, fun j hj => ⟨⟨_, by rw [Nat.zero_add]; exact h.cell hj⟩, by rw [Nat.zero_add]; exact h.frozen j⟩⟩
theorem cells_set {w : World} {g off n : Nat} (h : ∀ t, t < n → (∃ u, w.cell? ⟨g, off + t, none⟩ = some u) ∧ w.frozen? ⟨g, off + t, none⟩ = false) (i : Nat) (v : Value) :
    ∀ t, t < n → (∃ u, (w.setCell ⟨g, i, none⟩ v).cell? ⟨g, off + t, none⟩ = some u) ∧ (w.setCell ⟨g, i, none⟩ v).frozen? ⟨g, off + t, none⟩ = false := fun t ht => by
  obtain ⟨⟨u, hu⟩, hf⟩ := h t ht
  refine ⟨?_, by rw [World.frozen?_setCell]; exact hf⟩
  by_cases e : off + t = i
  · subst e
    exact ⟨_, World.cell?_setCell_same _ _ _ hu⟩
  · exact ⟨u, (World.cell?_setCell_other _ _ _ _ (fun e' => e (by injection e' with _ e2 _; omega))).trans hu⟩
def MarkedE (w : World) (A : Option Addr) (e : Ending) (w' : World) : Prop :=
  ∃ r : Int, e = .returned (.int .i64 r) ∧ 0 ≤ r ∧ w.grownBy w' (onBlock A)
set_option maxHeartbeats 1000000 in
theorem markEventS_any (A : Option Addr) (n c : Nat) (w : World) (hm : n ≤ 1048576) (hw : Wr w A (n * 4)) :
    Calls Try.prog 32 #[.slice A n c, .int .i64 1] w (MarkedE w A) := by
  rcases hw with h0 | ⟨g, off, rfl, hg, hw⟩
  · obtain rfl : n = 0 := by omega
    go_enter Try.func32, Try.ntmps32
    go_wp2_with fail
    go_loop [1, 5] (fun s i => s = .int .i64 1 ∧ i = .int .i64 0) (fun _ _ => 0)
    case atStart => exact ⟨rfl, rfl⟩
    case round =>
      obtain ⟨rfl, rfl⟩ := hrel
      go_wp2_with fail
      go_ret
      exact ⟨1, rfl, by omega, World.grownBy.refl w _⟩
  · have HW := Lib.hid hw
    clear hw
    go_enter Try.func32, Try.ntmps32
    go_wp2_with fail
    go_loopw [1, 5] (fun s i wx => ∃ j : Nat, j ≤ n ∧ i = .int .i64 j ∧ s = .int .i64 (1 + 4 * (j : Int)) ∧ w.grownBy wx (some g) ∧ Hid (∀ t, t < n * 4 → (∃ u, wx.cell? ⟨g, off + t, none⟩ = some u) ∧ wx.frozen? ⟨g, off + t, none⟩ = false)) (fun _ i _ => n - (intOf i).toNat)
    case atStart => exact ⟨0, Nat.zero_le _, rfl, by simp, World.grownBy.refl w _, HW⟩
    case round =>
      obtain ⟨j, hj, rfl, rfl, hgr, HC⟩ := hrel
      by_cases hlt : j < n
      · obtain ⟨⟨u0, hu0⟩, hf0⟩ := HC.out (j * 4) (by omega)
        obtain ⟨⟨u1, hu1⟩, hf1⟩ := HC.out (j * 4 + 1) (by omega)
        obtain ⟨⟨u2, hu2⟩, hf2⟩ := HC.out (j * 4 + 2) (by omega)
        obtain ⟨⟨u3, hu3⟩, hf3⟩ := HC.out (j * 4 + 3) (by omega)
        have a1 : wr.cell? ⟨g, off + j * 4 + 1, none⟩ = some u1 := hu1
        have a2 : wr.cell? ⟨g, off + j * 4 + 2, none⟩ = some u2 := hu2
        have a3 : wr.cell? ⟨g, off + j * 4 + 3, none⟩ = some u3 := hu3
        have b1 : wr.frozen? ⟨g, off + j * 4 + 1, none⟩ = false := hf1
        have b2 : wr.frozen? ⟨g, off + j * 4 + 2, none⟩ = false := hf2
        have b3 : wr.frozen? ⟨g, off + j * 4 + 3, none⟩ = false := hf3
        clear hu1 hu2 hu3 hf1 hf2 hf3
        go_wp2_with fail
        go_roundw
        case rel => exact ⟨j + 1, by omega, by go_num, by go_num, only_set (only_set (only_set (only_set hgr _ _) _ _) _ _) _ _, cells_set (cells_set (cells_set (cells_set HC.out _ _) _ _) _ _) _ _⟩
        case measure => simp [intOf]; omega
      · go_wp2_with fail
        go_ret
        exact ⟨_, rfl, by omega, hgr⟩

set_option maxHeartbeats 2000000 in
theorem FnExactLedgerSealed_walk (z : Option Addr × Nat × Nat × List Ev) (bb : Int) (w : World) (w0 : IsEvs w z) (wb : (Lit.int .i64 bb).wf = true) :
    Calls Try.prog 4 #[evSl z, .int .i64 bb] w fun e w' => e = .returned (.bool true) ∧ Below w.heap.size w w' := by
  obtain ⟨A, n, c, l⟩ := z
  obtain ⟨hn, h1, h2, hr⟩ := w0
  simp only at hn h1 h2 hr
  show Calls Try.prog 4 #[.slice A n c, .int .i64 bb] w _
  have HN := Lib.hid hn
  have HR := Lib.hid hr
  have KB := Lib.hid wb
  clear hn hr wb
  go_enter Try.func4, Try.ntmps4
  go_wp2_with fail
  refine (szEventS_any _ _ _ _ (Nat.le_trans h1 h2)).mono ?_
  rintro e w' ⟨r, rfl, r0, r1, hsm, rfl⟩
  by_cases hneg : r < 0
  · go_wp2_with fail
    go_ret
    exact ⟨rfl, Below.refl _ _⟩
  have hm := hsm (by omega)
  clear hsm h2
  go_wp2_with fail
  refine (toEventS_any _ _ _ l _ HN.out hm HR.out).mono ?_
  intro e w2 C2
  have hq2 := C2.row HN.out
  obtain ⟨rfl, hb2, _⟩ := C2
  go_wp2_with fail
  refine (sLedgerSealed_any _ _ _ l bb _ HN.out hm hq2).mono ?_
  rintro e w3 ⟨rfl, hb3⟩
  have B3 := hb2.trans (hb3.mono hb2.size)
  clear hq2 hb2 hb3
  go_wp2_with fail
  refine (toEventS_any _ _ _ l _ HN.out hm ((HR.out.below B3).more B3.size)).mono ?_
  intro e w4 C4
  have hq4 := C4.row HN.out
  obtain ⟨rfl, hb4, _⟩ := C4
  go_wp2_with fail
  refine (LedgerSealed_any _ _ _ l bb _ HN.out hm KB.out hq4).mono ?_
  rintro e w5 ⟨rfl, hb5⟩
  have hq5 := (hq4.below hb5).more hb5.size
  have B4 := B3.trans (hb4.mono B3.size)
  have B5 := B4.trans (hb5.mono B4.size)
  clear hq4 hb4 hb5 B3 B4
  generalize sea l bb = s
  obtain ⟨s1, s2, s3⟩ := s
  go_wp2_with fail
  refine (toEventS_any _ _ _ l _ HN.out hm ((HR.out.below B5).more B5.size)).mono ?_
  intro e w6 C6
  have hq6 := C6.row HN.out
  obtain ⟨rfl, hb6, _⟩ := C6
  have hq7 := (hq5.below hb6).more hb6.size
  have B6 := B5.trans (hb6.mono B5.size)
  clear hq5 hb6 B5
  go_wp2_with fail
  refine (eqEventS_same _ _ _ _ _ l _ HN.out hm hq7 hq6).mono ?_
  rintro e w7 ⟨rfl, hb7⟩
  clear hq6 hq7
  go_wp2_with fail
  go_ret
  exact ⟨rfl, B6.trans (hb7.mono B6.size)⟩

set_option maxHeartbeats 2000000 in
theorem FnExactLedgerGaps_walk (z : Option Addr × Nat × Nat × List Ev) (w : World) (w0 : IsEvs w z) :
    Calls Try.prog 13 #[evSl z] w fun e w' => e = .returned (.bool true) ∧ Below w.heap.size w w' := by
  obtain ⟨A, n, c, ps⟩ := z
  obtain ⟨hn, h1, h2, hr⟩ := w0
  simp only at hn h1 h2 hr
  show Calls Try.prog 13 #[.slice A n c] w _
  have HN := Lib.hid hn
  clear hn
  go_enter Try.func13, Try.ntmps13
  go_wp2_with fail
  refine (szEventS_any _ _ _ _ (Nat.le_trans h1 h2)).mono ?_
  rintro e w1 ⟨r, rfl, r0, r1, hsm, rfl⟩
  by_cases hneg : r < 0
  · go_wp2_with fail
    go_ret
    exact ⟨rfl, Below.refl _ _⟩
  have hm := hsm (by omega)
  have hb1 : Below w.heap.size w w := Below.refl _ _
  clear hsm h2
  have HR := Lib.hid hr
  have hr1 := (hr.below hb1).more hb1.size
  clear hr
  go_wp2_with fail
  refine (toEventS_any _ _ _ ps _ HN.out hm hr1).mono ?_
  intro e w2 C2
  have hq2 := C2.row HN.out
  obtain ⟨rfl, hb2, _⟩ := C2
  have B2 := hb1.trans (hb2.mono hb1.size)
  clear hr1 hb1 hb2
  go_wp2_with fail
  refine (sLedgerGaps_any _ _ _ ps _ HN.out hm hq2).mono ?_
  rintro e w3 ⟨A1, k1, c1, rfl, hl1, hk1, hc1, hown1, hb3⟩
  have HWANT := Lib.hid (own_row hown1)
  have B3 := B2.trans (hb3.mono B2.size)
  have HL := Lib.hid hl1
  have hk20 : k1 ≤ 20 := by have := gapsE_len ps; omega
  clear hq2 hb3 B2 hown1 hl1 hk1 hc1
  go_wp2_with fail
  refine (toEventS_any _ _ _ ps _ HN.out hm ((HR.out.below B3).more B3.size)).mono ?_
  intro e w4 C4
  have hq4 := C4.row HN.out
  obtain ⟨rfl, hb4, hx4⟩ := C4
  have hx4lt := hx4.lt
  go_wp2_with fail
  refine (LedgerGaps_any _ _ _ ps _ HN.out hm hq4).mono ?_
  rintro e w5 ⟨A2, k2, c2, rfl, hl2, hk2, hc2, hown5, hb5⟩
  obtain rfl : k2 = k1 := by have := HL.out; omega
  have D5 : Below w3.heap.size w3 w5 := hb4.trans (hb5.mono hb4.size)
  have hx5 := hx4.of_block (hb5.block _ hx4.lt)
  have hq5 := (hq4.below hb5).more hb5.size
  clear hq4 hb4 hx4 hl2 hk2 hc2
  go_wp2_with fail
  refine (eqIntS_same _ _ _ _ _ (gapsE ps) _ HL.out (by omega) (own_row hown5) ((HWANT.out.below D5).more D5.size)).mono ?_
  rintro e w6 ⟨rfl, hb6⟩
  have D6 := D5.trans (hb6.mono D5.size)
  have hx6 := hx5.of_block (hb6.block _ hx5.lt)
  have hq6 := (hq5.below hb6).more hb6.size
  have hown6 := own_below hown5 hb6
  have B6 := B3.trans (D6.mono B3.size)
  clear D5 hx5 hq5 hb6 hown5
  go_wp2_with fail
  refine (toEventS_any _ _ _ ps _ HN.out hm ((HR.out.below B6).more B6.size)).mono ?_
  intro e w7 C7
  have hq7 := C7.row HN.out
  obtain ⟨rfl, hb7, _⟩ := C7
  have D7 := D6.trans (hb7.mono D6.size)
  have hx7 := hx6.of_block (hb7.block _ hx6.lt)
  have hq7' := (hq6.below hb7).more hb7.size
  have hown7 := own_below hown6 hb7
  clear D6 hx6 hq6 hb7 hown6 B6
  go_wp2_with fail
  refine (eqEventS_same _ _ _ _ _ ps _ HN.out hm hq7' hq7).mono ?_
  rintro e w8 ⟨rfl, hb8⟩
  have D8 := D7.trans (hb8.mono D7.size)
  have hx8 := hx7.of_block (hb8.block _ hx7.lt)
  have hown8 := own_below hown7 hb8
  clear D7 hx7 hq7 hq7' hb8 hown7
  go_wp2_with fail
  refine (markEventS_any _ n _ _ hm (rowIs_wrE hx8)).mono ?_
  rintro e w9 ⟨m, rfl, m0, G9⟩
  have D9 : Below w3.heap.size w3 w9 := D8.grown G9 D8.size (fun x hx => by simp [onBlock] at hx; omega)
  have hown9 : w9.ownsRow w4.heap.size 3 1 (.slice A2 k2 c2) k2 ((gapsE ps).map (Value.int .i64)) := own_grown hown8 G9 hx4lt
  clear D8 hx8 G9 hown8
  go_wp2_with fail
  refine (eqIntS_same _ _ _ _ _ (gapsE ps) _ HL.out (by omega) (own_row hown9) ((HWANT.out.below D9).more D9.size)).mono ?_
  rintro e w10 ⟨rfl, hb10⟩
  have D10 := D9.trans (hb10.mono D9.size)
  have hown10 := own_below hown9 hb10
  clear D9 hb10 hown9
  go_wp2_with fail
  refine (markIntS_any A2 k2 _ 1 _ (by omega) (by omega) (by omega) (own_wr hown10)).mono ?_
  rintro e w11 ⟨rfl, G11, hrow11⟩
  have D11 : Below w3.heap.size w3 w11 := D10.grown G11 D10.size (fun x hx => by
    cases A2 with
    | none => simp [onBlock] at hx
    | some ad =>
      simp [onBlock] at hx
      have := (own_block hown10 x (by simp [Value.ownBlock, hx])).1
      omega)
  clear D10 G11 hown10
  go_wp2_with fail
  refine (heldIntS_any A2 k2 _ 1 _ (by omega) (by omega) (by omega) hrow11).mono ?_
  rintro e w11' ⟨rfl, rfl⟩
  have B11 := B3.trans (D11.mono B3.size)
  go_wp2_with fail
  refine (toEventS_any _ _ _ ps _ HN.out hm ((HR.out.below B11).more B11.size)).mono ?_
  intro e w12 C12
  have hq12 := C12.row HN.out
  obtain ⟨rfl, hb12, _⟩ := C12
  have D12 := D11.trans (hb12.mono D11.size)
  have hrow12 := (hrow11.below hb12).more hb12.size
  clear D11 B11 hrow11 hb12
  go_wp2_with fail
  refine (LedgerGaps_any _ _ _ ps _ HN.out hm hq12).mono ?_
  rintro e w13 ⟨A3, k3, c3, rfl, hl3, hk3, hc3, hown13, hb13⟩
  obtain rfl : k3 = k2 := by have := HL.out; omega
  have D13 := D12.trans (hb13.mono D12.size)
  have hrow13 := (hrow12.below hb13).more hb13.size
  clear D12 hrow12 hb13 hq12 hl3 hk3 hc3
  go_wp2_with fail
  refine (eqIntS_same _ _ _ _ _ (gapsE ps) _ HL.out (by omega) (own_row hown13) ((HWANT.out.below D13).more D13.size)).mono ?_
  rintro e w14 ⟨rfl, hb14⟩
  have D14 := D13.trans (hb14.mono D13.size)
  have hrow14 := (hrow13.below hb14).more hb14.size
  clear D13 hrow13 hb14 hown13
  go_wp2_with fail
  refine (heldIntS_any A2 k3 _ 1 _ (by omega) (by omega) (by omega) hrow14).mono ?_
  rintro e w14' ⟨rfl, rfl⟩
  clear hrow14
  go_wp2_with fail
  go_ret
  exact ⟨rfl, B3.trans (D14.mono B3.size)⟩

end Go.Proofs.Ytdmgaafmmjeelaa
