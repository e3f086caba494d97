/- The law FnExactPairsWrong returns true and leaves all that was there as it was. The conditions stand in each theorem. -/
import Derived.Test.YtkpgbombikgffaaMark
import Derived.Test.YtkpgbombikgffaaOpenP
namespace Go.Proofs.Ytkpgbombikgffaa
open Go.RowKit Go.ChangeShapes
set_option linter.unusedVariables false

theorem rowIs_wrP {w : World} {b : Nat} {t : TypeId} {n : Nat} {f : Nat → Value} (h : w.rowIs b t n f) : Wr w (some ⟨b, 0, none⟩) n :=
  .inr ⟨b, 0, rfl, h.lt, fun j hj => ⟨⟨_, by rw [Nat.zero_add]; exact h.cell hj⟩, by rw [Nat.zero_add]; exact h.frozen j⟩⟩
theorem own_row {w : World} {base : Nat} {e : TypeId} {A : Option Addr} {n c : Nat} {xs : List Value} (h : w.ownsRow base e 1 (.slice A n c) n xs) : Row w w.heap.size A xs := by
  obtain ⟨_, _, he, _, _, _, hr⟩ := own_slice h
  injection he with e1
  rw [e1]
  exact hr

set_option maxHeartbeats 2000000 in
theorem FnExactPairsWrong_walk (z : Option Addr × Nat × Nat × List Pr) (w : World) (w0 : IsPairs w z) :
    Calls Try.prog 12 #[prSl z] w fun e w' => e = .returned (.bool true) ∧ Below w.heap.size w w' := by
  obtain ⟨A, n, c, ps⟩ := z
  obtain ⟨hn, h1, h2, hs, hr⟩ := w0
  simp only at hn h1 h2 hs hr
  show Calls Try.prog 12 #[.slice A n c] w _
  have HN := Lib.hid hn
  have HS := Lib.hid hs
  clear hn hs
  go_enter Try.func12, Try.ntmps12
  go_wp2_with fail
  refine (szPairS_any _ _ _ ps _ HN.out (Nat.le_trans h1 h2) HS.out hr).mono ?_
  rintro e w1 ⟨r, rfl, r0, r1, hsm, hb1⟩
  have HM := Lib.hid hsm
  clear hsm h2
  by_cases hneg : r < 0
  · go_wp2_with fail
    go_ret
    exact ⟨rfl, hb1⟩
  have HQ := Lib.hid (HM.out (by omega))
  have hm : n ≤ 1048576 := by have := HQ.out.1; rw [HN.out] at this; exact this
  have HR := Lib.hid hr
  have hr1 := (hr.below hb1).more hb1.size
  clear hr HM
  go_wp2_with fail
  refine (toPairS_any _ _ _ ps _ HN.out hm hr1).mono ?_
  intro e w2 C2
  have hq2 := C2.row HN.out
  obtain ⟨rfl, hb2, _⟩ := C2
  have B2 := hb1.trans (hb2.mono hb1.size)
  clear hr1 hb1 hb2
  go_wp2_with fail
  refine (sPairsWrong_any _ _ _ ps _ HN.out hm HQ.out.2 hq2).mono ?_
  rintro e w3 ⟨A1, k1, c1, rfl, hl1, hk1, hc1, hown1, hb3⟩
  have HWANT := Lib.hid (own_row hown1)
  have B3 := B2.trans (hb3.mono B2.size)
  have HL := Lib.hid hl1
  have hk20 : k1 ≤ 20 := by have := wrg_len ps; omega
  clear hq2 hb3 B2 hown1 hl1 hk1 hc1
  go_wp2_with fail
  refine (toPairS_any _ _ _ ps _ HN.out hm ((HR.out.below B3).more B3.size)).mono ?_
  intro e w4 C4
  have hq4 := C4.row HN.out
  obtain ⟨rfl, hb4, hx4⟩ := C4
  have hx4lt := hx4.lt
  go_wp2_with fail
  refine (PairsWrong_any _ _ _ ps _ HN.out hm HQ.out.2 hq4).mono ?_
  rintro e w5 ⟨A2, k2, c2, rfl, hl2, hk2, hc2, hown5, hb5⟩
  obtain rfl : k2 = k1 := by have := HL.out; omega
  have D5 : Below w3.heap.size w3 w5 := hb4.trans (hb5.mono hb4.size)
  have hx5 := hx4.of_block (hb5.block _ hx4.lt)
  have hq5 := (hq4.below hb5).more hb5.size
  clear hq4 hb4 hx4 hl2 hk2 hc2
  go_wp2_with fail
  refine (eqIntS_same _ _ _ _ _ (wrgL ps) _ HL.out (by omega) (own_row hown5) ((HWANT.out.below D5).more D5.size)).mono ?_
  rintro e w6 ⟨rfl, hb6⟩
  have D6 := D5.trans (hb6.mono D5.size)
  have hx6 := hx5.of_block (hb6.block _ hx5.lt)
  have hq6 := (hq5.below hb6).more hb6.size
  have hown6 := own_below hown5 hb6
  have B6 := B3.trans (D6.mono B3.size)
  clear D5 hx5 hq5 hb6 hown5
  go_wp2_with fail
  refine (toPairS_any _ _ _ ps _ HN.out hm ((HR.out.below B6).more B6.size)).mono ?_
  intro e w7 C7
  have hq7 := C7.row HN.out
  obtain ⟨rfl, hb7, _⟩ := C7
  have D7 := D6.trans (hb7.mono D6.size)
  have hx7 := hx6.of_block (hb7.block _ hx6.lt)
  have hq7' := (hq6.below hb7).more hb7.size
  have hown7 := own_below hown6 hb7
  clear D6 hx6 hq6 hb7 hown6 B6
  go_wp2_with fail
  refine (eqPairS_same _ _ _ _ _ ps _ HN.out hm hq7' hq7).mono ?_
  rintro e w8 ⟨rfl, hb8⟩
  have D8 := D7.trans (hb8.mono D7.size)
  have hx8 := hx7.of_block (hb8.block _ hx7.lt)
  have hown8 := own_below hown7 hb8
  clear D7 hx7 hq7 hq7' hb8 hown7
  go_wp2_with fail
  refine (markPairS_any _ n _ _ hm (rowIs_wrP hx8)).mono ?_
  rintro e w9 ⟨m, rfl, m0, G9⟩
  have D9 : Below w3.heap.size w3 w9 := D8.grown G9 D8.size (fun x hx => by simp [onBlock] at hx; omega)
  have hown9 : w9.ownsRow w4.heap.size 3 1 (.slice A2 k2 c2) k2 ((wrgL ps).map (Value.int .i64)) := own_grown hown8 G9 hx4lt
  clear D8 hx8 G9 hown8
  go_wp2_with fail
  refine (eqIntS_same _ _ _ _ _ (wrgL ps) _ HL.out (by omega) (own_row hown9) ((HWANT.out.below D9).more D9.size)).mono ?_
  rintro e w10 ⟨rfl, hb10⟩
  have D10 := D9.trans (hb10.mono D9.size)
  have hown10 := own_below hown9 hb10
  clear D9 hb10 hown9
  go_wp2_with fail
  refine (markIntS_any A2 k2 _ 1 _ (by omega) (by omega) (by omega) (own_wr hown10)).mono ?_
  rintro e w11 ⟨rfl, G11, hrow11⟩
  have D11 : Below w3.heap.size w3 w11 := D10.grown G11 D10.size (fun x hx => by
    cases A2 with
    | none => simp [onBlock] at hx
    | some ad =>
      simp [onBlock] at hx
      have := (own_block hown10 x (by simp [Value.ownBlock, hx])).1
      omega)
  clear D10 G11 hown10
  go_wp2_with fail
  refine (heldIntS_any A2 k2 _ 1 _ (by omega) (by omega) (by omega) hrow11).mono ?_
  rintro e w11' ⟨rfl, rfl⟩
  have B11 := B3.trans (D11.mono B3.size)
  go_wp2_with fail
  refine (toPairS_any _ _ _ ps _ HN.out hm ((HR.out.below B11).more B11.size)).mono ?_
  intro e w12 C12
  have hq12 := C12.row HN.out
  obtain ⟨rfl, hb12, _⟩ := C12
  have D12 := D11.trans (hb12.mono D11.size)
  have hrow12 := (hrow11.below hb12).more hb12.size
  clear D11 B11 hrow11 hb12
  go_wp2_with fail
  refine (PairsWrong_any _ _ _ ps _ HN.out hm HQ.out.2 hq12).mono ?_
  rintro e w13 ⟨A3, k3, c3, rfl, hl3, hk3, hc3, hown13, hb13⟩
  obtain rfl : k3 = k2 := by have := HL.out; omega
  have D13 := D12.trans (hb13.mono D12.size)
  have hrow13 := (hrow12.below hb13).more hb13.size
  clear D12 hrow12 hb13 hq12 hl3 hk3 hc3
  go_wp2_with fail
  refine (eqIntS_same _ _ _ _ _ (wrgL ps) _ HL.out (by omega) (own_row hown13) ((HWANT.out.below D13).more D13.size)).mono ?_
  rintro e w14 ⟨rfl, hb14⟩
  have D14 := D13.trans (hb14.mono D13.size)
  have hrow14 := (hrow13.below hb14).more hb14.size
  clear D13 hrow13 hb14 hown13
  go_wp2_with fail
  refine (heldIntS_any A2 k3 _ 1 _ (by omega) (by omega) (by omega) hrow14).mono ?_
  rintro e w14' ⟨rfl, rfl⟩
  clear hrow14
  go_wp2_with fail
  go_ret
  exact ⟨rfl, B3.trans (D14.mono B3.size)⟩

end Go.Proofs.Ytkpgbombikgffaa
