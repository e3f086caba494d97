/- The laws FnExactManifestPick and FnManifestPick return true and leave all that was there as it was; what is drawn for the second. The conditions stand in each theorem. -/
import Derived.Test.YtkjdccpomldmeaaPickA
import Derived.Test.YtkjdccpomldmeaaPickB
import Derived.Test.YtkjdccpomldmeaaDrawB
import Derived.Test.YtkjdccpomldmeaaToInts
namespace Go.Proofs.Ytkjdccpomldmeaa
open Go.RowKit Go.ChangeShapes
open Man
set_option linter.unusedVariables false

theorem IsRow.parts {w : World} {a : Option Addr} {len cap : Nat} {zs : List Int} (h : IsRow .i64 w a len cap zs) :
    ∃ ys : List Int, ys.length = len ∧ len ≤ cap ∧ cap ≤ maxLen ∧ Row w w.heap.size a (ys.map (Value.int .i64)) :=
  ⟨zs.take len, h.len_le.2.2, h.len_le.1, h.len_le.2.1, h.row⟩
theorem wr_below {w w' : World} {A : Option Addr} {n : Nat} (h : Wr w A n) (hb : Below w.heap.size w w') : Wr w' A n := by
  rcases h with h | ⟨g, off, e, hg, hh⟩
  · exact .inl h
  · refine .inr ⟨g, off, e, Nat.lt_of_lt_of_le hg hb.size, fun j hj => ?_⟩
    obtain ⟨⟨u, hu⟩, hf⟩ := hh j hj
    exact ⟨⟨u, (hb.cell (p := ⟨g, off + j, none⟩) hg).trans hu⟩, (hb.frozen (p := ⟨g, off + j, none⟩) hg).trans hf⟩

set_option maxRecDepth 100000 in
set_option maxHeartbeats 4000000 in
theorem FnExactManifestPick_walk (a0 : Option Addr) (len0 cap0 : Nat) (z0 : List Int) (m s : Int) (w : World) (w0 : IsRow .i64 w a0 len0 cap0 z0) (w1 : (Lit.int .i64 m).wf = true) (w2 : (Lit.int .i64 s).wf = true) :
    Calls Try.prog 3 #[.slice a0 len0 cap0, .int .i64 m, .int .i64 s] w fun e w' => e = .returned (.bool true) ∧ Below w.heap.size w w' := by
  obtain ⟨ys, hn, h1, h2, hr⟩ := w0.parts
  clear w0 w1 w2
  unfold maxLen at h2
  have HN := Lib.hid hn
  clear hn
  by_cases hbig : 1048576 < len0
  · clear hr
    go_enter Try.func3, Try.ntmps3
    go_wp2
    go_ret
    exact ⟨rfl, Below.refl _ _⟩
  have hm : len0 ≤ 1048576 := by omega
  have HR := Lib.hid hr
  clear hr
  have hk8 := pickL_len ys m s
  go_enter Try.func3, Try.ntmps3
  go_wp2_with fail
  refine (toIntS_any _ _ _ ys _ HN.out hm HR.out).mono ?_
  intro e w2 C2
  have hq2 := C2.row HN.out
  obtain ⟨rfl, hb2, _⟩ := C2
  go_wp2_with fail
  refine (sManifestPick_any _ _ _ ys m s _ HN.out hm hq2).mono ?_
  rintro e w3 ⟨A1, k1, c1, rfl, hl1, hrow1, hwr1, hA1, hb3⟩
  have HWANT := Lib.hid hrow1
  have B3 := hb2.trans (hb3.mono hb2.size)
  have HL := Lib.hid hl1
  have hk : k1 ≤ 8 := by omega
  clear hq2 hb2 hb3 hrow1 hl1 hwr1 hA1 hk8
  go_wp2_with fail
  refine (toIntS_any _ _ _ ys _ HN.out hm ((HR.out.below B3).more B3.size)).mono ?_
  intro e w4 C4
  have hq4 := C4.row HN.out
  obtain ⟨rfl, hb4, hx4⟩ := C4
  have hx4lt := hx4.lt
  go_wp2_with fail
  refine (ManifestPick_any _ _ _ ys m s _ HN.out hm hq4).mono ?_
  rintro e w5 ⟨A2, k2, c2, rfl, hl2, hrow5, hwr5, hA2, hb5⟩
  obtain rfl : k2 = k1 := by have := HL.out; omega
  have D5 : Below w3.heap.size w3 w5 := hb4.trans (hb5.mono hb4.size)
  have hx5 := hx4.of_block (hb5.block _ hx4.lt)
  have hq5 := (hq4.below hb5).more hb5.size
  have HA2 := Lib.hid hA2
  generalize hsb : smpB (tot ys) m s = sb at *
  have HSB := Lib.hid hsb
  clear hsb
  clear hq4 hb4 hx4 hl2 hA2
  go_wp2_with fail
  refine (eqIntS_same _ _ _ _ _ (pickL ys m s) _ HL.out (by omega) hrow5 ((HWANT.out.below D5).more D5.size)).mono ?_
  rintro e w6 ⟨rfl, hb6⟩
  have D6 := D5.trans (hb6.mono D5.size)
  have hx6 := hx5.of_block (hb6.block _ hx5.lt)
  have hq6 := (hq5.below hb6).more hb6.size
  have hrow6 := (hrow5.below hb6).more hb6.size
  have hwr6 := wr_below hwr5 hb6
  have B6 := B3.trans (D6.mono B3.size)
  clear D5 hx5 hq5 hb6 hrow5 hwr5
  go_wp2_with fail
  refine (toIntS_any _ _ _ ys _ HN.out hm ((HR.out.below B6).more B6.size)).mono ?_
  intro e w7 C7
  have hq7 := C7.row HN.out
  obtain ⟨rfl, hb7, _⟩ := C7
  have D7 := D6.trans (hb7.mono D6.size)
  have hx7 := hx6.of_block (hb7.block _ hx6.lt)
  have hq7' := (hq6.below hb7).more hb7.size
  have hrow7 := (hrow6.below hb7).more hb7.size
  have hwr7 := wr_below hwr6 hb7
  clear D6 hx6 hq6 hb7 hrow6 hwr6 B6
  go_wp2_with fail
  refine (eqIntS_same _ _ _ _ _ ys _ HN.out hm hq7' hq7).mono ?_
  rintro e w8 ⟨rfl, hb8⟩
  have D8 := D7.trans (hb8.mono D7.size)
  have hx8 := hx7.of_block (hb8.block _ hx7.lt)
  have hrow8 := (hrow7.below hb8).more hb8.size
  have hwr8 := wr_below hwr7 hb8
  clear D7 hx7 hq7 hq7' hb8 hrow7 hwr7
  go_wp2_with fail
  refine (markIntS_any _ len0 _ 1 _ hm (by omega) (by omega) (rowIs_wr hx8)).mono ?_
  rintro e w9 ⟨rfl, G9, hrowm⟩
  have D9 : Below w3.heap.size w3 w9 := D8.grown G9 D8.size (fun x hx => by simp [onBlock] at hx; omega)
  have hfar : ∀ ad : Addr, A2 = some ad → some ad.block ≠ onBlock (some ⟨w3.heap.size, 0, none⟩) := fun ad e => by
    have := HA2.out ad e
    simp [onBlock]
    omega
  have hrow9 : Row w9 w9.heap.size A2 ((pickL ys m s).map (Value.int .i64)) := by
    rcases hrow8 with h | ⟨b, off, e, hb, hc⟩
    · exact .inl h
    · exact .inr ⟨b, off, e, Nat.lt_of_lt_of_le hb G9.size, fun j u hu => (World.cell?_of_block (G9.block b hb (hfar _ e))).trans (hc j u hu)⟩
  have hwr9 : Wr w9 A2 k2 := by
    rcases hwr8 with h | ⟨g, off, e, hg, hh⟩
    · exact .inl h
    · refine .inr ⟨g, off, e, Nat.lt_of_lt_of_le hg G9.size, fun j hj => ?_⟩
      obtain ⟨⟨u, hu⟩, hf⟩ := hh j hj
      have hbk := G9.block g hg (hfar _ e)
      exact ⟨⟨u, (World.cell?_of_block hbk).trans hu⟩, (World.frozen?_of_block hbk).trans hf⟩
  clear D8 hx8 G9 hrow8 hwr8 hrowm hfar
  go_wp2_with fail
  refine (eqIntS_same _ _ _ _ _ (pickL ys m s) _ HL.out (by omega) hrow9 ((HWANT.out.below D9).more D9.size)).mono ?_
  rintro e w10 ⟨rfl, hb10⟩
  have D10 := D9.trans (hb10.mono D9.size)
  have hwr10 := wr_below hwr9 hb10
  clear D9 hb10 hrow9 hwr9
  go_wp2_with fail
  refine (markIntS_any A2 k2 _ 1 _ (by omega) (by omega) (by omega) hwr10).mono ?_
  rintro e w11 ⟨rfl, G11, hrow11⟩
  have D11 : Below w3.heap.size w3 w11 := D10.grown G11 D10.size (fun x hx => by
    cases A2 with
    | none => simp [onBlock] at hx
    | some ad =>
      simp [onBlock] at hx
      have := HA2.out ad rfl
      omega)
  clear D10 G11 hwr10
  go_wp2_with fail
  refine (heldIntS_any A2 k2 _ 1 _ (by omega) (by omega) (by omega) hrow11).mono ?_
  rintro e w11' ⟨rfl, rfl⟩
  have B11 := B3.trans (D11.mono B3.size)
  go_wp2_with fail
  refine (toIntS_any _ _ _ ys _ HN.out hm ((HR.out.below B11).more B11.size)).mono ?_
  intro e w12 C12
  have hq12 := C12.row HN.out
  obtain ⟨rfl, hb12, _⟩ := C12
  have D12 := D11.trans (hb12.mono D11.size)
  have hrow12 := (hrow11.below hb12).more hb12.size
  clear D11 B11 hrow11 hb12
  go_wp2_with fail
  refine (ManifestPick_any _ _ _ ys m s _ HN.out hm hq12).mono ?_
  rintro e w13 ⟨A3, k3, c3, rfl, hl3, hrow13', hwr13, hA3, hb13⟩
  obtain rfl : k3 = k2 := by have := HL.out; omega
  have D13 := D12.trans (hb13.mono D12.size)
  have hrow13 := (hrow12.below hb13).more hb13.size
  clear D12 hrow12 hb13 hq12 hl3 hwr13 hA3
  rw [HSB.out]
  go_wp2_with fail
  refine (eqIntS_same _ _ _ _ _ (pickL ys m s) _ HL.out (by omega) hrow13' ((HWANT.out.below D13).more D13.size)).mono ?_
  rintro e w14 ⟨rfl, hb14⟩
  have D14 := D13.trans (hb14.mono D13.size)
  have hrow14 := (hrow13.below hb14).more hb14.size
  clear D13 hrow13 hb14 hrow13'
  go_wp2_with fail
  refine (heldIntS_any A2 k3 _ 1 _ (by omega) (by omega) (by omega) hrow14).mono ?_
  rintro e w14' ⟨rfl, rfl⟩
  clear hrow14
  go_wp2_with fail
  go_ret
  exact ⟨rfl, B3.trans (D14.mono B3.size)⟩

end Go.Proofs.Ytkjdccpomldmeaa
