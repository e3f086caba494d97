/- The law FnPairErrorTwo returns true and leaves all that was there as it was. The conditions stand in each theorem. -/
import Derived.Test.YtkpgbombikgffaaDrawD3
import Derived.Test.YtkpgbombikgffaaBText
namespace Go.Proofs.Ytkpgbombikgffaa
open Go.RowKit Go.ChangeShapes
set_option linter.unusedVariables false

theorem row_one (w : World) (t : TypeId) (v : Value) : Row (w.alloc (.cells #[v] t)) (w.alloc (.cells #[v] t)).heap.size (some ⟨w.heap.size, 0, none⟩) [v] :=
  .inr ⟨w.heap.size, 0, rfl, by simp, fun j u hu => by
    rw [Nat.zero_add, (Blk.new w t #[v]).cell j]
    simpa using hu⟩
theorem chr_small (x : Nat) : (chr x).size ≤ 1048576 := by rw [chr_size]; omega

set_option maxRecDepth 100000 in
set_option maxHeartbeats 2000000 in
theorem FnPairErrorTwo_walk (a0 : Option Addr) (len0 cap0 : Nat) (z0 : List Int) (w : World) (w0 : IsRow .u8 w a0 len0 cap0 z0) :
    Calls Try.prog 7 #[.slice a0 len0 cap0] w fun e w' => e = .returned (.bool true) ∧ Below w.heap.size w w' := by
  have hcap := w0.len_le.2.1
  have hlen := w0.len_le.1
  unfold maxLen at hcap
  by_cases hbig : 1048576 < len0
  · clear w0
    go_enter Try.func7, Try.ntmps7
    go_wp2
    go_ret
    exact ⟨rfl, Below.refl _ _⟩
  go_enter Try.func7, Try.ntmps7
  go_wp2_with fail
  refine (DrawPairError_any _ _ _ _ _ w0).mono ?_
  rintro e w1 ⟨⟨pa, pb⟩, x, y, rfl, hsh, hx, hy, hb⟩
  have HS := Lib.hid (short_small hsh)
  clear w0 hbig hcap hlen hsh
  simp only [prV]
  have I1 := Bx.new w1 (pa, pb) 27
  go_wp2_with fail
  refine (PairError_any (pa, pb) x y _ HS.out).mono ?_
  rintro e w2 ⟨rfl, hb2⟩
  have I2 := I1.step hb2
  clear I1 hb2
  have k0 := I2.1
  have k1 := I2.2.1
  simp only at k0 k1
  go_wp2_with fail
  refine (sPairError_any (pa, pb) x y _ HS.out).mono ?_
  rintro e w3 ⟨rfl, hb3⟩
  have I3 := I2.step hb3
  clear I2 hb3 k0 k1
  have hbF := hb.trans (I3.2.2.2.mono hb.size)
  clear hb I3
  generalize pe (pa, pb) x y = z at *
  by_cases h1 : x < 0
  · go_wp2_with fail
    go_ret
    exact ⟨rfl, hbF⟩
  by_cases h2 : y < 0
  · go_wp2_with fail
    go_ret
    exact ⟨rfl, hbF⟩
  by_cases h3 : 5 ≤ x
  · go_wp2_with fail
    go_ret
    exact ⟨rfl, hbF⟩
  by_cases h4 : 5 ≤ y
  · go_wp2_with fail
    go_ret
    exact ⟨rfl, hbF⟩
  by_cases h5 : x = y
  · have q : (x == y) = true := by simpa using h5
    clear h5
    go_wp2_with fail
    go_ret
    exact ⟨rfl, hbF⟩
  have q : (x == y) = false := by simpa using h5
  obtain ⟨X, rfl⟩ := Int.eq_ofNat_of_zero_le (show 0 ≤ x by omega)
  obtain ⟨Y, rfl⟩ := Int.eq_ofNat_of_zero_le (show 0 ≤ y by omega)
  have hX : X < 5 := by omega
  have hY : Y < 5 := by omega
  obtain ⟨E1, E2, E3⟩ := pe_two X Y hX hY (by omega)
  clear h5
  go_wp2_with fail
  refine (BallotText_one X _ 1 _ hX (by omega) (by unfold maxLen; omega) (row_one w3 _ _)).mono ?_
  rintro e w4 ⟨rfl, hb4⟩
  have hbF4 := (hbF.alloc hbF.size (.cells #[.int .i64 (X : Int)] 3)).trans (hb4.mono (by have := hbF.size; simp; omega))
  clear hb4 hbF
  go_wp2_with fail
  refine (BallotText_one Y _ 1 _ hY (by omega) (by unfold maxLen; omega) (row_one w4 _ _)).mono ?_
  rintro e w5 ⟨rfl, hb5⟩
  have hbF5 := (hbF4.alloc hbF4.size (.cells #[.int .i64 (Y : Int)] 3)).trans (hb5.mono (by have := hbF4.size; simp; omega))
  clear hb5 hbF4
  have s1 := chr_small X
  have s2 := chr_small Y
  go_wp2_with fail
  refine (PairError_any (chr X, chr Y) X Y _ ⟨s1, s2⟩).mono ?_
  rintro e w6 ⟨rfl, hb6⟩
  have hbF6 := hbF5.trans (hb6.mono hbF5.size)
  rw [E1]
  clear hb6 hbF5
  go_wp2_with fail
  refine (PairError_any (chr X, ⟨#[]⟩) X Y _ ⟨s1, Nat.zero_le _⟩).mono ?_
  rintro e w7 ⟨rfl, hb7⟩
  have hbF7 := hbF6.trans (hb7.mono hbF6.size)
  rw [E2]
  clear hb7 hbF6
  go_wp2_with fail
  refine (PairError_any (⟨#[]⟩, chr X) X Y _ ⟨Nat.zero_le _, s1⟩).mono ?_
  rintro e w8 ⟨rfl, hb8⟩
  have hbF8 := hbF7.trans (hb8.mono hbF7.size)
  rw [E3]
  clear hb8 hbF7
  go_wp2_with fail
  go_ret
  exact ⟨rfl, hbF8⟩

end Go.Proofs.Ytkpgbombikgffaa
