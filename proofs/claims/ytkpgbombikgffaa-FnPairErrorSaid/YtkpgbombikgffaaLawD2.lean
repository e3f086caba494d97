/- The law FnPairError returns true and leaves all that was there as it was. The conditions stand in each theorem. -/
import Derived.Test.YtkpgbombikgffaaDrawD3
namespace Go.Proofs.Ytkpgbombikgffaa
open Go.RowKit Go.ChangeShapes
set_option linter.unusedVariables false

set_option maxHeartbeats 1000000 in
theorem FnPairError_walk (a0 : Option Addr) (len0 cap0 : Nat) (z0 : List Int) (w : World) (w0 : IsRow .u8 w a0 len0 cap0 z0) :
    Calls Try.prog 6 #[.slice a0 len0 cap0] w fun e w' => e = .returned (.bool true) ∧ Below w.heap.size w w' := by
  have hcap := w0.len_le.2.1
  have hlen := w0.len_le.1
  unfold maxLen at hcap
  by_cases hbig : 1048576 < len0
  · clear w0
    go_enter Try.func6, Try.ntmps6
    go_wp2
    go_ret
    exact ⟨rfl, Below.refl _ _⟩
  go_enter Try.func6, Try.ntmps6
  go_wp2_with fail
  refine (DrawPairError_any _ _ _ _ _ w0).mono ?_
  rintro e w1 ⟨⟨pa, pb⟩, x, y, rfl, hsh, hx, hy, hb⟩
  have HS := Lib.hid (short_small hsh)
  have HS2 : Hid (smallPr (pb, pa)) := ⟨HS.out.2, HS.out.1⟩
  clear w0 hbig hcap hlen hsh
  simp only [prV]
  have I1 := Bx.new w1 (pa, pb) 27
  have E1 := pe_swap (pa, pb) x y
  have E2 := pe_rev pa pb x y
  have bd := pe_bd (pa, pb) x y
  have HE : Hid (pa = pb → pe (pa, pb) x y = 0) := fun e => by rw [e]; exact pe_self pb x y
  go_wp2_with fail
  refine (PairError_any (pa, pb) x y _ HS.out).mono ?_
  rintro e w2 ⟨rfl, hb2⟩
  have I2 := I1.step hb2
  clear I1 hb2
  have k0 := I2.1
  have k1 := I2.2.1
  simp only at k0 k1
  go_wp2_with fail
  refine (sPairError_any (pa, pb) x y _ HS.out).mono ?_
  rintro e w3 ⟨rfl, hb3⟩
  have I3 := I2.step hb3
  clear I2 hb3 k0 k1
  have k0 := I3.1
  have k1 := I3.2.1
  simp only at k0 k1
  go_wp2_with fail
  refine (PairError_any (pa, pb) y x _ HS.out).mono ?_
  rintro e w4 ⟨rfl, hb4⟩
  have I4 := I3.step hb4
  clear I3 hb4 k0 k1
  have k0 := I4.1
  have k1 := I4.2.1
  simp only at k0 k1
  go_wp2_with fail
  refine (PairError_any (pb, pa) x y _ HS2.out).mono ?_
  rintro e w5 ⟨rfl, hb5⟩
  have I5 := I4.step hb5
  clear I4 hb5 k0 k1
  have k0 := I5.1
  have k1 := I5.2.1
  simp only at k0 k1
  rw [E2]
  clear E1 E2
  have hbF := hb.trans (I5.2.2.2.mono hb.size)
  by_cases he : pa = pb
  · have e0 := HE.out he
    subst he
    rw [e0]
    clear HE e0 bd
    go_wp2_with fail
    go_ret
    exact ⟨rfl, hbF⟩
  · have q := str_ne he
    generalize pe (pa, pb) x y = z at *
    obtain ⟨b1, b2⟩ := bd
    clear HE he
    go_wp2_with fail
    go_ret
    exact ⟨rfl, hbF⟩

end Go.Proofs.Ytkpgbombikgffaa
