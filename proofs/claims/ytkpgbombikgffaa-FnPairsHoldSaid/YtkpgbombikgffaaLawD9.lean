/- The law FnPairsHold returns true and leaves all that was there as it was. The conditions stand in each theorem. -/
import Derived.Test.YtkpgbombikgffaaDrawH
import Derived.Test.YtkpgbombikgffaaPair4
namespace Go.Proofs.Ytkpgbombikgffaa
open Go.RowKit Go.ChangeShapes
set_option linter.unusedVariables false

set_option maxRecDepth 100000 in
set_option maxHeartbeats 2000000 in
theorem FnPairsHold_walk (a0 : Option Addr) (len0 cap0 : Nat) (z0 : List Int) (w : World) (w0 : IsRow .u8 w a0 len0 cap0 z0) :
    Calls Try.prog 14 #[.slice a0 len0 cap0] w fun e w' => e = .returned (.bool true) ∧ Below w.heap.size w w' := by
  have hcap := w0.len_le.2.1
  have hlen := w0.len_le.1
  unfold maxLen at hcap
  by_cases hbig : 1048576 < len0
  · clear w0
    go_enter Try.func14, Try.ntmps14
    go_wp2
    go_ret
    exact ⟨rfl, Below.refl _ _⟩
  have dd0 : decide ((1048576 : Int) < (len0 : Int)) = false := by simp; omega
  go_enter Try.func14, Try.ntmps14
  go_wp2_with fail
  refine (DrawPairsHold_any _ _ _ _ _ w0).mono ?_
  rintro e w2 ⟨A, ps, n, c, x, y, m, u, rfl, hl, hn, hsh, hc1, hc2, hx, hy, hr, hb⟩
  have HN := Lib.hid hl
  have HS : Hid (∀ z ∈ ps, smallPr z) := fun z hz => short_small (hsh z hz)
  clear w0 hbig hcap hlen hl hsh hc1 hc2
  have hbd := pse_bd ps x y
  go_wp2_with fail
  refine (PairsHold_any _ _ _ ps _ _ _ _ _ HN.out (by omega) HS.out hr).mono ?_
  rintro e w3 ⟨rfl, hb3⟩
  have hr3 := (hr.below hb3).more hb3.size
  have hbF3 := hb.trans (hb3.mono hb.size)
  clear hr hb3 hb
  go_wp2_with fail
  refine (sPairsHold_any _ _ _ ps _ _ _ _ _ HN.out (by omega) HS.out hr3).mono ?_
  rintro e w4 ⟨rfl, hb4⟩
  have hr4 := (hr3.below hb4).more hb4.size
  have hbF4 := hbF3.trans (hb4.mono hbF3.size)
  clear hr3 hb4 hbF3
  go_wp2_with fail
  refine (PairsError_any _ _ _ ps _ _ _ HN.out (by omega) HS.out hr4).mono ?_
  rintro e w5 ⟨rfl, hb5⟩
  have hbF5 := hbF4.trans (hb5.mono hbF4.size)
  clear hr4 hb5 hbF4
  cases hp : pseB ps x y with
  | false =>
    have e1 : phB ps x y m u = false := phB_no (.inl hp)
    rw [e1]
    clear e1 hp
    go_wp2_with fail
    go_ret
    exact ⟨rfl, hbF5⟩
  | true =>
    by_cases h1 : m < 0
    · have e1 : phB ps x y m u = false := phB_no (by omega)
      rw [e1]
      clear e1 hp
      go_wp2_with fail
      go_ret
      exact ⟨rfl, hbF5⟩
    by_cases h2 : 9999 < m
    · have e1 : phB ps x y m u = false := phB_no (by omega)
      rw [e1]
      clear e1 hp
      go_wp2_with fail
      go_ret
      exact ⟨rfl, hbF5⟩
    by_cases h3 : u < 0
    · have e1 : phB ps x y m u = false := phB_no (by omega)
      rw [e1]
      clear e1 hp
      go_wp2_with fail
      go_ret
      exact ⟨rfl, hbF5⟩
    by_cases h4 : 9999 < u
    · have e1 : phB ps x y m u = false := phB_no (by omega)
      rw [e1]
      clear e1 hp
      go_wp2_with fail
      go_ret
      exact ⟨rfl, hbF5⟩
    · have e1 : phB ps x y m u = decide (pseZ ps x y + 2 * u < m) := phB_yes hp (by omega) (by omega) (by omega) (by omega)
      rw [e1]
      clear e1 hp
      generalize pseZ ps x y = z at *
      by_cases h5 : z + 2 * u < m
      · have e2 : decide (z + 2 * u < m) = true := by simpa using h5
        rw [e2]
        go_wp2_with fail
        go_ret
        exact ⟨rfl, hbF5⟩
      · have e2 : decide (z + 2 * u < m) = false := by simpa using h5
        rw [e2]
        go_wp2_with fail
        go_ret
        exact ⟨rfl, hbF5⟩

end Go.Proofs.Ytkpgbombikgffaa
