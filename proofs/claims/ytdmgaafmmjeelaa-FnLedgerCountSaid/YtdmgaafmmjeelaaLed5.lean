/- Ledgers: what custody.fits, followed and LedgerGaps of the program return. The conditions stand in each theorem. -/
import Derived.Test.YtdmgaafmmjeelaaLed4
import Derived.IntWalk
namespace Go.Proofs.Ytdmgaafmmjeelaa
open Go.RowKit Go.ChangeShapes
open Go.Maps (Keyed int_keyed keyOf_int_mk)
set_option linter.unusedVariables false

theorem keyI : Keyed Try.prog 3 := int_keyed Try.underlying3
theorem zeroEv (w : World) : (zeroValue 36).run Try.prog w = .ok (.agg #[.int .i64 0, .int .i64 0, .int .i64 0, .int .i64 0]) w := by kernel_rfl
theorem zeroBo (w : World) : (zeroValue 4).run Try.prog w = .ok (.bool false) w := by kernel_rfl
theorem wf_small {k : Int} (h0 : -1000 ≤ k) (h1 : k ≤ 1000) : (Lit.int .i64 k).wf = true := WalkArith.wf_i64 (by omega)
theorem below_grown {w w' : World} (hb : Below w.heap.size w w') (row : Option Nat) : w.grownBy w' row := ⟨hb.os, hb.tape, hb.output, hb.size, fun k hk _ => hb.block k hk⟩

theorem look_ev (w : World) {ops : Array Oper} {rest : List Oper} {o : Oper} {a : Act} {Q : Exit → Act → World → Prop} (hg : o.guard = none) (m x : Operand) (hop : o.op = Op.lookup 53 m x true)
    (b n : Nat) (D : DataW Unit) (f : Int → Option Ev) (hm : a.eval m = .map (some b)) (hown : w.ownsMap Try.prog 3 evR b n D) (hf : MapE D f) (key : Int) (hx : a.eval x = .int .i64 key) (hw : (Lit.int .i64 key).wf = true)
    (X : Ev) (hX : X = (f key).getD evZ) (B : Bool) (hB : B = (f key).isSome)
    (hK : wpList Try.prog ops Q rest (a.put o.dst (.tuple #[.agg #[.int .i64 X.bx, .int .i64 X.kd, .int .i64 X.sl, .int .i64 X.mn], .bool B])) w) : wpList Try.prog ops Q (o :: rest) a w := by
  refine wpList_lookup_own_ok w hg m x _ hop 3 36 keyI Try.underlying53 evR (zeroEv w) (evD evZ) [] rfl b n D hm hown _ _ hx (keyOf_int_mk Try.underlying3 hw) (fun v ps hv => ?_)
  have h1 := hf.2 key
  rw [h1.2, ← hX] at hv
  have h2 := evR_inv hv
  subst h2
  rw [h1.1, ← hB]
  exact hK
theorem look_bo (w : World) {ops : Array Oper} {rest : List Oper} {o : Oper} {a : Act} {Q : Exit → Act → World → Prop} (hg : o.guard = none) (m x : Operand) (hop : o.op = Op.lookup 54 m x false)
    (b n : Nat) (D : DataW Unit) (f : Int → Bool) (hm : a.eval m = .map (some b)) (hown : w.ownsMap Try.prog 3 boR b n D) (hf : MapB D f) (key : Int) (hx : a.eval x = .int .i64 key) (hw : (Lit.int .i64 key).wf = true)
    (B : Bool) (hB : B = f key) (hK : wpList Try.prog ops Q rest (a.put o.dst (.bool B)) w) : wpList Try.prog ops Q (o :: rest) a w := by
  refine wpList_plain hg fun K' hK' => ?_
  obtain ⟨v, ps, hrun, hv⟩ := hown.lookup (e := 4) (zd := .lit (.bool false)) (zp := []) keyI Try.underlying54 (zeroBo w) rfl (keyOf_int_mk Try.underlying3 hw)
  rw [hf.2 key, ← hB] at hv
  have h2 := boR_inv hv
  subst h2
  unfold Oper.wp
  simp [execOp, hop, hm, hx, hrun, Result.andThen]
  exact hK' _ _ hK

set_option maxRecDepth 100000 in
set_option maxHeartbeats 4000000 in
theorem fits_any (b1 b2 n : Nat) (gv : Value) (D1 D2 : DataW Unit) (f : Int → Option Ev) (u : Int → Bool) (p : Ev) (w : World) (hp : okE p = true) (M1 : w.ownsMap Try.prog 3 evR b1 n D1) (h1 : MapE D1 f) (M2 : w.ownsMap Try.prog 3 boR b2 n D2) (h2 : MapB D2 u) :
    Calls Try.prog 50 #[.agg #[.map (some b1), .map (some b2), gv], evV p] w (Says w (St.fits ⟨f, u, []⟩ p)) := by
  obtain ⟨vbx, vkd, vsl, vmn⟩ := p
  obtain ⟨g1, g2, g3, g4, g5, g6, g7, g8⟩ := (okE_iff _).1 hp
  simp only at g1 g2 g3 g4 g5 g6 g7 g8
  have HE := Lib.hid h1
  have HB := Lib.hid h2
  have KX := Lib.hid (wf_small (k := vbx) (by omega) (by omega))
  have KS := Lib.hid (wf_small (k := vsl) (by omega) (by omega))
  clear h1 h2 hp
  show Calls Try.prog 50 #[.agg #[.map (some b1), .map (some b2), gv], .agg #[.int .i64 vbx, .int .i64 vkd, .int .i64 vsl, .int .i64 vmn]] w _
  cases hfx : f vbx with
  | none =>
    have HF := Lib.hid hfx
    have HXV : Hid (evZ = (f vbx).getD evZ) := by rw [hfx]; rfl
    have HBV : Hid (false = (f vbx).isSome) := by rw [hfx]; rfl
    have hbel9 : Below w.heap.size w (((w.alloc (.cells #[.map (some b1), .map (some b2), gv] 56)).alloc (.cells #[.int .i64 vbx, .int .i64 vkd, .int .i64 vsl, .int .i64 vmn] 36)).alloc (.cells #[.int .i64 0, .int .i64 0, .int .i64 0, .int .i64 0] 36)) := (((Below.refl _ _).alloc (Nat.le_refl _) _).alloc (by simp) _).alloc (by simp; omega) _
    clear hfx
    by_cases h1 : vkd = 1
    · have qk : (vkd == 1) = true := by simpa using h1
      cases hu : (u vsl) with
      | true =>
        have HU : Hid (true = u vsl) := hu.symm
        have HR : Hid (St.fits ⟨f, u, []⟩ ⟨vbx, vkd, vsl, vmn⟩ = false) := by
          show _ = _
          simp only [St.fits, HF.out, if_pos h1, hu]
          try (first | rfl | simp)
        clear h1 hu
        go_enter Try.func50, Try.ntmps50
        go_wp2_with (first
          | (at_lookup; refine look_ev _ rfl _ _ rfl b1 n D1 f rfl ((M1.alloc _).alloc _) HE.out vbx rfl KX.out evZ HXV.out false HBV.out ?_)
          | (at_lookup; refine look_bo _ rfl _ _ rfl b2 n D2 u rfl (((M2.alloc _).alloc _).alloc _) HB.out vsl rfl KS.out true HU.out ?_))
        go_ret
        exact ⟨ret_bool HR.out.symm, hbel9⟩
      | false =>
        have HU : Hid (false = u vsl) := hu.symm
        have HR : Hid (St.fits ⟨f, u, []⟩ ⟨vbx, vkd, vsl, vmn⟩ = true) := by
          show _ = _
          simp only [St.fits, HF.out, if_pos h1, hu]
          try (first | rfl | simp)
        clear h1 hu
        go_enter Try.func50, Try.ntmps50
        go_wp2_with (first
          | (at_lookup; refine look_ev _ rfl _ _ rfl b1 n D1 f rfl ((M1.alloc _).alloc _) HE.out vbx rfl KX.out evZ HXV.out false HBV.out ?_)
          | (at_lookup; refine look_bo _ rfl _ _ rfl b2 n D2 u rfl (((M2.alloc _).alloc _).alloc _) HB.out vsl rfl KS.out false HU.out ?_))
        go_ret
        exact ⟨ret_bool HR.out.symm, hbel9⟩
    · have qk : (vkd == 1) = false := by simpa using h1
      have HU : Hid (u vsl = u vsl) := rfl
      have HR : Hid (St.fits ⟨f, u, []⟩ ⟨vbx, vkd, vsl, vmn⟩ = false) := by
        show _ = _
        simp only [St.fits, HF.out, if_neg h1]
        try (first | rfl | simp)
      clear h1
      go_enter Try.func50, Try.ntmps50
      go_wp2_with (first
        | (at_lookup; refine look_ev _ rfl _ _ rfl b1 n D1 f rfl ((M1.alloc _).alloc _) HE.out vbx rfl KX.out evZ HXV.out false HBV.out ?_)
        | (at_lookup; refine look_bo _ rfl _ _ rfl b2 n D2 u rfl (((M2.alloc _).alloc _).alloc _) HB.out vsl rfl KS.out (u vsl) HU.out ?_))
      go_ret
      exact ⟨ret_bool HR.out.symm, hbel9⟩
  | some x =>
    obtain ⟨xa, xb, xc, xd⟩ := x
    have HF := Lib.hid hfx
    have HXV : Hid ((⟨xa, xb, xc, xd⟩ : Ev) = (f vbx).getD evZ) := by rw [hfx]; rfl
    have HBV : Hid (true = (f vbx).isSome) := by rw [hfx]; rfl
    have hbel9 : Below w.heap.size w (((w.alloc (.cells #[.map (some b1), .map (some b2), gv] 56)).alloc (.cells #[.int .i64 vbx, .int .i64 vkd, .int .i64 vsl, .int .i64 vmn] 36)).alloc (.cells #[.int .i64 xa, .int .i64 xb, .int .i64 xc, .int .i64 xd] 36)) := (((Below.refl _ _).alloc (Nat.le_refl _) _).alloc (by simp) _).alloc (by simp; omega) _
    clear hfx
    by_cases h1 : vkd = 1
    · have qk : (vkd == 1) = true := by simpa using h1
      cases hu : (u vsl) with
      | true =>
        have HU : Hid (true = u vsl) := hu.symm
        have HR : Hid (St.fits ⟨f, u, []⟩ ⟨vbx, vkd, vsl, vmn⟩ = false) := by
          show _ = _
          simp only [St.fits, HF.out, if_pos h1, hu]
          try (first | rfl | simp)
        clear h1 hu
        go_enter Try.func50, Try.ntmps50
        go_wp2_with (first
          | (at_lookup; refine look_ev _ rfl _ _ rfl b1 n D1 f rfl ((M1.alloc _).alloc _) HE.out vbx rfl KX.out ⟨xa, xb, xc, xd⟩ HXV.out true HBV.out ?_)
          | (at_lookup; refine look_bo _ rfl _ _ rfl b2 n D2 u rfl (((M2.alloc _).alloc _).alloc _) HB.out vsl rfl KS.out true HU.out ?_))
        go_ret
        exact ⟨ret_bool HR.out.symm, hbel9⟩
      | false =>
        have HU : Hid (false = u vsl) := hu.symm
        cases q3 : (xb == 3) with
        | true =>
          have HR : Hid (St.fits ⟨f, u, []⟩ ⟨vbx, vkd, vsl, vmn⟩ = (xd == vmn)) := by
            show _ = _
            simp only [St.fits, HF.out, if_pos h1, hu, q3]
            try (first | rfl | simp)
          clear h1 hu
          go_enter Try.func50, Try.ntmps50
          go_wp2_with (first
            | (at_lookup; refine look_ev _ rfl _ _ rfl b1 n D1 f rfl ((M1.alloc _).alloc _) HE.out vbx rfl KX.out ⟨xa, xb, xc, xd⟩ HXV.out true HBV.out ?_)
            | (at_lookup; refine look_bo _ rfl _ _ rfl b2 n D2 u rfl (((M2.alloc _).alloc _).alloc _) HB.out vsl rfl KS.out false HU.out ?_))
          go_ret
          exact ⟨ret_bool HR.out.symm, hbel9⟩
        | false =>
          have HR : Hid (St.fits ⟨f, u, []⟩ ⟨vbx, vkd, vsl, vmn⟩ = false) := by
            show _ = _
            simp only [St.fits, HF.out, if_pos h1, hu, q3]
            try (first | rfl | simp)
          clear h1 hu
          go_enter Try.func50, Try.ntmps50
          go_wp2_with (first
            | (at_lookup; refine look_ev _ rfl _ _ rfl b1 n D1 f rfl ((M1.alloc _).alloc _) HE.out vbx rfl KX.out ⟨xa, xb, xc, xd⟩ HXV.out true HBV.out ?_)
            | (at_lookup; refine look_bo _ rfl _ _ rfl b2 n D2 u rfl (((M2.alloc _).alloc _).alloc _) HB.out vsl rfl KS.out false HU.out ?_))
          go_ret
          exact ⟨ret_bool HR.out.symm, hbel9⟩
    · have qk : (vkd == 1) = false := by simpa using h1
      have HU : Hid (u vsl = u vsl) := rfl
      cases q3 : (xb != 3) with
      | true =>
        cases qs : (xc == vsl) with
        | true =>
          have HR : Hid (St.fits ⟨f, u, []⟩ ⟨vbx, vkd, vsl, vmn⟩ = (xd == vmn)) := by
            show _ = _
            simp only [St.fits, HF.out, if_neg h1, q3, qs]
            try (first | rfl | simp)
          clear h1
          go_enter Try.func50, Try.ntmps50
          go_wp2_with (first
            | (at_lookup; refine look_ev _ rfl _ _ rfl b1 n D1 f rfl ((M1.alloc _).alloc _) HE.out vbx rfl KX.out ⟨xa, xb, xc, xd⟩ HXV.out true HBV.out ?_)
            | (at_lookup; refine look_bo _ rfl _ _ rfl b2 n D2 u rfl (((M2.alloc _).alloc _).alloc _) HB.out vsl rfl KS.out (u vsl) HU.out ?_))
          go_ret
          exact ⟨ret_bool HR.out.symm, hbel9⟩
        | false =>
          have HR : Hid (St.fits ⟨f, u, []⟩ ⟨vbx, vkd, vsl, vmn⟩ = false) := by
            show _ = _
            simp only [St.fits, HF.out, if_neg h1, q3, qs]
            try (first | rfl | simp)
          clear h1
          go_enter Try.func50, Try.ntmps50
          go_wp2_with (first
            | (at_lookup; refine look_ev _ rfl _ _ rfl b1 n D1 f rfl ((M1.alloc _).alloc _) HE.out vbx rfl KX.out ⟨xa, xb, xc, xd⟩ HXV.out true HBV.out ?_)
            | (at_lookup; refine look_bo _ rfl _ _ rfl b2 n D2 u rfl (((M2.alloc _).alloc _).alloc _) HB.out vsl rfl KS.out (u vsl) HU.out ?_))
          go_ret
          exact ⟨ret_bool HR.out.symm, hbel9⟩
      | false =>
        have HR : Hid (St.fits ⟨f, u, []⟩ ⟨vbx, vkd, vsl, vmn⟩ = false) := by
          show _ = _
          simp only [St.fits, HF.out, if_neg h1, q3]
          try (first | rfl | simp)
        clear h1
        go_enter Try.func50, Try.ntmps50
        go_wp2_with (first
          | (at_lookup; refine look_ev _ rfl _ _ rfl b1 n D1 f rfl ((M1.alloc _).alloc _) HE.out vbx rfl KX.out ⟨xa, xb, xc, xd⟩ HXV.out true HBV.out ?_)
          | (at_lookup; refine look_bo _ rfl _ _ rfl b2 n D2 u rfl (((M2.alloc _).alloc _).alloc _) HB.out vsl rfl KS.out (u vsl) HU.out ?_))
        go_ret
        exact ⟨ret_bool HR.out.symm, hbel9⟩

end Go.Proofs.Ytdmgaafmmjeelaa
