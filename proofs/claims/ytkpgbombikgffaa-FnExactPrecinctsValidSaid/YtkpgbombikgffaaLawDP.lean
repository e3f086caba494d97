/- The law FnExactPrecinctsValid returns true and leaves all that was there as it was. The conditions stand in each theorem. -/
import Derived.Test.YtkpgbombikgffaaPrecsR
import Derived.Test.YtkpgbombikgffaaPrec2
namespace Go.Proofs.Ytkpgbombikgffaa
open Go.RowKit Go.ChangeShapes
set_option linter.unusedVariables false

theorem ps_core {l m : List Pc} (h : m.map core = l.map core) {P : List Pl → Prop} (hl : ∀ p ∈ l, P p.ps) : ∀ p ∈ m, P p.ps := fun p hp => by
  have h1 : core p ∈ l.map core := by rw [← h]; exact List.mem_map_of_mem hp
  obtain ⟨q, hq, e⟩ := List.mem_map.1 h1
  injection e with _ e2
  rw [← e2]
  exact hl q hq
theorem few_core {w : World} {l m : List Pc} (h : m.map core = l.map core) (hl : ∀ p ∈ l, p.ps.length ≤ 1048576 ∧ ∀ q ∈ p.ps, smallPl q) (hm : ∀ p ∈ m, PcIn w w.heap.size p) : Few w m := fun p hp =>
  ⟨hm p hp, ps_core (P := fun ps => ps.length ≤ 1048576 ∧ ∀ q ∈ ps, smallPl q) h hl p hp⟩

set_option maxHeartbeats 1000000 in
theorem FnExactPrecinctsValid_walk (z : Option Addr × Nat × Nat × List Pc) (w : World) (w0 : IsPrecs w z) :
    Calls Try.prog 16 #[pcSl z] w fun e w' => e = .returned (.bool true) ∧ Below w.heap.size w w' := by
  obtain ⟨A, n, c, l⟩ := z
  obtain ⟨hn, h1, h2, hr, hs⟩ := w0
  simp only at hn h1 h2 hs hr
  show Calls Try.prog 16 #[.slice A n c] w _
  have HN := Lib.hid hn
  have HS := Lib.hid hs
  clear hn hs
  go_enter Try.func16, Try.ntmps16
  go_wp2_with fail
  refine (szPrecinctS_any A n c l _ HN.out (Nat.le_trans h1 h2) HS.out hr).mono ?_
  rintro e w1 ⟨r, rfl, r0, r1, hsm, hb1⟩
  have HM := Lib.hid hsm
  clear hsm h2
  by_cases hneg : r < 0
  · go_wp2_with fail
    go_ret
    exact ⟨rfl, hb1⟩
  have HQ := Lib.hid (HM.out (by omega))
  have hm : n ≤ 1048576 := by have := HQ.out.1; rw [HN.out] at this; exact this
  have hr1 := (hr.below hb1).more hb1.size
  have HI : Hid (∀ W, Below w.heap.size w W → ∀ p ∈ l, PcIn W W.heap.size p ∧ p.ps.length ≤ 1048576) := fun W hW p hp => ⟨((HS.out p hp).1.below hW).more hW.size, (HQ.out.2 p hp).1⟩
  clear hr HM
  go_wp2_with fail
  refine (toPrecinctS_any A n c l _ HN.out hm (HI.out _ hb1) hr1).mono ?_
  rintro e w2 ⟨l2, rfl, c2, hb2, p2, hq2⟩
  have L2 : Hid (l2.length = n) := by have := congrArg List.length c2; simp only [List.length_map] at this; exact this.trans HN.out
  have F2 := Lib.hid (few_core c2 HQ.out.2 p2)
  have C2 := Lib.hid c2
  clear c2 p2
  go_wp2_with fail
  refine (sPrecinctsValid_any _ _ _ l2 _ L2.out hm F2.out hq2).mono ?_
  rw [C2.out]
  rintro e w3 ⟨rfl, hb3⟩
  have hb13 : Below w1.heap.size w1 w3 := hb2.trans (hb3.mono hb2.size)
  have hr3 := (hr1.below hb13).more hb13.size
  have b3 := hb1.trans (hb13.mono hb1.size)
  clear hq2 hb2 hb3 hr1 hb13 hb1
  go_wp2_with fail
  refine (toPrecinctS_any A n c l _ HN.out hm (HI.out _ b3) hr3).mono ?_
  rintro e w4 ⟨l4, rfl, c4, hb4, p4, hq4⟩
  have L4 : Hid (l4.length = n) := by have := congrArg List.length c4; simp only [List.length_map] at this; exact this.trans HN.out
  have F4 := Lib.hid (few_core c4 HQ.out.2 p4)
  have C4 := Lib.hid c4
  clear c4 p4
  go_wp2_with fail
  refine (PrecinctsValid_any _ _ _ l4 _ L4.out hm F4.out hq4).mono ?_
  rw [C4.out]
  rintro e w5 ⟨rfl, hb5⟩
  have hq5 := (hq4.below hb5).more hb5.size
  have F5 : Hid (∀ p ∈ l4, PcIn w5 w5.heap.size p ∧ p.ps.length ≤ 1048576) := fun p hp => ⟨((F4.out p hp).1.below hb5).more hb5.size, (F4.out p hp).2.1⟩
  have hb35 : Below w3.heap.size w3 w5 := hb4.trans (hb5.mono hb4.size)
  have hr5 := (hr3.below hb35).more hb35.size
  have b5 := b3.trans (hb35.mono b3.size)
  clear hq4 hb4 hb5 hr3 hb35 b3
  go_wp2_with fail
  refine (toPrecinctS_any A n c l _ HN.out hm (HI.out _ b5) hr5).mono ?_
  rintro e w6 ⟨l6, rfl, c6, hb6, p6, hq6⟩
  have hq7 := (hq5.below hb6).more hb6.size
  have F7 : Hid (∀ p ∈ l4, PcIn w6 w6.heap.size p ∧ p.ps.length ≤ 1048576) := fun p hp => ⟨((F5.out p hp).1.below hb6).more hb6.size, (F5.out p hp).2⟩
  have C6 : Hid (l4.map core = l6.map core) := by show _ = _; rw [C4.out, c6]
  have P6 := Lib.hid p6
  have b6 := b5.trans (hb6.mono b5.size)
  clear hq5 hr5 c6 p6 hb6 b5
  go_wp2_with fail
  refine (eqPrecinctS_same _ _ _ _ _ l4 l6 _ L4.out hm C6.out F7.out P6.out hq7 hq6).mono ?_
  rintro e w7 ⟨rfl, hb7⟩
  clear hq6 hq7
  go_wp2_with fail
  go_ret
  exact ⟨rfl, b6.trans (hb7.mono b6.size)⟩

end Go.Proofs.Ytkpgbombikgffaa
