/- Who gets the next seat: what SeatsNext of the program and l21Next of the reference return. The conditions stand in each theorem. -/
import Derived.Test.YtjanmgiliooocaaE2
namespace Go.Proofs.Ytjanmgiliooocaa
open Go.RowKit Go.ChangeShapes
open Man
set_option linter.unusedVariables false

def Gives (w : World) (z : Int) (e : Ending) (w' : World) : Prop := e = .returned (.int .i64 z) ∧ Below w.heap.size w w'
/-- What stands ahead of a round of the search: places in range, quotients small. -/
theorem quot_bd {a s me : Int} (a0 : 0 ≤ a) (a1 : a ≤ 396) (s0 : 0 ≤ s) (s1 : s ≤ 20) (hm : me = 1 ∨ me = 2) : 0 ≤ dv me s ∧ dv me s ≤ 41 ∧ 0 ≤ a * dv me s ∧ a * dv me s ≤ 16236 := by
  have hd : 0 ≤ dv me s ∧ dv me s ≤ 41 := by
    rcases hm with rfl | rfl <;> (unfold dv; omega)
  have := mul_bd a0 a1 hd.1 hd.2
  exact ⟨hd.1, hd.2, this.1, by omega⟩
theorem gtQ_iff {v g : List Int} {me : Int} {P B : Nat} (h1 : P < v.length) (h2 : B < v.length) (h3 : P < g.length) (h4 : B < g.length) : gtQ v g me (P : Int) (B : Int) = decide (v[B] * dv me g[P] < v[P] * dv me g[B]) := by
  unfold gtQ
  rw [atZ_nat v h1, atZ_nat v h2, atZ_nat g h3, atZ_nat g h4]
theorem bestF_take {v g : List Int} {me b : Int} {l : List Int} {k : Nat} (hk : k < l.length) : bestF v g me b (l.take (k + 1)) = if gtQ v g me l[k] (bestF v g me b (l.take k)) = true then l[k] else bestF v g me b (l.take k) := by
  rw [List.take_succ_eq_append_getElem hk, bestF_snoc]

/-- Votes, seats and lots that lie in memory and fit each other. -/
structure Fit (v g : List Int) (me : Int) (lots : List Int) (n : Nat) : Prop where
  vl : v.length = n
  gl : g.length = n
  ll : lots.length = n
  n1 : 1 ≤ n
  n5 : n ≤ 5
  vb : ∀ z ∈ v, 0 ≤ z ∧ z ≤ 396
  gb : ∀ z ∈ g, 0 ≤ z ∧ z ≤ 20
  lb : ∀ z ∈ lots, 0 ≤ z ∧ z < (n : Int)
  mm : me = 1 ∨ me = 2
theorem fit_of {v g : List Int} {me : Int} {lots : List Int} (h : snB v g me lots = true) : Fit v g me lots v.length := by
  obtain ⟨h1, h2, h3, h4, h5, h6, h7⟩ := snB_of h
  obtain ⟨v1, v2, v3, _⟩ := vvB_of h2
  have L := lots_of h6
  exact ⟨rfl, h3, h7, v2, v3, fun z hz => by have := v1 z hz; omega, inAll_of h1, fun z hz => by have := L.bd z hz; rw [h7] at this; exact this, h5⟩

set_option maxHeartbeats 2000000 in
theorem l21Next_any (A : Option Addr) (n c : Nat) (v : List Int) (G : Option Addr) (d : Nat) (g : List Int) (me : Int) (Lo : Option Addr) (f : Nat) (lots : List Int) (w : World) (hf : Fit v g me lots n)
    (hv : Row w w.heap.size A (v.map (Value.int .i64))) (hg : Row w w.heap.size G (g.map (Value.int .i64))) (hl : Row w w.heap.size Lo (lots.map (Value.int .i64))) :
    Calls Try.prog 28 #[.slice A n c, .slice G n d, .int .i64 me, .slice Lo n f] w (Gives w (nextL v g me lots)) := by
  obtain ⟨e1, e2, e3, n1, n5, vb, gb, lb, hme⟩ := hf
  have E1 := Lib.hid e1
  have E2 := Lib.hid e2
  have E3 := Lib.hid e3
  have VB := Lib.hid vb
  have GB := Lib.hid gb
  have LB := Lib.hid lb
  have hl0 : 0 < lots.length := by omega
  obtain ⟨b0, off0, rfl, hbw0, hc0⟩ := int_at hl hl0
  rw [Nat.add_zero] at hc0
  have hz0 := lb _ (List.getElem_mem hl0)
  have H0 : Hid (nextL v g me lots = bestF v g me lots[0] lots ∧ bestF v g me lots[0] (lots.take 1) = lots[0]) := by
    cases lots with
    | nil => simp at hl0
    | cons z l => exact ⟨rfl, by simp [bestF]⟩
  clear vb gb lb e1 e2 e3
  generalize lots[0] = z0 at *
  obtain ⟨Z0, rfl⟩ := Int.eq_ofNat_of_zero_le hz0.1
  go_enter Try.func28, Try.ntmps28
  go_wp2_with fail
  go_loopw [9, 10] (fun s i wx => ∃ (k B : Nat), 1 ≤ k ∧ k ≤ n ∧ i = .int .i64 k ∧ s = .int .i64 (B : Int) ∧ B < n ∧ Hid (bestF v g me (Z0 : Int) (lots.take k) = (B : Int)) ∧ Below w.heap.size w wx) (fun _ i _ => n - (intOf i).toNat)
  case atStart => exact ⟨1, Z0, Nat.le_refl _, n1, rfl, rfl, by omega, H0.out.2, Below.refl _ _⟩
  case round =>
    obtain ⟨k, B, hk1, hk, rfl, rfl, hB, HX, hbel⟩ := hrel
    clear hc0 hbw0
    by_cases hlt : k < n
    · have hl1 : k < lots.length := by rw [E3.out]; exact hlt
      have HS := Lib.hid (bestF_take (v := v) (g := g) (me := me) (b := (Z0 : Int)) hl1)
      have hz := LB.out _ (List.getElem_mem hl1)
      have hcl := (hl.below hbel).cellOf (k := k) (by simpa using hl1)
      simp only [List.getElem_map] at hcl
      generalize lots[k] = z at *
      obtain ⟨P, rfl⟩ := Int.eq_ofNat_of_zero_le hz.1
      have hP : P < n := by omega
      have p1 : P < v.length := by rw [E1.out]; exact hP
      have p2 : B < v.length := by rw [E1.out]; exact hB
      have p3 : P < g.length := by rw [E2.out]; exact hP
      have p4 : B < g.length := by rw [E2.out]; exact hB
      have HQ := Lib.hid (gtQ_iff (me := me) p1 p2 p3 p4)
      obtain ⟨bv, offv, rfl, hbv, hcv1⟩ := int_at (hv.below hbel) p1
      have hcv2 := (hv.below hbel).cellOf (k := B) (by simpa using p2)
      obtain ⟨bg, offg, rfl, hbg, hcg1⟩ := int_at (hg.below hbel) p3
      have hcg2 := (hg.below hbel).cellOf (k := B) (by simpa using p4)
      simp only [List.getElem_map] at hcv2 hcg2
      have y1 := VB.out _ (List.getElem_mem p1)
      have y2 := VB.out _ (List.getElem_mem p2)
      have y3 := GB.out _ (List.getElem_mem p3)
      have y4 := GB.out _ (List.getElem_mem p4)
      clear hl hv hg
      generalize v[P] = vp at *
      generalize v[B] = vb at *
      generalize g[P] = gp at *
      generalize g[B] = gb at *
      have q1 := quot_bd y1.1 y1.2 y4.1 y4.2 hme
      have q2 := quot_bd y2.1 y2.2 y3.1 y3.2 hme
      obtain ⟨y31, y32⟩ := y3
      obtain ⟨y41, y42⟩ := y4
      obtain ⟨q11, q12, q13, q14⟩ := q1
      obtain ⟨q21, q22, q23, q24⟩ := q2
      have D1 := Lib.hid (fun w => sl21Divisor_any gb me w y41 (by omega) hme)
      have D2 := Lib.hid (fun w => sl21Divisor_any gp me w y31 (by omega) hme)
      generalize dv me gp = dp at *
      generalize dv me gb = db at *
      clear y1 y2 hz hme
      by_cases hgt : vb * dp < vp * db
      · have HR : Hid (bestF v g me (Z0 : Int) (lots.take (k + 1)) = (P : Int)) := by
          show _ = _
          rw [HS.out, HX.out, HQ.out, decide_eq_true hgt]
          rfl
        go_wp2_with fail
        go_quiet ((go_at_call 46; exact quiet_left (by first | exact D1.out _ | exact D2.out _)))
        go_wp2_with fail
        go_roundw
        case rel => exact ⟨k + 1, P, by omega, by omega, by go_num, rfl, hP, HR, below_drewN hbel _⟩
        case measure => simp [intOf]; omega
      · have HR : Hid (bestF v g me (Z0 : Int) (lots.take (k + 1)) = (B : Int)) := by
          show _ = _
          rw [HS.out, HX.out, HQ.out, decide_eq_false hgt]
          rfl
        go_wp2_with fail
        go_quiet ((go_at_call 46; exact quiet_left (by first | exact D1.out _ | exact D2.out _)))
        go_wp2_with fail
        go_roundw
        case rel => exact ⟨k + 1, B, by omega, by omega, by go_num, rfl, hB, HR, below_drewN hbel _⟩
        case measure => simp [intOf]; omega
    · have HQ : Hid ((B : Int) = nextL v g me lots) := by
        have := HX.out
        rw [List.take_of_length_le (by rw [E3.out]; omega)] at this
        show _ = _
        rw [H0.out.1, this]
      go_wp2_with fail
      go_ret
      exact ⟨ret_int HQ.out, hbel⟩

end Go.Proofs.Ytjanmgiliooocaa
