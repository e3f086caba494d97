/- What the drawing of a risk, and of the arguments of AuditRisk and AuditLimit, gives: some numbers within bounds, and nothing that was there has turned. The conditions stand in each theorem. -/
import Derived.Test.YtjandooipgopoaaDrawA
namespace Go.Proofs.Ytjandooipgopoaa
open Go.RowKit Go.ChangeShapes
set_option linter.unusedVariables false

theorem grown_trans {a b c : World} {row : Option Nat} (h : a.grownBy b row) (k : b.grownBy c row) : a.grownBy c row :=
  ⟨k.os.trans h.os, k.tape.trans h.tape, k.output.trans h.output, Nat.le_trans h.size k.size, fun i hi hne => (k.block i (Nat.lt_of_lt_of_le hi h.size) hne).trans (h.block i hi hne)⟩
theorem grown_undrew {a b : World} {row : Option Nat} (h : a.drew.grownBy b row) : a.grownBy b row := ⟨h.os, h.tape, h.output, h.size, h.block⟩
theorem lit_two {w1 w2 w3 : World} {g p : Nat} {t : TypeId} (zs : List Int) (hr : Rd w1 g p) (hg : (w1.alloc (.cells (zs.map (Value.int .i64)).toArray t)).grownBy w2 (some g)) (hg2 : w2.grownBy w3 (some g)) (r : Int) (h0 : 0 ≤ r) (h1 : r < zs.length) :
    ∃ v ∈ zs, w3.cell? ⟨w1.heap.size, r.toNat, none⟩ = some (.int .i64 v) := lit_int zs hr (grown_trans hg hg2) r h0 h1
theorem lit_new (w1 : World) (t : TypeId) (zs : List Int) (r : Int) (h0 : 0 ≤ r) (h1 : r < zs.length) :
    ∃ v ∈ zs, (w1.alloc (.cells (zs.map (Value.int .i64)).toArray t)).cell? ⟨w1.heap.size, r.toNat, none⟩ = some (.int .i64 v) ∧ (zs.map (Value.int .i64))[r.toNat]? = some (.int .i64 v) := by
  have hj : r.toNat < zs.length := by omega
  refine ⟨zs[r.toNat], List.getElem_mem hj, ?_, by simp [hj]⟩
  rw [(Blk.new w1 t (zs.map (Value.int .i64)).toArray).cell r.toNat]
  simp [hj]

/-- Two numbers within bounds, and the reader still stands, asked at most three times more. -/
def Risked (w0 : World) (g p : Nat) (e : Ending) (w' : World) : Prop :=
  ∃ (a b : Int) (q : Nat), e = .returned (.tuple #[.int .i64 a, .int .i64 b]) ∧ (-100000 ≤ a ∧ a ≤ 100000) ∧ (-100000 ≤ b ∧ b ≤ 100000) ∧ q ≤ p + 3 ∧ RdI w0 w' g q

set_option maxHeartbeats 1000000 in
theorem l92Risk_any {w0 w : World} {g p : Nat} (I : RdI w0 w g p) (hp : p ≤ 1000) :
    Calls Try.prog 43 #[.pointer (some ⟨g, 0, none⟩)] w (Risked w0 g p) := by
  go_enter Try.func43, Try.ntmps43
  go_wp2_with fail
  refine (pickI _ I (by omega) (by omega)).mono ?_
  rintro e w2 ⟨r, rfl, r0, r1, I2, G2⟩
  clear I G2
  by_cases hr : r = 0
  · subst hr
    go_wp2_with fail
    have ID := I2.drew
    go_region_with (go_at_call 41; first
      | (refine (pickI _ ID (by omega) (by omega)).mono ?_; rintro e w3 ⟨s, rfl, s0, s1, I3, G3⟩; clear G3; have tok1 : True := trivial)
      | (refine (pickI _ (I2.alloc _).drew (by omega) (by omega)).mono ?_; rintro e w3 ⟨s, rfl, s0, s1, I3, G3⟩; have G3' := grown_undrew G3; clear G3)
      | (have _t := G3'; refine (pickI _ I3 (by omega) (by omega)).mono ?_; rintro e w4 ⟨t, rfl, t0, t1, I4, G4⟩; have t2 : t < 4 := (by omega); obtain ⟨v, hv, hc⟩ := lit_two (w1 := w2) [0, 1, 1000, 1001] I2.rd G3' G4 t t0 (by simp; omega); have I5 := (@id (RdI w0 w4 g (p + 1 + 1 + 1)) I4))
      | (have _t := tok1; refine (pickI _ I3 (by omega) (by omega)).mono ?_; rintro e w4 ⟨t, rfl, t0, t1, I4, G4⟩; have t2 : t < 4 := (by omega); obtain ⟨v, hv, hc, hl⟩ := lit_new w4 3 [0, 1, 1000, 1001] t t0 (by simp; omega); have I5 := I4.alloc (.cells #[.int .i64 0, .int .i64 1, .int .i64 1000, .int .i64 1001] 3))
      | (refine (pickI _ (I3.alloc _) (by omega) (by omega)).mono ?_; rintro e w4 ⟨t, rfl, t0, t1, I4, G4⟩; have t2 : t < 4 := (by omega); obtain ⟨v, hv, hc⟩ := lit_int [0, 1, 1000, 1001] I3.rd G4 t t0 (by simp; omega); have I5 := (@id (RdI w0 w4 g (p + 1 + 1 + 1)) I4)))
    all_goals
      go_wp2_with fail
      go_ret2
      have hv' : 0 ≤ v ∧ v ≤ 1001 := by
        simp at hv
        omega
      refine ⟨IntKind.i64.wrap (s - 1), v, _, ?_, ?_, ?_, Nat.le_refl _, I5⟩
      · first
          | (go_simp; done)
          | (have hl' := Lib.hid hl
             clear hl hc
             go_simp
             exact (List.getElem?_eq_some_iff.1 hl'.out).2)
      · rw [IntWalk.i64_in (s - 1) (by omega)]
        omega
      · omega
  · have hs' : (r == 0) = false := by simpa using hr
    go_wp2_with fail
    refine (pickI _ (I2.alloc _) (by omega) (by omega)).mono ?_
    rintro e w4 ⟨t, rfl, t0, t1, I4, G4⟩
    obtain ⟨v, hv, hc⟩ := lit_int [10, 20, 100] I2.rd G4 t t0 (by simp; omega)
    have hv' : 10 ≤ v ∧ v ≤ 100 := by
      simp at hv
      omega
    have t2 : t < 3 := by omega
    clear G4 hv I2
    go_wp2_with fail
    refine (pickI _ I4 (by omega) (by omega)).mono ?_
    rintro e w5 ⟨s, rfl, s0, s1, I5, G5⟩
    clear I4 G5
    go_wp2_with fail
    go_ret2
    exact ⟨_, _, _, rfl, by omega, by omega, by omega, I5⟩

set_option maxHeartbeats 1000000 in
theorem DrawAuditLimit_any (a : Option Addr) (len cap : Nat) (zs : List Int) (w : World) (h : IsRow .u8 w a len cap zs) :
    Calls Try.prog 29 #[.slice a len cap] w (Got4 w) := by
  go_enter Try.func29, Try.ntmps29
  go_wp2_with fail
  refine (open_any _ _ _ _ _ h).mono ?_
  rintro e w1 ⟨g, rfl, I⟩
  clear h
  go_wp2_with fail
  refine (pickI _ I (by omega) (by omega)).mono ?_
  rintro e w2 ⟨r, rfl, r0, r1, I2, G2⟩
  clear I G2
  go_wp2_with fail
  refine (pickI _ I2 (by omega) (by omega)).mono ?_
  rintro e w3 ⟨s, rfl, s0, s1, I3, G3⟩
  clear I2 G3
  go_upto_if 18 with fail
  go_cut [7] (fun s7 wx => ∃ (n : Int) (p : Nat), s7 = .int .i64 n ∧ 0 ≤ n ∧ n ≤ 21 ∧ p ≤ 10 ∧ RdI w wx g p)
  case first =>
    by_cases hs : s = 0
    · subst hs
      go_wp2_with fail
      refine (pickI _ (I3.alloc _) (by omega) (by omega)).mono ?_
      rintro e w4 ⟨t, rfl, t0, t1, I4, G4⟩
      obtain ⟨v, hv, hc⟩ := lit_int [0, 21] I3.rd G4 t t0 (by simp; omega)
      have hv' : 0 ≤ v ∧ v ≤ 21 := by
        simp at hv
        omega
      have t2 : t < 2 := by omega
      have I4' := Lib.hid I4
      clear I3 G4 I4 hv
      go_wp2_with fail
      go_meet
      exact ⟨v, _, rfl, hv'.1, hv'.2, by omega, I4'.out⟩
    · have hs' : (s == 0) = false := by simpa using hs
      go_wp2_with fail
      go_meet
      exact ⟨_, _, rfl, by omega, by omega, by omega, I3⟩
  case rest =>
    clear I3
    obtain ⟨n, p, rfl, n0, n1, hp, I4⟩ := hcut
    go_wp2_with fail
    refine (pickI _ I4 (by omega) (by omega)).mono ?_
    rintro e w5 ⟨t, rfl, t0, t1, I5, G5⟩
    clear I4 G5
    go_wp2_with fail
    refine (l92Risk_any I5 (by omega)).mono ?_
    rintro e w6 ⟨x, y, q, rfl, hx, hy, hq, I6⟩
    clear I5
    go_wp2_with fail
    refine bodyPost_ret (results_4 rfl _ _ _) rfl ?_
    exact ⟨_, _, _, _, rfl, by omega, by omega, by omega, by omega, I6.bel⟩

set_option maxHeartbeats 1000000 in
theorem DrawAuditRisk_any (a : Option Addr) (len cap : Nat) (zs : List Int) (w : World) (h : IsRow .u8 w a len cap zs) :
    Calls Try.prog 28 #[.slice a len cap] w (Got3 w) := by
  go_enter Try.func28, Try.ntmps28
  go_wp2_with fail
  refine (DrawAuditWays_any _ _ _ _ _ h).mono ?_
  rintro e w1 ⟨x, y, z, u, rfl, hx, hy, hz, hu, hb⟩
  clear h
  go_wp2_with fail
  go_ret3
  exact ⟨_, _, _, rfl, hx, hz, hu, hb⟩

end Go.Proofs.Ytjandooipgopoaa
