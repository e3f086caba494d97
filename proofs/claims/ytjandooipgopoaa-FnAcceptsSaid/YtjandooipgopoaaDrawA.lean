/- What the drawing of arguments gives for the laws of audits: some numbers within bounds, and nothing that was there has turned. The conditions stand in each theorem. -/
import Derived.Test.YtjandooipgopoaaPick
import Derived.Deep.DeepCutAuto
import Derived.Deep.RegionWith
import Derived.RegionTactic
namespace Go.Proofs.Ytjandooipgopoaa
open Go.RowKit Go.ChangeShapes
set_option linter.unusedVariables false

theorem results_4 {fn : Func} {t u v x : Tmp} (h : fn.results = #[.tmp t, .tmp u, .tmp v, .tmp x]) (tmps : Array Value) (P : Program) (w : World) :
    (results fn tmps).run P w = .ok (.tuple #[tmps.getD t undef, tmps.getD u undef, tmps.getD v undef, tmps.getD x undef]) w := by simp [results, h]

def Got2 (w : World) (e : Ending) (w' : World) : Prop :=
  ∃ a b : Int, e = .returned (.tuple #[.int .i64 a, .int .i64 b]) ∧ (-100000 ≤ a ∧ a ≤ 100000) ∧ (-100000 ≤ b ∧ b ≤ 100000) ∧ Below w.heap.size w w'
def Got3 (w : World) (e : Ending) (w' : World) : Prop :=
  ∃ a b c : Int, e = .returned (.tuple #[.int .i64 a, .int .i64 b, .int .i64 c]) ∧ (-100000 ≤ a ∧ a ≤ 100000) ∧ (-100000 ≤ b ∧ b ≤ 100000) ∧ (-100000 ≤ c ∧ c ≤ 100000) ∧ Below w.heap.size w w'
def Got4 (w : World) (e : Ending) (w' : World) : Prop :=
  ∃ a b c d : Int, e = .returned (.tuple #[.int .i64 a, .int .i64 b, .int .i64 c, .int .i64 d]) ∧ (-100000 ≤ a ∧ a ≤ 100000) ∧ (-100000 ≤ b ∧ b ≤ 100000) ∧ (-100000 ≤ c ∧ c ≤ 100000) ∧ (-100000 ≤ d ∧ d ≤ 100000) ∧ Below w.heap.size w w'

theorem Rd.lt {w : World} {g p : Nat} (h : Rd w g p) : g < w.heap.size := by
  obtain ⟨_, _, _, _, hb, _⟩ := h
  exact hb.lt
/-- A number out of a literal list, in a world where another block alone may have turned since. -/
theorem lit_int {w1 w2 : World} {g p : Nat} {t : TypeId} (zs : List Int) (hr : Rd w1 g p) (hg : (w1.alloc (.cells (zs.map (Value.int .i64)).toArray t)).grownBy w2 (some g)) (r : Int) (h0 : 0 ≤ r) (h1 : r < zs.length) :
    ∃ v ∈ zs, w2.cell? ⟨w1.heap.size, r.toNat, none⟩ = some (.int .i64 v) := by
  have hj : r.toNat < zs.length := by omega
  refine ⟨zs[r.toNat], List.getElem_mem hj, ?_⟩
  have hb := Blk.new w1 t (zs.map (Value.int .i64)).toArray
  have hc := hb.cell r.toNat
  have hlt := hr.lt
  have e := World.cell?_of_block (w := w1.alloc (.cells (zs.map (Value.int .i64)).toArray t)) (w' := w2) (a := ⟨w1.heap.size, r.toNat, none⟩) (hg.block w1.heap.size (by simp) (fun e => by injection e with e; omega))
  rw [e, hc]
  simp [hj]

set_option maxHeartbeats 400000 in
theorem DrawChoose_any (a : Option Addr) (len cap : Nat) (zs : List Int) (w : World) (h : IsRow .u8 w a len cap zs) :
    Calls Try.prog 24 #[.slice a len cap] w (Got2 w) := by
  go_enter Try.func24, Try.ntmps24
  go_wp2_with fail
  refine (open_any _ _ _ _ _ h).mono ?_
  rintro e w1 ⟨g, rfl, I⟩
  clear h
  go_wp2_with fail
  refine (pickI _ I (by omega) (by omega)).mono ?_
  rintro e w2 ⟨r, rfl, r0, r1, I2, G2⟩
  clear I G2
  go_wp2_with fail
  all_goals
    refine (pickI _ I2 (by omega) (by omega)).mono ?_
    rintro e w3 ⟨s, rfl, s0, s1, I3, G3⟩
    clear I2 G3
    go_wp2_with fail
    go_ret2
    exact ⟨_, _, rfl, by omega, by omega, I3.bel⟩

set_option maxHeartbeats 1000000 in
theorem DrawAuditWays_any (a : Option Addr) (len cap : Nat) (zs : List Int) (w : World) (h : IsRow .u8 w a len cap zs) :
    Calls Try.prog 27 #[.slice a len cap] w (Got4 w) := by
  go_enter Try.func27, Try.ntmps27
  go_wp2_with fail
  refine (open_any _ _ _ _ _ h).mono ?_
  rintro e w1 ⟨g, rfl, I⟩
  clear h
  go_wp2_with fail
  refine (pickI _ I (by omega) (by omega)).mono ?_
  rintro e w2 ⟨r, rfl, r0, r1, I2, G2⟩
  clear I G2
  go_wp2_with fail
  refine (pickI _ I2 (by omega) (by omega)).mono ?_
  rintro e w3 ⟨s, rfl, s0, s1, I3, G3⟩
  clear I2 G3
  go_upto_if 17 with fail
  go_cut [7] (fun s7 wx => ∃ (n : Int) (p : Nat), s7 = .int .i64 n ∧ -1 ≤ n ∧ n ≤ 21 ∧ p ≤ 10 ∧ RdI w wx g p)
  case first =>
    by_cases hs : s = 0
    · subst hs
      go_wp2_with fail
      refine (pickI _ (I3.alloc _) (by omega) (by omega)).mono ?_
      rintro e w4 ⟨t, rfl, t0, t1, I4, G4⟩
      obtain ⟨v, hv, hc⟩ := lit_int [0, -1, 21] I3.rd G4 t t0 (by simp; omega)
      have hv' : -1 ≤ v ∧ v ≤ 21 := by
        simp at hv
        omega
      have t2 : t < 3 := by omega
      have I4' := Lib.hid I4
      clear I3 G4 I4 hv
      go_wp2_with fail
      go_meet
      exact ⟨v, _, rfl, hv'.1, hv'.2, by omega, I4'.out⟩
    · have hs' : (s == 0) = false := by simpa using hs
      go_wp2_with fail
      go_meet
      exact ⟨_, _, rfl, by omega, by omega, by omega, I3⟩
  case rest =>
    clear I3
    obtain ⟨n, p, rfl, n0, n1, hp, I4⟩ := hcut
    go_wp2_with fail
    all_goals
      refine (pickI _ I4 (by omega) (by omega)).mono ?_
      rintro e w5 ⟨t, rfl, t0, t1, I5, G5⟩
      clear I4 G5
      go_wp2_with fail
      refine (pickI _ I5 (by omega) (by omega)).mono ?_
      rintro e w6 ⟨t', rfl, t0', t1', I6, G6⟩
      clear I5 G6
      go_wp2_with fail
      refine (pickI _ I6 (by omega) (by omega)).mono ?_
      rintro e w7 ⟨u, rfl, u0, u1, I7, G7⟩
      clear I6 G7
      go_wp2_with fail
      refine (pickI _ I7 (by omega) (by omega)).mono ?_
      rintro e w8 ⟨u', rfl, u0', u1', I8, G8⟩
      clear I7 G8
      go_wp2_with fail
      all_goals
        refine (pickI _ I8 (by omega) (by omega)).mono ?_
        rintro e w9 ⟨v, rfl, v0, v1, I9, G9⟩
        clear I8 G9
        go_wp2_with fail
        refine bodyPost_ret (results_4 rfl _ _ _) rfl ?_
        exact ⟨_, _, _, _, rfl, by omega, by omega, by omega, by omega, I9.bel⟩

end Go.Proofs.Ytjandooipgopoaa
