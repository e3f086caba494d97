/- What pick of the reference's drawing does, its world written out: the reader's own place alone is set. The conditions stand in each theorem. -/
import Derived.Test.YtkjdccpomldmeaaPick
namespace Go.Proofs.Ytkjdccpomldmeaa
open Go.RowKit Go.ChangeShapes
set_option linter.unusedVariables false

def PickedX (w : World) (g p : Nat) (m : Int) (e : Ending) (w' : World) : Prop :=
  ∃ (r : Int) (k : Nat), e = .returned (.int .i64 r) ∧ 0 ≤ r ∧ (r < m ∨ r = 0) ∧ w' = (w.setCell ⟨g, 1, none⟩ (.int .i64 ((p + 1 : Nat) : Int))).drewN k

set_option maxHeartbeats 1000000 in
theorem pick_x (w : World) (g p : Nat) (m : Int) (hr : Rd w g p) (hp : p ≤ 1000000) (hm : m ≤ 1000000) :
    Calls Try.prog 37 #[.pointer (some ⟨g, 0, none⟩), .int .i64 m] w (PickedX w g p m) := by
  obtain ⟨A, n, c, zs, hb, h1, h2, h3, h4, h5, h6⟩ := hr
  have hc0 : w.cell? ⟨g, 0, none⟩ = some (.slice A n c) := by simpa using hb.cell 0
  have hc1 : w.cell? ⟨g, 1, none⟩ = some (.int .i64 (p : Int)) := by simpa using hb.cell 1
  have hf1 := hb.frozen 1
  unfold maxLen at h3
  have HL := Lib.hid h4
  clear hb h4
  by_cases hm1 : m < 1
  · clear h6 h5
    go_enter Try.func37, Try.ntmps37
    go_wp2
    go_ret
    exact ⟨0, 0, rfl, by omega, .inr rfl, rfl⟩
  by_cases hn : n = 0
  · have e0 : ((n : Int) == 0) = true := by simp; omega
    subst hn
    clear h6 h5
    go_enter Try.func37, Try.ntmps37
    go_wp2
    go_ret
    exact ⟨0, 0, rfl, by omega, .inr rfl, rfl⟩
  have e0 : ((n : Int) == 0) = false := by simp; omega
  rcases h6 with h6 | ⟨b, off, rfl, hbg, hcell⟩
  · have := HL.out
    rw [List.map_eq_nil_iff] at h6
    rw [h6] at this
    simp at this
    omega
  have at_ : ∀ j, j < n → ∃ z : Int, 0 ≤ z ∧ z ≤ 255 ∧ w.cell? ⟨b, off + j, none⟩ = some (.int .u8 z) := by
    intro j hj
    have hj' : j < zs.length := by rw [HL.out]; exact hj
    refine ⟨zs[j], (h5 _ (List.getElem_mem hj')).1, (h5 _ (List.getElem_mem hj')).2, hcell j _ ?_⟩
    rw [List.getElem?_map, List.getElem?_eq_getElem hj']
    rfl
  have hne : b ≠ g := by omega
  clear hcell h5
  by_cases hpn : p < n
  · obtain ⟨z, z0, z1, hz⟩ := at_ p hpn
    clear at_
    go_enter Try.func37, Try.ntmps37
    go_wp2
    go_ret
    exact ⟨z % m, 0, rfl, Int.emod_nonneg _ (by omega), .inl (Int.emod_lt_of_pos _ (by omega)), rfl⟩
  · obtain ⟨z, z0, z1, hz⟩ := at_ (p % n) (Nat.mod_lt _ (by omega))
    obtain ⟨y, y0, y1, hy⟩ := at_ ((p * 7 + 3) % n) (Nat.mod_lt _ (by omega))
    clear at_
    have e1 : (p : Int) % (n : Int) = ((p % n : Nat) : Int) := rfl
    have e2 : ((p : Int) * 7 + 3) % (n : Int) = (((p * 7 + 3) % n : Nat) : Int) := rfl
    have l1 : p % n < n := Nat.mod_lt _ (by omega)
    have l2 : (p * 7 + 3) % n < n := Nat.mod_lt _ (by omega)
    have i0 : 0 ≤ ((p : Int) * 7 + 3) % (n : Int) := by rw [e2]; omega
    have i1 : ((p : Int) * 7 + 3) % (n : Int) < (n : Int) := by rw [e2]; exact Int.ofNat_lt.2 l2
    have i2 : (((p : Int) * 7 + 3) % (n : Int)).toNat = (p * 7 + 3) % n := by rw [e2]; exact Int.toNat_natCast _
    have j0 : 0 ≤ (p : Int) % (n : Int) := by rw [e1]; omega
    have j1 : (p : Int) % (n : Int) < (n : Int) := by rw [e1]; exact Int.ofNat_lt.2 l1
    have j2 : ((p : Int) % (n : Int)).toNat = p % n := by rw [e1]; exact Int.toNat_natCast _
    have q0 : 0 ≤ (p : Int) / (n : Int) := Int.ediv_nonneg (by omega) (by omega)
    have q1 : (p : Int) / (n : Int) ≤ p := Int.ediv_le_self _ (by omega)
    clear e1 e2
    go_enter Try.func37, Try.ntmps37
    go_wp2
    go_quiet (fail)
    go_wp2
    go_ret
    have hx := xor_bd (z * 131 + y * 1117 + (p : Int) * 29 + (p : Int) / (n : Int) * 53) ((z * 131 + y * 1117 + (p : Int) * 29 + (p : Int) / (n : Int) * 53) / 64) (by omega) (by omega) (by omega) (by omega)
    exact ⟨_, _, rfl, Int.tmod_nonneg _ hx.1, .inl (Int.tmod_lt_of_pos _ (by omega)), rfl⟩

/-- A number out of a literal list. -/
theorem lit_at (zs : List Int) (r : Int) (h0 : 0 ≤ r) (h1 : r < zs.length) : ∃ v ∈ zs, (zs.map (Value.int .i64))[r.toNat]? = some (.int .i64 v) := by
  have hj : r.toNat < zs.length := by omega
  exact ⟨zs[r.toNat], List.getElem_mem hj, by simp [hj]⟩

end Go.Proofs.Ytkjdccpomldmeaa
