/- What toIntS does: a copy of a row of ints in new memory. The conditions stand in each theorem. -/
import Derived.Test.YtkjdccpomldmeaaInts
namespace Go.Proofs.Ytkjdccpomldmeaa
open Go.RowKit Go.ChangeShapes
set_option linter.unusedVariables false

def CopiedI (w : World) (n : Nat) (zs : List Int) (e : Ending) (w' : World) : Prop :=
  e = .returned (.slice (some ⟨w.heap.size, 0, none⟩) n n) ∧ Below w.heap.size w w' ∧ w'.rowIs w.heap.size 3 n (fun i => .int .i64 (zs.getD i 0))
theorem CopiedI.row {w w' : World} {n : Nat} {zs : List Int} {e : Ending} (h : CopiedI w n zs e w') (hn : zs.length = n) : Row w' w'.heap.size (some ⟨w.heap.size, 0, none⟩) (zs.map (Value.int .i64)) := by
  refine rowIs_row h.2.2 _ (by simp [hn]) fun i u hu => ?_
  have hl : i < zs.length := by simpa using (List.getElem?_eq_some_iff.1 hu).1
  simp [hl] at hu
  simp [hl, hu]
theorem rowIs_wr {w : World} {b : Nat} {t : TypeId} {n : Nat} {f : Nat → Value} (h : w.rowIs b t n f) : Wr w (some ⟨b, 0, none⟩) n :=
  .inr ⟨b, 0, rfl, h.lt, fun j hj => ⟨⟨_, by rw [Nat.zero_add]; exact h.cell hj⟩, by rw [Nat.zero_add]; exact h.frozen j⟩⟩

set_option maxHeartbeats 1000000 in
theorem toIntS_any (A : Option Addr) (n c : Nat) (zs : List Int) (w : World) (hn : zs.length = n) (hm : n ≤ 1048576) (hr : Row w w.heap.size A (zs.map (Value.int .i64))) :
    Calls Try.prog 12 #[.slice A n c] w (CopiedI w n zs) := by
  have hmk := run_make_row' (P := Try.prog) 22 3 (.int .i64 0) 8 Try.underlying22 info_int rfl .i64 .i64 n (by omega) (by omega)
  have HN := Lib.hid hn
  clear hn
  go_enter Try.func12, Try.ntmps12
  go_wp2
  clear hmk
  go_loopw [4] (fun i wx => ∃ k : Nat, k ≤ n ∧ i = .int .i64 k ∧ Below w.heap.size w wx ∧ wx.rowIs w.heap.size 3 n (fun i => if i < k then .int .i64 (zs.getD i 0) else .int .i64 0)) (fun i _ => n - (intOf i).toNat)
  case atStart => exact ⟨0, Nat.zero_le _, rfl, (Below.refl _ _).alloc (Nat.le_refl _) _, (World.rowIs_made w _ n _).congr (fun i hi => by simp)⟩
  case round =>
    obtain ⟨k, hk, rfl, hb, hrow⟩ := hrel
    by_cases hlt : k < n
    · obtain ⟨b, off, rfl, hbw, hc⟩ := int_at (hr.below hb) (k := k) (by rw [HN.out]; exact hlt)
      have hd := hrow.cell hlt
      have hf := hrow.frozen k
      have HR := Lib.hid hrow
      clear hrow hr
      go_wp2
      go_roundw
      case rel =>
        refine ⟨k + 1, by omega, by go_num, hb.setCell (Nat.le_refl _) _, (HR.out.set k _).congr fun i hi => ?_⟩
        by_cases e : i = k
        · subst e
          have hl : i < zs.length := by rw [HN.out]; exact hlt
          simp [hl]
        · by_cases h2 : i < k
          · simp [e, h2, show i < k + 1 by omega]
          · simp [e, h2, show ¬ i < k + 1 by omega]
      case measure => simp [intOf]; omega
    · obtain rfl : k = n := by omega
      go_wp2
      go_ret
      exact ⟨rfl, hb, hrow.congr fun i hi => by simp [hi]⟩

end Go.Proofs.Ytkjdccpomldmeaa
