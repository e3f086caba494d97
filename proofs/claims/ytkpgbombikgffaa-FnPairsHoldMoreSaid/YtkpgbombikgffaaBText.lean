/- The text of a ballot of one candidate, the program's. The conditions stand in each theorem. -/
import Derived.Test.YtkpgbombikgffaaPairW
import Derived.Laws.IdiomStrings
namespace Go.Proofs.Ytkpgbombikgffaa
open Go.RowKit Go.ChangeShapes
set_option linter.unusedVariables false

theorem info_byte : (Try.prog.info? 5).map (fun i => (i.zero, i.size, i.bytes)) = some (some (.int .u8 0), 1, 1) := by kernel_rfl
theorem make_byte (w : World) : (Instr.makeSlice 22 (.int .i64 1) (.int .i64 1)).run Try.prog w = .ok (.slice (some ⟨w.heap.size, 0, none⟩) 1 1) (w.alloc (.cells #[.int .u8 0] 5)) := by
  have h := run_make_row' (P := Try.prog) 22 5 (.int .u8 0) 1 Try.underlying22 info_byte rfl .i64 .i64 1 (by omega) (by omega) w
  have e : madeCells #[Value.int .u8 0] 1 = #[.int .u8 0] := by kernel_rfl
  rw [e] at h
  exact h
theorem text_one (x : Nat) (hx : x < 5) (w : World) : (convert 22 9 (.slice (some ⟨w.heap.size, 0, none⟩) 1 1)).run Try.prog (w.alloc (.cells #[.int .u8 (97 + (x : Int))] 5)) = .ok (.string (chr x)) (w.alloc (.cells #[.int .u8 (97 + (x : Int))] 5)) := by
  have h := run_convert_bytes_back (P := Try.prog) (w.alloc (.cells #[.int .u8 (97 + (x : Int))] 5)) 22 9 5 ⟨w.heap.size, 0, none⟩ 1 [UInt8.ofNat (97 + x)] Try.underlying22 Try.underlying5 Try.underlying9 (fun j hj => by
    have hj0 : j = 0 := by simp at hj; omega
    subst hj0
    have e : ((UInt8.ofNat (97 + x)).toNat : Int) = 97 + (x : Int) := by
      have h5 : x = 0 ∨ x = 1 ∨ x = 2 ∨ x = 3 ∨ x = 4 := by omega
      rcases h5 with rfl | rfl | rfl | rfl | rfl <;> rfl
    simp only [List.getElem_cons_zero, e]
    simp [Addr.add])
  exact h

set_option maxRecDepth 100000 in
set_option maxHeartbeats 1000000 in
theorem BallotText_one (x : Nat) (A : Option Addr) (c : Nat) (w : World) (hx : x < 5) (hc1 : 1 ≤ c) (hc2 : c ≤ maxLen) (ha : Row w w.heap.size A [.int .i64 (x : Int)]) :
    Calls Try.prog 28 #[.slice A 1 c] w fun e w' => e = .returned (.string (chr x)) ∧ Below w.heap.size w w' := by
  have hok : okB [(x : Int)] = true := by
    have := (chr_ok x hx).2.1
    unfold okP at this
    rw [(chr_ok x hx).1] at this
    exact this
  have hmk := make_byte w
  have hcv := text_one x hx w
  have hw8 : IntKind.u8.wrap (97 + (x : Int)) = 97 + (x : Int) := by
    have h5 : x = 0 ∨ x = 1 ∨ x = 2 ∨ x = 3 ∨ x = 4 := by omega
    rcases h5 with rfl | rfl | rfl | rfl | rfl <;> rfl
  go_enter Try.func28, Try.ntmps28
  go_wp2_with fail
  refine (BallotValid_any A 1 c [(x : Int)] _ rfl (by omega) hc1 hc2 ha).mono ?_
  rintro e w' ⟨rfl, rfl⟩
  rw [hok]
  clear hok
  obtain ⟨b, off, rfl, hbw, hcell⟩ := ha.at_ (k := 0) (by simp)
  simp only [List.getElem_cons_zero, Nat.add_zero] at hcell
  clear ha
  go_wp2_with fail
  clear hmk
  go_loopw [14] (fun i wx => ∃ (k : Nat) (v : Int), k ≤ 1 ∧ i = .int .i64 k ∧ wx = w.alloc (.cells #[.int .u8 v] 5) ∧ Hid (k = 1 → v = 97 + (x : Int))) (fun i _ => 1 - (intOf i).toNat)
  case atStart => exact ⟨0, 0, by omega, rfl, rfl, fun h => absurd h (by omega)⟩
  case round =>
    obtain ⟨k, v, hk, rfl, rfl, HV⟩ := hrel
    by_cases hk0 : k = 0
    · subst hk0
      clear HV hcv
      go_wp2_with fail
      go_roundw
      case rel => exact ⟨1, 97 + (x : Int), by omega, by go_num, by first | rfl | (rw [hw8]) | simp [hw8], fun _ => rfl⟩
      case measure => simp [intOf]
    · obtain rfl : k = 1 := by omega
      obtain rfl := HV.out rfl
      go_wp2_with fail
      go_ret
      exact ⟨rfl, (Below.refl _ _).alloc (Nat.le_refl _) _⟩

end Go.Proofs.Ytkpgbombikgffaa
