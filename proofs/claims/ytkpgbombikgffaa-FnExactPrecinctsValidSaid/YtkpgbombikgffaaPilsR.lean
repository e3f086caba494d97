/- What PilesValid of the reference returns. The conditions stand in each theorem. -/
import Derived.Test.YtkpgbombikgffaaPrec
import Derived.Test.YtkpgbombikgffaaSeq
import Derived.IntWalk
namespace Go.Proofs.Ytkpgbombikgffaa
open Go.RowKit Go.ChangeShapes
set_option linter.unusedVariables false
set_option linter.unusedSimpArgs false

set_option maxRecDepth 100000 in
set_option maxHeartbeats 4000000 in
theorem sPilesValid_any (A : Option Addr) (n c : Nat) (ps : List Pl) (w : World) (hn : ps.length = n) (hm : n ≤ 1048576) (hs : ∀ p ∈ ps, smallPl p) (ha : Row w w.heap.size A (plCells ps)) :
    Calls Try.prog 66 #[.slice A n c] w (Says w (plsB ps)) := by
  have HN := Lib.hid hn
  have HS := Lib.hid hs
  clear hn hs
  go_enter Try.func66, Try.ntmps66
  go_wp2_with fail
  go_loopw [3] (fun i wx => ∃ k : Nat, k ≤ n ∧ i = .int .i64 k ∧ Below w.heap.size w wx ∧ Hid (allR (okPlAt ps) k = true)) (fun i _ => n - (intOf i).toNat)
  case atStart => exact ⟨0, Nat.zero_le _, rfl, Below.refl _ _, rfl⟩
  case round =>
    obtain ⟨k, hk, rfl, hbel, HX⟩ := hrel
    have ha' := (ha.below hbel).more hbel.size
    have hsz := hbel.size
    clear ha
    by_cases hlt : k < n
    · have hl : k < ps.length := by rw [HN.out]; exact hlt
      obtain ⟨b, off, rfl, hbw, hc0, hc1⟩ := pile_at ha' hl
      have HP := Lib.hid (HS.out _ (List.getElem_mem hl))
      have HB := Lib.hid (fun h => plsB_bad hl h)
      have HB1 := Lib.hid (fun h => okPlAt_bad hl h)
      have HA := Lib.hid (fun h => allR_succ HX.out h)
      clear HS
      cases k with
      | zero =>
        have HZ := Lib.hid (okPlAt_zero hl)
        clear ha'
        generalize ps[0] = p at *
        obtain ⟨pa, pb⟩ := p
        simp only [Nat.zero_mul, Nat.add_zero] at hc0 hc1
        cases hq : okPl (pa, pb) with
        | true =>
          have HQ := Lib.hid (HA.out (HZ.out.trans hq))
          have HS0 : Hid (World.cell? wr.drew ⟨b, off, none⟩ = some (.string pa)) := hc0
          have HS1 : Hid (World.cell? wr.drew ⟨b, off + 1, none⟩ = some (.int .i64 pb)) := hc1
          go_wp2_with fail
          refine wp_region_held_drew (S := (fun W : World => W.cell? ⟨b, off, none⟩ = some (.string pa) ∧ W.cell? ⟨b, off + 1, none⟩ = some (.int .i64 pb))) (by kernel_rfl) ⟨HS0.out, HS1.out⟩ (fun HS => ?_)
          refine seq_take (i := 0) (v := ?_) rfl (by kernel_rfl) (by kernel_rfl) (by kernel_rfl) (fun _ _ _ h => h) (by rfl) ?_ HS ?_
          rotate_left
          · intro W hW
            try dsimp only at hW
            obtain ⟨y0, y1⟩ := hW
            (go_simp <;> first | done | with_reducible rfl)
          try simp only [Act.put, List.setIfInBounds_toArray, List.set_cons_zero, List.set_cons_succ]
          refine seq_take (i := 1) (v := ?_) rfl (by kernel_rfl) (by kernel_rfl) (by kernel_rfl) (fun _ _ _ h => h) (by rfl) ?_ HS ?_
          rotate_left
          · intro W hW
            try dsimp only at hW
            obtain ⟨y0, y1⟩ := hW
            (go_simp <;> first | done | with_reducible rfl)
          try simp only [Act.put, List.setIfInBounds_toArray, List.set_cons_zero, List.set_cons_succ]
          refine seq_take (i := 2) (v := ?_) rfl (by kernel_rfl) (by kernel_rfl) (by kernel_rfl) (fun _ _ _ h => h) (by rfl) ?_ HS ?_
          rotate_left
          · intro W hW
            try dsimp only at hW
            obtain ⟨y0, y1⟩ := hW
            (go_simp <;> first | done | with_reducible rfl)
          try simp only [Act.put, List.setIfInBounds_toArray, List.set_cons_zero, List.set_cons_succ]
          refine seq_take (i := 3) (v := ?_) rfl (by kernel_rfl) (by kernel_rfl) (by kernel_rfl) (fun _ _ _ h => h) (by rfl) ?_ HS ?_
          rotate_left
          · intro W hW
            try dsimp only at hW
            obtain ⟨y0, y1⟩ := hW
            (go_simp <;> first | done | with_reducible rfl)
          try simp only [Act.put, List.setIfInBounds_toArray, List.set_cons_zero, List.set_cons_succ]
          refine seq_call (i := 4) rfl (by kernel_rfl) (by rfl) (fun K hK => ?_)
          go_simp
          go_at_call 76
          refine (sl3Pile_any (pa, pb) _ HP.out).mono ?_
          rintro e w2 ⟨rfl, hb2⟩
          rw [hq]
          have hbel2 : Below w.heap.size w w2 := hbel.drew.trans (hb2.mono hsz)
          have x0 := (hb2.cell (p := ⟨b, off, none⟩) (by simp; omega)).trans HS0.out
          have x1 := (hb2.cell (p := ⟨b, off + 1, none⟩) (by simp; omega)).trans HS1.out
          clear hb2
          go_wp2_with fail
          refine hK.out _ _ ⟨x0, x1⟩ (fun HS2 => ?_)
          clear hK K HS
          have HS := HS2
          clear HS2
          try simp only [Act.put, List.setIfInBounds_toArray, List.set_cons_zero, List.set_cons_succ]
          refine seq_take (i := 5) (v := ?_) rfl (by kernel_rfl) (by kernel_rfl) (by kernel_rfl) (fun _ _ _ h => h) (by rfl) ?_ HS ?_
          rotate_left
          · intro W hW
            try dsimp only at hW
            obtain ⟨y0, y1⟩ := hW
            (go_simp <;> first | done | with_reducible rfl)
          try simp only [Act.put, List.setIfInBounds_toArray, List.set_cons_zero, List.set_cons_succ]
          refine seq_take (i := 6) (v := ?_) rfl (by kernel_rfl) (by kernel_rfl) (by kernel_rfl) (fun _ _ _ h => h) (by rfl) ?_ HS ?_
          rotate_left
          · intro W hW
            try dsimp only at hW
            obtain ⟨y0, y1⟩ := hW
            (go_simp <;> first | done | with_reducible rfl)
          try simp only [Act.put, List.setIfInBounds_toArray, List.set_cons_zero, List.set_cons_succ]
          refine seq_take (i := 7) (v := ?_) rfl (by kernel_rfl) (by kernel_rfl) (by kernel_rfl) (fun _ _ _ h => h) (by rfl) ?_ HS ?_
          rotate_left
          · intro W hW
            try dsimp only at hW
            obtain ⟨y0, y1⟩ := hW
            (go_simp <;> first | done | with_reducible rfl)
          try simp only [Act.put, List.setIfInBounds_toArray, List.set_cons_zero, List.set_cons_succ]
          refine seq_take (i := 8) (v := ?_) rfl (by kernel_rfl) (by kernel_rfl) (by kernel_rfl) (fun _ _ _ h => h) (by rfl) ?_ HS ?_
          rotate_left
          · intro W hW
            try dsimp only at hW
            obtain ⟨y0, y1⟩ := hW
            (go_simp <;> first | done | with_reducible rfl)
          try simp only [Act.put, List.setIfInBounds_toArray, List.set_cons_zero, List.set_cons_succ]
          refine seq_take (i := 9) (v := ?_) rfl (by kernel_rfl) (by kernel_rfl) (by kernel_rfl) (fun _ _ _ h => h) (by rfl) ?_ HS ?_
          rotate_left
          · intro W hW
            try dsimp only at hW
            obtain ⟨y0, y1⟩ := hW
            (go_simp <;> first | done | with_reducible rfl)
          try simp only [Act.put, List.setIfInBounds_toArray, List.set_cons_zero, List.set_cons_succ]
          refine seq_skip (i := 10) rfl (by kernel_rfl) (by kernel_rfl) (by kernel_rfl) (fun _ _ _ h => h) (by rfl) HS ?_
          try simp only [Act.put, List.setIfInBounds_toArray, List.set_cons_zero, List.set_cons_succ]
          refine seq_skip (i := 11) rfl (by kernel_rfl) (by kernel_rfl) (by kernel_rfl) (fun _ _ _ h => h) (by rfl) HS ?_
          try simp only [Act.put, List.setIfInBounds_toArray, List.set_cons_zero, List.set_cons_succ]
          refine seq_skip (i := 12) rfl (by kernel_rfl) (by kernel_rfl) (by kernel_rfl) (fun _ _ _ h => h) (by rfl) HS ?_
          try simp only [Act.put, List.setIfInBounds_toArray, List.set_cons_zero, List.set_cons_succ]
          refine seq_skip (i := 13) rfl (by kernel_rfl) (by kernel_rfl) (by kernel_rfl) (fun _ _ _ h => h) (by rfl) HS ?_
          try simp only [Act.put, List.setIfInBounds_toArray, List.set_cons_zero, List.set_cons_succ]
          refine seq_skip (i := 14) rfl (by kernel_rfl) (by kernel_rfl) (by kernel_rfl) (fun _ _ _ h => h) (by rfl) HS ?_
          try simp only [Act.put, List.setIfInBounds_toArray, List.set_cons_zero, List.set_cons_succ]
          refine seq_skip (i := 15) rfl (by kernel_rfl) (by kernel_rfl) (by kernel_rfl) (fun _ _ _ h => h) (by rfl) HS ?_
          try simp only [Act.put, List.setIfInBounds_toArray, List.set_cons_zero, List.set_cons_succ]
          refine seq_skip (i := 16) rfl (by kernel_rfl) (by kernel_rfl) (by kernel_rfl) (fun _ _ _ h => h) (by rfl) HS ?_
          try simp only [Act.put, List.setIfInBounds_toArray, List.set_cons_zero, List.set_cons_succ]
          refine seq_skip (i := 17) rfl (by kernel_rfl) (by kernel_rfl) (by kernel_rfl) (fun _ _ _ h => h) (by rfl) HS ?_
          try simp only [Act.put, List.setIfInBounds_toArray, List.set_cons_zero, List.set_cons_succ]
          refine seq_skip (i := 18) rfl (by kernel_rfl) (by kernel_rfl) (by kernel_rfl) (fun _ _ _ h => h) (by rfl) HS ?_
          try simp only [Act.put, List.setIfInBounds_toArray, List.set_cons_zero, List.set_cons_succ]
          refine seq_skip (i := 19) rfl (by kernel_rfl) (by kernel_rfl) (by kernel_rfl) (fun _ _ _ h => h) (by rfl) HS ?_
          try simp only [Act.put, List.setIfInBounds_toArray, List.set_cons_zero, List.set_cons_succ]
          refine seq_skip (i := 20) rfl (by kernel_rfl) (by kernel_rfl) (by kernel_rfl) (fun _ _ _ h => h) (by rfl) HS ?_
          try simp only [Act.put, List.setIfInBounds_toArray, List.set_cons_zero, List.set_cons_succ]
          refine seq_skip (i := 21) rfl (by kernel_rfl) (by kernel_rfl) (by kernel_rfl) (fun _ _ _ h => h) (by rfl) HS ?_
          try simp only [Act.put, List.setIfInBounds_toArray, List.set_cons_zero, List.set_cons_succ]
          refine seq_take (i := 22) (v := ?_) rfl (by kernel_rfl) (by kernel_rfl) (by kernel_rfl) (fun _ _ _ h => h) (by rfl) ?_ HS ?_
          rotate_left
          · intro W hW
            try dsimp only at hW
            obtain ⟨y0, y1⟩ := hW
            (go_simp <;> first | done | with_reducible rfl)
          try simp only [Act.put, List.setIfInBounds_toArray, List.set_cons_zero, List.set_cons_succ]
          refine seq_take (i := 23) (v := ?_) rfl (by kernel_rfl) (by kernel_rfl) (by kernel_rfl) (fun _ _ _ h => h) (by rfl) ?_ HS ?_
          rotate_left
          · intro W hW
            try dsimp only at hW
            obtain ⟨y0, y1⟩ := hW
            (go_simp <;> first | done | with_reducible rfl)
          try simp only [Act.put, List.setIfInBounds_toArray, List.set_cons_zero, List.set_cons_succ]
          refine wpAnyH_done (by kernel_rfl) ?_ _
          clear HS
          clear hq
          go_wp2_with fail
          go_roundw
          case rel => exact ⟨1, by omega, by go_num, hbel2, HQ⟩
          case measure => simp [intOf]; omega
        | false =>
          have HQ := Lib.hid (HB.out (HB1.out hq))
          have HS0 : Hid (World.cell? wr.drew ⟨b, off, none⟩ = some (.string pa)) := hc0
          have HS1 : Hid (World.cell? wr.drew ⟨b, off + 1, none⟩ = some (.int .i64 pb)) := hc1
          go_wp2_with fail
          refine wp_region_held_drew (S := (fun W : World => W.cell? ⟨b, off, none⟩ = some (.string pa) ∧ W.cell? ⟨b, off + 1, none⟩ = some (.int .i64 pb))) (by kernel_rfl) ⟨HS0.out, HS1.out⟩ (fun HS => ?_)
          refine seq_take (i := 0) (v := ?_) rfl (by kernel_rfl) (by kernel_rfl) (by kernel_rfl) (fun _ _ _ h => h) (by rfl) ?_ HS ?_
          rotate_left
          · intro W hW
            try dsimp only at hW
            obtain ⟨y0, y1⟩ := hW
            (go_simp <;> first | done | with_reducible rfl)
          try simp only [Act.put, List.setIfInBounds_toArray, List.set_cons_zero, List.set_cons_succ]
          refine seq_take (i := 1) (v := ?_) rfl (by kernel_rfl) (by kernel_rfl) (by kernel_rfl) (fun _ _ _ h => h) (by rfl) ?_ HS ?_
          rotate_left
          · intro W hW
            try dsimp only at hW
            obtain ⟨y0, y1⟩ := hW
            (go_simp <;> first | done | with_reducible rfl)
          try simp only [Act.put, List.setIfInBounds_toArray, List.set_cons_zero, List.set_cons_succ]
          refine seq_take (i := 2) (v := ?_) rfl (by kernel_rfl) (by kernel_rfl) (by kernel_rfl) (fun _ _ _ h => h) (by rfl) ?_ HS ?_
          rotate_left
          · intro W hW
            try dsimp only at hW
            obtain ⟨y0, y1⟩ := hW
            (go_simp <;> first | done | with_reducible rfl)
          try simp only [Act.put, List.setIfInBounds_toArray, List.set_cons_zero, List.set_cons_succ]
          refine seq_take (i := 3) (v := ?_) rfl (by kernel_rfl) (by kernel_rfl) (by kernel_rfl) (fun _ _ _ h => h) (by rfl) ?_ HS ?_
          rotate_left
          · intro W hW
            try dsimp only at hW
            obtain ⟨y0, y1⟩ := hW
            (go_simp <;> first | done | with_reducible rfl)
          try simp only [Act.put, List.setIfInBounds_toArray, List.set_cons_zero, List.set_cons_succ]
          refine seq_call (i := 4) rfl (by kernel_rfl) (by rfl) (fun K hK => ?_)
          go_simp
          go_at_call 76
          refine (sl3Pile_any (pa, pb) _ HP.out).mono ?_
          rintro e w2 ⟨rfl, hb2⟩
          rw [hq]
          have hbel2 : Below w.heap.size w w2 := hbel.drew.trans (hb2.mono hsz)
          have x0 := (hb2.cell (p := ⟨b, off, none⟩) (by simp; omega)).trans HS0.out
          have x1 := (hb2.cell (p := ⟨b, off + 1, none⟩) (by simp; omega)).trans HS1.out
          clear hb2
          go_wp2_with fail
          refine hK.out _ _ ⟨x0, x1⟩ (fun HS2 => ?_)
          clear hK K HS
          have HS := HS2
          clear HS2
          try simp only [Act.put, List.setIfInBounds_toArray, List.set_cons_zero, List.set_cons_succ]
          refine seq_take (i := 5) (v := ?_) rfl (by kernel_rfl) (by kernel_rfl) (by kernel_rfl) (fun _ _ _ h => h) (by rfl) ?_ HS ?_
          rotate_left
          · intro W hW
            try dsimp only at hW
            obtain ⟨y0, y1⟩ := hW
            (go_simp <;> first | done | with_reducible rfl)
          try simp only [Act.put, List.setIfInBounds_toArray, List.set_cons_zero, List.set_cons_succ]
          refine seq_take (i := 6) (v := ?_) rfl (by kernel_rfl) (by kernel_rfl) (by kernel_rfl) (fun _ _ _ h => h) (by rfl) ?_ HS ?_
          rotate_left
          · intro W hW
            try dsimp only at hW
            obtain ⟨y0, y1⟩ := hW
            (go_simp <;> first | done | with_reducible rfl)
          try simp only [Act.put, List.setIfInBounds_toArray, List.set_cons_zero, List.set_cons_succ]
          refine seq_skip (i := 7) rfl (by kernel_rfl) (by kernel_rfl) (by kernel_rfl) (fun _ _ _ h => h) (by rfl) HS ?_
          try simp only [Act.put, List.setIfInBounds_toArray, List.set_cons_zero, List.set_cons_succ]
          refine seq_skip (i := 8) rfl (by kernel_rfl) (by kernel_rfl) (by kernel_rfl) (fun _ _ _ h => h) (by rfl) HS ?_
          try simp only [Act.put, List.setIfInBounds_toArray, List.set_cons_zero, List.set_cons_succ]
          refine seq_skip (i := 9) rfl (by kernel_rfl) (by kernel_rfl) (by kernel_rfl) (fun _ _ _ h => h) (by rfl) HS ?_
          try simp only [Act.put, List.setIfInBounds_toArray, List.set_cons_zero, List.set_cons_succ]
          refine seq_skip (i := 10) rfl (by kernel_rfl) (by kernel_rfl) (by kernel_rfl) (fun _ _ _ h => h) (by rfl) HS ?_
          try simp only [Act.put, List.setIfInBounds_toArray, List.set_cons_zero, List.set_cons_succ]
          refine seq_skip (i := 11) rfl (by kernel_rfl) (by kernel_rfl) (by kernel_rfl) (fun _ _ _ h => h) (by rfl) HS ?_
          try simp only [Act.put, List.setIfInBounds_toArray, List.set_cons_zero, List.set_cons_succ]
          refine seq_skip (i := 12) rfl (by kernel_rfl) (by kernel_rfl) (by kernel_rfl) (fun _ _ _ h => h) (by rfl) HS ?_
          try simp only [Act.put, List.setIfInBounds_toArray, List.set_cons_zero, List.set_cons_succ]
          refine seq_skip (i := 13) rfl (by kernel_rfl) (by kernel_rfl) (by kernel_rfl) (fun _ _ _ h => h) (by rfl) HS ?_
          try simp only [Act.put, List.setIfInBounds_toArray, List.set_cons_zero, List.set_cons_succ]
          refine seq_skip (i := 14) rfl (by kernel_rfl) (by kernel_rfl) (by kernel_rfl) (fun _ _ _ h => h) (by rfl) HS ?_
          try simp only [Act.put, List.setIfInBounds_toArray, List.set_cons_zero, List.set_cons_succ]
          refine seq_skip (i := 15) rfl (by kernel_rfl) (by kernel_rfl) (by kernel_rfl) (fun _ _ _ h => h) (by rfl) HS ?_
          try simp only [Act.put, List.setIfInBounds_toArray, List.set_cons_zero, List.set_cons_succ]
          refine seq_skip (i := 16) rfl (by kernel_rfl) (by kernel_rfl) (by kernel_rfl) (fun _ _ _ h => h) (by rfl) HS ?_
          try simp only [Act.put, List.setIfInBounds_toArray, List.set_cons_zero, List.set_cons_succ]
          refine seq_skip (i := 17) rfl (by kernel_rfl) (by kernel_rfl) (by kernel_rfl) (fun _ _ _ h => h) (by rfl) HS ?_
          try simp only [Act.put, List.setIfInBounds_toArray, List.set_cons_zero, List.set_cons_succ]
          refine seq_skip (i := 18) rfl (by kernel_rfl) (by kernel_rfl) (by kernel_rfl) (fun _ _ _ h => h) (by rfl) HS ?_
          try simp only [Act.put, List.setIfInBounds_toArray, List.set_cons_zero, List.set_cons_succ]
          refine seq_skip (i := 19) rfl (by kernel_rfl) (by kernel_rfl) (by kernel_rfl) (fun _ _ _ h => h) (by rfl) HS ?_
          try simp only [Act.put, List.setIfInBounds_toArray, List.set_cons_zero, List.set_cons_succ]
          refine seq_skip (i := 20) rfl (by kernel_rfl) (by kernel_rfl) (by kernel_rfl) (fun _ _ _ h => h) (by rfl) HS ?_
          try simp only [Act.put, List.setIfInBounds_toArray, List.set_cons_zero, List.set_cons_succ]
          refine seq_skip (i := 21) rfl (by kernel_rfl) (by kernel_rfl) (by kernel_rfl) (fun _ _ _ h => h) (by rfl) HS ?_
          try simp only [Act.put, List.setIfInBounds_toArray, List.set_cons_zero, List.set_cons_succ]
          refine seq_skip (i := 22) rfl (by kernel_rfl) (by kernel_rfl) (by kernel_rfl) (fun _ _ _ h => h) (by rfl) HS ?_
          try simp only [Act.put, List.setIfInBounds_toArray, List.set_cons_zero, List.set_cons_succ]
          refine seq_take (i := 23) (v := ?_) rfl (by kernel_rfl) (by kernel_rfl) (by kernel_rfl) (fun _ _ _ h => h) (by rfl) ?_ HS ?_
          rotate_left
          · intro W hW
            try dsimp only at hW
            obtain ⟨y0, y1⟩ := hW
            (go_simp <;> first | done | with_reducible rfl)
          try simp only [Act.put, List.setIfInBounds_toArray, List.set_cons_zero, List.set_cons_succ]
          refine wpAnyH_done (by kernel_rfl) ?_ _
          clear HS
          clear hq
          go_wp2_with fail
          go_ret
          exact ⟨ret_bool HQ.out.symm, hbel2⟩
      | succ j =>
        have hlj : j < ps.length := by omega
        obtain ⟨hd0, hd1⟩ := pile_of ha' hlj
        have HZ := Lib.hid (okPlAt_succ hl)
        clear ha' hd1
        generalize ps[j] = q at *
        generalize ps[j + 1] = p at *
        obtain ⟨pa, pb⟩ := p
        obtain ⟨qa, qb⟩ := q
        simp only at hc0 hc1 hd0 HZ
        have v1 : IntKind.i64.wrap (j : Int) = (j : Int) := IntWalk.i64_in _ (by omega)
        have v2 : (j : Int) < (n : Int) := by omega
        have v3 : IntKind.i64.wrap ((j : Int) + 1 - 1) = (j : Int) := by rw [show (j : Int) + 1 - 1 = (j : Int) by omega]; exact v1
        have v4 : 0 ≤ (j : Int) := by omega
        have v5 : 0 ≤ (j : Int) + 1 := by omega
        cases hq : okPl (pa, pb) with
        | false =>
          have HQ := Lib.hid (HB.out (HB1.out hq))
          have HS0 : Hid (World.cell? wr.drew ⟨b, off + (j + 1) * 2, none⟩ = some (.string pa)) := hc0
          have HS1 : Hid (World.cell? wr.drew ⟨b, off + (j + 1) * 2 + 1, none⟩ = some (.int .i64 pb)) := hc1
          have HS2 : Hid (World.cell? wr.drew ⟨b, off + j * 2, none⟩ = some (.string qa)) := hd0
          go_wp2_with fail
          refine wp_region_held_drew (S := (fun W : World => W.cell? ⟨b, off + (j + 1) * 2, none⟩ = some (.string pa) ∧ W.cell? ⟨b, off + (j + 1) * 2 + 1, none⟩ = some (.int .i64 pb) ∧ W.cell? ⟨b, off + j * 2, none⟩ = some (.string qa))) (by kernel_rfl) ⟨HS0.out, HS1.out, HS2.out⟩ (fun HS => ?_)
          refine seq_take (i := 0) (v := ?_) rfl (by kernel_rfl) (by kernel_rfl) (by kernel_rfl) (fun _ _ _ h => h) (by rfl) ?_ HS ?_
          rotate_left
          · intro W hW
            try dsimp only at hW
            obtain ⟨y0, y1, y2⟩ := hW
            (go_simp <;> first | done | with_reducible rfl)
          try simp only [Act.put, List.setIfInBounds_toArray, List.set_cons_zero, List.set_cons_succ]
          refine seq_take (i := 1) (v := ?_) rfl (by kernel_rfl) (by kernel_rfl) (by kernel_rfl) (fun _ _ _ h => h) (by rfl) ?_ HS ?_
          rotate_left
          · intro W hW
            try dsimp only at hW
            obtain ⟨y0, y1, y2⟩ := hW
            (go_simp <;> first | done | with_reducible rfl)
          try simp only [Act.put, List.setIfInBounds_toArray, List.set_cons_zero, List.set_cons_succ]
          refine seq_take (i := 2) (v := ?_) rfl (by kernel_rfl) (by kernel_rfl) (by kernel_rfl) (fun _ _ _ h => h) (by rfl) ?_ HS ?_
          rotate_left
          · intro W hW
            try dsimp only at hW
            obtain ⟨y0, y1, y2⟩ := hW
            (go_simp <;> first | done | with_reducible rfl)
          try simp only [Act.put, List.setIfInBounds_toArray, List.set_cons_zero, List.set_cons_succ]
          refine seq_take (i := 3) (v := ?_) rfl (by kernel_rfl) (by kernel_rfl) (by kernel_rfl) (fun _ _ _ h => h) (by rfl) ?_ HS ?_
          rotate_left
          · intro W hW
            try dsimp only at hW
            obtain ⟨y0, y1, y2⟩ := hW
            (go_simp <;> first | done | with_reducible rfl)
          try simp only [Act.put, List.setIfInBounds_toArray, List.set_cons_zero, List.set_cons_succ]
          refine seq_call (i := 4) rfl (by kernel_rfl) (by rfl) (fun K hK => ?_)
          go_simp
          go_at_call 76
          refine (sl3Pile_any (pa, pb) _ HP.out).mono ?_
          rintro e w2 ⟨rfl, hb2⟩
          rw [hq]
          have hbel2 : Below w.heap.size w w2 := hbel.drew.trans (hb2.mono hsz)
          have x0 := (hb2.cell (p := ⟨b, off + (j + 1) * 2, none⟩) (by simp; omega)).trans HS0.out
          have x1 := (hb2.cell (p := ⟨b, off + (j + 1) * 2 + 1, none⟩) (by simp; omega)).trans HS1.out
          have x2 := (hb2.cell (p := ⟨b, off + j * 2, none⟩) (by simp; omega)).trans HS2.out
          clear hb2
          go_wp2_with fail
          refine hK.out _ _ ⟨x0, x1, x2⟩ (fun HS2 => ?_)
          clear hK K HS
          have HS := HS2
          clear HS2
          try simp only [Act.put, List.setIfInBounds_toArray, List.set_cons_zero, List.set_cons_succ]
          refine seq_take (i := 5) (v := ?_) rfl (by kernel_rfl) (by kernel_rfl) (by kernel_rfl) (fun _ _ _ h => h) (by rfl) ?_ HS ?_
          rotate_left
          · intro W hW
            try dsimp only at hW
            obtain ⟨y0, y1, y2⟩ := hW
            (go_simp <;> first | done | with_reducible rfl)
          try simp only [Act.put, List.setIfInBounds_toArray, List.set_cons_zero, List.set_cons_succ]
          refine seq_take (i := 6) (v := ?_) rfl (by kernel_rfl) (by kernel_rfl) (by kernel_rfl) (fun _ _ _ h => h) (by rfl) ?_ HS ?_
          rotate_left
          · intro W hW
            try dsimp only at hW
            obtain ⟨y0, y1, y2⟩ := hW
            (go_simp <;> first | done | with_reducible rfl)
          try simp only [Act.put, List.setIfInBounds_toArray, List.set_cons_zero, List.set_cons_succ]
          refine seq_skip (i := 7) rfl (by kernel_rfl) (by kernel_rfl) (by kernel_rfl) (fun _ _ _ h => h) (by rfl) HS ?_
          try simp only [Act.put, List.setIfInBounds_toArray, List.set_cons_zero, List.set_cons_succ]
          refine seq_skip (i := 8) rfl (by kernel_rfl) (by kernel_rfl) (by kernel_rfl) (fun _ _ _ h => h) (by rfl) HS ?_
          try simp only [Act.put, List.setIfInBounds_toArray, List.set_cons_zero, List.set_cons_succ]
          refine seq_skip (i := 9) rfl (by kernel_rfl) (by kernel_rfl) (by kernel_rfl) (fun _ _ _ h => h) (by rfl) HS ?_
          try simp only [Act.put, List.setIfInBounds_toArray, List.set_cons_zero, List.set_cons_succ]
          refine seq_skip (i := 10) rfl (by kernel_rfl) (by kernel_rfl) (by kernel_rfl) (fun _ _ _ h => h) (by rfl) HS ?_
          try simp only [Act.put, List.setIfInBounds_toArray, List.set_cons_zero, List.set_cons_succ]
          refine seq_skip (i := 11) rfl (by kernel_rfl) (by kernel_rfl) (by kernel_rfl) (fun _ _ _ h => h) (by rfl) HS ?_
          try simp only [Act.put, List.setIfInBounds_toArray, List.set_cons_zero, List.set_cons_succ]
          refine seq_skip (i := 12) rfl (by kernel_rfl) (by kernel_rfl) (by kernel_rfl) (fun _ _ _ h => h) (by rfl) HS ?_
          try simp only [Act.put, List.setIfInBounds_toArray, List.set_cons_zero, List.set_cons_succ]
          refine seq_skip (i := 13) rfl (by kernel_rfl) (by kernel_rfl) (by kernel_rfl) (fun _ _ _ h => h) (by rfl) HS ?_
          try simp only [Act.put, List.setIfInBounds_toArray, List.set_cons_zero, List.set_cons_succ]
          refine seq_skip (i := 14) rfl (by kernel_rfl) (by kernel_rfl) (by kernel_rfl) (fun _ _ _ h => h) (by rfl) HS ?_
          try simp only [Act.put, List.setIfInBounds_toArray, List.set_cons_zero, List.set_cons_succ]
          refine seq_skip (i := 15) rfl (by kernel_rfl) (by kernel_rfl) (by kernel_rfl) (fun _ _ _ h => h) (by rfl) HS ?_
          try simp only [Act.put, List.setIfInBounds_toArray, List.set_cons_zero, List.set_cons_succ]
          refine seq_skip (i := 16) rfl (by kernel_rfl) (by kernel_rfl) (by kernel_rfl) (fun _ _ _ h => h) (by rfl) HS ?_
          try simp only [Act.put, List.setIfInBounds_toArray, List.set_cons_zero, List.set_cons_succ]
          refine seq_skip (i := 17) rfl (by kernel_rfl) (by kernel_rfl) (by kernel_rfl) (fun _ _ _ h => h) (by rfl) HS ?_
          try simp only [Act.put, List.setIfInBounds_toArray, List.set_cons_zero, List.set_cons_succ]
          refine seq_skip (i := 18) rfl (by kernel_rfl) (by kernel_rfl) (by kernel_rfl) (fun _ _ _ h => h) (by rfl) HS ?_
          try simp only [Act.put, List.setIfInBounds_toArray, List.set_cons_zero, List.set_cons_succ]
          refine seq_skip (i := 19) rfl (by kernel_rfl) (by kernel_rfl) (by kernel_rfl) (fun _ _ _ h => h) (by rfl) HS ?_
          try simp only [Act.put, List.setIfInBounds_toArray, List.set_cons_zero, List.set_cons_succ]
          refine seq_skip (i := 20) rfl (by kernel_rfl) (by kernel_rfl) (by kernel_rfl) (fun _ _ _ h => h) (by rfl) HS ?_
          try simp only [Act.put, List.setIfInBounds_toArray, List.set_cons_zero, List.set_cons_succ]
          refine seq_skip (i := 21) rfl (by kernel_rfl) (by kernel_rfl) (by kernel_rfl) (fun _ _ _ h => h) (by rfl) HS ?_
          try simp only [Act.put, List.setIfInBounds_toArray, List.set_cons_zero, List.set_cons_succ]
          refine seq_skip (i := 22) rfl (by kernel_rfl) (by kernel_rfl) (by kernel_rfl) (fun _ _ _ h => h) (by rfl) HS ?_
          try simp only [Act.put, List.setIfInBounds_toArray, List.set_cons_zero, List.set_cons_succ]
          refine seq_take (i := 23) (v := ?_) rfl (by kernel_rfl) (by kernel_rfl) (by kernel_rfl) (fun _ _ _ h => h) (by rfl) ?_ HS ?_
          rotate_left
          · intro W hW
            try dsimp only at hW
            obtain ⟨y0, y1, y2⟩ := hW
            (go_simp <;> first | done | with_reducible rfl)
          try simp only [Act.put, List.setIfInBounds_toArray, List.set_cons_zero, List.set_cons_succ]
          refine wpAnyH_done (by kernel_rfl) ?_ _
          clear HS v1 v3
          clear hq
          go_wp2_with fail
          go_ret
          exact ⟨ret_bool HQ.out.symm, hbel2⟩
        | true =>
          rcases bl_tri pa.toList qa.toList with ⟨e1, e2, e3⟩ | ⟨e1, e2, e3⟩ | ⟨e1, e2, e3⟩
          · have HQ := Lib.hid (HB.out (HZ.out.trans (by rw [hq, e3]; rfl)))
            clear e1 e2
            have HS0 : Hid (World.cell? wr.drew ⟨b, off + (j + 1) * 2, none⟩ = some (.string pa)) := hc0
            have HS1 : Hid (World.cell? wr.drew ⟨b, off + (j + 1) * 2 + 1, none⟩ = some (.int .i64 pb)) := hc1
            have HS2 : Hid (World.cell? wr.drew ⟨b, off + j * 2, none⟩ = some (.string qa)) := hd0
            go_wp2_with fail
            refine wp_region_held_drew (S := (fun W : World => W.cell? ⟨b, off + (j + 1) * 2, none⟩ = some (.string pa) ∧ W.cell? ⟨b, off + (j + 1) * 2 + 1, none⟩ = some (.int .i64 pb) ∧ W.cell? ⟨b, off + j * 2, none⟩ = some (.string qa))) (by kernel_rfl) ⟨HS0.out, HS1.out, HS2.out⟩ (fun HS => ?_)
            refine seq_take (i := 0) (v := ?_) rfl (by kernel_rfl) (by kernel_rfl) (by kernel_rfl) (fun _ _ _ h => h) (by rfl) ?_ HS ?_
            rotate_left
            · intro W hW
              try dsimp only at hW
              obtain ⟨y0, y1, y2⟩ := hW
              (go_simp <;> first | done | with_reducible rfl)
            try simp only [Act.put, List.setIfInBounds_toArray, List.set_cons_zero, List.set_cons_succ]
            refine seq_take (i := 1) (v := ?_) rfl (by kernel_rfl) (by kernel_rfl) (by kernel_rfl) (fun _ _ _ h => h) (by rfl) ?_ HS ?_
            rotate_left
            · intro W hW
              try dsimp only at hW
              obtain ⟨y0, y1, y2⟩ := hW
              (go_simp <;> first | done | with_reducible rfl)
            try simp only [Act.put, List.setIfInBounds_toArray, List.set_cons_zero, List.set_cons_succ]
            refine seq_take (i := 2) (v := ?_) rfl (by kernel_rfl) (by kernel_rfl) (by kernel_rfl) (fun _ _ _ h => h) (by rfl) ?_ HS ?_
            rotate_left
            · intro W hW
              try dsimp only at hW
              obtain ⟨y0, y1, y2⟩ := hW
              (go_simp <;> first | done | with_reducible rfl)
            try simp only [Act.put, List.setIfInBounds_toArray, List.set_cons_zero, List.set_cons_succ]
            refine seq_take (i := 3) (v := ?_) rfl (by kernel_rfl) (by kernel_rfl) (by kernel_rfl) (fun _ _ _ h => h) (by rfl) ?_ HS ?_
            rotate_left
            · intro W hW
              try dsimp only at hW
              obtain ⟨y0, y1, y2⟩ := hW
              (go_simp <;> first | done | with_reducible rfl)
            try simp only [Act.put, List.setIfInBounds_toArray, List.set_cons_zero, List.set_cons_succ]
            refine seq_call (i := 4) rfl (by kernel_rfl) (by rfl) (fun K hK => ?_)
            go_simp
            go_at_call 76
            refine (sl3Pile_any (pa, pb) _ HP.out).mono ?_
            rintro e w2 ⟨rfl, hb2⟩
            rw [hq]
            have hbel2 : Below w.heap.size w w2 := hbel.drew.trans (hb2.mono hsz)
            have x0 := (hb2.cell (p := ⟨b, off + (j + 1) * 2, none⟩) (by simp; omega)).trans HS0.out
            have x1 := (hb2.cell (p := ⟨b, off + (j + 1) * 2 + 1, none⟩) (by simp; omega)).trans HS1.out
            have x2 := (hb2.cell (p := ⟨b, off + j * 2, none⟩) (by simp; omega)).trans HS2.out
            clear hb2
            go_wp2_with fail
            refine hK.out _ _ ⟨x0, x1, x2⟩ (fun HS2 => ?_)
            clear hK K HS
            have HS := HS2
            clear HS2
            try simp only [Act.put, List.setIfInBounds_toArray, List.set_cons_zero, List.set_cons_succ]
            refine seq_take (i := 5) (v := ?_) rfl (by kernel_rfl) (by kernel_rfl) (by kernel_rfl) (fun _ _ _ h => h) (by rfl) ?_ HS ?_
            rotate_left
            · intro W hW
              try dsimp only at hW
              obtain ⟨y0, y1, y2⟩ := hW
              (go_simp <;> first | done | with_reducible rfl)
            try simp only [Act.put, List.setIfInBounds_toArray, List.set_cons_zero, List.set_cons_succ]
            refine seq_take (i := 6) (v := ?_) rfl (by kernel_rfl) (by kernel_rfl) (by kernel_rfl) (fun _ _ _ h => h) (by rfl) ?_ HS ?_
            rotate_left
            · intro W hW
              try dsimp only at hW
              obtain ⟨y0, y1, y2⟩ := hW
              (go_simp <;> first | done | with_reducible rfl)
            try simp only [Act.put, List.setIfInBounds_toArray, List.set_cons_zero, List.set_cons_succ]
            refine seq_take (i := 7) (v := ?_) rfl (by kernel_rfl) (by kernel_rfl) (by kernel_rfl) (fun _ _ _ h => h) (by rfl) ?_ HS ?_
            rotate_left
            · intro W hW
              try dsimp only at hW
              obtain ⟨y0, y1, y2⟩ := hW
              (go_simp <;> first | done | with_reducible rfl)
            try simp only [Act.put, List.setIfInBounds_toArray, List.set_cons_zero, List.set_cons_succ]
            refine seq_take (i := 8) (v := ?_) rfl (by kernel_rfl) (by kernel_rfl) (by kernel_rfl) (fun _ _ _ h => h) (by rfl) ?_ HS ?_
            rotate_left
            · intro W hW
              try dsimp only at hW
              obtain ⟨y0, y1, y2⟩ := hW
              (go_simp <;> first | done | with_reducible rfl)
            try simp only [Act.put, List.setIfInBounds_toArray, List.set_cons_zero, List.set_cons_succ]
            refine seq_take (i := 9) (v := ?_) rfl (by kernel_rfl) (by kernel_rfl) (by kernel_rfl) (fun _ _ _ h => h) (by rfl) ?_ HS ?_
            rotate_left
            · intro W hW
              try dsimp only at hW
              obtain ⟨y0, y1, y2⟩ := hW
              (go_simp <;> first | done | with_reducible rfl)
            try simp only [Act.put, List.setIfInBounds_toArray, List.set_cons_zero, List.set_cons_succ]
            refine seq_take (i := 10) (v := ?_) rfl (by kernel_rfl) (by kernel_rfl) (by kernel_rfl) (fun _ _ _ h => h) (by rfl) ?_ HS ?_
            rotate_left
            · intro W hW
              try dsimp only at hW
              obtain ⟨y0, y1, y2⟩ := hW
              (go_simp <;> first | done | with_reducible rfl)
            try simp only [Act.put, List.setIfInBounds_toArray, List.set_cons_zero, List.set_cons_succ]
            refine seq_take (i := 11) (v := ?_) rfl (by kernel_rfl) (by kernel_rfl) (by kernel_rfl) (fun _ _ _ h => h) (by rfl) ?_ HS ?_
            rotate_left
            · intro W hW
              try dsimp only at hW
              obtain ⟨y0, y1, y2⟩ := hW
              (go_simp <;> first | done | with_reducible rfl)
            try simp only [Act.put, List.setIfInBounds_toArray, List.set_cons_zero, List.set_cons_succ]
            refine seq_take (i := 12) (v := ?_) rfl (by kernel_rfl) (by kernel_rfl) (by kernel_rfl) (fun _ _ _ h => h) (by rfl) ?_ HS ?_
            rotate_left
            · intro W hW
              try dsimp only at hW
              obtain ⟨y0, y1, y2⟩ := hW
              (go_simp <;> first | done | with_reducible rfl)
            try simp only [Act.put, List.setIfInBounds_toArray, List.set_cons_zero, List.set_cons_succ]
            refine seq_take (i := 13) (v := ?_) rfl (by kernel_rfl) (by kernel_rfl) (by kernel_rfl) (fun _ _ _ h => h) (by rfl) ?_ HS ?_
            rotate_left
            · intro W hW
              try dsimp only at hW
              obtain ⟨y0, y1, y2⟩ := hW
              (go_simp <;> first | done | with_reducible rfl)
            try simp only [Act.put, List.setIfInBounds_toArray, List.set_cons_zero, List.set_cons_succ]
            refine seq_take (i := 14) (v := ?_) rfl (by kernel_rfl) (by kernel_rfl) (by kernel_rfl) (fun _ _ _ h => h) (by rfl) ?_ HS ?_
            rotate_left
            · intro W hW
              try dsimp only at hW
              obtain ⟨y0, y1, y2⟩ := hW
              (go_simp <;> first | done | with_reducible rfl)
            try simp only [Act.put, List.setIfInBounds_toArray, List.set_cons_zero, List.set_cons_succ]
            refine seq_take (i := 15) (v := ?_) rfl (by kernel_rfl) (by kernel_rfl) (by kernel_rfl) (fun _ _ _ h => h) (by rfl) ?_ HS ?_
            rotate_left
            · intro W hW
              try dsimp only at hW
              obtain ⟨y0, y1, y2⟩ := hW
              (go_simp <;> first | done | with_reducible rfl)
            try simp only [Act.put, List.setIfInBounds_toArray, List.set_cons_zero, List.set_cons_succ]
            refine seq_take (i := 16) (v := ?_) rfl (by kernel_rfl) (by kernel_rfl) (by kernel_rfl) (fun _ _ _ h => h) (by rfl) ?_ HS ?_
            rotate_left
            · intro W hW
              try dsimp only at hW
              obtain ⟨y0, y1, y2⟩ := hW
              (go_simp <;> first | done | with_reducible rfl)
            try simp only [Act.put, List.setIfInBounds_toArray, List.set_cons_zero, List.set_cons_succ]
            refine seq_take (i := 17) (v := ?_) rfl (by kernel_rfl) (by kernel_rfl) (by kernel_rfl) (fun _ _ _ h => h) (by rfl) ?_ HS ?_
            rotate_left
            · intro W hW
              try dsimp only at hW
              obtain ⟨y0, y1, y2⟩ := hW
              (go_simp <;> first | done | with_reducible rfl)
            try simp only [Act.put, List.setIfInBounds_toArray, List.set_cons_zero, List.set_cons_succ]
            refine seq_take (i := 18) (v := ?_) rfl (by kernel_rfl) (by kernel_rfl) (by kernel_rfl) (fun _ _ _ h => h) (by rfl) ?_ HS ?_
            rotate_left
            · intro W hW
              try dsimp only at hW
              obtain ⟨y0, y1, y2⟩ := hW
              (go_simp <;> first | done | with_reducible rfl)
            try simp only [Act.put, List.setIfInBounds_toArray, List.set_cons_zero, List.set_cons_succ]
            refine seq_take (i := 19) (v := ?_) rfl (by kernel_rfl) (by kernel_rfl) (by kernel_rfl) (fun _ _ _ h => h) (by rfl) ?_ HS ?_
            rotate_left
            · intro W hW
              try dsimp only at hW
              obtain ⟨y0, y1, y2⟩ := hW
              (go_simp <;> first | done | with_reducible rfl)
            try simp only [Act.put, List.setIfInBounds_toArray, List.set_cons_zero, List.set_cons_succ]
            refine seq_take (i := 20) (v := ?_) rfl (by kernel_rfl) (by kernel_rfl) (by kernel_rfl) (fun _ _ _ h => h) (by rfl) ?_ HS ?_
            rotate_left
            · intro W hW
              try dsimp only at hW
              obtain ⟨y0, y1, y2⟩ := hW
              (go_simp <;> first | done | with_reducible rfl)
            try simp only [Act.put, List.setIfInBounds_toArray, List.set_cons_zero, List.set_cons_succ]
            refine seq_take (i := 21) (v := ?_) rfl (by kernel_rfl) (by kernel_rfl) (by kernel_rfl) (fun _ _ _ h => h) (by rfl) ?_ HS ?_
            rotate_left
            · intro W hW
              try dsimp only at hW
              obtain ⟨y0, y1, y2⟩ := hW
              (go_simp <;> first | done | with_reducible rfl)
            try simp only [Act.put, List.setIfInBounds_toArray, List.set_cons_zero, List.set_cons_succ]
            refine seq_take (i := 22) (v := ?_) rfl (by kernel_rfl) (by kernel_rfl) (by kernel_rfl) (fun _ _ _ h => h) (by rfl) ?_ HS ?_
            rotate_left
            · intro W hW
              try dsimp only at hW
              obtain ⟨y0, y1, y2⟩ := hW
              (go_simp <;> first | done | with_reducible rfl)
            try simp only [Act.put, List.setIfInBounds_toArray, List.set_cons_zero, List.set_cons_succ]
            refine seq_take (i := 23) (v := ?_) rfl (by kernel_rfl) (by kernel_rfl) (by kernel_rfl) (fun _ _ _ h => h) (by rfl) ?_ HS ?_
            rotate_left
            · intro W hW
              try dsimp only at hW
              obtain ⟨y0, y1, y2⟩ := hW
              (go_simp <;> first | done | with_reducible rfl)
            try simp only [Act.put, List.setIfInBounds_toArray, List.set_cons_zero, List.set_cons_succ]
            refine wpAnyH_done (by kernel_rfl) ?_ _
            clear HS v1 v3
            clear hq
            go_wp2_with fail
            go_ret
            exact ⟨ret_bool HQ.out.symm, hbel2⟩
          · have HQ := Lib.hid (HB.out (HZ.out.trans (by rw [hq, e3]; rfl)))
            clear e1 e2
            have HS0 : Hid (World.cell? wr.drew ⟨b, off + (j + 1) * 2, none⟩ = some (.string pa)) := hc0
            have HS1 : Hid (World.cell? wr.drew ⟨b, off + (j + 1) * 2 + 1, none⟩ = some (.int .i64 pb)) := hc1
            have HS2 : Hid (World.cell? wr.drew ⟨b, off + j * 2, none⟩ = some (.string qa)) := hd0
            go_wp2_with fail
            refine wp_region_held_drew (S := (fun W : World => W.cell? ⟨b, off + (j + 1) * 2, none⟩ = some (.string pa) ∧ W.cell? ⟨b, off + (j + 1) * 2 + 1, none⟩ = some (.int .i64 pb) ∧ W.cell? ⟨b, off + j * 2, none⟩ = some (.string qa))) (by kernel_rfl) ⟨HS0.out, HS1.out, HS2.out⟩ (fun HS => ?_)
            refine seq_take (i := 0) (v := ?_) rfl (by kernel_rfl) (by kernel_rfl) (by kernel_rfl) (fun _ _ _ h => h) (by rfl) ?_ HS ?_
            rotate_left
            · intro W hW
              try dsimp only at hW
              obtain ⟨y0, y1, y2⟩ := hW
              (go_simp <;> first | done | with_reducible rfl)
            try simp only [Act.put, List.setIfInBounds_toArray, List.set_cons_zero, List.set_cons_succ]
            refine seq_take (i := 1) (v := ?_) rfl (by kernel_rfl) (by kernel_rfl) (by kernel_rfl) (fun _ _ _ h => h) (by rfl) ?_ HS ?_
            rotate_left
            · intro W hW
              try dsimp only at hW
              obtain ⟨y0, y1, y2⟩ := hW
              (go_simp <;> first | done | with_reducible rfl)
            try simp only [Act.put, List.setIfInBounds_toArray, List.set_cons_zero, List.set_cons_succ]
            refine seq_take (i := 2) (v := ?_) rfl (by kernel_rfl) (by kernel_rfl) (by kernel_rfl) (fun _ _ _ h => h) (by rfl) ?_ HS ?_
            rotate_left
            · intro W hW
              try dsimp only at hW
              obtain ⟨y0, y1, y2⟩ := hW
              (go_simp <;> first | done | with_reducible rfl)
            try simp only [Act.put, List.setIfInBounds_toArray, List.set_cons_zero, List.set_cons_succ]
            refine seq_take (i := 3) (v := ?_) rfl (by kernel_rfl) (by kernel_rfl) (by kernel_rfl) (fun _ _ _ h => h) (by rfl) ?_ HS ?_
            rotate_left
            · intro W hW
              try dsimp only at hW
              obtain ⟨y0, y1, y2⟩ := hW
              (go_simp <;> first | done | with_reducible rfl)
            try simp only [Act.put, List.setIfInBounds_toArray, List.set_cons_zero, List.set_cons_succ]
            refine seq_call (i := 4) rfl (by kernel_rfl) (by rfl) (fun K hK => ?_)
            go_simp
            go_at_call 76
            refine (sl3Pile_any (pa, pb) _ HP.out).mono ?_
            rintro e w2 ⟨rfl, hb2⟩
            rw [hq]
            have hbel2 : Below w.heap.size w w2 := hbel.drew.trans (hb2.mono hsz)
            have x0 := (hb2.cell (p := ⟨b, off + (j + 1) * 2, none⟩) (by simp; omega)).trans HS0.out
            have x1 := (hb2.cell (p := ⟨b, off + (j + 1) * 2 + 1, none⟩) (by simp; omega)).trans HS1.out
            have x2 := (hb2.cell (p := ⟨b, off + j * 2, none⟩) (by simp; omega)).trans HS2.out
            clear hb2
            go_wp2_with fail
            refine hK.out _ _ ⟨x0, x1, x2⟩ (fun HS2 => ?_)
            clear hK K HS
            have HS := HS2
            clear HS2
            try simp only [Act.put, List.setIfInBounds_toArray, List.set_cons_zero, List.set_cons_succ]
            refine seq_take (i := 5) (v := ?_) rfl (by kernel_rfl) (by kernel_rfl) (by kernel_rfl) (fun _ _ _ h => h) (by rfl) ?_ HS ?_
            rotate_left
            · intro W hW
              try dsimp only at hW
              obtain ⟨y0, y1, y2⟩ := hW
              (go_simp <;> first | done | with_reducible rfl)
            try simp only [Act.put, List.setIfInBounds_toArray, List.set_cons_zero, List.set_cons_succ]
            refine seq_take (i := 6) (v := ?_) rfl (by kernel_rfl) (by kernel_rfl) (by kernel_rfl) (fun _ _ _ h => h) (by rfl) ?_ HS ?_
            rotate_left
            · intro W hW
              try dsimp only at hW
              obtain ⟨y0, y1, y2⟩ := hW
              (go_simp <;> first | done | with_reducible rfl)
            try simp only [Act.put, List.setIfInBounds_toArray, List.set_cons_zero, List.set_cons_succ]
            refine seq_take (i := 7) (v := ?_) rfl (by kernel_rfl) (by kernel_rfl) (by kernel_rfl) (fun _ _ _ h => h) (by rfl) ?_ HS ?_
            rotate_left
            · intro W hW
              try dsimp only at hW
              obtain ⟨y0, y1, y2⟩ := hW
              (go_simp <;> first | done | with_reducible rfl)
            try simp only [Act.put, List.setIfInBounds_toArray, List.set_cons_zero, List.set_cons_succ]
            refine seq_take (i := 8) (v := ?_) rfl (by kernel_rfl) (by kernel_rfl) (by kernel_rfl) (fun _ _ _ h => h) (by rfl) ?_ HS ?_
            rotate_left
            · intro W hW
              try dsimp only at hW
              obtain ⟨y0, y1, y2⟩ := hW
              (go_simp <;> first | done | with_reducible rfl)
            try simp only [Act.put, List.setIfInBounds_toArray, List.set_cons_zero, List.set_cons_succ]
            refine seq_take (i := 9) (v := ?_) rfl (by kernel_rfl) (by kernel_rfl) (by kernel_rfl) (fun _ _ _ h => h) (by rfl) ?_ HS ?_
            rotate_left
            · intro W hW
              try dsimp only at hW
              obtain ⟨y0, y1, y2⟩ := hW
              (go_simp <;> first | done | with_reducible rfl)
            try simp only [Act.put, List.setIfInBounds_toArray, List.set_cons_zero, List.set_cons_succ]
            refine seq_take (i := 10) (v := ?_) rfl (by kernel_rfl) (by kernel_rfl) (by kernel_rfl) (fun _ _ _ h => h) (by rfl) ?_ HS ?_
            rotate_left
            · intro W hW
              try dsimp only at hW
              obtain ⟨y0, y1, y2⟩ := hW
              (go_simp <;> first | done | with_reducible rfl)
            try simp only [Act.put, List.setIfInBounds_toArray, List.set_cons_zero, List.set_cons_succ]
            refine seq_take (i := 11) (v := ?_) rfl (by kernel_rfl) (by kernel_rfl) (by kernel_rfl) (fun _ _ _ h => h) (by rfl) ?_ HS ?_
            rotate_left
            · intro W hW
              try dsimp only at hW
              obtain ⟨y0, y1, y2⟩ := hW
              (go_simp <;> first | done | with_reducible rfl)
            try simp only [Act.put, List.setIfInBounds_toArray, List.set_cons_zero, List.set_cons_succ]
            refine seq_take (i := 12) (v := ?_) rfl (by kernel_rfl) (by kernel_rfl) (by kernel_rfl) (fun _ _ _ h => h) (by rfl) ?_ HS ?_
            rotate_left
            · intro W hW
              try dsimp only at hW
              obtain ⟨y0, y1, y2⟩ := hW
              (go_simp <;> first | done | with_reducible rfl)
            try simp only [Act.put, List.setIfInBounds_toArray, List.set_cons_zero, List.set_cons_succ]
            refine seq_take (i := 13) (v := ?_) rfl (by kernel_rfl) (by kernel_rfl) (by kernel_rfl) (fun _ _ _ h => h) (by rfl) ?_ HS ?_
            rotate_left
            · intro W hW
              try dsimp only at hW
              obtain ⟨y0, y1, y2⟩ := hW
              (go_simp <;> first | done | with_reducible rfl)
            try simp only [Act.put, List.setIfInBounds_toArray, List.set_cons_zero, List.set_cons_succ]
            refine seq_take (i := 14) (v := ?_) rfl (by kernel_rfl) (by kernel_rfl) (by kernel_rfl) (fun _ _ _ h => h) (by rfl) ?_ HS ?_
            rotate_left
            · intro W hW
              try dsimp only at hW
              obtain ⟨y0, y1, y2⟩ := hW
              (go_simp <;> first | done | with_reducible rfl)
            try simp only [Act.put, List.setIfInBounds_toArray, List.set_cons_zero, List.set_cons_succ]
            refine seq_take (i := 15) (v := ?_) rfl (by kernel_rfl) (by kernel_rfl) (by kernel_rfl) (fun _ _ _ h => h) (by rfl) ?_ HS ?_
            rotate_left
            · intro W hW
              try dsimp only at hW
              obtain ⟨y0, y1, y2⟩ := hW
              (go_simp <;> first | done | with_reducible rfl)
            try simp only [Act.put, List.setIfInBounds_toArray, List.set_cons_zero, List.set_cons_succ]
            refine seq_take (i := 16) (v := ?_) rfl (by kernel_rfl) (by kernel_rfl) (by kernel_rfl) (fun _ _ _ h => h) (by rfl) ?_ HS ?_
            rotate_left
            · intro W hW
              try dsimp only at hW
              obtain ⟨y0, y1, y2⟩ := hW
              (go_simp <;> first | done | with_reducible rfl)
            try simp only [Act.put, List.setIfInBounds_toArray, List.set_cons_zero, List.set_cons_succ]
            refine seq_take (i := 17) (v := ?_) rfl (by kernel_rfl) (by kernel_rfl) (by kernel_rfl) (fun _ _ _ h => h) (by rfl) ?_ HS ?_
            rotate_left
            · intro W hW
              try dsimp only at hW
              obtain ⟨y0, y1, y2⟩ := hW
              (go_simp <;> first | done | with_reducible rfl)
            try simp only [Act.put, List.setIfInBounds_toArray, List.set_cons_zero, List.set_cons_succ]
            refine seq_take (i := 18) (v := ?_) rfl (by kernel_rfl) (by kernel_rfl) (by kernel_rfl) (fun _ _ _ h => h) (by rfl) ?_ HS ?_
            rotate_left
            · intro W hW
              try dsimp only at hW
              obtain ⟨y0, y1, y2⟩ := hW
              (go_simp <;> first | done | with_reducible rfl)
            try simp only [Act.put, List.setIfInBounds_toArray, List.set_cons_zero, List.set_cons_succ]
            refine seq_take (i := 19) (v := ?_) rfl (by kernel_rfl) (by kernel_rfl) (by kernel_rfl) (fun _ _ _ h => h) (by rfl) ?_ HS ?_
            rotate_left
            · intro W hW
              try dsimp only at hW
              obtain ⟨y0, y1, y2⟩ := hW
              (go_simp <;> first | done | with_reducible rfl)
            try simp only [Act.put, List.setIfInBounds_toArray, List.set_cons_zero, List.set_cons_succ]
            refine seq_take (i := 20) (v := ?_) rfl (by kernel_rfl) (by kernel_rfl) (by kernel_rfl) (fun _ _ _ h => h) (by rfl) ?_ HS ?_
            rotate_left
            · intro W hW
              try dsimp only at hW
              obtain ⟨y0, y1, y2⟩ := hW
              (go_simp <;> first | done | with_reducible rfl)
            try simp only [Act.put, List.setIfInBounds_toArray, List.set_cons_zero, List.set_cons_succ]
            refine seq_take (i := 21) (v := ?_) rfl (by kernel_rfl) (by kernel_rfl) (by kernel_rfl) (fun _ _ _ h => h) (by rfl) ?_ HS ?_
            rotate_left
            · intro W hW
              try dsimp only at hW
              obtain ⟨y0, y1, y2⟩ := hW
              (go_simp <;> first | done | with_reducible rfl)
            try simp only [Act.put, List.setIfInBounds_toArray, List.set_cons_zero, List.set_cons_succ]
            refine seq_take (i := 22) (v := ?_) rfl (by kernel_rfl) (by kernel_rfl) (by kernel_rfl) (fun _ _ _ h => h) (by rfl) ?_ HS ?_
            rotate_left
            · intro W hW
              try dsimp only at hW
              obtain ⟨y0, y1, y2⟩ := hW
              (go_simp <;> first | done | with_reducible rfl)
            try simp only [Act.put, List.setIfInBounds_toArray, List.set_cons_zero, List.set_cons_succ]
            refine seq_take (i := 23) (v := ?_) rfl (by kernel_rfl) (by kernel_rfl) (by kernel_rfl) (fun _ _ _ h => h) (by rfl) ?_ HS ?_
            rotate_left
            · intro W hW
              try dsimp only at hW
              obtain ⟨y0, y1, y2⟩ := hW
              (go_simp <;> first | done | with_reducible rfl)
            try simp only [Act.put, List.setIfInBounds_toArray, List.set_cons_zero, List.set_cons_succ]
            refine wpAnyH_done (by kernel_rfl) ?_ _
            clear HS v1 v3
            clear hq
            go_wp2_with fail
            go_ret
            exact ⟨ret_bool HQ.out.symm, hbel2⟩
          · have HQ := Lib.hid (HA.out (HZ.out.trans (by rw [hq, e3]; rfl)))
            clear e1 e2
            have HS0 : Hid (World.cell? wr.drew ⟨b, off + (j + 1) * 2, none⟩ = some (.string pa)) := hc0
            have HS1 : Hid (World.cell? wr.drew ⟨b, off + (j + 1) * 2 + 1, none⟩ = some (.int .i64 pb)) := hc1
            have HS2 : Hid (World.cell? wr.drew ⟨b, off + j * 2, none⟩ = some (.string qa)) := hd0
            go_wp2_with fail
            refine wp_region_held_drew (S := (fun W : World => W.cell? ⟨b, off + (j + 1) * 2, none⟩ = some (.string pa) ∧ W.cell? ⟨b, off + (j + 1) * 2 + 1, none⟩ = some (.int .i64 pb) ∧ W.cell? ⟨b, off + j * 2, none⟩ = some (.string qa))) (by kernel_rfl) ⟨HS0.out, HS1.out, HS2.out⟩ (fun HS => ?_)
            refine seq_take (i := 0) (v := ?_) rfl (by kernel_rfl) (by kernel_rfl) (by kernel_rfl) (fun _ _ _ h => h) (by rfl) ?_ HS ?_
            rotate_left
            · intro W hW
              try dsimp only at hW
              obtain ⟨y0, y1, y2⟩ := hW
              (go_simp <;> first | done | with_reducible rfl)
            try simp only [Act.put, List.setIfInBounds_toArray, List.set_cons_zero, List.set_cons_succ]
            refine seq_take (i := 1) (v := ?_) rfl (by kernel_rfl) (by kernel_rfl) (by kernel_rfl) (fun _ _ _ h => h) (by rfl) ?_ HS ?_
            rotate_left
            · intro W hW
              try dsimp only at hW
              obtain ⟨y0, y1, y2⟩ := hW
              (go_simp <;> first | done | with_reducible rfl)
            try simp only [Act.put, List.setIfInBounds_toArray, List.set_cons_zero, List.set_cons_succ]
            refine seq_take (i := 2) (v := ?_) rfl (by kernel_rfl) (by kernel_rfl) (by kernel_rfl) (fun _ _ _ h => h) (by rfl) ?_ HS ?_
            rotate_left
            · intro W hW
              try dsimp only at hW
              obtain ⟨y0, y1, y2⟩ := hW
              (go_simp <;> first | done | with_reducible rfl)
            try simp only [Act.put, List.setIfInBounds_toArray, List.set_cons_zero, List.set_cons_succ]
            refine seq_take (i := 3) (v := ?_) rfl (by kernel_rfl) (by kernel_rfl) (by kernel_rfl) (fun _ _ _ h => h) (by rfl) ?_ HS ?_
            rotate_left
            · intro W hW
              try dsimp only at hW
              obtain ⟨y0, y1, y2⟩ := hW
              (go_simp <;> first | done | with_reducible rfl)
            try simp only [Act.put, List.setIfInBounds_toArray, List.set_cons_zero, List.set_cons_succ]
            refine seq_call (i := 4) rfl (by kernel_rfl) (by rfl) (fun K hK => ?_)
            go_simp
            go_at_call 76
            refine (sl3Pile_any (pa, pb) _ HP.out).mono ?_
            rintro e w2 ⟨rfl, hb2⟩
            rw [hq]
            have hbel2 : Below w.heap.size w w2 := hbel.drew.trans (hb2.mono hsz)
            have x0 := (hb2.cell (p := ⟨b, off + (j + 1) * 2, none⟩) (by simp; omega)).trans HS0.out
            have x1 := (hb2.cell (p := ⟨b, off + (j + 1) * 2 + 1, none⟩) (by simp; omega)).trans HS1.out
            have x2 := (hb2.cell (p := ⟨b, off + j * 2, none⟩) (by simp; omega)).trans HS2.out
            clear hb2
            go_wp2_with fail
            refine hK.out _ _ ⟨x0, x1, x2⟩ (fun HS2 => ?_)
            clear hK K HS
            have HS := HS2
            clear HS2
            try simp only [Act.put, List.setIfInBounds_toArray, List.set_cons_zero, List.set_cons_succ]
            refine seq_take (i := 5) (v := ?_) rfl (by kernel_rfl) (by kernel_rfl) (by kernel_rfl) (fun _ _ _ h => h) (by rfl) ?_ HS ?_
            rotate_left
            · intro W hW
              try dsimp only at hW
              obtain ⟨y0, y1, y2⟩ := hW
              (go_simp <;> first | done | with_reducible rfl)
            try simp only [Act.put, List.setIfInBounds_toArray, List.set_cons_zero, List.set_cons_succ]
            refine seq_take (i := 6) (v := ?_) rfl (by kernel_rfl) (by kernel_rfl) (by kernel_rfl) (fun _ _ _ h => h) (by rfl) ?_ HS ?_
            rotate_left
            · intro W hW
              try dsimp only at hW
              obtain ⟨y0, y1, y2⟩ := hW
              (go_simp <;> first | done | with_reducible rfl)
            try simp only [Act.put, List.setIfInBounds_toArray, List.set_cons_zero, List.set_cons_succ]
            refine seq_take (i := 7) (v := ?_) rfl (by kernel_rfl) (by kernel_rfl) (by kernel_rfl) (fun _ _ _ h => h) (by rfl) ?_ HS ?_
            rotate_left
            · intro W hW
              try dsimp only at hW
              obtain ⟨y0, y1, y2⟩ := hW
              (go_simp <;> first | done | with_reducible rfl)
            try simp only [Act.put, List.setIfInBounds_toArray, List.set_cons_zero, List.set_cons_succ]
            refine seq_take (i := 8) (v := ?_) rfl (by kernel_rfl) (by kernel_rfl) (by kernel_rfl) (fun _ _ _ h => h) (by rfl) ?_ HS ?_
            rotate_left
            · intro W hW
              try dsimp only at hW
              obtain ⟨y0, y1, y2⟩ := hW
              (go_simp <;> first | done | with_reducible rfl)
            try simp only [Act.put, List.setIfInBounds_toArray, List.set_cons_zero, List.set_cons_succ]
            refine seq_take (i := 9) (v := ?_) rfl (by kernel_rfl) (by kernel_rfl) (by kernel_rfl) (fun _ _ _ h => h) (by rfl) ?_ HS ?_
            rotate_left
            · intro W hW
              try dsimp only at hW
              obtain ⟨y0, y1, y2⟩ := hW
              (go_simp <;> first | done | with_reducible rfl)
            try simp only [Act.put, List.setIfInBounds_toArray, List.set_cons_zero, List.set_cons_succ]
            refine seq_take (i := 10) (v := ?_) rfl (by kernel_rfl) (by kernel_rfl) (by kernel_rfl) (fun _ _ _ h => h) (by rfl) ?_ HS ?_
            rotate_left
            · intro W hW
              try dsimp only at hW
              obtain ⟨y0, y1, y2⟩ := hW
              (go_simp <;> first | done | with_reducible rfl)
            try simp only [Act.put, List.setIfInBounds_toArray, List.set_cons_zero, List.set_cons_succ]
            refine seq_take (i := 11) (v := ?_) rfl (by kernel_rfl) (by kernel_rfl) (by kernel_rfl) (fun _ _ _ h => h) (by rfl) ?_ HS ?_
            rotate_left
            · intro W hW
              try dsimp only at hW
              obtain ⟨y0, y1, y2⟩ := hW
              (go_simp <;> first | done | with_reducible rfl)
            try simp only [Act.put, List.setIfInBounds_toArray, List.set_cons_zero, List.set_cons_succ]
            refine seq_take (i := 12) (v := ?_) rfl (by kernel_rfl) (by kernel_rfl) (by kernel_rfl) (fun _ _ _ h => h) (by rfl) ?_ HS ?_
            rotate_left
            · intro W hW
              try dsimp only at hW
              obtain ⟨y0, y1, y2⟩ := hW
              (go_simp <;> first | done | with_reducible rfl)
            try simp only [Act.put, List.setIfInBounds_toArray, List.set_cons_zero, List.set_cons_succ]
            refine seq_take (i := 13) (v := ?_) rfl (by kernel_rfl) (by kernel_rfl) (by kernel_rfl) (fun _ _ _ h => h) (by rfl) ?_ HS ?_
            rotate_left
            · intro W hW
              try dsimp only at hW
              obtain ⟨y0, y1, y2⟩ := hW
              (go_simp <;> first | done | with_reducible rfl)
            try simp only [Act.put, List.setIfInBounds_toArray, List.set_cons_zero, List.set_cons_succ]
            refine seq_take (i := 14) (v := ?_) rfl (by kernel_rfl) (by kernel_rfl) (by kernel_rfl) (fun _ _ _ h => h) (by rfl) ?_ HS ?_
            rotate_left
            · intro W hW
              try dsimp only at hW
              obtain ⟨y0, y1, y2⟩ := hW
              (go_simp <;> first | done | with_reducible rfl)
            try simp only [Act.put, List.setIfInBounds_toArray, List.set_cons_zero, List.set_cons_succ]
            refine seq_take (i := 15) (v := ?_) rfl (by kernel_rfl) (by kernel_rfl) (by kernel_rfl) (fun _ _ _ h => h) (by rfl) ?_ HS ?_
            rotate_left
            · intro W hW
              try dsimp only at hW
              obtain ⟨y0, y1, y2⟩ := hW
              (go_simp <;> first | done | with_reducible rfl)
            try simp only [Act.put, List.setIfInBounds_toArray, List.set_cons_zero, List.set_cons_succ]
            refine seq_take (i := 16) (v := ?_) rfl (by kernel_rfl) (by kernel_rfl) (by kernel_rfl) (fun _ _ _ h => h) (by rfl) ?_ HS ?_
            rotate_left
            · intro W hW
              try dsimp only at hW
              obtain ⟨y0, y1, y2⟩ := hW
              (go_simp <;> first | done | with_reducible rfl)
            try simp only [Act.put, List.setIfInBounds_toArray, List.set_cons_zero, List.set_cons_succ]
            refine seq_take (i := 17) (v := ?_) rfl (by kernel_rfl) (by kernel_rfl) (by kernel_rfl) (fun _ _ _ h => h) (by rfl) ?_ HS ?_
            rotate_left
            · intro W hW
              try dsimp only at hW
              obtain ⟨y0, y1, y2⟩ := hW
              (go_simp <;> first | done | with_reducible rfl)
            try simp only [Act.put, List.setIfInBounds_toArray, List.set_cons_zero, List.set_cons_succ]
            refine seq_take (i := 18) (v := ?_) rfl (by kernel_rfl) (by kernel_rfl) (by kernel_rfl) (fun _ _ _ h => h) (by rfl) ?_ HS ?_
            rotate_left
            · intro W hW
              try dsimp only at hW
              obtain ⟨y0, y1, y2⟩ := hW
              (go_simp <;> first | done | with_reducible rfl)
            try simp only [Act.put, List.setIfInBounds_toArray, List.set_cons_zero, List.set_cons_succ]
            refine seq_take (i := 19) (v := ?_) rfl (by kernel_rfl) (by kernel_rfl) (by kernel_rfl) (fun _ _ _ h => h) (by rfl) ?_ HS ?_
            rotate_left
            · intro W hW
              try dsimp only at hW
              obtain ⟨y0, y1, y2⟩ := hW
              (go_simp <;> first | done | with_reducible rfl)
            try simp only [Act.put, List.setIfInBounds_toArray, List.set_cons_zero, List.set_cons_succ]
            refine seq_take (i := 20) (v := ?_) rfl (by kernel_rfl) (by kernel_rfl) (by kernel_rfl) (fun _ _ _ h => h) (by rfl) ?_ HS ?_
            rotate_left
            · intro W hW
              try dsimp only at hW
              obtain ⟨y0, y1, y2⟩ := hW
              (go_simp <;> first | done | with_reducible rfl)
            try simp only [Act.put, List.setIfInBounds_toArray, List.set_cons_zero, List.set_cons_succ]
            refine seq_take (i := 21) (v := ?_) rfl (by kernel_rfl) (by kernel_rfl) (by kernel_rfl) (fun _ _ _ h => h) (by rfl) ?_ HS ?_
            rotate_left
            · intro W hW
              try dsimp only at hW
              obtain ⟨y0, y1, y2⟩ := hW
              (go_simp <;> first | done | with_reducible rfl)
            try simp only [Act.put, List.setIfInBounds_toArray, List.set_cons_zero, List.set_cons_succ]
            refine seq_take (i := 22) (v := ?_) rfl (by kernel_rfl) (by kernel_rfl) (by kernel_rfl) (fun _ _ _ h => h) (by rfl) ?_ HS ?_
            rotate_left
            · intro W hW
              try dsimp only at hW
              obtain ⟨y0, y1, y2⟩ := hW
              (go_simp <;> first | done | with_reducible rfl)
            try simp only [Act.put, List.setIfInBounds_toArray, List.set_cons_zero, List.set_cons_succ]
            refine seq_take (i := 23) (v := ?_) rfl (by kernel_rfl) (by kernel_rfl) (by kernel_rfl) (fun _ _ _ h => h) (by rfl) ?_ HS ?_
            rotate_left
            · intro W hW
              try dsimp only at hW
              obtain ⟨y0, y1, y2⟩ := hW
              (go_simp <;> first | done | with_reducible rfl)
            try simp only [Act.put, List.setIfInBounds_toArray, List.set_cons_zero, List.set_cons_succ]
            refine wpAnyH_done (by kernel_rfl) ?_ _
            clear HS v1 v3
            clear hq
            go_wp2_with fail
            go_roundw
            case rel => exact ⟨j + 1 + 1, by omega, by go_num, hbel2, HQ⟩
            case measure => simp [intOf]; omega
    · have HE : Hid (plsB ps = decide ((n : Int) ≤ 12)) := by
        show _ = _
        have h1 := HX.out
        have : k = ps.length := by rw [HN.out]; omega
        rw [this] at h1
        rw [plsB_all h1, HN.out]
      clear ha'
      go_wp2_with fail
      go_ret
      exact ⟨ret_bool HE.out.symm, hbel⟩

end Go.Proofs.Ytkpgbombikgffaa
