/- What PrecinctsValid of the program returns. The conditions stand in each theorem. -/
import Derived.Test.YtkpgbombikgffaaPils
import Derived.Test.YtkpgbombikgffaaSeq
import Derived.IntWalk
namespace Go.Proofs.Ytkpgbombikgffaa
open Go.RowKit Go.ChangeShapes
set_option linter.unusedVariables false
set_option linter.unusedSimpArgs false

theorem okId0 {l : List Pc} (h : 0 < l.length) : okIdAt (l.map core) 0 = (decide ((1 : Int) ≤ l[0].id ∧ l[0].id ≤ (99 : Int)) && plsB l[0].ps) := by
  have h' : 0 < (l.map core).length := by simpa using h
  have := okIdAt_zero h'
  simpa [core] using this
theorem okIdS {l : List Pc} {j : Nat} (h : j + 1 < l.length) : okIdAt (l.map core) (j + 1) = (decide ((1 : Int) ≤ l[j + 1].id ∧ l[j + 1].id ≤ (99 : Int)) && (plsB l[j + 1].ps && decide ((l[j]'(by omega)).id < l[j + 1].id))) := by
  have h' : j + 1 < (l.map core).length := by simpa using h
  have := okIdAt_succ h'
  simpa [core] using this
theorem okIdBad1 {l : List Pc} {k : Nat} (h : k < l.length) (hb : l[k].id < 1 ∨ 99 < l[k].id) : okIdAt (l.map core) k = false :=
  okIdAt_bad1 (by simpa using h) (by simpa [core] using hb)
theorem okIdBad2 {l : List Pc} {k : Nat} (h : k < l.length) (hb : plsB l[k].ps = false) : okIdAt (l.map core) k = false :=
  okIdAt_bad2 (by simpa using h) (by simpa [core] using hb)
theorem idIn {x : Int} (h1 : 1 ≤ x) (h2 : x ≤ 99) : decide ((1 : Int) ≤ x ∧ x ≤ (99 : Int)) = true := decide_eq_true ⟨h1, h2⟩
/-- What is known of the precincts at hand. -/
def Few (w : World) (l : List Pc) : Prop := ∀ p ∈ l, PcIn w w.heap.size p ∧ p.ps.length ≤ 1048576 ∧ ∀ q ∈ p.ps, smallPl q

set_option maxRecDepth 100000 in
set_option maxHeartbeats 4000000 in
theorem PrecinctsValid_any (A : Option Addr) (n c : Nat) (l : List Pc) (w : World) (hn : l.length = n) (hm : n ≤ 1048576) (hs : Few w l) (ha : Row w w.heap.size A (pcCells l)) :
    Calls Try.prog 48 #[.slice A n c] w (Says w (pcsB (l.map core))) := by
  have HN := Lib.hid hn
  have HF := Lib.hid hs
  clear hn hs
  go_enter Try.func48, Try.ntmps48
  go_wp2_with fail
  go_loopw [7] (fun i wx => ∃ k : Nat, k ≤ n ∧ i = .int .i64 k ∧ Below w.heap.size w wx ∧ Hid (allR (okIdAt (l.map core)) k = true)) (fun i _ => n - (intOf i).toNat)
  case atStart => exact ⟨0, Nat.zero_le _, rfl, Below.refl _ _, rfl⟩
  case round =>
    obtain ⟨k, hk, rfl, hbel, HX⟩ := hrel
    have ha' := (ha.below hbel).more hbel.size
    have hsz := hbel.size
    clear ha
    by_cases hlt : k < n
    · have hl : k < l.length := by rw [HN.out]; exact hlt
      obtain ⟨b, off, rfl, hbw, hc0, hc1⟩ := prec_at ha' hl
      have HP := Lib.hid (HF.out _ (List.getElem_mem hl))
      have HB : Hid (okIdAt (l.map core) k = false → pcsB (l.map core) = false) := fun h => pcsB_bad (by simpa using hl) h
      have HB1 := Lib.hid (fun h => okIdBad1 hl h)
      have HB2 := Lib.hid (fun h => okIdBad2 hl h)
      have HA := Lib.hid (fun h => allR_succ HX.out h)
      clear HF
      cases k with
      | zero =>
        have HZ := Lib.hid (okId0 hl)
        clear ha'
        generalize l[0] = p at *
        obtain ⟨pid, pA, pn, pc, pps⟩ := p
        simp only [Nat.zero_mul, Nat.add_zero] at hc0 hc1 HZ HB1 HB2
        by_cases g1 : pid < 1
        · have HQ := Lib.hid (HB.out (HB1.out (.inl g1)))
          have g1' : decide (pid < 1) = true := by simpa using g1

          have HS0 : Hid (World.cell? (wr.alloc (.cells #[.int .i64 pid, .slice pA pn pc] 86)).drew ⟨wr.heap.size, 0, none⟩ = some (.int .i64 pid)) := (Blk.new wr 86 #[.int .i64 pid, .slice pA pn pc]).cell 0
          have HS1 : Hid (World.cell? (wr.alloc (.cells #[.int .i64 pid, .slice pA pn pc] 86)).drew ⟨wr.heap.size, 1, none⟩ = some (.slice pA pn pc)) := (Blk.new wr 86 #[.int .i64 pid, .slice pA pn pc]).cell 1
          have hbelA : Below w.heap.size w (wr.alloc (.cells #[.int .i64 pid, .slice pA pn pc] 86)).drew := (hbel.alloc hbel.size _).drew
          have hszA := hbelA.size
          have HPL := Lib.hid (PilesValid_any pA pn pc pps (wr.alloc (.cells #[.int .i64 pid, .slice pA pn pc] 86)).drew HP.out.1.len (by have e := HP.out.1.len; have e2 := HP.out.2.1; simp only at e e2; omega) HP.out.2.2 ((HP.out.1.row.below hbelA).more hbelA.size))
          go_wp2_with fail
          refine wp_region_held_drew (S := (fun W : World => W.cell? ⟨wr.heap.size, 0, none⟩ = some (.int .i64 pid) ∧ W.cell? ⟨wr.heap.size, 1, none⟩ = some (.slice pA pn pc))) (by kernel_rfl) ⟨HS0.out, HS1.out⟩ (fun HS => ?_)
          refine seq_take (i := 0) (v := ?_) rfl (by kernel_rfl) (by kernel_rfl) (by kernel_rfl) (fun _ _ _ h => h) (by rfl) ?_ HS ?_
          rotate_left
          · intro W hW
            try dsimp only at hW
            obtain ⟨y0, y1⟩ := hW
            (go_simp <;> first | done | with_reducible rfl)
          try simp only [Act.put, List.setIfInBounds_toArray, List.set_cons_zero, List.set_cons_succ]
          refine seq_take (i := 1) (v := ?_) rfl (by kernel_rfl) (by kernel_rfl) (by kernel_rfl) (fun _ _ _ h => h) (by rfl) ?_ HS ?_
          rotate_left
          · intro W hW
            try dsimp only at hW
            obtain ⟨y0, y1⟩ := hW
            (go_simp <;> first | done | with_reducible rfl)
          try simp only [Act.put, List.setIfInBounds_toArray, List.set_cons_zero, List.set_cons_succ]
          refine seq_take (i := 2) (v := ?_) rfl (by kernel_rfl) (by kernel_rfl) (by kernel_rfl) (fun _ _ _ h => h) (by rfl) ?_ HS ?_
          rotate_left
          · intro W hW
            try dsimp only at hW
            obtain ⟨y0, y1⟩ := hW
            (go_simp <;> first | done | with_reducible rfl)
          try simp only [Act.put, List.setIfInBounds_toArray, List.set_cons_zero, List.set_cons_succ]
          refine seq_take (i := 3) (v := ?_) rfl (by kernel_rfl) (by kernel_rfl) (by kernel_rfl) (fun _ _ _ h => h) (by rfl) ?_ HS ?_
          rotate_left
          · intro W hW
            try dsimp only at hW
            obtain ⟨y0, y1⟩ := hW
            (go_simp <;> first | done | with_reducible rfl)
          try simp only [Act.put, List.setIfInBounds_toArray, List.set_cons_zero, List.set_cons_succ]
          refine seq_skip (i := 4) rfl (by kernel_rfl) (by kernel_rfl) (by kernel_rfl) (fun _ _ _ h => h) (by rfl) HS ?_
          try simp only [Act.put, List.setIfInBounds_toArray, List.set_cons_zero, List.set_cons_succ]
          refine seq_skip (i := 5) rfl (by kernel_rfl) (by kernel_rfl) (by kernel_rfl) (fun _ _ _ h => h) (by rfl) HS ?_
          try simp only [Act.put, List.setIfInBounds_toArray, List.set_cons_zero, List.set_cons_succ]
          refine seq_skip (i := 6) rfl (by kernel_rfl) (by kernel_rfl) (by kernel_rfl) (fun _ _ _ h => h) (by rfl) HS ?_
          try simp only [Act.put, List.setIfInBounds_toArray, List.set_cons_zero, List.set_cons_succ]
          refine seq_take (i := 7) (v := ?_) rfl (by kernel_rfl) (by kernel_rfl) (by kernel_rfl) (fun _ _ _ h => h) (by rfl) ?_ HS ?_
          rotate_left
          · intro W hW
            try dsimp only at hW
            obtain ⟨y0, y1⟩ := hW
            (go_simp <;> first | done | with_reducible rfl)
          try simp only [Act.put, List.setIfInBounds_toArray, List.set_cons_zero, List.set_cons_succ]
          refine seq_take (i := 8) (v := ?_) rfl (by kernel_rfl) (by kernel_rfl) (by kernel_rfl) (fun _ _ _ h => h) (by rfl) ?_ HS ?_
          rotate_left
          · intro W hW
            try dsimp only at hW
            obtain ⟨y0, y1⟩ := hW
            (go_simp <;> first | done | with_reducible rfl)
          try simp only [Act.put, List.setIfInBounds_toArray, List.set_cons_zero, List.set_cons_succ]
          refine seq_skip (i := 9) rfl (by kernel_rfl) (by kernel_rfl) (by kernel_rfl) (fun _ _ _ h => h) (by rfl) HS ?_
          try simp only [Act.put, List.setIfInBounds_toArray, List.set_cons_zero, List.set_cons_succ]
          refine seq_skip (i := 10) rfl (by kernel_rfl) (by kernel_rfl) (by kernel_rfl) (fun _ _ _ h => h) (by rfl) HS ?_
          try simp only [Act.put, List.setIfInBounds_toArray, List.set_cons_zero, List.set_cons_succ]
          refine seq_skip (i := 11) rfl (by kernel_rfl) (by kernel_rfl) (by kernel_rfl) (fun _ _ _ h => h) (by rfl) HS ?_
          try simp only [Act.put, List.setIfInBounds_toArray, List.set_cons_zero, List.set_cons_succ]
          refine seq_skip (i := 12) rfl (by kernel_rfl) (by kernel_rfl) (by kernel_rfl) (fun _ _ _ h => h) (by rfl) HS ?_
          try simp only [Act.put, List.setIfInBounds_toArray, List.set_cons_zero, List.set_cons_succ]
          refine seq_take (i := 13) (v := ?_) rfl (by kernel_rfl) (by kernel_rfl) (by kernel_rfl) (fun _ _ _ h => h) (by rfl) ?_ HS ?_
          rotate_left
          · intro W hW
            try dsimp only at hW
            obtain ⟨y0, y1⟩ := hW
            (go_simp <;> first | done | with_reducible rfl)
          try simp only [Act.put, List.setIfInBounds_toArray, List.set_cons_zero, List.set_cons_succ]
          refine seq_take (i := 14) (v := ?_) rfl (by kernel_rfl) (by kernel_rfl) (by kernel_rfl) (fun _ _ _ h => h) (by rfl) ?_ HS ?_
          rotate_left
          · intro W hW
            try dsimp only at hW
            obtain ⟨y0, y1⟩ := hW
            (go_simp <;> first | done | with_reducible rfl)
          try simp only [Act.put, List.setIfInBounds_toArray, List.set_cons_zero, List.set_cons_succ]
          refine seq_skip (i := 15) rfl (by kernel_rfl) (by kernel_rfl) (by kernel_rfl) (fun _ _ _ h => h) (by rfl) HS ?_
          try simp only [Act.put, List.setIfInBounds_toArray, List.set_cons_zero, List.set_cons_succ]
          refine seq_skip (i := 16) rfl (by kernel_rfl) (by kernel_rfl) (by kernel_rfl) (fun _ _ _ h => h) (by rfl) HS ?_
          try simp only [Act.put, List.setIfInBounds_toArray, List.set_cons_zero, List.set_cons_succ]
          refine seq_skip (i := 17) rfl (by kernel_rfl) (by kernel_rfl) (by kernel_rfl) (fun _ _ _ h => h) (by rfl) HS ?_
          try simp only [Act.put, List.setIfInBounds_toArray, List.set_cons_zero, List.set_cons_succ]
          refine seq_skip (i := 18) rfl (by kernel_rfl) (by kernel_rfl) (by kernel_rfl) (fun _ _ _ h => h) (by rfl) HS ?_
          try simp only [Act.put, List.setIfInBounds_toArray, List.set_cons_zero, List.set_cons_succ]
          refine seq_skip (i := 19) rfl (by kernel_rfl) (by kernel_rfl) (by kernel_rfl) (fun _ _ _ h => h) (by rfl) HS ?_
          try simp only [Act.put, List.setIfInBounds_toArray, List.set_cons_zero, List.set_cons_succ]
          refine seq_skip (i := 20) rfl (by kernel_rfl) (by kernel_rfl) (by kernel_rfl) (fun _ _ _ h => h) (by rfl) HS ?_
          try simp only [Act.put, List.setIfInBounds_toArray, List.set_cons_zero, List.set_cons_succ]
          refine seq_skip (i := 21) rfl (by kernel_rfl) (by kernel_rfl) (by kernel_rfl) (fun _ _ _ h => h) (by rfl) HS ?_
          try simp only [Act.put, List.setIfInBounds_toArray, List.set_cons_zero, List.set_cons_succ]
          refine seq_skip (i := 22) rfl (by kernel_rfl) (by kernel_rfl) (by kernel_rfl) (fun _ _ _ h => h) (by rfl) HS ?_
          try simp only [Act.put, List.setIfInBounds_toArray, List.set_cons_zero, List.set_cons_succ]
          refine seq_skip (i := 23) rfl (by kernel_rfl) (by kernel_rfl) (by kernel_rfl) (fun _ _ _ h => h) (by rfl) HS ?_
          try simp only [Act.put, List.setIfInBounds_toArray, List.set_cons_zero, List.set_cons_succ]
          refine seq_skip (i := 24) rfl (by kernel_rfl) (by kernel_rfl) (by kernel_rfl) (fun _ _ _ h => h) (by rfl) HS ?_
          try simp only [Act.put, List.setIfInBounds_toArray, List.set_cons_zero, List.set_cons_succ]
          refine seq_skip (i := 25) rfl (by kernel_rfl) (by kernel_rfl) (by kernel_rfl) (fun _ _ _ h => h) (by rfl) HS ?_
          try simp only [Act.put, List.setIfInBounds_toArray, List.set_cons_zero, List.set_cons_succ]
          refine seq_skip (i := 26) rfl (by kernel_rfl) (by kernel_rfl) (by kernel_rfl) (fun _ _ _ h => h) (by rfl) HS ?_
          try simp only [Act.put, List.setIfInBounds_toArray, List.set_cons_zero, List.set_cons_succ]
          refine seq_skip (i := 27) rfl (by kernel_rfl) (by kernel_rfl) (by kernel_rfl) (fun _ _ _ h => h) (by rfl) HS ?_
          try simp only [Act.put, List.setIfInBounds_toArray, List.set_cons_zero, List.set_cons_succ]
          refine seq_take (i := 28) (v := ?_) rfl (by kernel_rfl) (by kernel_rfl) (by kernel_rfl) (fun _ _ _ h => h) (by rfl) ?_ HS ?_
          rotate_left
          · intro W hW
            try dsimp only at hW
            obtain ⟨y0, y1⟩ := hW
            (go_simp <;> first | done | with_reducible rfl)
          try simp only [Act.put, List.setIfInBounds_toArray, List.set_cons_zero, List.set_cons_succ]
          refine wpAnyH_done (by kernel_rfl) ?_ _
          clear HS
          have hbel2 := hbelA
          clear hbelA
          go_wp2_with fail
          go_ret
          exact ⟨ret_bool HQ.out.symm, hbel2⟩
        by_cases g2 : 99 < pid
        · have HQ := Lib.hid (HB.out (HB1.out (.inr g2)))
          have g1' : decide (pid < 1) = false := by simpa using g1
          have g2' : decide (99 < pid) = true := by simpa using g2

          have HS0 : Hid (World.cell? (wr.alloc (.cells #[.int .i64 pid, .slice pA pn pc] 86)).drew ⟨wr.heap.size, 0, none⟩ = some (.int .i64 pid)) := (Blk.new wr 86 #[.int .i64 pid, .slice pA pn pc]).cell 0
          have HS1 : Hid (World.cell? (wr.alloc (.cells #[.int .i64 pid, .slice pA pn pc] 86)).drew ⟨wr.heap.size, 1, none⟩ = some (.slice pA pn pc)) := (Blk.new wr 86 #[.int .i64 pid, .slice pA pn pc]).cell 1
          have hbelA : Below w.heap.size w (wr.alloc (.cells #[.int .i64 pid, .slice pA pn pc] 86)).drew := (hbel.alloc hbel.size _).drew
          have hszA := hbelA.size
          have HPL := Lib.hid (PilesValid_any pA pn pc pps (wr.alloc (.cells #[.int .i64 pid, .slice pA pn pc] 86)).drew HP.out.1.len (by have e := HP.out.1.len; have e2 := HP.out.2.1; simp only at e e2; omega) HP.out.2.2 ((HP.out.1.row.below hbelA).more hbelA.size))
          go_wp2_with fail
          refine wp_region_held_drew (S := (fun W : World => W.cell? ⟨wr.heap.size, 0, none⟩ = some (.int .i64 pid) ∧ W.cell? ⟨wr.heap.size, 1, none⟩ = some (.slice pA pn pc))) (by kernel_rfl) ⟨HS0.out, HS1.out⟩ (fun HS => ?_)
          refine seq_take (i := 0) (v := ?_) rfl (by kernel_rfl) (by kernel_rfl) (by kernel_rfl) (fun _ _ _ h => h) (by rfl) ?_ HS ?_
          rotate_left
          · intro W hW
            try dsimp only at hW
            obtain ⟨y0, y1⟩ := hW
            (go_simp <;> first | done | with_reducible rfl)
          try simp only [Act.put, List.setIfInBounds_toArray, List.set_cons_zero, List.set_cons_succ]
          refine seq_take (i := 1) (v := ?_) rfl (by kernel_rfl) (by kernel_rfl) (by kernel_rfl) (fun _ _ _ h => h) (by rfl) ?_ HS ?_
          rotate_left
          · intro W hW
            try dsimp only at hW
            obtain ⟨y0, y1⟩ := hW
            (go_simp <;> first | done | with_reducible rfl)
          try simp only [Act.put, List.setIfInBounds_toArray, List.set_cons_zero, List.set_cons_succ]
          refine seq_take (i := 2) (v := ?_) rfl (by kernel_rfl) (by kernel_rfl) (by kernel_rfl) (fun _ _ _ h => h) (by rfl) ?_ HS ?_
          rotate_left
          · intro W hW
            try dsimp only at hW
            obtain ⟨y0, y1⟩ := hW
            (go_simp <;> first | done | with_reducible rfl)
          try simp only [Act.put, List.setIfInBounds_toArray, List.set_cons_zero, List.set_cons_succ]
          refine seq_take (i := 3) (v := ?_) rfl (by kernel_rfl) (by kernel_rfl) (by kernel_rfl) (fun _ _ _ h => h) (by rfl) ?_ HS ?_
          rotate_left
          · intro W hW
            try dsimp only at hW
            obtain ⟨y0, y1⟩ := hW
            (go_simp <;> first | done | with_reducible rfl)
          try simp only [Act.put, List.setIfInBounds_toArray, List.set_cons_zero, List.set_cons_succ]
          refine seq_take (i := 4) (v := ?_) rfl (by kernel_rfl) (by kernel_rfl) (by kernel_rfl) (fun _ _ _ h => h) (by rfl) ?_ HS ?_
          rotate_left
          · intro W hW
            try dsimp only at hW
            obtain ⟨y0, y1⟩ := hW
            (go_simp <;> first | done | with_reducible rfl)
          try simp only [Act.put, List.setIfInBounds_toArray, List.set_cons_zero, List.set_cons_succ]
          refine seq_take (i := 5) (v := ?_) rfl (by kernel_rfl) (by kernel_rfl) (by kernel_rfl) (fun _ _ _ h => h) (by rfl) ?_ HS ?_
          rotate_left
          · intro W hW
            try dsimp only at hW
            obtain ⟨y0, y1⟩ := hW
            (go_simp <;> first | done | with_reducible rfl)
          try simp only [Act.put, List.setIfInBounds_toArray, List.set_cons_zero, List.set_cons_succ]
          refine seq_take (i := 6) (v := ?_) rfl (by kernel_rfl) (by kernel_rfl) (by kernel_rfl) (fun _ _ _ h => h) (by rfl) ?_ HS ?_
          rotate_left
          · intro W hW
            try dsimp only at hW
            obtain ⟨y0, y1⟩ := hW
            (go_simp <;> first | done | with_reducible rfl)
          try simp only [Act.put, List.setIfInBounds_toArray, List.set_cons_zero, List.set_cons_succ]
          refine seq_take (i := 7) (v := ?_) rfl (by kernel_rfl) (by kernel_rfl) (by kernel_rfl) (fun _ _ _ h => h) (by rfl) ?_ HS ?_
          rotate_left
          · intro W hW
            try dsimp only at hW
            obtain ⟨y0, y1⟩ := hW
            (go_simp <;> first | done | with_reducible rfl)
          try simp only [Act.put, List.setIfInBounds_toArray, List.set_cons_zero, List.set_cons_succ]
          refine seq_take (i := 8) (v := ?_) rfl (by kernel_rfl) (by kernel_rfl) (by kernel_rfl) (fun _ _ _ h => h) (by rfl) ?_ HS ?_
          rotate_left
          · intro W hW
            try dsimp only at hW
            obtain ⟨y0, y1⟩ := hW
            (go_simp <;> first | done | with_reducible rfl)
          try simp only [Act.put, List.setIfInBounds_toArray, List.set_cons_zero, List.set_cons_succ]
          refine seq_skip (i := 9) rfl (by kernel_rfl) (by kernel_rfl) (by kernel_rfl) (fun _ _ _ h => h) (by rfl) HS ?_
          try simp only [Act.put, List.setIfInBounds_toArray, List.set_cons_zero, List.set_cons_succ]
          refine seq_skip (i := 10) rfl (by kernel_rfl) (by kernel_rfl) (by kernel_rfl) (fun _ _ _ h => h) (by rfl) HS ?_
          try simp only [Act.put, List.setIfInBounds_toArray, List.set_cons_zero, List.set_cons_succ]
          refine seq_skip (i := 11) rfl (by kernel_rfl) (by kernel_rfl) (by kernel_rfl) (fun _ _ _ h => h) (by rfl) HS ?_
          try simp only [Act.put, List.setIfInBounds_toArray, List.set_cons_zero, List.set_cons_succ]
          refine seq_skip (i := 12) rfl (by kernel_rfl) (by kernel_rfl) (by kernel_rfl) (fun _ _ _ h => h) (by rfl) HS ?_
          try simp only [Act.put, List.setIfInBounds_toArray, List.set_cons_zero, List.set_cons_succ]
          refine seq_take (i := 13) (v := ?_) rfl (by kernel_rfl) (by kernel_rfl) (by kernel_rfl) (fun _ _ _ h => h) (by rfl) ?_ HS ?_
          rotate_left
          · intro W hW
            try dsimp only at hW
            obtain ⟨y0, y1⟩ := hW
            (go_simp <;> first | done | with_reducible rfl)
          try simp only [Act.put, List.setIfInBounds_toArray, List.set_cons_zero, List.set_cons_succ]
          refine seq_take (i := 14) (v := ?_) rfl (by kernel_rfl) (by kernel_rfl) (by kernel_rfl) (fun _ _ _ h => h) (by rfl) ?_ HS ?_
          rotate_left
          · intro W hW
            try dsimp only at hW
            obtain ⟨y0, y1⟩ := hW
            (go_simp <;> first | done | with_reducible rfl)
          try simp only [Act.put, List.setIfInBounds_toArray, List.set_cons_zero, List.set_cons_succ]
          refine seq_skip (i := 15) rfl (by kernel_rfl) (by kernel_rfl) (by kernel_rfl) (fun _ _ _ h => h) (by rfl) HS ?_
          try simp only [Act.put, List.setIfInBounds_toArray, List.set_cons_zero, List.set_cons_succ]
          refine seq_skip (i := 16) rfl (by kernel_rfl) (by kernel_rfl) (by kernel_rfl) (fun _ _ _ h => h) (by rfl) HS ?_
          try simp only [Act.put, List.setIfInBounds_toArray, List.set_cons_zero, List.set_cons_succ]
          refine seq_skip (i := 17) rfl (by kernel_rfl) (by kernel_rfl) (by kernel_rfl) (fun _ _ _ h => h) (by rfl) HS ?_
          try simp only [Act.put, List.setIfInBounds_toArray, List.set_cons_zero, List.set_cons_succ]
          refine seq_skip (i := 18) rfl (by kernel_rfl) (by kernel_rfl) (by kernel_rfl) (fun _ _ _ h => h) (by rfl) HS ?_
          try simp only [Act.put, List.setIfInBounds_toArray, List.set_cons_zero, List.set_cons_succ]
          refine seq_skip (i := 19) rfl (by kernel_rfl) (by kernel_rfl) (by kernel_rfl) (fun _ _ _ h => h) (by rfl) HS ?_
          try simp only [Act.put, List.setIfInBounds_toArray, List.set_cons_zero, List.set_cons_succ]
          refine seq_skip (i := 20) rfl (by kernel_rfl) (by kernel_rfl) (by kernel_rfl) (fun _ _ _ h => h) (by rfl) HS ?_
          try simp only [Act.put, List.setIfInBounds_toArray, List.set_cons_zero, List.set_cons_succ]
          refine seq_skip (i := 21) rfl (by kernel_rfl) (by kernel_rfl) (by kernel_rfl) (fun _ _ _ h => h) (by rfl) HS ?_
          try simp only [Act.put, List.setIfInBounds_toArray, List.set_cons_zero, List.set_cons_succ]
          refine seq_skip (i := 22) rfl (by kernel_rfl) (by kernel_rfl) (by kernel_rfl) (fun _ _ _ h => h) (by rfl) HS ?_
          try simp only [Act.put, List.setIfInBounds_toArray, List.set_cons_zero, List.set_cons_succ]
          refine seq_skip (i := 23) rfl (by kernel_rfl) (by kernel_rfl) (by kernel_rfl) (fun _ _ _ h => h) (by rfl) HS ?_
          try simp only [Act.put, List.setIfInBounds_toArray, List.set_cons_zero, List.set_cons_succ]
          refine seq_skip (i := 24) rfl (by kernel_rfl) (by kernel_rfl) (by kernel_rfl) (fun _ _ _ h => h) (by rfl) HS ?_
          try simp only [Act.put, List.setIfInBounds_toArray, List.set_cons_zero, List.set_cons_succ]
          refine seq_skip (i := 25) rfl (by kernel_rfl) (by kernel_rfl) (by kernel_rfl) (fun _ _ _ h => h) (by rfl) HS ?_
          try simp only [Act.put, List.setIfInBounds_toArray, List.set_cons_zero, List.set_cons_succ]
          refine seq_skip (i := 26) rfl (by kernel_rfl) (by kernel_rfl) (by kernel_rfl) (fun _ _ _ h => h) (by rfl) HS ?_
          try simp only [Act.put, List.setIfInBounds_toArray, List.set_cons_zero, List.set_cons_succ]
          refine seq_skip (i := 27) rfl (by kernel_rfl) (by kernel_rfl) (by kernel_rfl) (fun _ _ _ h => h) (by rfl) HS ?_
          try simp only [Act.put, List.setIfInBounds_toArray, List.set_cons_zero, List.set_cons_succ]
          refine seq_take (i := 28) (v := ?_) rfl (by kernel_rfl) (by kernel_rfl) (by kernel_rfl) (fun _ _ _ h => h) (by rfl) ?_ HS ?_
          rotate_left
          · intro W hW
            try dsimp only at hW
            obtain ⟨y0, y1⟩ := hW
            (go_simp <;> first | done | with_reducible rfl)
          try simp only [Act.put, List.setIfInBounds_toArray, List.set_cons_zero, List.set_cons_succ]
          refine wpAnyH_done (by kernel_rfl) ?_ _
          clear HS
          have hbel2 := hbelA
          clear hbelA
          go_wp2_with fail
          go_ret
          exact ⟨ret_bool HQ.out.symm, hbel2⟩
        have h1 : 1 ≤ pid := by omega
        have h2 : pid ≤ 99 := by omega
        have g1' : decide (pid < 1) = false := by simpa using g1
        have g2' : decide (99 < pid) = false := by simpa using g2
        have HI := Lib.hid (idIn h1 h2)
        cases hq : plsB pps with
        | false =>
          have HQ := Lib.hid (HB.out (HB2.out hq))
          have HS0 : Hid (World.cell? (wr.alloc (.cells #[.int .i64 pid, .slice pA pn pc] 86)).drew ⟨wr.heap.size, 0, none⟩ = some (.int .i64 pid)) := (Blk.new wr 86 #[.int .i64 pid, .slice pA pn pc]).cell 0
          have HS1 : Hid (World.cell? (wr.alloc (.cells #[.int .i64 pid, .slice pA pn pc] 86)).drew ⟨wr.heap.size, 1, none⟩ = some (.slice pA pn pc)) := (Blk.new wr 86 #[.int .i64 pid, .slice pA pn pc]).cell 1
          have hbelA : Below w.heap.size w (wr.alloc (.cells #[.int .i64 pid, .slice pA pn pc] 86)).drew := (hbel.alloc hbel.size _).drew
          have hszA := hbelA.size
          have HPL := Lib.hid (PilesValid_any pA pn pc pps (wr.alloc (.cells #[.int .i64 pid, .slice pA pn pc] 86)).drew HP.out.1.len (by have e := HP.out.1.len; have e2 := HP.out.2.1; simp only at e e2; omega) HP.out.2.2 ((HP.out.1.row.below hbelA).more hbelA.size))
          go_wp2_with fail
          refine wp_region_held_drew (S := (fun W : World => W.cell? ⟨wr.heap.size, 0, none⟩ = some (.int .i64 pid) ∧ W.cell? ⟨wr.heap.size, 1, none⟩ = some (.slice pA pn pc))) (by kernel_rfl) ⟨HS0.out, HS1.out⟩ (fun HS => ?_)
          refine seq_take (i := 0) (v := ?_) rfl (by kernel_rfl) (by kernel_rfl) (by kernel_rfl) (fun _ _ _ h => h) (by rfl) ?_ HS ?_
          rotate_left
          · intro W hW
            try dsimp only at hW
            obtain ⟨y0, y1⟩ := hW
            (go_simp <;> first | done | with_reducible rfl)
          try simp only [Act.put, List.setIfInBounds_toArray, List.set_cons_zero, List.set_cons_succ]
          refine seq_take (i := 1) (v := ?_) rfl (by kernel_rfl) (by kernel_rfl) (by kernel_rfl) (fun _ _ _ h => h) (by rfl) ?_ HS ?_
          rotate_left
          · intro W hW
            try dsimp only at hW
            obtain ⟨y0, y1⟩ := hW
            (go_simp <;> first | done | with_reducible rfl)
          try simp only [Act.put, List.setIfInBounds_toArray, List.set_cons_zero, List.set_cons_succ]
          refine seq_take (i := 2) (v := ?_) rfl (by kernel_rfl) (by kernel_rfl) (by kernel_rfl) (fun _ _ _ h => h) (by rfl) ?_ HS ?_
          rotate_left
          · intro W hW
            try dsimp only at hW
            obtain ⟨y0, y1⟩ := hW
            (go_simp <;> first | done | with_reducible rfl)
          try simp only [Act.put, List.setIfInBounds_toArray, List.set_cons_zero, List.set_cons_succ]
          refine seq_take (i := 3) (v := ?_) rfl (by kernel_rfl) (by kernel_rfl) (by kernel_rfl) (fun _ _ _ h => h) (by rfl) ?_ HS ?_
          rotate_left
          · intro W hW
            try dsimp only at hW
            obtain ⟨y0, y1⟩ := hW
            (go_simp <;> first | done | with_reducible rfl)
          try simp only [Act.put, List.setIfInBounds_toArray, List.set_cons_zero, List.set_cons_succ]
          refine seq_take (i := 4) (v := ?_) rfl (by kernel_rfl) (by kernel_rfl) (by kernel_rfl) (fun _ _ _ h => h) (by rfl) ?_ HS ?_
          rotate_left
          · intro W hW
            try dsimp only at hW
            obtain ⟨y0, y1⟩ := hW
            (go_simp <;> first | done | with_reducible rfl)
          try simp only [Act.put, List.setIfInBounds_toArray, List.set_cons_zero, List.set_cons_succ]
          refine seq_take (i := 5) (v := ?_) rfl (by kernel_rfl) (by kernel_rfl) (by kernel_rfl) (fun _ _ _ h => h) (by rfl) ?_ HS ?_
          rotate_left
          · intro W hW
            try dsimp only at hW
            obtain ⟨y0, y1⟩ := hW
            (go_simp <;> first | done | with_reducible rfl)
          try simp only [Act.put, List.setIfInBounds_toArray, List.set_cons_zero, List.set_cons_succ]
          refine seq_take (i := 6) (v := ?_) rfl (by kernel_rfl) (by kernel_rfl) (by kernel_rfl) (fun _ _ _ h => h) (by rfl) ?_ HS ?_
          rotate_left
          · intro W hW
            try dsimp only at hW
            obtain ⟨y0, y1⟩ := hW
            (go_simp <;> first | done | with_reducible rfl)
          try simp only [Act.put, List.setIfInBounds_toArray, List.set_cons_zero, List.set_cons_succ]
          refine seq_take (i := 7) (v := ?_) rfl (by kernel_rfl) (by kernel_rfl) (by kernel_rfl) (fun _ _ _ h => h) (by rfl) ?_ HS ?_
          rotate_left
          · intro W hW
            try dsimp only at hW
            obtain ⟨y0, y1⟩ := hW
            (go_simp <;> first | done | with_reducible rfl)
          try simp only [Act.put, List.setIfInBounds_toArray, List.set_cons_zero, List.set_cons_succ]
          refine seq_take (i := 8) (v := ?_) rfl (by kernel_rfl) (by kernel_rfl) (by kernel_rfl) (fun _ _ _ h => h) (by rfl) ?_ HS ?_
          rotate_left
          · intro W hW
            try dsimp only at hW
            obtain ⟨y0, y1⟩ := hW
            (go_simp <;> first | done | with_reducible rfl)
          try simp only [Act.put, List.setIfInBounds_toArray, List.set_cons_zero, List.set_cons_succ]
          refine seq_take (i := 9) (v := ?_) rfl (by kernel_rfl) (by kernel_rfl) (by kernel_rfl) (fun _ _ _ h => h) (by rfl) ?_ HS ?_
          rotate_left
          · intro W hW
            try dsimp only at hW
            obtain ⟨y0, y1⟩ := hW
            (go_simp <;> first | done | with_reducible rfl)
          try simp only [Act.put, List.setIfInBounds_toArray, List.set_cons_zero, List.set_cons_succ]
          refine seq_take (i := 10) (v := ?_) rfl (by kernel_rfl) (by kernel_rfl) (by kernel_rfl) (fun _ _ _ h => h) (by rfl) ?_ HS ?_
          rotate_left
          · intro W hW
            try dsimp only at hW
            obtain ⟨y0, y1⟩ := hW
            (go_simp <;> first | done | with_reducible rfl)
          try simp only [Act.put, List.setIfInBounds_toArray, List.set_cons_zero, List.set_cons_succ]
          refine seq_call (i := 11) rfl (by kernel_rfl) (by rfl) (fun K hK => ?_)
          go_simp
          go_at_call 68
          refine HPL.out.mono ?_
          rintro e w2 ⟨rfl, hb2⟩
          rw [hq]
          have hbel2 : Below w.heap.size w w2 := hbelA.trans (hb2.mono hszA)
          have x0 := (hb2.cell (p := ⟨wr.heap.size, 0, none⟩) (by simp)).trans HS0.out
          have x1 := (hb2.cell (p := ⟨wr.heap.size, 1, none⟩) (by simp)).trans HS1.out
          clear hb2
          go_wp2_with fail
          refine hK.out _ _ ⟨x0, x1⟩ (fun HS2 => ?_)
          clear hK K HS
          have HS := HS2
          clear HS2
          try simp only [Act.put, List.setIfInBounds_toArray, List.set_cons_zero, List.set_cons_succ]
          refine seq_take (i := 12) (v := ?_) rfl (by kernel_rfl) (by kernel_rfl) (by kernel_rfl) (fun _ _ _ h => h) (by rfl) ?_ HS ?_
          rotate_left
          · intro W hW
            try dsimp only at hW
            obtain ⟨y0, y1⟩ := hW
            (go_simp <;> first | done | with_reducible rfl)
          try simp only [Act.put, List.setIfInBounds_toArray, List.set_cons_zero, List.set_cons_succ]
          refine seq_take (i := 13) (v := ?_) rfl (by kernel_rfl) (by kernel_rfl) (by kernel_rfl) (fun _ _ _ h => h) (by rfl) ?_ HS ?_
          rotate_left
          · intro W hW
            try dsimp only at hW
            obtain ⟨y0, y1⟩ := hW
            (go_simp <;> first | done | with_reducible rfl)
          try simp only [Act.put, List.setIfInBounds_toArray, List.set_cons_zero, List.set_cons_succ]
          refine seq_take (i := 14) (v := ?_) rfl (by kernel_rfl) (by kernel_rfl) (by kernel_rfl) (fun _ _ _ h => h) (by rfl) ?_ HS ?_
          rotate_left
          · intro W hW
            try dsimp only at hW
            obtain ⟨y0, y1⟩ := hW
            (go_simp <;> first | done | with_reducible rfl)
          try simp only [Act.put, List.setIfInBounds_toArray, List.set_cons_zero, List.set_cons_succ]
          refine seq_skip (i := 15) rfl (by kernel_rfl) (by kernel_rfl) (by kernel_rfl) (fun _ _ _ h => h) (by rfl) HS ?_
          try simp only [Act.put, List.setIfInBounds_toArray, List.set_cons_zero, List.set_cons_succ]
          refine seq_skip (i := 16) rfl (by kernel_rfl) (by kernel_rfl) (by kernel_rfl) (fun _ _ _ h => h) (by rfl) HS ?_
          try simp only [Act.put, List.setIfInBounds_toArray, List.set_cons_zero, List.set_cons_succ]
          refine seq_skip (i := 17) rfl (by kernel_rfl) (by kernel_rfl) (by kernel_rfl) (fun _ _ _ h => h) (by rfl) HS ?_
          try simp only [Act.put, List.setIfInBounds_toArray, List.set_cons_zero, List.set_cons_succ]
          refine seq_skip (i := 18) rfl (by kernel_rfl) (by kernel_rfl) (by kernel_rfl) (fun _ _ _ h => h) (by rfl) HS ?_
          try simp only [Act.put, List.setIfInBounds_toArray, List.set_cons_zero, List.set_cons_succ]
          refine seq_skip (i := 19) rfl (by kernel_rfl) (by kernel_rfl) (by kernel_rfl) (fun _ _ _ h => h) (by rfl) HS ?_
          try simp only [Act.put, List.setIfInBounds_toArray, List.set_cons_zero, List.set_cons_succ]
          refine seq_skip (i := 20) rfl (by kernel_rfl) (by kernel_rfl) (by kernel_rfl) (fun _ _ _ h => h) (by rfl) HS ?_
          try simp only [Act.put, List.setIfInBounds_toArray, List.set_cons_zero, List.set_cons_succ]
          refine seq_skip (i := 21) rfl (by kernel_rfl) (by kernel_rfl) (by kernel_rfl) (fun _ _ _ h => h) (by rfl) HS ?_
          try simp only [Act.put, List.setIfInBounds_toArray, List.set_cons_zero, List.set_cons_succ]
          refine seq_skip (i := 22) rfl (by kernel_rfl) (by kernel_rfl) (by kernel_rfl) (fun _ _ _ h => h) (by rfl) HS ?_
          try simp only [Act.put, List.setIfInBounds_toArray, List.set_cons_zero, List.set_cons_succ]
          refine seq_skip (i := 23) rfl (by kernel_rfl) (by kernel_rfl) (by kernel_rfl) (fun _ _ _ h => h) (by rfl) HS ?_
          try simp only [Act.put, List.setIfInBounds_toArray, List.set_cons_zero, List.set_cons_succ]
          refine seq_skip (i := 24) rfl (by kernel_rfl) (by kernel_rfl) (by kernel_rfl) (fun _ _ _ h => h) (by rfl) HS ?_
          try simp only [Act.put, List.setIfInBounds_toArray, List.set_cons_zero, List.set_cons_succ]
          refine seq_skip (i := 25) rfl (by kernel_rfl) (by kernel_rfl) (by kernel_rfl) (fun _ _ _ h => h) (by rfl) HS ?_
          try simp only [Act.put, List.setIfInBounds_toArray, List.set_cons_zero, List.set_cons_succ]
          refine seq_skip (i := 26) rfl (by kernel_rfl) (by kernel_rfl) (by kernel_rfl) (fun _ _ _ h => h) (by rfl) HS ?_
          try simp only [Act.put, List.setIfInBounds_toArray, List.set_cons_zero, List.set_cons_succ]
          refine seq_skip (i := 27) rfl (by kernel_rfl) (by kernel_rfl) (by kernel_rfl) (fun _ _ _ h => h) (by rfl) HS ?_
          try simp only [Act.put, List.setIfInBounds_toArray, List.set_cons_zero, List.set_cons_succ]
          refine seq_take (i := 28) (v := ?_) rfl (by kernel_rfl) (by kernel_rfl) (by kernel_rfl) (fun _ _ _ h => h) (by rfl) ?_ HS ?_
          rotate_left
          · intro W hW
            try dsimp only at hW
            obtain ⟨y0, y1⟩ := hW
            (go_simp <;> first | done | with_reducible rfl)
          try simp only [Act.put, List.setIfInBounds_toArray, List.set_cons_zero, List.set_cons_succ]
          refine wpAnyH_done (by kernel_rfl) ?_ _
          clear HS
          clear hbelA
          clear hq
          go_wp2_with fail
          go_ret
          exact ⟨ret_bool HQ.out.symm, hbel2⟩
        | true =>
          have HQ := Lib.hid (HA.out (HZ.out.trans (by rw [HI.out, hq]; rfl)))
          have HS0 : Hid (World.cell? (wr.alloc (.cells #[.int .i64 pid, .slice pA pn pc] 86)).drew ⟨wr.heap.size, 0, none⟩ = some (.int .i64 pid)) := (Blk.new wr 86 #[.int .i64 pid, .slice pA pn pc]).cell 0
          have HS1 : Hid (World.cell? (wr.alloc (.cells #[.int .i64 pid, .slice pA pn pc] 86)).drew ⟨wr.heap.size, 1, none⟩ = some (.slice pA pn pc)) := (Blk.new wr 86 #[.int .i64 pid, .slice pA pn pc]).cell 1
          have hbelA : Below w.heap.size w (wr.alloc (.cells #[.int .i64 pid, .slice pA pn pc] 86)).drew := (hbel.alloc hbel.size _).drew
          have hszA := hbelA.size
          have HPL := Lib.hid (PilesValid_any pA pn pc pps (wr.alloc (.cells #[.int .i64 pid, .slice pA pn pc] 86)).drew HP.out.1.len (by have e := HP.out.1.len; have e2 := HP.out.2.1; simp only at e e2; omega) HP.out.2.2 ((HP.out.1.row.below hbelA).more hbelA.size))
          go_wp2_with fail
          refine wp_region_held_drew (S := (fun W : World => W.cell? ⟨wr.heap.size, 0, none⟩ = some (.int .i64 pid) ∧ W.cell? ⟨wr.heap.size, 1, none⟩ = some (.slice pA pn pc))) (by kernel_rfl) ⟨HS0.out, HS1.out⟩ (fun HS => ?_)
          refine seq_take (i := 0) (v := ?_) rfl (by kernel_rfl) (by kernel_rfl) (by kernel_rfl) (fun _ _ _ h => h) (by rfl) ?_ HS ?_
          rotate_left
          · intro W hW
            try dsimp only at hW
            obtain ⟨y0, y1⟩ := hW
            (go_simp <;> first | done | with_reducible rfl)
          try simp only [Act.put, List.setIfInBounds_toArray, List.set_cons_zero, List.set_cons_succ]
          refine seq_take (i := 1) (v := ?_) rfl (by kernel_rfl) (by kernel_rfl) (by kernel_rfl) (fun _ _ _ h => h) (by rfl) ?_ HS ?_
          rotate_left
          · intro W hW
            try dsimp only at hW
            obtain ⟨y0, y1⟩ := hW
            (go_simp <;> first | done | with_reducible rfl)
          try simp only [Act.put, List.setIfInBounds_toArray, List.set_cons_zero, List.set_cons_succ]
          refine seq_take (i := 2) (v := ?_) rfl (by kernel_rfl) (by kernel_rfl) (by kernel_rfl) (fun _ _ _ h => h) (by rfl) ?_ HS ?_
          rotate_left
          · intro W hW
            try dsimp only at hW
            obtain ⟨y0, y1⟩ := hW
            (go_simp <;> first | done | with_reducible rfl)
          try simp only [Act.put, List.setIfInBounds_toArray, List.set_cons_zero, List.set_cons_succ]
          refine seq_take (i := 3) (v := ?_) rfl (by kernel_rfl) (by kernel_rfl) (by kernel_rfl) (fun _ _ _ h => h) (by rfl) ?_ HS ?_
          rotate_left
          · intro W hW
            try dsimp only at hW
            obtain ⟨y0, y1⟩ := hW
            (go_simp <;> first | done | with_reducible rfl)
          try simp only [Act.put, List.setIfInBounds_toArray, List.set_cons_zero, List.set_cons_succ]
          refine seq_take (i := 4) (v := ?_) rfl (by kernel_rfl) (by kernel_rfl) (by kernel_rfl) (fun _ _ _ h => h) (by rfl) ?_ HS ?_
          rotate_left
          · intro W hW
            try dsimp only at hW
            obtain ⟨y0, y1⟩ := hW
            (go_simp <;> first | done | with_reducible rfl)
          try simp only [Act.put, List.setIfInBounds_toArray, List.set_cons_zero, List.set_cons_succ]
          refine seq_take (i := 5) (v := ?_) rfl (by kernel_rfl) (by kernel_rfl) (by kernel_rfl) (fun _ _ _ h => h) (by rfl) ?_ HS ?_
          rotate_left
          · intro W hW
            try dsimp only at hW
            obtain ⟨y0, y1⟩ := hW
            (go_simp <;> first | done | with_reducible rfl)
          try simp only [Act.put, List.setIfInBounds_toArray, List.set_cons_zero, List.set_cons_succ]
          refine seq_take (i := 6) (v := ?_) rfl (by kernel_rfl) (by kernel_rfl) (by kernel_rfl) (fun _ _ _ h => h) (by rfl) ?_ HS ?_
          rotate_left
          · intro W hW
            try dsimp only at hW
            obtain ⟨y0, y1⟩ := hW
            (go_simp <;> first | done | with_reducible rfl)
          try simp only [Act.put, List.setIfInBounds_toArray, List.set_cons_zero, List.set_cons_succ]
          refine seq_take (i := 7) (v := ?_) rfl (by kernel_rfl) (by kernel_rfl) (by kernel_rfl) (fun _ _ _ h => h) (by rfl) ?_ HS ?_
          rotate_left
          · intro W hW
            try dsimp only at hW
            obtain ⟨y0, y1⟩ := hW
            (go_simp <;> first | done | with_reducible rfl)
          try simp only [Act.put, List.setIfInBounds_toArray, List.set_cons_zero, List.set_cons_succ]
          refine seq_take (i := 8) (v := ?_) rfl (by kernel_rfl) (by kernel_rfl) (by kernel_rfl) (fun _ _ _ h => h) (by rfl) ?_ HS ?_
          rotate_left
          · intro W hW
            try dsimp only at hW
            obtain ⟨y0, y1⟩ := hW
            (go_simp <;> first | done | with_reducible rfl)
          try simp only [Act.put, List.setIfInBounds_toArray, List.set_cons_zero, List.set_cons_succ]
          refine seq_take (i := 9) (v := ?_) rfl (by kernel_rfl) (by kernel_rfl) (by kernel_rfl) (fun _ _ _ h => h) (by rfl) ?_ HS ?_
          rotate_left
          · intro W hW
            try dsimp only at hW
            obtain ⟨y0, y1⟩ := hW
            (go_simp <;> first | done | with_reducible rfl)
          try simp only [Act.put, List.setIfInBounds_toArray, List.set_cons_zero, List.set_cons_succ]
          refine seq_take (i := 10) (v := ?_) rfl (by kernel_rfl) (by kernel_rfl) (by kernel_rfl) (fun _ _ _ h => h) (by rfl) ?_ HS ?_
          rotate_left
          · intro W hW
            try dsimp only at hW
            obtain ⟨y0, y1⟩ := hW
            (go_simp <;> first | done | with_reducible rfl)
          try simp only [Act.put, List.setIfInBounds_toArray, List.set_cons_zero, List.set_cons_succ]
          refine seq_call (i := 11) rfl (by kernel_rfl) (by rfl) (fun K hK => ?_)
          go_simp
          go_at_call 68
          refine HPL.out.mono ?_
          rintro e w2 ⟨rfl, hb2⟩
          rw [hq]
          have hbel2 : Below w.heap.size w w2 := hbelA.trans (hb2.mono hszA)
          have x0 := (hb2.cell (p := ⟨wr.heap.size, 0, none⟩) (by simp)).trans HS0.out
          have x1 := (hb2.cell (p := ⟨wr.heap.size, 1, none⟩) (by simp)).trans HS1.out
          clear hb2
          go_wp2_with fail
          refine hK.out _ _ ⟨x0, x1⟩ (fun HS2 => ?_)
          clear hK K HS
          have HS := HS2
          clear HS2
          try simp only [Act.put, List.setIfInBounds_toArray, List.set_cons_zero, List.set_cons_succ]
          refine seq_take (i := 12) (v := ?_) rfl (by kernel_rfl) (by kernel_rfl) (by kernel_rfl) (fun _ _ _ h => h) (by rfl) ?_ HS ?_
          rotate_left
          · intro W hW
            try dsimp only at hW
            obtain ⟨y0, y1⟩ := hW
            (go_simp <;> first | done | with_reducible rfl)
          try simp only [Act.put, List.setIfInBounds_toArray, List.set_cons_zero, List.set_cons_succ]
          refine seq_take (i := 13) (v := ?_) rfl (by kernel_rfl) (by kernel_rfl) (by kernel_rfl) (fun _ _ _ h => h) (by rfl) ?_ HS ?_
          rotate_left
          · intro W hW
            try dsimp only at hW
            obtain ⟨y0, y1⟩ := hW
            (go_simp <;> first | done | with_reducible rfl)
          try simp only [Act.put, List.setIfInBounds_toArray, List.set_cons_zero, List.set_cons_succ]
          refine seq_take (i := 14) (v := ?_) rfl (by kernel_rfl) (by kernel_rfl) (by kernel_rfl) (fun _ _ _ h => h) (by rfl) ?_ HS ?_
          rotate_left
          · intro W hW
            try dsimp only at hW
            obtain ⟨y0, y1⟩ := hW
            (go_simp <;> first | done | with_reducible rfl)
          try simp only [Act.put, List.setIfInBounds_toArray, List.set_cons_zero, List.set_cons_succ]
          refine seq_take (i := 15) (v := ?_) rfl (by kernel_rfl) (by kernel_rfl) (by kernel_rfl) (fun _ _ _ h => h) (by rfl) ?_ HS ?_
          rotate_left
          · intro W hW
            try dsimp only at hW
            obtain ⟨y0, y1⟩ := hW
            (go_simp <;> first | done | with_reducible rfl)
          try simp only [Act.put, List.setIfInBounds_toArray, List.set_cons_zero, List.set_cons_succ]
          refine seq_take (i := 16) (v := ?_) rfl (by kernel_rfl) (by kernel_rfl) (by kernel_rfl) (fun _ _ _ h => h) (by rfl) ?_ HS ?_
          rotate_left
          · intro W hW
            try dsimp only at hW
            obtain ⟨y0, y1⟩ := hW
            (go_simp <;> first | done | with_reducible rfl)
          try simp only [Act.put, List.setIfInBounds_toArray, List.set_cons_zero, List.set_cons_succ]
          refine seq_take (i := 17) (v := ?_) rfl (by kernel_rfl) (by kernel_rfl) (by kernel_rfl) (fun _ _ _ h => h) (by rfl) ?_ HS ?_
          rotate_left
          · intro W hW
            try dsimp only at hW
            obtain ⟨y0, y1⟩ := hW
            (go_simp <;> first | done | with_reducible rfl)
          try simp only [Act.put, List.setIfInBounds_toArray, List.set_cons_zero, List.set_cons_succ]
          refine seq_skip (i := 18) rfl (by kernel_rfl) (by kernel_rfl) (by kernel_rfl) (fun _ _ _ h => h) (by rfl) HS ?_
          try simp only [Act.put, List.setIfInBounds_toArray, List.set_cons_zero, List.set_cons_succ]
          refine seq_skip (i := 19) rfl (by kernel_rfl) (by kernel_rfl) (by kernel_rfl) (fun _ _ _ h => h) (by rfl) HS ?_
          try simp only [Act.put, List.setIfInBounds_toArray, List.set_cons_zero, List.set_cons_succ]
          refine seq_skip (i := 20) rfl (by kernel_rfl) (by kernel_rfl) (by kernel_rfl) (fun _ _ _ h => h) (by rfl) HS ?_
          try simp only [Act.put, List.setIfInBounds_toArray, List.set_cons_zero, List.set_cons_succ]
          refine seq_skip (i := 21) rfl (by kernel_rfl) (by kernel_rfl) (by kernel_rfl) (fun _ _ _ h => h) (by rfl) HS ?_
          try simp only [Act.put, List.setIfInBounds_toArray, List.set_cons_zero, List.set_cons_succ]
          refine seq_skip (i := 22) rfl (by kernel_rfl) (by kernel_rfl) (by kernel_rfl) (fun _ _ _ h => h) (by rfl) HS ?_
          try simp only [Act.put, List.setIfInBounds_toArray, List.set_cons_zero, List.set_cons_succ]
          refine seq_skip (i := 23) rfl (by kernel_rfl) (by kernel_rfl) (by kernel_rfl) (fun _ _ _ h => h) (by rfl) HS ?_
          try simp only [Act.put, List.setIfInBounds_toArray, List.set_cons_zero, List.set_cons_succ]
          refine seq_skip (i := 24) rfl (by kernel_rfl) (by kernel_rfl) (by kernel_rfl) (fun _ _ _ h => h) (by rfl) HS ?_
          try simp only [Act.put, List.setIfInBounds_toArray, List.set_cons_zero, List.set_cons_succ]
          refine seq_skip (i := 25) rfl (by kernel_rfl) (by kernel_rfl) (by kernel_rfl) (fun _ _ _ h => h) (by rfl) HS ?_
          try simp only [Act.put, List.setIfInBounds_toArray, List.set_cons_zero, List.set_cons_succ]
          refine seq_skip (i := 26) rfl (by kernel_rfl) (by kernel_rfl) (by kernel_rfl) (fun _ _ _ h => h) (by rfl) HS ?_
          try simp only [Act.put, List.setIfInBounds_toArray, List.set_cons_zero, List.set_cons_succ]
          refine seq_take (i := 27) (v := ?_) rfl (by kernel_rfl) (by kernel_rfl) (by kernel_rfl) (fun _ _ _ h => h) (by rfl) ?_ HS ?_
          rotate_left
          · intro W hW
            try dsimp only at hW
            obtain ⟨y0, y1⟩ := hW
            (go_simp <;> first | done | with_reducible rfl)
          try simp only [Act.put, List.setIfInBounds_toArray, List.set_cons_zero, List.set_cons_succ]
          refine seq_take (i := 28) (v := ?_) rfl (by kernel_rfl) (by kernel_rfl) (by kernel_rfl) (fun _ _ _ h => h) (by rfl) ?_ HS ?_
          rotate_left
          · intro W hW
            try dsimp only at hW
            obtain ⟨y0, y1⟩ := hW
            (go_simp <;> first | done | with_reducible rfl)
          try simp only [Act.put, List.setIfInBounds_toArray, List.set_cons_zero, List.set_cons_succ]
          refine wpAnyH_done (by kernel_rfl) ?_ _
          clear HS
          clear hbelA
          clear hq
          go_wp2_with fail
          go_roundw
          case rel => exact ⟨1, by omega, by go_num, hbel2, HQ⟩
          case measure => simp [intOf]; omega
      | succ j =>
        have hlj : j < l.length := by omega
        obtain ⟨hd0, hd1⟩ := prec_of ha' hlj
        have HZ := Lib.hid (okIdS hl)
        clear ha' hd1
        generalize l[j] = q at *
        generalize l[j + 1] = p at *
        obtain ⟨pid, pA, pn, pc, pps⟩ := p
        obtain ⟨qid, qA, qn, qc, qps⟩ := q
        simp only at hc0 hc1 hd0 HZ HB1 HB2
        have v1 : IntKind.i64.wrap (j : Int) = (j : Int) := IntWalk.i64_in _ (by omega)
        have v2 : (j : Int) < (n : Int) := by omega
        have v3 : IntKind.i64.wrap ((j : Int) + 1 - 1) = (j : Int) := by rw [show (j : Int) + 1 - 1 = (j : Int) by omega]; exact v1
        have v4 : 0 ≤ (j : Int) := by omega
        have v5 : 0 ≤ (j : Int) + 1 := by omega
        by_cases g1 : pid < 1
        · have HQ := Lib.hid (HB.out (HB1.out (.inl g1)))
          have g1' : decide (pid < 1) = true := by simpa using g1

          have HS0 : Hid (World.cell? (wr.alloc (.cells #[.int .i64 pid, .slice pA pn pc] 86)).drew ⟨wr.heap.size, 0, none⟩ = some (.int .i64 pid)) := (Blk.new wr 86 #[.int .i64 pid, .slice pA pn pc]).cell 0
          have HS1 : Hid (World.cell? (wr.alloc (.cells #[.int .i64 pid, .slice pA pn pc] 86)).drew ⟨wr.heap.size, 1, none⟩ = some (.slice pA pn pc)) := (Blk.new wr 86 #[.int .i64 pid, .slice pA pn pc]).cell 1
          have HS2 : Hid (World.cell? (wr.alloc (.cells #[.int .i64 pid, .slice pA pn pc] 86)).drew ⟨b, off + j * 2, none⟩ = some (.int .i64 qid)) := (World.cell?_alloc_lt wr (.cells #[.int .i64 pid, .slice pA pn pc] 86) ⟨b, off + j * 2, none⟩ hbw).trans hd0
          have hbelA : Below w.heap.size w (wr.alloc (.cells #[.int .i64 pid, .slice pA pn pc] 86)).drew := (hbel.alloc hbel.size _).drew
          have hszA := hbelA.size
          have HPL := Lib.hid (PilesValid_any pA pn pc pps (wr.alloc (.cells #[.int .i64 pid, .slice pA pn pc] 86)).drew HP.out.1.len (by have e := HP.out.1.len; have e2 := HP.out.2.1; simp only at e e2; omega) HP.out.2.2 ((HP.out.1.row.below hbelA).more hbelA.size))
          go_wp2_with fail
          refine wp_region_held_drew (S := (fun W : World => W.cell? ⟨wr.heap.size, 0, none⟩ = some (.int .i64 pid) ∧ W.cell? ⟨wr.heap.size, 1, none⟩ = some (.slice pA pn pc) ∧ W.cell? ⟨b, off + j * 2, none⟩ = some (.int .i64 qid))) (by kernel_rfl) ⟨HS0.out, HS1.out, HS2.out⟩ (fun HS => ?_)
          refine seq_take (i := 0) (v := ?_) rfl (by kernel_rfl) (by kernel_rfl) (by kernel_rfl) (fun _ _ _ h => h) (by rfl) ?_ HS ?_
          rotate_left
          · intro W hW
            try dsimp only at hW
            obtain ⟨y0, y1, y2⟩ := hW
            (go_simp <;> first | done | with_reducible rfl)
          try simp only [Act.put, List.setIfInBounds_toArray, List.set_cons_zero, List.set_cons_succ]
          refine seq_take (i := 1) (v := ?_) rfl (by kernel_rfl) (by kernel_rfl) (by kernel_rfl) (fun _ _ _ h => h) (by rfl) ?_ HS ?_
          rotate_left
          · intro W hW
            try dsimp only at hW
            obtain ⟨y0, y1, y2⟩ := hW
            (go_simp <;> first | done | with_reducible rfl)
          try simp only [Act.put, List.setIfInBounds_toArray, List.set_cons_zero, List.set_cons_succ]
          refine seq_take (i := 2) (v := ?_) rfl (by kernel_rfl) (by kernel_rfl) (by kernel_rfl) (fun _ _ _ h => h) (by rfl) ?_ HS ?_
          rotate_left
          · intro W hW
            try dsimp only at hW
            obtain ⟨y0, y1, y2⟩ := hW
            (go_simp <;> first | done | with_reducible rfl)
          try simp only [Act.put, List.setIfInBounds_toArray, List.set_cons_zero, List.set_cons_succ]
          refine seq_take (i := 3) (v := ?_) rfl (by kernel_rfl) (by kernel_rfl) (by kernel_rfl) (fun _ _ _ h => h) (by rfl) ?_ HS ?_
          rotate_left
          · intro W hW
            try dsimp only at hW
            obtain ⟨y0, y1, y2⟩ := hW
            (go_simp <;> first | done | with_reducible rfl)
          try simp only [Act.put, List.setIfInBounds_toArray, List.set_cons_zero, List.set_cons_succ]
          refine seq_skip (i := 4) rfl (by kernel_rfl) (by kernel_rfl) (by kernel_rfl) (fun _ _ _ h => h) (by rfl) HS ?_
          try simp only [Act.put, List.setIfInBounds_toArray, List.set_cons_zero, List.set_cons_succ]
          refine seq_skip (i := 5) rfl (by kernel_rfl) (by kernel_rfl) (by kernel_rfl) (fun _ _ _ h => h) (by rfl) HS ?_
          try simp only [Act.put, List.setIfInBounds_toArray, List.set_cons_zero, List.set_cons_succ]
          refine seq_skip (i := 6) rfl (by kernel_rfl) (by kernel_rfl) (by kernel_rfl) (fun _ _ _ h => h) (by rfl) HS ?_
          try simp only [Act.put, List.setIfInBounds_toArray, List.set_cons_zero, List.set_cons_succ]
          refine seq_take (i := 7) (v := ?_) rfl (by kernel_rfl) (by kernel_rfl) (by kernel_rfl) (fun _ _ _ h => h) (by rfl) ?_ HS ?_
          rotate_left
          · intro W hW
            try dsimp only at hW
            obtain ⟨y0, y1, y2⟩ := hW
            (go_simp <;> first | done | with_reducible rfl)
          try simp only [Act.put, List.setIfInBounds_toArray, List.set_cons_zero, List.set_cons_succ]
          refine seq_take (i := 8) (v := ?_) rfl (by kernel_rfl) (by kernel_rfl) (by kernel_rfl) (fun _ _ _ h => h) (by rfl) ?_ HS ?_
          rotate_left
          · intro W hW
            try dsimp only at hW
            obtain ⟨y0, y1, y2⟩ := hW
            (go_simp <;> first | done | with_reducible rfl)
          try simp only [Act.put, List.setIfInBounds_toArray, List.set_cons_zero, List.set_cons_succ]
          refine seq_skip (i := 9) rfl (by kernel_rfl) (by kernel_rfl) (by kernel_rfl) (fun _ _ _ h => h) (by rfl) HS ?_
          try simp only [Act.put, List.setIfInBounds_toArray, List.set_cons_zero, List.set_cons_succ]
          refine seq_skip (i := 10) rfl (by kernel_rfl) (by kernel_rfl) (by kernel_rfl) (fun _ _ _ h => h) (by rfl) HS ?_
          try simp only [Act.put, List.setIfInBounds_toArray, List.set_cons_zero, List.set_cons_succ]
          refine seq_skip (i := 11) rfl (by kernel_rfl) (by kernel_rfl) (by kernel_rfl) (fun _ _ _ h => h) (by rfl) HS ?_
          try simp only [Act.put, List.setIfInBounds_toArray, List.set_cons_zero, List.set_cons_succ]
          refine seq_skip (i := 12) rfl (by kernel_rfl) (by kernel_rfl) (by kernel_rfl) (fun _ _ _ h => h) (by rfl) HS ?_
          try simp only [Act.put, List.setIfInBounds_toArray, List.set_cons_zero, List.set_cons_succ]
          refine seq_take (i := 13) (v := ?_) rfl (by kernel_rfl) (by kernel_rfl) (by kernel_rfl) (fun _ _ _ h => h) (by rfl) ?_ HS ?_
          rotate_left
          · intro W hW
            try dsimp only at hW
            obtain ⟨y0, y1, y2⟩ := hW
            (go_simp <;> first | done | with_reducible rfl)
          try simp only [Act.put, List.setIfInBounds_toArray, List.set_cons_zero, List.set_cons_succ]
          refine seq_take (i := 14) (v := ?_) rfl (by kernel_rfl) (by kernel_rfl) (by kernel_rfl) (fun _ _ _ h => h) (by rfl) ?_ HS ?_
          rotate_left
          · intro W hW
            try dsimp only at hW
            obtain ⟨y0, y1, y2⟩ := hW
            (go_simp <;> first | done | with_reducible rfl)
          try simp only [Act.put, List.setIfInBounds_toArray, List.set_cons_zero, List.set_cons_succ]
          refine seq_skip (i := 15) rfl (by kernel_rfl) (by kernel_rfl) (by kernel_rfl) (fun _ _ _ h => h) (by rfl) HS ?_
          try simp only [Act.put, List.setIfInBounds_toArray, List.set_cons_zero, List.set_cons_succ]
          refine seq_skip (i := 16) rfl (by kernel_rfl) (by kernel_rfl) (by kernel_rfl) (fun _ _ _ h => h) (by rfl) HS ?_
          try simp only [Act.put, List.setIfInBounds_toArray, List.set_cons_zero, List.set_cons_succ]
          refine seq_skip (i := 17) rfl (by kernel_rfl) (by kernel_rfl) (by kernel_rfl) (fun _ _ _ h => h) (by rfl) HS ?_
          try simp only [Act.put, List.setIfInBounds_toArray, List.set_cons_zero, List.set_cons_succ]
          refine seq_skip (i := 18) rfl (by kernel_rfl) (by kernel_rfl) (by kernel_rfl) (fun _ _ _ h => h) (by rfl) HS ?_
          try simp only [Act.put, List.setIfInBounds_toArray, List.set_cons_zero, List.set_cons_succ]
          refine seq_skip (i := 19) rfl (by kernel_rfl) (by kernel_rfl) (by kernel_rfl) (fun _ _ _ h => h) (by rfl) HS ?_
          try simp only [Act.put, List.setIfInBounds_toArray, List.set_cons_zero, List.set_cons_succ]
          refine seq_skip (i := 20) rfl (by kernel_rfl) (by kernel_rfl) (by kernel_rfl) (fun _ _ _ h => h) (by rfl) HS ?_
          try simp only [Act.put, List.setIfInBounds_toArray, List.set_cons_zero, List.set_cons_succ]
          refine seq_skip (i := 21) rfl (by kernel_rfl) (by kernel_rfl) (by kernel_rfl) (fun _ _ _ h => h) (by rfl) HS ?_
          try simp only [Act.put, List.setIfInBounds_toArray, List.set_cons_zero, List.set_cons_succ]
          refine seq_skip (i := 22) rfl (by kernel_rfl) (by kernel_rfl) (by kernel_rfl) (fun _ _ _ h => h) (by rfl) HS ?_
          try simp only [Act.put, List.setIfInBounds_toArray, List.set_cons_zero, List.set_cons_succ]
          refine seq_skip (i := 23) rfl (by kernel_rfl) (by kernel_rfl) (by kernel_rfl) (fun _ _ _ h => h) (by rfl) HS ?_
          try simp only [Act.put, List.setIfInBounds_toArray, List.set_cons_zero, List.set_cons_succ]
          refine seq_skip (i := 24) rfl (by kernel_rfl) (by kernel_rfl) (by kernel_rfl) (fun _ _ _ h => h) (by rfl) HS ?_
          try simp only [Act.put, List.setIfInBounds_toArray, List.set_cons_zero, List.set_cons_succ]
          refine seq_skip (i := 25) rfl (by kernel_rfl) (by kernel_rfl) (by kernel_rfl) (fun _ _ _ h => h) (by rfl) HS ?_
          try simp only [Act.put, List.setIfInBounds_toArray, List.set_cons_zero, List.set_cons_succ]
          refine seq_skip (i := 26) rfl (by kernel_rfl) (by kernel_rfl) (by kernel_rfl) (fun _ _ _ h => h) (by rfl) HS ?_
          try simp only [Act.put, List.setIfInBounds_toArray, List.set_cons_zero, List.set_cons_succ]
          refine seq_skip (i := 27) rfl (by kernel_rfl) (by kernel_rfl) (by kernel_rfl) (fun _ _ _ h => h) (by rfl) HS ?_
          try simp only [Act.put, List.setIfInBounds_toArray, List.set_cons_zero, List.set_cons_succ]
          refine seq_take (i := 28) (v := ?_) rfl (by kernel_rfl) (by kernel_rfl) (by kernel_rfl) (fun _ _ _ h => h) (by rfl) ?_ HS ?_
          rotate_left
          · intro W hW
            try dsimp only at hW
            obtain ⟨y0, y1, y2⟩ := hW
            (go_simp <;> first | done | with_reducible rfl)
          try simp only [Act.put, List.setIfInBounds_toArray, List.set_cons_zero, List.set_cons_succ]
          refine wpAnyH_done (by kernel_rfl) ?_ _
          clear HS
          clear v1 v3
          have hbel2 := hbelA
          clear hbelA
          go_wp2_with fail
          go_ret
          exact ⟨ret_bool HQ.out.symm, hbel2⟩
        by_cases g2 : 99 < pid
        · have HQ := Lib.hid (HB.out (HB1.out (.inr g2)))
          have g1' : decide (pid < 1) = false := by simpa using g1
          have g2' : decide (99 < pid) = true := by simpa using g2

          have HS0 : Hid (World.cell? (wr.alloc (.cells #[.int .i64 pid, .slice pA pn pc] 86)).drew ⟨wr.heap.size, 0, none⟩ = some (.int .i64 pid)) := (Blk.new wr 86 #[.int .i64 pid, .slice pA pn pc]).cell 0
          have HS1 : Hid (World.cell? (wr.alloc (.cells #[.int .i64 pid, .slice pA pn pc] 86)).drew ⟨wr.heap.size, 1, none⟩ = some (.slice pA pn pc)) := (Blk.new wr 86 #[.int .i64 pid, .slice pA pn pc]).cell 1
          have HS2 : Hid (World.cell? (wr.alloc (.cells #[.int .i64 pid, .slice pA pn pc] 86)).drew ⟨b, off + j * 2, none⟩ = some (.int .i64 qid)) := (World.cell?_alloc_lt wr (.cells #[.int .i64 pid, .slice pA pn pc] 86) ⟨b, off + j * 2, none⟩ hbw).trans hd0
          have hbelA : Below w.heap.size w (wr.alloc (.cells #[.int .i64 pid, .slice pA pn pc] 86)).drew := (hbel.alloc hbel.size _).drew
          have hszA := hbelA.size
          have HPL := Lib.hid (PilesValid_any pA pn pc pps (wr.alloc (.cells #[.int .i64 pid, .slice pA pn pc] 86)).drew HP.out.1.len (by have e := HP.out.1.len; have e2 := HP.out.2.1; simp only at e e2; omega) HP.out.2.2 ((HP.out.1.row.below hbelA).more hbelA.size))
          go_wp2_with fail
          refine wp_region_held_drew (S := (fun W : World => W.cell? ⟨wr.heap.size, 0, none⟩ = some (.int .i64 pid) ∧ W.cell? ⟨wr.heap.size, 1, none⟩ = some (.slice pA pn pc) ∧ W.cell? ⟨b, off + j * 2, none⟩ = some (.int .i64 qid))) (by kernel_rfl) ⟨HS0.out, HS1.out, HS2.out⟩ (fun HS => ?_)
          refine seq_take (i := 0) (v := ?_) rfl (by kernel_rfl) (by kernel_rfl) (by kernel_rfl) (fun _ _ _ h => h) (by rfl) ?_ HS ?_
          rotate_left
          · intro W hW
            try dsimp only at hW
            obtain ⟨y0, y1, y2⟩ := hW
            (go_simp <;> first | done | with_reducible rfl)
          try simp only [Act.put, List.setIfInBounds_toArray, List.set_cons_zero, List.set_cons_succ]
          refine seq_take (i := 1) (v := ?_) rfl (by kernel_rfl) (by kernel_rfl) (by kernel_rfl) (fun _ _ _ h => h) (by rfl) ?_ HS ?_
          rotate_left
          · intro W hW
            try dsimp only at hW
            obtain ⟨y0, y1, y2⟩ := hW
            (go_simp <;> first | done | with_reducible rfl)
          try simp only [Act.put, List.setIfInBounds_toArray, List.set_cons_zero, List.set_cons_succ]
          refine seq_take (i := 2) (v := ?_) rfl (by kernel_rfl) (by kernel_rfl) (by kernel_rfl) (fun _ _ _ h => h) (by rfl) ?_ HS ?_
          rotate_left
          · intro W hW
            try dsimp only at hW
            obtain ⟨y0, y1, y2⟩ := hW
            (go_simp <;> first | done | with_reducible rfl)
          try simp only [Act.put, List.setIfInBounds_toArray, List.set_cons_zero, List.set_cons_succ]
          refine seq_take (i := 3) (v := ?_) rfl (by kernel_rfl) (by kernel_rfl) (by kernel_rfl) (fun _ _ _ h => h) (by rfl) ?_ HS ?_
          rotate_left
          · intro W hW
            try dsimp only at hW
            obtain ⟨y0, y1, y2⟩ := hW
            (go_simp <;> first | done | with_reducible rfl)
          try simp only [Act.put, List.setIfInBounds_toArray, List.set_cons_zero, List.set_cons_succ]
          refine seq_take (i := 4) (v := ?_) rfl (by kernel_rfl) (by kernel_rfl) (by kernel_rfl) (fun _ _ _ h => h) (by rfl) ?_ HS ?_
          rotate_left
          · intro W hW
            try dsimp only at hW
            obtain ⟨y0, y1, y2⟩ := hW
            (go_simp <;> first | done | with_reducible rfl)
          try simp only [Act.put, List.setIfInBounds_toArray, List.set_cons_zero, List.set_cons_succ]
          refine seq_take (i := 5) (v := ?_) rfl (by kernel_rfl) (by kernel_rfl) (by kernel_rfl) (fun _ _ _ h => h) (by rfl) ?_ HS ?_
          rotate_left
          · intro W hW
            try dsimp only at hW
            obtain ⟨y0, y1, y2⟩ := hW
            (go_simp <;> first | done | with_reducible rfl)
          try simp only [Act.put, List.setIfInBounds_toArray, List.set_cons_zero, List.set_cons_succ]
          refine seq_take (i := 6) (v := ?_) rfl (by kernel_rfl) (by kernel_rfl) (by kernel_rfl) (fun _ _ _ h => h) (by rfl) ?_ HS ?_
          rotate_left
          · intro W hW
            try dsimp only at hW
            obtain ⟨y0, y1, y2⟩ := hW
            (go_simp <;> first | done | with_reducible rfl)
          try simp only [Act.put, List.setIfInBounds_toArray, List.set_cons_zero, List.set_cons_succ]
          refine seq_take (i := 7) (v := ?_) rfl (by kernel_rfl) (by kernel_rfl) (by kernel_rfl) (fun _ _ _ h => h) (by rfl) ?_ HS ?_
          rotate_left
          · intro W hW
            try dsimp only at hW
            obtain ⟨y0, y1, y2⟩ := hW
            (go_simp <;> first | done | with_reducible rfl)
          try simp only [Act.put, List.setIfInBounds_toArray, List.set_cons_zero, List.set_cons_succ]
          refine seq_take (i := 8) (v := ?_) rfl (by kernel_rfl) (by kernel_rfl) (by kernel_rfl) (fun _ _ _ h => h) (by rfl) ?_ HS ?_
          rotate_left
          · intro W hW
            try dsimp only at hW
            obtain ⟨y0, y1, y2⟩ := hW
            (go_simp <;> first | done | with_reducible rfl)
          try simp only [Act.put, List.setIfInBounds_toArray, List.set_cons_zero, List.set_cons_succ]
          refine seq_skip (i := 9) rfl (by kernel_rfl) (by kernel_rfl) (by kernel_rfl) (fun _ _ _ h => h) (by rfl) HS ?_
          try simp only [Act.put, List.setIfInBounds_toArray, List.set_cons_zero, List.set_cons_succ]
          refine seq_skip (i := 10) rfl (by kernel_rfl) (by kernel_rfl) (by kernel_rfl) (fun _ _ _ h => h) (by rfl) HS ?_
          try simp only [Act.put, List.setIfInBounds_toArray, List.set_cons_zero, List.set_cons_succ]
          refine seq_skip (i := 11) rfl (by kernel_rfl) (by kernel_rfl) (by kernel_rfl) (fun _ _ _ h => h) (by rfl) HS ?_
          try simp only [Act.put, List.setIfInBounds_toArray, List.set_cons_zero, List.set_cons_succ]
          refine seq_skip (i := 12) rfl (by kernel_rfl) (by kernel_rfl) (by kernel_rfl) (fun _ _ _ h => h) (by rfl) HS ?_
          try simp only [Act.put, List.setIfInBounds_toArray, List.set_cons_zero, List.set_cons_succ]
          refine seq_take (i := 13) (v := ?_) rfl (by kernel_rfl) (by kernel_rfl) (by kernel_rfl) (fun _ _ _ h => h) (by rfl) ?_ HS ?_
          rotate_left
          · intro W hW
            try dsimp only at hW
            obtain ⟨y0, y1, y2⟩ := hW
            (go_simp <;> first | done | with_reducible rfl)
          try simp only [Act.put, List.setIfInBounds_toArray, List.set_cons_zero, List.set_cons_succ]
          refine seq_take (i := 14) (v := ?_) rfl (by kernel_rfl) (by kernel_rfl) (by kernel_rfl) (fun _ _ _ h => h) (by rfl) ?_ HS ?_
          rotate_left
          · intro W hW
            try dsimp only at hW
            obtain ⟨y0, y1, y2⟩ := hW
            (go_simp <;> first | done | with_reducible rfl)
          try simp only [Act.put, List.setIfInBounds_toArray, List.set_cons_zero, List.set_cons_succ]
          refine seq_skip (i := 15) rfl (by kernel_rfl) (by kernel_rfl) (by kernel_rfl) (fun _ _ _ h => h) (by rfl) HS ?_
          try simp only [Act.put, List.setIfInBounds_toArray, List.set_cons_zero, List.set_cons_succ]
          refine seq_skip (i := 16) rfl (by kernel_rfl) (by kernel_rfl) (by kernel_rfl) (fun _ _ _ h => h) (by rfl) HS ?_
          try simp only [Act.put, List.setIfInBounds_toArray, List.set_cons_zero, List.set_cons_succ]
          refine seq_skip (i := 17) rfl (by kernel_rfl) (by kernel_rfl) (by kernel_rfl) (fun _ _ _ h => h) (by rfl) HS ?_
          try simp only [Act.put, List.setIfInBounds_toArray, List.set_cons_zero, List.set_cons_succ]
          refine seq_skip (i := 18) rfl (by kernel_rfl) (by kernel_rfl) (by kernel_rfl) (fun _ _ _ h => h) (by rfl) HS ?_
          try simp only [Act.put, List.setIfInBounds_toArray, List.set_cons_zero, List.set_cons_succ]
          refine seq_skip (i := 19) rfl (by kernel_rfl) (by kernel_rfl) (by kernel_rfl) (fun _ _ _ h => h) (by rfl) HS ?_
          try simp only [Act.put, List.setIfInBounds_toArray, List.set_cons_zero, List.set_cons_succ]
          refine seq_skip (i := 20) rfl (by kernel_rfl) (by kernel_rfl) (by kernel_rfl) (fun _ _ _ h => h) (by rfl) HS ?_
          try simp only [Act.put, List.setIfInBounds_toArray, List.set_cons_zero, List.set_cons_succ]
          refine seq_skip (i := 21) rfl (by kernel_rfl) (by kernel_rfl) (by kernel_rfl) (fun _ _ _ h => h) (by rfl) HS ?_
          try simp only [Act.put, List.setIfInBounds_toArray, List.set_cons_zero, List.set_cons_succ]
          refine seq_skip (i := 22) rfl (by kernel_rfl) (by kernel_rfl) (by kernel_rfl) (fun _ _ _ h => h) (by rfl) HS ?_
          try simp only [Act.put, List.setIfInBounds_toArray, List.set_cons_zero, List.set_cons_succ]
          refine seq_skip (i := 23) rfl (by kernel_rfl) (by kernel_rfl) (by kernel_rfl) (fun _ _ _ h => h) (by rfl) HS ?_
          try simp only [Act.put, List.setIfInBounds_toArray, List.set_cons_zero, List.set_cons_succ]
          refine seq_skip (i := 24) rfl (by kernel_rfl) (by kernel_rfl) (by kernel_rfl) (fun _ _ _ h => h) (by rfl) HS ?_
          try simp only [Act.put, List.setIfInBounds_toArray, List.set_cons_zero, List.set_cons_succ]
          refine seq_skip (i := 25) rfl (by kernel_rfl) (by kernel_rfl) (by kernel_rfl) (fun _ _ _ h => h) (by rfl) HS ?_
          try simp only [Act.put, List.setIfInBounds_toArray, List.set_cons_zero, List.set_cons_succ]
          refine seq_skip (i := 26) rfl (by kernel_rfl) (by kernel_rfl) (by kernel_rfl) (fun _ _ _ h => h) (by rfl) HS ?_
          try simp only [Act.put, List.setIfInBounds_toArray, List.set_cons_zero, List.set_cons_succ]
          refine seq_skip (i := 27) rfl (by kernel_rfl) (by kernel_rfl) (by kernel_rfl) (fun _ _ _ h => h) (by rfl) HS ?_
          try simp only [Act.put, List.setIfInBounds_toArray, List.set_cons_zero, List.set_cons_succ]
          refine seq_take (i := 28) (v := ?_) rfl (by kernel_rfl) (by kernel_rfl) (by kernel_rfl) (fun _ _ _ h => h) (by rfl) ?_ HS ?_
          rotate_left
          · intro W hW
            try dsimp only at hW
            obtain ⟨y0, y1, y2⟩ := hW
            (go_simp <;> first | done | with_reducible rfl)
          try simp only [Act.put, List.setIfInBounds_toArray, List.set_cons_zero, List.set_cons_succ]
          refine wpAnyH_done (by kernel_rfl) ?_ _
          clear HS
          clear v1 v3
          have hbel2 := hbelA
          clear hbelA
          go_wp2_with fail
          go_ret
          exact ⟨ret_bool HQ.out.symm, hbel2⟩
        have h1 : 1 ≤ pid := by omega
        have h2 : pid ≤ 99 := by omega
        have g1' : decide (pid < 1) = false := by simpa using g1
        have g2' : decide (99 < pid) = false := by simpa using g2
        have HI := Lib.hid (idIn h1 h2)
        cases hq : plsB pps with
        | false =>
          have HQ := Lib.hid (HB.out (HB2.out hq))
          have HS0 : Hid (World.cell? (wr.alloc (.cells #[.int .i64 pid, .slice pA pn pc] 86)).drew ⟨wr.heap.size, 0, none⟩ = some (.int .i64 pid)) := (Blk.new wr 86 #[.int .i64 pid, .slice pA pn pc]).cell 0
          have HS1 : Hid (World.cell? (wr.alloc (.cells #[.int .i64 pid, .slice pA pn pc] 86)).drew ⟨wr.heap.size, 1, none⟩ = some (.slice pA pn pc)) := (Blk.new wr 86 #[.int .i64 pid, .slice pA pn pc]).cell 1
          have HS2 : Hid (World.cell? (wr.alloc (.cells #[.int .i64 pid, .slice pA pn pc] 86)).drew ⟨b, off + j * 2, none⟩ = some (.int .i64 qid)) := (World.cell?_alloc_lt wr (.cells #[.int .i64 pid, .slice pA pn pc] 86) ⟨b, off + j * 2, none⟩ hbw).trans hd0
          have hbelA : Below w.heap.size w (wr.alloc (.cells #[.int .i64 pid, .slice pA pn pc] 86)).drew := (hbel.alloc hbel.size _).drew
          have hszA := hbelA.size
          have HPL := Lib.hid (PilesValid_any pA pn pc pps (wr.alloc (.cells #[.int .i64 pid, .slice pA pn pc] 86)).drew HP.out.1.len (by have e := HP.out.1.len; have e2 := HP.out.2.1; simp only at e e2; omega) HP.out.2.2 ((HP.out.1.row.below hbelA).more hbelA.size))
          go_wp2_with fail
          refine wp_region_held_drew (S := (fun W : World => W.cell? ⟨wr.heap.size, 0, none⟩ = some (.int .i64 pid) ∧ W.cell? ⟨wr.heap.size, 1, none⟩ = some (.slice pA pn pc) ∧ W.cell? ⟨b, off + j * 2, none⟩ = some (.int .i64 qid))) (by kernel_rfl) ⟨HS0.out, HS1.out, HS2.out⟩ (fun HS => ?_)
          refine seq_take (i := 0) (v := ?_) rfl (by kernel_rfl) (by kernel_rfl) (by kernel_rfl) (fun _ _ _ h => h) (by rfl) ?_ HS ?_
          rotate_left
          · intro W hW
            try dsimp only at hW
            obtain ⟨y0, y1, y2⟩ := hW
            (go_simp <;> first | done | with_reducible rfl)
          try simp only [Act.put, List.setIfInBounds_toArray, List.set_cons_zero, List.set_cons_succ]
          refine seq_take (i := 1) (v := ?_) rfl (by kernel_rfl) (by kernel_rfl) (by kernel_rfl) (fun _ _ _ h => h) (by rfl) ?_ HS ?_
          rotate_left
          · intro W hW
            try dsimp only at hW
            obtain ⟨y0, y1, y2⟩ := hW
            (go_simp <;> first | done | with_reducible rfl)
          try simp only [Act.put, List.setIfInBounds_toArray, List.set_cons_zero, List.set_cons_succ]
          refine seq_take (i := 2) (v := ?_) rfl (by kernel_rfl) (by kernel_rfl) (by kernel_rfl) (fun _ _ _ h => h) (by rfl) ?_ HS ?_
          rotate_left
          · intro W hW
            try dsimp only at hW
            obtain ⟨y0, y1, y2⟩ := hW
            (go_simp <;> first | done | with_reducible rfl)
          try simp only [Act.put, List.setIfInBounds_toArray, List.set_cons_zero, List.set_cons_succ]
          refine seq_take (i := 3) (v := ?_) rfl (by kernel_rfl) (by kernel_rfl) (by kernel_rfl) (fun _ _ _ h => h) (by rfl) ?_ HS ?_
          rotate_left
          · intro W hW
            try dsimp only at hW
            obtain ⟨y0, y1, y2⟩ := hW
            (go_simp <;> first | done | with_reducible rfl)
          try simp only [Act.put, List.setIfInBounds_toArray, List.set_cons_zero, List.set_cons_succ]
          refine seq_take (i := 4) (v := ?_) rfl (by kernel_rfl) (by kernel_rfl) (by kernel_rfl) (fun _ _ _ h => h) (by rfl) ?_ HS ?_
          rotate_left
          · intro W hW
            try dsimp only at hW
            obtain ⟨y0, y1, y2⟩ := hW
            (go_simp <;> first | done | with_reducible rfl)
          try simp only [Act.put, List.setIfInBounds_toArray, List.set_cons_zero, List.set_cons_succ]
          refine seq_take (i := 5) (v := ?_) rfl (by kernel_rfl) (by kernel_rfl) (by kernel_rfl) (fun _ _ _ h => h) (by rfl) ?_ HS ?_
          rotate_left
          · intro W hW
            try dsimp only at hW
            obtain ⟨y0, y1, y2⟩ := hW
            (go_simp <;> first | done | with_reducible rfl)
          try simp only [Act.put, List.setIfInBounds_toArray, List.set_cons_zero, List.set_cons_succ]
          refine seq_take (i := 6) (v := ?_) rfl (by kernel_rfl) (by kernel_rfl) (by kernel_rfl) (fun _ _ _ h => h) (by rfl) ?_ HS ?_
          rotate_left
          · intro W hW
            try dsimp only at hW
            obtain ⟨y0, y1, y2⟩ := hW
            (go_simp <;> first | done | with_reducible rfl)
          try simp only [Act.put, List.setIfInBounds_toArray, List.set_cons_zero, List.set_cons_succ]
          refine seq_take (i := 7) (v := ?_) rfl (by kernel_rfl) (by kernel_rfl) (by kernel_rfl) (fun _ _ _ h => h) (by rfl) ?_ HS ?_
          rotate_left
          · intro W hW
            try dsimp only at hW
            obtain ⟨y0, y1, y2⟩ := hW
            (go_simp <;> first | done | with_reducible rfl)
          try simp only [Act.put, List.setIfInBounds_toArray, List.set_cons_zero, List.set_cons_succ]
          refine seq_take (i := 8) (v := ?_) rfl (by kernel_rfl) (by kernel_rfl) (by kernel_rfl) (fun _ _ _ h => h) (by rfl) ?_ HS ?_
          rotate_left
          · intro W hW
            try dsimp only at hW
            obtain ⟨y0, y1, y2⟩ := hW
            (go_simp <;> first | done | with_reducible rfl)
          try simp only [Act.put, List.setIfInBounds_toArray, List.set_cons_zero, List.set_cons_succ]
          refine seq_take (i := 9) (v := ?_) rfl (by kernel_rfl) (by kernel_rfl) (by kernel_rfl) (fun _ _ _ h => h) (by rfl) ?_ HS ?_
          rotate_left
          · intro W hW
            try dsimp only at hW
            obtain ⟨y0, y1, y2⟩ := hW
            (go_simp <;> first | done | with_reducible rfl)
          try simp only [Act.put, List.setIfInBounds_toArray, List.set_cons_zero, List.set_cons_succ]
          refine seq_take (i := 10) (v := ?_) rfl (by kernel_rfl) (by kernel_rfl) (by kernel_rfl) (fun _ _ _ h => h) (by rfl) ?_ HS ?_
          rotate_left
          · intro W hW
            try dsimp only at hW
            obtain ⟨y0, y1, y2⟩ := hW
            (go_simp <;> first | done | with_reducible rfl)
          try simp only [Act.put, List.setIfInBounds_toArray, List.set_cons_zero, List.set_cons_succ]
          refine seq_call (i := 11) rfl (by kernel_rfl) (by rfl) (fun K hK => ?_)
          go_simp
          go_at_call 68
          refine HPL.out.mono ?_
          rintro e w2 ⟨rfl, hb2⟩
          rw [hq]
          have hbel2 : Below w.heap.size w w2 := hbelA.trans (hb2.mono hszA)
          have x0 := (hb2.cell (p := ⟨wr.heap.size, 0, none⟩) (by simp)).trans HS0.out
          have x1 := (hb2.cell (p := ⟨wr.heap.size, 1, none⟩) (by simp)).trans HS1.out
          have x2 := (hb2.cell (p := ⟨b, off + j * 2, none⟩) (by simp; omega)).trans HS2.out
          clear hb2
          go_wp2_with fail
          refine hK.out _ _ ⟨x0, x1, x2⟩ (fun HS2 => ?_)
          clear hK K HS
          have HS := HS2
          clear HS2
          try simp only [Act.put, List.setIfInBounds_toArray, List.set_cons_zero, List.set_cons_succ]
          refine seq_take (i := 12) (v := ?_) rfl (by kernel_rfl) (by kernel_rfl) (by kernel_rfl) (fun _ _ _ h => h) (by rfl) ?_ HS ?_
          rotate_left
          · intro W hW
            try dsimp only at hW
            obtain ⟨y0, y1, y2⟩ := hW
            (go_simp <;> first | done | with_reducible rfl)
          try simp only [Act.put, List.setIfInBounds_toArray, List.set_cons_zero, List.set_cons_succ]
          refine seq_take (i := 13) (v := ?_) rfl (by kernel_rfl) (by kernel_rfl) (by kernel_rfl) (fun _ _ _ h => h) (by rfl) ?_ HS ?_
          rotate_left
          · intro W hW
            try dsimp only at hW
            obtain ⟨y0, y1, y2⟩ := hW
            (go_simp <;> first | done | with_reducible rfl)
          try simp only [Act.put, List.setIfInBounds_toArray, List.set_cons_zero, List.set_cons_succ]
          refine seq_take (i := 14) (v := ?_) rfl (by kernel_rfl) (by kernel_rfl) (by kernel_rfl) (fun _ _ _ h => h) (by rfl) ?_ HS ?_
          rotate_left
          · intro W hW
            try dsimp only at hW
            obtain ⟨y0, y1, y2⟩ := hW
            (go_simp <;> first | done | with_reducible rfl)
          try simp only [Act.put, List.setIfInBounds_toArray, List.set_cons_zero, List.set_cons_succ]
          refine seq_skip (i := 15) rfl (by kernel_rfl) (by kernel_rfl) (by kernel_rfl) (fun _ _ _ h => h) (by rfl) HS ?_
          try simp only [Act.put, List.setIfInBounds_toArray, List.set_cons_zero, List.set_cons_succ]
          refine seq_skip (i := 16) rfl (by kernel_rfl) (by kernel_rfl) (by kernel_rfl) (fun _ _ _ h => h) (by rfl) HS ?_
          try simp only [Act.put, List.setIfInBounds_toArray, List.set_cons_zero, List.set_cons_succ]
          refine seq_skip (i := 17) rfl (by kernel_rfl) (by kernel_rfl) (by kernel_rfl) (fun _ _ _ h => h) (by rfl) HS ?_
          try simp only [Act.put, List.setIfInBounds_toArray, List.set_cons_zero, List.set_cons_succ]
          refine seq_skip (i := 18) rfl (by kernel_rfl) (by kernel_rfl) (by kernel_rfl) (fun _ _ _ h => h) (by rfl) HS ?_
          try simp only [Act.put, List.setIfInBounds_toArray, List.set_cons_zero, List.set_cons_succ]
          refine seq_skip (i := 19) rfl (by kernel_rfl) (by kernel_rfl) (by kernel_rfl) (fun _ _ _ h => h) (by rfl) HS ?_
          try simp only [Act.put, List.setIfInBounds_toArray, List.set_cons_zero, List.set_cons_succ]
          refine seq_skip (i := 20) rfl (by kernel_rfl) (by kernel_rfl) (by kernel_rfl) (fun _ _ _ h => h) (by rfl) HS ?_
          try simp only [Act.put, List.setIfInBounds_toArray, List.set_cons_zero, List.set_cons_succ]
          refine seq_skip (i := 21) rfl (by kernel_rfl) (by kernel_rfl) (by kernel_rfl) (fun _ _ _ h => h) (by rfl) HS ?_
          try simp only [Act.put, List.setIfInBounds_toArray, List.set_cons_zero, List.set_cons_succ]
          refine seq_skip (i := 22) rfl (by kernel_rfl) (by kernel_rfl) (by kernel_rfl) (fun _ _ _ h => h) (by rfl) HS ?_
          try simp only [Act.put, List.setIfInBounds_toArray, List.set_cons_zero, List.set_cons_succ]
          refine seq_skip (i := 23) rfl (by kernel_rfl) (by kernel_rfl) (by kernel_rfl) (fun _ _ _ h => h) (by rfl) HS ?_
          try simp only [Act.put, List.setIfInBounds_toArray, List.set_cons_zero, List.set_cons_succ]
          refine seq_skip (i := 24) rfl (by kernel_rfl) (by kernel_rfl) (by kernel_rfl) (fun _ _ _ h => h) (by rfl) HS ?_
          try simp only [Act.put, List.setIfInBounds_toArray, List.set_cons_zero, List.set_cons_succ]
          refine seq_skip (i := 25) rfl (by kernel_rfl) (by kernel_rfl) (by kernel_rfl) (fun _ _ _ h => h) (by rfl) HS ?_
          try simp only [Act.put, List.setIfInBounds_toArray, List.set_cons_zero, List.set_cons_succ]
          refine seq_skip (i := 26) rfl (by kernel_rfl) (by kernel_rfl) (by kernel_rfl) (fun _ _ _ h => h) (by rfl) HS ?_
          try simp only [Act.put, List.setIfInBounds_toArray, List.set_cons_zero, List.set_cons_succ]
          refine seq_skip (i := 27) rfl (by kernel_rfl) (by kernel_rfl) (by kernel_rfl) (fun _ _ _ h => h) (by rfl) HS ?_
          try simp only [Act.put, List.setIfInBounds_toArray, List.set_cons_zero, List.set_cons_succ]
          refine seq_take (i := 28) (v := ?_) rfl (by kernel_rfl) (by kernel_rfl) (by kernel_rfl) (fun _ _ _ h => h) (by rfl) ?_ HS ?_
          rotate_left
          · intro W hW
            try dsimp only at hW
            obtain ⟨y0, y1, y2⟩ := hW
            (go_simp <;> first | done | with_reducible rfl)
          try simp only [Act.put, List.setIfInBounds_toArray, List.set_cons_zero, List.set_cons_succ]
          refine wpAnyH_done (by kernel_rfl) ?_ _
          clear HS
          clear v1 v3
          clear hbelA
          clear hq
          go_wp2_with fail
          go_ret
          exact ⟨ret_bool HQ.out.symm, hbel2⟩
        | true =>
          by_cases g3 : qid < pid
          · have HQ := Lib.hid (HA.out (HZ.out.trans (by rw [HI.out, hq, decide_eq_true g3]; rfl)))
            have g4 : decide (pid ≤ qid) = false := by simp; omega
            have HS0 : Hid (World.cell? (wr.alloc (.cells #[.int .i64 pid, .slice pA pn pc] 86)).drew ⟨wr.heap.size, 0, none⟩ = some (.int .i64 pid)) := (Blk.new wr 86 #[.int .i64 pid, .slice pA pn pc]).cell 0
            have HS1 : Hid (World.cell? (wr.alloc (.cells #[.int .i64 pid, .slice pA pn pc] 86)).drew ⟨wr.heap.size, 1, none⟩ = some (.slice pA pn pc)) := (Blk.new wr 86 #[.int .i64 pid, .slice pA pn pc]).cell 1
            have HS2 : Hid (World.cell? (wr.alloc (.cells #[.int .i64 pid, .slice pA pn pc] 86)).drew ⟨b, off + j * 2, none⟩ = some (.int .i64 qid)) := (World.cell?_alloc_lt wr (.cells #[.int .i64 pid, .slice pA pn pc] 86) ⟨b, off + j * 2, none⟩ hbw).trans hd0
            have hbelA : Below w.heap.size w (wr.alloc (.cells #[.int .i64 pid, .slice pA pn pc] 86)).drew := (hbel.alloc hbel.size _).drew
            have hszA := hbelA.size
            have HPL := Lib.hid (PilesValid_any pA pn pc pps (wr.alloc (.cells #[.int .i64 pid, .slice pA pn pc] 86)).drew HP.out.1.len (by have e := HP.out.1.len; have e2 := HP.out.2.1; simp only at e e2; omega) HP.out.2.2 ((HP.out.1.row.below hbelA).more hbelA.size))
            go_wp2_with fail
            refine wp_region_held_drew (S := (fun W : World => W.cell? ⟨wr.heap.size, 0, none⟩ = some (.int .i64 pid) ∧ W.cell? ⟨wr.heap.size, 1, none⟩ = some (.slice pA pn pc) ∧ W.cell? ⟨b, off + j * 2, none⟩ = some (.int .i64 qid))) (by kernel_rfl) ⟨HS0.out, HS1.out, HS2.out⟩ (fun HS => ?_)
            refine seq_take (i := 0) (v := ?_) rfl (by kernel_rfl) (by kernel_rfl) (by kernel_rfl) (fun _ _ _ h => h) (by rfl) ?_ HS ?_
            rotate_left
            · intro W hW
              try dsimp only at hW
              obtain ⟨y0, y1, y2⟩ := hW
              (go_simp <;> first | done | with_reducible rfl)
            try simp only [Act.put, List.setIfInBounds_toArray, List.set_cons_zero, List.set_cons_succ]
            refine seq_take (i := 1) (v := ?_) rfl (by kernel_rfl) (by kernel_rfl) (by kernel_rfl) (fun _ _ _ h => h) (by rfl) ?_ HS ?_
            rotate_left
            · intro W hW
              try dsimp only at hW
              obtain ⟨y0, y1, y2⟩ := hW
              (go_simp <;> first | done | with_reducible rfl)
            try simp only [Act.put, List.setIfInBounds_toArray, List.set_cons_zero, List.set_cons_succ]
            refine seq_take (i := 2) (v := ?_) rfl (by kernel_rfl) (by kernel_rfl) (by kernel_rfl) (fun _ _ _ h => h) (by rfl) ?_ HS ?_
            rotate_left
            · intro W hW
              try dsimp only at hW
              obtain ⟨y0, y1, y2⟩ := hW
              (go_simp <;> first | done | with_reducible rfl)
            try simp only [Act.put, List.setIfInBounds_toArray, List.set_cons_zero, List.set_cons_succ]
            refine seq_take (i := 3) (v := ?_) rfl (by kernel_rfl) (by kernel_rfl) (by kernel_rfl) (fun _ _ _ h => h) (by rfl) ?_ HS ?_
            rotate_left
            · intro W hW
              try dsimp only at hW
              obtain ⟨y0, y1, y2⟩ := hW
              (go_simp <;> first | done | with_reducible rfl)
            try simp only [Act.put, List.setIfInBounds_toArray, List.set_cons_zero, List.set_cons_succ]
            refine seq_take (i := 4) (v := ?_) rfl (by kernel_rfl) (by kernel_rfl) (by kernel_rfl) (fun _ _ _ h => h) (by rfl) ?_ HS ?_
            rotate_left
            · intro W hW
              try dsimp only at hW
              obtain ⟨y0, y1, y2⟩ := hW
              (go_simp <;> first | done | with_reducible rfl)
            try simp only [Act.put, List.setIfInBounds_toArray, List.set_cons_zero, List.set_cons_succ]
            refine seq_take (i := 5) (v := ?_) rfl (by kernel_rfl) (by kernel_rfl) (by kernel_rfl) (fun _ _ _ h => h) (by rfl) ?_ HS ?_
            rotate_left
            · intro W hW
              try dsimp only at hW
              obtain ⟨y0, y1, y2⟩ := hW
              (go_simp <;> first | done | with_reducible rfl)
            try simp only [Act.put, List.setIfInBounds_toArray, List.set_cons_zero, List.set_cons_succ]
            refine seq_take (i := 6) (v := ?_) rfl (by kernel_rfl) (by kernel_rfl) (by kernel_rfl) (fun _ _ _ h => h) (by rfl) ?_ HS ?_
            rotate_left
            · intro W hW
              try dsimp only at hW
              obtain ⟨y0, y1, y2⟩ := hW
              (go_simp <;> first | done | with_reducible rfl)
            try simp only [Act.put, List.setIfInBounds_toArray, List.set_cons_zero, List.set_cons_succ]
            refine seq_take (i := 7) (v := ?_) rfl (by kernel_rfl) (by kernel_rfl) (by kernel_rfl) (fun _ _ _ h => h) (by rfl) ?_ HS ?_
            rotate_left
            · intro W hW
              try dsimp only at hW
              obtain ⟨y0, y1, y2⟩ := hW
              (go_simp <;> first | done | with_reducible rfl)
            try simp only [Act.put, List.setIfInBounds_toArray, List.set_cons_zero, List.set_cons_succ]
            refine seq_take (i := 8) (v := ?_) rfl (by kernel_rfl) (by kernel_rfl) (by kernel_rfl) (fun _ _ _ h => h) (by rfl) ?_ HS ?_
            rotate_left
            · intro W hW
              try dsimp only at hW
              obtain ⟨y0, y1, y2⟩ := hW
              (go_simp <;> first | done | with_reducible rfl)
            try simp only [Act.put, List.setIfInBounds_toArray, List.set_cons_zero, List.set_cons_succ]
            refine seq_take (i := 9) (v := ?_) rfl (by kernel_rfl) (by kernel_rfl) (by kernel_rfl) (fun _ _ _ h => h) (by rfl) ?_ HS ?_
            rotate_left
            · intro W hW
              try dsimp only at hW
              obtain ⟨y0, y1, y2⟩ := hW
              (go_simp <;> first | done | with_reducible rfl)
            try simp only [Act.put, List.setIfInBounds_toArray, List.set_cons_zero, List.set_cons_succ]
            refine seq_take (i := 10) (v := ?_) rfl (by kernel_rfl) (by kernel_rfl) (by kernel_rfl) (fun _ _ _ h => h) (by rfl) ?_ HS ?_
            rotate_left
            · intro W hW
              try dsimp only at hW
              obtain ⟨y0, y1, y2⟩ := hW
              (go_simp <;> first | done | with_reducible rfl)
            try simp only [Act.put, List.setIfInBounds_toArray, List.set_cons_zero, List.set_cons_succ]
            refine seq_call (i := 11) rfl (by kernel_rfl) (by rfl) (fun K hK => ?_)
            go_simp
            go_at_call 68
            refine HPL.out.mono ?_
            rintro e w2 ⟨rfl, hb2⟩
            rw [hq]
            have hbel2 : Below w.heap.size w w2 := hbelA.trans (hb2.mono hszA)
            have x0 := (hb2.cell (p := ⟨wr.heap.size, 0, none⟩) (by simp)).trans HS0.out
            have x1 := (hb2.cell (p := ⟨wr.heap.size, 1, none⟩) (by simp)).trans HS1.out
            have x2 := (hb2.cell (p := ⟨b, off + j * 2, none⟩) (by simp; omega)).trans HS2.out
            clear hb2
            go_wp2_with fail
            refine hK.out _ _ ⟨x0, x1, x2⟩ (fun HS2 => ?_)
            clear hK K HS
            have HS := HS2
            clear HS2
            try simp only [Act.put, List.setIfInBounds_toArray, List.set_cons_zero, List.set_cons_succ]
            refine seq_take (i := 12) (v := ?_) rfl (by kernel_rfl) (by kernel_rfl) (by kernel_rfl) (fun _ _ _ h => h) (by rfl) ?_ HS ?_
            rotate_left
            · intro W hW
              try dsimp only at hW
              obtain ⟨y0, y1, y2⟩ := hW
              (go_simp <;> first | done | with_reducible rfl)
            try simp only [Act.put, List.setIfInBounds_toArray, List.set_cons_zero, List.set_cons_succ]
            refine seq_take (i := 13) (v := ?_) rfl (by kernel_rfl) (by kernel_rfl) (by kernel_rfl) (fun _ _ _ h => h) (by rfl) ?_ HS ?_
            rotate_left
            · intro W hW
              try dsimp only at hW
              obtain ⟨y0, y1, y2⟩ := hW
              (go_simp <;> first | done | with_reducible rfl)
            try simp only [Act.put, List.setIfInBounds_toArray, List.set_cons_zero, List.set_cons_succ]
            refine seq_take (i := 14) (v := ?_) rfl (by kernel_rfl) (by kernel_rfl) (by kernel_rfl) (fun _ _ _ h => h) (by rfl) ?_ HS ?_
            rotate_left
            · intro W hW
              try dsimp only at hW
              obtain ⟨y0, y1, y2⟩ := hW
              (go_simp <;> first | done | with_reducible rfl)
            try simp only [Act.put, List.setIfInBounds_toArray, List.set_cons_zero, List.set_cons_succ]
            refine seq_take (i := 15) (v := ?_) rfl (by kernel_rfl) (by kernel_rfl) (by kernel_rfl) (fun _ _ _ h => h) (by rfl) ?_ HS ?_
            rotate_left
            · intro W hW
              try dsimp only at hW
              obtain ⟨y0, y1, y2⟩ := hW
              (go_simp <;> first | done | with_reducible rfl)
            try simp only [Act.put, List.setIfInBounds_toArray, List.set_cons_zero, List.set_cons_succ]
            refine seq_take (i := 16) (v := ?_) rfl (by kernel_rfl) (by kernel_rfl) (by kernel_rfl) (fun _ _ _ h => h) (by rfl) ?_ HS ?_
            rotate_left
            · intro W hW
              try dsimp only at hW
              obtain ⟨y0, y1, y2⟩ := hW
              (go_simp <;> first | done | with_reducible rfl)
            try simp only [Act.put, List.setIfInBounds_toArray, List.set_cons_zero, List.set_cons_succ]
            refine seq_take (i := 17) (v := ?_) rfl (by kernel_rfl) (by kernel_rfl) (by kernel_rfl) (fun _ _ _ h => h) (by rfl) ?_ HS ?_
            rotate_left
            · intro W hW
              try dsimp only at hW
              obtain ⟨y0, y1, y2⟩ := hW
              (go_simp <;> first | done | with_reducible rfl)
            try simp only [Act.put, List.setIfInBounds_toArray, List.set_cons_zero, List.set_cons_succ]
            refine seq_take (i := 18) (v := ?_) rfl (by kernel_rfl) (by kernel_rfl) (by kernel_rfl) (fun _ _ _ h => h) (by rfl) ?_ HS ?_
            rotate_left
            · intro W hW
              try dsimp only at hW
              obtain ⟨y0, y1, y2⟩ := hW
              (go_simp <;> first | done | with_reducible rfl)
            try simp only [Act.put, List.setIfInBounds_toArray, List.set_cons_zero, List.set_cons_succ]
            refine seq_take (i := 19) (v := ?_) rfl (by kernel_rfl) (by kernel_rfl) (by kernel_rfl) (fun _ _ _ h => h) (by rfl) ?_ HS ?_
            rotate_left
            · intro W hW
              try dsimp only at hW
              obtain ⟨y0, y1, y2⟩ := hW
              (go_simp <;> first | done | with_reducible rfl)
            try simp only [Act.put, List.setIfInBounds_toArray, List.set_cons_zero, List.set_cons_succ]
            refine seq_take (i := 20) (v := ?_) rfl (by kernel_rfl) (by kernel_rfl) (by kernel_rfl) (fun _ _ _ h => h) (by rfl) ?_ HS ?_
            rotate_left
            · intro W hW
              try dsimp only at hW
              obtain ⟨y0, y1, y2⟩ := hW
              (go_simp <;> first | done | with_reducible rfl)
            try simp only [Act.put, List.setIfInBounds_toArray, List.set_cons_zero, List.set_cons_succ]
            refine seq_take (i := 21) (v := ?_) rfl (by kernel_rfl) (by kernel_rfl) (by kernel_rfl) (fun _ _ _ h => h) (by rfl) ?_ HS ?_
            rotate_left
            · intro W hW
              try dsimp only at hW
              obtain ⟨y0, y1, y2⟩ := hW
              (go_simp <;> first | done | with_reducible rfl)
            try simp only [Act.put, List.setIfInBounds_toArray, List.set_cons_zero, List.set_cons_succ]
            refine seq_take (i := 22) (v := ?_) rfl (by kernel_rfl) (by kernel_rfl) (by kernel_rfl) (fun _ _ _ h => h) (by rfl) ?_ HS ?_
            rotate_left
            · intro W hW
              try dsimp only at hW
              obtain ⟨y0, y1, y2⟩ := hW
              (go_simp <;> first | done | with_reducible rfl)
            try simp only [Act.put, List.setIfInBounds_toArray, List.set_cons_zero, List.set_cons_succ]
            refine seq_take (i := 23) (v := ?_) rfl (by kernel_rfl) (by kernel_rfl) (by kernel_rfl) (fun _ _ _ h => h) (by rfl) ?_ HS ?_
            rotate_left
            · intro W hW
              try dsimp only at hW
              obtain ⟨y0, y1, y2⟩ := hW
              (go_simp <;> first | done | with_reducible rfl)
            try simp only [Act.put, List.setIfInBounds_toArray, List.set_cons_zero, List.set_cons_succ]
            refine seq_take (i := 24) (v := ?_) rfl (by kernel_rfl) (by kernel_rfl) (by kernel_rfl) (fun _ _ _ h => h) (by rfl) ?_ HS ?_
            rotate_left
            · intro W hW
              try dsimp only at hW
              obtain ⟨y0, y1, y2⟩ := hW
              (go_simp <;> first | done | with_reducible rfl)
            try simp only [Act.put, List.setIfInBounds_toArray, List.set_cons_zero, List.set_cons_succ]
            refine seq_take (i := 25) (v := ?_) rfl (by kernel_rfl) (by kernel_rfl) (by kernel_rfl) (fun _ _ _ h => h) (by rfl) ?_ HS ?_
            rotate_left
            · intro W hW
              try dsimp only at hW
              obtain ⟨y0, y1, y2⟩ := hW
              (go_simp <;> first | done | with_reducible rfl)
            try simp only [Act.put, List.setIfInBounds_toArray, List.set_cons_zero, List.set_cons_succ]
            refine seq_take (i := 26) (v := ?_) rfl (by kernel_rfl) (by kernel_rfl) (by kernel_rfl) (fun _ _ _ h => h) (by rfl) ?_ HS ?_
            rotate_left
            · intro W hW
              try dsimp only at hW
              obtain ⟨y0, y1, y2⟩ := hW
              (go_simp <;> first | done | with_reducible rfl)
            try simp only [Act.put, List.setIfInBounds_toArray, List.set_cons_zero, List.set_cons_succ]
            refine seq_take (i := 27) (v := ?_) rfl (by kernel_rfl) (by kernel_rfl) (by kernel_rfl) (fun _ _ _ h => h) (by rfl) ?_ HS ?_
            rotate_left
            · intro W hW
              try dsimp only at hW
              obtain ⟨y0, y1, y2⟩ := hW
              (go_simp <;> first | done | with_reducible rfl)
            try simp only [Act.put, List.setIfInBounds_toArray, List.set_cons_zero, List.set_cons_succ]
            refine seq_take (i := 28) (v := ?_) rfl (by kernel_rfl) (by kernel_rfl) (by kernel_rfl) (fun _ _ _ h => h) (by rfl) ?_ HS ?_
            rotate_left
            · intro W hW
              try dsimp only at hW
              obtain ⟨y0, y1, y2⟩ := hW
              (go_simp <;> first | done | with_reducible rfl)
            try simp only [Act.put, List.setIfInBounds_toArray, List.set_cons_zero, List.set_cons_succ]
            refine wpAnyH_done (by kernel_rfl) ?_ _
            clear HS
            clear v1 v3
            clear hbelA
            clear hq
            go_wp2_with fail
            go_roundw
            case rel => exact ⟨j + 1 + 1, by omega, by go_num, hbel2, HQ⟩
            case measure => simp [intOf]; omega
          · have HQ := Lib.hid (HB.out (HZ.out.trans (by rw [HI.out, hq, decide_eq_false g3]; rfl)))
            have g4 : decide (pid ≤ qid) = true := by simp; omega
            have HS0 : Hid (World.cell? (wr.alloc (.cells #[.int .i64 pid, .slice pA pn pc] 86)).drew ⟨wr.heap.size, 0, none⟩ = some (.int .i64 pid)) := (Blk.new wr 86 #[.int .i64 pid, .slice pA pn pc]).cell 0
            have HS1 : Hid (World.cell? (wr.alloc (.cells #[.int .i64 pid, .slice pA pn pc] 86)).drew ⟨wr.heap.size, 1, none⟩ = some (.slice pA pn pc)) := (Blk.new wr 86 #[.int .i64 pid, .slice pA pn pc]).cell 1
            have HS2 : Hid (World.cell? (wr.alloc (.cells #[.int .i64 pid, .slice pA pn pc] 86)).drew ⟨b, off + j * 2, none⟩ = some (.int .i64 qid)) := (World.cell?_alloc_lt wr (.cells #[.int .i64 pid, .slice pA pn pc] 86) ⟨b, off + j * 2, none⟩ hbw).trans hd0
            have hbelA : Below w.heap.size w (wr.alloc (.cells #[.int .i64 pid, .slice pA pn pc] 86)).drew := (hbel.alloc hbel.size _).drew
            have hszA := hbelA.size
            have HPL := Lib.hid (PilesValid_any pA pn pc pps (wr.alloc (.cells #[.int .i64 pid, .slice pA pn pc] 86)).drew HP.out.1.len (by have e := HP.out.1.len; have e2 := HP.out.2.1; simp only at e e2; omega) HP.out.2.2 ((HP.out.1.row.below hbelA).more hbelA.size))
            go_wp2_with fail
            refine wp_region_held_drew (S := (fun W : World => W.cell? ⟨wr.heap.size, 0, none⟩ = some (.int .i64 pid) ∧ W.cell? ⟨wr.heap.size, 1, none⟩ = some (.slice pA pn pc) ∧ W.cell? ⟨b, off + j * 2, none⟩ = some (.int .i64 qid))) (by kernel_rfl) ⟨HS0.out, HS1.out, HS2.out⟩ (fun HS => ?_)
            refine seq_take (i := 0) (v := ?_) rfl (by kernel_rfl) (by kernel_rfl) (by kernel_rfl) (fun _ _ _ h => h) (by rfl) ?_ HS ?_
            rotate_left
            · intro W hW
              try dsimp only at hW
              obtain ⟨y0, y1, y2⟩ := hW
              (go_simp <;> first | done | with_reducible rfl)
            try simp only [Act.put, List.setIfInBounds_toArray, List.set_cons_zero, List.set_cons_succ]
            refine seq_take (i := 1) (v := ?_) rfl (by kernel_rfl) (by kernel_rfl) (by kernel_rfl) (fun _ _ _ h => h) (by rfl) ?_ HS ?_
            rotate_left
            · intro W hW
              try dsimp only at hW
              obtain ⟨y0, y1, y2⟩ := hW
              (go_simp <;> first | done | with_reducible rfl)
            try simp only [Act.put, List.setIfInBounds_toArray, List.set_cons_zero, List.set_cons_succ]
            refine seq_take (i := 2) (v := ?_) rfl (by kernel_rfl) (by kernel_rfl) (by kernel_rfl) (fun _ _ _ h => h) (by rfl) ?_ HS ?_
            rotate_left
            · intro W hW
              try dsimp only at hW
              obtain ⟨y0, y1, y2⟩ := hW
              (go_simp <;> first | done | with_reducible rfl)
            try simp only [Act.put, List.setIfInBounds_toArray, List.set_cons_zero, List.set_cons_succ]
            refine seq_take (i := 3) (v := ?_) rfl (by kernel_rfl) (by kernel_rfl) (by kernel_rfl) (fun _ _ _ h => h) (by rfl) ?_ HS ?_
            rotate_left
            · intro W hW
              try dsimp only at hW
              obtain ⟨y0, y1, y2⟩ := hW
              (go_simp <;> first | done | with_reducible rfl)
            try simp only [Act.put, List.setIfInBounds_toArray, List.set_cons_zero, List.set_cons_succ]
            refine seq_take (i := 4) (v := ?_) rfl (by kernel_rfl) (by kernel_rfl) (by kernel_rfl) (fun _ _ _ h => h) (by rfl) ?_ HS ?_
            rotate_left
            · intro W hW
              try dsimp only at hW
              obtain ⟨y0, y1, y2⟩ := hW
              (go_simp <;> first | done | with_reducible rfl)
            try simp only [Act.put, List.setIfInBounds_toArray, List.set_cons_zero, List.set_cons_succ]
            refine seq_take (i := 5) (v := ?_) rfl (by kernel_rfl) (by kernel_rfl) (by kernel_rfl) (fun _ _ _ h => h) (by rfl) ?_ HS ?_
            rotate_left
            · intro W hW
              try dsimp only at hW
              obtain ⟨y0, y1, y2⟩ := hW
              (go_simp <;> first | done | with_reducible rfl)
            try simp only [Act.put, List.setIfInBounds_toArray, List.set_cons_zero, List.set_cons_succ]
            refine seq_take (i := 6) (v := ?_) rfl (by kernel_rfl) (by kernel_rfl) (by kernel_rfl) (fun _ _ _ h => h) (by rfl) ?_ HS ?_
            rotate_left
            · intro W hW
              try dsimp only at hW
              obtain ⟨y0, y1, y2⟩ := hW
              (go_simp <;> first | done | with_reducible rfl)
            try simp only [Act.put, List.setIfInBounds_toArray, List.set_cons_zero, List.set_cons_succ]
            refine seq_take (i := 7) (v := ?_) rfl (by kernel_rfl) (by kernel_rfl) (by kernel_rfl) (fun _ _ _ h => h) (by rfl) ?_ HS ?_
            rotate_left
            · intro W hW
              try dsimp only at hW
              obtain ⟨y0, y1, y2⟩ := hW
              (go_simp <;> first | done | with_reducible rfl)
            try simp only [Act.put, List.setIfInBounds_toArray, List.set_cons_zero, List.set_cons_succ]
            refine seq_take (i := 8) (v := ?_) rfl (by kernel_rfl) (by kernel_rfl) (by kernel_rfl) (fun _ _ _ h => h) (by rfl) ?_ HS ?_
            rotate_left
            · intro W hW
              try dsimp only at hW
              obtain ⟨y0, y1, y2⟩ := hW
              (go_simp <;> first | done | with_reducible rfl)
            try simp only [Act.put, List.setIfInBounds_toArray, List.set_cons_zero, List.set_cons_succ]
            refine seq_take (i := 9) (v := ?_) rfl (by kernel_rfl) (by kernel_rfl) (by kernel_rfl) (fun _ _ _ h => h) (by rfl) ?_ HS ?_
            rotate_left
            · intro W hW
              try dsimp only at hW
              obtain ⟨y0, y1, y2⟩ := hW
              (go_simp <;> first | done | with_reducible rfl)
            try simp only [Act.put, List.setIfInBounds_toArray, List.set_cons_zero, List.set_cons_succ]
            refine seq_take (i := 10) (v := ?_) rfl (by kernel_rfl) (by kernel_rfl) (by kernel_rfl) (fun _ _ _ h => h) (by rfl) ?_ HS ?_
            rotate_left
            · intro W hW
              try dsimp only at hW
              obtain ⟨y0, y1, y2⟩ := hW
              (go_simp <;> first | done | with_reducible rfl)
            try simp only [Act.put, List.setIfInBounds_toArray, List.set_cons_zero, List.set_cons_succ]
            refine seq_call (i := 11) rfl (by kernel_rfl) (by rfl) (fun K hK => ?_)
            go_simp
            go_at_call 68
            refine HPL.out.mono ?_
            rintro e w2 ⟨rfl, hb2⟩
            rw [hq]
            have hbel2 : Below w.heap.size w w2 := hbelA.trans (hb2.mono hszA)
            have x0 := (hb2.cell (p := ⟨wr.heap.size, 0, none⟩) (by simp)).trans HS0.out
            have x1 := (hb2.cell (p := ⟨wr.heap.size, 1, none⟩) (by simp)).trans HS1.out
            have x2 := (hb2.cell (p := ⟨b, off + j * 2, none⟩) (by simp; omega)).trans HS2.out
            clear hb2
            go_wp2_with fail
            refine hK.out _ _ ⟨x0, x1, x2⟩ (fun HS2 => ?_)
            clear hK K HS
            have HS := HS2
            clear HS2
            try simp only [Act.put, List.setIfInBounds_toArray, List.set_cons_zero, List.set_cons_succ]
            refine seq_take (i := 12) (v := ?_) rfl (by kernel_rfl) (by kernel_rfl) (by kernel_rfl) (fun _ _ _ h => h) (by rfl) ?_ HS ?_
            rotate_left
            · intro W hW
              try dsimp only at hW
              obtain ⟨y0, y1, y2⟩ := hW
              (go_simp <;> first | done | with_reducible rfl)
            try simp only [Act.put, List.setIfInBounds_toArray, List.set_cons_zero, List.set_cons_succ]
            refine seq_take (i := 13) (v := ?_) rfl (by kernel_rfl) (by kernel_rfl) (by kernel_rfl) (fun _ _ _ h => h) (by rfl) ?_ HS ?_
            rotate_left
            · intro W hW
              try dsimp only at hW
              obtain ⟨y0, y1, y2⟩ := hW
              (go_simp <;> first | done | with_reducible rfl)
            try simp only [Act.put, List.setIfInBounds_toArray, List.set_cons_zero, List.set_cons_succ]
            refine seq_take (i := 14) (v := ?_) rfl (by kernel_rfl) (by kernel_rfl) (by kernel_rfl) (fun _ _ _ h => h) (by rfl) ?_ HS ?_
            rotate_left
            · intro W hW
              try dsimp only at hW
              obtain ⟨y0, y1, y2⟩ := hW
              (go_simp <;> first | done | with_reducible rfl)
            try simp only [Act.put, List.setIfInBounds_toArray, List.set_cons_zero, List.set_cons_succ]
            refine seq_take (i := 15) (v := ?_) rfl (by kernel_rfl) (by kernel_rfl) (by kernel_rfl) (fun _ _ _ h => h) (by rfl) ?_ HS ?_
            rotate_left
            · intro W hW
              try dsimp only at hW
              obtain ⟨y0, y1, y2⟩ := hW
              (go_simp <;> first | done | with_reducible rfl)
            try simp only [Act.put, List.setIfInBounds_toArray, List.set_cons_zero, List.set_cons_succ]
            refine seq_take (i := 16) (v := ?_) rfl (by kernel_rfl) (by kernel_rfl) (by kernel_rfl) (fun _ _ _ h => h) (by rfl) ?_ HS ?_
            rotate_left
            · intro W hW
              try dsimp only at hW
              obtain ⟨y0, y1, y2⟩ := hW
              (go_simp <;> first | done | with_reducible rfl)
            try simp only [Act.put, List.setIfInBounds_toArray, List.set_cons_zero, List.set_cons_succ]
            refine seq_take (i := 17) (v := ?_) rfl (by kernel_rfl) (by kernel_rfl) (by kernel_rfl) (fun _ _ _ h => h) (by rfl) ?_ HS ?_
            rotate_left
            · intro W hW
              try dsimp only at hW
              obtain ⟨y0, y1, y2⟩ := hW
              (go_simp <;> first | done | with_reducible rfl)
            try simp only [Act.put, List.setIfInBounds_toArray, List.set_cons_zero, List.set_cons_succ]
            refine seq_take (i := 18) (v := ?_) rfl (by kernel_rfl) (by kernel_rfl) (by kernel_rfl) (fun _ _ _ h => h) (by rfl) ?_ HS ?_
            rotate_left
            · intro W hW
              try dsimp only at hW
              obtain ⟨y0, y1, y2⟩ := hW
              (go_simp <;> first | done | with_reducible rfl)
            try simp only [Act.put, List.setIfInBounds_toArray, List.set_cons_zero, List.set_cons_succ]
            refine seq_take (i := 19) (v := ?_) rfl (by kernel_rfl) (by kernel_rfl) (by kernel_rfl) (fun _ _ _ h => h) (by rfl) ?_ HS ?_
            rotate_left
            · intro W hW
              try dsimp only at hW
              obtain ⟨y0, y1, y2⟩ := hW
              (go_simp <;> first | done | with_reducible rfl)
            try simp only [Act.put, List.setIfInBounds_toArray, List.set_cons_zero, List.set_cons_succ]
            refine seq_take (i := 20) (v := ?_) rfl (by kernel_rfl) (by kernel_rfl) (by kernel_rfl) (fun _ _ _ h => h) (by rfl) ?_ HS ?_
            rotate_left
            · intro W hW
              try dsimp only at hW
              obtain ⟨y0, y1, y2⟩ := hW
              (go_simp <;> first | done | with_reducible rfl)
            try simp only [Act.put, List.setIfInBounds_toArray, List.set_cons_zero, List.set_cons_succ]
            refine seq_take (i := 21) (v := ?_) rfl (by kernel_rfl) (by kernel_rfl) (by kernel_rfl) (fun _ _ _ h => h) (by rfl) ?_ HS ?_
            rotate_left
            · intro W hW
              try dsimp only at hW
              obtain ⟨y0, y1, y2⟩ := hW
              (go_simp <;> first | done | with_reducible rfl)
            try simp only [Act.put, List.setIfInBounds_toArray, List.set_cons_zero, List.set_cons_succ]
            refine seq_take (i := 22) (v := ?_) rfl (by kernel_rfl) (by kernel_rfl) (by kernel_rfl) (fun _ _ _ h => h) (by rfl) ?_ HS ?_
            rotate_left
            · intro W hW
              try dsimp only at hW
              obtain ⟨y0, y1, y2⟩ := hW
              (go_simp <;> first | done | with_reducible rfl)
            try simp only [Act.put, List.setIfInBounds_toArray, List.set_cons_zero, List.set_cons_succ]
            refine seq_take (i := 23) (v := ?_) rfl (by kernel_rfl) (by kernel_rfl) (by kernel_rfl) (fun _ _ _ h => h) (by rfl) ?_ HS ?_
            rotate_left
            · intro W hW
              try dsimp only at hW
              obtain ⟨y0, y1, y2⟩ := hW
              (go_simp <;> first | done | with_reducible rfl)
            try simp only [Act.put, List.setIfInBounds_toArray, List.set_cons_zero, List.set_cons_succ]
            refine seq_take (i := 24) (v := ?_) rfl (by kernel_rfl) (by kernel_rfl) (by kernel_rfl) (fun _ _ _ h => h) (by rfl) ?_ HS ?_
            rotate_left
            · intro W hW
              try dsimp only at hW
              obtain ⟨y0, y1, y2⟩ := hW
              (go_simp <;> first | done | with_reducible rfl)
            try simp only [Act.put, List.setIfInBounds_toArray, List.set_cons_zero, List.set_cons_succ]
            refine seq_take (i := 25) (v := ?_) rfl (by kernel_rfl) (by kernel_rfl) (by kernel_rfl) (fun _ _ _ h => h) (by rfl) ?_ HS ?_
            rotate_left
            · intro W hW
              try dsimp only at hW
              obtain ⟨y0, y1, y2⟩ := hW
              (go_simp <;> first | done | with_reducible rfl)
            try simp only [Act.put, List.setIfInBounds_toArray, List.set_cons_zero, List.set_cons_succ]
            refine seq_take (i := 26) (v := ?_) rfl (by kernel_rfl) (by kernel_rfl) (by kernel_rfl) (fun _ _ _ h => h) (by rfl) ?_ HS ?_
            rotate_left
            · intro W hW
              try dsimp only at hW
              obtain ⟨y0, y1, y2⟩ := hW
              (go_simp <;> first | done | with_reducible rfl)
            try simp only [Act.put, List.setIfInBounds_toArray, List.set_cons_zero, List.set_cons_succ]
            refine seq_take (i := 27) (v := ?_) rfl (by kernel_rfl) (by kernel_rfl) (by kernel_rfl) (fun _ _ _ h => h) (by rfl) ?_ HS ?_
            rotate_left
            · intro W hW
              try dsimp only at hW
              obtain ⟨y0, y1, y2⟩ := hW
              (go_simp <;> first | done | with_reducible rfl)
            try simp only [Act.put, List.setIfInBounds_toArray, List.set_cons_zero, List.set_cons_succ]
            refine seq_take (i := 28) (v := ?_) rfl (by kernel_rfl) (by kernel_rfl) (by kernel_rfl) (fun _ _ _ h => h) (by rfl) ?_ HS ?_
            rotate_left
            · intro W hW
              try dsimp only at hW
              obtain ⟨y0, y1, y2⟩ := hW
              (go_simp <;> first | done | with_reducible rfl)
            try simp only [Act.put, List.setIfInBounds_toArray, List.set_cons_zero, List.set_cons_succ]
            refine wpAnyH_done (by kernel_rfl) ?_ _
            clear HS
            clear v1 v3
            clear hbelA
            clear hq
            go_wp2_with fail
            go_ret
            exact ⟨ret_bool HQ.out.symm, hbel2⟩
    · have HE : Hid (pcsB (l.map core) = decide ((n : Int) ≤ 6)) := by
        show _ = _
        have h1 := HX.out
        have : k = (l.map core).length := by rw [List.length_map, HN.out]; omega
        rw [this] at h1
        rw [pcsB_all h1, List.length_map, HN.out]
      clear ha'
      go_wp2_with fail
      go_ret
      exact ⟨ret_bool HE.out.symm, hbel⟩

end Go.Proofs.Ytkpgbombikgffaa
