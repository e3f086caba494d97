/- The sum of rows place by place: what together of the program and l24Votes of the reference return. The conditions stand in each theorem. -/
import Derived.Test.YtjanmgiliooocaaE4
import Derived.Test.YtjanmgiliooocaaSeq
namespace Go.Proofs.Ytjanmgiliooocaa
open Go.RowKit Go.ChangeShapes
open Man
set_option linter.unusedVariables false

/-- A row in a new block that reads as the list. -/
def Summed (w : World) (n : Nat) (zs : List Int) (e : Ending) (w' : World) : Prop :=
  e = .returned (.slice (some ⟨w.heap.size, 0, none⟩) n n) ∧ OwnI w' w.heap.size (.slice (some ⟨w.heap.size, 0, none⟩) n n) n zs ∧ Below w.heap.size w w'

set_option maxHeartbeats 4000000 in
theorem together_any (A : Option Addr) (N C n : Nat) (rs : List Sl) (w : World) (hN : rs.length = N) (hN1 : 1 ≤ N) (hN4 : N ≤ 4) (hn : n ≤ 1048576) (hw : ∀ r ∈ rs, r.zs.length = n ∧ ∀ z ∈ r.zs, 0 ≤ z ∧ z ≤ 99) (ha : Mat w w.heap.size A rs) :
    Calls Try.prog 23 #[.slice A N C] w (Summed w n (tog n (vals rs))) := by
  have hmk := make_ints n hn
  have h00 : 0 < rs.length := by omega
  obtain ⟨b, off, rfl, hbw, hc0⟩ := ha.at_ h00
  have hr0 := (ha.row _ (List.getElem_mem h00)).len
  rw [(hw _ (List.getElem_mem h00)).1] at hr0
  rw [← hr0, Nat.add_zero] at hc0
  have HN := Lib.hid hN
  have HW := Lib.hid hw
  have HM := Lib.hid ha
  have HB := Lib.hid (tog_bd (n := n) (rows := vals rs) (fun r hr z hz => by
    obtain ⟨x, hx, rfl⟩ := List.mem_map.1 hr
    exact (hw x hx).2 z hz))
  generalize rs[0].A = A0 at *
  generalize rs[0].c = C0 at *
  have hown0 := OwnI.made w w.heap.size n (Nat.le_refl _) hn
  have hb0 : Below w.heap.size w (w.alloc (.cells (madeCells #[Value.int .i64 0] n) 3)) := (Below.refl _ _).alloc (Nat.le_refl _) _
  have hsz0 : w.heap.size < (w.alloc (.cells (madeCells #[Value.int .i64 0] n) 3)).heap.size := by simp
  clear hN hw ha hr0
  go_enter Try.func23, Try.ntmps23
  go_wp2_with fail
  clear hmk hc0
  go_loopw [15] (fun i wx => ∃ k : Nat, k ≤ N ∧ i = .int .i64 k ∧ Below w.heap.size w wx ∧ w.heap.size < wx.heap.size ∧ OwnI wx w.heap.size (.slice (some ⟨w.heap.size, 0, none⟩) n n) n (tog n ((vals rs).take k))) (fun i _ => N - (intOf i).toNat)
  case atStart => exact ⟨0, Nat.zero_le _, rfl, hb0, hsz0, hown0⟩
  case round =>
    clear hown0 hb0 hsz0
    obtain ⟨k, hk, rfl, hbel, hlt0, hown⟩ := hrel
    by_cases hlt : k < N
    · have hl : k < rs.length := by rw [HN.out]; exact hlt
      have hl' : k < (vals rs).length := by rw [vals_len]; exact hl
      have HT := Lib.hid (tog_snoc n (vals rs) k hl')
      rw [vals_at rs k hl] at HT
      have hTb := HB.out k (by omega)
      have HO := HM.out.row _ (List.getElem_mem hl)
      have HZ := HW.out _ (List.getElem_mem hl)
      have HCE : Hid (∀ W, Below w.heap.size w W → W.cell? ⟨b, off + k, none⟩ = some (.slice rs[k].A rs[k].n rs[k].c)) := fun W hW => (HM.out.below hW).cellOf hl
      generalize rs[k] = r at *
      obtain ⟨rA, rn, rc, rz⟩ := r
      simp only at HT HO HZ HCE
      obtain ⟨o1, o2, o3, o4, hrow⟩ := HO
      simp only at o1 o2 o3 o4 hrow
      obtain ⟨z1, hzb⟩ := HZ
      obtain rfl : rn = n := by omega
      have HZL := Lib.hid z1
      have HZB := Lib.hid hzb
      have HTL := Lib.hid hown.len
      have HT4 : Hid (∀ z ∈ tog rn ((vals rs).take k), 0 ≤ z ∧ z ≤ 396) := fun z hz => by have := hTb z hz; omega
      generalize hT2 : tog rn ((vals rs).take (k + 1)) = T2 at *
      have HT2 := Lib.hid hT2
      generalize tog rn ((vals rs).take k) = T at *
      have hcr := HCE.out _ hbel
      clear o1 z1 hzb hTb hT2
      go_wp2_with fail
      go_loopw [21] (fun j wx => ∃ q : Nat, q ≤ rn ∧ j = .int .i64 q ∧ Below w.heap.size w wx ∧ w.heap.size < wx.heap.size ∧ OwnI wx w.heap.size (.slice (some ⟨w.heap.size, 0, none⟩) rn rn) rn (addK T rz q)) (fun j _ => rn - (intOf j).toNat)
      case atStart => exact ⟨0, Nat.zero_le _, rfl, hbel, hlt0, by rw [addK_zero]; exact hown⟩
      case round =>
        clear hown hbel hlt0 hcr
        obtain ⟨q, hq, rfl, hbel2, hlt2, hown2⟩ := hrel
        by_cases hq2 : q < rn
        · have hl1 : q < T.length := by rw [HTL.out]; exact hq2
          have hl2 : q < rz.length := by rw [HZL.out]; exact hq2
          have hq3 : q < (addK T rz q).length := by rw [addK_len]; exact hl1
          obtain ⟨rb, roff, rfl, hrb, _⟩ := int_at hrow hl2
          have HC2 : Hid (∀ W, Below w.heap.size w W → W.cell? ⟨rb, roff + q, none⟩ = some (.int .i64 rz[q])) := fun W hW => by
            have := (hrow.below hW).cellOf (k := q) (by simpa using hl2)
            simpa using this
          have hx : wr.cell? ⟨w.heap.size, q, none⟩ = some (.int .i64 T[q]) := by rw [hown2.cell hq3, addK_at]
          have hfr := hown2.frozen q
          have HS2 := Lib.hid (addK_step T rz q hl1 hl2)
          have HO2 := Lib.hid (hown2.set q (T[q] + rz[q]))
          have x1 := HT4.out _ (List.getElem_mem hl1)
          have x2 := HZB.out _ (List.getElem_mem hl2)
          clear hown2
          rw [HS2.out] at HO2
          clear HS2
          generalize T[q] = x at *
          generalize rz[q] = y at *
          have hy := HC2.out _ hbel2
          go_wp2_with fail
          go_roundw
          case rel => exact ⟨q + 1, by omega, by go_num, hbel2.setCell (Nat.le_refl _) _, by simp; omega, HO2.out⟩
          case measure => simp [intOf]; omega
        · obtain rfl : q = rn := by omega
          have HT3 : Hid (addK T rz q = T2) := by
            show _ = _
            rw [addK_all _ _ _ (by rw [HTL.out]; exact Nat.le_refl _), HT.out]
          go_wp2_with fail
          go_roundw
          case rel => exact ⟨k + 1, by omega, by go_num, hbel2, hlt2, by rw [HT2.out, ← HT3.out]; exact hown2⟩
          case measure => simp [intOf]; omega
    · obtain rfl : k = N := by omega
      have HQ : Hid (tog n ((vals rs).take k) = tog n (vals rs)) := by
        show _ = _
        rw [List.take_of_length_le (by rw [vals_len, HN.out]; exact Nat.le_refl _)]
      go_wp2_with fail
      go_ret
      exact ⟨rfl, by rw [← HQ.out]; exact hown, hbel⟩

set_option maxHeartbeats 4000000 in
theorem l24Votes_any (A : Option Addr) (N C n : Nat) (rs : List Sl) (w : World) (hN : rs.length = N) (hN1 : 1 ≤ N) (hN4 : N ≤ 4) (hn : n ≤ 1048576) (hw : ∀ r ∈ rs, r.zs.length = n ∧ ∀ z ∈ r.zs, 0 ≤ z ∧ z ≤ 99) (ha : Mat w w.heap.size A rs) :
    Calls Try.prog 29 #[.slice A N C] w (Summed w n (tog n (vals rs))) := by
  have hmk := make_ints n hn
  have h00 : 0 < rs.length := by omega
  obtain ⟨b, off, rfl, hbw, hc0⟩ := ha.at_ h00
  have hr0 := (ha.row _ (List.getElem_mem h00)).len
  rw [(hw _ (List.getElem_mem h00)).1] at hr0
  rw [← hr0, Nat.add_zero] at hc0
  have HN := Lib.hid hN
  have HW := Lib.hid hw
  have HM := Lib.hid ha
  have HB := Lib.hid (tog_bd (n := n) (rows := vals rs) (fun r hr z hz => by
    obtain ⟨x, hx, rfl⟩ := List.mem_map.1 hr
    exact (hw x hx).2 z hz))
  generalize rs[0].A = A0 at *
  generalize rs[0].c = C0 at *
  have hown0 := OwnI.made w w.heap.size n (Nat.le_refl _) hn
  have hb0 : Below w.heap.size w (w.alloc (.cells (madeCells #[Value.int .i64 0] n) 3)) := (Below.refl _ _).alloc (Nat.le_refl _) _
  have hsz0 : w.heap.size < (w.alloc (.cells (madeCells #[Value.int .i64 0] n) 3)).heap.size := by simp
  clear hN hw ha hr0
  go_enter Try.func29, Try.ntmps29
  go_wp2_with fail
  clear hmk hc0
  go_loopw [4] (fun i wx => ∃ k : Nat, k ≤ N ∧ i = .int .i64 k ∧ Below w.heap.size w wx ∧ w.heap.size < wx.heap.size ∧ OwnI wx w.heap.size (.slice (some ⟨w.heap.size, 0, none⟩) n n) n (tog n ((vals rs).take k))) (fun i _ => N - (intOf i).toNat)
  case atStart => exact ⟨0, Nat.zero_le _, rfl, hb0, hsz0, hown0⟩
  case round =>
    clear hown0 hb0 hsz0
    obtain ⟨k, hk, rfl, hbel, hlt0, hown⟩ := hrel
    by_cases hlt : k < N
    · have hl : k < rs.length := by rw [HN.out]; exact hlt
      have hl' : k < (vals rs).length := by rw [vals_len]; exact hl
      have HT := Lib.hid (tog_snoc n (vals rs) k hl')
      rw [vals_at rs k hl] at HT
      have hTb := HB.out k (by omega)
      have HO := HM.out.row _ (List.getElem_mem hl)
      have HZ := HW.out _ (List.getElem_mem hl)
      have HCE : Hid (∀ W, Below w.heap.size w W → W.cell? ⟨b, off + k, none⟩ = some (.slice rs[k].A rs[k].n rs[k].c)) := fun W hW => (HM.out.below hW).cellOf hl
      generalize rs[k] = r at *
      obtain ⟨rA, rn, rc, rz⟩ := r
      simp only at HT HO HZ HCE
      obtain ⟨o1, o2, o3, o4, hrow⟩ := HO
      simp only at o1 o2 o3 o4 hrow
      obtain ⟨z1, hzb⟩ := HZ
      obtain rfl : rn = n := by omega
      have HZL := Lib.hid z1
      have HZB := Lib.hid hzb
      have HTL := Lib.hid hown.len
      have HT4 : Hid (∀ z ∈ tog rn ((vals rs).take k), 0 ≤ z ∧ z ≤ 396) := fun z hz => by have := hTb z hz; omega
      generalize hT2 : tog rn ((vals rs).take (k + 1)) = T2 at *
      have HT2 := Lib.hid hT2
      generalize tog rn ((vals rs).take k) = T at *
      have hcr := HCE.out _ hbel
      clear o1 z1 hzb hTb hT2
      go_wp2_with fail
      go_loopw [5] (fun j wx => ∃ q : Nat, q ≤ rn ∧ j = .int .i64 q ∧ Below w.heap.size w wx ∧ w.heap.size < wx.heap.size ∧ OwnI wx w.heap.size (.slice (some ⟨w.heap.size, 0, none⟩) rn rn) rn (addK T rz q)) (fun j _ => rn - (intOf j).toNat)
      case atStart => exact ⟨0, Nat.zero_le _, rfl, hbel, hlt0, by rw [addK_zero]; exact hown⟩
      case round =>
        clear hown hbel hlt0 hcr
        obtain ⟨q, hq, rfl, hbel2, hlt2, hown2⟩ := hrel
        by_cases hq2 : q < rn
        · have hl1 : q < T.length := by rw [HTL.out]; exact hq2
          have hl2 : q < rz.length := by rw [HZL.out]; exact hq2
          have hq3 : q < (addK T rz q).length := by rw [addK_len]; exact hl1
          obtain ⟨rb, roff, rfl, hrb, _⟩ := int_at hrow hl2
          have HC2 : Hid (∀ W, Below w.heap.size w W → W.cell? ⟨rb, roff + q, none⟩ = some (.int .i64 rz[q])) := fun W hW => by
            have := (hrow.below hW).cellOf (k := q) (by simpa using hl2)
            simpa using this
          have hx : wr.cell? ⟨w.heap.size, q, none⟩ = some (.int .i64 T[q]) := by rw [hown2.cell hq3, addK_at]
          have hfr := hown2.frozen q
          have HS2 := Lib.hid (addK_step T rz q hl1 hl2)
          have HO2 := Lib.hid (hown2.set q (T[q] + rz[q]))
          have x1 := HT4.out _ (List.getElem_mem hl1)
          have x2 := HZB.out _ (List.getElem_mem hl2)
          clear hown2
          rw [HS2.out] at HO2
          clear HS2
          generalize T[q] = x at *
          generalize rz[q] = y at *
          go_wp2_with fail
          refine wp_region_held_drew (S := (fun W : World => Below w.heap.size w W)) (by kernel_rfl) hbel2.drew (fun HS => ?_)
          refine seq_take (i := 0) (v := ?_) rfl (by kernel_rfl) (by kernel_rfl) (by kernel_rfl) (fun _ _ _ h => h) (by rfl) ?_ HS ?_
          rotate_left
          · intro W hW
            try dsimp only at hW
            have y1 := HCE.out W hW; have y2 := HC2.out W hW
            (go_simp <;> first | done | with_reducible rfl)
          try simp only [Act.put, List.setIfInBounds_toArray, List.set_cons_zero, List.set_cons_succ]
          refine seq_take (i := 1) (v := ?_) rfl (by kernel_rfl) (by kernel_rfl) (by kernel_rfl) (fun _ _ _ h => h) (by rfl) ?_ HS ?_
          rotate_left
          · intro W hW
            try dsimp only at hW
            have y1 := HCE.out W hW; have y2 := HC2.out W hW
            (go_simp <;> first | done | with_reducible rfl)
          try simp only [Act.put, List.setIfInBounds_toArray, List.set_cons_zero, List.set_cons_succ]
          refine seq_take (i := 2) (v := ?_) rfl (by kernel_rfl) (by kernel_rfl) (by kernel_rfl) (fun _ _ _ h => h) (by rfl) ?_ HS ?_
          rotate_left
          · intro W hW
            try dsimp only at hW
            have y1 := HCE.out W hW; have y2 := HC2.out W hW
            (go_simp <;> first | done | with_reducible rfl)
          try simp only [Act.put, List.setIfInBounds_toArray, List.set_cons_zero, List.set_cons_succ]
          refine seq_take (i := 3) (v := ?_) rfl (by kernel_rfl) (by kernel_rfl) (by kernel_rfl) (fun _ _ _ h => h) (by rfl) ?_ HS ?_
          rotate_left
          · intro W hW
            try dsimp only at hW
            have y1 := HCE.out W hW; have y2 := HC2.out W hW
            (go_simp <;> first | done | with_reducible rfl)
          try simp only [Act.put, List.setIfInBounds_toArray, List.set_cons_zero, List.set_cons_succ]
          refine seq_take (i := 4) (v := ?_) rfl (by kernel_rfl) (by kernel_rfl) (by kernel_rfl) (fun _ _ _ h => h) (by rfl) ?_ HS ?_
          rotate_left
          · intro W hW
            try dsimp only at hW
            have y1 := HCE.out W hW; have y2 := HC2.out W hW
            (go_simp <;> first | done | with_reducible rfl)
          try simp only [Act.put, List.setIfInBounds_toArray, List.set_cons_zero, List.set_cons_succ]
          refine seq_take (i := 6) (v := ?_) rfl (by kernel_rfl) (by kernel_rfl) (by kernel_rfl) (fun _ _ _ h => h) (by rfl) ?_ HS ?_
          rotate_left
          · intro W hW
            try dsimp only at hW
            have y1 := HCE.out W hW; have y2 := HC2.out W hW
            (go_simp <;> first | done | with_reducible rfl)
          try simp only [Act.put, List.setIfInBounds_toArray, List.set_cons_zero, List.set_cons_succ]
          refine seq_take (i := 7) (v := ?_) rfl (by kernel_rfl) (by kernel_rfl) (by kernel_rfl) (fun _ _ _ h => h) (by rfl) ?_ HS ?_
          rotate_left
          · intro W hW
            try dsimp only at hW
            have y1 := HCE.out W hW; have y2 := HC2.out W hW
            (go_simp <;> first | done | with_reducible rfl)
          try simp only [Act.put, List.setIfInBounds_toArray, List.set_cons_zero, List.set_cons_succ]
          refine seq_take (i := 8) (v := ?_) rfl (by kernel_rfl) (by kernel_rfl) (by kernel_rfl) (fun _ _ _ h => h) (by rfl) ?_ HS ?_
          rotate_left
          · intro W hW
            try dsimp only at hW
            have y1 := HCE.out W hW; have y2 := HC2.out W hW
            (go_simp <;> first | done | with_reducible rfl)
          try simp only [Act.put, List.setIfInBounds_toArray, List.set_cons_zero, List.set_cons_succ]
          refine seq_take (i := 9) (v := ?_) rfl (by kernel_rfl) (by kernel_rfl) (by kernel_rfl) (fun _ _ _ h => h) (by rfl) ?_ HS ?_
          rotate_left
          · intro W hW
            try dsimp only at hW
            have y1 := HCE.out W hW; have y2 := HC2.out W hW
            (go_simp <;> first | done | with_reducible rfl)
          try simp only [Act.put, List.setIfInBounds_toArray, List.set_cons_zero, List.set_cons_succ]
          refine seq_take (i := 10) (v := ?_) rfl (by kernel_rfl) (by kernel_rfl) (by kernel_rfl) (fun _ _ _ h => h) (by rfl) ?_ HS ?_
          rotate_left
          · intro W hW
            try dsimp only at hW
            have y1 := HCE.out W hW; have y2 := HC2.out W hW
            (go_simp <;> first | done | with_reducible rfl)
          try simp only [Act.put, List.setIfInBounds_toArray, List.set_cons_zero, List.set_cons_succ]
          refine seq_take (i := 11) (v := ?_) rfl (by kernel_rfl) (by kernel_rfl) (by kernel_rfl) (fun _ _ _ h => h) (by rfl) ?_ HS ?_
          rotate_left
          · intro W hW
            try dsimp only at hW
            have y1 := HCE.out W hW; have y2 := HC2.out W hW
            (go_simp <;> first | done | with_reducible rfl)
          try simp only [Act.put, List.setIfInBounds_toArray, List.set_cons_zero, List.set_cons_succ]
          refine seq_take (i := 12) (v := ?_) rfl (by kernel_rfl) (by kernel_rfl) (by kernel_rfl) (fun _ _ _ h => h) (by rfl) ?_ HS ?_
          rotate_left
          · intro W hW
            try dsimp only at hW
            have y1 := HCE.out W hW; have y2 := HC2.out W hW
            (go_simp <;> first | done | with_reducible rfl)
          try simp only [Act.put, List.setIfInBounds_toArray, List.set_cons_zero, List.set_cons_succ]
          refine seq_call (i := 5) rfl (by kernel_rfl) (by rfl) (fun K hK => ?_)
          go_simp
          refine hK.out _ _ HS (fun HS2 => ?_)
          clear hK K HS
          have HS := HS2
          clear HS2
          try simp only [Act.put, List.setIfInBounds_toArray, List.set_cons_zero, List.set_cons_succ]
          refine seq_take (i := 13) (v := ?_) rfl (by kernel_rfl) (by kernel_rfl) (by kernel_rfl) (fun _ _ _ h => h) (by rfl) ?_ HS ?_
          rotate_left
          · intro W hW
            try dsimp only at hW
            have y1 := HCE.out W hW; have y2 := HC2.out W hW
            (go_simp <;> first | done | with_reducible rfl)
          try simp only [Act.put, List.setIfInBounds_toArray, List.set_cons_zero, List.set_cons_succ]
          refine seq_take (i := 14) (v := ?_) rfl (by kernel_rfl) (by kernel_rfl) (by kernel_rfl) (fun _ _ _ h => h) (by rfl) ?_ HS ?_
          rotate_left
          · intro W hW
            try dsimp only at hW
            have y1 := HCE.out W hW; have y2 := HC2.out W hW
            (go_simp <;> first | done | with_reducible rfl)
          try simp only [Act.put, List.setIfInBounds_toArray, List.set_cons_zero, List.set_cons_succ]
          refine seq_call (i := 15) rfl (by kernel_rfl) (by rfl) (fun K hK => ?_)
          go_simp
          refine hK.out _ _ (HS.setCell (Nat.le_refl _) _) (fun HS2 => ?_)
          clear hK K HS
          have HS := HS2
          clear HS2
          try simp only [Act.put, List.setIfInBounds_toArray, List.set_cons_zero, List.set_cons_succ]
          refine wpAnyH_done (by kernel_rfl) ?_ _
          clear HS
          go_wp2_with fail
          go_roundw
          case rel => exact ⟨q + 1, by omega, by go_num, hbel2.drew.setCell (Nat.le_refl _) _, by simp; omega, HO2.out⟩
          case measure => simp [intOf]; omega
        · obtain rfl : q = rn := by omega
          have HT3 : Hid (addK T rz q = T2) := by
            show _ = _
            rw [addK_all _ _ _ (by rw [HTL.out]; exact Nat.le_refl _), HT.out]
          go_wp2_with fail
          go_roundw
          case rel => exact ⟨k + 1, by omega, by go_num, hbel2, hlt2, by rw [HT2.out, ← HT3.out]; exact hown2⟩
          case measure => simp [intOf]; omega
    · obtain rfl : k = N := by omega
      have HQ : Hid (tog n ((vals rs).take k) = tog n (vals rs)) := by
        show _ = _
        rw [List.take_of_length_le (by rw [vals_len, HN.out]; exact Nat.le_refl _)]
      go_wp2_with fail
      go_ret
      exact ⟨rfl, by rw [← HQ.out]; exact hown, hbel⟩

end Go.Proofs.Ytjanmgiliooocaa
