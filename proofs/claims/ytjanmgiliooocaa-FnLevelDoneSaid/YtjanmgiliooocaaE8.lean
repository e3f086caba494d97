/- The seats of all districts: what l24Sum of the reference returns. The conditions stand in each theorem. -/
import Derived.Test.YtjanmgiliooocaaE7
namespace Go.Proofs.Ytjanmgiliooocaa
open Go.RowKit Go.ChangeShapes
open Man
set_option linter.unusedVariables false

theorem ap_at {rs : List Sl} {s me : Int} {lots : List Int} {k : Nat} (hk : k < rs.length) (h : sdB rs[k].zs s me lots = true) (n : Nat) : tog n ((apL (vals rs) s me lots).take (k + 1)) = addL (tog n ((apL (vals rs) s me lots).take k)) (sdL rs[k].zs s me lots) := by
  have hl : k < (apL (vals rs) s me lots).length := by simpa [apL, vals] using hk
  rw [tog_snoc n _ k hl, sdL_yes h]
  simp [apL, vals]
theorem sd_row {v : List Int} {s me : Int} {lots : List Int} (h : sdB v s me lots = true) : (sdL v s me lots).length = v.length ∧ ∀ z ∈ sdL v s me lots, 0 ≤ z ∧ z ≤ 20 := by
  obtain ⟨g1, g2, g3, g4, g5, g6⟩ := sdB_of h
  rw [sdL_yes h]
  have L := lots_of g5
  rw [g6] at L
  have S := alloc_seats (v := v) (me_one g4) L (seats_zeros v.length) s.toNat
  have hsum := alloc_sum (v := v) (me_one g4) L (seats_zeros v.length) s.toNat
  rw [sumI_zeros, Int.toNat_of_nonneg g2] at hsum
  exact ⟨S.len, mem_le_sum (seats_mem S) (by omega)⟩
theorem ap_bd {rs : List Sl} {s me : Int} {lots : List Int} (h : dsB (vals rs) s me lots = true) (n : Nat) : ∀ k, k ≤ rs.length → ∀ z ∈ tog n ((apL (vals rs) s me lots).take k), 0 ≤ z ∧ z ≤ 99 * (k : Int) :=
  fun k hk => tog_bd (n := n) (rows := apL (vals rs) s me lots) (fun r hr z hz => by have := (ap_len h r hr).2.1 z hz; omega) k (by simpa [apL, vals] using hk)

set_option maxHeartbeats 4000000 in
theorem l24Sum_any (A : Option Addr) (N C : Nat) (rs : List Sl) (s me : Int) (Lo : Option Addr) (l f : Nat) (lots : List Int) (w : World) (hB : dsB (vals rs) s me lots = true) (hN : rs.length = N) (ha : Mat w w.heap.size A rs)
    (hl0 : lots.length = l) (hl1 : l ≤ 1048576) (hf1 : l ≤ f) (hf2 : f ≤ maxLen) (hl : Row w w.heap.size Lo (lots.map (Value.int .i64))) :
    Calls Try.prog 27 #[.slice A N C, .int .i64 s, .int .i64 me, .slice Lo l f] w (Summed w l (givL (vals rs) s me lots)) := by
  have hmk := make_ints l hl1
  obtain ⟨g1, g2, g3, g4, g5, g6⟩ := dsB_of hB
  obtain ⟨d1, d2, d3, d4, d5⟩ := dv_rows g1
  rw [hN] at d1 d2
  rw [hl0] at g6
  have HWD := Lib.hid g6
  have HM := Lib.hid ha
  have HL := Lib.hid hl
  have HN := Lib.hid hN
  have HLL := Lib.hid hl0
  have HGOOD : Hid (∀ v ∈ vals rs, sdB v s me lots = true ∧ v.length = l) := fun v hv => by
    have := ds_row hB hv
    rw [← g6] at this
    exact this
  have HBD := Lib.hid (ap_bd hB l)
  have hln : 1 ≤ l := by omega
  have hown0 := OwnI.made w w.heap.size l (Nat.le_refl _) hl1
  have hb0 : Below w.heap.size w (w.alloc (.cells (madeCells #[Value.int .i64 0] l) 3)) := (Below.refl _ _).alloc (Nat.le_refl _) _
  have hsz0 : w.heap.size < (w.alloc (.cells (madeCells #[Value.int .i64 0] l) 3)).heap.size := by simp
  clear hN ha hl hl0 hB g1 g2 g3 g4 g5 g6 d3 d4 d5
  go_enter Try.func27, Try.ntmps27
  go_wp2_with fail
  clear hmk
  go_loopw [10] (fun i wx => ∃ k : Nat, k ≤ N ∧ i = .int .i64 k ∧ Below w.heap.size w wx ∧ w.heap.size < wx.heap.size ∧ OwnI wx w.heap.size (.slice (some ⟨w.heap.size, 0, none⟩) l l) l (tog l ((apL (vals rs) s me lots).take k))) (fun i _ => N - (intOf i).toNat)
  case atStart => exact ⟨0, Nat.zero_le _, rfl, hb0, hsz0, hown0⟩
  case round =>
    clear hown0 hb0 hsz0
    obtain ⟨k, hk, rfl, hbel, hlt0, hown⟩ := hrel
    by_cases hlt : k < N
    · have hl : k < rs.length := by rw [HN.out]; exact hlt
      obtain ⟨hv, hvl⟩ := HGOOD.out rs[k].zs (List.mem_map.2 ⟨_, List.getElem_mem hl, rfl⟩)
      have HT := Lib.hid (ap_at hl hv l)
      have hTb := HBD.out k (by omega)
      have HO := (HM.out.on hbel).row _ (List.getElem_mem hl)
      obtain ⟨b, off, rfl, hbw, hcr⟩ := (HM.out.below hbel).at_ hl
      generalize rs[k] = r at *
      obtain ⟨rA, rn, rc, rz⟩ := r
      obtain ⟨o1, o2, o3, o4, hrow⟩ := HO
      simp only at o1 o2 o3 o4 hrow hcr hv hvl HT
      obtain ⟨sr1, sr2⟩ := sd_row hv
      have HC2 := Lib.hid (sSeatsDivisor_yes rA rn rc rz s me Lo l f lots wr hv o1 HLL.out o4 hl1 hf1 hf2 hrow (HL.out.on hbel))
      have HOW := Lib.hid hown
      have HTL := Lib.hid hown.len
      have HZL : Hid ((sdL rz s me lots).length = l) := sr1.trans hvl
      have HZB := Lib.hid sr2
      have HT4 : Hid (∀ z ∈ tog l ((apL (vals rs) s me lots).take k), 0 ≤ z ∧ z ≤ 396) := fun z hz => by have := hTb z hz; omega
      generalize hT2 : tog l ((apL (vals rs) s me lots).take (k + 1)) = T2 at *
      have HT2 := Lib.hid hT2
      generalize tog l ((apL (vals rs) s me lots).take k) = T at *
      generalize sdL rz s me lots = zs at *
      clear o1 hTb hT2 sr1 sr2 hv hvl hrow hown
      go_wp2_with fail
      refine HC2.out.mono ?_
      rintro e w3 ⟨A3, k3, c3, rfl, h31, h32, h33, h34, hown3, hb3⟩
      have h31' : k3 = l := by rw [← h31, HZL.out]
      subst h31'
      obtain ⟨g3, c3', hv3, hg3, hg3l, _, _⟩ := OwnI.some hown3 hln
      injection hv3 with e1 _ e3
      subst e1 e3
      have HB3 := Lib.hid (hbel.trans (hb3.mono hbel.size))
      have hown4 := HOW.out.below hb3
      have HO3 := Lib.hid hown3
      have hs3 : w.heap.size < w3.heap.size := by omega
      have hgr0 := World.grownBy.refl w3 (some w.heap.size)
      clear HC2 hb3 hown3 HOW h31 hbel hcr
      go_wp2_with fail
      go_loopw [13] (fun j wx => ∃ q : Nat, q ≤ k3 ∧ j = .int .i64 q ∧ w3.grownBy wx (some w.heap.size) ∧ OwnI wx w.heap.size (.slice (some ⟨w.heap.size, 0, none⟩) k3 k3) k3 (addK T zs q)) (fun j _ => k3 - (intOf j).toNat)
      case atStart => exact ⟨0, Nat.zero_le _, rfl, hgr0, by rw [addK_zero]; exact hown4⟩
      case round =>
        clear hgr0 hown4
        obtain ⟨q, hq, rfl, hgr, hown2⟩ := hrel
        have hbelx : Below w.heap.size w wr := HB3.out.grown hgr (by omega) (fun x hx => by injection hx with hx; omega)
        by_cases hq2 : q < k3
        · have hl1 : q < T.length := by rw [HTL.out]; exact hq2
          have hl2 : q < zs.length := by rw [HZL.out]; exact hq2
          have hq3 : q < (addK T zs q).length := by rw [addK_len]; exact hl1
          have hy : wr.cell? ⟨g3, q, none⟩ = some (.int .i64 zs[q]) := (HO3.out.other (hgr.block g3 hg3l (fun e => by injection e with e; omega))).cell hl2
          have hx : wr.cell? ⟨w.heap.size, q, none⟩ = some (.int .i64 T[q]) := by rw [hown2.cell hq3, addK_at]
          have hfr := hown2.frozen q
          have HS2 := Lib.hid (addK_step T zs q hl1 hl2)
          have HO2 := Lib.hid (hown2.set q (T[q] + zs[q]))
          have HGR := Lib.hid (only_set hgr q (.int .i64 (T[q] + zs[q])))
          have x1 := HT4.out _ (List.getElem_mem hl1)
          have x2 := HZB.out _ (List.getElem_mem hl2)
          clear hown2
          rw [HS2.out] at HO2
          clear HS2
          generalize T[q] = x at *
          generalize zs[q] = y at *
          go_wp2_with fail
          refine wp_region_held_drew (S := (fun W : World => Below w.heap.size w W ∧ W.cell? ⟨g3, q, none⟩ = some (.int .i64 y))) (by kernel_rfl) ⟨hbelx.drew, hy⟩ (fun HS => ?_)
          refine seq_take (i := 0) (v := ?_) rfl (by kernel_rfl) (by kernel_rfl) (by kernel_rfl) (fun _ _ _ h => h) (by rfl) ?_ HS ?_
          rotate_left
          · intro W hW
            try dsimp only at hW
            obtain ⟨y0, y1⟩ := hW
            (go_simp <;> first | done | with_reducible rfl)
          try simp only [Act.put, List.setIfInBounds_toArray, List.set_cons_zero, List.set_cons_succ]
          refine seq_take (i := 1) (v := ?_) rfl (by kernel_rfl) (by kernel_rfl) (by kernel_rfl) (fun _ _ _ h => h) (by rfl) ?_ HS ?_
          rotate_left
          · intro W hW
            try dsimp only at hW
            obtain ⟨y0, y1⟩ := hW
            (go_simp <;> first | done | with_reducible rfl)
          try simp only [Act.put, List.setIfInBounds_toArray, List.set_cons_zero, List.set_cons_succ]
          refine seq_take (i := 2) (v := ?_) rfl (by kernel_rfl) (by kernel_rfl) (by kernel_rfl) (fun _ _ _ h => h) (by rfl) ?_ HS ?_
          rotate_left
          · intro W hW
            try dsimp only at hW
            obtain ⟨y0, y1⟩ := hW
            (go_simp <;> first | done | with_reducible rfl)
          try simp only [Act.put, List.setIfInBounds_toArray, List.set_cons_zero, List.set_cons_succ]
          refine seq_take (i := 3) (v := ?_) rfl (by kernel_rfl) (by kernel_rfl) (by kernel_rfl) (fun _ _ _ h => h) (by rfl) ?_ HS ?_
          rotate_left
          · intro W hW
            try dsimp only at hW
            obtain ⟨y0, y1⟩ := hW
            (go_simp <;> first | done | with_reducible rfl)
          try simp only [Act.put, List.setIfInBounds_toArray, List.set_cons_zero, List.set_cons_succ]
          refine seq_take (i := 4) (v := ?_) rfl (by kernel_rfl) (by kernel_rfl) (by kernel_rfl) (fun _ _ _ h => h) (by rfl) ?_ HS ?_
          rotate_left
          · intro W hW
            try dsimp only at hW
            obtain ⟨y0, y1⟩ := hW
            (go_simp <;> first | done | with_reducible rfl)
          try simp only [Act.put, List.setIfInBounds_toArray, List.set_cons_zero, List.set_cons_succ]
          refine seq_take (i := 6) (v := ?_) rfl (by kernel_rfl) (by kernel_rfl) (by kernel_rfl) (fun _ _ _ h => h) (by rfl) ?_ HS ?_
          rotate_left
          · intro W hW
            try dsimp only at hW
            obtain ⟨y0, y1⟩ := hW
            (go_simp <;> first | done | with_reducible rfl)
          try simp only [Act.put, List.setIfInBounds_toArray, List.set_cons_zero, List.set_cons_succ]
          refine seq_take (i := 7) (v := ?_) rfl (by kernel_rfl) (by kernel_rfl) (by kernel_rfl) (fun _ _ _ h => h) (by rfl) ?_ HS ?_
          rotate_left
          · intro W hW
            try dsimp only at hW
            obtain ⟨y0, y1⟩ := hW
            (go_simp <;> first | done | with_reducible rfl)
          try simp only [Act.put, List.setIfInBounds_toArray, List.set_cons_zero, List.set_cons_succ]
          refine seq_take (i := 8) (v := ?_) rfl (by kernel_rfl) (by kernel_rfl) (by kernel_rfl) (fun _ _ _ h => h) (by rfl) ?_ HS ?_
          rotate_left
          · intro W hW
            try dsimp only at hW
            obtain ⟨y0, y1⟩ := hW
            (go_simp <;> first | done | with_reducible rfl)
          try simp only [Act.put, List.setIfInBounds_toArray, List.set_cons_zero, List.set_cons_succ]
          refine seq_take (i := 9) (v := ?_) rfl (by kernel_rfl) (by kernel_rfl) (by kernel_rfl) (fun _ _ _ h => h) (by rfl) ?_ HS ?_
          rotate_left
          · intro W hW
            try dsimp only at hW
            obtain ⟨y0, y1⟩ := hW
            (go_simp <;> first | done | with_reducible rfl)
          try simp only [Act.put, List.setIfInBounds_toArray, List.set_cons_zero, List.set_cons_succ]
          refine seq_call (i := 5) rfl (by kernel_rfl) (by rfl) (fun K hK => ?_)
          go_simp
          refine hK.out _ _ HS (fun HS2 => ?_)
          clear hK K HS
          have HS := HS2
          clear HS2
          try simp only [Act.put, List.setIfInBounds_toArray, List.set_cons_zero, List.set_cons_succ]
          refine seq_take (i := 10) (v := ?_) rfl (by kernel_rfl) (by kernel_rfl) (by kernel_rfl) (fun _ _ _ h => h) (by rfl) ?_ HS ?_
          rotate_left
          · intro W hW
            try dsimp only at hW
            obtain ⟨y0, y1⟩ := hW
            (go_simp <;> first | done | with_reducible rfl)
          try simp only [Act.put, List.setIfInBounds_toArray, List.set_cons_zero, List.set_cons_succ]
          refine seq_take (i := 11) (v := ?_) rfl (by kernel_rfl) (by kernel_rfl) (by kernel_rfl) (fun _ _ _ h => h) (by rfl) ?_ HS ?_
          rotate_left
          · intro W hW
            try dsimp only at hW
            obtain ⟨y0, y1⟩ := hW
            (go_simp <;> first | done | with_reducible rfl)
          try simp only [Act.put, List.setIfInBounds_toArray, List.set_cons_zero, List.set_cons_succ]
          refine seq_call (i := 12) rfl (by kernel_rfl) (by rfl) (fun K hK => ?_)
          go_simp
          refine hK.out _ _ ⟨HS.1.setCell (Nat.le_refl _) _, (World.cell?_setCell_other _ _ _ _ (fun e => by injection e with e1 _ _; omega)).trans HS.2⟩ (fun HS2 => ?_)
          clear hK K HS
          have HS := HS2
          clear HS2
          try simp only [Act.put, List.setIfInBounds_toArray, List.set_cons_zero, List.set_cons_succ]
          refine wpAnyH_done (by kernel_rfl) ?_ _
          clear HS
          go_wp2_with fail
          go_roundw
          case rel => exact ⟨q + 1, by omega, by go_num, ⟨HGR.out.os, HGR.out.tape, HGR.out.output, HGR.out.size, HGR.out.block⟩, HO2.out⟩
          case measure => simp [intOf]; omega
        · obtain rfl : q = k3 := by omega
          have HT3 : Hid (addK T zs q = T2) := by
            show _ = _
            rw [addK_all _ _ _ (by rw [HTL.out]; exact Nat.le_refl _), HT.out]
          have hsz := hgr.size
          go_wp2_with fail
          go_roundw
          case rel => exact ⟨k + 1, by omega, by go_num, hbelx, by omega, by rw [HT2.out, ← HT3.out]; exact hown2⟩
          case measure => simp [intOf]; omega
    · obtain rfl : k = N := by omega
      have HQ : Hid (tog l ((apL (vals rs) s me lots).take k) = givL (vals rs) s me lots) := by
        show _ = _
        unfold givL
        rw [List.take_of_length_le (by simp [apL, vals, HN.out]), ← HWD.out]
      go_wp2_with fail
      go_ret
      exact ⟨rfl, by rw [← HQ.out]; exact hown, hbel⟩

end Go.Proofs.Ytjanmgiliooocaa
