/- The law FnPairsHoldMore returns true and leaves all that was there as it was. The conditions stand in each theorem. -/
import Derived.Test.YtkpgbombikgffaaDrawH
import Derived.Test.YtkpgbombikgffaaLawD3
import Derived.Test.YtkpgbombikgffaaLawD8
import Derived.Test.YtkpgbombikgffaaMoreP
import Derived.IntWalk
namespace Go.Proofs.Ytkpgbombikgffaa
open Go.RowKit Go.ChangeShapes
set_option linter.unusedVariables false

theorem Blk.src1 {w : World} {g : Nat} {t : TypeId} {cs : Array Value} {size : Nat} (h : Blk w g t cs) (hs : cs.size = size) : Src w size (some ⟨g, 0, none⟩) 1 cs.toList :=
  ⟨by simp [hs], fun _ => ⟨_, rfl, fun j u hu => (cell_add w g 0 j).trans (by rw [Nat.zero_add, h.cell j]; simpa using hu)⟩⟩

theorem small_chr (x y : Nat) (hx : x < 5) (hy : y < 5) : smallPr (chr x, chr y) := by
  have h : ∀ z, z < 5 → (chr z).size ≤ 1048576 := fun z hz => by
    have h5 : z = 0 ∨ z = 1 ∨ z = 2 ∨ z = 3 ∨ z = 4 := by omega
    rcases h5 with rfl | rfl | rfl | rfl | rfl <;> decide
  exact ⟨h x hx, h y hy⟩

set_option maxRecDepth 100000 in
set_option maxHeartbeats 40000000 in
theorem FnPairsHoldMore_walk (a0 : Option Addr) (len0 cap0 : Nat) (z0 : List Int) (w : World) (w0 : IsRow .u8 w a0 len0 cap0 z0) :
    Calls Try.prog 15 #[.slice a0 len0 cap0] w fun e w' => e = .returned (.bool true) ∧ Below w.heap.size w w' := by
  have hcap := w0.len_le.2.1
  have hlen := w0.len_le.1
  unfold maxLen at hcap
  by_cases hbig : 1048576 < len0
  · clear w0
    go_enter Try.func15, Try.ntmps15
    go_wp2
    go_ret
    exact ⟨rfl, Below.refl _ _⟩
  obtain ⟨i0, hi0, hz0, hz1, hz2⟩ := info_parts info_pair
  have HI := Lib.hid hi0
  have HZ0 := Lib.hid hz0
  have HZ1 := Lib.hid hz1
  have HZ2 := Lib.hid hz2
  clear hi0 hz0 hz1 hz2
  have dd0 : decide ((1048576 : Int) < (len0 : Int)) = false := by simp; omega
  go_enter Try.func15, Try.ntmps15
  go_wp2_with fail
  refine (DrawPairsHold_any _ _ _ _ _ w0).mono ?_
  rintro e w2 ⟨A, ps, n, c, x, y, m, u, rfl, hl, hn, hsh, hc1, hc2, hx, hy, hr, hb⟩
  have HN := Lib.hid hl
  have HS0 : Hid (∀ z ∈ ps, smallPr z) := fun z hz => short_small (hsh z hz)
  clear w0 hbig hcap hlen hl hsh
  unfold maxLen at hc2
  go_wp2_with fail
  refine (PairsHold_any _ _ _ ps _ _ _ _ _ HN.out (by omega) HS0.out hr).mono ?_
  rintro e w3 ⟨rfl, hb3⟩
  have hr3 := (hr.below hb3).more hb3.size
  have hbF3 := hb.trans (hb3.mono hb.size)
  clear hr hb3 hb
  go_wp2_with fail
  refine (sPairsHold_any _ _ _ ps _ _ _ _ _ HN.out (by omega) HS0.out hr3).mono ?_
  rintro e w4 ⟨rfl, hb4⟩
  have hr4 := (hr3.below hb4).more hb4.size
  have hbF4 := hbF3.trans (hb4.mono hbF3.size)
  clear hr3 hb4 hbF3
  cases hp : phB ps x y m u with
  | false =>
    clear hr4 hp
    go_wp2_with fail
    go_ret
    exact ⟨rfl, hbF4⟩
  | true =>
    by_cases hu : u = 0
    · subst hu
      clear hr4 hp
      go_wp2_with fail
      go_ret
      exact ⟨rfl, hbF4⟩
    have eu : (u == 0) = false := by simpa using hu
    by_cases h20 : n = 20
    · subst h20
      clear hr4 hp hu
      go_wp2_with fail
      go_ret
      exact ⟨rfl, hbF4⟩
    have e20 : ((n : Int) == 20) = false := by simp; omega
    have hrv := rvB_of (phB_rv hp)
    obtain ⟨r0, r1, r2, r3, r4⟩ := hrv
    obtain ⟨X, rfl⟩ := Int.eq_ofNat_of_zero_le r1
    obtain ⟨Y, rfl⟩ := Int.eq_ofNat_of_zero_le r3
    have hX : X < 5 := by omega
    have hY : Y < 5 := by omega
    have HP1 : Hid (phB (ps ++ [(chr X, chr Y)]) X Y m (u - 1) = true) := ph_more hp hu (by rw [HN.out]; omega) (okPr_chr X Y hX hY)
    have HP2 : Hid (phB (ps ++ [((⟨#[]⟩ : ByteArray), (⟨#[]⟩ : ByteArray))]) X Y m (u - 1) = true) := ph_more hp hu (by rw [HN.out]; omega) okPr_nil
    have ubd : 0 ≤ u ∧ u ≤ 9999 := by
      have h := hp
      unfold phB at h
      rw [Bool.and_eq_true] at h
      have := of_decide_eq_true h.2
      omega
    have wu : IntKind.i64.wrap (u - 1) = u - 1 := IntWalk.i64_in _ (by omega)
    clear hp r0 r1 r2 r3 r4 hx hy
    go_wp2_with fail
    refine (BallotText_one X _ 1 _ hX (by omega) (by unfold maxLen; omega) (row_one w4 _ _)).mono ?_
    rintro e w5 ⟨rfl, hb5⟩
    have hb45 : Below w4.heap.size w4 w5 := ((Below.refl _ _).alloc (Nat.le_refl _) (.cells #[.int .i64 (X : Int)] 3)).trans (hb5.mono (by simp))
    clear hb5
    go_wp2_with fail
    refine (BallotText_one Y _ 1 _ hY (by omega) (by unfold maxLen; omega) (row_one w5 _ _)).mono ?_
    rintro e w6 ⟨rfl, hb6⟩
    have hb46 : Below w4.heap.size w4 w6 := (hb45.alloc hb45.size (.cells #[.int .i64 (Y : Int)] 3)).trans (hb6.mono (by have := hb45.size; simp; omega))
    have hr6 := (hr4.below hb46).more hb46.size
    have hbF6 := hbF4.trans (hb46.mono hbF4.size)
    clear hb6 hb45 hb46 hr4 hbF4
    go_wp2_with fail
    have b8 : Below w6.heap.size w6 ((w6.alloc (.cells #[.string (chr X), .string (chr Y)] 27)).alloc (.cells #[.string ⟨#[]⟩, .string ⟨#[]⟩] 27)) := ((Below.refl _ _).alloc (Nat.le_refl _) _).alloc (by simp) _
    have hE1 : Blk ((w6.alloc (.cells #[.string (chr X), .string (chr Y)] 27)).alloc (.cells #[.string ⟨#[]⟩, .string ⟨#[]⟩] 27)) w6.heap.size 27 #[.string (chr X), .string (chr Y)] := (Blk.new _ _ _).alloc _
    have hE2 : Blk ((w6.alloc (.cells #[.string (chr X), .string (chr Y)] 27)).alloc (.cells #[.string ⟨#[]⟩, .string ⟨#[]⟩] 27)) (w6.heap.size + 1) 27 #[.string ⟨#[]⟩, .string ⟨#[]⟩] := by
      have h := Blk.new (w6.alloc (.cells #[.string (chr X), .string (chr Y)] 27)) 27 #[.string ⟨#[]⟩, .string ⟨#[]⟩]
      simpa using h
    have hr8 := (hr6.below b8).more b8.size
    have hbF8 := hbF6.trans (b8.mono hbF6.size)
    clear b8 hr6 hbF6
    generalize (w6.alloc (.cells #[.string (chr X), .string (chr Y)] 27)).alloc (.cells #[.string ⟨#[]⟩, .string ⟨#[]⟩] 27) = w8 at *
    generalize w6.heap.size + 1 = b2 at *
    generalize w6.heap.size = b1 at *
    have HC : Hid (∀ W, Below w8.heap.size w8 W → W.cell? ⟨b1, 0, none⟩ = some (.string (chr X)) ∧ W.cell? ⟨b1, 1, none⟩ = some (.string (chr Y)) ∧ W.cell? ⟨b2, 0, none⟩ = some (.string ⟨#[]⟩) ∧ W.cell? ⟨b2, 1, none⟩ = some (.string ⟨#[]⟩)) := fun W hW =>
      ⟨(hW.cell (p := ⟨b1, 0, none⟩) hE1.lt).trans (hE1.cell 0), (hW.cell (p := ⟨b1, 1, none⟩) hE1.lt).trans (hE1.cell 1), (hW.cell (p := ⟨b2, 0, none⟩) hE2.lt).trans (hE2.cell 0), (hW.cell (p := ⟨b2, 1, none⟩) hE2.lt).trans (hE2.cell 1)⟩
    clear hE1 hE2
    have HSRC : Hid (∀ W, Below w8.heap.size w8 W → Src W 2 A n (prCells ps)) := fun W hW => (hr8.below hW).src (by omega) (by rw [prCells_len, HN.out])
    have HO := Lib.hid (pairs_oneCell ps)
    have HL1 : Hid ((ps ++ [(chr X, chr Y)]).length = n + 1) := by
      show _ = _
      rw [List.length_append, HN.out]
      rfl
    have HL2 : Hid ((ps ++ [((⟨#[]⟩ : ByteArray), (⟨#[]⟩ : ByteArray))]).length = n + 1) := by
      show _ = _
      rw [List.length_append, HN.out]
      rfl
    have HSX1 : Hid (∀ z ∈ ps ++ [(chr X, chr Y)], smallPr z) := fun z hz => by
      rcases List.mem_append.1 hz with hz | hz
      · exact HS0.out z hz
      · rw [List.mem_singleton.1 hz]
        exact small_chr X Y hX hY
    have HSX2 : Hid (∀ z ∈ ps ++ [((⟨#[]⟩ : ByteArray), (⟨#[]⟩ : ByteArray))], smallPr z) := fun z hz => by
      rcases List.mem_append.1 hz with hz | hz
      · exact HS0.out z hz
      · rw [List.mem_singleton.1 hz]
        exact ⟨by show 0 ≤ 1048576; omega, by show 0 ≤ 1048576; omega⟩
    clear hr8
    refine wp_region_held_drew (S := (fun W : World => Below w8.heap.size w8 W)) (by kernel_rfl) (Below.refl w8.heap.size w8).drew (fun HS => ?_)
    generalize w8.drew = w8d at HS ⊢
    refine seq_take (i := 1) (v := ?_) rfl (by kernel_rfl) (by kernel_rfl) (by kernel_rfl) (fun _ _ _ h => h) (by rfl) ?_ HS ?_
    rotate_left
    · intro W hW
      try dsimp only at hW
      obtain ⟨y0, y1, y2, y3⟩ := HC.out W hW
      (go_simp <;> first | done | with_reducible rfl)
    try simp only [Act.put, List.setIfInBounds_toArray, List.set_cons_zero, List.set_cons_succ]
    refine seq_take (i := 3) (v := ?_) rfl (by kernel_rfl) (by kernel_rfl) (by kernel_rfl) (fun _ _ _ h => h) (by rfl) ?_ HS ?_
    rotate_left
    · intro W hW
      try dsimp only at hW
      obtain ⟨y0, y1, y2, y3⟩ := HC.out W hW
      (go_simp <;> first | done | with_reducible rfl)
    try simp only [Act.put, List.setIfInBounds_toArray, List.set_cons_zero, List.set_cons_succ]
    refine seq_take (i := 6) (v := ?_) rfl (by kernel_rfl) (by kernel_rfl) (by kernel_rfl) (fun _ _ _ h => h) (by rfl) ?_ HS ?_
    rotate_left
    · intro W hW
      try dsimp only at hW
      obtain ⟨y0, y1, y2, y3⟩ := HC.out W hW
      (go_simp <;> first | done | with_reducible rfl)
    try simp only [Act.put, List.setIfInBounds_toArray, List.set_cons_zero, List.set_cons_succ]
    refine seq_take (i := 7) (v := ?_) rfl (by kernel_rfl) (by kernel_rfl) (by kernel_rfl) (fun _ _ _ h => h) (by rfl) ?_ HS ?_
    rotate_left
    · intro W hW
      try dsimp only at hW
      obtain ⟨y0, y1, y2, y3⟩ := HC.out W hW
      (go_simp <;> first | done | with_reducible rfl)
    try simp only [Act.put, List.setIfInBounds_toArray, List.set_cons_zero, List.set_cons_succ]
    refine seq_take (i := 8) (v := ?_) rfl (by kernel_rfl) (by kernel_rfl) (by kernel_rfl) (fun _ _ _ h => h) (by rfl) ?_ HS ?_
    rotate_left
    · intro W hW
      try dsimp only at hW
      obtain ⟨y0, y1, y2, y3⟩ := HC.out W hW
      (go_simp <;> first | done | with_reducible rfl)
    try simp only [Act.put, List.setIfInBounds_toArray, List.set_cons_zero, List.set_cons_succ]
    refine seq_take (i := 9) (v := ?_) rfl (by kernel_rfl) (by kernel_rfl) (by kernel_rfl) (fun _ _ _ h => h) (by rfl) ?_ HS ?_
    rotate_left
    · intro W hW
      try dsimp only at hW
      obtain ⟨y0, y1, y2, y3⟩ := HC.out W hW
      (go_simp <;> first | done | with_reducible rfl)
    try simp only [Act.put, List.setIfInBounds_toArray, List.set_cons_zero, List.set_cons_succ]
    refine seq_take (i := 10) (v := ?_) rfl (by kernel_rfl) (by kernel_rfl) (by kernel_rfl) (fun _ _ _ h => h) (by rfl) ?_ HS ?_
    rotate_left
    · intro W hW
      try dsimp only at hW
      obtain ⟨y0, y1, y2, y3⟩ := HC.out W hW
      (go_simp <;> first | done | with_reducible rfl)
    try simp only [Act.put, List.setIfInBounds_toArray, List.set_cons_zero, List.set_cons_succ]
    refine seq_two (i := 0) (j := 4) rfl rfl (by kernel_rfl) (by rfl) (by rfl) (fun K hK => ?_) (fun K hK => ?_)
    · go_simp
      have ownE := own_empty w8d w8.heap.size 27 2 HS.size
      refine hK.out _ _ (HS.alloc HS.size _) (fun HS2 => ?_)
      clear hK K HS
      have HS := HS2
      clear HS2
      try simp only [Act.put, List.setIfInBounds_toArray, List.set_cons_zero, List.set_cons_succ]
      generalize w8d.alloc (.cells #[] 27) = wa0 at *
      generalize w8d.heap.size = eE at *
      refine seq_two (i := 2) (j := 4) rfl rfl (by kernel_rfl) (by rfl) (by rfl) (fun K hK => ?_) (fun K hK => ?_)
      · refine wp_append_src wa0 (.tmp 62) (.tmp 63) _ rfl w8.heap.size 27 i0 _ 2 32 Try.underlying23 HI.out HZ0.out HZ1.out HZ2.out rfl (by omega) (.slice (some ⟨eE, 0, none⟩) 0 0) 0 [] rfl ownE A n c (prCells ps) rfl (HSRC.out _ HS) HO.out (by unfold maxLen; omega) (by omega) HS.size ?_
        intro v7 wb0 hown7 hgrow7 hat7
        rw [Nat.zero_add, List.nil_append] at hown7
        refine hK.out _ _ (HS.grown hgrow7 HS.size (fun x hx => (own_block ownE x hx).1)) (fun HS2 => ?_)
        clear hK K HS
        have HS := HS2
        clear HS2
        try simp only [Act.put, List.setIfInBounds_toArray, List.set_cons_zero, List.set_cons_succ]
        clear ownE hgrow7 hat7
        refine seq_call (i := 4) rfl (by kernel_rfl) (by rfl) (fun K hK => ?_)
        go_simp
        have blkL := Blk.new wb0 27 #[.string (chr X), .string (chr Y)]
        have hown7 := own_alloc hown7 (.cells #[.string (chr X), .string (chr Y)] 27)
        refine hK.out _ _ (HS.alloc HS.size _) (fun HS2 => ?_)
        clear hK K HS
        have HS := HS2
        clear HS2
        try simp only [Act.put, List.setIfInBounds_toArray, List.set_cons_zero, List.set_cons_succ]
        generalize wb0.alloc (.cells #[.string (chr X), .string (chr Y)] 27) = wc0 at *
        generalize wb0.heap.size = eL at *
        refine seq_call (i := 5) rfl (by kernel_rfl) (by rfl) (fun K hK => ?_)
        refine wp_append_src wc0 (.tmp 64) (.tmp 66) _ rfl w8.heap.size 27 i0 _ 2 32 Try.underlying23 HI.out HZ0.out HZ1.out HZ2.out rfl (by omega) v7 n (prCells ps) rfl hown7 (some ⟨eL, 0, none⟩) 1 1 [.string (chr X), .string (chr Y)] rfl (blkL.src1 rfl) (by intro u hu; simp at hu; rcases hu with rfl | rfl <;> rfl) (by unfold maxLen; omega) (by omega) HS.size ?_
        intro v9 w9 hown9 hgrow9 hat9
        have hown9 : w9.ownsRow w8.heap.size 27 2 v9 (n + 1) (prCells (ps ++ [(chr X, chr Y)])) := by
          rw [prCells_app]
          exact hown9
        obtain ⟨A9, c9, rfl, hc91, hc92, _, hrow9⟩ := own_sliceN hown9
        refine hK.out _ _ (HS.grown hgrow9 HS.size (fun x hx => (own_block hown7 x hx).1)) (fun HS2 => ?_)
        clear hK K HS
        have HS := HS2
        clear HS2
        try simp only [Act.put, List.setIfInBounds_toArray, List.set_cons_zero, List.set_cons_succ]
        clear hown7 hgrow9 hat9 hown9 blkL
        refine seq_call (i := 11) rfl (by kernel_rfl) (by rfl) (fun K hK => ?_)
        go_simp
        refine (PairsHold_any A9 (n + 1) c9 (ps ++ [(chr X, chr Y)]) _ _ _ _ _ HL1.out (by omega) HSX1.out hrow9).mono ?_
        rintro e w10 ⟨rfl, hb10⟩
        rw [HP1.out]
        go_simp
        refine hK.out _ _ (HS.trans (hb10.mono HS.size)) (fun HS2 => ?_)
        clear hK K HS
        have HS := HS2
        clear HS2
        try simp only [Act.put, List.setIfInBounds_toArray, List.set_cons_zero, List.set_cons_succ]
        clear hrow9 hb10 hc91 hc92
        refine seq_take (i := 12) (v := ?_) rfl (by kernel_rfl) (by kernel_rfl) (by kernel_rfl) (fun _ _ _ h => h) (by rfl) ?_ HS ?_
        rotate_left
        · intro W hW
          try dsimp only at hW
          obtain ⟨y0, y1, y2, y3⟩ := HC.out W hW
          (go_simp <;> first | done | with_reducible rfl)
        try simp only [Act.put, List.setIfInBounds_toArray, List.set_cons_zero, List.set_cons_succ]
        refine seq_take (i := 14) (v := ?_) rfl (by kernel_rfl) (by kernel_rfl) (by kernel_rfl) (fun _ _ _ h => h) (by rfl) ?_ HS ?_
        rotate_left
        · intro W hW
          try dsimp only at hW
          obtain ⟨y0, y1, y2, y3⟩ := HC.out W hW
          (go_simp <;> first | done | with_reducible rfl)
        try simp only [Act.put, List.setIfInBounds_toArray, List.set_cons_zero, List.set_cons_succ]
        refine seq_take (i := 16) (v := ?_) rfl (by kernel_rfl) (by kernel_rfl) (by kernel_rfl) (fun _ _ _ h => h) (by rfl) ?_ HS ?_
        rotate_left
        · intro W hW
          try dsimp only at hW
          obtain ⟨y0, y1, y2, y3⟩ := HC.out W hW
          (go_simp <;> first | done | with_reducible rfl)
        try simp only [Act.put, List.setIfInBounds_toArray, List.set_cons_zero, List.set_cons_succ]
        refine seq_take (i := 19) (v := ?_) rfl (by kernel_rfl) (by kernel_rfl) (by kernel_rfl) (fun _ _ _ h => h) (by rfl) ?_ HS ?_
        rotate_left
        · intro W hW
          try dsimp only at hW
          obtain ⟨y0, y1, y2, y3⟩ := HC.out W hW
          (go_simp <;> first | done | with_reducible rfl)
        try simp only [Act.put, List.setIfInBounds_toArray, List.set_cons_zero, List.set_cons_succ]
        refine seq_take (i := 20) (v := ?_) rfl (by kernel_rfl) (by kernel_rfl) (by kernel_rfl) (fun _ _ _ h => h) (by rfl) ?_ HS ?_
        rotate_left
        · intro W hW
          try dsimp only at hW
          obtain ⟨y0, y1, y2, y3⟩ := HC.out W hW
          (go_simp <;> first | done | with_reducible rfl)
        try simp only [Act.put, List.setIfInBounds_toArray, List.set_cons_zero, List.set_cons_succ]
        refine seq_take (i := 21) (v := ?_) rfl (by kernel_rfl) (by kernel_rfl) (by kernel_rfl) (fun _ _ _ h => h) (by rfl) ?_ HS ?_
        rotate_left
        · intro W hW
          try dsimp only at hW
          obtain ⟨y0, y1, y2, y3⟩ := HC.out W hW
          (go_simp <;> first | done | with_reducible rfl)
        try simp only [Act.put, List.setIfInBounds_toArray, List.set_cons_zero, List.set_cons_succ]
        refine seq_take (i := 22) (v := ?_) rfl (by kernel_rfl) (by kernel_rfl) (by kernel_rfl) (fun _ _ _ h => h) (by rfl) ?_ HS ?_
        rotate_left
        · intro W hW
          try dsimp only at hW
          obtain ⟨y0, y1, y2, y3⟩ := HC.out W hW
          (go_simp <;> first | done | with_reducible rfl)
        try simp only [Act.put, List.setIfInBounds_toArray, List.set_cons_zero, List.set_cons_succ]
        refine seq_take (i := 23) (v := ?_) rfl (by kernel_rfl) (by kernel_rfl) (by kernel_rfl) (fun _ _ _ h => h) (by rfl) ?_ HS ?_
        rotate_left
        · intro W hW
          try dsimp only at hW
          obtain ⟨y0, y1, y2, y3⟩ := HC.out W hW
          (go_simp <;> first | done | with_reducible rfl)
        try simp only [Act.put, List.setIfInBounds_toArray, List.set_cons_zero, List.set_cons_succ]
        refine seq_two (i := 13) (j := 17) rfl rfl (by kernel_rfl) (by rfl) (by rfl) (fun K hK => ?_) (fun K hK => ?_)
        · go_simp
          have ownE := own_empty w10 w8.heap.size 27 2 HS.size
          refine hK.out _ _ (HS.alloc HS.size _) (fun HS2 => ?_)
          clear hK K HS
          have HS := HS2
          clear HS2
          try simp only [Act.put, List.setIfInBounds_toArray, List.set_cons_zero, List.set_cons_succ]
          generalize w10.alloc (.cells #[] 27) = wa1 at *
          generalize w10.heap.size = eE at *
          refine seq_two (i := 15) (j := 17) rfl rfl (by kernel_rfl) (by rfl) (by rfl) (fun K hK => ?_) (fun K hK => ?_)
          · refine wp_append_src wa1 (.tmp 75) (.tmp 76) _ rfl w8.heap.size 27 i0 _ 2 32 Try.underlying23 HI.out HZ0.out HZ1.out HZ2.out rfl (by omega) (.slice (some ⟨eE, 0, none⟩) 0 0) 0 [] rfl ownE A n c (prCells ps) rfl (HSRC.out _ HS) HO.out (by unfold maxLen; omega) (by omega) HS.size ?_
            intro v7 wb1 hown7 hgrow7 hat7
            rw [Nat.zero_add, List.nil_append] at hown7
            refine hK.out _ _ (HS.grown hgrow7 HS.size (fun x hx => (own_block ownE x hx).1)) (fun HS2 => ?_)
            clear hK K HS
            have HS := HS2
            clear HS2
            try simp only [Act.put, List.setIfInBounds_toArray, List.set_cons_zero, List.set_cons_succ]
            clear ownE hgrow7 hat7
            refine seq_call (i := 17) rfl (by kernel_rfl) (by rfl) (fun K hK => ?_)
            go_simp
            have blkL := Blk.new wb1 27 #[.string ⟨#[]⟩, .string ⟨#[]⟩]
            have hown7 := own_alloc hown7 (.cells #[.string ⟨#[]⟩, .string ⟨#[]⟩] 27)
            refine hK.out _ _ (HS.alloc HS.size _) (fun HS2 => ?_)
            clear hK K HS
            have HS := HS2
            clear HS2
            try simp only [Act.put, List.setIfInBounds_toArray, List.set_cons_zero, List.set_cons_succ]
            generalize wb1.alloc (.cells #[.string ⟨#[]⟩, .string ⟨#[]⟩] 27) = wc1 at *
            generalize wb1.heap.size = eL at *
            refine seq_call (i := 18) rfl (by kernel_rfl) (by rfl) (fun K hK => ?_)
            refine wp_append_src wc1 (.tmp 77) (.tmp 79) _ rfl w8.heap.size 27 i0 _ 2 32 Try.underlying23 HI.out HZ0.out HZ1.out HZ2.out rfl (by omega) v7 n (prCells ps) rfl hown7 (some ⟨eL, 0, none⟩) 1 1 [.string ⟨#[]⟩, .string ⟨#[]⟩] rfl (blkL.src1 rfl) (by intro u hu; simp at hu; rcases hu with rfl | rfl <;> rfl) (by unfold maxLen; omega) (by omega) HS.size ?_
            intro v9 w9 hown9 hgrow9 hat9
            have hown9 : w9.ownsRow w8.heap.size 27 2 v9 (n + 1) (prCells (ps ++ [((⟨#[]⟩ : ByteArray), (⟨#[]⟩ : ByteArray))])) := by
              rw [prCells_app]
              exact hown9
            obtain ⟨A9, c9, rfl, hc91, hc92, _, hrow9⟩ := own_sliceN hown9
            refine hK.out _ _ (HS.grown hgrow9 HS.size (fun x hx => (own_block hown7 x hx).1)) (fun HS2 => ?_)
            clear hK K HS
            have HS := HS2
            clear HS2
            try simp only [Act.put, List.setIfInBounds_toArray, List.set_cons_zero, List.set_cons_succ]
            clear hown7 hgrow9 hat9 hown9 blkL
            refine seq_call (i := 24) rfl (by kernel_rfl) (by rfl) (fun K hK => ?_)
            go_simp
            refine (PairsHold_any A9 (n + 1) c9 (ps ++ [((⟨#[]⟩ : ByteArray), (⟨#[]⟩ : ByteArray))]) _ _ _ _ _ HL2.out (by omega) HSX2.out hrow9).mono ?_
            rintro e w10 ⟨rfl, hb10⟩
            rw [HP2.out]
            go_simp
            refine hK.out _ _ (HS.trans (hb10.mono HS.size)) (fun HS2 => ?_)
            clear hK K HS
            have HS := HS2
            clear HS2
            try simp only [Act.put, List.setIfInBounds_toArray, List.set_cons_zero, List.set_cons_succ]
            clear hrow9 hb10 hc91 hc92
            refine seq_take (i := 25) (v := ?_) rfl (by kernel_rfl) (by kernel_rfl) (by kernel_rfl) (fun _ _ _ h => h) (by rfl) ?_ HS ?_
            rotate_left
            · intro W hW
              try dsimp only at hW
              obtain ⟨y0, y1, y2, y3⟩ := HC.out W hW
              (go_simp <;> first | done | with_reducible rfl)
            try simp only [Act.put, List.setIfInBounds_toArray, List.set_cons_zero, List.set_cons_succ]
            refine seq_take (i := 26) (v := ?_) rfl (by kernel_rfl) (by kernel_rfl) (by kernel_rfl) (fun _ _ _ h => h) (by rfl) ?_ HS ?_
            rotate_left
            · intro W hW
              try dsimp only at hW
              obtain ⟨y0, y1, y2, y3⟩ := HC.out W hW
              (go_simp <;> first | done | with_reducible rfl)
            try simp only [Act.put, List.setIfInBounds_toArray, List.set_cons_zero, List.set_cons_succ]
            refine wpAnyH_done (by kernel_rfl) ?_ _
            go_simp
            go_wp2_with fail
            go_ret
            exact ⟨rfl, hbF8.trans (HS.mono hbF8.size)⟩
          · go_simp
            have blkL := Blk.new wa1 27 #[.string ⟨#[]⟩, .string ⟨#[]⟩]
            have hne : wa1.heap.size ≠ eE := fun e => by have := (own_block ownE eE (by simp [Value.ownBlock])).2; omega
            have ownE := own_alloc ownE (.cells #[.string ⟨#[]⟩, .string ⟨#[]⟩] 27)
            refine hK.out _ _ (HS.alloc HS.size _) (fun HS2 => ?_)
            clear hK K HS
            have HS := HS2
            clear HS2
            try simp only [Act.put, List.setIfInBounds_toArray, List.set_cons_zero, List.set_cons_succ]
            generalize wa1.alloc (.cells #[.string ⟨#[]⟩, .string ⟨#[]⟩] 27) = wb1 at *
            generalize wa1.heap.size = eL at *
            refine seq_call (i := 15) rfl (by kernel_rfl) (by rfl) (fun K hK => ?_)
            refine wp_append_src wb1 (.tmp 75) (.tmp 76) _ rfl w8.heap.size 27 i0 _ 2 32 Try.underlying23 HI.out HZ0.out HZ1.out HZ2.out rfl (by omega) (.slice (some ⟨eE, 0, none⟩) 0 0) 0 [] rfl ownE A n c (prCells ps) rfl (HSRC.out _ HS) HO.out (by unfold maxLen; omega) (by omega) HS.size ?_
            intro v7 wc1 hown7 hgrow7 hat7
            rw [Nat.zero_add, List.nil_append] at hown7
            have blkL : Blk wc1 eL 27 #[.string ⟨#[]⟩, .string ⟨#[]⟩] := (hgrow7.block eL blkL.lt (fun e => by simp [Value.ownBlock] at e; omega)).trans blkL
            refine hK.out _ _ (HS.grown hgrow7 HS.size (fun x hx => (own_block ownE x hx).1)) (fun HS2 => ?_)
            clear hK K HS
            have HS := HS2
            clear HS2
            try simp only [Act.put, List.setIfInBounds_toArray, List.set_cons_zero, List.set_cons_succ]
            clear ownE hgrow7 hat7
            refine seq_call (i := 18) rfl (by kernel_rfl) (by rfl) (fun K hK => ?_)
            refine wp_append_src wc1 (.tmp 77) (.tmp 79) _ rfl w8.heap.size 27 i0 _ 2 32 Try.underlying23 HI.out HZ0.out HZ1.out HZ2.out rfl (by omega) v7 n (prCells ps) rfl hown7 (some ⟨eL, 0, none⟩) 1 1 [.string ⟨#[]⟩, .string ⟨#[]⟩] rfl (blkL.src1 rfl) (by intro u hu; simp at hu; rcases hu with rfl | rfl <;> rfl) (by unfold maxLen; omega) (by omega) HS.size ?_
            intro v9 w9 hown9 hgrow9 hat9
            have hown9 : w9.ownsRow w8.heap.size 27 2 v9 (n + 1) (prCells (ps ++ [((⟨#[]⟩ : ByteArray), (⟨#[]⟩ : ByteArray))])) := by
              rw [prCells_app]
              exact hown9
            obtain ⟨A9, c9, rfl, hc91, hc92, _, hrow9⟩ := own_sliceN hown9
            refine hK.out _ _ (HS.grown hgrow9 HS.size (fun x hx => (own_block hown7 x hx).1)) (fun HS2 => ?_)
            clear hK K HS
            have HS := HS2
            clear HS2
            try simp only [Act.put, List.setIfInBounds_toArray, List.set_cons_zero, List.set_cons_succ]
            clear hown7 hgrow9 hat9 hown9 blkL
            refine seq_call (i := 24) rfl (by kernel_rfl) (by rfl) (fun K hK => ?_)
            go_simp
            refine (PairsHold_any A9 (n + 1) c9 (ps ++ [((⟨#[]⟩ : ByteArray), (⟨#[]⟩ : ByteArray))]) _ _ _ _ _ HL2.out (by omega) HSX2.out hrow9).mono ?_
            rintro e w10 ⟨rfl, hb10⟩
            rw [HP2.out]
            go_simp
            refine hK.out _ _ (HS.trans (hb10.mono HS.size)) (fun HS2 => ?_)
            clear hK K HS
            have HS := HS2
            clear HS2
            try simp only [Act.put, List.setIfInBounds_toArray, List.set_cons_zero, List.set_cons_succ]
            clear hrow9 hb10 hc91 hc92
            refine seq_take (i := 25) (v := ?_) rfl (by kernel_rfl) (by kernel_rfl) (by kernel_rfl) (fun _ _ _ h => h) (by rfl) ?_ HS ?_
            rotate_left
            · intro W hW
              try dsimp only at hW
              obtain ⟨y0, y1, y2, y3⟩ := HC.out W hW
              (go_simp <;> first | done | with_reducible rfl)
            try simp only [Act.put, List.setIfInBounds_toArray, List.set_cons_zero, List.set_cons_succ]
            refine seq_take (i := 26) (v := ?_) rfl (by kernel_rfl) (by kernel_rfl) (by kernel_rfl) (fun _ _ _ h => h) (by rfl) ?_ HS ?_
            rotate_left
            · intro W hW
              try dsimp only at hW
              obtain ⟨y0, y1, y2, y3⟩ := HC.out W hW
              (go_simp <;> first | done | with_reducible rfl)
            try simp only [Act.put, List.setIfInBounds_toArray, List.set_cons_zero, List.set_cons_succ]
            refine wpAnyH_done (by kernel_rfl) ?_ _
            go_simp
            go_wp2_with fail
            go_ret
            exact ⟨rfl, hbF8.trans (HS.mono hbF8.size)⟩
        · go_simp
          have blkL := Blk.new w10 27 #[.string ⟨#[]⟩, .string ⟨#[]⟩]
          refine hK.out _ _ (HS.alloc HS.size _) (fun HS2 => ?_)
          clear hK K HS
          have HS := HS2
          clear HS2
          try simp only [Act.put, List.setIfInBounds_toArray, List.set_cons_zero, List.set_cons_succ]
          generalize w10.alloc (.cells #[.string ⟨#[]⟩, .string ⟨#[]⟩] 27) = wa1 at *
          have ltL := blkL.lt
          generalize w10.heap.size = eL at *
          refine seq_call (i := 13) rfl (by kernel_rfl) (by rfl) (fun K hK => ?_)
          go_simp
          have ownE := own_empty wa1 w8.heap.size 27 2 HS.size
          have blkL := blkL.alloc (.cells #[] 27)
          have hne : eL ≠ wa1.heap.size := fun e => by have := ltL; omega
          refine hK.out _ _ (HS.alloc HS.size _) (fun HS2 => ?_)
          clear hK K HS
          have HS := HS2
          clear HS2
          try simp only [Act.put, List.setIfInBounds_toArray, List.set_cons_zero, List.set_cons_succ]
          generalize wa1.alloc (.cells #[] 27) = wb1 at *
          generalize wa1.heap.size = eE at *
          refine seq_call (i := 15) rfl (by kernel_rfl) (by rfl) (fun K hK => ?_)
          refine wp_append_src wb1 (.tmp 75) (.tmp 76) _ rfl w8.heap.size 27 i0 _ 2 32 Try.underlying23 HI.out HZ0.out HZ1.out HZ2.out rfl (by omega) (.slice (some ⟨eE, 0, none⟩) 0 0) 0 [] rfl ownE A n c (prCells ps) rfl (HSRC.out _ HS) HO.out (by unfold maxLen; omega) (by omega) HS.size ?_
          intro v7 wc1 hown7 hgrow7 hat7
          rw [Nat.zero_add, List.nil_append] at hown7
          have blkL : Blk wc1 eL 27 #[.string ⟨#[]⟩, .string ⟨#[]⟩] := (hgrow7.block eL blkL.lt (fun e => by simp [Value.ownBlock] at e; omega)).trans blkL
          refine hK.out _ _ (HS.grown hgrow7 HS.size (fun x hx => (own_block ownE x hx).1)) (fun HS2 => ?_)
          clear hK K HS
          have HS := HS2
          clear HS2
          try simp only [Act.put, List.setIfInBounds_toArray, List.set_cons_zero, List.set_cons_succ]
          clear ownE hgrow7 hat7
          refine seq_call (i := 18) rfl (by kernel_rfl) (by rfl) (fun K hK => ?_)
          refine wp_append_src wc1 (.tmp 77) (.tmp 79) _ rfl w8.heap.size 27 i0 _ 2 32 Try.underlying23 HI.out HZ0.out HZ1.out HZ2.out rfl (by omega) v7 n (prCells ps) rfl hown7 (some ⟨eL, 0, none⟩) 1 1 [.string ⟨#[]⟩, .string ⟨#[]⟩] rfl (blkL.src1 rfl) (by intro u hu; simp at hu; rcases hu with rfl | rfl <;> rfl) (by unfold maxLen; omega) (by omega) HS.size ?_
          intro v9 w9 hown9 hgrow9 hat9
          have hown9 : w9.ownsRow w8.heap.size 27 2 v9 (n + 1) (prCells (ps ++ [((⟨#[]⟩ : ByteArray), (⟨#[]⟩ : ByteArray))])) := by
            rw [prCells_app]
            exact hown9
          obtain ⟨A9, c9, rfl, hc91, hc92, _, hrow9⟩ := own_sliceN hown9
          refine hK.out _ _ (HS.grown hgrow9 HS.size (fun x hx => (own_block hown7 x hx).1)) (fun HS2 => ?_)
          clear hK K HS
          have HS := HS2
          clear HS2
          try simp only [Act.put, List.setIfInBounds_toArray, List.set_cons_zero, List.set_cons_succ]
          clear hown7 hgrow9 hat9 hown9 blkL
          refine seq_call (i := 24) rfl (by kernel_rfl) (by rfl) (fun K hK => ?_)
          go_simp
          refine (PairsHold_any A9 (n + 1) c9 (ps ++ [((⟨#[]⟩ : ByteArray), (⟨#[]⟩ : ByteArray))]) _ _ _ _ _ HL2.out (by omega) HSX2.out hrow9).mono ?_
          rintro e w10 ⟨rfl, hb10⟩
          rw [HP2.out]
          go_simp
          refine hK.out _ _ (HS.trans (hb10.mono HS.size)) (fun HS2 => ?_)
          clear hK K HS
          have HS := HS2
          clear HS2
          try simp only [Act.put, List.setIfInBounds_toArray, List.set_cons_zero, List.set_cons_succ]
          clear hrow9 hb10 hc91 hc92
          refine seq_take (i := 25) (v := ?_) rfl (by kernel_rfl) (by kernel_rfl) (by kernel_rfl) (fun _ _ _ h => h) (by rfl) ?_ HS ?_
          rotate_left
          · intro W hW
            try dsimp only at hW
            obtain ⟨y0, y1, y2, y3⟩ := HC.out W hW
            (go_simp <;> first | done | with_reducible rfl)
          try simp only [Act.put, List.setIfInBounds_toArray, List.set_cons_zero, List.set_cons_succ]
          refine seq_take (i := 26) (v := ?_) rfl (by kernel_rfl) (by kernel_rfl) (by kernel_rfl) (fun _ _ _ h => h) (by rfl) ?_ HS ?_
          rotate_left
          · intro W hW
            try dsimp only at hW
            obtain ⟨y0, y1, y2, y3⟩ := HC.out W hW
            (go_simp <;> first | done | with_reducible rfl)
          try simp only [Act.put, List.setIfInBounds_toArray, List.set_cons_zero, List.set_cons_succ]
          refine wpAnyH_done (by kernel_rfl) ?_ _
          go_simp
          go_wp2_with fail
          go_ret
          exact ⟨rfl, hbF8.trans (HS.mono hbF8.size)⟩
      · go_simp
        have blkL := Blk.new wa0 27 #[.string (chr X), .string (chr Y)]
        have hne : wa0.heap.size ≠ eE := fun e => by have := (own_block ownE eE (by simp [Value.ownBlock])).2; omega
        have ownE := own_alloc ownE (.cells #[.string (chr X), .string (chr Y)] 27)
        refine hK.out _ _ (HS.alloc HS.size _) (fun HS2 => ?_)
        clear hK K HS
        have HS := HS2
        clear HS2
        try simp only [Act.put, List.setIfInBounds_toArray, List.set_cons_zero, List.set_cons_succ]
        generalize wa0.alloc (.cells #[.string (chr X), .string (chr Y)] 27) = wb0 at *
        generalize wa0.heap.size = eL at *
        refine seq_call (i := 2) rfl (by kernel_rfl) (by rfl) (fun K hK => ?_)
        refine wp_append_src wb0 (.tmp 62) (.tmp 63) _ rfl w8.heap.size 27 i0 _ 2 32 Try.underlying23 HI.out HZ0.out HZ1.out HZ2.out rfl (by omega) (.slice (some ⟨eE, 0, none⟩) 0 0) 0 [] rfl ownE A n c (prCells ps) rfl (HSRC.out _ HS) HO.out (by unfold maxLen; omega) (by omega) HS.size ?_
        intro v7 wc0 hown7 hgrow7 hat7
        rw [Nat.zero_add, List.nil_append] at hown7
        have blkL : Blk wc0 eL 27 #[.string (chr X), .string (chr Y)] := (hgrow7.block eL blkL.lt (fun e => by simp [Value.ownBlock] at e; omega)).trans blkL
        refine hK.out _ _ (HS.grown hgrow7 HS.size (fun x hx => (own_block ownE x hx).1)) (fun HS2 => ?_)
        clear hK K HS
        have HS := HS2
        clear HS2
        try simp only [Act.put, List.setIfInBounds_toArray, List.set_cons_zero, List.set_cons_succ]
        clear ownE hgrow7 hat7
        refine seq_call (i := 5) rfl (by kernel_rfl) (by rfl) (fun K hK => ?_)
        refine wp_append_src wc0 (.tmp 64) (.tmp 66) _ rfl w8.heap.size 27 i0 _ 2 32 Try.underlying23 HI.out HZ0.out HZ1.out HZ2.out rfl (by omega) v7 n (prCells ps) rfl hown7 (some ⟨eL, 0, none⟩) 1 1 [.string (chr X), .string (chr Y)] rfl (blkL.src1 rfl) (by intro u hu; simp at hu; rcases hu with rfl | rfl <;> rfl) (by unfold maxLen; omega) (by omega) HS.size ?_
        intro v9 w9 hown9 hgrow9 hat9
        have hown9 : w9.ownsRow w8.heap.size 27 2 v9 (n + 1) (prCells (ps ++ [(chr X, chr Y)])) := by
          rw [prCells_app]
          exact hown9
        obtain ⟨A9, c9, rfl, hc91, hc92, _, hrow9⟩ := own_sliceN hown9
        refine hK.out _ _ (HS.grown hgrow9 HS.size (fun x hx => (own_block hown7 x hx).1)) (fun HS2 => ?_)
        clear hK K HS
        have HS := HS2
        clear HS2
        try simp only [Act.put, List.setIfInBounds_toArray, List.set_cons_zero, List.set_cons_succ]
        clear hown7 hgrow9 hat9 hown9 blkL
        refine seq_call (i := 11) rfl (by kernel_rfl) (by rfl) (fun K hK => ?_)
        go_simp
        refine (PairsHold_any A9 (n + 1) c9 (ps ++ [(chr X, chr Y)]) _ _ _ _ _ HL1.out (by omega) HSX1.out hrow9).mono ?_
        rintro e w10 ⟨rfl, hb10⟩
        rw [HP1.out]
        go_simp
        refine hK.out _ _ (HS.trans (hb10.mono HS.size)) (fun HS2 => ?_)
        clear hK K HS
        have HS := HS2
        clear HS2
        try simp only [Act.put, List.setIfInBounds_toArray, List.set_cons_zero, List.set_cons_succ]
        clear hrow9 hb10 hc91 hc92
        refine seq_take (i := 12) (v := ?_) rfl (by kernel_rfl) (by kernel_rfl) (by kernel_rfl) (fun _ _ _ h => h) (by rfl) ?_ HS ?_
        rotate_left
        · intro W hW
          try dsimp only at hW
          obtain ⟨y0, y1, y2, y3⟩ := HC.out W hW
          (go_simp <;> first | done | with_reducible rfl)
        try simp only [Act.put, List.setIfInBounds_toArray, List.set_cons_zero, List.set_cons_succ]
        refine seq_take (i := 14) (v := ?_) rfl (by kernel_rfl) (by kernel_rfl) (by kernel_rfl) (fun _ _ _ h => h) (by rfl) ?_ HS ?_
        rotate_left
        · intro W hW
          try dsimp only at hW
          obtain ⟨y0, y1, y2, y3⟩ := HC.out W hW
          (go_simp <;> first | done | with_reducible rfl)
        try simp only [Act.put, List.setIfInBounds_toArray, List.set_cons_zero, List.set_cons_succ]
        refine seq_take (i := 16) (v := ?_) rfl (by kernel_rfl) (by kernel_rfl) (by kernel_rfl) (fun _ _ _ h => h) (by rfl) ?_ HS ?_
        rotate_left
        · intro W hW
          try dsimp only at hW
          obtain ⟨y0, y1, y2, y3⟩ := HC.out W hW
          (go_simp <;> first | done | with_reducible rfl)
        try simp only [Act.put, List.setIfInBounds_toArray, List.set_cons_zero, List.set_cons_succ]
        refine seq_take (i := 19) (v := ?_) rfl (by kernel_rfl) (by kernel_rfl) (by kernel_rfl) (fun _ _ _ h => h) (by rfl) ?_ HS ?_
        rotate_left
        · intro W hW
          try dsimp only at hW
          obtain ⟨y0, y1, y2, y3⟩ := HC.out W hW
          (go_simp <;> first | done | with_reducible rfl)
        try simp only [Act.put, List.setIfInBounds_toArray, List.set_cons_zero, List.set_cons_succ]
        refine seq_take (i := 20) (v := ?_) rfl (by kernel_rfl) (by kernel_rfl) (by kernel_rfl) (fun _ _ _ h => h) (by rfl) ?_ HS ?_
        rotate_left
        · intro W hW
          try dsimp only at hW
          obtain ⟨y0, y1, y2, y3⟩ := HC.out W hW
          (go_simp <;> first | done | with_reducible rfl)
        try simp only [Act.put, List.setIfInBounds_toArray, List.set_cons_zero, List.set_cons_succ]
        refine seq_take (i := 21) (v := ?_) rfl (by kernel_rfl) (by kernel_rfl) (by kernel_rfl) (fun _ _ _ h => h) (by rfl) ?_ HS ?_
        rotate_left
        · intro W hW
          try dsimp only at hW
          obtain ⟨y0, y1, y2, y3⟩ := HC.out W hW
          (go_simp <;> first | done | with_reducible rfl)
        try simp only [Act.put, List.setIfInBounds_toArray, List.set_cons_zero, List.set_cons_succ]
        refine seq_take (i := 22) (v := ?_) rfl (by kernel_rfl) (by kernel_rfl) (by kernel_rfl) (fun _ _ _ h => h) (by rfl) ?_ HS ?_
        rotate_left
        · intro W hW
          try dsimp only at hW
          obtain ⟨y0, y1, y2, y3⟩ := HC.out W hW
          (go_simp <;> first | done | with_reducible rfl)
        try simp only [Act.put, List.setIfInBounds_toArray, List.set_cons_zero, List.set_cons_succ]
        refine seq_take (i := 23) (v := ?_) rfl (by kernel_rfl) (by kernel_rfl) (by kernel_rfl) (fun _ _ _ h => h) (by rfl) ?_ HS ?_
        rotate_left
        · intro W hW
          try dsimp only at hW
          obtain ⟨y0, y1, y2, y3⟩ := HC.out W hW
          (go_simp <;> first | done | with_reducible rfl)
        try simp only [Act.put, List.setIfInBounds_toArray, List.set_cons_zero, List.set_cons_succ]
        refine seq_two (i := 13) (j := 17) rfl rfl (by kernel_rfl) (by rfl) (by rfl) (fun K hK => ?_) (fun K hK => ?_)
        · go_simp
          have ownE := own_empty w10 w8.heap.size 27 2 HS.size
          refine hK.out _ _ (HS.alloc HS.size _) (fun HS2 => ?_)
          clear hK K HS
          have HS := HS2
          clear HS2
          try simp only [Act.put, List.setIfInBounds_toArray, List.set_cons_zero, List.set_cons_succ]
          generalize w10.alloc (.cells #[] 27) = wa1 at *
          generalize w10.heap.size = eE at *
          refine seq_two (i := 15) (j := 17) rfl rfl (by kernel_rfl) (by rfl) (by rfl) (fun K hK => ?_) (fun K hK => ?_)
          · refine wp_append_src wa1 (.tmp 75) (.tmp 76) _ rfl w8.heap.size 27 i0 _ 2 32 Try.underlying23 HI.out HZ0.out HZ1.out HZ2.out rfl (by omega) (.slice (some ⟨eE, 0, none⟩) 0 0) 0 [] rfl ownE A n c (prCells ps) rfl (HSRC.out _ HS) HO.out (by unfold maxLen; omega) (by omega) HS.size ?_
            intro v7 wb1 hown7 hgrow7 hat7
            rw [Nat.zero_add, List.nil_append] at hown7
            refine hK.out _ _ (HS.grown hgrow7 HS.size (fun x hx => (own_block ownE x hx).1)) (fun HS2 => ?_)
            clear hK K HS
            have HS := HS2
            clear HS2
            try simp only [Act.put, List.setIfInBounds_toArray, List.set_cons_zero, List.set_cons_succ]
            clear ownE hgrow7 hat7
            refine seq_call (i := 17) rfl (by kernel_rfl) (by rfl) (fun K hK => ?_)
            go_simp
            have blkL := Blk.new wb1 27 #[.string ⟨#[]⟩, .string ⟨#[]⟩]
            have hown7 := own_alloc hown7 (.cells #[.string ⟨#[]⟩, .string ⟨#[]⟩] 27)
            refine hK.out _ _ (HS.alloc HS.size _) (fun HS2 => ?_)
            clear hK K HS
            have HS := HS2
            clear HS2
            try simp only [Act.put, List.setIfInBounds_toArray, List.set_cons_zero, List.set_cons_succ]
            generalize wb1.alloc (.cells #[.string ⟨#[]⟩, .string ⟨#[]⟩] 27) = wc1 at *
            generalize wb1.heap.size = eL at *
            refine seq_call (i := 18) rfl (by kernel_rfl) (by rfl) (fun K hK => ?_)
            refine wp_append_src wc1 (.tmp 77) (.tmp 79) _ rfl w8.heap.size 27 i0 _ 2 32 Try.underlying23 HI.out HZ0.out HZ1.out HZ2.out rfl (by omega) v7 n (prCells ps) rfl hown7 (some ⟨eL, 0, none⟩) 1 1 [.string ⟨#[]⟩, .string ⟨#[]⟩] rfl (blkL.src1 rfl) (by intro u hu; simp at hu; rcases hu with rfl | rfl <;> rfl) (by unfold maxLen; omega) (by omega) HS.size ?_
            intro v9 w9 hown9 hgrow9 hat9
            have hown9 : w9.ownsRow w8.heap.size 27 2 v9 (n + 1) (prCells (ps ++ [((⟨#[]⟩ : ByteArray), (⟨#[]⟩ : ByteArray))])) := by
              rw [prCells_app]
              exact hown9
            obtain ⟨A9, c9, rfl, hc91, hc92, _, hrow9⟩ := own_sliceN hown9
            refine hK.out _ _ (HS.grown hgrow9 HS.size (fun x hx => (own_block hown7 x hx).1)) (fun HS2 => ?_)
            clear hK K HS
            have HS := HS2
            clear HS2
            try simp only [Act.put, List.setIfInBounds_toArray, List.set_cons_zero, List.set_cons_succ]
            clear hown7 hgrow9 hat9 hown9 blkL
            refine seq_call (i := 24) rfl (by kernel_rfl) (by rfl) (fun K hK => ?_)
            go_simp
            refine (PairsHold_any A9 (n + 1) c9 (ps ++ [((⟨#[]⟩ : ByteArray), (⟨#[]⟩ : ByteArray))]) _ _ _ _ _ HL2.out (by omega) HSX2.out hrow9).mono ?_
            rintro e w10 ⟨rfl, hb10⟩
            rw [HP2.out]
            go_simp
            refine hK.out _ _ (HS.trans (hb10.mono HS.size)) (fun HS2 => ?_)
            clear hK K HS
            have HS := HS2
            clear HS2
            try simp only [Act.put, List.setIfInBounds_toArray, List.set_cons_zero, List.set_cons_succ]
            clear hrow9 hb10 hc91 hc92
            refine seq_take (i := 25) (v := ?_) rfl (by kernel_rfl) (by kernel_rfl) (by kernel_rfl) (fun _ _ _ h => h) (by rfl) ?_ HS ?_
            rotate_left
            · intro W hW
              try dsimp only at hW
              obtain ⟨y0, y1, y2, y3⟩ := HC.out W hW
              (go_simp <;> first | done | with_reducible rfl)
            try simp only [Act.put, List.setIfInBounds_toArray, List.set_cons_zero, List.set_cons_succ]
            refine seq_take (i := 26) (v := ?_) rfl (by kernel_rfl) (by kernel_rfl) (by kernel_rfl) (fun _ _ _ h => h) (by rfl) ?_ HS ?_
            rotate_left
            · intro W hW
              try dsimp only at hW
              obtain ⟨y0, y1, y2, y3⟩ := HC.out W hW
              (go_simp <;> first | done | with_reducible rfl)
            try simp only [Act.put, List.setIfInBounds_toArray, List.set_cons_zero, List.set_cons_succ]
            refine wpAnyH_done (by kernel_rfl) ?_ _
            go_simp
            go_wp2_with fail
            go_ret
            exact ⟨rfl, hbF8.trans (HS.mono hbF8.size)⟩
          · go_simp
            have blkL := Blk.new wa1 27 #[.string ⟨#[]⟩, .string ⟨#[]⟩]
            have hne : wa1.heap.size ≠ eE := fun e => by have := (own_block ownE eE (by simp [Value.ownBlock])).2; omega
            have ownE := own_alloc ownE (.cells #[.string ⟨#[]⟩, .string ⟨#[]⟩] 27)
            refine hK.out _ _ (HS.alloc HS.size _) (fun HS2 => ?_)
            clear hK K HS
            have HS := HS2
            clear HS2
            try simp only [Act.put, List.setIfInBounds_toArray, List.set_cons_zero, List.set_cons_succ]
            generalize wa1.alloc (.cells #[.string ⟨#[]⟩, .string ⟨#[]⟩] 27) = wb1 at *
            generalize wa1.heap.size = eL at *
            refine seq_call (i := 15) rfl (by kernel_rfl) (by rfl) (fun K hK => ?_)
            refine wp_append_src wb1 (.tmp 75) (.tmp 76) _ rfl w8.heap.size 27 i0 _ 2 32 Try.underlying23 HI.out HZ0.out HZ1.out HZ2.out rfl (by omega) (.slice (some ⟨eE, 0, none⟩) 0 0) 0 [] rfl ownE A n c (prCells ps) rfl (HSRC.out _ HS) HO.out (by unfold maxLen; omega) (by omega) HS.size ?_
            intro v7 wc1 hown7 hgrow7 hat7
            rw [Nat.zero_add, List.nil_append] at hown7
            have blkL : Blk wc1 eL 27 #[.string ⟨#[]⟩, .string ⟨#[]⟩] := (hgrow7.block eL blkL.lt (fun e => by simp [Value.ownBlock] at e; omega)).trans blkL
            refine hK.out _ _ (HS.grown hgrow7 HS.size (fun x hx => (own_block ownE x hx).1)) (fun HS2 => ?_)
            clear hK K HS
            have HS := HS2
            clear HS2
            try simp only [Act.put, List.setIfInBounds_toArray, List.set_cons_zero, List.set_cons_succ]
            clear ownE hgrow7 hat7
            refine seq_call (i := 18) rfl (by kernel_rfl) (by rfl) (fun K hK => ?_)
            refine wp_append_src wc1 (.tmp 77) (.tmp 79) _ rfl w8.heap.size 27 i0 _ 2 32 Try.underlying23 HI.out HZ0.out HZ1.out HZ2.out rfl (by omega) v7 n (prCells ps) rfl hown7 (some ⟨eL, 0, none⟩) 1 1 [.string ⟨#[]⟩, .string ⟨#[]⟩] rfl (blkL.src1 rfl) (by intro u hu; simp at hu; rcases hu with rfl | rfl <;> rfl) (by unfold maxLen; omega) (by omega) HS.size ?_
            intro v9 w9 hown9 hgrow9 hat9
            have hown9 : w9.ownsRow w8.heap.size 27 2 v9 (n + 1) (prCells (ps ++ [((⟨#[]⟩ : ByteArray), (⟨#[]⟩ : ByteArray))])) := by
              rw [prCells_app]
              exact hown9
            obtain ⟨A9, c9, rfl, hc91, hc92, _, hrow9⟩ := own_sliceN hown9
            refine hK.out _ _ (HS.grown hgrow9 HS.size (fun x hx => (own_block hown7 x hx).1)) (fun HS2 => ?_)
            clear hK K HS
            have HS := HS2
            clear HS2
            try simp only [Act.put, List.setIfInBounds_toArray, List.set_cons_zero, List.set_cons_succ]
            clear hown7 hgrow9 hat9 hown9 blkL
            refine seq_call (i := 24) rfl (by kernel_rfl) (by rfl) (fun K hK => ?_)
            go_simp
            refine (PairsHold_any A9 (n + 1) c9 (ps ++ [((⟨#[]⟩ : ByteArray), (⟨#[]⟩ : ByteArray))]) _ _ _ _ _ HL2.out (by omega) HSX2.out hrow9).mono ?_
            rintro e w10 ⟨rfl, hb10⟩
            rw [HP2.out]
            go_simp
            refine hK.out _ _ (HS.trans (hb10.mono HS.size)) (fun HS2 => ?_)
            clear hK K HS
            have HS := HS2
            clear HS2
            try simp only [Act.put, List.setIfInBounds_toArray, List.set_cons_zero, List.set_cons_succ]
            clear hrow9 hb10 hc91 hc92
            refine seq_take (i := 25) (v := ?_) rfl (by kernel_rfl) (by kernel_rfl) (by kernel_rfl) (fun _ _ _ h => h) (by rfl) ?_ HS ?_
            rotate_left
            · intro W hW
              try dsimp only at hW
              obtain ⟨y0, y1, y2, y3⟩ := HC.out W hW
              (go_simp <;> first | done | with_reducible rfl)
            try simp only [Act.put, List.setIfInBounds_toArray, List.set_cons_zero, List.set_cons_succ]
            refine seq_take (i := 26) (v := ?_) rfl (by kernel_rfl) (by kernel_rfl) (by kernel_rfl) (fun _ _ _ h => h) (by rfl) ?_ HS ?_
            rotate_left
            · intro W hW
              try dsimp only at hW
              obtain ⟨y0, y1, y2, y3⟩ := HC.out W hW
              (go_simp <;> first | done | with_reducible rfl)
            try simp only [Act.put, List.setIfInBounds_toArray, List.set_cons_zero, List.set_cons_succ]
            refine wpAnyH_done (by kernel_rfl) ?_ _
            go_simp
            go_wp2_with fail
            go_ret
            exact ⟨rfl, hbF8.trans (HS.mono hbF8.size)⟩
        · go_simp
          have blkL := Blk.new w10 27 #[.string ⟨#[]⟩, .string ⟨#[]⟩]
          refine hK.out _ _ (HS.alloc HS.size _) (fun HS2 => ?_)
          clear hK K HS
          have HS := HS2
          clear HS2
          try simp only [Act.put, List.setIfInBounds_toArray, List.set_cons_zero, List.set_cons_succ]
          generalize w10.alloc (.cells #[.string ⟨#[]⟩, .string ⟨#[]⟩] 27) = wa1 at *
          have ltL := blkL.lt
          generalize w10.heap.size = eL at *
          refine seq_call (i := 13) rfl (by kernel_rfl) (by rfl) (fun K hK => ?_)
          go_simp
          have ownE := own_empty wa1 w8.heap.size 27 2 HS.size
          have blkL := blkL.alloc (.cells #[] 27)
          have hne : eL ≠ wa1.heap.size := fun e => by have := ltL; omega
          refine hK.out _ _ (HS.alloc HS.size _) (fun HS2 => ?_)
          clear hK K HS
          have HS := HS2
          clear HS2
          try simp only [Act.put, List.setIfInBounds_toArray, List.set_cons_zero, List.set_cons_succ]
          generalize wa1.alloc (.cells #[] 27) = wb1 at *
          generalize wa1.heap.size = eE at *
          refine seq_call (i := 15) rfl (by kernel_rfl) (by rfl) (fun K hK => ?_)
          refine wp_append_src wb1 (.tmp 75) (.tmp 76) _ rfl w8.heap.size 27 i0 _ 2 32 Try.underlying23 HI.out HZ0.out HZ1.out HZ2.out rfl (by omega) (.slice (some ⟨eE, 0, none⟩) 0 0) 0 [] rfl ownE A n c (prCells ps) rfl (HSRC.out _ HS) HO.out (by unfold maxLen; omega) (by omega) HS.size ?_
          intro v7 wc1 hown7 hgrow7 hat7
          rw [Nat.zero_add, List.nil_append] at hown7
          have blkL : Blk wc1 eL 27 #[.string ⟨#[]⟩, .string ⟨#[]⟩] := (hgrow7.block eL blkL.lt (fun e => by simp [Value.ownBlock] at e; omega)).trans blkL
          refine hK.out _ _ (HS.grown hgrow7 HS.size (fun x hx => (own_block ownE x hx).1)) (fun HS2 => ?_)
          clear hK K HS
          have HS := HS2
          clear HS2
          try simp only [Act.put, List.setIfInBounds_toArray, List.set_cons_zero, List.set_cons_succ]
          clear ownE hgrow7 hat7
          refine seq_call (i := 18) rfl (by kernel_rfl) (by rfl) (fun K hK => ?_)
          refine wp_append_src wc1 (.tmp 77) (.tmp 79) _ rfl w8.heap.size 27 i0 _ 2 32 Try.underlying23 HI.out HZ0.out HZ1.out HZ2.out rfl (by omega) v7 n (prCells ps) rfl hown7 (some ⟨eL, 0, none⟩) 1 1 [.string ⟨#[]⟩, .string ⟨#[]⟩] rfl (blkL.src1 rfl) (by intro u hu; simp at hu; rcases hu with rfl | rfl <;> rfl) (by unfold maxLen; omega) (by omega) HS.size ?_
          intro v9 w9 hown9 hgrow9 hat9
          have hown9 : w9.ownsRow w8.heap.size 27 2 v9 (n + 1) (prCells (ps ++ [((⟨#[]⟩ : ByteArray), (⟨#[]⟩ : ByteArray))])) := by
            rw [prCells_app]
            exact hown9
          obtain ⟨A9, c9, rfl, hc91, hc92, _, hrow9⟩ := own_sliceN hown9
          refine hK.out _ _ (HS.grown hgrow9 HS.size (fun x hx => (own_block hown7 x hx).1)) (fun HS2 => ?_)
          clear hK K HS
          have HS := HS2
          clear HS2
          try simp only [Act.put, List.setIfInBounds_toArray, List.set_cons_zero, List.set_cons_succ]
          clear hown7 hgrow9 hat9 hown9 blkL
          refine seq_call (i := 24) rfl (by kernel_rfl) (by rfl) (fun K hK => ?_)
          go_simp
          refine (PairsHold_any A9 (n + 1) c9 (ps ++ [((⟨#[]⟩ : ByteArray), (⟨#[]⟩ : ByteArray))]) _ _ _ _ _ HL2.out (by omega) HSX2.out hrow9).mono ?_
          rintro e w10 ⟨rfl, hb10⟩
          rw [HP2.out]
          go_simp
          refine hK.out _ _ (HS.trans (hb10.mono HS.size)) (fun HS2 => ?_)
          clear hK K HS
          have HS := HS2
          clear HS2
          try simp only [Act.put, List.setIfInBounds_toArray, List.set_cons_zero, List.set_cons_succ]
          clear hrow9 hb10 hc91 hc92
          refine seq_take (i := 25) (v := ?_) rfl (by kernel_rfl) (by kernel_rfl) (by kernel_rfl) (fun _ _ _ h => h) (by rfl) ?_ HS ?_
          rotate_left
          · intro W hW
            try dsimp only at hW
            obtain ⟨y0, y1, y2, y3⟩ := HC.out W hW
            (go_simp <;> first | done | with_reducible rfl)
          try simp only [Act.put, List.setIfInBounds_toArray, List.set_cons_zero, List.set_cons_succ]
          refine seq_take (i := 26) (v := ?_) rfl (by kernel_rfl) (by kernel_rfl) (by kernel_rfl) (fun _ _ _ h => h) (by rfl) ?_ HS ?_
          rotate_left
          · intro W hW
            try dsimp only at hW
            obtain ⟨y0, y1, y2, y3⟩ := HC.out W hW
            (go_simp <;> first | done | with_reducible rfl)
          try simp only [Act.put, List.setIfInBounds_toArray, List.set_cons_zero, List.set_cons_succ]
          refine wpAnyH_done (by kernel_rfl) ?_ _
          go_simp
          go_wp2_with fail
          go_ret
          exact ⟨rfl, hbF8.trans (HS.mono hbF8.size)⟩
    · go_simp
      have blkL := Blk.new w8d 27 #[.string (chr X), .string (chr Y)]
      refine hK.out _ _ (HS.alloc HS.size _) (fun HS2 => ?_)
      clear hK K HS
      have HS := HS2
      clear HS2
      try simp only [Act.put, List.setIfInBounds_toArray, List.set_cons_zero, List.set_cons_succ]
      generalize w8d.alloc (.cells #[.string (chr X), .string (chr Y)] 27) = wa0 at *
      have ltL := blkL.lt
      generalize w8d.heap.size = eL at *
      refine seq_call (i := 0) rfl (by kernel_rfl) (by rfl) (fun K hK => ?_)
      go_simp
      have ownE := own_empty wa0 w8.heap.size 27 2 HS.size
      have blkL := blkL.alloc (.cells #[] 27)
      have hne : eL ≠ wa0.heap.size := fun e => by have := ltL; omega
      refine hK.out _ _ (HS.alloc HS.size _) (fun HS2 => ?_)
      clear hK K HS
      have HS := HS2
      clear HS2
      try simp only [Act.put, List.setIfInBounds_toArray, List.set_cons_zero, List.set_cons_succ]
      generalize wa0.alloc (.cells #[] 27) = wb0 at *
      generalize wa0.heap.size = eE at *
      refine seq_call (i := 2) rfl (by kernel_rfl) (by rfl) (fun K hK => ?_)
      refine wp_append_src wb0 (.tmp 62) (.tmp 63) _ rfl w8.heap.size 27 i0 _ 2 32 Try.underlying23 HI.out HZ0.out HZ1.out HZ2.out rfl (by omega) (.slice (some ⟨eE, 0, none⟩) 0 0) 0 [] rfl ownE A n c (prCells ps) rfl (HSRC.out _ HS) HO.out (by unfold maxLen; omega) (by omega) HS.size ?_
      intro v7 wc0 hown7 hgrow7 hat7
      rw [Nat.zero_add, List.nil_append] at hown7
      have blkL : Blk wc0 eL 27 #[.string (chr X), .string (chr Y)] := (hgrow7.block eL blkL.lt (fun e => by simp [Value.ownBlock] at e; omega)).trans blkL
      refine hK.out _ _ (HS.grown hgrow7 HS.size (fun x hx => (own_block ownE x hx).1)) (fun HS2 => ?_)
      clear hK K HS
      have HS := HS2
      clear HS2
      try simp only [Act.put, List.setIfInBounds_toArray, List.set_cons_zero, List.set_cons_succ]
      clear ownE hgrow7 hat7
      refine seq_call (i := 5) rfl (by kernel_rfl) (by rfl) (fun K hK => ?_)
      refine wp_append_src wc0 (.tmp 64) (.tmp 66) _ rfl w8.heap.size 27 i0 _ 2 32 Try.underlying23 HI.out HZ0.out HZ1.out HZ2.out rfl (by omega) v7 n (prCells ps) rfl hown7 (some ⟨eL, 0, none⟩) 1 1 [.string (chr X), .string (chr Y)] rfl (blkL.src1 rfl) (by intro u hu; simp at hu; rcases hu with rfl | rfl <;> rfl) (by unfold maxLen; omega) (by omega) HS.size ?_
      intro v9 w9 hown9 hgrow9 hat9
      have hown9 : w9.ownsRow w8.heap.size 27 2 v9 (n + 1) (prCells (ps ++ [(chr X, chr Y)])) := by
        rw [prCells_app]
        exact hown9
      obtain ⟨A9, c9, rfl, hc91, hc92, _, hrow9⟩ := own_sliceN hown9
      refine hK.out _ _ (HS.grown hgrow9 HS.size (fun x hx => (own_block hown7 x hx).1)) (fun HS2 => ?_)
      clear hK K HS
      have HS := HS2
      clear HS2
      try simp only [Act.put, List.setIfInBounds_toArray, List.set_cons_zero, List.set_cons_succ]
      clear hown7 hgrow9 hat9 hown9 blkL
      refine seq_call (i := 11) rfl (by kernel_rfl) (by rfl) (fun K hK => ?_)
      go_simp
      refine (PairsHold_any A9 (n + 1) c9 (ps ++ [(chr X, chr Y)]) _ _ _ _ _ HL1.out (by omega) HSX1.out hrow9).mono ?_
      rintro e w10 ⟨rfl, hb10⟩
      rw [HP1.out]
      go_simp
      refine hK.out _ _ (HS.trans (hb10.mono HS.size)) (fun HS2 => ?_)
      clear hK K HS
      have HS := HS2
      clear HS2
      try simp only [Act.put, List.setIfInBounds_toArray, List.set_cons_zero, List.set_cons_succ]
      clear hrow9 hb10 hc91 hc92
      refine seq_take (i := 12) (v := ?_) rfl (by kernel_rfl) (by kernel_rfl) (by kernel_rfl) (fun _ _ _ h => h) (by rfl) ?_ HS ?_
      rotate_left
      · intro W hW
        try dsimp only at hW
        obtain ⟨y0, y1, y2, y3⟩ := HC.out W hW
        (go_simp <;> first | done | with_reducible rfl)
      try simp only [Act.put, List.setIfInBounds_toArray, List.set_cons_zero, List.set_cons_succ]
      refine seq_take (i := 14) (v := ?_) rfl (by kernel_rfl) (by kernel_rfl) (by kernel_rfl) (fun _ _ _ h => h) (by rfl) ?_ HS ?_
      rotate_left
      · intro W hW
        try dsimp only at hW
        obtain ⟨y0, y1, y2, y3⟩ := HC.out W hW
        (go_simp <;> first | done | with_reducible rfl)
      try simp only [Act.put, List.setIfInBounds_toArray, List.set_cons_zero, List.set_cons_succ]
      refine seq_take (i := 16) (v := ?_) rfl (by kernel_rfl) (by kernel_rfl) (by kernel_rfl) (fun _ _ _ h => h) (by rfl) ?_ HS ?_
      rotate_left
      · intro W hW
        try dsimp only at hW
        obtain ⟨y0, y1, y2, y3⟩ := HC.out W hW
        (go_simp <;> first | done | with_reducible rfl)
      try simp only [Act.put, List.setIfInBounds_toArray, List.set_cons_zero, List.set_cons_succ]
      refine seq_take (i := 19) (v := ?_) rfl (by kernel_rfl) (by kernel_rfl) (by kernel_rfl) (fun _ _ _ h => h) (by rfl) ?_ HS ?_
      rotate_left
      · intro W hW
        try dsimp only at hW
        obtain ⟨y0, y1, y2, y3⟩ := HC.out W hW
        (go_simp <;> first | done | with_reducible rfl)
      try simp only [Act.put, List.setIfInBounds_toArray, List.set_cons_zero, List.set_cons_succ]
      refine seq_take (i := 20) (v := ?_) rfl (by kernel_rfl) (by kernel_rfl) (by kernel_rfl) (fun _ _ _ h => h) (by rfl) ?_ HS ?_
      rotate_left
      · intro W hW
        try dsimp only at hW
        obtain ⟨y0, y1, y2, y3⟩ := HC.out W hW
        (go_simp <;> first | done | with_reducible rfl)
      try simp only [Act.put, List.setIfInBounds_toArray, List.set_cons_zero, List.set_cons_succ]
      refine seq_take (i := 21) (v := ?_) rfl (by kernel_rfl) (by kernel_rfl) (by kernel_rfl) (fun _ _ _ h => h) (by rfl) ?_ HS ?_
      rotate_left
      · intro W hW
        try dsimp only at hW
        obtain ⟨y0, y1, y2, y3⟩ := HC.out W hW
        (go_simp <;> first | done | with_reducible rfl)
      try simp only [Act.put, List.setIfInBounds_toArray, List.set_cons_zero, List.set_cons_succ]
      refine seq_take (i := 22) (v := ?_) rfl (by kernel_rfl) (by kernel_rfl) (by kernel_rfl) (fun _ _ _ h => h) (by rfl) ?_ HS ?_
      rotate_left
      · intro W hW
        try dsimp only at hW
        obtain ⟨y0, y1, y2, y3⟩ := HC.out W hW
        (go_simp <;> first | done | with_reducible rfl)
      try simp only [Act.put, List.setIfInBounds_toArray, List.set_cons_zero, List.set_cons_succ]
      refine seq_take (i := 23) (v := ?_) rfl (by kernel_rfl) (by kernel_rfl) (by kernel_rfl) (fun _ _ _ h => h) (by rfl) ?_ HS ?_
      rotate_left
      · intro W hW
        try dsimp only at hW
        obtain ⟨y0, y1, y2, y3⟩ := HC.out W hW
        (go_simp <;> first | done | with_reducible rfl)
      try simp only [Act.put, List.setIfInBounds_toArray, List.set_cons_zero, List.set_cons_succ]
      refine seq_two (i := 13) (j := 17) rfl rfl (by kernel_rfl) (by rfl) (by rfl) (fun K hK => ?_) (fun K hK => ?_)
      · go_simp
        have ownE := own_empty w10 w8.heap.size 27 2 HS.size
        refine hK.out _ _ (HS.alloc HS.size _) (fun HS2 => ?_)
        clear hK K HS
        have HS := HS2
        clear HS2
        try simp only [Act.put, List.setIfInBounds_toArray, List.set_cons_zero, List.set_cons_succ]
        generalize w10.alloc (.cells #[] 27) = wa1 at *
        generalize w10.heap.size = eE at *
        refine seq_two (i := 15) (j := 17) rfl rfl (by kernel_rfl) (by rfl) (by rfl) (fun K hK => ?_) (fun K hK => ?_)
        · refine wp_append_src wa1 (.tmp 75) (.tmp 76) _ rfl w8.heap.size 27 i0 _ 2 32 Try.underlying23 HI.out HZ0.out HZ1.out HZ2.out rfl (by omega) (.slice (some ⟨eE, 0, none⟩) 0 0) 0 [] rfl ownE A n c (prCells ps) rfl (HSRC.out _ HS) HO.out (by unfold maxLen; omega) (by omega) HS.size ?_
          intro v7 wb1 hown7 hgrow7 hat7
          rw [Nat.zero_add, List.nil_append] at hown7
          refine hK.out _ _ (HS.grown hgrow7 HS.size (fun x hx => (own_block ownE x hx).1)) (fun HS2 => ?_)
          clear hK K HS
          have HS := HS2
          clear HS2
          try simp only [Act.put, List.setIfInBounds_toArray, List.set_cons_zero, List.set_cons_succ]
          clear ownE hgrow7 hat7
          refine seq_call (i := 17) rfl (by kernel_rfl) (by rfl) (fun K hK => ?_)
          go_simp
          have blkL := Blk.new wb1 27 #[.string ⟨#[]⟩, .string ⟨#[]⟩]
          have hown7 := own_alloc hown7 (.cells #[.string ⟨#[]⟩, .string ⟨#[]⟩] 27)
          refine hK.out _ _ (HS.alloc HS.size _) (fun HS2 => ?_)
          clear hK K HS
          have HS := HS2
          clear HS2
          try simp only [Act.put, List.setIfInBounds_toArray, List.set_cons_zero, List.set_cons_succ]
          generalize wb1.alloc (.cells #[.string ⟨#[]⟩, .string ⟨#[]⟩] 27) = wc1 at *
          generalize wb1.heap.size = eL at *
          refine seq_call (i := 18) rfl (by kernel_rfl) (by rfl) (fun K hK => ?_)
          refine wp_append_src wc1 (.tmp 77) (.tmp 79) _ rfl w8.heap.size 27 i0 _ 2 32 Try.underlying23 HI.out HZ0.out HZ1.out HZ2.out rfl (by omega) v7 n (prCells ps) rfl hown7 (some ⟨eL, 0, none⟩) 1 1 [.string ⟨#[]⟩, .string ⟨#[]⟩] rfl (blkL.src1 rfl) (by intro u hu; simp at hu; rcases hu with rfl | rfl <;> rfl) (by unfold maxLen; omega) (by omega) HS.size ?_
          intro v9 w9 hown9 hgrow9 hat9
          have hown9 : w9.ownsRow w8.heap.size 27 2 v9 (n + 1) (prCells (ps ++ [((⟨#[]⟩ : ByteArray), (⟨#[]⟩ : ByteArray))])) := by
            rw [prCells_app]
            exact hown9
          obtain ⟨A9, c9, rfl, hc91, hc92, _, hrow9⟩ := own_sliceN hown9
          refine hK.out _ _ (HS.grown hgrow9 HS.size (fun x hx => (own_block hown7 x hx).1)) (fun HS2 => ?_)
          clear hK K HS
          have HS := HS2
          clear HS2
          try simp only [Act.put, List.setIfInBounds_toArray, List.set_cons_zero, List.set_cons_succ]
          clear hown7 hgrow9 hat9 hown9 blkL
          refine seq_call (i := 24) rfl (by kernel_rfl) (by rfl) (fun K hK => ?_)
          go_simp
          refine (PairsHold_any A9 (n + 1) c9 (ps ++ [((⟨#[]⟩ : ByteArray), (⟨#[]⟩ : ByteArray))]) _ _ _ _ _ HL2.out (by omega) HSX2.out hrow9).mono ?_
          rintro e w10 ⟨rfl, hb10⟩
          rw [HP2.out]
          go_simp
          refine hK.out _ _ (HS.trans (hb10.mono HS.size)) (fun HS2 => ?_)
          clear hK K HS
          have HS := HS2
          clear HS2
          try simp only [Act.put, List.setIfInBounds_toArray, List.set_cons_zero, List.set_cons_succ]
          clear hrow9 hb10 hc91 hc92
          refine seq_take (i := 25) (v := ?_) rfl (by kernel_rfl) (by kernel_rfl) (by kernel_rfl) (fun _ _ _ h => h) (by rfl) ?_ HS ?_
          rotate_left
          · intro W hW
            try dsimp only at hW
            obtain ⟨y0, y1, y2, y3⟩ := HC.out W hW
            (go_simp <;> first | done | with_reducible rfl)
          try simp only [Act.put, List.setIfInBounds_toArray, List.set_cons_zero, List.set_cons_succ]
          refine seq_take (i := 26) (v := ?_) rfl (by kernel_rfl) (by kernel_rfl) (by kernel_rfl) (fun _ _ _ h => h) (by rfl) ?_ HS ?_
          rotate_left
          · intro W hW
            try dsimp only at hW
            obtain ⟨y0, y1, y2, y3⟩ := HC.out W hW
            (go_simp <;> first | done | with_reducible rfl)
          try simp only [Act.put, List.setIfInBounds_toArray, List.set_cons_zero, List.set_cons_succ]
          refine wpAnyH_done (by kernel_rfl) ?_ _
          go_simp
          go_wp2_with fail
          go_ret
          exact ⟨rfl, hbF8.trans (HS.mono hbF8.size)⟩
        · go_simp
          have blkL := Blk.new wa1 27 #[.string ⟨#[]⟩, .string ⟨#[]⟩]
          have hne : wa1.heap.size ≠ eE := fun e => by have := (own_block ownE eE (by simp [Value.ownBlock])).2; omega
          have ownE := own_alloc ownE (.cells #[.string ⟨#[]⟩, .string ⟨#[]⟩] 27)
          refine hK.out _ _ (HS.alloc HS.size _) (fun HS2 => ?_)
          clear hK K HS
          have HS := HS2
          clear HS2
          try simp only [Act.put, List.setIfInBounds_toArray, List.set_cons_zero, List.set_cons_succ]
          generalize wa1.alloc (.cells #[.string ⟨#[]⟩, .string ⟨#[]⟩] 27) = wb1 at *
          generalize wa1.heap.size = eL at *
          refine seq_call (i := 15) rfl (by kernel_rfl) (by rfl) (fun K hK => ?_)
          refine wp_append_src wb1 (.tmp 75) (.tmp 76) _ rfl w8.heap.size 27 i0 _ 2 32 Try.underlying23 HI.out HZ0.out HZ1.out HZ2.out rfl (by omega) (.slice (some ⟨eE, 0, none⟩) 0 0) 0 [] rfl ownE A n c (prCells ps) rfl (HSRC.out _ HS) HO.out (by unfold maxLen; omega) (by omega) HS.size ?_
          intro v7 wc1 hown7 hgrow7 hat7
          rw [Nat.zero_add, List.nil_append] at hown7
          have blkL : Blk wc1 eL 27 #[.string ⟨#[]⟩, .string ⟨#[]⟩] := (hgrow7.block eL blkL.lt (fun e => by simp [Value.ownBlock] at e; omega)).trans blkL
          refine hK.out _ _ (HS.grown hgrow7 HS.size (fun x hx => (own_block ownE x hx).1)) (fun HS2 => ?_)
          clear hK K HS
          have HS := HS2
          clear HS2
          try simp only [Act.put, List.setIfInBounds_toArray, List.set_cons_zero, List.set_cons_succ]
          clear ownE hgrow7 hat7
          refine seq_call (i := 18) rfl (by kernel_rfl) (by rfl) (fun K hK => ?_)
          refine wp_append_src wc1 (.tmp 77) (.tmp 79) _ rfl w8.heap.size 27 i0 _ 2 32 Try.underlying23 HI.out HZ0.out HZ1.out HZ2.out rfl (by omega) v7 n (prCells ps) rfl hown7 (some ⟨eL, 0, none⟩) 1 1 [.string ⟨#[]⟩, .string ⟨#[]⟩] rfl (blkL.src1 rfl) (by intro u hu; simp at hu; rcases hu with rfl | rfl <;> rfl) (by unfold maxLen; omega) (by omega) HS.size ?_
          intro v9 w9 hown9 hgrow9 hat9
          have hown9 : w9.ownsRow w8.heap.size 27 2 v9 (n + 1) (prCells (ps ++ [((⟨#[]⟩ : ByteArray), (⟨#[]⟩ : ByteArray))])) := by
            rw [prCells_app]
            exact hown9
          obtain ⟨A9, c9, rfl, hc91, hc92, _, hrow9⟩ := own_sliceN hown9
          refine hK.out _ _ (HS.grown hgrow9 HS.size (fun x hx => (own_block hown7 x hx).1)) (fun HS2 => ?_)
          clear hK K HS
          have HS := HS2
          clear HS2
          try simp only [Act.put, List.setIfInBounds_toArray, List.set_cons_zero, List.set_cons_succ]
          clear hown7 hgrow9 hat9 hown9 blkL
          refine seq_call (i := 24) rfl (by kernel_rfl) (by rfl) (fun K hK => ?_)
          go_simp
          refine (PairsHold_any A9 (n + 1) c9 (ps ++ [((⟨#[]⟩ : ByteArray), (⟨#[]⟩ : ByteArray))]) _ _ _ _ _ HL2.out (by omega) HSX2.out hrow9).mono ?_
          rintro e w10 ⟨rfl, hb10⟩
          rw [HP2.out]
          go_simp
          refine hK.out _ _ (HS.trans (hb10.mono HS.size)) (fun HS2 => ?_)
          clear hK K HS
          have HS := HS2
          clear HS2
          try simp only [Act.put, List.setIfInBounds_toArray, List.set_cons_zero, List.set_cons_succ]
          clear hrow9 hb10 hc91 hc92
          refine seq_take (i := 25) (v := ?_) rfl (by kernel_rfl) (by kernel_rfl) (by kernel_rfl) (fun _ _ _ h => h) (by rfl) ?_ HS ?_
          rotate_left
          · intro W hW
            try dsimp only at hW
            obtain ⟨y0, y1, y2, y3⟩ := HC.out W hW
            (go_simp <;> first | done | with_reducible rfl)
          try simp only [Act.put, List.setIfInBounds_toArray, List.set_cons_zero, List.set_cons_succ]
          refine seq_take (i := 26) (v := ?_) rfl (by kernel_rfl) (by kernel_rfl) (by kernel_rfl) (fun _ _ _ h => h) (by rfl) ?_ HS ?_
          rotate_left
          · intro W hW
            try dsimp only at hW
            obtain ⟨y0, y1, y2, y3⟩ := HC.out W hW
            (go_simp <;> first | done | with_reducible rfl)
          try simp only [Act.put, List.setIfInBounds_toArray, List.set_cons_zero, List.set_cons_succ]
          refine wpAnyH_done (by kernel_rfl) ?_ _
          go_simp
          go_wp2_with fail
          go_ret
          exact ⟨rfl, hbF8.trans (HS.mono hbF8.size)⟩
      · go_simp
        have blkL := Blk.new w10 27 #[.string ⟨#[]⟩, .string ⟨#[]⟩]
        refine hK.out _ _ (HS.alloc HS.size _) (fun HS2 => ?_)
        clear hK K HS
        have HS := HS2
        clear HS2
        try simp only [Act.put, List.setIfInBounds_toArray, List.set_cons_zero, List.set_cons_succ]
        generalize w10.alloc (.cells #[.string ⟨#[]⟩, .string ⟨#[]⟩] 27) = wa1 at *
        have ltL := blkL.lt
        generalize w10.heap.size = eL at *
        refine seq_call (i := 13) rfl (by kernel_rfl) (by rfl) (fun K hK => ?_)
        go_simp
        have ownE := own_empty wa1 w8.heap.size 27 2 HS.size
        have blkL := blkL.alloc (.cells #[] 27)
        have hne : eL ≠ wa1.heap.size := fun e => by have := ltL; omega
        refine hK.out _ _ (HS.alloc HS.size _) (fun HS2 => ?_)
        clear hK K HS
        have HS := HS2
        clear HS2
        try simp only [Act.put, List.setIfInBounds_toArray, List.set_cons_zero, List.set_cons_succ]
        generalize wa1.alloc (.cells #[] 27) = wb1 at *
        generalize wa1.heap.size = eE at *
        refine seq_call (i := 15) rfl (by kernel_rfl) (by rfl) (fun K hK => ?_)
        refine wp_append_src wb1 (.tmp 75) (.tmp 76) _ rfl w8.heap.size 27 i0 _ 2 32 Try.underlying23 HI.out HZ0.out HZ1.out HZ2.out rfl (by omega) (.slice (some ⟨eE, 0, none⟩) 0 0) 0 [] rfl ownE A n c (prCells ps) rfl (HSRC.out _ HS) HO.out (by unfold maxLen; omega) (by omega) HS.size ?_
        intro v7 wc1 hown7 hgrow7 hat7
        rw [Nat.zero_add, List.nil_append] at hown7
        have blkL : Blk wc1 eL 27 #[.string ⟨#[]⟩, .string ⟨#[]⟩] := (hgrow7.block eL blkL.lt (fun e => by simp [Value.ownBlock] at e; omega)).trans blkL
        refine hK.out _ _ (HS.grown hgrow7 HS.size (fun x hx => (own_block ownE x hx).1)) (fun HS2 => ?_)
        clear hK K HS
        have HS := HS2
        clear HS2
        try simp only [Act.put, List.setIfInBounds_toArray, List.set_cons_zero, List.set_cons_succ]
        clear ownE hgrow7 hat7
        refine seq_call (i := 18) rfl (by kernel_rfl) (by rfl) (fun K hK => ?_)
        refine wp_append_src wc1 (.tmp 77) (.tmp 79) _ rfl w8.heap.size 27 i0 _ 2 32 Try.underlying23 HI.out HZ0.out HZ1.out HZ2.out rfl (by omega) v7 n (prCells ps) rfl hown7 (some ⟨eL, 0, none⟩) 1 1 [.string ⟨#[]⟩, .string ⟨#[]⟩] rfl (blkL.src1 rfl) (by intro u hu; simp at hu; rcases hu with rfl | rfl <;> rfl) (by unfold maxLen; omega) (by omega) HS.size ?_
        intro v9 w9 hown9 hgrow9 hat9
        have hown9 : w9.ownsRow w8.heap.size 27 2 v9 (n + 1) (prCells (ps ++ [((⟨#[]⟩ : ByteArray), (⟨#[]⟩ : ByteArray))])) := by
          rw [prCells_app]
          exact hown9
        obtain ⟨A9, c9, rfl, hc91, hc92, _, hrow9⟩ := own_sliceN hown9
        refine hK.out _ _ (HS.grown hgrow9 HS.size (fun x hx => (own_block hown7 x hx).1)) (fun HS2 => ?_)
        clear hK K HS
        have HS := HS2
        clear HS2
        try simp only [Act.put, List.setIfInBounds_toArray, List.set_cons_zero, List.set_cons_succ]
        clear hown7 hgrow9 hat9 hown9 blkL
        refine seq_call (i := 24) rfl (by kernel_rfl) (by rfl) (fun K hK => ?_)
        go_simp
        refine (PairsHold_any A9 (n + 1) c9 (ps ++ [((⟨#[]⟩ : ByteArray), (⟨#[]⟩ : ByteArray))]) _ _ _ _ _ HL2.out (by omega) HSX2.out hrow9).mono ?_
        rintro e w10 ⟨rfl, hb10⟩
        rw [HP2.out]
        go_simp
        refine hK.out _ _ (HS.trans (hb10.mono HS.size)) (fun HS2 => ?_)
        clear hK K HS
        have HS := HS2
        clear HS2
        try simp only [Act.put, List.setIfInBounds_toArray, List.set_cons_zero, List.set_cons_succ]
        clear hrow9 hb10 hc91 hc92
        refine seq_take (i := 25) (v := ?_) rfl (by kernel_rfl) (by kernel_rfl) (by kernel_rfl) (fun _ _ _ h => h) (by rfl) ?_ HS ?_
        rotate_left
        · intro W hW
          try dsimp only at hW
          obtain ⟨y0, y1, y2, y3⟩ := HC.out W hW
          (go_simp <;> first | done | with_reducible rfl)
        try simp only [Act.put, List.setIfInBounds_toArray, List.set_cons_zero, List.set_cons_succ]
        refine seq_take (i := 26) (v := ?_) rfl (by kernel_rfl) (by kernel_rfl) (by kernel_rfl) (fun _ _ _ h => h) (by rfl) ?_ HS ?_
        rotate_left
        · intro W hW
          try dsimp only at hW
          obtain ⟨y0, y1, y2, y3⟩ := HC.out W hW
          (go_simp <;> first | done | with_reducible rfl)
        try simp only [Act.put, List.setIfInBounds_toArray, List.set_cons_zero, List.set_cons_succ]
        refine wpAnyH_done (by kernel_rfl) ?_ _
        go_simp
        go_wp2_with fail
        go_ret
        exact ⟨rfl, hbF8.trans (HS.mono hbF8.size)⟩

end Go.Proofs.Ytkpgbombikgffaa
