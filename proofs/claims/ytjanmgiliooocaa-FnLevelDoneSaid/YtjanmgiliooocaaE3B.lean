/- Who gets the next seat: what SeatsNext of the program returns. The conditions stand in each theorem. -/
import Derived.Test.YtjanmgiliooocaaE3
import Derived.Test.YtjanmgiliooocaaSeq
namespace Go.Proofs.Ytjanmgiliooocaa
open Go.RowKit Go.ChangeShapes
open Man
set_option linter.unusedVariables false

set_option maxHeartbeats 8000000 in
theorem SeatsNext_yes (A : Option Addr) (n c : Nat) (v : List Int) (G : Option Addr) (d : Nat) (g : List Int) (me : Int) (Lo : Option Addr) (f : Nat) (lots : List Int) (w : World) (hb : snB v g me lots = true) (hn : v.length = n) (hf1 : n ≤ f) (hf2 : f ≤ maxLen)
    (hv : Row w w.heap.size A (v.map (Value.int .i64))) (hg : Row w w.heap.size G (g.map (Value.int .i64))) (hl : Row w w.heap.size Lo (lots.map (Value.int .i64))) :
    Calls Try.prog 24 #[.slice A n c, .slice G n d, .int .i64 me, .slice Lo n f] w (Gives w (nextL v g me lots)) := by
  obtain ⟨b1, b2, b3, b4, b5, b6, b7⟩ := snB_of hb
  obtain ⟨e1, e2, e3, n1, n5, vb, gb, lb, hme⟩ := fit_of hb
  rw [hn] at e2 e3 n1 n5 lb
  have E1 := Lib.hid hn
  have E2 := Lib.hid e2
  have E3 := Lib.hid e3
  have VB := Lib.hid vb
  have GB := Lib.hid gb
  have LB := Lib.hid lb
  have hl0 : 0 < lots.length := by omega
  have hmb := meB_yes hme
  have hsv : svB v g = true := by
    have := hb
    unfold snB at this
    rw [Bool.and_eq_true] at this
    exact this.1
  have HC1 := Lib.hid (seatsValid_any A n c v G n d g w hn (by omega) hv e2 (by omega) hg)
  have HC3 := Lib.hid (LotsValid_any Lo n f lots w e3 (by omega) hf1 hf2 hl)
  obtain ⟨b0, off0, rfl, hbw0, hc0⟩ := int_at hl hl0
  rw [Nat.add_zero] at hc0
  have hz0 := lb _ (List.getElem_mem hl0)
  have H0 : Hid (nextL v g me lots = bestF v g me lots[0] lots) := by
    cases lots with
    | nil => simp at hl0
    | cons z l => exact rfl
  clear vb gb lb e1 e2 e3 b1 b2 b3 b4 b5 b7 hb hn hf1 hf2
  generalize lots[0] = z0 at *
  obtain ⟨Z0, rfl⟩ := Int.eq_ofNat_of_zero_le hz0.1
  go_enter Try.func24, Try.ntmps24
  go_wp2_with fail
  refine HC1.out.mono ?_
  rintro e w' ⟨rfl, rfl⟩
  rw [hsv]
  go_wp2_with fail
  refine (isMethod_any me _).mono ?_
  rintro e w' ⟨rfl, rfl⟩
  rw [hmb]
  go_wp2_with fail
  refine HC3.out.mono ?_
  rintro e w' ⟨rfl, rfl⟩
  rw [b6]
  clear hsv hmb b6 HC1 HC3
  go_wp2_with fail
  go_loopw [9, 38] (fun s i wx => ∃ (k B : Nat), k ≤ n ∧ i = .int .i64 k ∧ s = .int .i64 (B : Int) ∧ B < n ∧ Hid (bestF v g me (Z0 : Int) (lots.take k) = (B : Int)) ∧ Below w.heap.size w wx) (fun _ i _ => n - (intOf i).toNat)
  case atStart => exact ⟨0, Z0, Nat.zero_le _, rfl, rfl, by omega, by simp [Hid, bestF], Below.refl _ _⟩
  case round =>
    obtain ⟨k, B, hk, rfl, rfl, hB, HX, hbel⟩ := hrel
    clear hc0 hbw0
    by_cases hlt : k < n
    · have hl1 : k < lots.length := by rw [E3.out]; exact hlt
      have HS := Lib.hid (bestF_take (v := v) (g := g) (me := me) (b := (Z0 : Int)) hl1)
      have hz := LB.out _ (List.getElem_mem hl1)
      have hcl := (hl.below hbel).cellOf (k := k) (by simpa using hl1)
      simp only [List.getElem_map] at hcl
      generalize lots[k] = z at *
      obtain ⟨P, rfl⟩ := Int.eq_ofNat_of_zero_le hz.1
      have hP : P < n := by omega
      have p1 : P < v.length := by rw [E1.out]; exact hP
      have p2 : B < v.length := by rw [E1.out]; exact hB
      have p3 : P < g.length := by rw [E2.out]; exact hP
      have p4 : B < g.length := by rw [E2.out]; exact hB
      have HQ := Lib.hid (gtQ_iff (me := me) p1 p2 p3 p4)
      obtain ⟨bv, offv, rfl, hbv, hcv1⟩ := int_at (hv.below hbel) p1
      have hcv2 := (hv.below hbel).cellOf (k := B) (by simpa using p2)
      obtain ⟨bg, offg, rfl, hbg, hcg1⟩ := int_at (hg.below hbel) p3
      have hcg2 := (hg.below hbel).cellOf (k := B) (by simpa using p4)
      simp only [List.getElem_map] at hcv2 hcg2
      have y1 := VB.out _ (List.getElem_mem p1)
      have y2 := VB.out _ (List.getElem_mem p2)
      have y3 := GB.out _ (List.getElem_mem p3)
      have y4 := GB.out _ (List.getElem_mem p4)
      clear hl hv hg
      generalize v[P] = vp at *
      generalize v[B] = vb at *
      generalize g[P] = gp at *
      generalize g[B] = gb at *
      have q1 := quot_bd y1.1 y1.2 y4.1 y4.2 hme
      have q2 := quot_bd y2.1 y2.2 y3.1 y3.2 hme
      obtain ⟨y31, y32⟩ := y3
      obtain ⟨y41, y42⟩ := y4
      obtain ⟨q11, q12, q13, q14⟩ := q1
      obtain ⟨q21, q22, q23, q24⟩ := q2
      have D1 := Lib.hid (fun w => divisor_any gb me w y41 (by omega) hme)
      have D2 := Lib.hid (fun w => divisor_any gp me w y31 (by omega) hme)
      generalize dv me gp = dp at *
      generalize dv me gb = db at *
      clear y1 y2 hz hme
      have wq1 : IntKind.i64.wrap (vp * db) = vp * db := IntWalk.i64_in _ (by omega)
      have wq2 : IntKind.i64.wrap (vb * dp) = vb * dp := IntWalk.i64_in _ (by omega)
      go_wp2_with fail
      refine wp_region_held_drew (S := fun W : World => ∃ m, W = wr.drewN m) (by kernel_rfl) ⟨1, rfl⟩ (fun HS => ?_)
      refine seq_take (i := 0) (v := ?_) rfl (by kernel_rfl) (by kernel_rfl) (by kernel_rfl) (fun _ _ _ h => h) (by rfl) ?_ HS ?_
      rotate_left
      · rintro W ⟨m, rfl⟩
        (go_simp <;> first | done | with_reducible rfl)
      try simp only [Act.put, List.setIfInBounds_toArray, List.set_cons_zero, List.set_cons_succ]
      refine seq_take (i := 1) (v := ?_) rfl (by kernel_rfl) (by kernel_rfl) (by kernel_rfl) (fun _ _ _ h => h) (by rfl) ?_ HS ?_
      rotate_left
      · rintro W ⟨m, rfl⟩
        (go_simp <;> first | done | with_reducible rfl)
      try simp only [Act.put, List.setIfInBounds_toArray, List.set_cons_zero, List.set_cons_succ]
      refine seq_take (i := 2) (v := ?_) rfl (by kernel_rfl) (by kernel_rfl) (by kernel_rfl) (fun _ _ _ h => h) (by rfl) ?_ HS ?_
      rotate_left
      · rintro W ⟨m, rfl⟩
        (go_simp <;> first | done | with_reducible rfl)
      try simp only [Act.put, List.setIfInBounds_toArray, List.set_cons_zero, List.set_cons_succ]
      refine seq_take (i := 3) (v := ?_) rfl (by kernel_rfl) (by kernel_rfl) (by kernel_rfl) (fun _ _ _ h => h) (by rfl) ?_ HS ?_
      rotate_left
      · rintro W ⟨m, rfl⟩
        (go_simp <;> first | done | with_reducible rfl)
      try simp only [Act.put, List.setIfInBounds_toArray, List.set_cons_zero, List.set_cons_succ]
      refine seq_take (i := 4) (v := ?_) rfl (by kernel_rfl) (by kernel_rfl) (by kernel_rfl) (fun _ _ _ h => h) (by rfl) ?_ HS ?_
      rotate_left
      · rintro W ⟨m, rfl⟩
        (go_simp <;> first | done | with_reducible rfl)
      try simp only [Act.put, List.setIfInBounds_toArray, List.set_cons_zero, List.set_cons_succ]
      refine seq_take (i := 5) (v := ?_) rfl (by kernel_rfl) (by kernel_rfl) (by kernel_rfl) (fun _ _ _ h => h) (by rfl) ?_ HS ?_
      rotate_left
      · rintro W ⟨m, rfl⟩
        (go_simp <;> first | done | with_reducible rfl)
      try simp only [Act.put, List.setIfInBounds_toArray, List.set_cons_zero, List.set_cons_succ]
      refine seq_take (i := 6) (v := ?_) rfl (by kernel_rfl) (by kernel_rfl) (by kernel_rfl) (fun _ _ _ h => h) (by rfl) ?_ HS ?_
      rotate_left
      · rintro W ⟨m, rfl⟩
        (go_simp <;> first | done | with_reducible rfl)
      try simp only [Act.put, List.setIfInBounds_toArray, List.set_cons_zero, List.set_cons_succ]
      refine seq_take (i := 7) (v := ?_) rfl (by kernel_rfl) (by kernel_rfl) (by kernel_rfl) (fun _ _ _ h => h) (by rfl) ?_ HS ?_
      rotate_left
      · rintro W ⟨m, rfl⟩
        (go_simp <;> first | done | with_reducible rfl)
      try simp only [Act.put, List.setIfInBounds_toArray, List.set_cons_zero, List.set_cons_succ]
      refine seq_take (i := 8) (v := ?_) rfl (by kernel_rfl) (by kernel_rfl) (by kernel_rfl) (fun _ _ _ h => h) (by rfl) ?_ HS ?_
      rotate_left
      · rintro W ⟨m, rfl⟩
        (go_simp <;> first | done | with_reducible rfl)
      try simp only [Act.put, List.setIfInBounds_toArray, List.set_cons_zero, List.set_cons_succ]
      refine seq_take (i := 11) (v := ?_) rfl (by kernel_rfl) (by kernel_rfl) (by kernel_rfl) (fun _ _ _ h => h) (by rfl) ?_ HS ?_
      rotate_left
      · rintro W ⟨m, rfl⟩
        (go_simp <;> first | done | with_reducible rfl)
      try simp only [Act.put, List.setIfInBounds_toArray, List.set_cons_zero, List.set_cons_succ]
      refine seq_take (i := 12) (v := ?_) rfl (by kernel_rfl) (by kernel_rfl) (by kernel_rfl) (fun _ _ _ h => h) (by rfl) ?_ HS ?_
      rotate_left
      · rintro W ⟨m, rfl⟩
        (go_simp <;> first | done | with_reducible rfl)
      try simp only [Act.put, List.setIfInBounds_toArray, List.set_cons_zero, List.set_cons_succ]
      refine seq_take (i := 13) (v := ?_) rfl (by kernel_rfl) (by kernel_rfl) (by kernel_rfl) (fun _ _ _ h => h) (by rfl) ?_ HS ?_
      rotate_left
      · rintro W ⟨m, rfl⟩
        (go_simp <;> first | done | with_reducible rfl)
      try simp only [Act.put, List.setIfInBounds_toArray, List.set_cons_zero, List.set_cons_succ]
      refine seq_take (i := 14) (v := ?_) rfl (by kernel_rfl) (by kernel_rfl) (by kernel_rfl) (fun _ _ _ h => h) (by rfl) ?_ HS ?_
      rotate_left
      · rintro W ⟨m, rfl⟩
        (go_simp <;> first | done | with_reducible rfl)
      try simp only [Act.put, List.setIfInBounds_toArray, List.set_cons_zero, List.set_cons_succ]
      refine seq_take (i := 15) (v := ?_) rfl (by kernel_rfl) (by kernel_rfl) (by kernel_rfl) (fun _ _ _ h => h) (by rfl) ?_ HS ?_
      rotate_left
      · rintro W ⟨m, rfl⟩
        (go_simp <;> first | done | with_reducible rfl)
      try simp only [Act.put, List.setIfInBounds_toArray, List.set_cons_zero, List.set_cons_succ]
      refine seq_take (i := 16) (v := ?_) rfl (by kernel_rfl) (by kernel_rfl) (by kernel_rfl) (fun _ _ _ h => h) (by rfl) ?_ HS ?_
      rotate_left
      · rintro W ⟨m, rfl⟩
        (go_simp <;> first | done | with_reducible rfl)
      try simp only [Act.put, List.setIfInBounds_toArray, List.set_cons_zero, List.set_cons_succ]
      refine seq_take (i := 17) (v := ?_) rfl (by kernel_rfl) (by kernel_rfl) (by kernel_rfl) (fun _ _ _ h => h) (by rfl) ?_ HS ?_
      rotate_left
      · rintro W ⟨m, rfl⟩
        (go_simp <;> first | done | with_reducible rfl)
      try simp only [Act.put, List.setIfInBounds_toArray, List.set_cons_zero, List.set_cons_succ]
      refine seq_take (i := 18) (v := ?_) rfl (by kernel_rfl) (by kernel_rfl) (by kernel_rfl) (fun _ _ _ h => h) (by rfl) ?_ HS ?_
      rotate_left
      · rintro W ⟨m, rfl⟩
        (go_simp <;> first | done | with_reducible rfl)
      try simp only [Act.put, List.setIfInBounds_toArray, List.set_cons_zero, List.set_cons_succ]
      refine seq_take (i := 19) (v := ?_) rfl (by kernel_rfl) (by kernel_rfl) (by kernel_rfl) (fun _ _ _ h => h) (by rfl) ?_ HS ?_
      rotate_left
      · rintro W ⟨m, rfl⟩
        (go_simp <;> first | done | with_reducible rfl)
      try simp only [Act.put, List.setIfInBounds_toArray, List.set_cons_zero, List.set_cons_succ]
      refine seq_call (i := 9) rfl (by kernel_rfl) (by rfl) (fun K hK => ?_)
      go_simp
      refine (D1.out _).mono ?_
      rintro e w2 ⟨rfl, rfl⟩
      refine hK.out _ _ HS (fun HS2 => ?_)
      clear hK K HS
      have HS := HS2
      clear HS2
      try simp only [Act.put, List.setIfInBounds_toArray, List.set_cons_zero, List.set_cons_succ]
      refine seq_take (i := 10) (v := ?_) rfl (by kernel_rfl) (by kernel_rfl) (by kernel_rfl) (fun _ _ _ h => h) (by rfl) ?_ HS ?_
      rotate_left
      · rintro W ⟨m, rfl⟩
        (go_simp <;> first | done | with_reducible rfl)
      try simp only [Act.put, List.setIfInBounds_toArray, List.set_cons_zero, List.set_cons_succ]
      refine seq_call (i := 20) rfl (by kernel_rfl) (by rfl) (fun K hK => ?_)
      go_simp
      refine (D2.out _).mono ?_
      rintro e w2 ⟨rfl, rfl⟩
      refine hK.out _ _ HS (fun HS2 => ?_)
      clear hK K HS
      have HS := HS2
      clear HS2
      try simp only [Act.put, List.setIfInBounds_toArray, List.set_cons_zero, List.set_cons_succ]
      refine seq_take (i := 21) (v := ?_) rfl (by kernel_rfl) (by kernel_rfl) (by kernel_rfl) (fun _ _ _ h => h) (by rfl) ?_ HS ?_
      rotate_left
      · rintro W ⟨m, rfl⟩
        (go_simp <;> first | done | with_reducible rfl)
      try simp only [Act.put, List.setIfInBounds_toArray, List.set_cons_zero, List.set_cons_succ]
      refine seq_take (i := 22) (v := ?_) rfl (by kernel_rfl) (by kernel_rfl) (by kernel_rfl) (fun _ _ _ h => h) (by rfl) ?_ HS ?_
      rotate_left
      · rintro W ⟨m, rfl⟩
        (go_simp <;> first | done | with_reducible rfl)
      try simp only [Act.put, List.setIfInBounds_toArray, List.set_cons_zero, List.set_cons_succ]
      refine wpAnyH_done (by kernel_rfl) ?_ _
      clear HS
      by_cases hgt : vb * dp < vp * db
      · have HR : Hid (bestF v g me (Z0 : Int) (lots.take (k + 1)) = (P : Int)) := by
          show _ = _
          rw [HS.out, HX.out, HQ.out, decide_eq_true hgt]
          rfl
        go_wp2_with fail
        go_roundw
        case rel => exact ⟨k + 1, P, by omega, by go_num, rfl, hP, HR, hbel.drew⟩
        case measure => simp [intOf]; omega
      · have HR : Hid (bestF v g me (Z0 : Int) (lots.take (k + 1)) = (B : Int)) := by
          show _ = _
          rw [HS.out, HX.out, HQ.out, decide_eq_false hgt]
          rfl
        go_wp2_with fail
        go_roundw
        case rel => exact ⟨k + 1, B, by omega, by go_num, rfl, hB, HR, hbel.drew⟩
        case measure => simp [intOf]; omega
    · have HQ : Hid ((B : Int) = nextL v g me lots) := by
        have := HX.out
        rw [List.take_of_length_le (by rw [E3.out]; omega)] at this
        show _ = _
        rw [H0.out, this]
      go_wp2_with fail
      go_ret
      exact ⟨ret_int HQ.out, hbel⟩

set_option maxHeartbeats 1000000 in
theorem SeatsNext_no (A : Option Addr) (n c : Nat) (v : List Int) (G : Option Addr) (m d : Nat) (g : List Int) (me : Int) (Lo : Option Addr) (l f : Nat) (lots : List Int) (w : World) (hb : snB v g me lots = false) (hn : v.length = n) (hm : g.length = m) (hl0 : lots.length = l) (hn1 : n ≤ 1048576) (hm1 : m ≤ 1048576) (hl1 : l ≤ 1048576) (hf1 : l ≤ f) (hf2 : f ≤ maxLen)
    (hv : Row w w.heap.size A (v.map (Value.int .i64))) (hg : Row w w.heap.size G (g.map (Value.int .i64))) (hl : Row w w.heap.size Lo (lots.map (Value.int .i64))) :
    Calls Try.prog 24 #[.slice A n c, .slice G m d, .int .i64 me, .slice Lo l f] w fun e w' => e = .returned (.int .i64 (-1)) ∧ w = w' := by
  have HC1 := Lib.hid (seatsValid_any A n c v G m d g w hn hn1 hv hm hm1 hg)
  have HC3 := Lib.hid (LotsValid_any Lo l f lots w hl0 hl1 hf1 hf2 hl)
  have hb2 := hb
  unfold snB at hb2
  rw [hl0, hn] at hb2
  have HB := Lib.hid hb2
  clear hb hb2 hn hm hl0 hv hg hl hf1 hf2
  cases h1 : svB v g with
  | false =>
    go_enter Try.func24, Try.ntmps24
    go_wp2_with fail
    refine HC1.out.mono ?_
    rintro e w' ⟨rfl, rfl⟩
    rw [h1]
    clear HC1 HC3 HB h1
    go_wp2_with fail
    go_ret
    exact ⟨rfl, rfl⟩
  | true =>
    cases h2 : meB me with
    | false =>
      go_enter Try.func24, Try.ntmps24
      go_wp2_with fail
      refine HC1.out.mono ?_
      rintro e w' ⟨rfl, rfl⟩
      rw [h1]
      go_wp2_with fail
      refine (isMethod_any me _).mono ?_
      rintro e w' ⟨rfl, rfl⟩
      rw [h2]
      clear HC1 HC3 HB h1 h2
      go_wp2_with fail
      go_ret
      exact ⟨rfl, rfl⟩
    | true =>
      cases h3 : ltB lots with
      | false =>
        go_enter Try.func24, Try.ntmps24
        go_wp2_with fail
        refine HC1.out.mono ?_
        rintro e w' ⟨rfl, rfl⟩
        rw [h1]
        go_wp2_with fail
        refine (isMethod_any me _).mono ?_
        rintro e w' ⟨rfl, rfl⟩
        rw [h2]
        go_wp2_with fail
        refine HC3.out.mono ?_
        rintro e w' ⟨rfl, rfl⟩
        rw [h3]
        clear HC1 HC3 HB h1 h2 h3
        go_wp2_with fail
        go_ret
        exact ⟨rfl, rfl⟩
      | true =>
        have hne : ¬ l = n := fun e => by
          have := HB.out
          rw [h1, h2, h3, e] at this
          simp at this
        have hne2 : ((l : Int) == (n : Int)) = false := by simp; omega
        go_enter Try.func24, Try.ntmps24
        go_wp2_with fail
        refine HC1.out.mono ?_
        rintro e w' ⟨rfl, rfl⟩
        rw [h1]
        go_wp2_with fail
        refine (isMethod_any me _).mono ?_
        rintro e w' ⟨rfl, rfl⟩
        rw [h2]
        go_wp2_with fail
        refine HC3.out.mono ?_
        rintro e w' ⟨rfl, rfl⟩
        rw [h3]
        clear HC1 HC3 HB h1 h2 h3
        go_wp2_with fail
        go_ret
        exact ⟨rfl, rfl⟩

end Go.Proofs.Ytjanmgiliooocaa
