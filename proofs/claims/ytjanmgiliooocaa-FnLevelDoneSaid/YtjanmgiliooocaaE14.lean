/- Votes of districts that are drawn. The conditions stand in each theorem. -/
import Derived.Test.YtjanmgiliooocaaE12
namespace Go.Proofs.Ytjanmgiliooocaa
open Go.RowKit Go.ChangeShapes
open Man
set_option linter.unusedVariables false

def DrawnM (w0 w : World) (g p : Nat) (e : Ending) (w' : World) : Prop :=
  ∃ (u : Value) (qs : List Sl) (q : Nat), e = .returned u ∧ qs.length ≤ 12 ∧ q ≤ p + 400 ∧ Rows w' w.heap.size u qs ∧ Dr w0 w w' g q
theorem Rows.some_ {W : World} {B : Nat} {u : Value} {qs : List Sl} (h : Rows W B u qs) (hn : 0 < qs.length) : ∃ g c, u = .slice (some ⟨g, 0, none⟩) qs.length c ∧ B ≤ g ∧ g < W.heap.size ∧ qs.length ≤ c ∧ c ≤ maxLen := by
  rcases h.out.2 with ⟨_, h0⟩ | ⟨g, c, cur, h1, h2, h3, h4, h5, _⟩
  · omega
  · subst h1
    exact ⟨g, c, rfl, h2, (own_block (h := h.out) g (by simp [Value.ownBlock])).2, h4, h5⟩
theorem OwnI.lit (w : World) (zs : List Int) (hz : zs.length ≤ 1048576) : OwnI (w.alloc (.cells (zs.map (Value.int .i64)).toArray 3)) w.heap.size (.slice (Option.some ⟨w.heap.size, 0, none⟩) zs.length zs.length) zs.length zs :=
  ⟨by simp, .inr ⟨w.heap.size, zs.length, (zs.map (Value.int .i64)).toArray, rfl, Nat.le_refl _, heap_alloc_new w _, Nat.le_refl _, by unfold maxLen; omega, by simp, by
    rw [Nat.mul_one]
    exact List.take_of_length_le (by simp)⟩⟩
/-- A row put into the slice in the place of another. -/
theorem Rows.put {W : World} {B g n c : Nat} {qs : List Sl} (h : Rows W B (.slice (some ⟨g, 0, none⟩) n c) qs) (J : Nat) {r : Sl} (hr : RowFor W B (.slice (some ⟨g, 0, none⟩) n c) r) :
    Rows (W.setCell ⟨g, J, none⟩ r.v) B (.slice (some ⟨g, 0, none⟩) n c) (qs.set J r) ∧ W.grownBy (W.setCell ⟨g, J, none⟩ r.v) (some g) ∧ B ≤ g := by
  have hn := h.matAt.1
  subst hn
  have hs := h.out.stored J r.v
  rw [← List.map_set] at hs
  refine ⟨Rows.of (n := qs.length) (by simp) hs.1 (fun x hx => ?_), hs.2, (own_block (h := h.out) g (by simp [Value.ownBlock])).1⟩
  have h0 : RowFor W B (.slice (some ⟨g, 0, none⟩) qs.length c) x := by
    rcases List.mem_or_eq_of_mem_set hx with hx | hx
    · exact h.all x hx
    · rw [hx]
      exact hr
  exact h0.turn (by simpa [Value.ownBlock] using hs.2) (.inl rfl)
theorem Rows.cell {W : World} {B g n c : Nat} {qs : List Sl} (h : Rows W B (.slice (some ⟨g, 0, none⟩) n c) qs) {J : Nat} (hJ : J < n) : (∃ u, W.cell? ⟨g, J, none⟩ = some u) ∧ W.frozen? ⟨g, J, none⟩ = false := by
  have hn := h.matAt.1
  subst hn
  refine ⟨⟨(qs.map Sl.v)[J]'(by rw [List.length_map]; exact hJ), ?_⟩, h.out.frozenAt J⟩
  rw [h.out.cellAt J (by omega)]
  exact List.getElem?_eq_getElem _
theorem RowFor.alloc {W : World} {B : Nat} {u : Value} {r : Sl} (h : RowFor W B u r) (o : Obj) : RowFor (W.alloc o) B u r :=
  ⟨h.ok.stay (by simp) (fun ad had hlt => Below.heap_alloc W o _ hlt), h.le, fun ad had => ⟨(h.blk ad had).1, Nat.lt_of_lt_of_le (h.blk ad had).2.1 (by simp), (h.blk ad had).2.2⟩⟩

set_option maxRecDepth 100000 in
set_option maxHeartbeats 8000000 in
theorem l93Districts_any {w0 w : World} {g p : Nat} (I : RdI w0 w g p) (hp : p ≤ 10) :
    Calls Try.prog 36 #[.pointer (some ⟨g, 0, none⟩)] w (DrawnM w0 w g p) := by
  obtain ⟨i0, hi0, hz0, hz1, hz2⟩ := info_parts info_int
  have HI := Lib.hid hi0
  have HZ0 := Lib.hid hz0
  have HZ1 := Lib.hid hz1
  have HZ2 := Lib.hid hz2
  obtain ⟨i1, hj0, hk0, hk1, hk2⟩ := info_parts info_ints
  have HJ := Lib.hid hj0
  have HK0 := Lib.hid hk0
  have HK1 := Lib.hid hk1
  have HK2 := Lib.hid hk2
  have hD0 := (Dr.start I).alloc (.cells #[] 24)
  have hR0 := Rows.nil_ w w.heap.size (Nat.le_refl _)
  have hgw := I.rd.lt_
  clear hi0 hz0 hz1 hz2 hj0 hk0 hk1 hk2 I
  go_enter Try.func36, Try.ntmps36
  go_wp2_with fail
  refine (pickD _ hD0 (by omega) (by omega)).mono ?_
  rintro e w1 ⟨r, rfl, r0, r1, D1, G1⟩
  have hR1 := hR0.pick G1 hgw
  clear hD0 hR0 G1
  go_wp2_with fail
  have n0 : 1 ≤ 1 + r := by omega
  have n1 : 1 + r ≤ 5 := by omega
  clear r0 r1
  generalize 1 + r = nn at *
  obtain ⟨n, rfl⟩ := Int.eq_ofNat_of_zero_le (show 0 ≤ nn by omega)
  refine (pickD _ D1 (by omega) (by omega)).mono ?_
  rintro e w2 ⟨r2, rfl, r20, r21, D2, G2⟩
  have hR2 := hR1.pick G2 hgw
  clear D1 hR1 G2
  go_wp2_with fail
  have m0 : 1 ≤ 1 + r2 := by omega
  have m1 : 1 + r2 ≤ 4 := by omega
  clear r20 r21
  generalize 1 + r2 = mm at *
  obtain ⟨M, rfl⟩ := Int.eq_ofNat_of_zero_le (show 0 ≤ mm by omega)
  have hn1 : 1 ≤ n := by omega
  have hn5 : n ≤ 5 := by omega
  have hM1 : 1 ≤ M := by omega
  have hM4 : M ≤ 4 := by omega
  go_loopw [3, 6] (fun u i wx => ∃ (k : Nat) (qs : List Sl) (q : Nat), k ≤ M ∧ i = .int .i64 k ∧ Hid (qs.length = k) ∧ q ≤ p + 2 + 20 * k ∧ Rows wx w.heap.size u qs ∧ Dr w0 w wx g q) (fun _ i _ => M - (intOf i).toNat)
  case atStart => exact ⟨0, [], _, Nat.zero_le _, rfl, rfl, by omega, hR2, D2⟩
  case round =>
    clear hR2 D2
    obtain ⟨k, qs, q, hk, rfl, HQL, hq, hR, D⟩ := hrel
    by_cases hlt : k < M
    · obtain ⟨wB, rfl⟩ : ∃ wB : World, wB = wr := ⟨_, rfl⟩
      have hE0 : OwnI (wB.alloc (.cells #[] 3)) wB.heap.size (.slice (some ⟨wB.heap.size, 0, none⟩) 0 0) 0 [] := own_empty wB wB.heap.size _ _ (Nat.le_refl _)
      have hDB := (Dr.start D.I).alloc (.cells #[] 3)
      have HR := Lib.hid hR
      have HD := Lib.hid D
      have hwB := D.size
      clear hR D
      go_wp2_with fail
      go_loopw [7, 8] (fun v j wx => ∃ (a : Nat) (zs : List Int) (q2 : Nat), a ≤ n ∧ j = .int .i64 a ∧ q2 ≤ q + 2 * a ∧ OwnI wx wB.heap.size v a zs ∧ Dr w0 wB wx g q2) (fun _ j _ => n - (intOf j).toNat)
      case atStart => exact ⟨0, [], q, Nat.zero_le _, rfl, by omega, hE0, hDB⟩
      case round =>
        clear hE0 hDB
        obtain ⟨a, zs, q2, ha, rfl, hq2, hown, D2⟩ := hrel
        by_cases hlt2 : a < n
        · go_wp2_with fail
          refine (pickD _ D2 (by omega) (by omega)).mono ?_
          rintro e w3 ⟨r3, rfl, r30, r31, D3, G3⟩
          have hown3 := hown.pick G3 D2.at_
          clear D2 hown G3
          go_wp2_with fail
          refine (pickD _ D3 (by omega) (by omega)).mono ?_
          rintro e w4 ⟨r4, rfl, r40, r41, D4, G4⟩
          have hown4 := hown3.pick G4 D3.at_
          have hs4 := D4.size
          have hpr := mul_bd r30 (show r3 ≤ 4 by omega) r40 (show r4 ≤ 5 by omega)
          have hw1 : IntKind.i64.wrap (r3 * r4) = r3 * r4 := IntWalk.i64_in _ (by omega)
          clear D3 hown3 G4
          go_wp2_with (at_builtin; refine wpList_append_own_at _ rfl (.tmp 27) (.tmp 33) _ rfl wB.heap.size 3 i0 _ 1 8 Try.underlying24 HI.out HZ0.out HZ1.out HZ2.out rfl (by omega) u7 _ _ rfl (own_alloc hown4 _) ⟨w4.heap.size, 0, none⟩ 1 1 [.int .i64 (r3 * r4)] rfl rfl (cell_one_new _ _ _) (by intro u hu; simp at hu; subst hu; rfl) (by unfold maxLen; omega) (by omega) (by simp; omega) ?_; intro v7 w7 hown7 hgrow7 hnil7 hat7)
          go_roundw
          case rel =>
            refine ⟨a + 1, zs ++ [r3 * r4], _, by omega, by go_num, by omega, ?_, (D4.alloc _).own hgrow7 (fun x hx => (own_block hown4 x hx).1)⟩
            unfold OwnI
            rw [List.map_append]
            exact hown7
          case measure => simp [intOf]; omega
        · obtain rfl : a = n := by omega
          obtain ⟨gr, cr, rfl, hgr, hgrl, hcr, hcrm⟩ := OwnI.some hown hn1
          unfold maxLen at hcrm
          go_wp2_with fail
          refine (pickD _ D2 (by omega) (by omega)).mono ?_
          rintro e w3 ⟨r3, rfl, r30, r31, D3, G3⟩
          have hown3 := hown.pick G3 D2.at_
          obtain ⟨J, rfl⟩ := Int.eq_ofNat_of_zero_le r30
          have hJ : J < a := by omega
          clear D2 hown G3
          go_wp2_with fail
          refine (pickD _ D3 (by omega) (by omega)).mono ?_
          rintro e w4 ⟨r4, rfl, r40, r41, D4, G4⟩
          have hown4 := hown3.pick G4 D3.at_
          have hJl : J < zs.length := by rw [hown4.len]; exact hJ
          have hcell := hown4.cell hJl
          have hfr := hown4.frozen J
          have hown5 := hown4.set J (1 + r4)
          have D5 := D4.set hgr J (.int .i64 (1 + r4))
          have hRW := (HR.out.pick D5.K hgw)
          have DW := HD.out.step D5.I D5.K
          have hRF := RowFor.new (W0 := wB) (B := w.heap.size) (u := u3) hown5 (by omega) hwB (fun b hb => (own_block HR.out.out b hb).2)
          have hsz := DW.size
          have hs5 : w4.heap.size = (w4.setCell ⟨gr, J, none⟩ (.int .i64 (1 + r4))).heap.size := by simp
          clear D3 hown3 G4 hown4 D4
          generalize hWE : w4.setCell ⟨gr, J, none⟩ (.int .i64 (1 + r4)) = W5 at *
          have HRA := Lib.hid (hRW.alloc (.cells #[.slice (some ⟨gr, 0, none⟩) a cr] 24))
          have HRF := Lib.hid (hRF.alloc (.cells #[.slice (some ⟨gr, 0, none⟩) a cr] 24))
          have HDW := Lib.hid (DW.alloc (.cells #[.slice (some ⟨gr, 0, none⟩) a cr] 24))
          generalize zs.set J (1 + r4) = zs2 at *
          have hql : qs.length ≤ 4 := by rw [HQL.out]; omega
          clear hRW hRF DW D5 hown5
          generalize zs[J] = y at *
          go_wp2_with (at_builtin; refine wpList_append_own_at _ rfl (.tmp 43) (.tmp 45) _ rfl w.heap.size 24 i1 _ 1 24 Try.underlying23 HJ.out HK0.out HK1.out HK2.out rfl (by omega) u3 _ _ rfl HRA.out.out ⟨W5.heap.size, 0, none⟩ 1 1 [.slice (some ⟨gr, 0, none⟩) a cr] (by first | rfl | rw [hs5]) rfl (cell_one_new _ _ _) (by intro u hu; simp at hu; subst hu; rfl) (by unfold maxLen; omega) (by omega) (by simp; omega) ?_; intro v9 w9 hown9 hgrow9 hnil9 hat9)
          go_roundw
          case rel =>
            refine ⟨k + 1, qs ++ [(⟨some ⟨gr, 0, none⟩, a, cr, zs2⟩ : Sl)], _, by omega, by go_num, ?_, ?_, Rows.of (n := qs.length + 1) (by simp) (by rw [List.map_append]; exact hown9) (fun x hx => ?_), HDW.out.own hgrow9 (fun x hx => (own_block HRA.out.out x hx).1)⟩
            · show (qs ++ [(⟨some ⟨gr, 0, none⟩, a, cr, zs2⟩ : Sl)]).length = k + 1
              rw [List.length_append, HQL.out]
              rfl
            · omega
            · have h0 : RowFor (W5.alloc (.cells #[.slice (some ⟨gr, 0, none⟩) a cr] 24)) w.heap.size u3 x := by
                rcases List.mem_append.1 hx with hx | hx
                · exact HRA.out.all x hx
                · rw [List.mem_singleton.1 hx]
                  exact HRF.out
              refine h0.turn hgrow9 ?_
              rcases hat9 with e | e
              · exact .inl e
              · exact .inr ⟨_, e, Nat.le_refl _⟩
          case measure => simp [intOf]; omega
    · obtain rfl : k = M := by omega
      obtain ⟨go, co, hv, hgo, hgol, hco, hcom⟩ := hR.some_ (by rw [HQL.out]; omega)
      rw [HQL.out] at hv hco
      subst hv
      unfold maxLen at hcom
      go_wp2_with fail
      refine (pickD _ D (by omega) (by omega)).mono ?_
      rintro e w3 ⟨t, rfl, t0, t1, D3, G3⟩
      have hR3 := hR.pick G3 hgw
      clear D hR G3 hgol
      by_cases c0 : t = 0
      · subst c0
        go_wp2_with fail
        refine (pickD _ D3 (by omega) (by omega)).mono ?_
        rintro e w4 ⟨j, rfl, j0, j1, D4, G4⟩
        obtain ⟨J, rfl⟩ := Int.eq_ofNat_of_zero_le j0
        have hJ : J < k := by omega
        have hR4 := hR3.pick G4 hgw
        clear D3 hR3 G4
        go_wp2_with fail
        refine (l92Votes_any D4.I (by omega) n hn1 (by omega)).mono ?_
        rintro e w5 ⟨A5, c5, zs5, q5, rfl, hq5, hown5, D5⟩
        have hR5 := hR4.pick D5.K hgw
        have hRF := RowFor.new (W0 := w4) (B := w.heap.size) (u := .slice (some ⟨go, 0, none⟩) k co) hown5 (by omega) D4.size (fun b hb => (own_block hR4.out b hb).2)
        have P := hR5.put J hRF
        have HP := Lib.hid P
        have HD := Lib.hid ((D4.step D5.I D5.K).own P.2.1 (fun x hx => by injection hx with hx; omega))
        obtain ⟨⟨u, hu⟩, hfr⟩ := hR5.cell hJ
        have HLN : Hid ((qs.set J (⟨A5, n, c5, zs5⟩ : Sl)).length ≤ 12) := by
          show _ ≤ _
          rw [List.length_set, HQL.out]
          omega
        clear hown5 D5 hR4 hR5 D4 hRF P
        go_wp2_with fail
        go_ret
        exact ⟨_, _, _, rfl, HLN.out, by omega, HP.out.1, HD.out⟩
      have e0 : (t == 0) = false := by simpa using c0
      by_cases c1 : t = 1
      · subst c1
        go_wp2_with fail
        refine (pickD _ D3 (by omega) (by omega)).mono ?_
        rintro e w4 ⟨j, rfl, j0, j1, D4, G4⟩
        obtain ⟨J, rfl⟩ := Int.eq_ofNat_of_zero_le j0
        have hJ : J < k := by omega
        have hR4 := hR3.pick G4 hgw
        have hown5 := OwnI.lit w4 [1] (by simp)
        have hR5 := hR4.alloc (.cells #[.int .i64 1] 3)
        have hRF := RowFor.new (W0 := w4) (B := w.heap.size) (u := .slice (some ⟨go, 0, none⟩) k co) hown5 (by simp) D4.size (fun b hb => (own_block hR4.out b hb).2)
        have P := hR5.put J hRF
        have HP := Lib.hid P
        have HD := Lib.hid ((D4.alloc (.cells #[.int .i64 1] 3)).own P.2.1 (fun x hx => by injection hx with hx; omega))
        obtain ⟨⟨u, hu⟩, hfr⟩ := hR4.cell hJ
        have hgl := (own_block hR4.out go (by simp [Value.ownBlock])).2
        have hpast := World.setCell_alloc_past (w := w4) (.cells #[.int .i64 1] 3) go J (Sl.v ⟨some ⟨w4.heap.size, 0, none⟩, [(1 : Int)].length, [(1 : Int)].length, [1]⟩) hgl
        have hp1 := HP.out.1
        have hd1 := HD.out
        rw [hpast] at hp1
        change Dr w0 w ((w4.alloc (.cells #[.int .i64 1] 3)).setCell ⟨go, J, none⟩ (Sl.v ⟨some ⟨w4.heap.size, 0, none⟩, [(1 : Int)].length, [(1 : Int)].length, [1]⟩)) g _ at hd1
        rw [hpast] at hd1
        have HP1 := Lib.hid hp1
        have HD1 := Lib.hid hd1
        clear hp1 hd1 hpast HP HD
        have HLN : Hid ((qs.set J (⟨some ⟨w4.heap.size, 0, none⟩, [(1 : Int)].length, [(1 : Int)].length, [1]⟩ : Sl)).length ≤ 12) := by
          show _ ≤ _
          rw [List.length_set, HQL.out]
          omega
        clear hown5 hR4 hR5 D4 hRF P D3 hR3 G4
        go_wp2_with fail
        go_ret
        exact ⟨_, _, _, rfl, HLN.out, by omega, HP1.out, HD1.out⟩
      have e1 : (t == 1) = false := by simpa using c1
      by_cases c2 : t = 2
      · subst c2
        have HP := Lib.hid (Rows.nil_ w3 w.heap.size D3.size)
        have HD := Lib.hid (D3.alloc (.cells #[] 24))
        clear D3 hR3
        go_wp2_with fail
        go_ret
        exact ⟨_, [], _, rfl, by simp, by omega, HP.out, HD.out⟩
      have e2 : (t == 2) = false := by simpa using c2
      by_cases c3 : t = 3
      · subst c3
        have hown3 : w3.ownsRow w.heap.size 24 1 (.slice (some ⟨go, 0, none⟩) k co) k (qs.map Sl.v) := by
          have h := hR3.out
          rw [HQL.out] at h
          exact h
        have HO3 := Lib.hid hown3
        have HR3 := Lib.hid hR3
        have HD3 := Lib.hid D3
        have hs3 := D3.size
        have HONE : Hid (∀ u ∈ qs.map Sl.v, u.oneCell' = true) := fun u hu => by
          obtain ⟨r, _, rfl⟩ := List.mem_map.1 hu
          rfl
        have HLM : Hid ((qs.map Sl.v).length = k) := by
          show _ = _
          rw [List.length_map, HQL.out]
        have HLN : Hid ((qs ++ qs ++ qs).length = k + k + k) := by
          show _ = _
          rw [List.length_append, List.length_append, HQL.out]
        clear D3 hR3 hown3
        go_wp2_with (first
          | (at_builtin; refine wpList_append_keep _ rfl (.tmp 72) (.tmp 73) _ rfl w.heap.size 24 i1 _ 24 Try.underlying23 HJ.out HK0.out HK1.out HK2.out rfl go k co _ rfl HO3.out ⟨go, 0, none⟩ k co _ rfl HLM.out (World.ownsRow.cells (g := go) HO3.out rfl) HONE.out (by unfold maxLen; omega) (by omega) hs3 ?_; intro v7 w7 hown7 hgrow7 hat7 hkeep7; have hs7 := hgrow7.size; have HSRC : Hid (Src w7 1 (some ⟨go, 0, none⟩) k (qs.map Sl.v)) := ⟨by rw [HLM.out]; omega, fun _ => ⟨_, rfl, fun j u hu => (cell_add w7 go 0 j).trans (by rw [Nat.zero_add]; exact hkeep7 j u hu)⟩⟩; have HO7 := Lib.hid hown7; have HG7 := Lib.hid hgrow7; have HA7 := Lib.hid hat7; clear hkeep7 hown7 hgrow7 hat7)
          | (at_builtin; refine wpList_append_src _ rfl (.tmp 74) (.tmp 75) _ rfl w.heap.size 24 i1 _ 1 24 Try.underlying23 HJ.out HK0.out HK1.out HK2.out rfl (by omega) v7 (k + k) _ rfl HO7.out (some ⟨go, 0, none⟩) k co _ rfl HSRC.out HONE.out (by unfold maxLen; omega) (by omega) (by omega) ?_; intro v9 w9 hown9 hgrow9 hat9; have HO9 := Lib.hid hown9; have HG9 := Lib.hid hgrow9; have HA9 := Lib.hid hat9; clear hown9 hgrow9 hat9))
        go_ret
        refine ⟨v9, qs ++ qs ++ qs, _, rfl, by rw [HLN.out]; omega, by omega, Rows.of (n := k + k + k) HLN.out (by rw [List.map_append, List.map_append]; exact HO9.out) (fun x hx => ?_), (HD3.out.own HG7.out (fun x hx => by injection hx with hx; omega)).own HG9.out (fun x hx => (own_block HO7.out x hx).1)⟩
        have hx' : x ∈ qs := by
          rcases List.mem_append.1 hx with hx | hx
          · rcases List.mem_append.1 hx with hx | hx
            · exact hx
            · exact hx
          · exact hx
        have f7 : RowFor w7 w.heap.size v7 x := (HR3.out.all x hx').turn (by simpa [Value.ownBlock] using HG7.out) (by
          rcases HA7.out with e | e
          · exact .inl (by rw [e]; simp [Value.ownBlock])
          · exact .inr ⟨_, e, Nat.le_refl _⟩)
        refine f7.turn HG9.out ?_
        rcases HA9.out with e | e
        · exact .inl e
        · exact .inr ⟨_, e, Nat.le_refl _⟩
      have e3 : (t == 3) = false := by simpa using c3
      have HP := Lib.hid hR3
      have HD := Lib.hid D3
      clear D3 hR3
      go_wp2_with fail
      go_ret
      exact ⟨_, qs, _, rfl, by rw [HQL.out]; omega, by omega, HP.out, HD.out⟩

end Go.Proofs.Ytjanmgiliooocaa
