/- What the drawing of arguments gives for the laws of samples and manifests. The conditions stand in each theorem. -/
import Derived.Test.YtkjdccpomldmeaaMan
namespace Go.Proofs.Ytkjdccpomldmeaa
open Go.RowKit Go.ChangeShapes
set_option linter.unusedVariables false

/-- A number out of a literal list, in a world where another block alone may have turned since. -/
theorem lit_int {w1 w2 : World} {g p : Nat} {t : TypeId} (zs : List Int) (hr : Rd w1 g p) (hg : (w1.alloc (.cells (zs.map (Value.int .i64)).toArray t)).grownBy w2 (some g)) (r : Int) (h0 : 0 ≤ r) (h1 : r < zs.length) :
    ∃ v ∈ zs, w2.cell? ⟨w1.heap.size, r.toNat, none⟩ = some (.int .i64 v) := by
  have hj : r.toNat < zs.length := by omega
  refine ⟨zs[r.toNat], List.getElem_mem hj, ?_⟩
  have hb := Blk.new w1 t (zs.map (Value.int .i64)).toArray
  have hc := hb.cell r.toNat
  have hlt := hr.lt_
  have e := World.cell?_of_block (w := w1.alloc (.cells (zs.map (Value.int .i64)).toArray t)) (w' := w2) (a := ⟨w1.heap.size, r.toNat, none⟩) (hg.block w1.heap.size (by simp) (fun e => by injection e with e; omega))
  rw [e, hc]
  simp [hj]

def Got1 (w : World) (e : Ending) (w' : World) : Prop := ∃ a : Int, e = .returned (.int .i64 a) ∧ (-100000 ≤ a ∧ a ≤ 100000) ∧ Below w.heap.size w w'
set_option maxHeartbeats 1000000 in
theorem DrawSampleNext_any (a : Option Addr) (len cap : Nat) (zs : List Int) (w : World) (h : IsRow .u8 w a len cap zs) :
    Calls Try.prog 25 #[.slice a len cap] w (Got1 w) := by
  go_enter Try.func25, Try.ntmps25
  go_wp2_with fail
  refine (open_any _ _ _ _ _ h).mono ?_
  rintro e w1 ⟨g, rfl, I⟩
  clear h
  go_wp2_with fail
  refine (pickI _ I (by omega) (by omega)).mono ?_
  rintro e w2 ⟨r, rfl, r0, r1, I2, G2⟩
  clear I G2
  by_cases hr : r = 0
  · subst hr
    go_wp2_with fail
    refine (pickI _ (I2.alloc _) (by omega) (by omega)).mono ?_
    rintro e w4 ⟨t, rfl, t0, t1, I4, G4⟩
    obtain ⟨v, hv, hc⟩ := lit_int [-1, 0, 65535, 65536, 65537] I2.rd G4 t t0 (by simp; omega)
    have hv' : -1 ≤ v ∧ v ≤ 65537 := by
      simp at hv
      omega
    have t2 : t < 5 := by omega
    clear G4 hv I2
    go_wp2_with fail
    go_ret
    exact ⟨v, rfl, by omega, I4.bel⟩
  · have hs' : (r == 0) = false := by simpa using hr
    go_wp2_with fail
    refine (pickI _ I2 (by omega) (by omega)).mono ?_
    rintro e w4 ⟨t, rfl, t0, t1, I4, G4⟩
    clear G4 I2
    go_wp2_with fail
    refine (pickI _ I4 (by omega) (by omega)).mono ?_
    rintro e w5 ⟨s, rfl, s0, s1, I5, G5⟩
    clear G5 I4
    go_wp2_with fail
    go_ret
    exact ⟨_, rfl, by omega, I5.bel⟩

def GotSizes (w : World) (e : Ending) (w' : World) : Prop :=
  ∃ (A : Option Addr) (zs : List Int) (n c : Nat), e = .returned (.slice A n c) ∧ zs.length = n ∧ n ≤ 10 ∧ (∀ z ∈ zs, -1 ≤ z ∧ z ≤ 100) ∧ n ≤ c ∧ c ≤ maxLen ∧ Row w' w'.heap.size A (zs.map (Value.int .i64)) ∧ Below w.heap.size w w'
def GotSizes1 (w : World) (e : Ending) (w' : World) : Prop :=
  ∃ (A : Option Addr) (zs : List Int) (n c : Nat) (b : Int), e = .returned (.tuple #[.slice A n c, .int .i64 b]) ∧ zs.length = n ∧ n ≤ 10 ∧ (∀ z ∈ zs, -1 ≤ z ∧ z ≤ 100) ∧ n ≤ c ∧ c ≤ maxLen ∧ (-1000 ≤ b ∧ b ≤ 1000) ∧ Row w' w'.heap.size A (zs.map (Value.int .i64)) ∧ Below w.heap.size w w'
/-- Sizes of batches in a row of the call's own. -/
def Sized (w0 w : World) (g p : Nat) (e : Ending) (w' : World) : Prop :=
  ∃ (A : Option Addr) (zs : List Int) (n c q : Nat), e = .returned (.slice A n c) ∧ zs.length = n ∧ n ≤ 10 ∧ (∀ z ∈ zs, -1 ≤ z ∧ z ≤ 100) ∧ q ≤ p + 20 ∧ RdI w0 w' g q ∧ w.heap.size ≤ w'.heap.size ∧ n ≤ c ∧ c ≤ maxLen ∧ w'.ownsRow w.heap.size 3 1 (.slice A n c) n (zs.map (Value.int .i64))

set_option maxHeartbeats 4000000 in
theorem l93Sizes_any {w0 w : World} {g p : Nat} (I : RdI w0 w g p) (hp : p ≤ 1000) :
    Calls Try.prog 36 #[.pointer (some ⟨g, 0, none⟩)] w (Sized w0 w g p) := by
  obtain ⟨i0, hi0, hz0, hz1, hz2⟩ := info_parts info_int
  have HI := Lib.hid hi0
  have HZ0 := Lib.hid hz0
  have HZ1 := Lib.hid hz1
  have HZ2 := Lib.hid hz2
  clear hi0 hz0 hz1 hz2
  have hg1 := I.rd.lt_
  go_enter Try.func36, Try.ntmps36
  go_wp2_with fail
  refine (pickI _ (I.alloc _) (by omega) (by omega)).mono ?_
  rintro e w2 ⟨nn, rfl, n0, n1, I2, G2⟩
  have hs2 := G2.size
  simp at hs2
  have hown2 := own_grown (own_empty w w.heap.size 3 1 (Nat.le_refl _)) G2 hg1
  clear I G2
  go_wp2_with fail
  go_loopw [3, 5] (fun s i wx => ∃ (k : Nat) (ys : List Int) (q : Nat), (k : Int) ≤ nn ∧ i = .int .i64 k ∧ Hid (ys.length = k) ∧ q ≤ p + 1 + 2 * k ∧ w.heap.size ≤ wx.heap.size ∧ Hid (∀ z ∈ ys, -1 ≤ z ∧ z ≤ 100) ∧ RdI w0 wx g q ∧ wx.ownsRow w.heap.size 3 1 s k (ys.map (Value.int .i64))) (fun _ i _ => nn.toNat - (intOf i).toNat)
  case atStart => exact ⟨0, [], p + 1, by omega, rfl, rfl, by omega, by omega, fun z hz => by simp at hz, I2, hown2⟩
  case round =>
    clear I2 hown2
    obtain ⟨k, ys, q, hk, rfl, HY, hq, hsz, HB, I4, hown⟩ := hrel
    by_cases hlt : (k : Int) < nn
    · go_wp2_with fail
      refine (pickI _ I4 (by omega) (by omega)).mono ?_
      rintro e w5 ⟨t, rfl, t0, t1, I5, G5⟩
      have hs5 := G5.size
      have hown5 := own_grown hown G5 hg1
      clear I4 G5 hown
      go_wp2_with fail
      refine (pickI _ I5 (by omega) (by omega)).mono ?_
      rintro e w6 ⟨s, rfl, s0, s1, I6, G6⟩
      have hs6 := G6.size
      have hown6 := own_grown hown5 G6 hg1
      clear I5 G6 hown5
      have hm := mul_bd t0 (show t ≤ 4 by omega) s0 (show s ≤ 5 by omega)
      go_wp2_with (at_builtin; refine wpList_append_own_at _ rfl (.tmp 14) (.tmp 20) _ rfl w.heap.size 3 i0 _ 1 8 Try.underlying22 HI.out HZ0.out HZ1.out HZ2.out rfl (by omega) u3 _ _ rfl (own_alloc hown6 _) ⟨w6.heap.size, 0, none⟩ 1 1 [.int .i64 (t * s)] rfl rfl (cell_one_new _ _ _) (by intro u hu; simp at hu; subst hu; rfl) (by unfold maxLen; omega) (by omega) (by simp; omega) ?_; intro v' w7 hown7 hgrow7 hnil7 hat7; clear hnil7 hat7)
      go_roundw
      case rel =>
        refine ⟨k + 1, ys ++ [t * s], q + 2, by omega, by go_num, ?_, by omega, ?_, fun z hz => ?_, ?_, by simpa using hown7⟩
        · show (ys ++ [t * s]).length = k + 1
          rw [List.length_append, HY.out]
          rfl
        · have := hgrow7.size
          simp at this
          omega
        · rcases List.mem_append.1 hz with hz | hz
          · exact HB.out z hz
          · rw [List.mem_singleton.1 hz]
            omega
        · exact (I6.alloc _).grown hgrow7 (fun x hx => by have := (own_block hown6 x hx).1; omega)
      case measure => simp [intOf]; omega
    · by_cases hn0 : 0 < nn
      · go_wp2_with fail
        refine (pickI _ I4 (by omega) (by omega)).mono ?_
        rintro e w5 ⟨t, rfl, t0, t1, I5, G5⟩
        have hs5 := G5.size
        have hown5 := own_grown hown G5 hg1
        clear I4 G5 hown
        by_cases ht : t = 0
        · subst ht
          go_wp2_with fail
          refine (pickI _ I5 (by omega) (by omega)).mono ?_
          rintro e w6 ⟨i1, rfl, i10, i11, I6, G6⟩
          have hs6 := G6.size
          have hown6 := own_grown hown5 G6 hg1
          clear I5 G6 hown5
          go_wp2_with fail
          refine (pickI _ (I6.alloc _) (by omega) (by omega)).mono ?_
          rintro e w7 ⟨s, rfl, s0, s1, I7, G7⟩
          obtain ⟨v, hv, hc⟩ := lit_int [-1, 99, 100] I6.rd G7 s s0 (by simp; omega)
          have hs7 := G7.size
          simp at hs7
          have hown7 := own_grown (own_alloc hown6 _) G7 hg1
          have hv' : -1 ≤ v ∧ v ≤ 100 := by
            simp at hv
            omega
          have s2 : s < 3 := by omega
          clear I6 G7 hown6 hv
          obtain ⟨b, cc, cur, rfl, hbb, hheap, hc1, hc2, hcs, htk⟩ : ∃ b cc cur, u3 = .slice (some ⟨b, 0, none⟩) k cc ∧ w.heap.size ≤ b ∧ w7.heap[b]? = some (.cells cur 3 (0, 0)) ∧ k ≤ cc ∧ cc ≤ maxLen ∧ cur.size = cc * 1 ∧ cur.toList.take (k * 1) = ys.map (Value.int .i64) := by
            rcases hown7.2 with ⟨_, h0⟩ | h
            · omega
            · obtain ⟨b, cc, cur, h1, h2, h3, h4, h5, h6, h7⟩ := h
              exact ⟨b, cc, cur, h1, h2, h3, h4, h5, h6, h7⟩
          have HT := Lib.hid htk
          have HCS := Lib.hid hcs
          have HHH := Lib.hid hheap
          clear htk hcs hheap
          unfold maxLen at hc2
          have hil : i1.toNat < k := by omega
          have hik : i1 < (k : Int) := by omega
          have hcell : ∃ u, w7.cell? ⟨b, i1.toNat, none⟩ = some u := by
            rw [hown7.cellAt _ (by omega)]
            exact ⟨_, List.getElem?_eq_getElem (by rw [List.length_map, HY.out]; exact hil)⟩
          obtain ⟨u, hu⟩ := hcell
          have hfz := hown7.frozenAt i1.toNat
          have ST := Lib.hid (hown7.stored i1.toNat (.int .i64 v))
          clear hown7
          go_wp2_with fail
          have I9 := I7.grown ST.out.2 (fun x hx => by injection hx with hx; omega)
          have hs9 := ST.out.2.size
          have hown9 : World.ownsRow (w7.setCell ⟨b, i1.toNat, none⟩ (.int .i64 v)) w.heap.size 3 1 (.slice (some ⟨b, 0, none⟩) k cc) k ((ys.set i1.toNat v).map (Value.int .i64)) := by
            rw [List.map_set]
            exact ST.out.1
          have HY' : Hid ((ys.set i1.toNat v).length = k) := by
            show _ = _
            rw [List.length_set]
            exact HY.out
          have HB' : Hid (∀ z ∈ ys.set i1.toNat v, -1 ≤ z ∧ z ≤ 100) := fun z hz => by
            rcases List.mem_or_eq_of_mem_set hz with hz | hz
            · exact HB.out z hz
            · omega
          clear HB HY I7 ST HT HCS HHH hc
          generalize ys.set i1.toNat v = ys at *
          have HB := HB'
          have HY := HY'
          clear HB' HY'
          refine (pickI _ I9 (by omega) (by omega)).mono ?_
          rintro e w10 ⟨t10, rfl, t100, t101, I10, G10⟩
          have hs10 := G10.size
          have hown10 := own_grown hown9 G10 hg1
          clear I9 G10 hown9
          by_cases ht10 : t10 = 0
          · subst ht10
            go_wp2_with (at_builtin; refine wpList_append_own_at _ rfl (.tmp 42) (.tmp 43) _ rfl w.heap.size 3 i0 _ 1 8 Try.underlying22 HI.out HZ0.out HZ1.out HZ2.out rfl (by omega) _ _ _ rfl (own_alloc hown10 _) ⟨w10.heap.size, 0, none⟩ 4 4 [.int .i64 1, .int .i64 1, .int .i64 1, .int .i64 1] rfl rfl (World.news_of_block (heap_alloc_new w10 _)) (by intro u hu; simp at hu; subst hu; rfl) (by unfold maxLen; omega) (by omega) (by simp; omega) ?_; intro v' w11 hown11 hgrow11 hnil11 hat11; clear hnil11 hat11)
            have I11 := (I10.alloc _).grown hgrow11 (fun x hx => by have := (own_block hown10 x hx).1; omega)
            have hs11 := hgrow11.size
            simp at hs11
            obtain ⟨A', c', rfl, hc1, hc2, hlen', hrow'⟩ := own_slice hown11
            have HLen' := Lib.hid hlen'
            have HG := Lib.hid hgrow11
            clear hlen' hgrow11
            go_ret
            refine ⟨A', ys ++ [1, 1, 1, 1], k + 4, c', _, rfl, ?_, by omega, fun z hz => ?_, by omega, I11, by omega, hc1, hc2, by simpa using hown11⟩
            · rw [List.length_append, HY.out]
              rfl
            · rcases List.mem_append.1 hz with hz | hz
              · exact HB.out z hz
              · simp at hz
                omega
          · have ht10' : (t10 == 0) = false := by simpa using ht10
            obtain ⟨A', c', hv10, hc1, hc2, hlen', hrow'⟩ := own_slice hown10
            (first | subst hv10 | (injection hv10 with hv1 hv2 hv3; subst hv1 hv3))
            have HLen' := Lib.hid hlen'
            clear hlen'
            go_wp2_with fail
            go_ret
            exact ⟨_, ys, k, _, _, rfl, HY.out, by omega, HB.out, by omega, I10, by omega, hc1, hc2, hown10⟩
        · have ht' : (t == 0) = false := by simpa using ht
          have I9 := I5
          have hown9 := hown5
          clear I5 hown5
          go_wp2_with fail
          refine (pickI _ I9 (by omega) (by omega)).mono ?_
          rintro e w10 ⟨t10, rfl, t100, t101, I10, G10⟩
          have hs10 := G10.size
          have hown10 := own_grown hown9 G10 hg1
          clear I9 G10 hown9
          by_cases ht10 : t10 = 0
          · subst ht10
            go_wp2_with (at_builtin; refine wpList_append_own_at _ rfl (.tmp 42) (.tmp 43) _ rfl w.heap.size 3 i0 _ 1 8 Try.underlying22 HI.out HZ0.out HZ1.out HZ2.out rfl (by omega) _ _ _ rfl (own_alloc hown10 _) ⟨w10.heap.size, 0, none⟩ 4 4 [.int .i64 1, .int .i64 1, .int .i64 1, .int .i64 1] rfl rfl (World.news_of_block (heap_alloc_new w10 _)) (by intro u hu; simp at hu; subst hu; rfl) (by unfold maxLen; omega) (by omega) (by simp; omega) ?_; intro v' w11 hown11 hgrow11 hnil11 hat11; clear hnil11 hat11)
            have I11 := (I10.alloc _).grown hgrow11 (fun x hx => by have := (own_block hown10 x hx).1; omega)
            have hs11 := hgrow11.size
            simp at hs11
            obtain ⟨A', c', rfl, hc1, hc2, hlen', hrow'⟩ := own_slice hown11
            have HLen' := Lib.hid hlen'
            have HG := Lib.hid hgrow11
            clear hlen' hgrow11
            go_ret
            refine ⟨A', ys ++ [1, 1, 1, 1], k + 4, c', _, rfl, ?_, by omega, fun z hz => ?_, by omega, I11, by omega, hc1, hc2, by simpa using hown11⟩
            · rw [List.length_append, HY.out]
              rfl
            · rcases List.mem_append.1 hz with hz | hz
              · exact HB.out z hz
              · simp at hz
                omega
          · have ht10' : (t10 == 0) = false := by simpa using ht10
            obtain ⟨A', c', hv10, hc1, hc2, hlen', hrow'⟩ := own_slice hown10
            (first | subst hv10 | (injection hv10 with hv1 hv2 hv3; subst hv1 hv3))
            have HLen' := Lib.hid hlen'
            clear hlen'
            go_wp2_with fail
            go_ret
            exact ⟨_, ys, k, _, _, rfl, HY.out, by omega, HB.out, by omega, I10, by omega, hc1, hc2, hown10⟩
      · obtain rfl : nn = 0 := by omega
        have I9 := I4
        have hown9 := hown
        clear I4 hown
        go_wp2_with fail
        refine (pickI _ I9 (by omega) (by omega)).mono ?_
        rintro e w10 ⟨t10, rfl, t100, t101, I10, G10⟩
        have hs10 := G10.size
        have hown10 := own_grown hown9 G10 hg1
        clear I9 G10 hown9
        by_cases ht10 : t10 = 0
        · subst ht10
          go_wp2_with (at_builtin; refine wpList_append_own_at _ rfl (.tmp 42) (.tmp 43) _ rfl w.heap.size 3 i0 _ 1 8 Try.underlying22 HI.out HZ0.out HZ1.out HZ2.out rfl (by omega) _ _ _ rfl (own_alloc hown10 _) ⟨w10.heap.size, 0, none⟩ 4 4 [.int .i64 1, .int .i64 1, .int .i64 1, .int .i64 1] rfl rfl (World.news_of_block (heap_alloc_new w10 _)) (by intro u hu; simp at hu; subst hu; rfl) (by unfold maxLen; omega) (by omega) (by simp; omega) ?_; intro v' w11 hown11 hgrow11 hnil11 hat11; clear hnil11 hat11)
          have I11 := (I10.alloc _).grown hgrow11 (fun x hx => by have := (own_block hown10 x hx).1; omega)
          have hs11 := hgrow11.size
          simp at hs11
          obtain ⟨A', c', rfl, hc1, hc2, hlen', hrow'⟩ := own_slice hown11
          have HLen' := Lib.hid hlen'
          have HG := Lib.hid hgrow11
          clear hlen' hgrow11
          go_ret
          refine ⟨A', ys ++ [1, 1, 1, 1], k + 4, c', _, rfl, ?_, by omega, fun z hz => ?_, by omega, I11, by omega, hc1, hc2, by simpa using hown11⟩
          · rw [List.length_append, HY.out]
            rfl
          · rcases List.mem_append.1 hz with hz | hz
            · exact HB.out z hz
            · simp at hz
              omega
        · have ht10' : (t10 == 0) = false := by simpa using ht10
          obtain ⟨A', c', hv10, hc1, hc2, hlen', hrow'⟩ := own_slice hown10
          (first | subst hv10 | (injection hv10 with hv1 hv2 hv3; subst hv1 hv3))
          have HLen' := Lib.hid hlen'
          clear hlen'
          go_wp2_with fail
          go_ret
          exact ⟨_, ys, k, _, _, rfl, HY.out, by omega, HB.out, by omega, I10, by omega, hc1, hc2, hown10⟩

set_option maxHeartbeats 1000000 in
theorem DrawManifestTotal_any (a : Option Addr) (len cap : Nat) (zs : List Int) (w : World) (h : IsRow .u8 w a len cap zs) :
    Calls Try.prog 26 #[.slice a len cap] w (fun e w' => GotSizes w e w') := by
  go_enter Try.func26, Try.ntmps26
  go_wp2_with fail
  refine (open_any _ _ _ _ _ h).mono ?_
  rintro e w1 ⟨g, rfl, I⟩
  clear h
  go_wp2_with fail
  refine (l93Sizes_any I (by omega)).mono ?_
  rintro e w2 ⟨A, ys, n, c, q, rfl, hl, hn, hb, hq, I2, hs, hc1, hc2, hown⟩
  have HL := Lib.hid hl
  have HB := Lib.hid hb
  clear hl hb I
  go_wp2_with fail
  go_ret
  obtain ⟨A', c', e, _, _, _, hrow⟩ := own_slice hown
  injection e with e1 e2 e3
  subst e1 e3
  exact ⟨A, ys, n, c, rfl, HL.out, hn, HB.out, hc1, hc2, hrow, I2.bel⟩

set_option maxHeartbeats 1000000 in
theorem DrawManifestAt_any (a : Option Addr) (len cap : Nat) (zs : List Int) (w : World) (h : IsRow .u8 w a len cap zs) :
    Calls Try.prog 29 #[.slice a len cap] w (GotSizes1 w) := by
  go_enter Try.func29, Try.ntmps29
  go_wp2_with fail
  refine (open_any _ _ _ _ _ h).mono ?_
  rintro e w1 ⟨g, rfl, I⟩
  clear h
  have hg1 := I.rd.lt_
  go_wp2_with fail
  refine (l93Sizes_any I (by omega)).mono ?_
  rintro e w2 ⟨A, ys, n, c, q, rfl, hl, hn, hb, hq, I2, hs, hc1, hc2, hown⟩
  have HL := Lib.hid hl
  have HB := Lib.hid hb
  clear hl hb I
  obtain ⟨A', c', e, _, _, _, hrow⟩ := own_slice hown
  injection e with e1 e2 e3
  subst e1 e3
  clear e2
  have hbd := Man.tot_bd ys
  go_wp2_with fail
  refine (sTotal_any _ _ _ ys _ HL.out (by omega) hrow).mono ?_
  rintro e w' ⟨rfl, rfl⟩
  clear hrow
  go_wp2_with fail
  all_goals
    refine (pickI _ I2 (by omega) (by omega)).mono ?_
    rintro e w3 ⟨r, rfl, r0, r1, I3, G3⟩
    have hown3 := own_grown hown G3 (by omega)
    clear I2 G3 hown
    go_wp2_with fail
    refine (pickI _ I3 (by omega) (by omega)).mono ?_
    rintro e w4 ⟨s, rfl, s0, s1, I4, G4⟩
    have hown4 := own_grown hown3 G4 (by omega)
    clear I3 G4 hown3
    go_wp2_with fail
    go_ret2
    obtain ⟨A', c', e, _, _, _, hrow⟩ := own_slice hown4
    injection e with e1 e2 e3
    subst e1 e3
    exact ⟨A, ys, n, c, _, rfl, HL.out, hn, HB.out, hc1, hc2, by omega, hrow, I4.bel⟩

end Go.Proofs.Ytkjdccpomldmeaa
