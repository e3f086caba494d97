/- What SampleOf returns, the program's. The conditions stand in each theorem. -/
import Derived.Test.YtkjdccpomldmeaaSampM
import Derived.Test.YtkjdccpomldmeaaShelf
namespace Go.Proofs.Ytkjdccpomldmeaa
open Go.RowKit Go.ChangeShapes
set_option linter.unusedVariables false

def okS (n m s : Int) : Prop := 1 ≤ n ∧ n ≤ 99 ∧ 0 ≤ m ∧ m ≤ n ∧ 0 ≤ s ∧ s ≤ 999
instance (n m s : Int) : Decidable (okS n m s) := by unfold okS; infer_instance
def smpL (n m s : Int) : List Int := if okS n m s then (run n.toNat s m.toNat).out else []
def smpB (n m s : Int) : Bool := decide (okS n m s)
theorem smp_in {n m s : Int} (h : okS n m s) : smpL n m s = (run n.toNat s m.toNat).out ∧ smpB n m s = true := ⟨if_pos h, decide_eq_true h⟩
theorem smp_out {n m s : Int} (h : ¬ okS n m s) : smpL n m s = [] ∧ smpB n m s = false := ⟨if_neg h, decide_eq_false h⟩

/-- A slice of the call's own that reads as the sample, and whether there is one. -/
def Sampled (w : World) (n m s : Int) (e : Ending) (w' : World) : Prop :=
  ∃ (A : Option Addr) (k c : Nat), e = .returned (.tuple #[.slice A k c, .bool (smpB n m s)]) ∧ (smpL n m s).length = k ∧ k ≤ 99 ∧ k ≤ c ∧ c ≤ maxLen ∧ w'.ownsRow w.heap.size 3 1 (.slice A k c) k ((smpL n m s).map (Value.int .i64)) ∧ Below w.heap.size w w'
theorem ret_sb {A : Option Addr} {n c : Nat} {a b : Bool} (h : a = b) : Ending.returned (.tuple #[.slice A n c, .bool a]) = .returned (.tuple #[.slice A n c, .bool b]) := by rw [h]

theorem Sampled.none_ {w w' : World} {n m s : Int} (h : ¬ okS n m s) (hb : Below w.heap.size w w') : Sampled w n m s (.returned (.tuple #[.slice none 0 0, .bool false])) w' :=
  ⟨none, 0, 0, ret_sb (smp_out h).2.symm, by rw [(smp_out h).1]; rfl, by omega, Nat.le_refl _, by unfold maxLen; omega, by rw [(smp_out h).1]; exact own_nil _ _ _ _, hb⟩

theorem own_at {w w' : World} {base : Nat} {e : TypeId} {size g n c : Nat} {xs : List Value} (h : w.ownsRow base e size (.slice (some ⟨g, 0, none⟩) n c) n xs) (hk : w'.heap[g]? = w.heap[g]?) : w'.ownsRow base e size (.slice (some ⟨g, 0, none⟩) n c) n xs := by
  refine ⟨h.1, ?_⟩
  rcases h.2 with ⟨h0, _⟩ | ⟨g', cap, cur, hv, hb, hh, h1, h2, h3, h4⟩
  · cases h0
  · have hg : g = g' := by
      injection hv with hA
      injection hA with hA
      injection hA
    subst hg
    exact .inr ⟨g, cap, cur, hv, hb, hk.trans hh, h1, h2, h3, h4⟩
theorem own_shrink {w : World} {base : Nat} {e : TypeId} {g n c m : Nat} {xs : List Value} (h : w.ownsRow base e 1 (.slice (some ⟨g, 0, none⟩) n c) n xs) (hm : m ≤ n) : w.ownsRow base e 1 (.slice (some ⟨g, 0, none⟩) m c) m (xs.take m) := by
  have hl := h.1
  refine ⟨by rw [List.length_take]; omega, ?_⟩
  rcases h.2 with ⟨h0, _⟩ | ⟨g', cap, cur, hv, hb, hh, h1, h2, h3, h4⟩
  · cases h0
  · have hg : g = g' ∧ c = cap := by
      injection hv with hA hn hc
      injection hA with hA
      injection hA with hA
      exact ⟨hA, hc⟩
    obtain ⟨rfl, rfl⟩ := hg
    refine .inr ⟨g, c, cur, rfl, hb, hh, by omega, h2, h3, ?_⟩
    rw [← h4, List.take_take]
    congr 1
    omega
theorem grown_trans' {a b c : World} {row : Option Nat} (h : a.grownBy b row) (k : b.grownBy c row) : a.grownBy c row :=
  ⟨k.os.trans h.os, k.tape.trans h.tape, k.output.trans h.output, Nat.le_trans h.size k.size, fun i hi hne => (k.block i (Nat.lt_of_lt_of_le hi h.size) hne).trans (h.block i hi hne)⟩
theorem own_setCells {base : Nat} {e : TypeId} {g n c : Nat} : ∀ (vs : List Value) (o : Nat) (w : World) (xs : List Value), w.ownsRow base e 1 (.slice (some ⟨g, 0, none⟩) n c) n xs → o + vs.length = n →
    (w.setCells g o vs).ownsRow base e 1 (.slice (some ⟨g, 0, none⟩) n c) n (xs.take o ++ vs) ∧ w.grownBy (w.setCells g o vs) (some g)
  | [], o, w, xs, h, ho => by
    have hl := h.1
    have e : xs.take o ++ [] = xs := by
      rw [List.append_nil]
      exact List.take_of_length_le (by simp at ho; omega)
    rw [e]
    exact ⟨h, World.grownBy.refl w _⟩
  | v :: r, o, w, xs, h, ho => by
    have hl := h.1
    simp at ho
    have h1 := h.stored o v
    have h2 := own_setCells r (o + 1) _ _ h1.1 (by omega)
    refine ⟨?_, grown_trans' h1.2 h2.2⟩
    have e : (xs.set o v).take (o + 1) ++ r = xs.take o ++ v :: r := by
      rw [List.take_succ_eq_append_getElem (by rw [List.length_set]; omega), List.take_set]
      have e1 : (xs.take o).set o v = xs.take o := List.set_eq_of_length_le (by rw [List.length_take]; omega)
      rw [e1]
      simp
    rw [← e]
    exact h2.1

theorem range_snoc (k : Nat) : (List.range (k + 1)).map (fun i : Nat => (i : Int)) = (List.range k).map (fun i : Nat => (i : Int)) ++ [(k : Int)] := by
  rw [List.range_succ, List.map_append]
  rfl

set_option maxHeartbeats 2000000 in
theorem SampleOf_yes (N M : Nat) (s : Int) (w : World) (h : okS N M s) :
    Calls Try.prog 19 #[.int .i64 N, .int .i64 M, .int .i64 s] w (Sampled w N M s) := by
  have HO := Lib.hid h
  obtain ⟨g1, g2, g3, g4, g5, g6⟩ := h
  have d1 : decide ((N : Int) < 1) = false := by simp; omega
  have d2 : decide (99 < (N : Int)) = false := by simp; omega
  have d3 : decide ((M : Int) < 0) = false := by simp
  have d4 : decide (N < M) = false := by simp; omega
  have d5 : decide (s < 0) = false := by simp; omega
  have d6 : decide (999 < s) = false := by simp; omega
  obtain ⟨i0, hi0, hz0, hz1, hz2⟩ := info_parts info_int
  have HI := Lib.hid hi0
  have HZ0 := Lib.hid hz0
  have HZ1 := Lib.hid hz1
  have HZ2 := Lib.hid hz2
  clear hi0 hz0 hz1 hz2
  go_enter Try.func19, Try.ntmps19
  go_wp2_with fail
  go_loopw [8, 37] (fun v i wx => ∃ k : Nat, k ≤ N ∧ i = .int .i64 k ∧ Below w.heap.size w wx ∧ wx.ownsRow w.heap.size 3 1 v k (((List.range k).map (fun i : Nat => (i : Int))).map (Value.int .i64))) (fun _ i _ => N - (intOf i).toNat)
  case atStart => exact ⟨0, Nat.zero_le _, rfl, Below.refl _ _, own_nil _ _ _ _⟩
  case round =>
    obtain ⟨k, hk, rfl, hbel, hown⟩ := hrel
    have hbs := hbel.size
    by_cases hlt : k < N
    · go_wp2_with (at_builtin; refine wpList_append_own_at _ rfl (.tmp 40) (.tmp 42) _ rfl w.heap.size 3 i0 _ 1 8 Try.underlying22 HI.out HZ0.out HZ1.out HZ2.out rfl (by omega) u8 _ _ rfl (own_alloc hown _) ⟨wr.heap.size, 0, none⟩ 1 1 [.int .i64 (k : Int)] rfl rfl (cell_one_new _ _ _) (by intro u hu; simp at hu; subst hu; rfl) (by unfold maxLen; omega) (by omega) (by simp; omega) ?_; intro v' w6 hown6 hgrow6 hnil6 hat6; clear hnil6 hat6)
      go_roundw
      case rel =>
        refine ⟨k + 1, by omega, by go_num, (hbel.alloc hbs _).grown hgrow6 (by simp; omega) (fun x hx => (own_block hown x hx).1), ?_⟩
        rw [range_snoc, List.map_append]
        exact hown6
      case measure => simp [intOf]; omega
    · obtain rfl : k = N := by omega
      go_wp2_with fail
      obtain ⟨B, hBe⟩ : ∃ B, B = wr.heap.size := ⟨_, rfl⟩
      have HB := Lib.hid hBe
      clear hBe
      go_loopw [8, 9, 11, 47] (fun l v t i wx => ∃ (j : Nat) (x : Dr) (L c : Nat) (g : Nat), j ≤ M ∧ i = .int .i64 j ∧ t = .int .i64 x.st ∧ l = .slice (some ⟨g, 0, none⟩) L c ∧ 0 ≤ x.st ∧ x.st ≤ 65536 ∧ Hid (L + j = k) ∧ Hid (x = run k s j) ∧ Below w.heap.size w wx ∧ w.heap.size ≤ g ∧ g < B ∧ B ≤ wx.heap.size ∧
        wx.ownsRow w.heap.size 3 1 (.slice (some ⟨g, 0, none⟩) L c) L (x.left.map (Value.int .i64)) ∧ wx.ownsRow B 3 1 v j (x.out.map (Value.int .i64))) (fun _ _ _ i _ => M - (intOf i).toNat)
      case atStart =>
        have hown' := hown
        rcases hown'.2 with ⟨_, h0⟩ | ⟨g, c, cur, rfl, hgb, hh, _⟩
        · omega
        · exact ⟨0, run k s 0, k, c, g, Nat.zero_le _, rfl, rfl, rfl, by show 0 ≤ s; omega, by show s ≤ 65536; omega, rfl, rfl, hbel, hgb, by rw [HB.out]; exact (own_block hown g (by simp [Value.ownBlock])).2, by rw [HB.out]; exact Nat.le_refl _, hown, own_nil _ _ _ _⟩
      case round =>
        have hBw : w.heap.size ≤ B := by rw [HB.out]; exact hbs
        clear hown hbel hbs
        obtain ⟨j, x, L, c, g, hj, rfl, rfl, rfl, x0, x1, HL, HX, hbel2, hgb, hg1, hsz, hown1, hown2⟩ := hrel
        obtain ⟨st, left, out⟩ := x
        simp only at x0 x1 hown1 hown2
        have hlen : left.length = L := by have := hown1.1; simpa using this
        by_cases hlt2 : j < M
        · have hL0 : 0 < L := by have := HL.out; omega
          have hL9 : L ≤ 99 := by have := HL.out; omega
          have E : snx st = nxt st := snx_in ⟨x0, x1⟩
          have nb := nxt_bd st
          obtain ⟨q, hq⟩ : ∃ q : Nat, nxt st % (L : Int) = (q : Int) := ⟨(nxt st % (L : Int)).toNat, by have := Int.emod_nonneg (nxt st) (show (L : Int) ≠ 0 by omega); omega⟩
          have hqL : q < L := by have := Int.emod_lt_of_pos (nxt st) (show (0 : Int) < (L : Int) by omega); omega
          have hql : q < left.length := by omega
          have HS : Hid (run k s (j + 1) = ⟨nxt st, left.eraseIdx q, out ++ [left[q]]⟩) := by
            show (run k s j).step = _
            rw [← HX.out]
            have hp : (Dr.mk st left out).place = q := by
              unfold Dr.place
              simp only [hlen, hq]
              exact Int.toNat_natCast _
            unfold Dr.step
            rw [hp]
            simp [hql]
          have hc : wr.cell? ⟨g, q, none⟩ = some (.int .i64 left[q]) := by
            rw [hown1.cellAt q (by omega)]
            simp [hql]
          have HLen := Lib.hid hlen
          have HQ := Lib.hid hq
          clear hlen hq
          go_wp2_with (first
            | (go_at_call 24; refine (SampleNext_any _ _).mono ?_; rintro e w' ⟨rfl, rfl⟩; have hq := HQ.out)
            | (at_builtin; refine wpList_append_own_at _ rfl (.tmp 55) (.tmp 60) _ rfl B 3 i0 _ 1 8 Try.underlying22 HI.out HZ0.out HZ1.out HZ2.out rfl (by omega) u9 _ _ rfl (own_alloc hown2 _) ⟨wr.heap.size, 0, none⟩ 1 1 [.int .i64 left[q]] rfl rfl (cell_one_new _ _ _) (by intro u hu; simp at hu; subst hu; rfl) (by unfold maxLen; omega) (by omega) (by simp; omega) ?_; intro v' w6 hown6 hgrow6 hnil6 hat6; clear hnil6 hat6)
            | fail)
          clear hq
          have hk6 : w6.heap[g]? = wr.heap[g]? := (hgrow6.block g (by simp; omega) (fun e => by have := (own_block hown2 g e.symm).1; omega)).trans (Below.heap_alloc wr _ g (by omega))
          have hown7 := own_at hown1 hk6
          have hs6 := hgrow6.size
          simp at hs6
          have hbel6 := (hbel2.alloc hbel2.size (.cells #[.int .i64 left[q]] 3)).grown hgrow6 (by have := hbel2.size; simp; omega) (fun x hx => by have := (own_block hown2 x hx).1; omega)
          have hdel := Try.slices_Delete_int_cells g 0 L c q (q + 1) left w6 (by rw [HLen.out]; exact Nat.le_refl _) (by
              rcases hown1.2 with ⟨h0, _⟩ | ⟨g', cap, cur, hv, _, _, h1, _⟩
              · cases h0
              · injection hv with _ _ hcc
                omega) (by
              rcases hown1.2 with ⟨h0, _⟩ | ⟨g', cap, cur, hv, _, _, _, h2, _⟩
              · cases h0
              · injection hv with _ _ hcc
                unfold maxLen at h2
                omega) (by omega) (by omega)
            (fun i hi => by
              rw [Nat.zero_add, hown7.cellAt i (by rw [HLen.out] at hi; omega)]
              simp [hi])
            (fun i hi => by
              rw [Nat.zero_add]
              exact hown7.frozenAt i)
          rw [show ((q + 1 : Nat) : Int) = (q : Int) + 1 from by omega] at hdel
          refine hdel.mono ?_
          rintro e w7 ⟨rfl, d, rfl⟩
          clear hdel
          have hvl : (((left.take L).take q ++ (left.take L).drop (q + 1) ++ List.replicate (q + 1 - q) 0).map (Value.int .i64)).length = L := by
            simp only [List.length_map, List.length_append, List.length_take, List.length_drop, List.length_replicate, HLen.out]
            omega
          have hst := own_setCells (((left.take L).take q ++ (left.take L).drop (q + 1) ++ List.replicate (q + 1 - q) 0).map (Value.int .i64)) 0 (w6.drewN d) _ hown7 (by rw [hvl]; omega)
          have hsh := own_shrink hst.1 (show L - 1 ≤ L by omega)
          have hlist : (List.take 0 (left.map (Value.int .i64)) ++ ((left.take L).take q ++ (left.take L).drop (q + 1) ++ List.replicate (q + 1 - q) 0).map (Value.int .i64)).take (L - 1) = (left.eraseIdx q).map (Value.int .i64) := by
            have e0 : left.take L = left := List.take_of_length_le (by rw [HLen.out]; exact Nat.le_refl _)
            rw [e0, List.take_zero, List.nil_append, List.map_append, List.eraseIdx_eq_take_drop_succ]
            rw [List.take_append_of_le_length (by simp only [List.length_map, List.length_append, List.length_take, List.length_drop, HLen.out]; omega)]
            exact List.take_of_length_le (by simp only [List.length_map, List.length_append, List.length_take, List.length_drop, HLen.out]; omega)
          rw [hlist] at hsh
          have hown8 := own_grown (w := w6.drewN d) hown6 hst.2 hg1
          have hbel8 := (below_drewN hbel6 d).grown hst.2 hbel6.size (fun x hx => by injection hx with hx; omega)
          have hs8 := hst.2.size
          have HSH := Lib.hid hsh
          have e1 : q + 1 - q = 1 := by omega
          have hs8' : w6.heap.size ≤ ((w6.drewN d).setCells g 0 (((left.take L).take q ++ (left.take L).drop (q + 1) ++ List.replicate (q + 1 - q) 0).map (Value.int .i64))).heap.size := hs8
          generalize (w6.drewN d).setCells g 0 (((left.take L).take q ++ (left.take L).drop (q + 1) ++ List.replicate (q + 1 - q) 0).map (Value.int .i64)) = w9 at *
          rw [e1]
          clear hst hsh hlist hvl hown7 hown6 hown1 hown2 hk6 hgrow6 hc hs8 e1 hbel2
          go_wp2_with fail
          go_roundw
          case rel =>
            refine ⟨j + 1, ⟨nxt st, left.eraseIdx q, out ++ [left[q]]⟩, L - 1, c, g, by omega, by go_num, rfl, rfl, nb.1, nb.2, ?_, HS.out.symm, hbel8, hgb, hg1, by omega, HSH.out, ?_⟩
            · show L - 1 + (j + 1) = k
              have := HL.out
              omega
            · show w9.ownsRow B 3 1 v' (j + 1) ((out ++ [left[q]]).map (Value.int .i64))
              rw [List.map_append]
              exact hown8
          case measure => simp [intOf]; omega
        · obtain rfl : j = M := by omega
          obtain ⟨A', c', rfl, hc1, hc2, hlen', hrow'⟩ := own_slice hown2
          have HR : Hid (smpL k j s = out ∧ smpB k j s = true) := by
            have h1 := smp_in HO.out
            refine ⟨?_, h1.2⟩
            rw [h1.1]
            simp only [Int.toNat_natCast]
            rw [← HX.out]
          rw [List.length_map] at hlen'
          have HLen := Lib.hid hlen'
          clear hlen' hlen hown1
          go_wp2_with fail
          go_ret2
          refine ⟨A', j, c', ret_sb HR.out.2.symm, by rw [HR.out.1]; exact HLen.out, by omega, hc1, hc2, ?_, hbel2⟩
          rw [HR.out.1]
          refine ⟨hown2.1, ?_⟩
          rcases hown2.2 with h0 | ⟨g', cap, cur, hv, hb', hr'⟩
          · exact .inl h0
          · exact .inr ⟨g', cap, cur, hv, by omega, hr'⟩

end Go.Proofs.Ytkjdccpomldmeaa
