/- What l33Sample and SampleOf return, the reference's and the program's, for every argument. The conditions stand in each theorem. -/
import Derived.Test.YtkjdccpomldmeaaSamp
import Derived.Deep.RegionLaw
import Derived.IntWalk
namespace Go.Proofs.Ytkjdccpomldmeaa
open Go.RowKit Go.ChangeShapes
set_option linter.unusedVariables false

theorem step_append_row {P : Program} (w : World) {ops : Array Oper} {o : Oper} {a : Act} {K : Act → World → Prop} {Q : Exit → Act → World → Prop} {E : Prop} (hgd : o.guard = none) (d : Nat) (hd : o.dst = some d) (s x : Operand) (t : TypeId)
    (ho : o.op = .call { callee := .builtin .append, args := #[s, x], argTypes := #[t, t] })
    (base : Nat) (e : TypeId) (i : TypeInfo) (z : Value) (bytes : Nat) (ht : P.underlying t = some (.slice e)) (hi : P.info? e = some i) (hz : i.zero = some z)
    (hsize : i.size = 1) (hby : i.bytes = bytes) (hzs : z.cells.size = 1)
    (v : Value) (n : Nat) (xs : List Value) (hs : a.eval s = v) (hown : w.ownsRow base e 1 v n xs)
    (ad : Addr) (m c : Nat) (news : List Value) (hx : a.eval x = .slice (some ad) m c) (hl : news.length = m * 1) (hnews : ∀ j u, news[j]? = some u → w.cell? (ad.add j) = some u) (h1 : ∀ u ∈ news, u.oneCell' = true)
    (h63 : n + m ≤ maxLen) (hbytes : (n + m) * bytes ≤ 140737488355328) (hbase : base ≤ w.heap.size)
    (h : ∀ v' w', w'.ownsRow base e 1 v' (n + m) (xs ++ news) → w.grownBy w' v.ownBlock → (v'.ownBlock = v.ownBlock ∨ v'.ownBlock = some w.heap.size) → K (a.put (some d) v') w') :
    if Region.wanted o (yielded ops a.tmps) = true then Oper.wp P o a w K Q else E := by
  have hw : Region.wanted o (yielded ops a.tmps) = true := by simp [Region.wanted, hgd]
  rw [if_pos hw]
  obtain ⟨v', w', hrun, h2, h3, _, h5⟩ := run_append_own_at (P := P) w base t o.type e i z 1 bytes ht hi hz hsize hby hzs (by omega) v n xs hown ad m c news hl hnews h1 h63 hbytes hbase
  have h' : K (a.put o.dst v') w' := by rw [hd]; exact h v' w' h2 h3 h5
  unfold Oper.wp execOp
  simp only [ho, resolve, invoke, builtin, Sem.run_bind, Sem.run_pure, Result.andThen_ok, List.map_toArray, List.map_cons, List.map_nil, hs, hx, hrun]
  exact h'

theorem own_from {w : World} {base base' : Nat} {e : TypeId} {size n : Nat} {v : Value} {xs : List Value} (h : w.ownsRow base e size v n xs) (hb : base' ≤ base) : w.ownsRow base' e size v n xs := by
  refine ⟨h.1, ?_⟩
  rcases h.2 with h0 | ⟨g, cap, cur, hv, h1, h2⟩
  · exact .inl h0
  · exact .inr ⟨g, cap, cur, hv, by omega, h2⟩
/-- A part of a row of one's own, as the source of an append. -/
theorem news_of_own {w w' : World} {base : Nat} {e : TypeId} {g n c : Nat} {zs : List Int} (h : w.ownsRow base e 1 (.slice (some ⟨g, 0, none⟩) n c) n (zs.map (Value.int .i64))) (hk : w'.heap[g]? = w.heap[g]?) (o : Nat) (ys : List Int) (hy : ∀ j z, ys[j]? = some z → zs[o + j]? = some z) :
    ∀ j u, (ys.map (Value.int .i64))[j]? = some u → w'.cell? ((⟨g, o, none⟩ : Addr).add j) = some u := by
  intro j u hu
  rw [List.getElem?_map] at hu
  obtain ⟨z, hz, rfl⟩ := Option.map_eq_some_iff.1 hu
  have h1 := hy j z hz
  have hlt : o + j < zs.length := (List.getElem?_eq_some_iff.1 h1).1
  have hl : zs.length = n := by have := h.1; simpa using this
  have hadd : w'.cell? ((⟨g, o, none⟩ : Addr).add j) = w'.cell? ⟨g, o + j, none⟩ := by
    by_cases hj0 : j = 0
    · subst hj0
      simp [Addr.add]
    · simp [Addr.add, hj0]
  rw [hadd, (own_at h hk).cellAt (o + j) (by omega), List.getElem?_map, h1]
  rfl

set_option maxHeartbeats 2000000 in
theorem sl33Sample_any (N M : Nat) (s : Int) (w : World) (h : okS N M s) :
    Calls Try.prog 40 #[.int .i64 N, .int .i64 M, .int .i64 s] w (fun e w' => ∃ (A : Option Addr) (c : Nat), e = .returned (.slice A M c) ∧ M ≤ c ∧ c ≤ maxLen ∧ w'.ownsRow w.heap.size 3 1 (.slice A M c) M ((run N s M).out.map (Value.int .i64)) ∧ Below w.heap.size w w') := by
  obtain ⟨g1, g2, g3, g4, g5, g6⟩ := h
  obtain ⟨i0, hi0, hz0, hz1, hz2⟩ := info_parts info_int
  have HI := Lib.hid hi0
  have HZ0 := Lib.hid hz0
  have HZ1 := Lib.hid hz1
  have HZ2 := Lib.hid hz2
  clear hi0 hz0 hz1 hz2
  go_enter Try.func40, Try.ntmps40
  go_wp2_with fail
  go_loopw [7, 8] (fun v i wx => ∃ k : Nat, k ≤ N ∧ i = .int .i64 k ∧ Below w.heap.size w wx ∧ wx.ownsRow w.heap.size 3 1 v k (((List.range k).map (fun i : Nat => (i : Int))).map (Value.int .i64))) (fun _ i _ => N - (intOf i).toNat)
  case atStart => exact ⟨0, Nat.zero_le _, rfl, (Below.refl _ _).alloc (Nat.le_refl _) _, own_empty _ _ _ _ (Nat.le_refl _)⟩
  case round =>
    obtain ⟨k, hk, rfl, hbel, hown⟩ := hrel
    have hbs := hbel.size
    by_cases hlt : k < N
    · go_wp2_with (at_builtin; refine wpList_append_own_at _ rfl (.tmp 18) (.tmp 20) _ rfl w.heap.size 3 i0 _ 1 8 Try.underlying22 HI.out HZ0.out HZ1.out HZ2.out rfl (by omega) u7 _ _ rfl (own_alloc hown _) ⟨wr.heap.size, 0, none⟩ 1 1 [.int .i64 (k : Int)] rfl rfl (cell_one_new _ _ _) (by intro u hu; simp at hu; subst hu; rfl) (by unfold maxLen; omega) (by omega) (by simp; omega) ?_; intro v' w6 hown6 hgrow6 hnil6 hat6; clear hnil6 hat6)
      go_roundw
      case rel =>
        refine ⟨k + 1, by omega, by go_num, (hbel.alloc hbs _).grown hgrow6 (by simp; omega) (fun x hx => (own_block hown x hx).1), ?_⟩
        rw [range_snoc, List.map_append]
        exact hown6
      case measure => simp [intOf]; omega
    · obtain rfl : k = N := by omega
      go_wp2_with fail
      go_loopw [7, 9, 10] (fun l v t wx => ∃ (j : Nat) (x : Dr) (L : Nat) (A : Option Addr) (cc : Nat), j ≤ M ∧ t = .int .i64 x.st ∧ v = .slice A j cc ∧ 0 ≤ x.st ∧ x.st ≤ 65536 ∧ Hid (L + j = k) ∧ Hid (x = run k s j) ∧ Below w.heap.size w wx ∧ Hid (∀ g, l.ownBlock = some g → (Value.slice A j cc).ownBlock ≠ some g) ∧
        wx.ownsRow w.heap.size 3 1 l L (x.left.map (Value.int .i64)) ∧ wx.ownsRow w.heap.size 3 1 (.slice A j cc) j (x.out.map (Value.int .i64))) (fun _ v _ _ => match v with | .slice _ j _ => M - j | _ => 0)
      case atStart =>
        refine ⟨0, run k s 0, k, _, 0, Nat.zero_le _, rfl, rfl, by show 0 ≤ s; omega, by show s ≤ 65536; omega, rfl, rfl, hbel.alloc hbs _, fun g hg => ?_, own_alloc hown _, own_empty wr _ _ _ hbs⟩
        have := (own_block hown g hg).2
        simp [Value.ownBlock]
        omega
      case round =>
        clear hown hbel hbs
        obtain ⟨j, x, L, A, cc, hj, rfl, rfl, x0, x1, HL, HX, hbel2, HNE, hown1, hown2⟩ := hrel
        obtain ⟨st, left, out⟩ := x
        simp only at x0 x1 hown1 hown2
        have hlen : left.length = L := by have := hown1.1; simpa using this
        by_cases hlt2 : j < M
        · have hL0 : 0 < L := by have := HL.out; omega
          have hL9 : L ≤ 99 := by have := HL.out; omega
          obtain ⟨g, c, rfl, hgb, hLc, hcm⟩ : ∃ g c, u7 = .slice (some ⟨g, 0, none⟩) L c ∧ w.heap.size ≤ g ∧ L ≤ c ∧ c ≤ maxLen := by
            rcases hown1.2 with ⟨_, h0⟩ | ⟨g, c, cur, h1, h2, h3, h4, h5, _⟩
            · omega
            · exact ⟨g, c, h1, h2, h4, h5⟩
          unfold maxLen at hcm
          have nb := nxt_bd st
          obtain ⟨q, hq⟩ : ∃ q : Nat, nxt st % (L : Int) = (q : Int) := ⟨(nxt st % (L : Int)).toNat, by have := Int.emod_nonneg (nxt st) (show (L : Int) ≠ 0 by omega); omega⟩
          have hqL : q < L := by have := Int.emod_lt_of_pos (nxt st) (show (0 : Int) < (L : Int) by omega); omega
          have hql : q < left.length := by omega
          have HS : Hid (run k s (j + 1) = ⟨nxt st, left.eraseIdx q, out ++ [left[q]]⟩) := by
            show (run k s j).step = _
            rw [← HX.out]
            have hp : (Dr.mk st left out).place = q := by
              unfold Dr.place
              simp only [hlen, hq]
              exact Int.toNat_natCast _
            unfold Dr.step
            rw [hp]
            simp [hql]
          have hc : wr.cell? ⟨g, q, none⟩ = some (.int .i64 left[q]) := by
            rw [hown1.cellAt q (by omega)]
            simp [hql]
          have HLen := Lib.hid hlen
          have ex : (75 * st + 74) % 65537 = nxt st := rfl
          clear hlen
          go_wp2_with (at_builtin; refine wpList_append_own_at _ rfl (.tmp 36) (.tmp 41) _ rfl w.heap.size 3 i0 _ 1 8 Try.underlying22 HI.out HZ0.out HZ1.out HZ2.out rfl (by omega) (.slice A j cc) _ _ rfl (own_alloc hown2 _) ⟨wr.heap.size, 0, none⟩ 1 1 [.int .i64 left[q]] rfl rfl (cell_one_new _ _ _) (by intro u hu; simp at hu; subst hu; rfl) (by unfold maxLen; omega) (by omega) (by have := hbel2.size; simp; omega) ?_; intro v' w6 hown6 hgrow6 hnil6 hat6; clear hnil6 hat6)
          have hne : (Value.slice A j cc).ownBlock ≠ some g := HNE.out g rfl
          have hgl := (own_block hown1 g (by simp [Value.ownBlock])).2
          have hk6 : w6.heap[g]? = wr.heap[g]? := (hgrow6.block g (by simp; omega) (fun e => hne e.symm)).trans (Below.heap_alloc wr _ g hgl)
          have hown7 := own_at hown1 hk6
          have hs6 := hgrow6.size
          simp at hs6
          have hbel6 := (hbel2.alloc hbel2.size (.cells #[.int .i64 left[q]] 3)).grown hgrow6 (by have := hbel2.size; simp; omega) (fun x hx => (own_block hown2 x hx).1)
          clear hown1 hc hk6 hown2 hgrow6 ex
          have hsz6 := hbel6.size
          have y1 : q ≤ c := by omega
          have y2 : q + 1 ≤ L := by omega
          have y3 : q + 1 ≤ c := by omega
          have y4 : (q : Int) + 1 ≤ (L : Int) := by omega
          have y5 : (0 : Int) ≤ (q : Int) + 1 := by omega
          have y6 : ((q : Int) + 1).toNat = q + 1 := by omega
          have y7 : IntKind.i64.wrap ((q : Int) + 1) = (q : Int) + 1 := IntWalk.i64_in _ (by omega)
          have HLq : Hid ((left.drop (q + 1)).length = L - (q + 1)) := by
            show _ = _
            rw [List.length_drop, HLen.out]
          have HTq : Hid ((left.take q).length = q) := by
            show _ = _
            rw [List.length_take, HLen.out]
            omega
          obtain ⟨A', cc', hv', hcc1, hcc2, hcl, hcrow⟩ := own_slice hown6
          subst hv'
          clear hcrow hcc1 hcc2
          have HCL := Lib.hid hcl
          clear hcl
          have y8 : (q : Int) ≤ (q : Int) + 1 := by omega
          by_cases hcq : c = q + 1
          · obtain rfl : L = q + 1 := by omega
            subst hcq
            go_region_law (first
              | (refine step_append_row _ rfl 47 rfl (.tmp 43) (.tmp 46) _ rfl w6.heap.size 3 i0 _ 8 Try.underlying22 HI.out HZ0.out HZ1.out HZ2.out rfl (.slice (some ⟨w6.heap.size, 0, none⟩) 0 0) 0 [] rfl (own_empty w6 _ _ _ (Nat.le_refl _)) ⟨g, 0, none⟩ q (q + 1) ((left.take q).map (Value.int .i64)) rfl (by have := HTq.out; simp only [List.length_map]; omega) (news_of_own hown7 (Below.heap_alloc w6 _ g (by omega)) 0 (left.take q) (fun i z hz => by rw [Nat.zero_add]; rw [List.getElem?_take] at hz; split at hz; exact hz; cases hz)) (ints_oneCell _ _) (by unfold maxLen; omega) (by omega) (by simp) ?_; intro v7 w7 hown8 hgrow8 hat8; have hk7 : w7.heap[g]? = w6.heap[g]? := (hgrow8.block g (by simp; omega) (fun e => by simp [Value.ownBlock] at e; omega)).trans (Below.heap_alloc w6 _ g (by omega)); have hb67 : Below w6.heap.size w6 w7 := ((Below.refl _ _).alloc (Nat.le_refl _) _).drew.grown hgrow8 (by simp) (fun x hx => (own_block (own_empty w6 w6.heap.size 3 1 (Nat.le_refl _)) x hx).1))
              | (refine step_append_row _ rfl 52 rfl (.tmp 47) (.tmp 51) _ rfl w6.heap.size 3 i0 _ 8 Try.underlying22 HI.out HZ0.out HZ1.out HZ2.out rfl v7 (0 + q) _ rfl hown8 ⟨g, 0, none⟩ 0 0 ((left.drop (q + 1)).map (Value.int .i64)) rfl (by have := HLq.out; simp only [List.length_map]; omega) (news_of_own hown7 hk7 0 (left.drop (q + 1)) (fun i z hz => by rw [List.drop_eq_nil_of_le (by rw [HLen.out]; exact Nat.le_refl _)] at hz; cases hz)) (ints_oneCell _ _) (by unfold maxLen; omega) (by omega) hb67.size ?_; intro v9 w9 hown9 hgrow9 hat9))

            have hb69 := hb67.grown hgrow9 hb67.size (fun x hx => (own_block hown8 x hx).1)
            have hown10 := own_below hown6 hb69
            have hbel9 := hbel6.trans (hb69.mono hsz6)
            have HF : Hid (w9.ownsRow w.heap.size 3 1 v9 q ((left.eraseIdx q).map (Value.int .i64))) := by
              have h := own_from hown9 hsz6
              have e1 : 0 + q + 0 = q := by omega
              rw [e1, List.nil_append, ← List.map_append, ← List.eraseIdx_eq_take_drop_succ] at h
              exact h
            have HNB : Hid (∀ g, v9.ownBlock = some g → (Value.slice A' (j + 1) cc').ownBlock ≠ some g) := fun x hx hy => by
              have h1 := (own_block hown9 x hx).1
              have h2 := (own_block hown6 x hy).2
              omega
            clear hown9 hown8 hgrow8 hgrow9 hat8 hat9 hb67 hb69 hown7 hk7
            go_simp
            go_wp2_with fail
            go_roundw
            case rel =>
              refine ⟨j + 1, ⟨nxt st, left.eraseIdx q, out ++ [left[q]]⟩, q, A', cc', by omega, rfl, rfl, nb.1, nb.2, ?_, HS.out.symm, hbel9, HNB, HF.out, ?_⟩
              · show q + (j + 1) = k
                have := HL.out
                omega
              · show w9.ownsRow w.heap.size 3 1 (.slice A' (j + 1) cc') (j + 1) ((out ++ [left[q]]).map (Value.int .i64))
                rw [List.map_append]
                exact hown10
            case measure => simp; omega
          · go_region_law (first
              | (refine step_append_row _ rfl 47 rfl (.tmp 43) (.tmp 46) _ rfl w6.heap.size 3 i0 _ 8 Try.underlying22 HI.out HZ0.out HZ1.out HZ2.out rfl (.slice (some ⟨w6.heap.size, 0, none⟩) 0 0) 0 [] rfl (own_empty w6 _ _ _ (Nat.le_refl _)) ⟨g, 0, none⟩ q c ((left.take q).map (Value.int .i64)) rfl (by have := HTq.out; simp only [List.length_map]; omega) (news_of_own hown7 (Below.heap_alloc w6 _ g (by omega)) 0 (left.take q) (fun i z hz => by rw [Nat.zero_add]; rw [List.getElem?_take] at hz; split at hz; exact hz; cases hz)) (ints_oneCell _ _) (by unfold maxLen; omega) (by omega) (by simp) ?_; intro v7 w7 hown8 hgrow8 hat8; have hk7 : w7.heap[g]? = w6.heap[g]? := (hgrow8.block g (by simp; omega) (fun e => by simp [Value.ownBlock] at e; omega)).trans (Below.heap_alloc w6 _ g (by omega)); have hb67 : Below w6.heap.size w6 w7 := ((Below.refl _ _).alloc (Nat.le_refl _) _).drew.grown hgrow8 (by simp) (fun x hx => (own_block (own_empty w6 w6.heap.size 3 1 (Nat.le_refl _)) x hx).1))
              | (refine step_append_row _ rfl 52 rfl (.tmp 47) (.tmp 51) _ rfl w6.heap.size 3 i0 _ 8 Try.underlying22 HI.out HZ0.out HZ1.out HZ2.out rfl v7 (0 + q) _ rfl hown8 ⟨g, q + 1, none⟩ (L - (q + 1)) (c - (q + 1)) ((left.drop (q + 1)).map (Value.int .i64)) rfl (by have := HLq.out; simp only [List.length_map]; omega) (news_of_own hown7 hk7 (q + 1) (left.drop (q + 1)) (fun i z hz => by rw [List.getElem?_drop] at hz; exact hz)) (ints_oneCell _ _) (by unfold maxLen; omega) (by omega) hb67.size ?_; intro v9 w9 hown9 hgrow9 hat9))

            have hb69 := hb67.grown hgrow9 hb67.size (fun x hx => (own_block hown8 x hx).1)
            have hown10 := own_below hown6 hb69
            have hbel9 := hbel6.trans (hb69.mono hsz6)
            have HF : Hid (w9.ownsRow w.heap.size 3 1 v9 (L - 1) ((left.eraseIdx q).map (Value.int .i64))) := by
              have h := own_from hown9 hsz6
              have e1 : 0 + q + (L - (q + 1)) = L - 1 := by omega
              rw [e1, List.nil_append, ← List.map_append, ← List.eraseIdx_eq_take_drop_succ] at h
              exact h
            have HNB : Hid (∀ g, v9.ownBlock = some g → (Value.slice A' (j + 1) cc').ownBlock ≠ some g) := fun x hx hy => by
              have h1 := (own_block hown9 x hx).1
              have h2 := (own_block hown6 x hy).2
              omega
            clear hown9 hown8 hgrow8 hgrow9 hat8 hat9 hb67 hb69 hown7 hk7
            go_simp
            go_wp2_with fail
            go_roundw
            case rel =>
              refine ⟨j + 1, ⟨nxt st, left.eraseIdx q, out ++ [left[q]]⟩, L - 1, A', cc', by omega, rfl, rfl, nb.1, nb.2, ?_, HS.out.symm, hbel9, HNB, HF.out, ?_⟩
              · show L - 1 + (j + 1) = k
                have := HL.out
                omega
              · show w9.ownsRow w.heap.size 3 1 (.slice A' (j + 1) cc') (j + 1) ((out ++ [left[q]]).map (Value.int .i64))
                rw [List.map_append]
                exact hown10
            case measure => simp; omega
        · obtain rfl : j = M := by omega
          have HR : Hid (out = (run k s j).out) := by
            show _ = _
            rw [← HX.out]
          go_wp2_with fail
          go_ret
          have hc := own_slice hown2
          obtain ⟨A', c', he, hc1, hc2, _, _⟩ := hc
          injection he with e1 e2 e3
          subst e1 e3
          exact ⟨A, cc, rfl, hc1, hc2, by rw [← HR.out]; exact hown2, hbel2⟩

end Go.Proofs.Ytkjdccpomldmeaa
