/- What the drawing of pairs of ballots gives. The conditions stand in each theorem. -/
import Derived.Test.YtkpgbombikgffaaDrawD
namespace Go.Proofs.Ytkpgbombikgffaa
open Go.RowKit Go.ChangeShapes
set_option linter.unusedVariables false

theorem prCells_app (l m : List Pr) : prCells (l ++ m) = prCells l ++ prCells m := by simp [prCells]
theorem prCells_set : ∀ (l : List Pr) (k : Nat) (s : ByteArray) (h : k < l.length), (prCells l).set (k * 2 + 1) (.string s) = prCells (l.set k (l[k].1, s))
  | p :: l, 0, s, _ => rfl
  | p :: l, k + 1, s, h => by
    have ih := prCells_set l k s (by simpa using h)
    have e1 : (k + 1) * 2 + 1 = k * 2 + 1 + 1 + 1 := by omega
    rw [e1]
    show (Value.string p.1 :: Value.string p.2 :: prCells l).set (k * 2 + 1 + 1 + 1) _ = Value.string p.1 :: Value.string p.2 :: prCells (l.set k ((l[k]'(by simpa using h)).1, s))
    rw [← ih]
    rfl

def DrawnPs (w0 w : World) (g p : Nat) (e : Ending) (w' : World) : Prop :=
  ∃ (A : Option Addr) (ps : List Pr) (n c q : Nat), e = .returned (.slice A n c) ∧ ps.length = n ∧ n ≤ 21 ∧ (∀ z ∈ ps, shortPr z) ∧ q ≤ p + 100 ∧ RdI w0 w' g q ∧ w.heap.size ≤ w'.heap.size ∧ n ≤ c ∧ c ≤ maxLen ∧ w'.ownsRow w.heap.size 27 2 (.slice A n c) n (prCells ps)

set_option maxHeartbeats 4000000 in
theorem l93Pairs_any {w0 w : World} {g p : Nat} (I : RdI w0 w g p) (hp : p ≤ 100) :
    Calls Try.prog 50 #[.pointer (some ⟨g, 0, none⟩)] w (DrawnPs w0 w g p) := by
  obtain ⟨i0, hi0, hz0, hz1, hz2⟩ := info_parts info_pair
  have HI := Lib.hid hi0
  have HZ0 := Lib.hid hz0
  have HZ1 := Lib.hid hz1
  have HZ2 := Lib.hid hz2
  clear hi0 hz0 hz1 hz2
  have hg1 := I.rd.lt_
  go_enter Try.func50, Try.ntmps50
  go_wp2_with fail
  refine (pickI _ (I.alloc _) (by omega) (by omega)).mono ?_
  rintro e w2 ⟨n9, rfl, n90, n91, I2, G2⟩
  have hs2 := G2.size
  simp at hs2
  have hown2 := own_grown (own_empty w w.heap.size 27 2 (Nat.le_refl _)) G2 hg1
  clear I G2
  go_wp2_with fail
  refine (pickI _ I2 (by omega) (by omega)).mono ?_
  rintro e w3 ⟨r, rfl, r0, r1, I3, G3⟩
  have hs3 := G3.size
  have hown3 := own_grown hown2 G3 hg1
  clear I2 G3 hown2
  by_cases hr : r = 0
  · subst hr
    go_wp2_with fail
    refine (pickI _ I3 (by omega) (by omega)).mono ?_
    rintro e w4 ⟨t, rfl, t0, t1, I4, G4⟩
    have hs4 := G4.size
    have hown4 := own_grown hown3 G4 hg1
    have HQ0 : p + 1 + 1 + 1 ≤ p + 3 + 3 * 0 := by omega
    clear I3 G4 hown3
    go_wp2_with fail
    have n0 : 0 ≤ 19 + t := by omega
    have n1 : 19 + t ≤ 21 := by omega
    clear t0 t1
    generalize 19 + t = nn at *
    · skip
      go_loopw [3, 5] (fun s i wx => ∃ (k : Nat) (ps : List Pr) (q : Nat), (k : Int) ≤ nn ∧ i = .int .i64 k ∧ Hid (ps.length = k) ∧ q ≤ p + 3 + 3 * k ∧ w.heap.size ≤ wx.heap.size ∧ Hid (∀ z ∈ ps, shortPr z) ∧ RdI w0 wx g q ∧ wx.ownsRow w.heap.size 27 2 s k (prCells ps)) (fun _ i _ => nn.toNat - (intOf i).toNat)
      case atStart => exact ⟨0, [], _, by omega, rfl, rfl, HQ0, by omega, fun z hz => by simp at hz, I4, hown4⟩
      case round =>
        clear I4 hown4
        obtain ⟨k, ps, q, hk, rfl, HY, hq, hsz, HB, I5, hown⟩ := hrel
        by_cases hlt : (k : Int) < nn
        · go_wp2_with fail
          refine (l93Pair_any I5 (by omega)).mono ?_
          rintro e w6 ⟨⟨pa, pb⟩, q', rfl, hsh, hq', I6, G6⟩
          have hs6 := G6.size
          have hown6 := own_grown hown G6 hg1
          have HSH := Lib.hid hsh
          clear I5 G6 hown hsh
          simp only [prV]
          go_wp2_with (at_builtin; refine wpList_append_own_at _ rfl (.tmp 20) (.tmp 23) _ rfl w.heap.size 27 i0 _ 2 32 Try.underlying23 HI.out HZ0.out HZ1.out HZ2.out rfl (by omega) u3 _ _ rfl (own_alloc hown6 _) ⟨w6.heap.size, 0, none⟩ 1 1 [.string pa, .string pb] rfl rfl (World.news_of_block (heap_alloc_new w6 _)) (by intro u hu; simp at hu; rcases hu with rfl | rfl <;> rfl) (by unfold maxLen; omega) (by omega) (by simp; omega) ?_; intro v' w7 hown7 hgrow7 hnil7 hat7; clear hnil7 hat7)
          go_roundw
          case rel =>
            refine ⟨k + 1, ps ++ [(pa, pb)], q', by omega, by go_num, ?_, by omega, ?_, fun z hz => ?_, ?_, by rw [prCells_app]; exact hown7⟩
            · show (ps ++ [(pa, pb)]).length = k + 1
              rw [List.length_append, HY.out]
              rfl
            · have := hgrow7.size
              simp at this
              omega
            · rcases List.mem_append.1 hz with hz | hz
              · exact HB.out z hz
              · rw [List.mem_singleton.1 hz]
                exact HSH.out
            · exact (I6.alloc _).grown hgrow7 (fun x hx => by have := (own_block hown6 x hx).1; omega)
          case measure => simp [intOf]; omega
        · obtain rfl : nn = (k : Int) := by omega
          by_cases hn0 : 0 < k
          · go_wp2_with fail
            refine (pickI _ I5 (by omega) (by omega)).mono ?_
            rintro e w6 ⟨t6, rfl, t60, t61, I6, G6⟩
            have hs6 := G6.size
            have hown6 := own_grown hown G6 hg1
            clear I5 G6 hown
            by_cases ht6 : t6 = 0
            · subst ht6
              go_wp2_with fail
              refine (pickI _ I6 (by omega) (by omega)).mono ?_
              rintro e w7 ⟨i1, rfl, i10, i11, I7, G7⟩
              have hs7 := G7.size
              have hown7 := own_grown hown6 G7 hg1
              clear I6 G7 hown6
              go_wp2_with fail
              have L8 := Blk.new w7 9 (badL.map Value.string).toArray
              refine (of_any badL w7.heap.size 3 (I7.alloc _) (by omega) rfl (by omega) (by omega) L8 (by have := I7.rd.lt_; omega)).mono ?_
              rintro e w8 ⟨s, hs, rfl, I8, G8⟩
              have hs8 := G8.size
              simp at hs8
              have hown8 := own_grown (own_alloc hown7 _) G8 hg1
              have HS := Lib.hid (bad_short s hs)
              clear I7 G8 hown7 L8 hs
              obtain ⟨b, cc, rfl, hbb, hc1, hc2⟩ : ∃ b cc, u3 = .slice (some ⟨b, 0, none⟩) k cc ∧ w.heap.size ≤ b ∧ k ≤ cc ∧ cc ≤ maxLen := by
                rcases hown8.2 with ⟨_, h0⟩ | ⟨b, cc, cur, h1, h2, h3, h4, h5, _⟩
                · omega
                · exact ⟨b, cc, h1, h2, h4, h5⟩
              unfold maxLen at hc2
              have hil : i1.toNat < k := by omega
              have hik : i1 < (k : Int) := by omega
              have hpl : i1.toNat < ps.length := by rw [HY.out]; exact hil
              have hcell : ∃ u, w8.cell? ⟨b, i1.toNat * 2 + 1, none⟩ = some u := by
                rw [hown8.cellAt _ (by omega)]
                exact ⟨_, List.getElem?_eq_getElem (by rw [prCells_len, HY.out]; omega)⟩
              obtain ⟨u, hu⟩ := hcell
              have hfz := hown8.frozenAt (i1.toNat * 2 + 1)
              have ST := Lib.hid (hown8.stored (i1.toNat * 2 + 1) (.string s))
              have HSET := Lib.hid (prCells_set ps i1.toNat s hpl)
              have HB2 : Hid (∀ z ∈ ps.set i1.toNat (ps[i1.toNat].1, s), shortPr z) := fun z hz => by
                rcases List.mem_or_eq_of_mem_set hz with hz | hz
                · exact HB.out z hz
                · rw [hz]
                  exact ⟨(HB.out _ (List.getElem_mem hpl)).1, HS.out⟩
              have HY2 : Hid ((ps.set i1.toNat (ps[i1.toNat].1, s)).length = k) := by
                show _ = _
                rw [List.length_set]
                exact HY.out
              clear hown8
              generalize ps.set i1.toNat (ps[i1.toNat].1, s) = ps2 at *
              go_wp2_with fail
              go_ret
              have hs9 := ST.out.2.size
              refine ⟨_, ps2, k, _, _, rfl, HY2.out, by omega, HB2.out, ?_, I8.grown ST.out.2 (fun x hx => by injection hx with hx; omega), by omega, hc1, by unfold maxLen; omega, ?_⟩
              · omega
              · rw [← HSET.out]
                exact ST.out.1
            · have ht6' : (t6 == 0) = false := by simpa using ht6
              obtain ⟨A', c', hv, hc1, hc2, hlen', hrow'⟩ := own_sliceN hown6
              subst hv
              have HC2 := Lib.hid hc2
              clear hlen' hrow' hc2
              go_wp2_with fail
              go_ret
              exact ⟨_, ps, k, _, _, rfl, HY.out, by omega, HB.out, by omega, I6, by omega, hc1, HC2.out, hown6⟩
          · obtain rfl : k = 0 := by omega
            obtain ⟨A', c', hv, hc1, hc2, hlen', hrow'⟩ := own_sliceN hown
            subst hv
            have HC2 := Lib.hid hc2
            clear hlen' hrow' hc2
            go_wp2_with fail
            go_ret
            exact ⟨_, ps, 0, _, _, rfl, HY.out, by omega, HB.out, by omega, I5, by omega, hc1, HC2.out, hown⟩
  · have hr' : (r == 0) = false := by simpa using hr
    have I4 := I3
    have hown4 := hown3
    have HQ0 : p + 1 + 1 ≤ p + 3 + 3 * 0 := by omega
    clear I3 hown3 hr r0 r1
    go_wp2_with fail
    have n0 : 0 ≤ n9 := by omega
    have n1 : n9 ≤ 21 := by omega
    clear n90 n91
    generalize n9 = nn at *
    · skip
      go_loopw [3, 5] (fun s i wx => ∃ (k : Nat) (ps : List Pr) (q : Nat), (k : Int) ≤ nn ∧ i = .int .i64 k ∧ Hid (ps.length = k) ∧ q ≤ p + 3 + 3 * k ∧ w.heap.size ≤ wx.heap.size ∧ Hid (∀ z ∈ ps, shortPr z) ∧ RdI w0 wx g q ∧ wx.ownsRow w.heap.size 27 2 s k (prCells ps)) (fun _ i _ => nn.toNat - (intOf i).toNat)
      case atStart => exact ⟨0, [], _, by omega, rfl, rfl, HQ0, by omega, fun z hz => by simp at hz, I4, hown4⟩
      case round =>
        clear I4 hown4
        obtain ⟨k, ps, q, hk, rfl, HY, hq, hsz, HB, I5, hown⟩ := hrel
        by_cases hlt : (k : Int) < nn
        · go_wp2_with fail
          refine (l93Pair_any I5 (by omega)).mono ?_
          rintro e w6 ⟨⟨pa, pb⟩, q', rfl, hsh, hq', I6, G6⟩
          have hs6 := G6.size
          have hown6 := own_grown hown G6 hg1
          have HSH := Lib.hid hsh
          clear I5 G6 hown hsh
          simp only [prV]
          go_wp2_with (at_builtin; refine wpList_append_own_at _ rfl (.tmp 20) (.tmp 23) _ rfl w.heap.size 27 i0 _ 2 32 Try.underlying23 HI.out HZ0.out HZ1.out HZ2.out rfl (by omega) u3 _ _ rfl (own_alloc hown6 _) ⟨w6.heap.size, 0, none⟩ 1 1 [.string pa, .string pb] rfl rfl (World.news_of_block (heap_alloc_new w6 _)) (by intro u hu; simp at hu; rcases hu with rfl | rfl <;> rfl) (by unfold maxLen; omega) (by omega) (by simp; omega) ?_; intro v' w7 hown7 hgrow7 hnil7 hat7; clear hnil7 hat7)
          go_roundw
          case rel =>
            refine ⟨k + 1, ps ++ [(pa, pb)], q', by omega, by go_num, ?_, by omega, ?_, fun z hz => ?_, ?_, by rw [prCells_app]; exact hown7⟩
            · show (ps ++ [(pa, pb)]).length = k + 1
              rw [List.length_append, HY.out]
              rfl
            · have := hgrow7.size
              simp at this
              omega
            · rcases List.mem_append.1 hz with hz | hz
              · exact HB.out z hz
              · rw [List.mem_singleton.1 hz]
                exact HSH.out
            · exact (I6.alloc _).grown hgrow7 (fun x hx => by have := (own_block hown6 x hx).1; omega)
          case measure => simp [intOf]; omega
        · obtain rfl : nn = (k : Int) := by omega
          by_cases hn0 : 0 < k
          · go_wp2_with fail
            refine (pickI _ I5 (by omega) (by omega)).mono ?_
            rintro e w6 ⟨t6, rfl, t60, t61, I6, G6⟩
            have hs6 := G6.size
            have hown6 := own_grown hown G6 hg1
            clear I5 G6 hown
            by_cases ht6 : t6 = 0
            · subst ht6
              go_wp2_with fail
              refine (pickI _ I6 (by omega) (by omega)).mono ?_
              rintro e w7 ⟨i1, rfl, i10, i11, I7, G7⟩
              have hs7 := G7.size
              have hown7 := own_grown hown6 G7 hg1
              clear I6 G7 hown6
              go_wp2_with fail
              have L8 := Blk.new w7 9 (badL.map Value.string).toArray
              refine (of_any badL w7.heap.size 3 (I7.alloc _) (by omega) rfl (by omega) (by omega) L8 (by have := I7.rd.lt_; omega)).mono ?_
              rintro e w8 ⟨s, hs, rfl, I8, G8⟩
              have hs8 := G8.size
              simp at hs8
              have hown8 := own_grown (own_alloc hown7 _) G8 hg1
              have HS := Lib.hid (bad_short s hs)
              clear I7 G8 hown7 L8 hs
              obtain ⟨b, cc, rfl, hbb, hc1, hc2⟩ : ∃ b cc, u3 = .slice (some ⟨b, 0, none⟩) k cc ∧ w.heap.size ≤ b ∧ k ≤ cc ∧ cc ≤ maxLen := by
                rcases hown8.2 with ⟨_, h0⟩ | ⟨b, cc, cur, h1, h2, h3, h4, h5, _⟩
                · omega
                · exact ⟨b, cc, h1, h2, h4, h5⟩
              unfold maxLen at hc2
              have hil : i1.toNat < k := by omega
              have hik : i1 < (k : Int) := by omega
              have hpl : i1.toNat < ps.length := by rw [HY.out]; exact hil
              have hcell : ∃ u, w8.cell? ⟨b, i1.toNat * 2 + 1, none⟩ = some u := by
                rw [hown8.cellAt _ (by omega)]
                exact ⟨_, List.getElem?_eq_getElem (by rw [prCells_len, HY.out]; omega)⟩
              obtain ⟨u, hu⟩ := hcell
              have hfz := hown8.frozenAt (i1.toNat * 2 + 1)
              have ST := Lib.hid (hown8.stored (i1.toNat * 2 + 1) (.string s))
              have HSET := Lib.hid (prCells_set ps i1.toNat s hpl)
              have HB2 : Hid (∀ z ∈ ps.set i1.toNat (ps[i1.toNat].1, s), shortPr z) := fun z hz => by
                rcases List.mem_or_eq_of_mem_set hz with hz | hz
                · exact HB.out z hz
                · rw [hz]
                  exact ⟨(HB.out _ (List.getElem_mem hpl)).1, HS.out⟩
              have HY2 : Hid ((ps.set i1.toNat (ps[i1.toNat].1, s)).length = k) := by
                show _ = _
                rw [List.length_set]
                exact HY.out
              clear hown8
              generalize ps.set i1.toNat (ps[i1.toNat].1, s) = ps2 at *
              go_wp2_with fail
              go_ret
              have hs9 := ST.out.2.size
              refine ⟨_, ps2, k, _, _, rfl, HY2.out, by omega, HB2.out, ?_, I8.grown ST.out.2 (fun x hx => by injection hx with hx; omega), by omega, hc1, by unfold maxLen; omega, ?_⟩
              · omega
              · rw [← HSET.out]
                exact ST.out.1
            · have ht6' : (t6 == 0) = false := by simpa using ht6
              obtain ⟨A', c', hv, hc1, hc2, hlen', hrow'⟩ := own_sliceN hown6
              subst hv
              have HC2 := Lib.hid hc2
              clear hlen' hrow' hc2
              go_wp2_with fail
              go_ret
              exact ⟨_, ps, k, _, _, rfl, HY.out, by omega, HB.out, by omega, I6, by omega, hc1, HC2.out, hown6⟩
          · obtain rfl : k = 0 := by omega
            obtain ⟨A', c', hv, hc1, hc2, hlen', hrow'⟩ := own_sliceN hown
            subst hv
            have HC2 := Lib.hid hc2
            clear hlen' hrow' hc2
            go_wp2_with fail
            go_ret
            exact ⟨_, ps, 0, _, _, rfl, HY.out, by omega, HB.out, by omega, I5, by omega, hc1, HC2.out, hown⟩

end Go.Proofs.Ytkpgbombikgffaa
