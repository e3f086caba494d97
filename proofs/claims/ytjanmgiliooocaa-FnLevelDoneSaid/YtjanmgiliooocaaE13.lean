/- Lots that are drawn. The conditions stand in each theorem. -/
import Derived.Test.YtjanmgiliooocaaE11
import Derived.Test.YtjanmgiliooocaaSeq
namespace Go.Proofs.Ytjanmgiliooocaa
open Go.RowKit Go.ChangeShapes
open Man
set_option linter.unusedVariables false

def LotsR (w : World) (e : Ending) (w' : World) : Prop :=
  ∃ (b : Bool) (A : Option Addr) (k c : Nat) (zs : List Int), e = .returned (.tuple #[.slice A k c, .bool b]) ∧ k ≤ 5 ∧ (b = true → 1 ≤ k) ∧ OwnI w' w.heap.size (.slice A k c) k zs ∧ Below w.heap.size w w'

set_option maxHeartbeats 4000000 in
theorem LotsOf_any (N : Nat) (hN : N ≤ 1048576) (s : Int) (h0 : 0 ≤ s) (h1 : s ≤ 999) (w : World) :
    Calls Try.prog 49 #[.int .i64 (N : Int), .int .i64 s] w (LotsR w) := by
  by_cases hn : 1 ≤ N ∧ N ≤ 5
  · obtain ⟨hn1, hn5⟩ := hn
    have d1 := inB_yes (a := (N : Int)) (lo := 1) (hi := 5) (by omega) (by omega)
    have d2 := inB_yes h0 h1
    obtain ⟨i0, hi0, hz0, hz1, hz2⟩ := info_parts info_int
    have HI := Lib.hid hi0
    have HZ0 := Lib.hid hz0
    have HZ1 := Lib.hid hz1
    have HZ2 := Lib.hid hz2
    clear hi0 hz0 hz1 hz2
    go_enter Try.func49, Try.ntmps49
    go_wp2_with fail
    refine (in_any _ _ _ _).mono ?_
    rintro e w' ⟨rfl, rfl⟩
    rw [d1]
    go_wp2_with fail
    refine (in_any _ _ _ _).mono ?_
    rintro e w' ⟨rfl, rfl⟩
    rw [d2]
    clear d1 d2
    have hb0 := (Below.refl w.heap.size w).alloc (Nat.le_refl _) (.cells #[] 3)
    go_wp2_with fail
    go_loopw [6, 7] (fun u i wx => ∃ (k : Nat) (zs : List Int), k ≤ N ∧ i = .int .i64 k ∧ OwnI wx w.heap.size u k zs ∧ Below w.heap.size w wx) (fun _ i _ => N - (intOf i).toNat)
    case atStart => exact ⟨0, [], Nat.zero_le _, rfl, own_empty w w.heap.size _ _ (Nat.le_refl _), hb0⟩
    case round =>
      clear hb0
      obtain ⟨k, zs, hk, rfl, hown, hbel⟩ := hrel
      have hbs := hbel.size
      by_cases hlt : k < N
      · go_wp2_with (at_builtin; refine wpList_append_own_at _ rfl (.tmp 25) (.tmp 27) _ rfl w.heap.size 3 i0 _ 1 8 Try.underlying24 HI.out HZ0.out HZ1.out HZ2.out rfl (by omega) u6 _ _ rfl (own_alloc hown _) ⟨wr.heap.size, 0, none⟩ 1 1 [.int .i64 (k : Int)] rfl rfl (cell_one_new _ _ _) (by intro u hu; simp at hu; subst hu; rfl) (by unfold maxLen; omega) (by omega) (by simp; omega) ?_; intro v7 w7 hown7 hgrow7 hnil7 hat7)
        go_roundw
        case rel =>
          refine ⟨k + 1, zs ++ [(k : Int)], by omega, by go_num, ?_, (hbel.alloc hbs _).grown hgrow7 (by simp; omega) (fun x hx => (own_block hown x hx).1)⟩
          unfold OwnI
          rw [List.map_append]
          exact hown7
        case measure => simp [intOf]; omega
      · obtain rfl : k = N := by omega
        obtain ⟨gr, cr, rfl, hgr, hgrl, hcr, hcrm⟩ := OwnI.some hown hn1
        have hstart := hown.alloc (.cells #[] 3)
        have hempty := own_empty wr w.heap.size 3 1 hbs
        have hbel1 := hbel.alloc hbs (.cells #[] 3)
        clear hown
        go_wp2_with fail
        go_loopw [1, 6, 8] (fun sv u v wx => ∃ (j : Nat) (x : Int) (L : Nat) (A6 : Option Addr) (c6 go co : Nat) (zs ys : List Int), sv = .int .i64 x ∧ u = .slice A6 L c6 ∧ v = .slice (some ⟨go, 0, none⟩) j co ∧ L + j = k ∧ 0 ≤ x ∧ x ≤ 999 ∧ OwnI wx w.heap.size (.slice A6 L c6) L zs ∧ OwnI wx w.heap.size (.slice (some ⟨go, 0, none⟩) j co) j ys ∧ Below w.heap.size w wx ∧ Hid (∀ b, (Value.slice A6 L c6).ownBlock = some b → b ≠ go)) (fun _ u _ _ => match u with | .slice _ L _ => L | _ => 0)
        case atStart => exact ⟨0, s, k, _, cr, _, 0, zs, [], rfl, rfl, rfl, by omega, h0, h1, hstart, hempty, hbel1, fun b hb => by simp [Value.ownBlock] at hb; omega⟩
        case round =>
          clear hstart hempty hbel1 hbel hgr hgrl hcr hcrm hbs h0 h1
          obtain ⟨j, x, L, A6, c, go, co, zs, ys, rfl, rfl, rfl, hLj, x0, x1, hR, hO, hbel, HNE⟩ := hrel
          have hbs := hbel.size
          by_cases hL : 0 < L
          · obtain ⟨g, c', hv, hg, hgl, hLc, hcm⟩ := OwnI.some hR hL
            injection hv with e1 _ e3
            subst e1 e3
            have hne : g ≠ go := HNE.out g (by simp [Value.ownBlock])
            have hLn := hR.len
            have HLN := Lib.hid hLn
            obtain ⟨q, hq⟩ : ∃ q : Nat, x % (L : Int) = (q : Int) := ⟨(x % (L : Int)).toNat, by have := Int.emod_nonneg x (show (L : Int) ≠ 0 by omega); omega⟩
            have hqL : q < L := by have := Int.emod_lt_of_pos x (show (0 : Int) < (L : Int) by omega); omega
            have hql : q < zs.length := by omega
            have xd0 : 0 ≤ x / (L : Int) := Int.ediv_nonneg x0 (by omega)
            have xd1 : x / (L : Int) ≤ 999 := by have := Int.ediv_le_self (L : Int) x0; omega
            have hc := hR.cell hql
            generalize zs[q] = y at hc
            have hR1 := Lib.hid (hR.alloc (.cells #[.int .i64 y] 3))
            have hO1 := hO.alloc (.cells #[.int .i64 y] 3)
            have hgol := hO.lt
            unfold maxLen at hcm
            have y1 : q ≤ c := by omega
            have y2 : q + 1 ≤ L := by omega
            have y3 : q + 1 ≤ c := by omega
            have y4 : (q : Int) + 1 ≤ (L : Int) := by omega
            have y5 : (0 : Int) ≤ (q : Int) + 1 := by omega
            have y6 : ((q : Int) + 1).toNat = q + 1 := by omega
            have y7 : IntKind.i64.wrap ((q : Int) + 1) = (q : Int) + 1 := IntWalk.i64_in _ (by omega)
            have y8 : (q : Int) ≤ (q : Int) + 1 := by omega
            have HQ := Lib.hid hq
            clear hLn hR hO HNE
            go_wp2_with (at_builtin; refine wpList_append_own_at _ rfl (.tmp 41) (.tmp 46) _ rfl w.heap.size 3 i0 _ 1 8 Try.underlying24 HI.out HZ0.out HZ1.out HZ2.out rfl (by omega) (.slice (some ⟨go, 0, none⟩) j co) _ _ rfl hO1 ⟨wr.heap.size, 0, none⟩ 1 1 [.int .i64 y] rfl rfl (cell_one_new _ _ _) (by intro u hu; simp at hu; subst hu; rfl) (by unfold maxLen; omega) (by omega) (by simp; omega) ?_; intro v6 w6 hown6 hgrow6 hnil6 hat6)
            have hOX : OwnI w6 w.heap.size v6 (j + 1) (ys ++ [y]) := by
              unfold OwnI
              rw [List.map_append]
              exact hown6
            obtain ⟨go2, co2, rfl, hgo2, hgo2l, _, _⟩ := OwnI.some hOX (by omega)
            have hgg : go2 = go ∨ go2 = wr.heap.size + 1 := by
              rcases hat6 with e | e
              · simp [Value.ownBlock] at e
                exact .inl e
              · simp [Value.ownBlock] at e
                exact .inr e
            have hRW0 := hR1.out.other (hgrow6.block g (by simp; omega) (fun e => by simp [Value.ownBlock] at e; omega))
            have hBW0 := (hbel.alloc hbs (.cells #[.int .i64 y] 3)).grown hgrow6 (by simp; omega) (fun x hx => by simp [Value.ownBlock] at hx; omega)
            have hRW : OwnI w6.drew w.heap.size (.slice (some ⟨g, 0, none⟩) L c) L zs := hRW0
            have hOW : OwnI w6.drew w.heap.size (.slice (some ⟨go2, 0, none⟩) (j + 1) co2) (j + 1) (ys ++ [y]) := hOX
            have hBW : Below w.heap.size w w6.drew := hBW0.drew
            have hne2 : g ≠ go2 := by omega
            clear hown6 hgrow6 hnil6 hat6 hOX hRW0 hBW0 hR1 hO1 hc hbel hgg hgo2 hgo2l hne hgol
            generalize x / (L : Int) = xd at *
            by_cases hcq : c = q + 1
            · obtain rfl : L = q + 1 := by omega
              subst hcq
              refine wp_region_held_drew (S := fun _ : World => True) (by kernel_rfl) trivial (fun HS => ?_)
              generalize w6.drew = W0 at hRW hOW hBW HS ⊢
              refine seq_take (i := 1) (v := ?_) rfl (by kernel_rfl) (by kernel_rfl) (by kernel_rfl) (fun _ _ _ h => h) (by rfl) ?_ HS ?_
              rotate_left
              · intro W hW
                (go_simp <;> first | done | with_reducible rfl)
              try simp only [Act.put, List.setIfInBounds_toArray, List.set_cons_zero, List.set_cons_succ]
              refine seq_take (i := 2) (v := ?_) rfl (by kernel_rfl) (by kernel_rfl) (by kernel_rfl) (fun _ _ _ h => h) (by rfl) ?_ HS ?_
              rotate_left
              · intro W hW
                (go_simp <;> first | done | with_reducible rfl)
              try simp only [Act.put, List.setIfInBounds_toArray, List.set_cons_zero, List.set_cons_succ]
              refine seq_take (i := 3) (v := ?_) rfl (by kernel_rfl) (by kernel_rfl) (by kernel_rfl) (fun _ _ _ h => h) (by rfl) ?_ HS ?_
              rotate_left
              · intro W hW
                (go_simp <;> first | done | with_reducible rfl)
              try simp only [Act.put, List.setIfInBounds_toArray, List.set_cons_zero, List.set_cons_succ]
              refine seq_take (i := 5) (v := ?_) rfl (by kernel_rfl) (by kernel_rfl) (by kernel_rfl) (fun _ _ _ h => h) (by rfl) ?_ HS ?_
              rotate_left
              · intro W hW
                (go_simp <;> first | done | with_reducible rfl)
              try simp only [Act.put, List.setIfInBounds_toArray, List.set_cons_zero, List.set_cons_succ]
              refine seq_take (i := 6) (v := ?_) rfl (by kernel_rfl) (by kernel_rfl) (by kernel_rfl) (fun _ _ _ h => h) (by rfl) ?_ HS ?_
              rotate_left
              · intro W hW
                (go_simp <;> first | done | with_reducible rfl)
              try simp only [Act.put, List.setIfInBounds_toArray, List.set_cons_zero, List.set_cons_succ]
              refine seq_take (i := 7) (v := ?_) rfl (by kernel_rfl) (by kernel_rfl) (by kernel_rfl) (fun _ _ _ h => h) (by rfl) ?_ HS ?_
              rotate_left
              · intro W hW
                (go_simp <;> first | done | with_reducible rfl)
              try simp only [Act.put, List.setIfInBounds_toArray, List.set_cons_zero, List.set_cons_succ]
              refine seq_take (i := 8) (v := ?_) rfl (by kernel_rfl) (by kernel_rfl) (by kernel_rfl) (fun _ _ _ h => h) (by rfl) ?_ HS ?_
              rotate_left
              · intro W hW
                (go_simp <;> first | done | with_reducible rfl)
              try simp only [Act.put, List.setIfInBounds_toArray, List.set_cons_zero, List.set_cons_succ]
              refine seq_call (i := 0) rfl (by kernel_rfl) (by rfl) (fun K hK => ?_)
              go_simp
              have ownE := own_empty W0 W0.heap.size 3 1 (Nat.le_refl _)
              have hRE := hRW.alloc (.cells #[] 3)
              have hOE := hOW.alloc (.cells #[] 3)
              have hBE := hBW.alloc hBW.size (.cells #[] 3)
              have hgl := hRW.lt.2
              have hgol := hOW.lt.2
              have hsW := hBW.size
              have hs1 : (W0.alloc (.cells #[] 3)).heap.size = W0.heap.size + 1 := by simp
              clear hRW hOW hBW
              refine hK.out _ _ trivial (fun HS2 => ?_)
              clear hK K HS
              have HS := HS2
              clear HS2
              try simp only [Act.put, List.setIfInBounds_toArray, List.set_cons_zero, List.set_cons_succ]
              generalize W0.alloc (.cells #[] 3) = W1 at *
              refine seq_call (i := 4) rfl (by kernel_rfl) (by rfl) (fun K hK => ?_)
              have hsrc : Src W1 1 (some ⟨g, 0, none⟩) q ((zs.take q).map (Value.int .i64)) := by
                rw [List.map_take]
                exact (hRE.rowAt.2.2.take q).src (by omega) (by rw [List.length_take, List.length_map, HLN.out]; omega)
              refine wp_append_src W1 (.tmp 48) (.tmp 51) _ rfl W0.heap.size 3 i0 _ 1 8 Try.underlying24 HI.out HZ0.out HZ1.out HZ2.out rfl (by omega) (.slice (some ⟨W0.heap.size, 0, none⟩) 0 0) 0 [] rfl ownE (some ⟨g, 0, none⟩) q (q + 1) _ rfl hsrc (ints_one _) (by unfold maxLen; omega) (by omega) (by omega) ?_
              intro v7 w7 hown7 hgrow7 hat7
              have hR7 := hRE.other (hgrow7.block g (by omega) (fun e => by simp [Value.ownBlock] at e; omega))
              have hO7 := hOE.other (hgrow7.block go2 (by omega) (fun e => by simp [Value.ownBlock] at e; omega))
              have hB7 := hBE.grown hgrow7 (by omega) (fun x hx => by simp [Value.ownBlock] at hx; omega)
              have hs7 := hgrow7.size
              clear hRE hOE hBE hgrow7 hat7 hsrc ownE
              refine hK.out _ _ trivial (fun HS2 => ?_)
              clear hK K HS
              have HS := HS2
              clear HS2
              try simp only [Act.put, List.setIfInBounds_toArray, List.set_cons_zero, List.set_cons_succ]
              refine seq_call (i := 9) rfl (by kernel_rfl) (by rfl) (fun K hK => ?_)
              have hsrc : Src w7 1 (some ⟨g, 0, none⟩) 0 ((zs.drop (q + 1)).map (Value.int .i64)) := ⟨by rw [List.length_map, List.length_drop, HLN.out]; omega, fun h => absurd h (by omega)⟩
              refine wp_append_src w7 (.tmp 52) (.tmp 56) _ rfl W0.heap.size 3 i0 _ 1 8 Try.underlying24 HI.out HZ0.out HZ1.out HZ2.out rfl (by omega) v7 (0 + q) _ rfl hown7 (some ⟨g, 0, none⟩) 0 0 _ rfl hsrc (ints_one _) (by unfold maxLen; omega) (by omega) (by omega) ?_
              intro v9 w9 hown9 hgrow9 hat9
              have HO9 := Lib.hid (hO7.other (hgrow9.block go2 (by omega) (fun e => by have := (own_block hown7 go2 e.symm).1; omega)))
              have HB9 := Lib.hid (hB7.grown hgrow9 (by omega) (fun x hx => by have := (own_block hown7 x hx).1; omega))
              have HR9 : Hid (OwnI w9 W0.heap.size v9 (q) (zs.take q ++ zs.drop (q + 1))) := by
                have h := hown9
                rw [List.nil_append, ← List.map_append, show 0 + q + 0 = q by omega] at h
                exact h
              clear hown9 hown7 hgrow9 hat9 hR7 hO7 hB7 hsrc
              refine hK.out _ _ trivial (fun HS2 => ?_)
              clear hK K HS
              have HS := HS2
              clear HS2
              try simp only [Act.put, List.setIfInBounds_toArray, List.set_cons_zero, List.set_cons_succ]
              refine seq_take (i := 10) (v := ?_) rfl (by kernel_rfl) (by kernel_rfl) (by kernel_rfl) (fun _ _ _ h => h) (by rfl) ?_ HS ?_
              rotate_left
              · intro W hW
                (go_simp <;> first | done | with_reducible rfl)
              try simp only [Act.put, List.setIfInBounds_toArray, List.set_cons_zero, List.set_cons_succ]
              refine wpAnyH_done (by kernel_rfl) ?_ _
              clear HS
              obtain ⟨A9, c9, rfl, hc91, hc92, _⟩ := OwnI.row HR9.out
              go_simp
              go_wp2_with fail
              go_roundw
              case rel =>
                refine ⟨j + 1, xd, q, A9, c9, go2, co2, _, ys ++ [y], rfl, rfl, rfl, by omega, by omega, by omega, OwnI.from_ HR9.out (by omega), HO9.out, HB9.out, fun b hb => ?_⟩
                have := (own_block HR9.out b hb).1
                omega
              case measure => (simp <;> omega)
            · skip
              refine wp_region_held_drew (S := fun _ : World => True) (by kernel_rfl) trivial (fun HS => ?_)
              generalize w6.drew = W0 at hRW hOW hBW HS ⊢
              refine seq_take (i := 1) (v := ?_) rfl (by kernel_rfl) (by kernel_rfl) (by kernel_rfl) (fun _ _ _ h => h) (by rfl) ?_ HS ?_
              rotate_left
              · intro W hW
                (go_simp <;> first | done | with_reducible rfl)
              try simp only [Act.put, List.setIfInBounds_toArray, List.set_cons_zero, List.set_cons_succ]
              refine seq_take (i := 2) (v := ?_) rfl (by kernel_rfl) (by kernel_rfl) (by kernel_rfl) (fun _ _ _ h => h) (by rfl) ?_ HS ?_
              rotate_left
              · intro W hW
                (go_simp <;> first | done | with_reducible rfl)
              try simp only [Act.put, List.setIfInBounds_toArray, List.set_cons_zero, List.set_cons_succ]
              refine seq_take (i := 3) (v := ?_) rfl (by kernel_rfl) (by kernel_rfl) (by kernel_rfl) (fun _ _ _ h => h) (by rfl) ?_ HS ?_
              rotate_left
              · intro W hW
                (go_simp <;> first | done | with_reducible rfl)
              try simp only [Act.put, List.setIfInBounds_toArray, List.set_cons_zero, List.set_cons_succ]
              refine seq_take (i := 5) (v := ?_) rfl (by kernel_rfl) (by kernel_rfl) (by kernel_rfl) (fun _ _ _ h => h) (by rfl) ?_ HS ?_
              rotate_left
              · intro W hW
                (go_simp <;> first | done | with_reducible rfl)
              try simp only [Act.put, List.setIfInBounds_toArray, List.set_cons_zero, List.set_cons_succ]
              refine seq_take (i := 6) (v := ?_) rfl (by kernel_rfl) (by kernel_rfl) (by kernel_rfl) (fun _ _ _ h => h) (by rfl) ?_ HS ?_
              rotate_left
              · intro W hW
                (go_simp <;> first | done | with_reducible rfl)
              try simp only [Act.put, List.setIfInBounds_toArray, List.set_cons_zero, List.set_cons_succ]
              refine seq_take (i := 7) (v := ?_) rfl (by kernel_rfl) (by kernel_rfl) (by kernel_rfl) (fun _ _ _ h => h) (by rfl) ?_ HS ?_
              rotate_left
              · intro W hW
                (go_simp <;> first | done | with_reducible rfl)
              try simp only [Act.put, List.setIfInBounds_toArray, List.set_cons_zero, List.set_cons_succ]
              refine seq_take (i := 8) (v := ?_) rfl (by kernel_rfl) (by kernel_rfl) (by kernel_rfl) (fun _ _ _ h => h) (by rfl) ?_ HS ?_
              rotate_left
              · intro W hW
                (go_simp <;> first | done | with_reducible rfl)
              try simp only [Act.put, List.setIfInBounds_toArray, List.set_cons_zero, List.set_cons_succ]
              refine seq_call (i := 0) rfl (by kernel_rfl) (by rfl) (fun K hK => ?_)
              go_simp
              have ownE := own_empty W0 W0.heap.size 3 1 (Nat.le_refl _)
              have hRE := hRW.alloc (.cells #[] 3)
              have hOE := hOW.alloc (.cells #[] 3)
              have hBE := hBW.alloc hBW.size (.cells #[] 3)
              have hgl := hRW.lt.2
              have hgol := hOW.lt.2
              have hsW := hBW.size
              have hs1 : (W0.alloc (.cells #[] 3)).heap.size = W0.heap.size + 1 := by simp
              clear hRW hOW hBW
              refine hK.out _ _ trivial (fun HS2 => ?_)
              clear hK K HS
              have HS := HS2
              clear HS2
              try simp only [Act.put, List.setIfInBounds_toArray, List.set_cons_zero, List.set_cons_succ]
              generalize W0.alloc (.cells #[] 3) = W1 at *
              refine seq_call (i := 4) rfl (by kernel_rfl) (by rfl) (fun K hK => ?_)
              have hsrc : Src W1 1 (some ⟨g, 0, none⟩) q ((zs.take q).map (Value.int .i64)) := by
                rw [List.map_take]
                exact (hRE.rowAt.2.2.take q).src (by omega) (by rw [List.length_take, List.length_map, HLN.out]; omega)
              refine wp_append_src W1 (.tmp 48) (.tmp 51) _ rfl W0.heap.size 3 i0 _ 1 8 Try.underlying24 HI.out HZ0.out HZ1.out HZ2.out rfl (by omega) (.slice (some ⟨W0.heap.size, 0, none⟩) 0 0) 0 [] rfl ownE (some ⟨g, 0, none⟩) q c _ rfl hsrc (ints_one _) (by unfold maxLen; omega) (by omega) (by omega) ?_
              intro v7 w7 hown7 hgrow7 hat7
              have hR7 := hRE.other (hgrow7.block g (by omega) (fun e => by simp [Value.ownBlock] at e; omega))
              have hO7 := hOE.other (hgrow7.block go2 (by omega) (fun e => by simp [Value.ownBlock] at e; omega))
              have hB7 := hBE.grown hgrow7 (by omega) (fun x hx => by simp [Value.ownBlock] at hx; omega)
              have hs7 := hgrow7.size
              clear hRE hOE hBE hgrow7 hat7 hsrc ownE
              refine hK.out _ _ trivial (fun HS2 => ?_)
              clear hK K HS
              have HS := HS2
              clear HS2
              try simp only [Act.put, List.setIfInBounds_toArray, List.set_cons_zero, List.set_cons_succ]
              refine seq_call (i := 9) rfl (by kernel_rfl) (by rfl) (fun K hK => ?_)
              have hsrc : Src w7 1 (some ⟨g, q + 1, none⟩) (L - (q + 1)) ((zs.drop (q + 1)).map (Value.int .i64)) := ⟨by rw [List.length_map, List.length_drop, HLN.out]; omega, fun _ => ⟨_, rfl, fun i u hu => (cell_add w7 g (q + 1) i).trans (by
                rw [List.map_drop, List.getElem?_drop] at hu
                have hi : q + 1 + i < L * 1 := by
                  have := (List.getElem?_eq_some_iff.1 hu).1
                  rw [List.length_map, HLN.out] at this
                  omega
                exact (World.ownsRow.cellAt hR7 (q + 1 + i) hi).trans hu)⟩⟩
              refine wp_append_src w7 (.tmp 52) (.tmp 56) _ rfl W0.heap.size 3 i0 _ 1 8 Try.underlying24 HI.out HZ0.out HZ1.out HZ2.out rfl (by omega) v7 (0 + q) _ rfl hown7 (some ⟨g, q + 1, none⟩) (L - (q + 1)) (c - (q + 1)) _ rfl hsrc (ints_one _) (by unfold maxLen; omega) (by omega) (by omega) ?_
              intro v9 w9 hown9 hgrow9 hat9
              have HO9 := Lib.hid (hO7.other (hgrow9.block go2 (by omega) (fun e => by have := (own_block hown7 go2 e.symm).1; omega)))
              have HB9 := Lib.hid (hB7.grown hgrow9 (by omega) (fun x hx => by have := (own_block hown7 x hx).1; omega))
              have HR9 : Hid (OwnI w9 W0.heap.size v9 (L - 1) (zs.take q ++ zs.drop (q + 1))) := by
                have h := hown9
                rw [List.nil_append, ← List.map_append, show 0 + q + (L - (q + 1)) = L - 1 by omega] at h
                exact h
              clear hown9 hown7 hgrow9 hat9 hR7 hO7 hB7 hsrc
              refine hK.out _ _ trivial (fun HS2 => ?_)
              clear hK K HS
              have HS := HS2
              clear HS2
              try simp only [Act.put, List.setIfInBounds_toArray, List.set_cons_zero, List.set_cons_succ]
              refine seq_take (i := 10) (v := ?_) rfl (by kernel_rfl) (by kernel_rfl) (by kernel_rfl) (fun _ _ _ h => h) (by rfl) ?_ HS ?_
              rotate_left
              · intro W hW
                (go_simp <;> first | done | with_reducible rfl)
              try simp only [Act.put, List.setIfInBounds_toArray, List.set_cons_zero, List.set_cons_succ]
              refine wpAnyH_done (by kernel_rfl) ?_ _
              clear HS
              obtain ⟨A9, c9, rfl, hc91, hc92, _⟩ := OwnI.row HR9.out
              go_simp
              go_wp2_with fail
              go_roundw
              case rel =>
                refine ⟨j + 1, xd, L - 1, A9, c9, go2, co2, _, ys ++ [y], rfl, rfl, rfl, by omega, by omega, by omega, OwnI.from_ HR9.out (by omega), HO9.out, HB9.out, fun b hb => ?_⟩
                have := (own_block HR9.out b hb).1
                omega
              case measure => (simp <;> omega)
          · obtain rfl : L = 0 := by omega
            obtain rfl : j = k := by omega
            have HO := Lib.hid hO
            clear hO hR
            go_wp2_with fail
            go_ret2
            exact ⟨true, _, j, co, ys, rfl, hn5, fun _ => hn1, HO.out, hbel⟩
  · have d1 := inB_no (a := (N : Int)) (lo := 1) (hi := 5) (by omega)
    have hb0 := (Below.refl w.heap.size w).alloc (Nat.le_refl _) (.cells #[] 3)
    clear hn
    go_enter Try.func49, Try.ntmps49
    go_wp2_with fail
    refine (in_any _ _ _ _).mono ?_
    rintro e w' ⟨rfl, rfl⟩
    rw [d1]
    go_wp2_with fail
    go_ret2
    exact ⟨false, _, 0, 0, [], rfl, by omega, fun h => (by cases h), own_empty w w.heap.size _ _ (Nat.le_refl _), hb0⟩

theorem OwnI.cut {w : World} {base n c g m : Nat} {zs : List Int} (h : OwnI w base (.slice (Option.some ⟨g, 0, none⟩) n c) n zs) (hm : m ≤ n) : OwnI w base (.slice (Option.some ⟨g, 0, none⟩) m c) m (zs.take m) := by
  have hl := h.1
  refine ⟨by rw [List.length_map, List.length_take]; rw [List.length_map] at hl; omega, ?_⟩
  rcases h.2 with ⟨h0, _⟩ | ⟨g', cap, cur, hv, hb, hh, h1, h2, h3, h4⟩
  · cases h0
  · have hg : g = g' ∧ c = cap := by
      injection hv with hA hn hc
      injection hA with hA
      injection hA with hA
      exact ⟨hA, hc⟩
    obtain ⟨rfl, rfl⟩ := hg
    refine .inr ⟨g, c, cur, rfl, hb, hh, by omega, h2, h3, ?_⟩
    rw [List.map_take, ← h4, List.take_take]
    congr 1
    omega
def DrawnL (w0 w : World) (g p : Nat) (e : Ending) (w' : World) : Prop :=
  ∃ (A : Option Addr) (k c : Nat) (zs : List Int) (q : Nat), e = .returned (.slice A k c) ∧ k ≤ 5 ∧ q ≤ p + 5 ∧ OwnI w' w.heap.size (.slice A k c) k zs ∧ Dr w0 w w' g q

set_option maxHeartbeats 4000000 in
theorem l91Lots_any {w0 w : World} {g p : Nat} (I : RdI w0 w g p) (hp : p ≤ 500) (N : Nat) (hN : N ≤ 1048576) :
    Calls Try.prog 37 #[.pointer (some ⟨g, 0, none⟩), .int .i64 (N : Int)] w (DrawnL w0 w g p) := by
  have hDs := Dr.start I
  go_enter Try.func37, Try.ntmps37
  go_wp2_with fail
  refine (pickD _ hDs (by omega) (by omega)).mono ?_
  rintro e w1 ⟨r, rfl, r0, r1, D1, G1⟩
  have hs1 := D1.size
  clear hDs G1 I
  go_wp2_with fail
  refine (LotsOf_any N hN (r * 3) (by omega) (by omega) w1).mono ?_
  rintro e w2 ⟨b, A, k, c, zs, rfl, hk5, hk1, hown, hb2⟩
  have D2 := D1.below hb2
  have hown2 := OwnI.from_ hown hs1
  clear D1 hb2 hown
  cases b with
  | false =>
    have HO := Lib.hid hown2
    have HD := Lib.hid D2
    clear hown2 D2
    go_wp2_with fail
    go_ret
    exact ⟨A, k, c, zs, _, rfl, hk5, by omega, HO.out, HD.out⟩
  | true =>
    have hk1 := hk1 rfl
    obtain ⟨ga, ca, hv, hga, hgal, hca, hcam⟩ := OwnI.some hown2 hk1
    injection hv with e1 _ e3
    subst e1 e3
    unfold maxLen at hcam
    go_wp2_with fail
    refine (pickD _ D2 (by omega) (by omega)).mono ?_
    rintro e w3 ⟨t, rfl, t0, t1, D3, G3⟩
    have hown3 := hown2.pick G3 D2.at_
    clear D2 hown2 G3 hgal
    by_cases ht : 0 < t
    · have HO := Lib.hid hown3
      have HD := Lib.hid D3
      clear hown3 D3
      go_wp2_with fail
      go_ret
      exact ⟨_, k, c, zs, _, rfl, hk5, by omega, HO.out, HD.out⟩
    · obtain rfl : t = 0 := by omega
      go_wp2_with fail
      refine (pickD _ D3 (by omega) (by omega)).mono ?_
      rintro e w4 ⟨j, rfl, j0, j1, D4, G4⟩
      have hown4 := hown3.pick G4 D3.at_
      clear D3 hown3 G4
      obtain ⟨J, rfl⟩ := Int.eq_ofNat_of_zero_le j0
      have hJ : J < k := by omega
      go_wp2_with fail
      refine (pickD _ D4 (by omega) (by omega)).mono ?_
      rintro e w5 ⟨t5, rfl, t50, t51, D5, G5⟩
      have hown5 := hown4.pick G5 D4.at_
      clear D4 hown4 G5
      by_cases ht5 : t5 = 0
      · subst ht5
        have HO := Lib.hid (hown5.cut (m := J) (by omega))
        have HD := Lib.hid D5
        have y1 : J ≤ c := by omega
        clear hown5 D5
        go_wp2_with fail
        go_ret
        exact ⟨_, J, c, _, _, rfl, by omega, by omega, HO.out, HD.out⟩
      · have ht5' : (t5 == 0) = false := by simpa using ht5
        go_wp2_with fail
        refine (pickD _ D5 (by omega) (by omega)).mono ?_
        rintro e w6 ⟨r6, rfl, r60, r61, D6, G6⟩
        have hown6 := hown5.pick G6 D5.at_
        clear D5 hown5 G6
        have hJl : J < zs.length := by rw [hown6.len]; exact hJ
        have hcell := hown6.cell hJl
        have hfr := hown6.frozen J
        have HO := Lib.hid (hown6.set J (r6 - 1))
        have HD := Lib.hid (D6.set hga J (.int .i64 (r6 - 1)))
        clear hown6 D6
        generalize zs[J] = y at *
        go_wp2_with fail
        go_ret
        exact ⟨_, k, c, _, _, rfl, hk5, by omega, HO.out, HD.out⟩

end Go.Proofs.Ytjanmgiliooocaa
