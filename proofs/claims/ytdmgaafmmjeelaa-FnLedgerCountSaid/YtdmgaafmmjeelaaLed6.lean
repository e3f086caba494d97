/- Ledgers: what followed and LedgerGaps of the program return. The conditions stand in each theorem. -/
import Derived.Test.YtdmgaafmmjeelaaLed5
namespace Go.Proofs.Ytdmgaafmmjeelaa
open Go.RowKit Go.ChangeShapes
open Go.Maps (Keyed int_keyed keyOf_int_mk)
set_option linter.unusedVariables false

theorem MapB.congr {D : DataW Unit} {f g : Int → Bool} (h : MapB D f) (hfg : ∀ x, f x = g x) : MapB D g := ⟨h.1, fun k => by rw [h.2 k, hfg k]⟩
theorem fits_gaps (s : St) (e : Ev) : St.fits ⟨s.last, s.used, []⟩ e = s.fits e := rfl
theorem Blk.grown_ {w w' : World} {b : Nat} {row : Option Nat} {t : TypeId} {cs : Array Value} (h : Blk w b t cs) (hg : w.grownBy w' row) (hne : some b ≠ row) : Blk w' b t cs := (hg.block b h.lt hne).trans h
theorem Blk.far {w : World} {g : Nat} {t : TypeId} {cs : Array Value} (h : Blk w g t cs) {p : Addr} (hp : g ≠ p.block) (u : Value) : Blk (w.setCell p u) g t cs := (Below.heap_setCell w p u g hp).trans h
theorem Blk.below_ {w w' : World} {b B : Nat} {t : TypeId} {cs : Array Value} (h : Blk w b t cs) (hb : Below B w w') (hlt : b < B) : Blk w' b t cs := (hb.block b hlt).trans h

theorem own_from {w : World} {base base' : Nat} {e : TypeId} {size n : Nat} {v : Value} {xs : List Value} (h : w.ownsRow base e size v n xs) (hb : base' ≤ base) : w.ownsRow base' e size v n xs := by
  refine ⟨h.1, ?_⟩
  rcases h.2 with h0 | ⟨g, cap, cur, hv, h1, h2⟩
  · exact .inl h0
  · exact .inr ⟨g, cap, cur, hv, by omega, h2⟩
/-- What followed gives: the last event of each box, the locks used, the gaps. -/
def Followed (w : World) (s : St) (n : Nat) (e : Ending) (w' : World) : Prop :=
  ∃ (b1 b2 : Nat) (D1 : DataW Unit) (A : Option Addr) (k c : Nat), e = .returned (.agg #[.map (some b1), .map (some b2), .slice A k c]) ∧ w'.ownsMap Try.prog 3 evR b1 n D1 ∧ MapE D1 s.last ∧ s.gaps.length = k ∧ k ≤ c ∧ c ≤ maxLen ∧ w'.ownsRow w.heap.size 3 1 (.slice A k c) k (s.gaps.map (Value.int .i64)) ∧ Below w.heap.size w w'

set_option maxRecDepth 100000 in
set_option maxHeartbeats 4000000 in
theorem followed_any (A : Option Addr) (n c : Nat) (l : List Ev) (w : World) (hn : l.length = n) (hm : n ≤ 20) (hv : ∀ e ∈ l, okE e = true) (ha : Row w w.heap.size A (evCells l)) :
    Calls Try.prog 41 #[.slice A n c] w (Followed w (foll l n) n) := by
  obtain ⟨i0, hi0, hz0, hz1, hz2⟩ := info_parts info_int
  have HI := Lib.hid hi0
  have HZ0 := Lib.hid hz0
  have HZ1 := Lib.hid hz1
  have HZ2 := Lib.hid hz2
  have HN := Lib.hid hn
  have HV := Lib.hid hv
  have HR := Lib.hid ha
  clear hi0 hz0 hz1 hz2 hn hv ha
  have hmm := @run_makeMap Try.prog
  go_enter Try.func41, Try.ntmps41
  go_wp2_with fail
  clear hmm
  have K0 := ((((Blk.new w 56 #[.map none, .map none, .slice none 0 0]).alloc (.map #[] 0)).alloc (.map #[] 0)).alloc (.cells #[.map (some (w.heap.size + 1)), .map (some (w.heap.size + 1 + 1)), .slice none 0 0] 56))
  have M1 := (((World.ownsMap_made (w.alloc (.cells #[.map none, .map none, .slice none 0 0] 56)) Try.prog 3 evR).alloc (.map #[] 0)).alloc (.cells #[.map (some (w.heap.size + 1)), .map (some (w.heap.size + 1 + 1)), .slice none 0 0] 56))
  have M2 := ((World.ownsMap_made ((w.alloc (.cells #[.map none, .map none, .slice none 0 0] 56)).alloc (.map #[] 0)) Try.prog 3 boR).alloc (.cells #[.map (some (w.heap.size + 1)), .map (some (w.heap.size + 1 + 1)), .slice none 0 0] 56))
  have K3 := Blk.new (((w.alloc (.cells #[.map none, .map none, .slice none 0 0] 56)).alloc (.map #[] 0)).alloc (.map #[] 0)) 56 #[.map (some (w.heap.size + 1)), .map (some (w.heap.size + 1 + 1)), .slice none 0 0]
  have s1 : (w.alloc (.cells #[.map none, .map none, .slice none 0 0] 56)).heap.size = w.heap.size + 1 := by simp
  have s2 : ((w.alloc (.cells #[.map none, .map none, .slice none 0 0] 56)).alloc (.map #[] 0)).heap.size = w.heap.size + 1 + 1 := by simp
  have s3 : (((w.alloc (.cells #[.map none, .map none, .slice none 0 0] 56)).alloc (.map #[] 0)).alloc (.map #[] 0)).heap.size = w.heap.size + 1 + 1 + 1 := by simp
  rw [s1] at M1
  rw [s2] at M2
  rw [s3] at K3
  have BB : Below w.heap.size w ((((w.alloc (.cells #[.map none, .map none, .slice none 0 0] 56)).alloc (.map #[] 0)).alloc (.map #[] 0)).alloc (.cells #[.map (some (w.heap.size + 1)), .map (some (w.heap.size + 1 + 1)), .slice none 0 0] 56)) := ((((Below.refl _ _).alloc (Nat.le_refl _) _).alloc (by simp) _).alloc (by simp; omega) _).alloc (by simp; omega) _
  have s4 : w.heap.size + 1 + 1 + 1 + 1 ≤ ((((w.alloc (.cells #[.map none, .map none, .slice none 0 0] 56)).alloc (.map #[] 0)).alloc (.map #[] 0)).alloc (.cells #[.map (some (w.heap.size + 1)), .map (some (w.heap.size + 1 + 1)), .slice none 0 0] 56)).heap.size := by simp
  clear s1 s2 s3
  go_loopw [11] (fun i wx => ∃ (k j : Nat) (D1 D2 : DataW Unit) (gv : Value), k ≤ n ∧ j ≤ k ∧ i = .int .i64 k ∧ Below w.heap.size w wx ∧ (w.heap.size + 1 + 1 + 1 + 1) ≤ wx.heap.size ∧ Blk wx w.heap.size 56 #[.map none, .map none, .slice none 0 0] ∧ Blk wx (w.heap.size + 1 + 1 + 1) 56 #[.map (some (w.heap.size + 1)), .map (some (w.heap.size + 1 + 1)), gv] ∧
    wx.ownsMap Try.prog 3 evR (w.heap.size + 1) k D1 ∧ Hid (MapE D1 (foll l k).last) ∧ wx.ownsMap Try.prog 3 boR (w.heap.size + 1 + 1) k D2 ∧ Hid (MapB D2 (foll l k).used) ∧ wx.ownsRow (w.heap.size + 1 + 1 + 1 + 1) 3 1 gv j ((foll l k).gaps.map (Value.int .i64))) (fun i _ => n - (intOf i).toNat)
  case atStart => exact ⟨0, 0, _, _, _, Nat.zero_le _, Nat.le_refl _, rfl, BB, s4, K0, K3, M1, MapE.empty, M2, MapB.empty, own_nil _ _ _ _⟩
  case round =>
    clear K0 M1 M2 K3 BB s4
    obtain ⟨k, j, D1, D2, gv, hk, hj, rfl, hbel, hs4, K0, K3, M1, HE1, M2, HB2, hown⟩ := hrel
    by_cases hlt : k < n
    · have hl : k < l.length := by rw [HN.out]; exact hlt
      obtain ⟨b, off, rfl, hbw, hc0, hc1, hc2, hc3⟩ := ev_at ((HR.out.below hbel).more hbel.size) hl
      have HOK := Lib.hid (HV.out _ (List.getElem_mem hl))
      have HFY : Hid ((foll l k).fits l[k] = true → foll l (k + 1) = (foll l k).take l[k]) := fun h => by rw [foll_succ hl, step_yes h]
      have HFN : Hid ((foll l k).fits l[k] = false → foll l (k + 1) = ⟨(foll l k).last, (foll l k).used, (foll l k).gaps ++ [(k : Int)]⟩) := fun h => by rw [foll_succ hl, step_no h]
      generalize l[k] = p at *
      obtain ⟨vbx, vkd, vsl, vmn⟩ := p
      simp only at hc0 hc1 hc2 hc3
      have c30 : wr.cell? ⟨(w.heap.size + 1 + 1 + 1), 0, none⟩ = some (.map (some (w.heap.size + 1))) := by simpa using K3.cell 0
      have c31 : wr.cell? ⟨(w.heap.size + 1 + 1 + 1), 1, none⟩ = some (.map (some (w.heap.size + 1 + 1))) := by simpa using K3.cell 1
      have c32 : wr.cell? ⟨(w.heap.size + 1 + 1 + 1), 2, none⟩ = some gv := by simpa using K3.cell 2
      have KP := Blk.new wr 36 #[.int .i64 vbx, .int .i64 vkd, .int .i64 vsl, .int .i64 vmn]
      have h3lt : (w.heap.size + 1 + 1 + 1) < wr.heap.size := by omega
      have h3ne : ¬ (w.heap.size + 1 + 1 + 1) = wr.heap.size := by omega
      go_wp2_with fail
      refine (fits_any _ _ k gv D1 D2 (foll l k).last (foll l k).used ⟨vbx, vkd, vsl, vmn⟩ _ HOK.out (M1.alloc _) HE1.out (M2.alloc _) HB2.out).mono ?_
      rintro e w2 ⟨rfl, hb2⟩
      have hbA := hbel.alloc hbel.size (.cells #[.int .i64 vbx, .int .i64 vkd, .int .i64 vsl, .int .i64 vmn] 36)
      have hbel2 := hbA.trans (hb2.mono hbA.size)
      have hs2 := hb2.size
      simp at hs2
      have K02 := (K0.alloc (.cells #[.int .i64 vbx, .int .i64 vkd, .int .i64 vsl, .int .i64 vmn] 36)).below_ hb2 (by simp; omega)
      have K32 := (K3.alloc (.cells #[.int .i64 vbx, .int .i64 vkd, .int .i64 vsl, .int .i64 vmn] 36)).below_ hb2 (by simp; omega)
      have KP2 := KP.below_ hb2 (by simp)
      have M12 := (M1.alloc (.cells #[.int .i64 vbx, .int .i64 vkd, .int .i64 vsl, .int .i64 vmn] 36)).kept (below_grown hb2 none) (by simp)
      have M22 := (M2.alloc (.cells #[.int .i64 vbx, .int .i64 vkd, .int .i64 vsl, .int .i64 vmn] 36)).kept (below_grown hb2 none) (by simp)
      have hown2 := own_below (own_alloc hown (.cells #[.int .i64 vbx, .int .i64 vkd, .int .i64 vsl, .int .i64 vmn] 36)) hb2
      clear hc0 hc1 hc2 hc3 c30 c31 c32 KP K0 K3 M1 M2 hown hbel hbA hb2
      have c30 : w2.cell? ⟨(w.heap.size + 1 + 1 + 1), 0, none⟩ = some (.map (some (w.heap.size + 1))) := by simpa using K32.cell 0
      have c31 : w2.cell? ⟨(w.heap.size + 1 + 1 + 1), 1, none⟩ = some (.map (some (w.heap.size + 1 + 1))) := by simpa using K32.cell 1
      have c32 : w2.cell? ⟨(w.heap.size + 1 + 1 + 1), 2, none⟩ = some gv := by simpa using K32.cell 2
      have p0 : w2.cell? ⟨wr.heap.size, 0, none⟩ = some (.int .i64 vbx) := by simpa using KP2.cell 0
      have p1 : w2.cell? ⟨wr.heap.size, 1, none⟩ = some (.int .i64 vkd) := by simpa using KP2.cell 1
      have p2 : w2.cell? ⟨wr.heap.size, 2, none⟩ = some (.int .i64 vsl) := by simpa using KP2.cell 2
      have p3 : w2.cell? ⟨wr.heap.size, 3, none⟩ = some (.int .i64 vmn) := by simpa using KP2.cell 3
      rw [fits_gaps]
      obtain ⟨g1, g2, g3, g4, g5, g6, g7, g8⟩ := (okE_iff _).1 HOK.out
      simp only at g1 g2 g3 g4 g5 g6 g7 g8
      have KX := Lib.hid (wf_small (k := vbx) (by omega) (by omega))
      have KS := Lib.hid (wf_small (k := vsl) (by omega) (by omega))
      cases hf : (foll l k).fits ⟨vbx, vkd, vsl, vmn⟩ with
      | false =>
        have HG := Lib.hid (HFN.out hf)
        clear hf HFY HFN
        have hob := own_block hown2
        have HOB : Hid (∀ x : Nat, x < (w.heap.size + 1 + 1 + 1 + 1) → some x ≠ gv.ownBlock) := fun x hx e => by have := (hob x e.symm).1; omega
        clear hob
        go_wp2_with (at_builtin; refine wpList_append_own_at _ rfl (.tmp 21) (.tmp 23) _ rfl (w.heap.size + 1 + 1 + 1 + 1) 3 i0 _ 1 8 Try.underlying37 HI.out HZ0.out HZ1.out HZ2.out rfl (by omega) gv _ _ rfl (own_alloc hown2 _) ⟨w2.heap.size, 0, none⟩ 1 1 [.int .i64 (k : Int)] rfl rfl (cell_one_new _ _ _) (by intro u hu; simp at hu; subst hu; rfl) (by unfold maxLen; omega) (by omega) (by simp; omega) ?_; intro v' w6 hown6 hgrow6 hnil6 hat6; clear hnil6 hat6; obtain ⟨A', c', rfl, hq1, hq2, _, _⟩ := own_slice hown6; have K06 := (K02.alloc (.cells #[.int .i64 (k : Int)] 3)).grown_ hgrow6 (HOB.out _ (by omega)); have K36 := (K32.alloc (.cells #[.int .i64 (k : Int)] 3)).grown_ hgrow6 (HOB.out _ (by omega)); have M16 := (M12.alloc (.cells #[.int .i64 (k : Int)] 3)).kept hgrow6 (HOB.out _ (by omega)); have M26 := (M22.alloc (.cells #[.int .i64 (k : Int)] 3)).kept hgrow6 (HOB.out _ (by omega)); have d32 : w6.cell? ⟨(w.heap.size + 1 + 1 + 1), 2, none⟩ = some gv := (by simpa using K36.cell 2); have ff := K36.frozen 2; have hs6 := hgrow6.size; simp at hs6; have hbel6 := (hbel2.alloc hbel2.size (.cells #[.int .i64 (k : Int)] 3)).grown hgrow6 (by have := hbel2.size; simp; omega) (fun x hx => (by have h1 := (own_block hown2 x hx).1; omega)))
        go_roundw
        case rel =>
          refine ⟨k + 1, j + 1, D1, D2, .slice A' (j + 1) c', by omega, by omega, by go_num, hbel6.setCell (by simp; omega) _, by simp [World.setCell]; omega, K06.far (by show w.heap.size ≠ w.heap.size + 1 + 1 + 1; omega) _, by simpa using K36.put 2 (.slice A' (j + 1) c'), (M16.setCell (by simp) _).mono (by omega), by rw [HG.out]; exact HE1, (M26.setCell (by simp) _).mono (by omega), by rw [HG.out]; exact HB2, ?_⟩
          rw [HG.out]
          show World.ownsRow _ _ _ _ _ _ (((foll l k).gaps ++ [(k : Int)]).map (Value.int .i64))
          rw [List.map_append]
          exact own_grown hown6 (grown_set w6 _ 2 _) (by omega)
        case measure => simp [intOf]; omega
      | true =>
        have HG := Lib.hid (HFY.out hf)
        clear hf HFY HFN
        by_cases hk1 : vkd = 1
        · have qk : (vkd == 1) = true := by simpa using hk1
          have HK1 := Lib.hid hk1
          clear hk1
          go_wp2_with (first
            | (at_mapUpdate; refine wpList_mapUpdate_own _ rfl _ _ _ 53 rfl 3 36 keyI Try.underlying53 evR (w.heap.size + 1) k D1 rfl M12 (by unfold maxLen; omega) _ _ (.int .i64 vbx) rfl rfl (keyOf_int_mk Try.underlying3 KX.out) (evD ⟨vbx, vkd, vsl, vmn⟩) [] rfl ?_; intro w3 M13 G3; have K03 := K02.grown_ G3 (fun e => by injection e with e; omega); have K33 := K32.grown_ G3 (fun e => by injection e with e; omega); have KP3 := KP2.grown_ G3 (fun e => by injection e with e; omega); have M23 := M22.kept G3 (fun e => by injection e with e; omega); have t31 : w3.cell? ⟨(w.heap.size + 1 + 1 + 1), 1, none⟩ = some (.map (some (w.heap.size + 1 + 1))) := (by simpa using K33.cell 1); have t1 : w3.cell? ⟨wr.heap.size, 1, none⟩ = some (.int .i64 vkd) := (by simpa using KP3.cell 1); have t2 : w3.cell? ⟨wr.heap.size, 2, none⟩ = some (.int .i64 vsl) := (by simpa using KP3.cell 2))
            | (at_mapUpdate; refine wpList_mapUpdate_own _ rfl _ _ _ 54 rfl 3 4 keyI Try.underlying54 boR (w.heap.size + 1 + 1) k D2 rfl M23 (by unfold maxLen; omega) _ _ (.int .i64 vsl) rfl rfl (keyOf_int_mk Try.underlying3 KS.out) (.lit (.bool true)) [] rfl ?_; intro w4 M24 G4))
          have K04 := K03.grown_ G4 (fun e => by injection e with e; omega)
          have K34 := K33.grown_ G4 (fun e => by injection e with e; omega)
          have M14 := M13.kept G4 (fun e => by injection e with e; omega)
          have hown4 : w4.ownsRow (w.heap.size + 1 + 1 + 1 + 1) 3 1 gv j ((foll l k).gaps.map (Value.int .i64)) := own_grown (own_grown hown2 G3 (by omega)) G4 (by omega)
          have hbel4 := (hbel2.grown G3 hbel2.size (fun x hx => by injection hx with hx; omega)).grown G4 (Nat.le_trans hbel2.size G3.size) (fun x hx => by injection hx with hx; omega)
          have hs3 := G3.size
          have hs4' := G4.size
          go_roundw
          case rel =>
            refine ⟨k + 1, j, _, _, gv, by omega, by omega, by go_num, hbel4, by omega, K04, K34, M14, ?_, M24, ?_, by rw [HG.out]; exact hown4⟩
            · rw [HG.out]
              exact HE1.out.put vbx ⟨vbx, vkd, vsl, vmn⟩
            · rw [HG.out]
              refine (HB2.out.put vsl).congr fun x => ?_
              show (if x = vsl then true else (foll l k).used x) = if vkd = 1 ∧ x = vsl then true else (foll l k).used x
              rw [HK1.out]
              simp
          case measure => simp [intOf]; omega
        · have qk : (vkd == 1) = false := by simpa using hk1
          have HK1 := Lib.hid hk1
          clear hk1
          go_wp2_with (at_mapUpdate; refine wpList_mapUpdate_own _ rfl _ _ _ 53 rfl 3 36 keyI Try.underlying53 evR (w.heap.size + 1) k D1 rfl M12 (by unfold maxLen; omega) _ _ (.int .i64 vbx) rfl rfl (keyOf_int_mk Try.underlying3 KX.out) (evD ⟨vbx, vkd, vsl, vmn⟩) [] rfl ?_; intro w3 M13 G3; have K03 := K02.grown_ G3 (fun e => by injection e with e; omega); have K33 := K32.grown_ G3 (fun e => by injection e with e; omega); have KP3 := KP2.grown_ G3 (fun e => by injection e with e; omega); have M23 := M22.kept G3 (fun e => by injection e with e; omega); have t1 : w3.cell? ⟨wr.heap.size, 1, none⟩ = some (.int .i64 vkd) := (by simpa using KP3.cell 1))
          have hown4 : w3.ownsRow (w.heap.size + 1 + 1 + 1 + 1) 3 1 gv j ((foll l k).gaps.map (Value.int .i64)) := own_grown hown2 G3 (by omega)
          have hbel4 := hbel2.grown G3 hbel2.size (fun x hx => by injection hx with hx; omega)
          have hs3 := G3.size
          go_roundw
          case rel =>
            refine ⟨k + 1, j, _, D2, gv, by omega, by omega, by go_num, hbel4, by omega, K03, K33, M13, ?_, M23.mono (by omega), ?_, by rw [HG.out]; exact hown4⟩
            · rw [HG.out]
              exact HE1.out.put vbx ⟨vbx, vkd, vsl, vmn⟩
            · rw [HG.out]
              refine HB2.out.congr fun x => ?_
              show (foll l k).used x = if vkd = 1 ∧ x = vsl then true else (foll l k).used x
              rw [if_neg (fun h => HK1.out h.1)]
          case measure => simp [intOf]; omega
    · obtain rfl : k = n := by omega
      obtain ⟨A3, c3, rfl, hc31, hc32, hlen3, hrow3⟩ := own_slice hown
      have hl3 : (foll l k).gaps.length = j := by simpa using hlen3
      have HL3 := Lib.hid hl3
      have c30 : wr.cell? ⟨(w.heap.size + 1 + 1 + 1), 0, none⟩ = some (.map (some (w.heap.size + 1))) := by simpa using K3.cell 0
      have c31 : wr.cell? ⟨(w.heap.size + 1 + 1 + 1), 1, none⟩ = some (.map (some (w.heap.size + 1 + 1))) := by simpa using K3.cell 1
      have c32 : wr.cell? ⟨(w.heap.size + 1 + 1 + 1), 2, none⟩ = some (.slice A3 j c3) := by simpa using K3.cell 2
      have z0 : wr.cell? ⟨w.heap.size, 0, none⟩ = some (.map none) := by simpa using K0.cell 0
      have z1 : wr.cell? ⟨w.heap.size, 1, none⟩ = some (.map none) := by simpa using K0.cell 1
      have z2 : wr.cell? ⟨w.heap.size, 2, none⟩ = some (.slice none 0 0) := by simpa using K0.cell 2
      have f0 := K0.frozen 0
      have f1 := K0.frozen 1
      have f2 := K0.frozen 2
      clear hlen3 hl3 hrow3
      go_wp2_with fail
      refine bodyPost_ret (v := .agg #[.map (some (w.heap.size + 1)), .map (some (w.heap.size + 1 + 1)), .slice A3 j c3]) (by simp [results, Try.results41, go_sem, z0, z1, z2]) rfl ⟨_, _, D1, A3, j, c3, rfl, ((M1.setCell (by simp) _).setCell (by simp) _).setCell (by simp) _, HE1.out, HL3.out, hc31, hc32, ?_, ((hbel.setCell (Nat.le_refl _) _).setCell (Nat.le_refl _) _).setCell (Nat.le_refl _) _⟩
      refine own_from (own_grown (own_grown (own_grown hown (grown_set _ _ _ _) (by omega)) (grown_set _ _ _ _) (by omega)) (grown_set _ _ _ _) (by omega)) (by omega)

end Go.Proofs.Ytdmgaafmmjeelaa
