/- The law FnPairsError returns true and leaves all that was there as it was. The conditions stand in each theorem. -/
import Derived.Test.YtkpgbombikgffaaDrawD3
namespace Go.Proofs.Ytkpgbombikgffaa
open Go.RowKit Go.ChangeShapes
set_option linter.unusedVariables false

theorem prCells_take (l : List Pr) (k : Nat) : prCells (l.take k) = (prCells l).take (k * 2) := by
  induction l generalizing k with
  | nil => simp [prCells]
  | cons p l ih =>
    cases k with
    | zero => simp [prCells]
    | succ k =>
      show Value.string p.1 :: Value.string p.2 :: prCells (l.take k) = (Value.string p.1 :: Value.string p.2 :: prCells l).take ((k + 1) * 2)
      rw [ih k, show (k + 1) * 2 = k * 2 + 1 + 1 by omega]
      rfl
theorem prCells_drop (l : List Pr) (k : Nat) : prCells (l.drop k) = (prCells l).drop (k * 2) := by
  induction l generalizing k with
  | nil => simp [prCells]
  | cons p l ih =>
    cases k with
    | zero => simp
    | succ k =>
      show prCells (l.drop k) = (Value.string p.1 :: Value.string p.2 :: prCells l).drop ((k + 1) * 2)
      rw [ih k, show (k + 1) * 2 = k * 2 + 1 + 1 by omega]
      rfl
theorem pse_of {ps : List Pr} {wi lo : Int} (h : pseB ps wi lo = true) : pvB ps = true ∧ rvB wi lo = true := by
  unfold pseB at h
  simpa using h

set_option maxRecDepth 100000 in
set_option maxHeartbeats 2000000 in
theorem FnPairsError_walk (a0 : Option Addr) (len0 cap0 : Nat) (z0 : List Int) (a1 : Option Addr) (len1 cap1 : Nat) (z1 : List Int) (w : World) (w0 : IsRow .u8 w a0 len0 cap0 z0) (w1 : IsRow .u8 w a1 len1 cap1 z1) :
    Calls Try.prog 9 #[.slice a0 len0 cap0, .slice a1 len1 cap1] w fun e w' => e = .returned (.bool true) ∧ Below w.heap.size w w' := by
  have hcap := w0.len_le.2.1
  have hlen := w0.len_le.1
  have hcap1 := w1.len_le.2.1
  have hlen1 := w1.len_le.1
  unfold maxLen at hcap hcap1
  clear w1
  by_cases hbig : 1048576 < len0
  · clear w0
    go_enter Try.func9, Try.ntmps9
    go_wp2
    go_ret
    exact ⟨rfl, Below.refl _ _⟩
  by_cases hbig1 : 1048576 < len1
  · clear w0
    go_enter Try.func9, Try.ntmps9
    go_wp2
    go_ret
    exact ⟨rfl, Below.refl _ _⟩
  have dd0 : decide ((1048576 : Int) < (len0 : Int)) = false := by simp; omega
  have dd1 : decide ((1048576 : Int) < (len1 : Int)) = false := by simp; omega
  go_enter Try.func9, Try.ntmps9
  go_wp2_with fail
  refine (DrawPairsError_any _ _ _ _ _ w0).mono ?_
  rintro e w2 ⟨A, ps, n, c, x, y, rfl, hl, hn, hsh, hc1, hc2, hx, hy, hr, hb⟩
  have HN := Lib.hid hl
  have HS : Hid (∀ z ∈ ps, smallPr z) := fun z hz => short_small (hsh z hz)
  clear w0 hbig hcap hlen hl hsh
  unfold maxLen at hc2
  have hbd := pse_bd ps x y
  go_wp2_with fail
  refine (PairsError_any _ _ _ ps _ _ _ HN.out (by omega) HS.out hr).mono ?_
  rintro e w3 ⟨rfl, hb3⟩
  have hr3 := (hr.below hb3).more hb3.size
  have hbF3 := hb.trans (hb3.mono hb.size)
  clear hr hb3 hb
  go_wp2_with fail
  refine (sPairsError_any _ _ _ ps _ _ _ HN.out (by omega) HS.out hr3).mono ?_
  rintro e w4 ⟨rfl, hb4⟩
  have hr4 := (hr3.below hb4).more hb4.size
  have hbF4 := hbF3.trans (hb4.mono hbF3.size)
  clear hr3 hb4 hbF3
  cases hp : pseB ps x y with
  | false =>
    clear hr4
    generalize pseZ ps x y = z at *
    go_wp2_with fail
    go_ret
    exact ⟨rfl, hbF4⟩
  | true =>
    obtain ⟨hv, hrv⟩ := pse_of hp
    have hE := (pse_yes hv hrv).1
    obtain ⟨K, hK⟩ : ∃ K : Nat, K = len1 % (n + 1) := ⟨_, rfl⟩
    have hKn : K ≤ n := by have := Nat.mod_lt len1 (show 0 < n + 1 by omega); omega
    have eK : (len1 : Int) % ((n : Int) + 1) = (K : Int) := by rw [hK]; rfl
    have l20 := (pvB_len hv).1
    have hvT : pvB (ps.take K) = true := pvB_sub hv (fun p hp => List.mem_of_mem_take hp) (by have := List.length_take_le K ps; have := List.length_take_le' K ps; omega)
    have hvD : pvB (ps.drop K) = true := pvB_sub hv (fun p hp => List.mem_of_mem_drop hp) (by rw [List.length_drop]; omega)
    have HT := Lib.hid (pse_yes hvT hrv)
    have HD := Lib.hid (pse_yes hvD hrv)
    have HSP := Lib.hid (psum_split ps K x y)
    have HE := Lib.hid hE
    have hbT := pse_bd (ps.take K) x y
    have hbD := pse_bd (ps.drop K) x y
    have HL1 : Hid ((ps.take K).length = K) := by
      show _ = _
      rw [List.length_take, HN.out]
      omega
    have HL2 : Hid ((ps.drop K).length = n - K) := by
      show _ = _
      rw [List.length_drop, HN.out]
    have HS1 : Hid (∀ z ∈ ps.take K, smallPr z) := fun z hz => HS.out z (List.mem_of_mem_take hz)
    have HS2 : Hid (∀ z ∈ ps.drop K, smallPr z) := fun z hz => HS.out z (List.mem_of_mem_drop hz)
    have HR0 := Lib.hid hr4
    have hr1 : Row w4 w4.heap.size A (prCells (ps.take K)) := by rw [prCells_take]; exact hr4.take _
    clear hp hv hrv hE hK l20 hvT hvD hr4
    go_wp2_with fail
    simp only [eK]
    clear eK
    go_wp2_with fail
    refine (PairsError_any A K c (ps.take K) x y _ HL1.out (by omega) HS1.out hr1).mono ?_
    rintro e w5 ⟨rfl, hb5⟩
    have hbF5 := hbF4.trans (hb5.mono hbF4.size)
    have HR5 := Lib.hid ((HR0.out.below hb5).more hb5.size)
    have hr2 : Row w5 w5.heap.size (if c = K then A else A.map (·.add (K * 2))) (prCells (ps.drop K)) := by
      rw [prCells_drop]
      exact HR5.out.cutN (n := n) (by rw [prCells_len, HN.out]) hKn hc1
    clear hr1 HR0 hb5 hbF4
    have HLX : Hid (n ≤ c) := hc1
    by_cases hcK : c = K
    · rw [if_pos hcK] at hr2
      have hcap9 : 0 ≤ c := Nat.zero_le _
      have HL2' : Hid ((ps.drop K).length = 0) := by
        show _ = _
        rw [HL2.out]
        omega
      subst c
      rw [HT.out.2]
      go_wp2_with fail
      ((with_reducible refine (PairsError_any _ _ _ (ps.drop K) x y _ HL2'.out (by omega) HS2.out hr2).mono ?_); rintro e w6 ⟨rfl, hb6⟩)
      have hbF6 := hbF5.trans (hb6.mono hbF5.size)
      have HR6 := Lib.hid ((HR5.out.below hb6).more hb6.size)
      rw [HD.out.2]
      clear hr2 HR5 hb6 hbF5
      have ES : (pseZ (ps.take K) x y + pseZ (ps.drop K) x y == pseZ ps x y) = true := by
        rw [HT.out.1, HD.out.1, HSP.out, HE.out]
        simp
      go_wp2_with fail
      go_loopw [17, 18] (fun s i wx => ∃ (k : Nat) (z : Int), k ≤ n ∧ i = .int .i64 k ∧ s = .int .i64 z ∧ -2097152 ≤ z ∧ z ≤ 2097152 ∧ Below w6.heap.size w6 wx ∧ Hid (z = psum (ps.take k) x y)) (fun _ i _ => n - (intOf i).toNat)
      case atStart => exact ⟨0, 0, Nat.zero_le _, rfl, rfl, by omega, by omega, Below.refl _ _, rfl⟩
      case round =>
        obtain ⟨k, z, hk, rfl, rfl, z0, z1, hbel, HX⟩ := hrel
        by_cases hlt : k < n
        · have hl : k < ps.length := by rw [HN.out]; exact hlt
          have ha2 := (HR6.out.below hbel).more hbel.size
          obtain ⟨b, off, rfl, hbw, hk0, hk1⟩ := pair_at ha2 hl
          have HP := Lib.hid (HS.out _ (List.getElem_mem hl))
          have HTT := Lib.hid (psum_step ps k x y hl)
          have hb1' := psum_bd (ps.take (k + 1)) x y
          have hl1 : (ps.take (k + 1)).length ≤ k + 1 := List.length_take_le _ _
          have hz2 : -2097152 ≤ z + pe ps[k] x y ∧ z + pe ps[k] x y ≤ 2097152 := by
            rw [HX.out, ← HTT.out]
            omega
          have hpb := pe_bd ps[k] x y
          clear ha2 hb1' hl1
          generalize ps[k] = p at *
          obtain ⟨pa, pb⟩ := p
          simp only at hk0 hk1
          go_wp2_with fail
          refine (PairError_any (pa, pb) _ _ _ HP.out).mono ?_
          rintro e w7 ⟨rfl, hb7⟩
          have hbel2 : Below w6.heap.size w6 w7 := hbel.trans (hb7.mono hbel.size)
          clear hb7 hk0 hk1
          generalize pe (pa, pb) x y = u at *
          go_wp2_with fail
          go_roundw
          case rel => exact ⟨k + 1, _, by omega, by go_num, rfl, by omega, by omega, hbel2, by
            show _ = _
            rw [HTT.out, ← HX.out]⟩
          case measure => simp [intOf]; omega
        · have q : (z == pseZ ps x y) = true := by
            have h1 := HX.out
            rw [List.take_of_length_le (by rw [HN.out]; omega)] at h1
            rw [h1, HE.out]
            simp
          have hbF := hbF6.trans (hbel.mono hbF6.size)
          generalize pseZ (ps.take K) x y = t1 at *
          generalize pseZ (ps.drop K) x y = t2 at *
          generalize pseZ ps x y = t3 at *
          go_wp2_with fail
          go_ret
          exact ⟨rfl, hbF⟩
    · rw [if_neg hcK] at hr2
      rw [HT.out.2]
      go_wp2_with fail
      ((with_reducible refine (PairsError_any _ _ _ (ps.drop K) x y _ HL2.out (by omega) HS2.out hr2).mono ?_); rintro e w6 ⟨rfl, hb6⟩)
      have hbF6 := hbF5.trans (hb6.mono hbF5.size)
      have HR6 := Lib.hid ((HR5.out.below hb6).more hb6.size)
      rw [HD.out.2]
      clear hr2 HR5 hb6 hbF5
      generalize Option.map (fun x => Addr.add x (K * 2)) A = A2 at *
      have ES : (pseZ (ps.take K) x y + pseZ (ps.drop K) x y == pseZ ps x y) = true := by
        rw [HT.out.1, HD.out.1, HSP.out, HE.out]
        simp
      go_wp2_with fail
      go_loopw [17, 18] (fun s i wx => ∃ (k : Nat) (z : Int), k ≤ n ∧ i = .int .i64 k ∧ s = .int .i64 z ∧ -2097152 ≤ z ∧ z ≤ 2097152 ∧ Below w6.heap.size w6 wx ∧ Hid (z = psum (ps.take k) x y)) (fun _ i _ => n - (intOf i).toNat)
      case atStart => exact ⟨0, 0, Nat.zero_le _, rfl, rfl, by omega, by omega, Below.refl _ _, rfl⟩
      case round =>
        obtain ⟨k, z, hk, rfl, rfl, z0, z1, hbel, HX⟩ := hrel
        by_cases hlt : k < n
        · have hl : k < ps.length := by rw [HN.out]; exact hlt
          have ha2 := (HR6.out.below hbel).more hbel.size
          obtain ⟨b, off, rfl, hbw, hk0, hk1⟩ := pair_at ha2 hl
          have HP := Lib.hid (HS.out _ (List.getElem_mem hl))
          have HTT := Lib.hid (psum_step ps k x y hl)
          have hb1' := psum_bd (ps.take (k + 1)) x y
          have hl1 : (ps.take (k + 1)).length ≤ k + 1 := List.length_take_le _ _
          have hz2 : -2097152 ≤ z + pe ps[k] x y ∧ z + pe ps[k] x y ≤ 2097152 := by
            rw [HX.out, ← HTT.out]
            omega
          have hpb := pe_bd ps[k] x y
          clear ha2 hb1' hl1
          generalize ps[k] = p at *
          obtain ⟨pa, pb⟩ := p
          simp only at hk0 hk1
          go_wp2_with fail
          refine (PairError_any (pa, pb) _ _ _ HP.out).mono ?_
          rintro e w7 ⟨rfl, hb7⟩
          have hbel2 : Below w6.heap.size w6 w7 := hbel.trans (hb7.mono hbel.size)
          clear hb7 hk0 hk1
          generalize pe (pa, pb) x y = u at *
          go_wp2_with fail
          go_roundw
          case rel => exact ⟨k + 1, _, by omega, by go_num, rfl, by omega, by omega, hbel2, by
            show _ = _
            rw [HTT.out, ← HX.out]⟩
          case measure => simp [intOf]; omega
        · have q : (z == pseZ ps x y) = true := by
            have h1 := HX.out
            rw [List.take_of_length_le (by rw [HN.out]; omega)] at h1
            rw [h1, HE.out]
            simp
          have hbF := hbF6.trans (hbel.mono hbF6.size)
          generalize pseZ (ps.take K) x y = t1 at *
          generalize pseZ (ps.drop K) x y = t2 at *
          generalize pseZ ps x y = t3 at *
          go_wp2_with fail
          go_ret
          exact ⟨rfl, hbF⟩

end Go.Proofs.Ytkpgbombikgffaa
