/- Votes that are drawn. The conditions stand in each theorem. -/
import Derived.Test.YtjanmgiliooocaaE11
namespace Go.Proofs.Ytjanmgiliooocaa
open Go.RowKit Go.ChangeShapes
open Man
set_option linter.unusedVariables false

def DrawnV (w0 w : World) (g p N : Nat) (e : Ending) (w' : World) : Prop :=
  ∃ (A : Option Addr) (c : Nat) (zs : List Int) (q : Nat), e = .returned (.slice A N c) ∧ q ≤ p + 30 ∧ OwnI w' w.heap.size (.slice A N c) N zs ∧ Dr w0 w w' g q

set_option maxHeartbeats 4000000 in
theorem l92Votes_any {w0 w : World} {g p : Nat} (I : RdI w0 w g p) (hp : p ≤ 500) (N : Nat) (hN1 : 1 ≤ N) (hN6 : N ≤ 6) :
    Calls Try.prog 48 #[.pointer (some ⟨g, 0, none⟩), .int .i64 (N : Int)] w (DrawnV w0 w g p N) := by
  obtain ⟨i0, hi0, hz0, hz1, hz2⟩ := info_parts info_int
  have HI := Lib.hid hi0
  have HZ0 := Lib.hid hz0
  have HZ1 := Lib.hid hz1
  have HZ2 := Lib.hid hz2
  have hDs := (Dr.start I).alloc (.cells #[] 3)
  have hN0 : 0 < N := by omega
  clear hi0 hz0 hz1 hz2
  go_enter Try.func48, Try.ntmps48
  go_wp2_with fail
  go_loopw [5, 6] (fun u i wx => ∃ (k : Nat) (zs : List Int) (q : Nat), k ≤ N ∧ i = .int .i64 k ∧ q ≤ p + k ∧ OwnI wx w.heap.size u k zs ∧ Dr w0 w wx g q) (fun _ i _ => N - (intOf i).toNat)
  case atStart => exact ⟨0, [], p, Nat.zero_le _, rfl, by omega, own_empty w w.heap.size _ _ (Nat.le_refl _), hDs⟩
  case round =>
    clear hDs
    obtain ⟨k, zs, q, hk, rfl, hq, hown, D⟩ := hrel
    by_cases hlt : k < N
    · go_wp2_with fail
      refine (pickD _ D (by omega) (by omega)).mono ?_
      rintro e w3 ⟨r, rfl, r0, r1, D3, G3⟩
      have hown3 := hown.pick G3 D.at_
      have hs3 := D3.size
      clear D hown G3
      go_wp2_with (at_builtin; refine wpList_append_own_at _ rfl (.tmp 14) (.tmp 17) _ rfl w.heap.size 3 i0 _ 1 8 Try.underlying24 HI.out HZ0.out HZ1.out HZ2.out rfl (by omega) u5 _ _ rfl (own_alloc hown3 _) ⟨w3.heap.size, 0, none⟩ 1 1 [.int .i64 r] rfl rfl (cell_one_new _ _ _) (by intro u hu; simp at hu; subst hu; rfl) (by unfold maxLen; omega) (by omega) (by simp; omega) ?_; intro v7 w7 hown7 hgrow7 hnil7 hat7)
      go_roundw
      case rel =>
        refine ⟨k + 1, zs ++ [r], q + 1, by omega, by go_num, by omega, ?_, (D3.alloc _).own hgrow7 (fun x hx => (own_block hown3 x hx).1)⟩
        unfold OwnI
        rw [List.map_append]
        exact hown7
      case measure => simp [intOf]; omega
    · obtain rfl : k = N := by omega
      obtain ⟨ga, ca, rfl, hga, hgal, hca, hcam⟩ := OwnI.some hown hN1
      unfold maxLen at hcam
      go_wp2_with fail
      refine (pickD _ D (by omega) (by omega)).mono ?_
      rintro e w3 ⟨t, rfl, t0, t1, D3, G3⟩
      have hown3 := hown.pick G3 D.at_
      clear D hown G3 hgal
      by_cases ht : t = 0
      · subst ht
        go_wp2_with fail
        go_loopw [7] (fun i wx => ∃ (j : Nat) (zs : List Int) (q : Nat), j ≤ k ∧ i = .int .i64 j ∧ q ≤ p + k + 1 + j ∧ OwnI wx w.heap.size (.slice (some ⟨ga, 0, none⟩) k ca) k zs ∧ Dr w0 w wx g q) (fun i _ => k - (intOf i).toNat)
        case atStart => exact ⟨0, zs, _, Nat.zero_le _, rfl, by omega, hown3, D3⟩
        case round =>
          clear D3 hown3 hq
          obtain ⟨j, zs, q, hj, rfl, hq, hown, D⟩ := hrel
          by_cases hlt2 : j < k
          · go_wp2_with fail
            refine (pickD _ (D.alloc _) (by omega) (by omega)).mono ?_
            rintro e w3 ⟨r, rfl, r0, r1, D3, G3⟩
            obtain ⟨R, rfl⟩ := Int.eq_ofNat_of_zero_le r0
            have hR : R < 4 := by omega
            have hs3 := D.size
            have hc := lit_cell (zs := [0, 10, 20, 10]) G3 (by have := D.at_; omega) (i := R) hR
            generalize ([0, 10, 20, 10] : List Int)[R]'hR = x at hc
            have hown3 := (hown.alloc _).pick G3 D.at_
            have hJl : j < zs.length := by rw [hown3.len]; exact hlt2
            have hcell := hown3.cell hJl
            have hfr := hown3.frozen j
            have HO := Lib.hid (hown3.set j x)
            have HD := Lib.hid (D3.set hga j (.int .i64 x))
            clear D hown G3 hown3 D3
            generalize zs[j] = y at *
            go_wp2_with fail
            go_roundw
            case rel => exact ⟨j + 1, _, q + 1, by omega, by go_num, by omega, HO.out, HD.out⟩
            case measure => simp [intOf]; omega
          · obtain rfl : j = k := by omega
            go_wp2_with fail
            refine (pickD _ D (by omega) (by omega)).mono ?_
            rintro e w4 ⟨t2, rfl, t20, t21, D4, G4⟩
            have hown4 := hown.pick G4 D.at_
            clear D hown G4
            by_cases ht2 : t2 = 0
            · subst ht2
              go_wp2_with fail
              refine (pickD _ D4 (by omega) (by omega)).mono ?_
              rintro e w5 ⟨j, rfl, j0, j1, D5, G5⟩
              have hown5 := hown4.pick G5 D4.at_
              clear D4 hown4 G5
              obtain ⟨J, rfl⟩ := Int.eq_ofNat_of_zero_le j0
              have hJ : J < j := by omega
              go_wp2_with fail
              refine (pickD _ (D5.alloc _) (by omega) (by omega)).mono ?_
              rintro e w6 ⟨r, rfl, r0, r1, D6, G6⟩
              obtain ⟨R, rfl⟩ := Int.eq_ofNat_of_zero_le r0
              have hR : R < 3 := by omega
              have hs5 := D5.size
              have hc := lit_cell (zs := [-1, 99, 100]) G6 (by have := D5.at_; omega) (i := R) hR
              generalize ([-1, 99, 100] : List Int)[R]'hR = x at hc
              have hown6 := (hown5.alloc _).pick G6 D5.at_
              have hJl : J < zs.length := by rw [hown6.len]; exact hJ
              have hcell := hown6.cell hJl
              have hfr := hown6.frozen J
              have HO := Lib.hid (hown6.set J x)
              have HD := Lib.hid (D6.set hga J (.int .i64 x))
              clear D5 hown5 G6 hown6
              generalize zs[J] = y at *
              go_wp2_with fail
              go_ret
              exact ⟨_, ca, _, _, rfl, by omega, HO.out, HD.out⟩
            · have ht2' : (t2 == 0) = false := by simpa using ht2
              have HO := Lib.hid hown4
              have HD := Lib.hid D4
              clear hown4 D4
              go_wp2_with fail
              go_ret
              exact ⟨_, ca, _, _, rfl, by omega, HO.out, HD.out⟩
      · have ht' : (t == 0) = false := by simpa using ht
        have hown := hown3
        have D := D3
        clear hown3 D3
        go_wp2_with fail
        refine (pickD _ D (by omega) (by omega)).mono ?_
        rintro e w4 ⟨t2, rfl, t20, t21, D4, G4⟩
        have hown4 := hown.pick G4 D.at_
        clear D hown G4
        by_cases ht2 : t2 = 0
        · subst ht2
          go_wp2_with fail
          refine (pickD _ D4 (by omega) (by omega)).mono ?_
          rintro e w5 ⟨j, rfl, j0, j1, D5, G5⟩
          have hown5 := hown4.pick G5 D4.at_
          clear D4 hown4 G5
          obtain ⟨J, rfl⟩ := Int.eq_ofNat_of_zero_le j0
          have hJ : J < k := by omega
          go_wp2_with fail
          refine (pickD _ (D5.alloc _) (by omega) (by omega)).mono ?_
          rintro e w6 ⟨r, rfl, r0, r1, D6, G6⟩
          obtain ⟨R, rfl⟩ := Int.eq_ofNat_of_zero_le r0
          have hR : R < 3 := by omega
          have hs5 := D5.size
          have hc := lit_cell (zs := [-1, 99, 100]) G6 (by have := D5.at_; omega) (i := R) hR
          generalize ([-1, 99, 100] : List Int)[R]'hR = x at hc
          have hown6 := (hown5.alloc _).pick G6 D5.at_
          have hJl : J < zs.length := by rw [hown6.len]; exact hJ
          have hcell := hown6.cell hJl
          have hfr := hown6.frozen J
          have HO := Lib.hid (hown6.set J x)
          have HD := Lib.hid (D6.set hga J (.int .i64 x))
          clear D5 hown5 G6 hown6
          generalize zs[J] = y at *
          go_wp2_with fail
          go_ret
          exact ⟨_, ca, _, _, rfl, by omega, HO.out, HD.out⟩
        · have ht2' : (t2 == 0) = false := by simpa using ht2
          have HO := Lib.hid hown4
          have HD := Lib.hid D4
          clear hown4 D4
          go_wp2_with fail
          go_ret
          exact ⟨_, ca, _, _, rfl, by omega, HO.out, HD.out⟩

end Go.Proofs.Ytjanmgiliooocaa
