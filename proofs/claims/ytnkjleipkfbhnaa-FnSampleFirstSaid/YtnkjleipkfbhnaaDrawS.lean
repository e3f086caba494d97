/- What is drawn for the laws on SampleOf. The conditions stand in each theorem. -/
import Derived.Test.YtnkjleipkfbhnaaRegD
namespace Go.Proofs.Ytnkjleipkfbhnaa
open Go.RowKit Go.ChangeShapes
set_option linter.unusedVariables false

def Got3 (w : World) (e : Ending) (w' : World) : Prop := ∃ a b c : Int, e = .returned (.tuple #[.int .i64 a, .int .i64 b, .int .i64 c]) ∧ Below w.heap.size w w'
def TS (g s : Nat) (w : World) (v : Value) : Prop := match s with
  | 5 | 17 | 21 | 24 => TRd g v
  | 16 => TLit g w 3 v
  | 18 => TIdx 3 v
  | 19 | 26 => TPtr g w v
  | 23 => TLit g w 4 v
  | 25 => TIdx 4 v
  | 2 | 3 | 4 | 20 | 22 | 27 => TInt v
  | _ => True
def useS : Nat → List Nat
  | 1 | 5 | 8 => [5]
  | 2 => [17]
  | 3 => [16, 18]
  | 4 => [19]
  | 6 => [21]
  | 9 => [24]
  | 10 => [23, 25]
  | 11 => [26]
  | 12 => [20]
  | 13 => [22]
  | 14 => [27]
  | _ => []
theorem TS.keep {g s : Nat} {w w' : World} {v : Value} (hr : RR g w w') (h : TS g s w v) : TS g s w' v := by
  unfold TS at h ⊢
  split at h <;> first | exact h | exact h.keep hr

set_option maxHeartbeats 1000000 in
theorem DrawSampleOf_any (a : Option Addr) (len cap : Nat) (zs : List Int) (w : World) (h : IsRow .u8 w a len cap zs) :
    Calls Try.prog 29 #[.slice a len cap] w (Got3 w) := by
  go_enter Try.func29, Try.ntmps29
  go_wp2_with fail
  refine (open_any _ _ _ _ _ h).mono ?_
  rintro e w1 ⟨g, rfl, I⟩
  clear h
  go_wp2_with fail
  refine (pickI _ I (by omega) (by omega)).mono ?_
  rintro e w2 ⟨n, rfl, n0, n1, I2, G2⟩
  clear I G2
  go_wp2_with fail
  refine (pickI _ I2 (by omega) (by omega)).mono ?_
  rintro e w3 ⟨t, rfl, t0, t1, I3, G3⟩
  clear I2 G3
  by_cases ht : t = 0
  · subst ht
    go_wp2_with fail
    have J0 : JR 15 w g 0 w3.drew := ⟨_, by omega, I3.drew⟩
    clear t0 t1 I3
    refine region_typed (by kernel_rfl) (TS g) (JR 15 w g) (RR g) (fun s => s == 5) useS (fun s w w' v hr h => h.keep hr) (by kernel_rfl) ?_ J0 ?_ ?_
    · intro i o k b W ho hk hJ hu K hK
      match i, ho with
      | 0, ho =>
        injection ho with ho
        subst ho
        go_simp
        exact hK _ _ (RR.alloc g W _) (hJ.alloc _) (fun d hd => by injection hd with hd; subst hd; exact TLit.new [0, 99, 100] rfl hJ.lt)
      | 1, ho =>
        injection ho with ho
        subst ho
        have h1 : TRd g (b.tmps.getD 5 undef) := hu 5 (by simp [useS])
        unfold TRd at h1
        go_simp
        exact hK _ _ (RR.refl g W) hJ.next (fun d hd => by injection hd with hd; subst hd; exact rfl)
      | 2, ho =>
        injection ho with ho
        subst ho
        have h1 : TRd g (b.tmps.getD 17 undef) := hu 17 (by simp [useS])
        unfold TRd at h1
        have hk' : k < 15 := hk
        go_simp
        refine (pickJ _ hJ hk' (by omega)).mono ?_
        rintro e W' ⟨r, rfl, r0, r1, hJ', hR⟩
        exact hK _ _ hR hJ' (fun d hd => by injection hd with hd; subst hd; exact ⟨r, rfl, r0, by omega⟩)
      | 3, ho =>
        injection ho with ho
        subst ho
        obtain ⟨bb, h16, hint⟩ : TLit g W 3 (b.tmps.getD 16 undef) := hu 16 (by simp [useS])
        obtain ⟨r, h18, r0, r1⟩ : TIdx 3 (b.tmps.getD 18 undef) := hu 18 (by simp [useS])
        have HI := Lib.hid (hint r.toNat (by omega))
        clear hint
        go_simp
        exact hK _ _ (RR.refl g W) hJ.next (fun d hd => by injection hd with hd; subst hd; exact ⟨bb, r.toNat, rfl, HI.out⟩)
      | 4, ho =>
        injection ho with ho
        subst ho
        obtain ⟨bb, ii, h19, hne, hlt, z, hz⟩ : TPtr g W (b.tmps.getD 19 undef) := hu 19 (by simp [useS])
        go_simp
        exact hK _ _ (RR.refl g W) hJ.next (fun d hd => by injection hd with hd; subst hd; exact ⟨z, rfl⟩)
      | 5, ho =>
        injection ho with ho
        subst ho
        have h1 : TRd g (b.tmps.getD 5 undef) := hu 5 (by simp [useS])
        unfold TRd at h1
        go_simp
        exact hK _ _ (RR.refl g W) hJ.next (fun d hd => by injection hd with hd; subst hd; exact rfl)
      | 6, ho =>
        injection ho with ho
        subst ho
        have h1 : TRd g (b.tmps.getD 21 undef) := hu 21 (by simp [useS])
        unfold TRd at h1
        have hk' : k < 15 := hk
        go_simp
        refine (pickJ _ hJ hk' (by omega)).mono ?_
        rintro e W' ⟨r, rfl, r0, r1, hJ', hR⟩
        exact hK _ _ hR hJ' (fun d hd => by injection hd with hd; subst hd; exact ⟨r, rfl⟩)
      | 7, ho =>
        injection ho with ho
        subst ho
        go_simp
        exact hK _ _ (RR.alloc g W _) (hJ.alloc _) (fun d hd => by injection hd with hd; subst hd; exact TLit.new [-1, 0, 999, 1000] rfl hJ.lt)
      | 8, ho =>
        injection ho with ho
        subst ho
        have h1 : TRd g (b.tmps.getD 5 undef) := hu 5 (by simp [useS])
        unfold TRd at h1
        go_simp
        exact hK _ _ (RR.refl g W) hJ.next (fun d hd => by injection hd with hd; subst hd; exact rfl)
      | 9, ho =>
        injection ho with ho
        subst ho
        have h1 : TRd g (b.tmps.getD 24 undef) := hu 24 (by simp [useS])
        unfold TRd at h1
        have hk' : k < 15 := hk
        go_simp
        refine (pickJ _ hJ hk' (by omega)).mono ?_
        rintro e W' ⟨r, rfl, r0, r1, hJ', hR⟩
        exact hK _ _ hR hJ' (fun d hd => by injection hd with hd; subst hd; exact ⟨r, rfl, r0, by omega⟩)
      | 10, ho =>
        injection ho with ho
        subst ho
        obtain ⟨bb, h16, hint⟩ : TLit g W 4 (b.tmps.getD 23 undef) := hu 23 (by simp [useS])
        obtain ⟨r, h18, r0, r1⟩ : TIdx 4 (b.tmps.getD 25 undef) := hu 25 (by simp [useS])
        have HI := Lib.hid (hint r.toNat (by omega))
        clear hint
        go_simp
        exact hK _ _ (RR.refl g W) hJ.next (fun d hd => by injection hd with hd; subst hd; exact ⟨bb, r.toNat, rfl, HI.out⟩)
      | 11, ho =>
        injection ho with ho
        subst ho
        obtain ⟨bb, ii, h19, hne, hlt, z, hz⟩ : TPtr g W (b.tmps.getD 26 undef) := hu 26 (by simp [useS])
        go_simp
        exact hK _ _ (RR.refl g W) hJ.next (fun d hd => by injection hd with hd; subst hd; exact ⟨z, rfl⟩)
      | 12, ho =>
        injection ho with ho
        subst ho
        obtain ⟨z, hz⟩ : TInt (b.tmps.getD 20 undef) := hu 20 (by simp [useS])
        go_simp
        exact hK _ _ (RR.refl g W) hJ.next (fun d hd => by injection hd with hd; subst hd; exact ⟨z, rfl⟩)
      | 13, ho =>
        injection ho with ho
        subst ho
        obtain ⟨z, hz⟩ : TInt (b.tmps.getD 22 undef) := hu 22 (by simp [useS])
        go_simp
        exact hK _ _ (RR.refl g W) hJ.next (fun d hd => by injection hd with hd; subst hd; exact ⟨z, rfl⟩)
      | 14, ho =>
        injection ho with ho
        subst ho
        obtain ⟨z, hz⟩ : TInt (b.tmps.getD 27 undef) := hu 27 (by simp [useS])
        go_simp
        exact hK _ _ (RR.refl g W) hJ.next (fun d hd => by injection hd with hd; subst hd; exact ⟨z, rfl⟩)
      | i + 15, ho => exact absurd (Array.getElem?_eq_some_iff.1 ho).1 (by simp)
    · intro s hs
      have : s = 5 := by simpa using hs
      subst this
      exact rfl
    · intro b W k hJ hsz hdf hT
      obtain ⟨z2, h2⟩ : TInt (b.tmps.getD 2 undef) := hT 2 (.inr ⟨12, _, rfl, rfl⟩)
      obtain ⟨z3, h3⟩ : TInt (b.tmps.getD 3 undef) := hT 3 (.inr ⟨13, _, rfl, rfl⟩)
      obtain ⟨z4, h4⟩ : TInt (b.tmps.getD 4 undef) := hT 4 (.inr ⟨14, _, rfl, rfl⟩)
      obtain ⟨p, _, I9⟩ := hJ
      clear hT
      rw [Array.getD_eq_getD_getElem?] at h2 h3 h4
      go_wp2_with fail
      exact bodyPost_ret (v := .tuple #[.int .i64 z2, .int .i64 z3, .int .i64 z4]) (by simp [results, Try.results29, go_sem, h2, h3, h4]) hdf ⟨z2, z3, z4, rfl, I9.bel⟩
  · have ht' : (t == 0) = false := by simpa using ht
    go_wp2_with fail
    refine (pickI _ I3 (by omega) (by omega)).mono ?_
    rintro e w4 ⟨m, rfl, m0, m1, I4, G4⟩
    clear G4 I3
    go_wp2_with fail
    refine (pickI _ I4 (by omega) (by omega)).mono ?_
    rintro e w5 ⟨s, rfl, s0, s1, I5, G5⟩
    clear G5 I4
    go_wp2_with fail
    refine bodyPost_ret (v := .tuple #[.int .i64 (1 + n), .int .i64 m, .int .i64 (s * 4)]) (by simp [results, Try.results29, go_sem]) rfl ⟨_, _, _, rfl, I5.bel⟩

end Go.Proofs.Ytnkjleipkfbhnaa
