/- What is drawn for the laws on DistrictLevel. The conditions stand in each theorem. -/
import Derived.Test.YtjanmgiliooocaaE13
import Derived.Test.YtjanmgiliooocaaE14
import Derived.Test.YtjanmgiliooocaaRegD
namespace Go.Proofs.Ytjanmgiliooocaa
open Go.RowKit Go.ChangeShapes
open Man
set_option linter.unusedVariables false

theorem RR.trans {g : Nat} {a b c : World} (h : RR g a b) (k : RR g b c) : RR g a c := ⟨Nat.le_trans h.1 k.1, fun x hx hne => (k.2 x (Nat.lt_of_lt_of_le hx h.1) hne).trans (h.2 x hx hne)⟩
def GotDS (w : World) (e : Ending) (w' : World) : Prop :=
  ∃ (A : Option Addr) (k c : Nat) (rs : List Sl) (s me : Int) (Lo : Option Addr) (l f : Nat) (lots : List Int), e = .returned (.tuple #[.slice A k c, .int .i64 s, .int .i64 me, .slice Lo l f]) ∧ rs.length = k ∧ k ≤ 12 ∧ Mat w' w'.heap.size A rs ∧
    lots.length = l ∧ l ≤ 5 ∧ l ≤ f ∧ f ≤ maxLen ∧ Row w' w'.heap.size Lo (lots.map (Value.int .i64)) ∧ Below w.heap.size w w'
theorem got_of {w W : World} {B k c l f : Nat} {A Lo : Option Addr} {qs : List Sl} {lots : List Int} {z me : Int} (hR : Rows W B (.slice A k c) qs) (hL : OwnI W B (.slice Lo l f) l lots) (hq : k ≤ 12) (hl : l ≤ 5) (hb : Below w.heap.size w W) :
    GotDS w (.returned (.tuple #[.slice A k c, .int .i64 z, .int .i64 me, .slice Lo l f])) W :=
  ⟨A, k, c, qs, z, me, Lo, l, f, lots, rfl, hR.matAt.1.symm, hq, hR.matAt.2.2.2, hL.len, hl, hL.rowAt.1, hL.rowAt.2.1, hL.rowAt.2.2, hb⟩
def TD (g : Nat) (V X : Value) (s : Nat) (w : World) (v : Value) : Prop := match s with
  | 6 | 30 | 34 => TRd g v
  | 7 | 28 | 2 => v = V
  | 9 | 36 | 5 => v = X
  | 29 => TLit g w 3 v
  | 31 => TIdx 3 v
  | 32 => TPtr g w v
  | 33 | 35 | 3 | 4 => TInt v
  | _ => True
def useD : Nat → List Nat
  | 0 => [7]
  | 2 | 6 => [6]
  | 3 => [30]
  | 4 => [29, 31]
  | 5 => [32]
  | 7 => [34]
  | 8 => [9]
  | 9 => [28]
  | 10 => [33]
  | 11 => [35]
  | 12 => [36]
  | _ => []
theorem TD.keep {g s : Nat} {V X : Value} {w w' : World} {v : Value} (hr : RR g w w') (h : TD g V X s w v) : TD g V X s w' v := by
  unfold TD at h ⊢
  split at h <;> first | exact h | exact h.keep hr

set_option maxHeartbeats 8000000 in
theorem DrawDistrictSeats_any (a : Option Addr) (len cap : Nat) (zs : List Int) (w : World) (h : IsRow .u8 w a len cap zs) :
    Calls Try.prog 22 #[.slice a len cap] w (GotDS w) := by
  go_enter Try.func22, Try.ntmps22
  go_wp2_with fail
  refine (open_any _ _ _ _ _ h).mono ?_
  rintro e w1 ⟨g, rfl, I⟩
  have hg1 := I.rd.lt_
  clear h
  go_wp2_with fail
  refine (l93Districts_any I (by omega)).mono ?_
  rintro e w2 ⟨u, qs, q2, rfl, hq12, hq2, hR2, D2⟩
  clear I
  obtain ⟨A, c, rfl, hc1, hc2, hM⟩ := hR2.mat
  have HQ12 := Lib.hid hq12
  have HIN : Hid (w1.heap.size ≤ w2.heap.size) := D2.size
  obtain ⟨k0, hk0⟩ : ∃ k0, k0 = qs.length := ⟨_, rfl⟩
  rw [← hk0] at hR2 hc1 HQ12 hq12 ⊢
  by_cases hk : 0 < k0
  · have h00 : 0 < qs.length := by omega
    obtain ⟨bb, off, hA, _, hcell⟩ := hM.at_ h00
    have hn6 := (hR2.row _ (List.getElem_mem h00)).2
    rw [Nat.add_zero] at hcell
    generalize qs[0].A = A0 at *
    generalize qs[0].c = C0 at *
    generalize qs[0].n = n0 at *
    subst hA
    clear hM hk0 h00
    go_wp2_with fail
    clear hcell
    refine (l91Lots_any D2.I (by omega) n0 (by omega)).mono ?_
    rintro e w3 ⟨Lo, l, f, lots, q3, rfl, hl5, hq3, hL3, D3⟩
    have hR3 := hR2.pick D3.K hg1
    have hL3' := OwnI.from_ hL3 D2.size
    have I3 := D3.I
    have hq12 := HQ12.out
    clear hR2 D2 D3 hL3
    go_wp2_with fail
    refine (pickI _ I3 (by omega) (by omega)).mono ?_
    rintro e w4 ⟨t, rfl, t0, t1, I4, G4⟩
    have HR4 := Lib.hid (hR3.pick G4 hg1)
    have HL4 := Lib.hid (hL3'.pick G4 hg1)
    clear I3 G4 hR3 hL3'
    by_cases ht : t = 0
    · subst ht
      go_wp2_with fail
      have J0 : JR 13 w g 0 w4.drew ∧ RR g w4 w4.drew := ⟨⟨_, by omega, I4.drew⟩, ⟨Nat.le_refl _, fun _ _ _ => rfl⟩⟩
      clear t0 t1 I4
      refine region_typed (by kernel_rfl) (TD g (.slice (some ⟨bb, off, none⟩) k0 c) (.slice Lo l f)) (fun k W => JR 13 w g k W ∧ RR g w4 W) (RR g) (fun s => s == 6 || s == 7 || s == 9) useD (fun s w w' v hr h => h.keep hr) (by kernel_rfl) ?_ J0 ?_ ?_
      · intro i o k b W ho hk hJ hu K hK
        match i, ho with
        | 0, ho =>
          injection ho with ho
          subst ho
          have h1 : (b.tmps.getD 7 undef) = Value.slice (some ⟨bb, off, none⟩) k0 c := hu 7 (by simp [useD])
          go_simp
          exact hK _ _ (RR.refl g W) ⟨hJ.1.next, hJ.2⟩ (fun d hd => by injection hd with hd; subst hd; exact rfl)
        | 1, ho =>
          injection ho with ho
          subst ho
          go_simp
          exact hK _ _ (RR.alloc g W _) ⟨hJ.1.alloc _, hJ.2.trans (RR.alloc g W _)⟩ (fun d hd => by injection hd with hd; subst hd; exact TLit.new [-1, 20, 21] rfl hJ.1.lt)
        | 2, ho =>
          injection ho with ho
          subst ho
          have h1 : TRd g (b.tmps.getD 6 undef) := hu 6 (by simp [useD])
          unfold TRd at h1
          go_simp
          exact hK _ _ (RR.refl g W) ⟨hJ.1.next, hJ.2⟩ (fun d hd => by injection hd with hd; subst hd; exact rfl)
        | 3, ho =>
          injection ho with ho
          subst ho
          have h1 : TRd g (b.tmps.getD 30 undef) := hu 30 (by simp [useD])
          unfold TRd at h1
          have hk' : k < 13 := hk
          go_simp
          refine (pickJ _ hJ.1 hk' (by omega)).mono ?_
          rintro e W' ⟨r, rfl, r0, r1, hJ', hR⟩
          exact hK _ _ hR ⟨hJ', hJ.2.trans hR⟩ (fun d hd => by injection hd with hd; subst hd; exact ⟨r, rfl, r0, by omega⟩)
        | 4, ho =>
          injection ho with ho
          subst ho
          obtain ⟨bb, h16, hint⟩ : TLit g W 3 (b.tmps.getD 29 undef) := hu 29 (by simp [useD])
          obtain ⟨r, h18, r0, r1⟩ : TIdx 3 (b.tmps.getD 31 undef) := hu 31 (by simp [useD])
          have HI := Lib.hid (hint r.toNat (by omega))
          clear hint
          go_simp
          exact hK _ _ (RR.refl g W) ⟨hJ.1.next, hJ.2⟩ (fun d hd => by injection hd with hd; subst hd; exact ⟨bb, r.toNat, rfl, HI.out⟩)
        | 5, ho =>
          injection ho with ho
          subst ho
          obtain ⟨bb, ii, h19, hne, hlt, z, hz⟩ : TPtr g W (b.tmps.getD 32 undef) := hu 32 (by simp [useD])
          go_simp
          exact hK _ _ (RR.refl g W) ⟨hJ.1.next, hJ.2⟩ (fun d hd => by injection hd with hd; subst hd; exact ⟨z, rfl⟩)
        | 6, ho =>
          injection ho with ho
          subst ho
          have h1 : TRd g (b.tmps.getD 6 undef) := hu 6 (by simp [useD])
          unfold TRd at h1
          go_simp
          exact hK _ _ (RR.refl g W) ⟨hJ.1.next, hJ.2⟩ (fun d hd => by injection hd with hd; subst hd; exact rfl)
        | 7, ho =>
          injection ho with ho
          subst ho
          have h1 : TRd g (b.tmps.getD 34 undef) := hu 34 (by simp [useD])
          unfold TRd at h1
          have hk' : k < 13 := hk
          go_simp
          refine (pickJ _ hJ.1 hk' (by omega)).mono ?_
          rintro e W' ⟨r, rfl, r0, r1, hJ', hR⟩
          exact hK _ _ hR ⟨hJ', hJ.2.trans hR⟩ (fun d hd => by injection hd with hd; subst hd; exact ⟨r, rfl⟩)
        | 8, ho =>
          injection ho with ho
          subst ho
          have h1 : (b.tmps.getD 9 undef) = Value.slice Lo l f := hu 9 (by simp [useD])
          go_simp
          exact hK _ _ (RR.refl g W) ⟨hJ.1.next, hJ.2⟩ (fun d hd => by injection hd with hd; subst hd; exact rfl)
        | 9, ho =>
          injection ho with ho
          subst ho
          have h1 : (b.tmps.getD 28 undef) = Value.slice (some ⟨bb, off, none⟩) k0 c := hu 28 (by simp [useD])
          go_simp
          exact hK _ _ (RR.refl g W) ⟨hJ.1.next, hJ.2⟩ (fun d hd => by injection hd with hd; subst hd; exact rfl)
        | 10, ho =>
          injection ho with ho
          subst ho
          obtain ⟨z, hz⟩ : TInt (b.tmps.getD 33 undef) := hu 33 (by simp [useD])
          go_simp
          exact hK _ _ (RR.refl g W) ⟨hJ.1.next, hJ.2⟩ (fun d hd => by injection hd with hd; subst hd; exact ⟨z, rfl⟩)
        | 11, ho =>
          injection ho with ho
          subst ho
          obtain ⟨z, hz⟩ : TInt (b.tmps.getD 35 undef) := hu 35 (by simp [useD])
          go_simp
          exact hK _ _ (RR.refl g W) ⟨hJ.1.next, hJ.2⟩ (fun d hd => by injection hd with hd; subst hd; exact ⟨z, rfl⟩)
        | 12, ho =>
          injection ho with ho
          subst ho
          have h1 : (b.tmps.getD 36 undef) = Value.slice Lo l f := hu 36 (by simp [useD])
          go_simp
          exact hK _ _ (RR.refl g W) ⟨hJ.1.next, hJ.2⟩ (fun d hd => by injection hd with hd; subst hd; exact rfl)
        | i + 13, ho => exact absurd (Array.getElem?_eq_some_iff.1 ho).1 (by simp)
      · intro s hs
        have : s = 6 ∨ s = 7 ∨ s = 9 := by
          simp at hs
          omega
        rcases this with rfl | rfl | rfl <;> exact rfl
      · intro b W k hJ hsz hdf hT
        have h2 : b.tmps.getD 2 undef = .slice (some ⟨bb, off, none⟩) k0 c := hT 2 (.inr ⟨9, _, rfl, rfl⟩)
        obtain ⟨z3, h3⟩ : TInt (b.tmps.getD 3 undef) := hT 3 (.inr ⟨10, _, rfl, rfl⟩)
        obtain ⟨z4, h4⟩ : TInt (b.tmps.getD 4 undef) := hT 4 (.inr ⟨11, _, rfl, rfl⟩)
        have h5 : b.tmps.getD 5 undef = .slice Lo l f := hT 5 (.inr ⟨12, _, rfl, rfl⟩)
        obtain ⟨⟨p, _, I9⟩, hRR⟩ := hJ
        have hR9 : Rows W w1.heap.size (.slice (some ⟨bb, off, none⟩) k0 c) qs := HR4.out.keep hRR.1 (fun bb hbb hlt => hRR.2 bb hlt (by omega))
        have hL9 : OwnI W w1.heap.size (.slice Lo l f) l lots := own_keep HL4.out (fun bb hbb hlt => hRR.2 bb hlt (by omega))
        have HFIN := Lib.hid (got_of (z := z3) (me := z4) hR9 hL9 hq12 hl5 I9.bel)
        clear hT hR9 hL9 HR4 HL4
        rw [Array.getD_eq_getD_getElem?] at h2 h3 h4 h5
        go_wp2_with fail
        exact bodyPost_ret (v := .tuple #[.slice (some ⟨bb, off, none⟩) k0 c, .int .i64 z3, .int .i64 z4, .slice Lo l f]) (by simp [results, Try.results22, go_sem, h2, h3, h4, h5]) hdf HFIN.out
    · have ht' : (t == 0) = false := by simpa using ht
      go_wp2_with fail
      refine (pickI _ I4 (by omega) (by omega)).mono ?_
      rintro e w5 ⟨s5, rfl, s50, s51, I5, G5⟩
      have HR5 := Lib.hid (HR4.out.pick G5 hg1)
      have HL5 := Lib.hid (HL4.out.pick G5 hg1)
      clear G5 I4
      go_wp2_with fail
      refine (pickI _ I5 (by omega) (by omega)).mono ?_
      rintro e w6 ⟨m6, rfl, m60, m61, I6, G6⟩
      have HFIN := Lib.hid (got_of (z := s5) (me := 1 + m6) (HR5.out.pick G6 hg1) (HL5.out.pick G6 hg1) hq12 hl5 I6.bel)
      clear G6 I5
      go_wp2_with fail
      exact bodyPost_ret (v := .tuple #[.slice (some ⟨bb, off, none⟩) k0 c, .int .i64 s5, .int .i64 (1 + m6), .slice Lo l f]) (by simp [results, Try.results22, go_sem]) rfl HFIN.out
  · have hk0' : k0 = 0 := by omega
    subst hk0'
    clear hM hk hk0
    go_wp2_with fail
    refine (l91Lots_any D2.I (by omega) 3 (by omega)).mono ?_
    rintro e w3 ⟨Lo, l, f, lots, q3, rfl, hl5, hq3, hL3, D3⟩
    have hR3 := hR2.pick D3.K hg1
    have hL3' := OwnI.from_ hL3 D2.size
    have I3 := D3.I
    have hq12 := HQ12.out
    clear hR2 D2 D3 hL3
    go_wp2_with fail
    refine (pickI _ I3 (by omega) (by omega)).mono ?_
    rintro e w4 ⟨t, rfl, t0, t1, I4, G4⟩
    have HR4 := Lib.hid (hR3.pick G4 hg1)
    have HL4 := Lib.hid (hL3'.pick G4 hg1)
    clear I3 G4 hR3 hL3'
    by_cases ht : t = 0
    · subst ht
      go_wp2_with fail
      have J0 : JR 13 w g 0 w4.drew ∧ RR g w4 w4.drew := ⟨⟨_, by omega, I4.drew⟩, ⟨Nat.le_refl _, fun _ _ _ => rfl⟩⟩
      clear t0 t1 I4
      refine region_typed (by kernel_rfl) (TD g (.slice A 0 c) (.slice Lo l f)) (fun k W => JR 13 w g k W ∧ RR g w4 W) (RR g) (fun s => s == 6 || s == 7 || s == 9) useD (fun s w w' v hr h => h.keep hr) (by kernel_rfl) ?_ J0 ?_ ?_
      · intro i o k b W ho hk hJ hu K hK
        match i, ho with
        | 0, ho =>
          injection ho with ho
          subst ho
          have h1 : (b.tmps.getD 7 undef) = Value.slice A 0 c := hu 7 (by simp [useD])
          go_simp
          exact hK _ _ (RR.refl g W) ⟨hJ.1.next, hJ.2⟩ (fun d hd => by injection hd with hd; subst hd; exact rfl)
        | 1, ho =>
          injection ho with ho
          subst ho
          go_simp
          exact hK _ _ (RR.alloc g W _) ⟨hJ.1.alloc _, hJ.2.trans (RR.alloc g W _)⟩ (fun d hd => by injection hd with hd; subst hd; exact TLit.new [-1, 20, 21] rfl hJ.1.lt)
        | 2, ho =>
          injection ho with ho
          subst ho
          have h1 : TRd g (b.tmps.getD 6 undef) := hu 6 (by simp [useD])
          unfold TRd at h1
          go_simp
          exact hK _ _ (RR.refl g W) ⟨hJ.1.next, hJ.2⟩ (fun d hd => by injection hd with hd; subst hd; exact rfl)
        | 3, ho =>
          injection ho with ho
          subst ho
          have h1 : TRd g (b.tmps.getD 30 undef) := hu 30 (by simp [useD])
          unfold TRd at h1
          have hk' : k < 13 := hk
          go_simp
          refine (pickJ _ hJ.1 hk' (by omega)).mono ?_
          rintro e W' ⟨r, rfl, r0, r1, hJ', hR⟩
          exact hK _ _ hR ⟨hJ', hJ.2.trans hR⟩ (fun d hd => by injection hd with hd; subst hd; exact ⟨r, rfl, r0, by omega⟩)
        | 4, ho =>
          injection ho with ho
          subst ho
          obtain ⟨bb, h16, hint⟩ : TLit g W 3 (b.tmps.getD 29 undef) := hu 29 (by simp [useD])
          obtain ⟨r, h18, r0, r1⟩ : TIdx 3 (b.tmps.getD 31 undef) := hu 31 (by simp [useD])
          have HI := Lib.hid (hint r.toNat (by omega))
          clear hint
          go_simp
          exact hK _ _ (RR.refl g W) ⟨hJ.1.next, hJ.2⟩ (fun d hd => by injection hd with hd; subst hd; exact ⟨bb, r.toNat, rfl, HI.out⟩)
        | 5, ho =>
          injection ho with ho
          subst ho
          obtain ⟨bb, ii, h19, hne, hlt, z, hz⟩ : TPtr g W (b.tmps.getD 32 undef) := hu 32 (by simp [useD])
          go_simp
          exact hK _ _ (RR.refl g W) ⟨hJ.1.next, hJ.2⟩ (fun d hd => by injection hd with hd; subst hd; exact ⟨z, rfl⟩)
        | 6, ho =>
          injection ho with ho
          subst ho
          have h1 : TRd g (b.tmps.getD 6 undef) := hu 6 (by simp [useD])
          unfold TRd at h1
          go_simp
          exact hK _ _ (RR.refl g W) ⟨hJ.1.next, hJ.2⟩ (fun d hd => by injection hd with hd; subst hd; exact rfl)
        | 7, ho =>
          injection ho with ho
          subst ho
          have h1 : TRd g (b.tmps.getD 34 undef) := hu 34 (by simp [useD])
          unfold TRd at h1
          have hk' : k < 13 := hk
          go_simp
          refine (pickJ _ hJ.1 hk' (by omega)).mono ?_
          rintro e W' ⟨r, rfl, r0, r1, hJ', hR⟩
          exact hK _ _ hR ⟨hJ', hJ.2.trans hR⟩ (fun d hd => by injection hd with hd; subst hd; exact ⟨r, rfl⟩)
        | 8, ho =>
          injection ho with ho
          subst ho
          have h1 : (b.tmps.getD 9 undef) = Value.slice Lo l f := hu 9 (by simp [useD])
          go_simp
          exact hK _ _ (RR.refl g W) ⟨hJ.1.next, hJ.2⟩ (fun d hd => by injection hd with hd; subst hd; exact rfl)
        | 9, ho =>
          injection ho with ho
          subst ho
          have h1 : (b.tmps.getD 28 undef) = Value.slice A 0 c := hu 28 (by simp [useD])
          go_simp
          exact hK _ _ (RR.refl g W) ⟨hJ.1.next, hJ.2⟩ (fun d hd => by injection hd with hd; subst hd; exact rfl)
        | 10, ho =>
          injection ho with ho
          subst ho
          obtain ⟨z, hz⟩ : TInt (b.tmps.getD 33 undef) := hu 33 (by simp [useD])
          go_simp
          exact hK _ _ (RR.refl g W) ⟨hJ.1.next, hJ.2⟩ (fun d hd => by injection hd with hd; subst hd; exact ⟨z, rfl⟩)
        | 11, ho =>
          injection ho with ho
          subst ho
          obtain ⟨z, hz⟩ : TInt (b.tmps.getD 35 undef) := hu 35 (by simp [useD])
          go_simp
          exact hK _ _ (RR.refl g W) ⟨hJ.1.next, hJ.2⟩ (fun d hd => by injection hd with hd; subst hd; exact ⟨z, rfl⟩)
        | 12, ho =>
          injection ho with ho
          subst ho
          have h1 : (b.tmps.getD 36 undef) = Value.slice Lo l f := hu 36 (by simp [useD])
          go_simp
          exact hK _ _ (RR.refl g W) ⟨hJ.1.next, hJ.2⟩ (fun d hd => by injection hd with hd; subst hd; exact rfl)
        | i + 13, ho => exact absurd (Array.getElem?_eq_some_iff.1 ho).1 (by simp)
      · intro s hs
        have : s = 6 ∨ s = 7 ∨ s = 9 := by
          simp at hs
          omega
        rcases this with rfl | rfl | rfl <;> exact rfl
      · intro b W k hJ hsz hdf hT
        have h2 : b.tmps.getD 2 undef = .slice A 0 c := hT 2 (.inr ⟨9, _, rfl, rfl⟩)
        obtain ⟨z3, h3⟩ : TInt (b.tmps.getD 3 undef) := hT 3 (.inr ⟨10, _, rfl, rfl⟩)
        obtain ⟨z4, h4⟩ : TInt (b.tmps.getD 4 undef) := hT 4 (.inr ⟨11, _, rfl, rfl⟩)
        have h5 : b.tmps.getD 5 undef = .slice Lo l f := hT 5 (.inr ⟨12, _, rfl, rfl⟩)
        obtain ⟨⟨p, _, I9⟩, hRR⟩ := hJ
        have hR9 : Rows W w1.heap.size (.slice A 0 c) qs := HR4.out.keep hRR.1 (fun bb hbb hlt => hRR.2 bb hlt (by omega))
        have hL9 : OwnI W w1.heap.size (.slice Lo l f) l lots := own_keep HL4.out (fun bb hbb hlt => hRR.2 bb hlt (by omega))
        have HFIN := Lib.hid (got_of (z := z3) (me := z4) hR9 hL9 hq12 hl5 I9.bel)
        clear hT hR9 hL9 HR4 HL4
        rw [Array.getD_eq_getD_getElem?] at h2 h3 h4 h5
        go_wp2_with fail
        exact bodyPost_ret (v := .tuple #[.slice A 0 c, .int .i64 z3, .int .i64 z4, .slice Lo l f]) (by simp [results, Try.results22, go_sem, h2, h3, h4, h5]) hdf HFIN.out
    · have ht' : (t == 0) = false := by simpa using ht
      go_wp2_with fail
      refine (pickI _ I4 (by omega) (by omega)).mono ?_
      rintro e w5 ⟨s5, rfl, s50, s51, I5, G5⟩
      have HR5 := Lib.hid (HR4.out.pick G5 hg1)
      have HL5 := Lib.hid (HL4.out.pick G5 hg1)
      clear G5 I4
      go_wp2_with fail
      refine (pickI _ I5 (by omega) (by omega)).mono ?_
      rintro e w6 ⟨m6, rfl, m60, m61, I6, G6⟩
      have HFIN := Lib.hid (got_of (z := s5) (me := 1 + m6) (HR5.out.pick G6 hg1) (HL5.out.pick G6 hg1) hq12 hl5 I6.bel)
      clear G6 I5
      go_wp2_with fail
      exact bodyPost_ret (v := .tuple #[.slice A 0 c, .int .i64 s5, .int .i64 (1 + m6), .slice Lo l f]) (by simp [results, Try.results22, go_sem]) rfl HFIN.out

def GotDL (w : World) (e : Ending) (w' : World) : Prop :=
  ∃ (A : Option Addr) (k c : Nat) (rs : List Sl) (s fu me : Int) (Lo : Option Addr) (l f : Nat) (lots : List Int), e = .returned (.tuple #[.slice A k c, .int .i64 s, .int .i64 fu, .int .i64 me, .slice Lo l f]) ∧ rs.length = k ∧ k ≤ 12 ∧ Mat w' w'.heap.size A rs ∧
    0 ≤ fu ∧ fu ≤ 10 ∧ lots.length = l ∧ l ≤ 5 ∧ l ≤ f ∧ f ≤ maxLen ∧ Row w' w'.heap.size Lo (lots.map (Value.int .i64)) ∧ Below w.heap.size w w'
set_option maxHeartbeats 2000000 in
theorem DrawDistrictLevel_any (a : Option Addr) (len cap : Nat) (zs : List Int) (w : World) (h : IsRow .u8 w a len cap zs) (hlen : len ≤ 1048576) :
    Calls Try.prog 7 #[.slice a len cap] w (GotDL w) := by
  have HC := Lib.hid (DrawDistrictSeats_any a len cap zs w h)
  have m0 : 0 ≤ (len : Int) % 11 := by omega
  have m1 : (len : Int) % 11 ≤ 10 := by omega
  clear h
  go_enter Try.func7, Try.ntmps7
  go_wp2_with fail
  refine HC.out.mono ?_
  rintro e w2 ⟨A, k, c, rs, s, me, Lo, l, f, lots, rfl, h1, h2, h3, h4, h5, h6, h7, h8, h9⟩
  have HF : ∀ s' : Int, GotDL w (.returned (.tuple #[.slice A k c, .int .i64 s', .int .i64 ((len : Int) % 11), .int .i64 me, .slice Lo l f])) w2 := fun s' => ⟨A, k, c, rs, s', _, me, Lo, l, f, lots, rfl, h1, h2, h3, m0, m1, h4, h5, h6, h7, h8, h9⟩
  have HF2 := Lib.hid HF
  clear HC h1 h3 h4 h6 h7 h8 h9 HF
  by_cases hs : 2 < s
  · by_cases hev : len % 2 = 0
    · have e0 : (((len : Int) % 2) == 0) = true := by simp; omega
      go_wp2_with fail
      exact bodyPost_ret (v := .tuple #[.slice A k c, .int .i64 2, .int .i64 ((len : Int) % 11), .int .i64 me, .slice Lo l f]) (by simp [results, Try.results7, go_sem]) rfl (HF2.out _)
    · have e0 : (((len : Int) % 2) == 0) = false := by simp; omega
      go_wp2_with fail
      exact bodyPost_ret (v := .tuple #[.slice A k c, .int .i64 s, .int .i64 ((len : Int) % 11), .int .i64 me, .slice Lo l f]) (by simp [results, Try.results7, go_sem]) rfl (HF2.out _)
  · go_wp2_with fail
    exact bodyPost_ret (v := .tuple #[.slice A k c, .int .i64 s, .int .i64 ((len : Int) % 11), .int .i64 me, .slice Lo l f]) (by simp [results, Try.results7, go_sem]) rfl (HF2.out _)

end Go.Proofs.Ytjanmgiliooocaa
