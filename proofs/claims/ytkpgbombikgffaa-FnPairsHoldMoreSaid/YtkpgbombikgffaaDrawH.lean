/- What is drawn for the laws on PairsHold. The conditions stand in each theorem. -/
import Derived.Test.YtkpgbombikgffaaRegD
import Derived.Test.YtkpgbombikgffaaDrawD3
namespace Go.Proofs.Ytkpgbombikgffaa
open Go.RowKit Go.ChangeShapes
set_option linter.unusedVariables false

theorem RR.trans {g : Nat} {a b c : World} (h : RR g a b) (k : RR g b c) : RR g a c := ⟨Nat.le_trans h.1 k.1, fun x hx hne => (k.2 x (Nat.lt_of_lt_of_le hx h.1) hne).trans (h.2 x hx hne)⟩
def GotPs4 (w : World) (e : Ending) (w' : World) : Prop :=
  ∃ (A : Option Addr) (ps : List Pr) (n c : Nat) (x y m u : Int), e = .returned (.tuple #[.slice A n c, .int .i64 x, .int .i64 y, .int .i64 m, .int .i64 u]) ∧ ps.length = n ∧ n ≤ 21 ∧ (∀ z ∈ ps, shortPr z) ∧ n ≤ c ∧ c ≤ maxLen ∧ (-10 ≤ x ∧ x ≤ 10) ∧ (-10 ≤ y ∧ y ≤ 10) ∧ Row w' w'.heap.size A (prCells ps) ∧ Below w.heap.size w w'
def TH (g : Nat) (L X Y : Value) (s : Nat) (w : World) (v : Value) : Prop := match s with
  | 7 | 27 | 32 => TRd g v
  | 8 | 23 | 2 => v = L
  | 9 | 24 | 3 => v = X
  | 10 | 25 | 4 => v = Y
  | 26 => TLit g w 4 v
  | 28 => TIdx 4 v
  | 29 | 34 => TPtr g w v
  | 31 => TLit g w 3 v
  | 33 => TIdx 3 v
  | 30 | 35 | 5 | 6 => TInt v
  | _ => True
def useH : Nat → List Nat
  | 0 => [8]
  | 1 => [9]
  | 2 => [10]
  | 4 | 9 => [7]
  | 5 => [27]
  | 6 => [26, 28]
  | 7 => [29]
  | 10 => [32]
  | 11 => [31, 33]
  | 12 => [34]
  | 13 => [23]
  | 14 => [24]
  | 15 => [25]
  | 16 => [30]
  | 17 => [35]
  | _ => []
theorem TH.keep {g s : Nat} {L X Y : Value} {w w' : World} {v : Value} (hr : RR g w w') (h : TH g L X Y s w v) : TH g L X Y s w' v := by
  unfold TH at h ⊢
  split at h <;> first | exact h | exact h.keep hr

set_option maxHeartbeats 2000000 in
theorem DrawPairsHold_any (a : Option Addr) (len cap : Nat) (zs : List Int) (w : World) (h : IsRow .u8 w a len cap zs) :
    Calls Try.prog 44 #[.slice a len cap] w (GotPs4 w) := by
  go_enter Try.func44, Try.ntmps44
  go_wp2_with fail
  refine (open_any _ _ _ _ _ h).mono ?_
  rintro e w1 ⟨g, rfl, I⟩
  have hg1 := I.rd.lt_
  clear h
  go_wp2_with fail
  refine (l93Pairs_any I (by omega)).mono ?_
  rintro e w2 ⟨A, ps, n, c, q, rfl, hl, hn, hb, hq, I2, hs, hc1, hc2, hown⟩
  have HL := Lib.hid hl
  have HB := Lib.hid hb
  clear hl hb I
  go_wp2_with fail
  refine (l93Two_any I2 (by omega)).mono ?_
  rintro e w3 ⟨x, y, q3, rfl, hx, hy, hq3, I3, G3⟩
  have hown3 := own_grown hown G3 hg1
  clear I2 G3 hown
  go_wp2_with fail
  refine (pickI _ I3 (by omega) (by omega)).mono ?_
  rintro e w4 ⟨t, rfl, t0, t1, I4, G4⟩
  have hown4 := own_grown hown3 G4 hg1
  clear I3 G4 hown3
  by_cases ht : t = 0
  · subst ht
    go_wp2_with fail
    have J0 : JR 18 w g 0 w4.drew ∧ RR g w4 w4.drew := ⟨⟨_, by omega, I4.drew⟩, ⟨Nat.le_refl _, fun _ _ _ => rfl⟩⟩
    clear t0 t1 I4
    refine region_typed (by kernel_rfl) (TH g (.slice A n c) (.int .i64 x) (.int .i64 y)) (fun k W => JR 18 w g k W ∧ RR g w4 W) (RR g) (fun s => s == 7 || s == 8 || s == 9 || s == 10) useH (fun s w w' v hr h => h.keep hr) (by kernel_rfl) ?_ J0 ?_ ?_
    · intro i o k b W ho hk hJ hu K hK
      match i, ho with
      | 0, ho =>
        injection ho with ho
        subst ho
        have h1 : (b.tmps.getD 8 undef) = Value.slice A n c := hu 8 (by simp [useH])
        go_simp
        exact hK _ _ (RR.refl g W) ⟨hJ.1.next, hJ.2⟩ (fun d hd => by injection hd with hd; subst hd; exact rfl)
      | 1, ho =>
        injection ho with ho
        subst ho
        have h1 : (b.tmps.getD 9 undef) = Value.int .i64 x := hu 9 (by simp [useH])
        go_simp
        exact hK _ _ (RR.refl g W) ⟨hJ.1.next, hJ.2⟩ (fun d hd => by injection hd with hd; subst hd; exact rfl)
      | 2, ho =>
        injection ho with ho
        subst ho
        have h1 : (b.tmps.getD 10 undef) = Value.int .i64 y := hu 10 (by simp [useH])
        go_simp
        exact hK _ _ (RR.refl g W) ⟨hJ.1.next, hJ.2⟩ (fun d hd => by injection hd with hd; subst hd; exact rfl)
      | 3, ho =>
        injection ho with ho
        subst ho
        go_simp
        exact hK _ _ (RR.alloc g W _) ⟨hJ.1.alloc _, hJ.2.trans (RR.alloc g W _)⟩ (fun d hd => by injection hd with hd; subst hd; exact TLit.new [-1, 0, 9999, 10000] rfl hJ.1.lt)
      | 4, ho =>
        injection ho with ho
        subst ho
        have h1 : TRd g (b.tmps.getD 7 undef) := hu 7 (by simp [useH])
        unfold TRd at h1
        go_simp
        exact hK _ _ (RR.refl g W) ⟨hJ.1.next, hJ.2⟩ (fun d hd => by injection hd with hd; subst hd; exact rfl)
      | 5, ho =>
        injection ho with ho
        subst ho
        have h1 : TRd g (b.tmps.getD 27 undef) := hu 27 (by simp [useH])
        unfold TRd at h1
        have hk' : k < 18 := hk
        go_simp
        refine (pickJ _ hJ.1 hk' (by omega)).mono ?_
        rintro e W' ⟨r, rfl, r0, r1, hJ', hR⟩
        exact hK _ _ hR ⟨hJ', hJ.2.trans hR⟩ (fun d hd => by injection hd with hd; subst hd; exact ⟨r, rfl, r0, by omega⟩)
      | 6, ho =>
        injection ho with ho
        subst ho
        obtain ⟨bb, h16, hint⟩ : TLit g W 4 (b.tmps.getD 26 undef) := hu 26 (by simp [useH])
        obtain ⟨r, h18, r0, r1⟩ : TIdx 4 (b.tmps.getD 28 undef) := hu 28 (by simp [useH])
        have HI := Lib.hid (hint r.toNat (by omega))
        clear hint
        go_simp
        exact hK _ _ (RR.refl g W) ⟨hJ.1.next, hJ.2⟩ (fun d hd => by injection hd with hd; subst hd; exact ⟨bb, r.toNat, rfl, HI.out⟩)
      | 7, ho =>
        injection ho with ho
        subst ho
        obtain ⟨bb, ii, h19, hne, hlt, z, hz⟩ : TPtr g W (b.tmps.getD 29 undef) := hu 29 (by simp [useH])
        go_simp
        exact hK _ _ (RR.refl g W) ⟨hJ.1.next, hJ.2⟩ (fun d hd => by injection hd with hd; subst hd; exact ⟨z, rfl⟩)
      | 8, ho =>
        injection ho with ho
        subst ho
        go_simp
        exact hK _ _ (RR.alloc g W _) ⟨hJ.1.alloc _, hJ.2.trans (RR.alloc g W _)⟩ (fun d hd => by injection hd with hd; subst hd; exact TLit.new [-1, 0, 9999] rfl hJ.1.lt)
      | 9, ho =>
        injection ho with ho
        subst ho
        have h1 : TRd g (b.tmps.getD 7 undef) := hu 7 (by simp [useH])
        unfold TRd at h1
        go_simp
        exact hK _ _ (RR.refl g W) ⟨hJ.1.next, hJ.2⟩ (fun d hd => by injection hd with hd; subst hd; exact rfl)
      | 10, ho =>
        injection ho with ho
        subst ho
        have h1 : TRd g (b.tmps.getD 32 undef) := hu 32 (by simp [useH])
        unfold TRd at h1
        have hk' : k < 18 := hk
        go_simp
        refine (pickJ _ hJ.1 hk' (by omega)).mono ?_
        rintro e W' ⟨r, rfl, r0, r1, hJ', hR⟩
        exact hK _ _ hR ⟨hJ', hJ.2.trans hR⟩ (fun d hd => by injection hd with hd; subst hd; exact ⟨r, rfl, r0, by omega⟩)
      | 11, ho =>
        injection ho with ho
        subst ho
        obtain ⟨bb, h16, hint⟩ : TLit g W 3 (b.tmps.getD 31 undef) := hu 31 (by simp [useH])
        obtain ⟨r, h18, r0, r1⟩ : TIdx 3 (b.tmps.getD 33 undef) := hu 33 (by simp [useH])
        have HI := Lib.hid (hint r.toNat (by omega))
        clear hint
        go_simp
        exact hK _ _ (RR.refl g W) ⟨hJ.1.next, hJ.2⟩ (fun d hd => by injection hd with hd; subst hd; exact ⟨bb, r.toNat, rfl, HI.out⟩)
      | 12, ho =>
        injection ho with ho
        subst ho
        obtain ⟨bb, ii, h19, hne, hlt, z, hz⟩ : TPtr g W (b.tmps.getD 34 undef) := hu 34 (by simp [useH])
        go_simp
        exact hK _ _ (RR.refl g W) ⟨hJ.1.next, hJ.2⟩ (fun d hd => by injection hd with hd; subst hd; exact ⟨z, rfl⟩)
      | 13, ho =>
        injection ho with ho
        subst ho
        have h1 : (b.tmps.getD 23 undef) = Value.slice A n c := hu 23 (by simp [useH])
        go_simp
        exact hK _ _ (RR.refl g W) ⟨hJ.1.next, hJ.2⟩ (fun d hd => by injection hd with hd; subst hd; exact rfl)
      | 14, ho =>
        injection ho with ho
        subst ho
        have h1 : (b.tmps.getD 24 undef) = Value.int .i64 x := hu 24 (by simp [useH])
        go_simp
        exact hK _ _ (RR.refl g W) ⟨hJ.1.next, hJ.2⟩ (fun d hd => by injection hd with hd; subst hd; exact rfl)
      | 15, ho =>
        injection ho with ho
        subst ho
        have h1 : (b.tmps.getD 25 undef) = Value.int .i64 y := hu 25 (by simp [useH])
        go_simp
        exact hK _ _ (RR.refl g W) ⟨hJ.1.next, hJ.2⟩ (fun d hd => by injection hd with hd; subst hd; exact rfl)
      | 16, ho =>
        injection ho with ho
        subst ho
        obtain ⟨z, hz⟩ : TInt (b.tmps.getD 30 undef) := hu 30 (by simp [useH])
        go_simp
        exact hK _ _ (RR.refl g W) ⟨hJ.1.next, hJ.2⟩ (fun d hd => by injection hd with hd; subst hd; exact ⟨z, rfl⟩)
      | 17, ho =>
        injection ho with ho
        subst ho
        obtain ⟨z, hz⟩ : TInt (b.tmps.getD 35 undef) := hu 35 (by simp [useH])
        go_simp
        exact hK _ _ (RR.refl g W) ⟨hJ.1.next, hJ.2⟩ (fun d hd => by injection hd with hd; subst hd; exact ⟨z, rfl⟩)
      | i + 18, ho => exact absurd (Array.getElem?_eq_some_iff.1 ho).1 (by simp)
    · intro s hs
      have : s = 7 ∨ s = 8 ∨ s = 9 ∨ s = 10 := by
        simp at hs
        omega
      rcases this with rfl | rfl | rfl | rfl <;> exact rfl
    · intro b W k hJ hsz hdf hT
      have h2 : b.tmps.getD 2 undef = .slice A n c := hT 2 (.inr ⟨13, _, rfl, rfl⟩)
      have h3 : b.tmps.getD 3 undef = .int .i64 x := hT 3 (.inr ⟨14, _, rfl, rfl⟩)
      have h4 : b.tmps.getD 4 undef = .int .i64 y := hT 4 (.inr ⟨15, _, rfl, rfl⟩)
      obtain ⟨z5, h5⟩ : TInt (b.tmps.getD 5 undef) := hT 5 (.inr ⟨16, _, rfl, rfl⟩)
      obtain ⟨z6, h6⟩ : TInt (b.tmps.getD 6 undef) := hT 6 (.inr ⟨17, _, rfl, rfl⟩)
      obtain ⟨⟨p, _, I9⟩, hRR⟩ := hJ
      have hown9 : W.ownsRow w1.heap.size 27 2 (.slice A n c) n (prCells ps) := own_keep hown4 (fun bb hbb hlt => hRR.2 bb hlt (by omega))
      obtain ⟨A', c', e, _, _, _, hrow⟩ := own_sliceN hown9
      injection e with e1 e2 e3
      subst e1 e3
      clear hT e2 hown9 hown4
      rw [Array.getD_eq_getD_getElem?] at h2 h3 h4 h5 h6
      go_wp2_with fail
      exact bodyPost_ret (v := .tuple #[.slice A n c, .int .i64 x, .int .i64 y, .int .i64 z5, .int .i64 z6]) (by simp [results, Try.results44, go_sem, h2, h3, h4, h5, h6]) hdf ⟨A, ps, n, c, x, y, z5, z6, rfl, HL.out, hn, HB.out, hc1, hc2, hx, hy, hrow, I9.bel⟩
  · have ht' : (t == 0) = false := by simpa using ht
    go_wp2_with fail
    refine (pickI _ I4 (by omega) (by omega)).mono ?_
    rintro e w5 ⟨m, rfl, m0, m1, I5, G5⟩
    have hown5 := own_grown hown4 G5 hg1
    clear G5 I4 hown4
    go_wp2_with fail
    refine (pickI _ I5 (by omega) (by omega)).mono ?_
    rintro e w6 ⟨s, rfl, s0, s1, I6, G6⟩
    have hown6 := own_grown hown5 G6 hg1
    obtain ⟨A', c', e, _, _, _, hrow⟩ := own_sliceN hown6
    injection e with e1 e2 e3
    subst e1 e3
    clear G6 I5 hown5 hown6 e2
    go_wp2_with fail
    exact bodyPost_ret (v := .tuple #[.slice A n c, .int .i64 x, .int .i64 y, .int .i64 m, .int .i64 s]) (by simp [results, Try.results44, go_sem]) rfl ⟨A, ps, n, c, x, y, m, s, rfl, HL.out, hn, HB.out, hc1, hc2, hx, hy, hrow, I6.bel⟩

end Go.Proofs.Ytkpgbombikgffaa
