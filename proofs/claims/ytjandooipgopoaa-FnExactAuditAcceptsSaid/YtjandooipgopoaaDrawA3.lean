/- What the drawing of a risk leaves alone, and what the drawing of the arguments of AuditAccepts gives. The conditions stand in each theorem. -/
import Derived.Test.YtjandooipgopoaaDrawA2
import Derived.Test.YtjandooipgopoaaAcc
namespace Go.Proofs.Ytjandooipgopoaa
open Go.RowKit Go.ChangeShapes
set_option linter.unusedVariables false

theorem grown_alloc (w : World) (o : Obj) (row : Option Nat) : w.grownBy (w.alloc o) row := ⟨rfl, rfl, rfl, by simp, fun i hi _ => Below.heap_alloc w o i hi⟩

/-- Two numbers within bounds, and the reader still stands, asked at most three times more. -/
def Risked3 (w0 w : World) (g p : Nat) (e : Ending) (w' : World) : Prop :=
  ∃ (a b : Int) (q : Nat), e = .returned (.tuple #[.int .i64 a, .int .i64 b]) ∧ (-100000 ≤ a ∧ a ≤ 100000) ∧ (-100000 ≤ b ∧ b ≤ 100000) ∧ q ≤ p + 3 ∧ RdI w0 w' g q ∧ w.grownBy w' (some g)

set_option maxHeartbeats 1000000 in
theorem l92Risk_grown {w0 w : World} {g p : Nat} (I : RdI w0 w g p) (hp : p ≤ 1000) :
    Calls Try.prog 43 #[.pointer (some ⟨g, 0, none⟩)] w (Risked3 w0 w g p) := by
  go_enter Try.func43, Try.ntmps43
  go_wp2_with fail
  refine (pickI _ I (by omega) (by omega)).mono ?_
  rintro e w2 ⟨r, rfl, r0, r1, I2, G2⟩
  clear I
  by_cases hr : r = 0
  · subst hr
    go_wp2_with fail
    have ID := I2.drew
    go_region_with (go_at_call 41; first
      | (refine (pickI _ ID (by omega) (by omega)).mono ?_; rintro e w3 ⟨s, rfl, s0, s1, I3, G3⟩; have GA := grown_undrew G3; clear G3; have tok1 : True := trivial)
      | (refine (pickI _ (I2.alloc _).drew (by omega) (by omega)).mono ?_; rintro e w3 ⟨s, rfl, s0, s1, I3, G3⟩; have G3' := grown_undrew G3; have GA := grown_trans (grown_alloc w2 _ _) G3'; clear G3)
      | (have _t := G3'; refine (pickI _ I3 (by omega) (by omega)).mono ?_; rintro e w4 ⟨t, rfl, t0, t1, I4, G4⟩; have t2 : t < 4 := (by omega); obtain ⟨v, hv, hc⟩ := lit_two (w1 := w2) [0, 1, 1000, 1001] I2.rd G3' G4 t t0 (by simp; omega); have GB := grown_trans GA G4; have I5 := (@id (RdI w0 w4 g (p + 1 + 1 + 1)) I4))
      | (have _t := tok1; refine (pickI _ I3 (by omega) (by omega)).mono ?_; rintro e w4 ⟨t, rfl, t0, t1, I4, G4⟩; have t2 : t < 4 := (by omega); obtain ⟨v, hv, hc, hl⟩ := lit_new w4 3 [0, 1, 1000, 1001] t t0 (by simp; omega); have I5 := I4.alloc (.cells #[.int .i64 0, .int .i64 1, .int .i64 1000, .int .i64 1001] 3); have GB := grown_trans (grown_trans GA G4) (grown_alloc w4 (.cells #[.int .i64 0, .int .i64 1, .int .i64 1000, .int .i64 1001] 3) _))
      | (refine (pickI _ (I3.alloc _) (by omega) (by omega)).mono ?_; rintro e w4 ⟨t, rfl, t0, t1, I4, G4⟩; have t2 : t < 4 := (by omega); obtain ⟨v, hv, hc⟩ := lit_int [0, 1, 1000, 1001] I3.rd G4 t t0 (by simp; omega); have GB := grown_trans (grown_trans GA (grown_alloc w3 _ _)) G4; have I5 := (@id (RdI w0 w4 g (p + 1 + 1 + 1)) I4)))
    all_goals
      go_wp2_with fail
      go_ret2
      have hv' : 0 ≤ v ∧ v ≤ 1001 := by
        simp at hv
        omega
      refine ⟨IntKind.i64.wrap (s - 1), v, _, ?_, ?_, ?_, Nat.le_refl _, I5, grown_trans G2 GB⟩
      · first
          | (go_simp; done)
          | (have hl' := Lib.hid hl
             clear hl hc
             go_simp
             exact (List.getElem?_eq_some_iff.1 hl'.out).2)
      · rw [IntWalk.i64_in (s - 1) (by omega)]
        omega
      · omega
  · have hs' : (r == 0) = false := by simpa using hr
    go_wp2_with fail
    refine (pickI _ (I2.alloc _) (by omega) (by omega)).mono ?_
    rintro e w4 ⟨t, rfl, t0, t1, I4, G4⟩
    obtain ⟨v, hv, hc⟩ := lit_int [10, 20, 100] I2.rd G4 t t0 (by simp; omega)
    have hv' : 10 ≤ v ∧ v ≤ 100 := by
      simp at hv
      omega
    have t2 : t < 3 := by omega
    have GB := grown_trans (grown_trans G2 (grown_alloc w2 _ _)) G4
    clear G4 hv I2
    go_wp2_with fail
    refine (pickI _ I4 (by omega) (by omega)).mono ?_
    rintro e w5 ⟨s, rfl, s0, s1, I5, G5⟩
    clear I4
    go_wp2_with fail
    go_ret2
    exact ⟨_, _, _, rfl, by omega, by omega, by omega, I5, grown_trans GB G5⟩


/-- Numbers within bounds, a slice of at most twenty bools, and nothing that was there has turned. -/
def GotAcc (w : World) (e : Ending) (w' : World) : Prop :=
  ∃ (n num den : Int) (A : Option Addr) (bs : List Bool) (m c : Nat), e = .returned (.tuple #[.int .i64 n, .slice A m c, .int .i64 num, .int .i64 den]) ∧ (-100000 ≤ n ∧ n ≤ 100000) ∧ (-100000 ≤ num ∧ num ≤ 100000) ∧ (-100000 ≤ den ∧ den ≤ 100000) ∧
    m ≤ 21 ∧ bs.length = m ∧ Row w' w'.heap.size A (bs.map Value.bool) ∧ Below w.heap.size w w'

set_option maxHeartbeats 2000000 in
theorem DrawAuditAccepts_any (a : Option Addr) (len cap : Nat) (zs : List Int) (w : World) (h : IsRow .u8 w a len cap zs) :
    Calls Try.prog 34 #[.slice a len cap] w (GotAcc w) := by
  obtain ⟨i0, hi0, hz0, hz1, hz2⟩ := info_parts info_bool
  have HI := Lib.hid hi0
  have HZ0 := Lib.hid hz0
  have HZ1 := Lib.hid hz1
  have HZ2 := Lib.hid hz2
  clear hi0 hz0 hz1 hz2
  go_enter Try.func34, Try.ntmps34
  go_wp2_with fail
  refine (open_any _ _ _ _ _ h).mono ?_
  rintro e w1 ⟨g, rfl, I⟩
  clear h
  have hg1 := I.rd.lt
  go_wp2_with fail
  refine (pickI _ I (by omega) (by omega)).mono ?_
  rintro e w2 ⟨r, rfl, r0, r1, I2, G2⟩
  have hs2 := G2.size
  clear I G2
  go_wp2_with fail
  refine (pickI _ I2 (by omega) (by omega)).mono ?_
  rintro e w3 ⟨kk, rfl, k0, k1, I3, G3⟩
  have hs3 := G3.size
  clear I2 G3
  go_wp2_with fail
  go_loopw [9, 10] (fun s i wx => ∃ (k : Nat) (bs : List Bool) (q : Nat), (k : Int) ≤ kk ∧ i = .int .i64 k ∧ Hid (bs.length = k) ∧ q ≤ 2 + k ∧ w1.heap.size ≤ wx.heap.size ∧ RdI w wx g q ∧ wx.ownsRow w1.heap.size 4 1 s k (bs.map Value.bool)) (fun _ i _ => kk.toNat - (intOf i).toNat)
  case atStart => exact ⟨0, [], 2, by omega, rfl, rfl, by omega, by simp; omega, I3.alloc _, own_empty _ _ _ _ (by omega)⟩
  case round =>
    clear I3
    obtain ⟨k, bs, q, hk, rfl, HL, hq, hsz, I4, hown⟩ := hrel
    by_cases hlt : (k : Int) < kk
    · go_wp2_with fail
      refine (pickI _ I4 (by omega) (by omega)).mono ?_
      rintro e w5 ⟨t, rfl, t0, t1, I5, G5⟩
      have hs5 := G5.size
      have hown5 := own_grown hown G5 hg1
      clear I4 G5 hown
      by_cases ht : 0 < t
      · go_wp2_with (at_builtin; refine wpList_append_own_at _ rfl (.tmp 28) (.tmp 32) _ rfl w1.heap.size 4 i0 _ 1 1 Try.underlying36 HI.out HZ0.out HZ1.out HZ2.out rfl (by omega) u9 _ _ rfl (own_alloc hown5 _) ⟨w5.heap.size, 0, none⟩ 1 1 [.bool true] rfl rfl (cell_one_new _ _ _) (by intro u hu; simp at hu; subst hu; rfl) (by unfold maxLen; omega) (by omega) (by simp; omega) ?_; intro v' w6 hown6 hgrow6 hnil6 hat6; clear hnil6 hat6)
        go_roundw
        case rel =>
          refine ⟨k + 1, bs ++ [true], q + 1, by omega, by go_num, ?_, by omega, ?_, ?_, by simpa using hown6⟩
          · show (bs ++ [true]).length = k + 1
            rw [List.length_append, HL.out]
            rfl
          · have := hgrow6.size
            simp at this
            omega
          · exact (I5.alloc _).grown hgrow6 (fun x hx => by have := (own_block hown5 x hx).1; omega)
        case measure => simp [intOf]; omega
      · obtain rfl : t = 0 := by omega
        go_wp2_with (at_builtin; refine wpList_append_own_at _ rfl (.tmp 28) (.tmp 32) _ rfl w1.heap.size 4 i0 _ 1 1 Try.underlying36 HI.out HZ0.out HZ1.out HZ2.out rfl (by omega) u9 _ _ rfl (own_alloc hown5 _) ⟨w5.heap.size, 0, none⟩ 1 1 [.bool false] rfl rfl (cell_one_new _ _ _) (by intro u hu; simp at hu; subst hu; rfl) (by unfold maxLen; omega) (by omega) (by simp; omega) ?_; intro v' w6 hown6 hgrow6 hnil6 hat6; clear hnil6 hat6)
        go_roundw
        case rel =>
          refine ⟨k + 1, bs ++ [false], q + 1, by omega, by go_num, ?_, by omega, ?_, ?_, by simpa using hown6⟩
          · show (bs ++ [false]).length = k + 1
            rw [List.length_append, HL.out]
            rfl
          · have := hgrow6.size
            simp at this
            omega
          · exact (I5.alloc _).grown hgrow6 (fun x hx => by have := (own_block hown5 x hx).1; omega)
        case measure => simp [intOf]; omega
    · have hke : (k : Int) = kk := by omega
      have HK := Lib.hid hke
      clear hke
      go_wp2_with fail
      refine (pickI _ I4 (by omega) (by omega)).mono ?_
      rintro e w5 ⟨t, rfl, t0, t1, I5, G5⟩
      have hs5 := G5.size
      have hown5 := own_grown hown G5 hg1
      clear I4 G5 hown
      go_upto_if 36 with fail
      go_cut [7] (fun s7 wx => ∃ (n : Int) (p : Nat), s7 = .int .i64 n ∧ -1 ≤ n ∧ n ≤ 25 ∧ p ≤ 100 ∧ RdI w wx g p ∧ w1.heap.size ≤ wx.heap.size ∧ wx.ownsRow w1.heap.size 4 1 u9 k (bs.map Value.bool))
      case first =>
        by_cases hs : t = 0
        · subst hs
          go_wp2_with fail
          refine (pickI _ I5 (by omega) (by omega)).mono ?_
          rintro e w6 ⟨s, rfl, s0, s1, I6, G6⟩
          have hs6 := G6.size
          have hown6 := own_grown hown5 G6 hg1
          clear I5 G6 hown5
          go_wp2_with fail
          go_meet
          exact ⟨_, _, rfl, by omega, by omega, by omega, I6, by omega, hown6⟩
        · have hs' : (t == 0) = false := by simpa using hs
          go_wp2_with fail
          go_meet
          exact ⟨_, _, rfl, by omega, by omega, by omega, I5, by omega, hown5⟩
      case rest =>
        clear I5 hown5
        obtain ⟨n, p, rfl, n0, n1, hp, I6, hs6, hown6⟩ := hcut
        go_wp2_with fail
        refine (l92Risk_grown I6 (by omega)).mono ?_
        rintro e w7 ⟨x, y, q', rfl, hx, hy, hq', I7, G7⟩
        have hown7 := own_grown hown6 G7 hg1
        clear I6 G7 hown6
        obtain ⟨A, c, rfl, hc1, hc2, hlen, hrow⟩ := own_slice hown7
        clear hown7
        have HLen := Lib.hid hlen
        clear hlen
        go_wp2_with fail
        refine bodyPost_ret (results_4 rfl _ _ _) rfl ?_
        exact ⟨_, _, _, A, bs, k, c, rfl, by omega, hx, hy, by omega, HL.out, hrow, I7.bel⟩

end Go.Proofs.Ytjandooipgopoaa
