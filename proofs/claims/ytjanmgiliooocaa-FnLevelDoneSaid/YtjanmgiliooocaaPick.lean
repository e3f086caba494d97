/- What l6Open and pick of the reference's drawing do: a reader is laid in new memory; each pick returns a number in range and turns the reader's own place alone. The conditions stand in each theorem. -/
import Derived.Test.YtjanmgiliooocaaKit
import Derived.OpenShut
namespace Go.Proofs.Ytjanmgiliooocaa
open Go.RowKit Go.ChangeShapes
set_option linter.unusedVariables false

theorem ofInt_i64 (a : Nat) (ha : a < 9223372036854775808) : (BitVec.ofInt 64 (a : Int)).toNat = a := by
  rw [BitVec.ofInt_natCast, BitVec.toNat_ofNat]
  exact Nat.mod_eq_of_lt (by omega)
theorem xor_bd (x y : Int) (hx : 0 ≤ x) (hy : 0 ≤ y) (hx' : x < 4611686018427387904) (hy' : y < 4611686018427387904) : 0 ≤ bits .xor .i64 x y ∧ bits .xor .i64 x y < 4611686018427387904 := by
  obtain ⟨a, rfl⟩ := Int.eq_ofNat_of_zero_le hx
  obtain ⟨b, rfl⟩ := Int.eq_ofNat_of_zero_le hy
  have h : a ^^^ b < 2 ^ 62 := Nat.xor_lt_two_pow (by omega) (by omega)
  show 0 ≤ IntKind.i64.wrap ((BitVec.ofInt 64 (a : Int) ^^^ BitVec.ofInt 64 (b : Int)).toNat : Int) ∧ IntKind.i64.wrap ((BitVec.ofInt 64 (a : Int) ^^^ BitVec.ofInt 64 (b : Int)).toNat : Int) < 4611686018427387904
  rw [BitVec.toNat_xor, ofInt_i64 a (by omega), ofInt_i64 b (by omega), IntKind.wrap_i64]
  omega

theorem grown_set (w : World) (g i : Nat) (u : Value) : w.grownBy (w.setCell ⟨g, i, none⟩ u) (some g) :=
  ⟨rfl, rfl, rfl, by simp [World.setCell], fun k hk hne => Below.heap_setCell w ⟨g, i, none⟩ u k (fun e => hne (by rw [e]))⟩
theorem grown_drewN {a w : World} {row : Option Nat} (h : a.grownBy w row) (n : Nat) : a.grownBy (w.drewN n) row := ⟨h.os, h.tape, h.output, h.size, h.block⟩

set_option maxHeartbeats 1000000 in
theorem pick_any (w : World) (g p : Nat) (m : Int) (hr : Rd w g p) (hp : p ≤ 1000000) (hm : m ≤ 1000000) :
    Calls Try.prog 35 #[.pointer (some ⟨g, 0, none⟩), .int .i64 m] w (Picked w g p m) := by
  have HP := Lib.hid (hr.put (p + 1))
  have HG := Lib.hid (grown_set w g 1 (.int .i64 ((p + 1 : Nat) : Int)))
  obtain ⟨A, n, c, zs, hb, h1, h2, h3, h4, h5, h6⟩ := hr
  have hc0 : w.cell? ⟨g, 0, none⟩ = some (.slice A n c) := by simpa using hb.cell 0
  have hc1 : w.cell? ⟨g, 1, none⟩ = some (.int .i64 (p : Int)) := by simpa using hb.cell 1
  have hf1 := hb.frozen 1
  unfold maxLen at h3
  have HL := Lib.hid h4
  clear hb h4
  by_cases hm1 : m < 1
  · clear h6 h5
    go_enter Try.func35, Try.ntmps35
    go_wp2
    go_ret
    exact ⟨0, rfl, by omega, .inr rfl, HP.out, HG.out⟩
  by_cases hn : n = 0
  · have e0 : ((n : Int) == 0) = true := by simp; omega
    subst hn
    clear h6 h5
    go_enter Try.func35, Try.ntmps35
    go_wp2
    go_ret
    exact ⟨0, rfl, by omega, .inr rfl, HP.out, HG.out⟩
  have e0 : ((n : Int) == 0) = false := by simp; omega
  rcases h6 with h6 | ⟨b, off, rfl, hbg, hcell⟩
  · have := HL.out
    rw [List.map_eq_nil_iff] at h6
    rw [h6] at this
    simp at this
    omega
  have at_ : ∀ j, j < n → ∃ z : Int, 0 ≤ z ∧ z ≤ 255 ∧ w.cell? ⟨b, off + j, none⟩ = some (.int .u8 z) := by
    intro j hj
    have hj' : j < zs.length := by rw [HL.out]; exact hj
    refine ⟨zs[j], (h5 _ (List.getElem_mem hj')).1, (h5 _ (List.getElem_mem hj')).2, hcell j _ ?_⟩
    rw [List.getElem?_map, List.getElem?_eq_getElem hj']
    rfl
  have hne : b ≠ g := by omega
  clear hcell h5
  by_cases hpn : p < n
  · obtain ⟨z, z0, z1, hz⟩ := at_ p hpn
    clear at_
    go_enter Try.func35, Try.ntmps35
    go_wp2
    go_ret
    exact ⟨z % m, rfl, Int.emod_nonneg _ (by omega), .inl (Int.emod_lt_of_pos _ (by omega)), HP.out, HG.out⟩
  · obtain ⟨z, z0, z1, hz⟩ := at_ (p % n) (Nat.mod_lt _ (by omega))
    obtain ⟨y, y0, y1, hy⟩ := at_ ((p * 7 + 3) % n) (Nat.mod_lt _ (by omega))
    clear at_
    have e1 : (p : Int) % (n : Int) = ((p % n : Nat) : Int) := rfl
    have e2 : ((p : Int) * 7 + 3) % (n : Int) = (((p * 7 + 3) % n : Nat) : Int) := rfl
    have l1 : p % n < n := Nat.mod_lt _ (by omega)
    have l2 : (p * 7 + 3) % n < n := Nat.mod_lt _ (by omega)
    have i0 : 0 ≤ ((p : Int) * 7 + 3) % (n : Int) := by rw [e2]; omega
    have i1 : ((p : Int) * 7 + 3) % (n : Int) < (n : Int) := by rw [e2]; exact Int.ofNat_lt.2 l2
    have i2 : (((p : Int) * 7 + 3) % (n : Int)).toNat = (p * 7 + 3) % n := by rw [e2]; exact Int.toNat_natCast _
    have j0 : 0 ≤ (p : Int) % (n : Int) := by rw [e1]; omega
    have j1 : (p : Int) % (n : Int) < (n : Int) := by rw [e1]; exact Int.ofNat_lt.2 l1
    have j2 : ((p : Int) % (n : Int)).toNat = p % n := by rw [e1]; exact Int.toNat_natCast _
    have q0 : 0 ≤ (p : Int) / (n : Int) := Int.ediv_nonneg (by omega) (by omega)
    have q1 : (p : Int) / (n : Int) ≤ p := Int.ediv_le_self _ (by omega)
    clear e1 e2
    go_enter Try.func35, Try.ntmps35
    go_wp2
    go_quiet (fail)
    go_wp2
    go_ret
    have hx := xor_bd (z * 131 + y * 1117 + (p : Int) * 29 + (p : Int) / (n : Int) * 53) ((z * 131 + y * 1117 + (p : Int) * 29 + (p : Int) / (n : Int) * 53) / 64) (by omega) (by omega) (by omega) (by omega)
    exact ⟨_, rfl, Int.tmod_nonneg _ hx.1, .inl (Int.tmod_lt_of_pos _ (by omega)), HP.out.drewN _, grown_drewN HG.out _⟩

theorem RdI.step {w0 w w' : World} {g p : Nat} (h : RdI w0 w g p) (hr : Rd w' g (p + 1)) (hg : w.grownBy w' (some g)) : RdI w0 w' g (p + 1) :=
  ⟨h.bel.grown hg h.bel.size (fun k hk => by injection hk with hk; rw [← hk]; exact h.at_), h.at_, hr⟩

/-- What a pick gives inside a drawing that began in w0: a number in range, the reader asked once more, and no other block turned. -/
def PickedI (w0 w : World) (g p : Nat) (m : Int) (e : Ending) (w' : World) : Prop :=
  ∃ r : Int, e = .returned (.int .i64 r) ∧ 0 ≤ r ∧ (r < m ∨ r = 0) ∧ RdI w0 w' g (p + 1) ∧ w.grownBy w' (some g)
theorem pickI {w0 w : World} {g p : Nat} (m : Int) (I : RdI w0 w g p) (hp : p ≤ 1000000) (hm : m ≤ 1000000) :
    Calls Try.prog 35 #[.pointer (some ⟨g, 0, none⟩), .int .i64 m] w (PickedI w0 w g p m) :=
  (pick_any w g p m I.rd hp hm).mono fun e w' ⟨r, he, h0, h1, h2, h3⟩ => ⟨r, he, h0, h1, I.step h2 h3, h3⟩

/-- What l6Open gives: a reader in a new block. -/
def Opened (w : World) (e : Ending) (w' : World) : Prop :=
  ∃ g : Nat, e = .returned (.pointer (some ⟨g, 0, none⟩)) ∧ RdI w w' g 0
set_option maxHeartbeats 400000 in
theorem open_any (a : Option Addr) (len cap : Nat) (zs : List Int) (w : World) (h : IsRow .u8 w a len cap zs) :
    Calls Try.prog 34 #[.slice a len cap] w (Opened w) := by
  have hr := h.row
  have hl := h.len_le
  have hz : ∀ z ∈ zs, 0 ≤ z ∧ z ≤ 255 := by
    rcases h with ⟨_, _, _, rfl⟩ | ⟨x, rfl, _, _, _, _, hw⟩
    · intro z hz
      cases hz
    · intro z hz
      have hb := bounds_u8 (hw z hz)
      omega
  clear h
  obtain ⟨h1, h2, h3⟩ := hl
  have key : ∀ n c, n ≤ len → n ≤ 2000 → n ≤ c → c ≤ maxLen → RdI w (w.alloc (.cells #[.slice a n c, .int .i64 0] 60)) w.heap.size 0 := by
    intro n c hn hn2 hc hm
    refine ⟨(Below.refl _ _).alloc (Nat.le_refl _) _, Nat.le_refl _, a, n, c, (zs.take len).take n, Blk.new _ _ _, hn2, hc, hm, ?_, ?_, ?_⟩
    · rw [List.length_take, h3]
      omega
    · exact fun z hz' => hz z (List.mem_of_mem_take (List.mem_of_mem_take hz'))
    · rw [List.map_take]
      exact (hr.take n).keep fun p hp => World.cell?_alloc_lt w _ p hp
  have KEY := Lib.hid key
  have H3 := Lib.hid h3
  have hcap := h2
  unfold maxLen at hcap
  have HM := Lib.hid h2
  clear key h3 hr hz h2
  by_cases hbig : 2000 < len
  · go_enter Try.func34, Try.ntmps34
    go_wp2
    go_ret
    exact ⟨_, rfl, KEY.out 2000 cap (by omega) (by omega) (by omega) HM.out⟩
  · go_enter Try.func34, Try.ntmps34
    go_wp2
    go_ret
    exact ⟨_, rfl, KEY.out len cap (by omega) (by omega) (by omega) HM.out⟩

end Go.Proofs.Ytjanmgiliooocaa
