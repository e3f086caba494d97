/- What is drawn for the laws of pairs, function by function. The conditions stand in each theorem. -/
import Derived.Test.YtkpgbombikgffaaDrawD2
import Derived.Deep.RegionHeld
namespace Go.Proofs.Ytkpgbombikgffaa
open Go.RowKit Go.ChangeShapes
set_option linter.unusedVariables false

theorem IsRow.alloc {k : IntKind} {w : World} {a : Option Addr} {len cap : Nat} {zs : List Int} (h : IsRow k w a len cap zs) (o : Obj) : IsRow k (w.alloc o) a len cap zs := by
  rcases h with h | ⟨x, e, h1, h2, h3, h4, h5⟩
  · exact .inl h
  · exact .inr ⟨x, e, h1, h2, h3, fun i hi => (World.cell?_alloc_some w _ o (by rw [h4 i hi]; rfl)).trans (h4 i hi), h5⟩

def DrawnT (w0 w : World) (g p : Nat) (e : Ending) (w' : World) : Prop :=
  ∃ (a b : Int) (q : Nat), e = .returned (.tuple #[.int .i64 a, .int .i64 b]) ∧ (-10 ≤ a ∧ a ≤ 10) ∧ (-10 ≤ b ∧ b ≤ 10) ∧ q ≤ p + 4 ∧ RdI w0 w' g q ∧ w.grownBy w' (some g)
set_option maxHeartbeats 400000 in
theorem l93Two_any {w0 w : World} {g p : Nat} (I : RdI w0 w g p) (hp : p ≤ 500) :
    Calls Try.prog 60 #[.pointer (some ⟨g, 0, none⟩)] w (DrawnT w0 w g p) := by
  go_enter Try.func60, Try.ntmps60
  go_wp2_with fail
  refine (pickI _ I (by omega) (by omega)).mono ?_
  rintro e w2 ⟨r, rfl, r0, r1, I2, G2⟩
  clear I
  by_cases hr : r = 0
  · subst hr
    go_wp2_with fail
    refine (pickI _ I2 (by omega) (by omega)).mono ?_
    rintro e w3 ⟨a, rfl, a0, a1, I3, G3⟩
    clear I2
    go_wp2_with fail
    refine (pickI _ I3 (by omega) (by omega)).mono ?_
    rintro e w4 ⟨b, rfl, b0, b1, I4, G4⟩
    clear I3
    go_wp2_with fail
    go_ret2
    exact ⟨_, _, _, rfl, by omega, by omega, by omega, I4, grown_trans' G2 (grown_trans' G3 G4)⟩
  · have hr' : (r == 0) = false := by simpa using hr
    go_wp2_with fail
    refine (pickI _ I2 (by omega) (by omega)).mono ?_
    rintro e w3 ⟨a, rfl, a0, a1, I3, G3⟩
    clear I2
    go_wp2_with fail
    refine (pickI _ I3 (by omega) (by omega)).mono ?_
    rintro e w4 ⟨b, rfl, b0, b1, I4, G4⟩
    clear I3
    go_wp2_with fail
    go_ret2
    exact ⟨_, _, _, rfl, by omega, by omega, by omega, I4, grown_trans' G2 (grown_trans' G3 G4)⟩

def GotPs (w : World) (e : Ending) (w' : World) : Prop :=
  ∃ (A : Option Addr) (ps : List Pr) (n c : Nat), e = .returned (.slice A n c) ∧ ps.length = n ∧ n ≤ 21 ∧ (∀ z ∈ ps, shortPr z) ∧ n ≤ c ∧ c ≤ maxLen ∧ Row w' w'.heap.size A (prCells ps) ∧ Below w.heap.size w w'
set_option maxHeartbeats 400000 in
theorem DrawPairsValid_any (a : Option Addr) (len cap : Nat) (zs : List Int) (w : World) (h : IsRow .u8 w a len cap zs) :
    Calls Try.prog 17 #[.slice a len cap] w (GotPs w) := by
  go_enter Try.func17, Try.ntmps17
  go_wp2_with fail
  refine (open_any _ _ _ _ _ h).mono ?_
  rintro e w1 ⟨g, rfl, I⟩
  clear h
  go_wp2_with fail
  refine (l93Pairs_any I (by omega)).mono ?_
  rintro e w2 ⟨A, ps, n, c, q, rfl, hl, hn, hb, hq, I2, hs, hc1, hc2, hown⟩
  obtain ⟨A', c', e, _, _, _, hrow⟩ := own_sliceN hown
  injection e with e1 e2 e3
  subst e1 e3
  have HL := Lib.hid hl
  have HB := Lib.hid hb
  clear hl hb I e2
  go_wp2_with fail
  go_ret
  exact ⟨A, ps, n, c, rfl, HL.out, hn, HB.out, hc1, hc2, hrow, I2.bel⟩
set_option maxHeartbeats 400000 in
theorem DrawPairsWrong_any (a : Option Addr) (len cap : Nat) (zs : List Int) (w : World) (h : IsRow .u8 w a len cap zs) :
    Calls Try.prog 29 #[.slice a len cap] w (GotPs w) := by
  go_enter Try.func29, Try.ntmps29
  go_wp2_with fail
  refine (open_any _ _ _ _ _ h).mono ?_
  rintro e w1 ⟨g, rfl, I⟩
  clear h
  go_wp2_with fail
  refine (l93Pairs_any I (by omega)).mono ?_
  rintro e w2 ⟨A, ps, n, c, q, rfl, hl, hn, hb, hq, I2, hs, hc1, hc2, hown⟩
  obtain ⟨A', c', e, _, _, _, hrow⟩ := own_sliceN hown
  injection e with e1 e2 e3
  subst e1 e3
  have HL := Lib.hid hl
  have HB := Lib.hid hb
  clear hl hb I e2
  go_wp2_with fail
  go_ret
  exact ⟨A, ps, n, c, rfl, HL.out, hn, HB.out, hc1, hc2, hrow, I2.bel⟩

def GotPs2 (w : World) (e : Ending) (w' : World) : Prop :=
  ∃ (A : Option Addr) (ps : List Pr) (n c : Nat) (x y : Int), e = .returned (.tuple #[.slice A n c, .int .i64 x, .int .i64 y]) ∧ ps.length = n ∧ n ≤ 21 ∧ (∀ z ∈ ps, shortPr z) ∧ n ≤ c ∧ c ≤ maxLen ∧ (-10 ≤ x ∧ x ≤ 10) ∧ (-10 ≤ y ∧ y ≤ 10) ∧ Row w' w'.heap.size A (prCells ps) ∧ Below w.heap.size w w'
set_option maxHeartbeats 400000 in
theorem DrawPairsError_any (a : Option Addr) (len cap : Nat) (zs : List Int) (w : World) (h : IsRow .u8 w a len cap zs) :
    Calls Try.prog 34 #[.slice a len cap] w (GotPs2 w) := by
  go_enter Try.func34, Try.ntmps34
  go_wp2_with fail
  refine (open_any _ _ _ _ _ h).mono ?_
  rintro e w1 ⟨g, rfl, I⟩
  have hg1 := I.rd.lt_
  clear h
  go_wp2_with fail
  refine (l93Pairs_any I (by omega)).mono ?_
  rintro e w2 ⟨A, ps, n, c, q, rfl, hl, hn, hb, hq, I2, hs, hc1, hc2, hown⟩
  have HL := Lib.hid hl
  have HB := Lib.hid hb
  clear hl hb I
  go_wp2_with fail
  refine (l93Two_any I2 (by omega)).mono ?_
  rintro e w3 ⟨x, y, q3, rfl, hx, hy, hq3, I3, G3⟩
  have hown3 := own_grown hown G3 hg1
  obtain ⟨A', c', e, _, _, _, hrow⟩ := own_sliceN hown3
  injection e with e1 e2 e3
  subst e1 e3
  clear e2 I2 G3 hown hown3
  go_wp2_with fail
  refine bodyPost_ret (v := .tuple #[.slice A n c, .int .i64 x, .int .i64 y]) (by simp [results, Try.results34, go_sem]) rfl ⟨A, ps, n, c, x, y, rfl, HL.out, hn, HB.out, hc1, hc2, hx, hy, hrow, I3.bel⟩

def GotP2 (w : World) (e : Ending) (w' : World) : Prop :=
  ∃ (p : Pr) (x y : Int), e = .returned (.tuple #[prV p, .int .i64 x, .int .i64 y]) ∧ shortPr p ∧ (-10 ≤ x ∧ x ≤ 10) ∧ (-10 ≤ y ∧ y ≤ 10) ∧ Below w.heap.size w w'
set_option maxHeartbeats 1000000 in
theorem DrawPairError_any (a : Option Addr) (len cap : Nat) (zs : List Int) (w : World) (h : IsRow .u8 w a len cap zs) :
    Calls Try.prog 27 #[.slice a len cap] w (GotP2 w) := by
  have B0 := Blk.new w 27 #[.string ⟨#[]⟩, .string ⟨#[]⟩]
  go_enter Try.func27, Try.ntmps27
  go_wp2_with fail
  refine (open_any _ _ _ _ _ (h.alloc _)).mono ?_
  rintro e w1 ⟨g, rfl, I⟩
  have hg1 := I.rd.lt_
  have hat := I.at_
  clear h
  go_wp2_with fail
  refine (l93Pair_any I (by omega)).mono ?_
  rintro e w2 ⟨⟨pa, pb⟩, q, rfl, hsh, hq, I2, G2⟩
  have HSH := Lib.hid hsh
  have hs2 := G2.size
  clear I G2 hsh
  simp only [prV]
  go_wp2_with fail
  have B2 := Blk.new w2 27 #[.string pa, .string pb]
  refine (l93Two_any (I2.alloc _) (by omega)).mono ?_
  rintro e w3 ⟨x, y, q3, rfl, hx, hy, hq3, I3, G3⟩
  have B3 := B2.grown_ G3 (by omega)
  have k0 : w3.cell? ⟨w2.heap.size, 0, none⟩ = some (.string pa) := by simpa using B3.cell 0
  have k1 : w3.cell? ⟨w2.heap.size, 1, none⟩ = some (.string pb) := by simpa using B3.cell 1
  have B0' : Blk w3 w.heap.size 27 #[.string ⟨#[]⟩, .string ⟨#[]⟩] := (I3.bel.block w.heap.size (by simp)).trans B0
  have c0 : w3.cell? ⟨w.heap.size, 0, none⟩ = some (.string ⟨#[]⟩) := by simpa using B0'.cell 0
  have c1 : w3.cell? ⟨w.heap.size, 1, none⟩ = some (.string ⟨#[]⟩) := by simpa using B0'.cell 1
  have f0 := B0'.frozen 0
  have f1 := B0'.frozen 1
  have hb3 : Below w.heap.size w w3 := ((Below.refl _ _).alloc (Nat.le_refl _) _).trans (I3.bel.mono (by simp))
  clear I2 G3 B2 B3 B0 B0' I3
  go_wp2_with fail
  refine bodyPost_ret (v := .tuple #[.agg #[.string pa, .string pb], .int .i64 x, .int .i64 y]) (by simp [results, Try.results27, go_sem, c0, c1]) rfl ⟨(pa, pb), x, y, rfl, HSH.out, hx, hy, (hb3.setCell (Nat.le_refl _) _).setCell (Nat.le_refl _) _⟩

end Go.Proofs.Ytkpgbombikgffaa
