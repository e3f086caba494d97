/- The plain laws on further seats: what FnLevel and FnLevelDone say of lists. The conditions stand in each theorem. -/
import Derived.Test.YtjanmgiliooocaaE9
namespace Go.Proofs.Ytjanmgiliooocaa
open Man
set_option linter.unusedVariables false

theorem pos_mem : ∀ (l : List Int), (∀ z ∈ l, 0 ≤ z) → 0 < sumI l → ∃ i, ∃ h : i < l.length, 0 < l[i]
  | [], _, h => by simp [sumI] at h
  | z :: l, hn, h => by
    by_cases hz : 0 < z
    · exact ⟨0, by simp, hz⟩
    · have h0 := hn z (List.mem_cons_self ..)
      simp only [sumI] at h
      obtain ⟨i, hi, hp⟩ := pos_mem l (fun y hy => hn y (List.mem_cons_of_mem _ hy)) (by omega)
      exact ⟨i + 1, by simpa using hi, by simpa using hp⟩
theorem atZ_out (l : List Int) (k : Int) (h : (l.length : Int) ≤ k) : atZ l k = 0 := by
  unfold atZ
  rw [List.getD_eq_getElem?_getD, List.getElem?_eq_none (by omega)]
  rfl
/-- What is known when further seats may be asked. -/
structure LevF (vs : List (List Int)) (s F : Int) (me : Int) (lots : List Int) (n : Nat) : Prop where
  hm : 1 ≤ me
  L : Lots n lots
  G : Seats n (givL vs s me lots)
  gs : sumI (givL vs s me lots) = s * (vs.length : Int)
  vv : vvB (tog n vs) = true
  lB : ltB lots = true
  mB : meB me = true
  ll : lots.length = n
  dvv : dvB vs = true
  dss : dsB vs s me lots = true
theorem levF_of {vs : List (List Int)} {s F me : Int} {lots : List Int} (h : dlB vs s F me lots = true) : LevF vs s F me lots (wid vs) := by
  obtain ⟨h1, h2, h3⟩ := dlB_of h
  obtain ⟨g1, g2, g3, g4, g5, g6⟩ := dsB_of h1
  obtain ⟨G, hg⟩ := giv_ok h1
  have L := lots_of g5
  rw [g6] at L
  exact ⟨me_one g4, L, G, hg, (dvB_of g1).2.2.2, g5, g4, g6, g1, h1⟩
theorem level_ok {vs : List (List Int)} {s me : Int} {lots : List Int} {F : Nat} {n : Nat} (H : LevF vs s F me lots n) (hF : s * (vs.length : Int) + (F : Int) ≤ 20) {k : Nat} (hk : k < n)
    (h1 : k < (lev (tog n vs) me lots (givL vs s me lots) F).length) (h2 : k < (lev (tog n vs) me lots (givL vs s me lots) (F - 1)).length) (h3 : k < (tog n vs).length) :
    ((tog n vs)[k] = 0 → (lev (tog n vs) me lots (givL vs s me lots) F)[k] = 0) ∧ (lev (tog n vs) me lots (givL vs s me lots) (F - 1))[k] ≤ (lev (tog n vs) me lots (givL vs s me lots) F)[k] := by
  obtain ⟨hm, L, G, gs, vv, _, _, _, _, _⟩ := H
  have e1 := lev_at (v := tog n vs) hm L G (p := (k : Int)) (by omega) F
  have e2 := lev_at (v := tog n vs) hm L G (p := (k : Int)) (by omega) (F - 1)
  rw [atZ_nat _ h1] at e1
  rw [atZ_nat _ h2] at e2
  constructor
  · intro hz
    obtain ⟨b1, b2, b3, b4⟩ := vvB_of vv
    obtain ⟨i, hi, hp⟩ := pos_mem _ (fun z hz => (b1 z hz).1) b4
    rw [tog_len] at hi
    have hj := L.all i hi
    have := alloc_none (v := tog n vs) hm L G (j := (i : Int)) (p := (k : Int)) hj (by rw [atZ_nat _ (by rw [tog_len]; exact hi)]; exact hp) (by rw [atZ_nat _ h3]; exact hz) (by omega) F
    omega
  · cases F with
    | zero => exact Int.le_refl _
    | succ F =>
      have := alloc_mono (v := tog n vs) hm L G F (k : Int) (by omega)
      simp only [Nat.add_sub_cancel] at e2 ⊢
      omega
theorem lev_all {vs : List (List Int)} {s me : Int} {lots : List Int} {F : Nat} {n : Nat} (H : LevF vs s F me lots n) (hF : s * (vs.length : Int) + (F : Int) ≤ 20) (h0 : 0 ≤ s * (vs.length : Int)) :
    sumI (lev (tog n vs) me lots (givL vs s me lots) F) = (F : Int) ∧ ∀ z ∈ lev (tog n vs) me lots (givL vs s me lots) F, 0 ≤ z ∧ z ≤ 99 := by
  obtain ⟨hm, L, G, gs, vv, _, _, _, _, _⟩ := H
  have hs := lev_sum (v := tog n vs) hm L G F
  refine ⟨hs, fun z hz => ?_⟩
  obtain ⟨i, hi, rfl⟩ := List.getElem_of_mem hz
  have hi2 : i < (alloc (tog n vs) me lots (givL vs s me lots) F).length := by
    rw [(alloc_seats (v := tog n vs) hm L G F).len]
    rw [lev_len, G.len] at hi
    exact hi
  have b := lev_bd (v := tog n vs) hm L G F i hi hi2
  have S := alloc_seats (v := tog n vs) hm L G F
  have ha := alloc_sum (v := tog n vs) hm L G F
  have := mem_le_sum (m := 20) (seats_mem S) (by omega) _ (List.getElem_mem hi2)
  omega

/-- The seats of the whole less those of the districts, the first k places. -/
def resL (x : List Int) (ap : List (List Int)) (k : Nat) : List Int := (List.range k).map (fun j : Nat => atZ x (j : Int) - colS j ap)
theorem resL_len (x : List Int) (ap : List (List Int)) (k : Nat) : (resL x ap k).length = k := by simp [resL]
theorem resL_snoc (x : List Int) (ap : List (List Int)) (k : Nat) : resL x ap (k + 1) = resL x ap k ++ [atZ x (k : Int) - colS k ap] := by
  unfold resL
  rw [List.range_succ, List.map_append]
  rfl
theorem colS_take (i : Nat) : ∀ (rows : List (List Int)) (a : Nat) (h : a < rows.length), colS i (rows.take (a + 1)) = colS i (rows.take a) + rows[a].getD i 0
  | r :: rows, 0, _ => by simp [colS]
  | r :: rows, a + 1, h => by
    have ih := colS_take i rows a (by simpa using h)
    simp only [List.take_succ_cons, colS, List.getElem_cons_succ]
    rw [ih]
    omega
theorem done_eq {vs : List (List Int)} {s me : Int} {lots : List Int} {F : Nat} {n : Nat} (H : LevF vs s F me lots n) (hn : wid vs = n) (h0 : 0 ≤ s * (vs.length : Int)) (T : Nat) (hT : (T : Int) = s * (vs.length : Int) + (F : Int))
    (hnn : ∀ k, k < n → 0 ≤ atZ (alloc (tog n vs) me lots (zerosL n) T) (k : Int) - colS k (apL vs s me lots)) :
    resL (alloc (tog n vs) me lots (zerosL n) T) (apL vs s me lots) n = lev (tog n vs) me lots (givL vs s me lots) F := by
  obtain ⟨hm, L, G, gs, vv, _, _, _, _, ds⟩ := H
  have hV : ∀ k, 0 ≤ atZ (tog n vs) k := (seats_of (fun z hz => ((vvB_of vv).1 z hz).1)).nn
  have hrow : ∀ r ∈ apL vs s me lots, r.length = n := fun r hr => (ap_len ds r hr).1.trans hn
  have hG : givL vs s me lots = tog n (apL vs s me lots) := by unfold givL; rw [hn]
  have hcol : ∀ k, k < n → atZ (givL vs s me lots) (k : Int) = colS k (apL vs s me lots) := fun k hk => by rw [hG]; exact tog_at hrow hk
  have hX := alloc_seats (v := tog n vs) hm L (seats_zeros n) T
  have hsx := alloc_sum (v := tog n vs) hm L (seats_zeros n) T
  rw [sumI_zeros] at hsx
  have hle : ∀ k, 0 ≤ k → atZ (givL vs s me lots) k ≤ atZ (alloc (tog n vs) me lots (zerosL n) T) k := fun k hk => by
    obtain ⟨i, rfl⟩ := Int.eq_ofNat_of_zero_le hk
    by_cases hi : i < n
    · have := hnn i hi
      rw [hcol i hi]
      omega
    · rw [atZ_out _ _ (by rw [G.len]; omega)]
      exact hX.nn _
  have hsame := alloc_same (v := tog n vs) hm L G (seats_zeros n) (fun k => atZ_zeros n k) hV T F (by rw [gs, hsx]; omega) hle
  refine List.ext_getElem (by rw [resL_len, lev_len, G.len]) fun k h1 h2 => ?_
  rw [resL_len] at h1
  have e := lev_at (v := tog n vs) hm L G (p := (k : Int)) (by omega) F
  rw [atZ_nat _ h2, hsame, hcol k h1] at e
  rw [e]
  simp [resL]

end Go.Proofs.Ytjanmgiliooocaa
