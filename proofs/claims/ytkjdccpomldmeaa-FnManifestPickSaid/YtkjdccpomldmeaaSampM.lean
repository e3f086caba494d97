/- Drawing ballots one after the other: plain facts on the list of those that are left and of those that are drawn. -/
import Derived.Test.YtkjdccpomldmeaaMan
namespace Go.Proofs.Ytkjdccpomldmeaa
set_option linter.unusedVariables false

/-- The state of the generator, the ballots left, those drawn. -/
structure Dr where
  st : Int
  left : List Int
  out : List Int
def Dr.place (x : Dr) : Nat := (nxt x.st % (x.left.length : Int)).toNat
def Dr.step (x : Dr) : Dr := ⟨nxt x.st, x.left.eraseIdx x.place, x.out ++ [x.left.getD x.place 0]⟩
def run (n : Nat) (seed : Int) : Nat → Dr
  | 0 => ⟨seed, (List.range n).map (fun i : Nat => (i : Int)), []⟩
  | k + 1 => (run n seed k).step
theorem Dr.place_lt {x : Dr} (h : 0 < x.left.length) : x.place < x.left.length := by
  unfold Dr.place
  have h1 := Int.emod_nonneg (nxt x.st) (show (x.left.length : Int) ≠ 0 by omega)
  have h2 := Int.emod_lt_of_pos (nxt x.st) (show (0 : Int) < (x.left.length : Int) by omega)
  omega
theorem run_len (n : Nat) (seed : Int) : ∀ k, k ≤ n → (run n seed k).left.length = n - k ∧ (run n seed k).out.length = k
  | 0, _ => by simp [run]
  | k + 1, h => by
    obtain ⟨h1, h2⟩ := run_len n seed k (by omega)
    have hp := Dr.place_lt (x := run n seed k) (by omega)
    refine ⟨?_, ?_⟩
    · show ((run n seed k).left.eraseIdx (run n seed k).place).length = _
      rw [List.length_eraseIdx_of_lt hp]
      omega
    · show ((run n seed k).out ++ [_]).length = _
      simp [h2]
theorem run_st (n : Nat) (seed : Int) (h0 : 0 ≤ seed) (h1 : seed ≤ 65536) : ∀ k, 0 ≤ (run n seed k).st ∧ (run n seed k).st ≤ 65536
  | 0 => ⟨h0, h1⟩
  | k + 1 => nxt_bd _
theorem run_perm (n : Nat) (seed : Int) : ∀ k, k ≤ n → ((run n seed k).out ++ (run n seed k).left).Perm ((List.range n).map (fun i : Nat => (i : Int)))
  | 0, _ => by simp [run]
  | k + 1, h => by
    have ih := run_perm n seed k (by omega)
    obtain ⟨h1, h2⟩ := run_len n seed k (by omega)
    have hp := Dr.place_lt (x := run n seed k) (by omega)
    refine List.Perm.trans ?_ ih
    show ((run n seed k).out ++ [(run n seed k).left.getD (run n seed k).place 0] ++ (run n seed k).left.eraseIdx (run n seed k).place).Perm _
    rw [List.append_assoc]
    refine List.Perm.append_left _ ?_
    have e : (run n seed k).left.getD (run n seed k).place 0 = (run n seed k).left[(run n seed k).place] := by simp [hp]
    rw [e]
    generalize (run n seed k).left = l at *
    generalize (run n seed k).place = q at *
    have hl : l = l.take q ++ l[q] :: l.drop (q + 1) := by simp
    have hx : l.eraseIdx q = l.take q ++ l.drop (q + 1) := List.eraseIdx_eq_take_drop_succ ..
    rw [hx]
    conv => rhs; rw [hl]
    exact (List.perm_middle (a := l[q]) (l₁ := l.take q) (l₂ := l.drop (q + 1))).symm
theorem run_out (n : Nat) (seed : Int) (k : Nat) (h : k ≤ n) : (run n seed k).out.Nodup ∧ ∀ x ∈ (run n seed k).out, 0 ≤ x ∧ x < (n : Int) := by
  have hp := run_perm n seed k h
  have hn : ((List.range n).map (fun i : Nat => (i : Int))).Nodup := by
    unfold List.Nodup
    rw [List.pairwise_map]
    exact List.Pairwise.imp (fun hab => by omega) (List.pairwise_lt_range (n := n))
  have h1 := hp.symm.nodup hn
  refine ⟨(List.nodup_append.1 h1).1, fun x hx => ?_⟩
  have h2 := hp.mem_iff.1 (List.mem_append_left _ hx)
  obtain ⟨i, hi, rfl⟩ := List.mem_map.1 h2
  have := List.mem_range.1 hi
  omega
theorem run_prefix (n : Nat) (seed : Int) (k : Nat) (h : k + 1 ≤ n) : (run n seed (k + 1)).out.take k = (run n seed k).out := by
  have h2 := (run_len n seed k (by omega)).2
  show ((run n seed k).out ++ [_]).take k = _
  rw [List.take_append_of_le_length (by omega), List.take_of_length_le (by omega)]
theorem run_first (n : Nat) (seed : Int) : ∀ k, k + 1 ≤ n → (run n seed (k + 1)).out.getD 0 0 = nxt seed % (n : Int)
  | 0, h => by
    have hp := Dr.place_lt (x := run n seed 0) (by simp [run]; omega)
    show ([] ++ [(run n seed 0).left.getD (run n seed 0).place 0]).getD 0 0 = _
    have e1 : (run n seed 0).left.length = n := by simp [run]
    have e2 : (run n seed 0).place = (nxt seed % (n : Int)).toNat := by
      unfold Dr.place
      rw [e1]
      rfl
    have h0 := Int.emod_nonneg (nxt seed) (show (n : Int) ≠ 0 by omega)
    rw [e1] at hp
    simp only [List.nil_append, List.getD_cons_zero]
    rw [e2] at hp ⊢
    show ((List.range n).map (fun i : Nat => (i : Int))).getD _ 0 = _
    rw [List.getD_eq_getElem?_getD, List.getElem?_map, List.getElem?_range hp]
    simp
    omega
  | k + 1, h => by
    have ih := run_first n seed k (by omega)
    have h2 := (run_len n seed (k + 1) (by omega)).2
    show ((run n seed (k + 1)).out ++ [_]).getD 0 0 = _
    rw [← ih, List.getD_eq_getElem?_getD, List.getElem?_append_left (by omega), ← List.getD_eq_getElem?_getD]

end Go.Proofs.Ytkjdccpomldmeaa
