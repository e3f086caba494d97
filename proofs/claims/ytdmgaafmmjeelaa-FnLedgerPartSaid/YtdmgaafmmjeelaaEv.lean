/- Events as cells; what the laws' and the reference's small functions on them return; maps of events and of bools, as functions. The conditions stand in each theorem. -/
import Derived.Test.YtdmgaafmmjeelaaEvM
import Derived.Test.YtdmgaafmmjeelaaApp
import Derived.Maps.OwnSet
import Derived.Maps.OwnOps
import Derived.Maps.Views
namespace Go.Proofs.Ytdmgaafmmjeelaa
open Go.RowKit Go.ChangeShapes
set_option linter.unusedVariables false

def Says (w : World) (b : Bool) (e : Ending) (w' : World) : Prop := e = .returned (.bool b) ∧ Below w.heap.size w w'
theorem quiet_left {P : Program} {f : FuncId} {args : Array Value} {w : World} {n : Nat} {v : Value}
    (h : Calls P f args (w.drewN n) fun e w' => e = .returned v ∧ w.drewN n = w') : Calls P f args (w.drewN n) fun e w'' => e = .returned v ∧ ∃ m, w'' = w.drewN m :=
  h.mono fun _ _ ⟨he, hm⟩ => ⟨he, n, hm.symm⟩
theorem own_row {w : World} {base : Nat} {e : TypeId} {A : Option Addr} {n c : Nat} {xs : List Value} (h : w.ownsRow base e 1 (.slice A n c) n xs) : Row w w.heap.size A xs := by
  obtain ⟨_, _, he, _, _, _, hr⟩ := own_slice h
  injection he with e1
  rw [e1]
  exact hr

def evV (e : Ev) : Value := .agg #[.int .i64 e.bx, .int .i64 e.kd, .int .i64 e.sl, .int .i64 e.mn]
def evL (e : Ev) : List Value := [.int .i64 e.bx, .int .i64 e.kd, .int .i64 e.sl, .int .i64 e.mn]
def evCells (l : List Ev) : List Value := l.flatMap evL
theorem evCells_len (l : List Ev) : (evCells l).length = l.length * 4 := by
  induction l with
  | nil => rfl
  | cons e l ih =>
    simp only [evCells, List.flatMap_cons, List.length_append, evL, List.length_cons, List.length_nil] at ih ⊢
    omega
theorem evCells_at : ∀ (l : List Ev) (k : Nat) (h : k < l.length), (evCells l)[k * 4]? = some (.int .i64 l[k].bx) ∧ (evCells l)[k * 4 + 1]? = some (.int .i64 l[k].kd) ∧ (evCells l)[k * 4 + 2]? = some (.int .i64 l[k].sl) ∧ (evCells l)[k * 4 + 3]? = some (.int .i64 l[k].mn)
  | e :: l, 0, _ => ⟨rfl, rfl, rfl, rfl⟩
  | e :: l, k + 1, h => by
    have ih := evCells_at l k (by simpa using h)
    have e1 : (k + 1) * 4 = k * 4 + 1 + 1 + 1 + 1 := by omega
    have key : ∀ j, (evCells (e :: l))[k * 4 + 1 + 1 + 1 + 1 + j]? = (evCells l)[k * 4 + j]? := fun j => by
      rw [show k * 4 + 1 + 1 + 1 + 1 + j = k * 4 + j + 1 + 1 + 1 + 1 by omega]
      rfl
    rw [e1]
    have k0 := key 0
    rw [Nat.add_zero, Nat.add_zero] at k0
    rw [k0, key 1, key 2, key 3]
    simpa using ih
theorem evCells_app (l m : List Ev) : evCells (l ++ m) = evCells l ++ evCells m := by simp [evCells]
theorem evCells_take (l : List Ev) (k : Nat) : evCells (l.take k) = (evCells l).take (k * 4) := by
  induction l generalizing k with
  | nil => simp [evCells]
  | cons p l ih =>
    cases k with
    | zero => simp [evCells]
    | succ k =>
      show .int .i64 p.bx :: .int .i64 p.kd :: .int .i64 p.sl :: .int .i64 p.mn :: evCells (l.take k) = (Value.int .i64 p.bx :: .int .i64 p.kd :: .int .i64 p.sl :: .int .i64 p.mn :: evCells l).take ((k + 1) * 4)
      rw [ih k, show (k + 1) * 4 = k * 4 + 1 + 1 + 1 + 1 by omega]
      rfl
theorem ev_oneCell (l : List Ev) : ∀ u ∈ evCells l, u.oneCell' = true := by
  intro u hu
  obtain ⟨e, _, he⟩ := List.mem_flatMap.1 hu
  simp only [evL, List.mem_cons, List.not_mem_nil, or_false] at he
  rcases he with rfl | rfl | rfl | rfl <;> rfl
theorem ev_at {w : World} {B : Nat} {A : Option Addr} {l : List Ev} (h : Row w B A (evCells l)) {k : Nat} (hk : k < l.length) :
    ∃ b off, A = some ⟨b, off, none⟩ ∧ b < B ∧ w.cell? ⟨b, off + k * 4, none⟩ = some (.int .i64 l[k].bx) ∧ w.cell? ⟨b, off + k * 4 + 1, none⟩ = some (.int .i64 l[k].kd) ∧ w.cell? ⟨b, off + k * 4 + 2, none⟩ = some (.int .i64 l[k].sl) ∧ w.cell? ⟨b, off + k * 4 + 3, none⟩ = some (.int .i64 l[k].mn) := by
  rcases h with h | ⟨b, off, e, hb, hc⟩
  · have := evCells_len l
    rw [h] at this
    simp at this
    omega
  · have h1 := evCells_at l k hk
    exact ⟨b, off, e, hb, hc _ _ h1.1, hc _ _ h1.2.1, hc _ _ h1.2.2.1, hc _ _ h1.2.2.2⟩

set_option maxHeartbeats 1000000 in
theorem l1Has_any (A : Option Addr) (n c : Nat) (zs : List Int) (x : Int) (w : World) (hn : zs.length = n) (hm : n ≤ 1048576) (ha : Row w w.heap.size A (zs.map (Value.int .i64))) :
    Calls Try.prog 48 #[.slice A n c, .int .i64 x] w fun e w' => e = .returned (.bool (hasB zs x)) ∧ w = w' := by
  have HN := Lib.hid hn
  clear hn
  go_enter Try.func48, Try.ntmps48
  go_wp2
  go_loop [5] (fun i => ∃ k : Nat, k ≤ n ∧ i = .int .i64 k ∧ Hid (x ∉ zs.take k)) (fun i => n - (intOf i).toNat)
  case atStart => exact ⟨0, Nat.zero_le _, rfl, by simp [Hid]⟩
  case round =>
    obtain ⟨k, hk, rfl, HX⟩ := hrel
    by_cases hlt : k < n
    · have hl : k < zs.length := by rw [HN.out]; exact hlt
      obtain ⟨b, off, rfl, hbw, hc⟩ := int_at ha hl
      clear ha
      by_cases hx : zs[k] = x
      · have HQ : Hid (hasB zs x = true) := (hasB_iff zs x).2 (hx ▸ List.getElem_mem hl)
        rw [hx] at hc
        clear hx
        go_wp2
        go_ret
        exact ⟨ret_bool HQ.out.symm, rfl⟩
      · have q1 : (zs[k] == x) = false := by simpa using hx
        have HQ := Lib.hid hx
        clear hx
        go_wp2
        go_round
        case rel =>
          refine ⟨k + 1, by omega, by go_num, ?_⟩
          show x ∉ zs.take (k + 1)
          rw [List.take_succ_eq_append_getElem hl]
          simp only [List.mem_append, List.mem_singleton, not_or]
          exact ⟨HX.out, fun e => HQ.out e.symm⟩
        case measure => simp [intOf]; omega
    · have HQ : Hid (hasB zs x = false) := by
        have := HX.out
        rw [List.take_of_length_le (by rw [HN.out]; omega)] at this
        exact hasB_no this
      go_wp2
      go_ret
      exact ⟨ret_bool HQ.out.symm, rfl⟩

/-- How an event in a map reads. -/
def evD (e : Ev) : DataW Unit := .agg [.lit (.int .i64 e.bx), .lit (.int .i64 e.kd), .lit (.int .i64 e.sl), .lit (.int .i64 e.mn)]
def evR (v : Value) : Option (DataW Unit × List MemPlace) := match v with
  | .agg cs => (match cs.toList with
    | [.int .i64 a, .int .i64 b, .int .i64 c, .int .i64 d] => some (evD ⟨a, b, c, d⟩, [])
    | _ => none)
  | _ => none
theorem evR_mk (e : Ev) : evR (evV e) = some (evD e, []) := rfl
theorem evR_inv {v : Value} {e : Ev} {ps : List MemPlace} (h : evR v = some (evD e, ps)) : v = evV e := by
  unfold evR at h
  split at h
  · rename_i cs
    split at h
    · rename_i a b c d hc
      obtain ⟨l⟩ := cs
      simp only at hc
      subst hc
      simp only [Option.some.injEq, Prod.mk.injEq, evD, DataW.agg.injEq, List.cons.injEq, DataW.lit.injEq, Lit.int.injEq, true_and, and_true] at h
      obtain ⟨⟨h1, h2, h3, h4⟩, _⟩ := h
      rw [h1, h2, h3, h4]
      rfl
    · cases h
  · cases h
def boR (v : Value) : Option (DataW Unit × List MemPlace) := match v with
  | .bool b => some (.lit (.bool b), [])
  | _ => none
theorem boR_inv {v : Value} {b : Bool} {ps : List MemPlace} (h : boR v = some (.lit (.bool b), ps)) : v = .bool b := by
  unfold boR at h
  split at h
  · simp only [Option.some.injEq, Prod.mk.injEq, DataW.lit.injEq, Lit.bool.injEq] at h
    rw [h.1]
  · cases h
/-- A map of events, as a function of the key. -/
def MapE (D : DataW Unit) (f : Int → Option Ev) : Prop := Maps.IsMap D ∧ ∀ k : Int, Maps.has D (.int .i64 k) = (f k).isSome ∧ D.atKey (.int .i64 k) (evD evZ) = evD ((f k).getD evZ)
def MapB (D : DataW Unit) (f : Int → Bool) : Prop := Maps.IsMap D ∧ ∀ k : Int, D.atKey (.int .i64 k) (.lit (.bool false)) = .lit (.bool (f k))
theorem MapE.empty : MapE (.map []) (fun _ => none) := ⟨Maps.isMap_empty, fun k => ⟨rfl, rfl⟩⟩
theorem MapB.empty : MapB (.map []) (fun _ => false) := ⟨Maps.isMap_empty, fun k => rfl⟩
theorem intKey (k : Int) : WideAt.IsKeyLit (.int .i64 k) := trivial
theorem MapE.put {D : DataW Unit} {f : Int → Option Ev} (h : MapE D f) (k : Int) (e : Ev) : MapE (D.put (.int .i64 k) (evD e)) (fun x => if x = k then some e else f x) := by
  refine ⟨h.1.put _ _, fun x => ?_⟩
  by_cases hx : x = k
  · subst hx
    rw [Maps.has_put_same h.1 (intKey x), Maps.atKey_put_same h.1 (intKey x)]
    simp
  · have hne : Lit.int .i64 x ≠ Lit.int .i64 k := fun e => hx (by injection e)
    rw [Maps.has_put_other hne, Maps.atKey_put_other hne]
    simpa [hx] using h.2 x
theorem MapB.put {D : DataW Unit} {f : Int → Bool} (h : MapB D f) (k : Int) : MapB (D.put (.int .i64 k) (.lit (.bool true))) (fun x => if x = k then true else f x) := by
  refine ⟨h.1.put _ _, fun x => ?_⟩
  by_cases hx : x = k
  · subst hx
    rw [Maps.atKey_put_same h.1 (intKey x)]
    simp
  · have hne : Lit.int .i64 x ≠ Lit.int .i64 k := fun e => hx (by injection e)
    rw [Maps.atKey_put_other hne]
    simpa [hx] using h.2 x

end Go.Proofs.Ytdmgaafmmjeelaa
