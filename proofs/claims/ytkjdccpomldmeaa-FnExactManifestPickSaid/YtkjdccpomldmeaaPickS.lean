/- Rows of the call's own behind the library's sort and compacting, and what slices.Clip returns. The conditions stand in each theorem. -/
import Derived.Test.YtkjdccpomldmeaaPickP
import Derived.Test.YtkjdccpomldmeaaShelf
import Derived.Sort.OwnSortedInts
namespace Go.Proofs.Ytkjdccpomldmeaa
open Go.RowKit Go.ChangeShapes
set_option linter.unusedVariables false

theorem own_holds {w : World} {base g cap : Nat} {e : TypeId} {ss : List Int} (h : w.ownsRow base e 1 (.slice (some ⟨g, 0, none⟩) ss.length cap) ss.length (ss.map (Value.int .i64))) : Sort.Holds (Value.int .i64) w g 0 ss.toArray ∧ g < w.heap.size ∧ base ≤ g ∧ ss.length ≤ cap ∧ cap ≤ maxLen := by
  rcases h.2 with ⟨h0, _⟩ | ⟨g', cap', cur, hv, hb, hh, h1, h2, h3, h4⟩
  · cases h0
  · cases hv
    refine ⟨holds_of_blockI hh (by simpa using h4), ?_, hb, h1, h2⟩
    by_cases hlt : g < w.heap.size
    · exact hlt
    · rw [Array.getElem?_eq_none (by omega)] at hh
      cases hh
theorem own_resorted {w : World} {base g cap n : Nat} {e : TypeId} {os : Array Obj} {ss ts : List Int} (h : w.ownsRow base e 1 (.slice (some ⟨g, 0, none⟩) ss.length cap) ss.length (ss.map (Value.int .i64))) (hl : ts.length = ss.length) :
    (Sort.grow (Sort.putRow (Value.int .i64) (Sort.ahead w n) g 0 ts.toArray) os).ownsRow base e 1 (.slice (some ⟨g, 0, none⟩) ss.length cap) ss.length (ts.map (Value.int .i64)) := by
  rcases h.2 with ⟨h0, _⟩ | ⟨g', cap', cur, hv, hb, hh, h1, h2, h3, h4⟩
  · cases h0
  · cases hv
    exact ownsRow_sortedI hl hb hh h1 h2 h3
theorem Clip_any (A : Option Addr) (n c : Nat) (w : World) (hc : n ≤ c) (hm : c ≤ maxLen) :
    Calls Try.prog 33 #[.slice A n c] w fun e w' => e = .returned (.slice A n n) ∧ w = w' := by
  unfold maxLen at hm
  go_enter Try.func33, Try.ntmps33
  go_wp2
  go_ret
  exact ⟨rfl, rfl⟩

section
open Man
/-- A slice that reads as the batches, in memory of the call's own that may be written, and whether there is a sample. -/
def Picks (w : World) (zs : List Int) (m s : Int) (e : Ending) (w' : World) : Prop :=
  ∃ (A : Option Addr) (k c : Nat), e = .returned (.tuple #[.slice A k c, .bool (smpB (tot zs) m s)]) ∧ (pickL zs m s).length = k ∧ Row w' w'.heap.size A ((pickL zs m s).map (Value.int .i64)) ∧ Wr w' A k ∧ (∀ ad, A = some ad → w.heap.size ≤ ad.block) ∧ Below w.heap.size w w'
theorem Picks.none_ {w w' : World} {zs : List Int} {m s : Int} (h : ¬ okS (tot zs) m s) (hb : Below w.heap.size w w') : Picks w zs m s (.returned (.tuple #[.slice none 0 0, .bool false])) w' :=
  ⟨none, 0, 0, ret_sb (smp_out h).2.symm, by rw [pickL_no h]; rfl, .inl (by rw [pickL_no h]; rfl), .inl rfl, (fun _ h => by cases h), hb⟩
theorem Picks.of_ {w w' : World} {zs : List Int} {m s : Int} {v : Value} {k : Nat} {base : Nat} (h : okS (tot zs) m s) (hown : w'.ownsRow base 3 1 v k ((pickL zs m s).map (Value.int .i64))) (hb : w.heap.size ≤ base) (hbel : Below w.heap.size w w') : Picks w zs m s (.returned (.tuple #[v, .bool true])) w' := by
  have hob := own_block hown
  obtain ⟨A, c, rfl, h1, h2, h3, hr⟩ := own_slice hown
  exact ⟨A, k, c, ret_sb (smp_in h).2.symm, by simpa using h3, hr, own_wr hown, fun ad e => Nat.le_trans hb (hob ad.block (by subst e; rfl)).1, hbel⟩

end

end Go.Proofs.Ytkjdccpomldmeaa
