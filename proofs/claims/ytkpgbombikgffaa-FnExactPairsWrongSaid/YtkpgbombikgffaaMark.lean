/- What the laws' helpers markText and markPairS do: some text; all texts of a row of pairs set anew, and nothing else turned. The conditions stand in each theorem. -/
import Derived.Test.YtkpgbombikgffaaBText
import Derived.Test.YtkpgbombikgffaaPair2
namespace Go.Proofs.Ytkpgbombikgffaa
open Go.RowKit Go.ChangeShapes
set_option linter.unusedVariables false

theorem text_byte (v : Int) (h0 : 0 ≤ v) (h1 : v < 256) (w : World) : (convert 22 9 (.slice (some ⟨w.heap.size, 0, none⟩) 1 1)).run Try.prog (w.alloc (.cells #[.int .u8 v] 5)) = .ok (.string ⟨#[UInt8.ofNat v.toNat]⟩) (w.alloc (.cells #[.int .u8 v] 5)) := by
  have h := run_convert_bytes_back (P := Try.prog) (w.alloc (.cells #[.int .u8 v] 5)) 22 9 5 ⟨w.heap.size, 0, none⟩ 1 [UInt8.ofNat v.toNat] Try.underlying22 Try.underlying5 Try.underlying9 (fun j hj => by
    have hj0 : j = 0 := by simp at hj; omega
    subst hj0
    have e : ((UInt8.ofNat v.toNat).toNat : Int) = v := by
      have : (UInt8.ofNat v.toNat).toNat = v.toNat % 256 := rfl
      rw [this]
      omega
    simp only [List.getElem_cons_zero, e]
    simp [Addr.add])
  exact h
theorem u8_in (v : Int) (h0 : 0 ≤ v) (h1 : v < 256) : IntKind.u8.wrap v = v := by
  show v % 256 = v
  omega

def SomeS (w : World) (e : Ending) (w' : World) : Prop := ∃ s : ByteArray, e = .returned (.string s) ∧ Below w.heap.size w w'
set_option maxRecDepth 100000 in
set_option maxHeartbeats 1000000 in
theorem markText_any (k : Int) (w : World) (h0 : 0 ≤ k) (h1 : k ≤ 9999999) :
    Calls Try.prog 62 #[.int .i64 k] w (SomeS w) := by
  by_cases hk : k ≤ 0
  · go_enter Try.func62, Try.ntmps62
    go_wp2_with fail
    go_ret
    exact ⟨_, rfl, Below.refl _ _⟩
  have dk : decide (k ≤ 0) = false := by simpa using hk
  go_enter Try.func62, Try.ntmps62
  go_wp2_with fail
  go_loopw [0, 3] (fun t s wx => ∃ (x : Nat) (b : ByteArray), t = .int .i64 x ∧ s = .string b ∧ x ≤ 9999999 ∧ b.size ≤ 8 ∧ Hid (x * 10 ^ b.size ≤ 9999999) ∧ Below w.heap.size w wx) (fun t _ _ => (intOf t).toNat)
  case atStart =>
    refine ⟨k.toNat, ⟨#[]⟩, by rw [Int.toNat_of_nonneg h0], rfl, by omega, Nat.zero_le _, ?_, Below.refl _ _⟩
    show k.toNat * 10 ^ 0 ≤ _
    omega
  case round =>
    obtain ⟨x, b, rfl, rfl, hx, hbs, HX, hbel⟩ := hrel
    by_cases hpos : 0 < x
    · have hb7 : b.size ≤ 6 := by
        have h := HX.out
        by_cases h7 : b.size ≤ 6
        · exact h7
        · have h10 : 10 ^ 7 ≤ 10 ^ b.size := Nat.pow_le_pow_right (by omega) (by omega)
          have h11 : 1 * 10 ^ 7 ≤ x * 10 ^ b.size := Nat.mul_le_mul hpos h10
          omega
      have m0 := Int.emod_nonneg (x : Int) (show (10 : Int) ≠ 0 by omega)
      have m1 := Int.emod_lt_of_pos (x : Int) (show (0 : Int) < 10 by omega)
      have hcv := text_byte (48 + (x : Int) % 10) (by omega) (by omega) wr
      have hw8 := u8_in (48 + (x : Int) % 10) (by omega) (by omega)
      go_wp2_with fail
      go_roundw
      case rel =>
        have hsz : ∀ q : UInt8, ((⟨#[q]⟩ : ByteArray) ++ b).size = b.size + 1 := fun q => by
          rw [ByteArray.size_append]
          show 1 + b.size = _
          omega
        refine ⟨x / 10, _, rfl, rfl, by omega, by rw [hsz]; omega, ?_, hbel.alloc hbel.size _⟩
        show x / 10 * 10 ^ _ ≤ _
        rw [hsz, Nat.pow_succ, Nat.mul_comm (10 ^ b.size) 10, ← Nat.mul_assoc]
        exact Nat.le_trans (Nat.mul_le_mul_right _ (by omega)) HX.out
      case measure => simp [intOf]; omega
    · obtain rfl : x = 0 := by omega
      go_wp2_with fail
      go_ret
      exact ⟨_, rfl, hbel⟩


theorem grown_below {a b c : World} {row : Option Nat} (h : a.grownBy b row) (hb : Below b.heap.size b c) : a.grownBy c row :=
  ⟨hb.os.trans h.os, hb.tape.trans h.tape, hb.output.trans h.output, Nat.le_trans h.size hb.size, fun k hk hne => (hb.block k (Nat.lt_of_lt_of_le hk h.size)).trans (h.block k hk hne)⟩
theorem cells_set {w : World} {g off n : Nat} (h : ∀ t, t < n → (∃ u, w.cell? ⟨g, off + t, none⟩ = some u) ∧ w.frozen? ⟨g, off + t, none⟩ = false) (i : Nat) (v : Value) :
    ∀ t, t < n → (∃ u, (w.setCell ⟨g, i, none⟩ v).cell? ⟨g, off + t, none⟩ = some u) ∧ (w.setCell ⟨g, i, none⟩ v).frozen? ⟨g, off + t, none⟩ = false := fun t ht => by
  obtain ⟨⟨u, hu⟩, hf⟩ := h t ht
  refine ⟨?_, by rw [World.frozen?_setCell]; exact hf⟩
  by_cases e : off + t = i
  · subst e
    exact ⟨_, World.cell?_setCell_same _ _ _ hu⟩
  · exact ⟨u, (World.cell?_setCell_other _ _ _ _ (fun e' => e (by injection e' with _ e2 _; omega))).trans hu⟩
/-- All texts of the pairs set anew. -/
def MarkedP (w : World) (A : Option Addr) (e : Ending) (w' : World) : Prop :=
  ∃ r : Int, e = .returned (.int .i64 r) ∧ 0 ≤ r ∧ w.grownBy w' (onBlock A)
set_option maxHeartbeats 1000000 in
theorem markPairS_any (A : Option Addr) (n c : Nat) (w : World) (hm : n ≤ 1048576) (hw : Wr w A (n * 2)) :
    Calls Try.prog 39 #[.slice A n c, .int .i64 1] w (MarkedP w A) := by
  rcases hw with h0 | ⟨g, off, rfl, hg, hw⟩
  · obtain rfl : n = 0 := by omega
    go_enter Try.func39, Try.ntmps39
    go_wp2_with fail
    go_loop [1, 5] (fun s i => s = .int .i64 1 ∧ i = .int .i64 0) (fun _ _ => 0)
    case atStart => exact ⟨rfl, rfl⟩
    case round =>
      obtain ⟨rfl, rfl⟩ := hrel
      go_wp2_with fail
      go_ret
      exact ⟨1, rfl, by omega, World.grownBy.refl w _⟩
  · have HW := Lib.hid hw
    clear hw
    go_enter Try.func39, Try.ntmps39
    go_wp2_with fail
    go_loopw [1, 5] (fun s i wx => ∃ j : Nat, j ≤ n ∧ i = .int .i64 j ∧ s = .int .i64 (1 + 2 * (j : Int)) ∧ w.grownBy wx (some g) ∧ Hid (∀ t, t < n * 2 → (∃ u, wx.cell? ⟨g, off + t, none⟩ = some u) ∧ wx.frozen? ⟨g, off + t, none⟩ = false)) (fun _ i _ => n - (intOf i).toNat)
    case atStart => exact ⟨0, Nat.zero_le _, rfl, by simp, World.grownBy.refl w _, HW⟩
    case round =>
      obtain ⟨j, hj, rfl, rfl, hgr, HC⟩ := hrel
      have hgw : g < wr.heap.size := Nat.lt_of_lt_of_le hg hgr.size
      by_cases hlt : j < n
      · go_wp2_with fail
        refine (markText_any _ _ (by omega) (by omega)).mono ?_
        rintro e w2 ⟨s, rfl, hb2⟩
        have HC2 : Hid (∀ t, t < n * 2 → (∃ u, w2.cell? ⟨g, off + t, none⟩ = some u) ∧ w2.frozen? ⟨g, off + t, none⟩ = false) := fun t ht => by
          obtain ⟨⟨u, hu⟩, hf⟩ := HC.out t ht
          exact ⟨⟨u, (hb2.cell (p := ⟨g, off + t, none⟩) hgw).trans hu⟩, (hb2.frozen (p := ⟨g, off + t, none⟩) hgw).trans hf⟩
        have hgr2 : w.grownBy w2 (some g) := grown_below hgr hb2
        obtain ⟨⟨u0, hu0⟩, hf0⟩ := HC2.out (j * 2) (by omega)
        have hg2 : g < w2.heap.size := Nat.lt_of_lt_of_le hgw hb2.size
        have HG3 := Lib.hid (only_set hgr2 (off + j * 2) (.string s))
        have HC3 := Lib.hid (cells_set HC2.out (off + j * 2) (.string s))
        clear HC HC2 hb2 hgr2
        go_wp2_with fail
        have hg3 : g < (w2.setCell ⟨g, off + j * 2, none⟩ (.string s)).heap.size := by simpa [World.setCell] using hg2
        generalize w2.setCell ⟨g, off + j * 2, none⟩ (.string s) = w3 at *
        refine (markText_any _ _ (by omega) (by omega)).mono ?_
        rintro e w4 ⟨s', rfl, hb4⟩
        have HC4 : Hid (∀ t, t < n * 2 → (∃ u, w4.cell? ⟨g, off + t, none⟩ = some u) ∧ w4.frozen? ⟨g, off + t, none⟩ = false) := fun t ht => by
          obtain ⟨⟨u, hu⟩, hf⟩ := HC3.out t ht
          exact ⟨⟨u, (hb4.cell (p := ⟨g, off + t, none⟩) hg3).trans hu⟩, (hb4.frozen (p := ⟨g, off + t, none⟩) hg3).trans hf⟩
        have hgr4 : w.grownBy w4 (some g) := grown_below HG3.out hb4
        obtain ⟨⟨u1, hu1⟩, hf1⟩ := HC4.out (j * 2 + 1) (by omega)
        have hu1' : w4.cell? ⟨g, off + j * 2 + 1, none⟩ = some u1 := hu1
        have hf1' : w4.frozen? ⟨g, off + j * 2 + 1, none⟩ = false := hf1
        have HG5 := Lib.hid (only_set hgr4 (off + j * 2 + 1) (.string s'))
        have HC5 := Lib.hid (cells_set HC4.out (off + j * 2 + 1) (.string s'))
        clear HC3 HC4 hb4 hgr4 HG3 hu0 hf0 hu1 hf1
        go_wp2_with fail
        go_roundw
        case rel => exact ⟨j + 1, by omega, by go_num, by go_num, HG5.out, HC5⟩
        case measure => simp [intOf]; omega
      · go_wp2_with fail
        go_ret
        exact ⟨_, rfl, by omega, hgr⟩

end Go.Proofs.Ytkpgbombikgffaa
