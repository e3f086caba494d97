/- What AuditAccepts returns, the reference's and the program's, and what the laws' copies of rows of bools do. The conditions stand in each theorem. -/
import Derived.Test.YtjandooipgopoaaAud4
import Derived.Test.YtjandooipgopoaaMem
import Derived.Test.YtjandooipgopoaaChecked
import Derived.Deep.Grids
namespace Go.Proofs.Ytjandooipgopoaa
open Go.RowKit Go.ChangeShapes Go.WideShapes
set_option linter.unusedVariables false

theorem info_bool : (Try.prog.info? 4).map (fun i => (i.zero, i.size, i.bytes)) = some (some (.bool false), 1, 1) := by kernel_rfl

theorem bool_at {w : World} {B : Nat} {A : Option Addr} {bs : List Bool} (h : Row w B A (bs.map Value.bool)) {k : Nat} (hk : k < bs.length) : ∃ b off, A = some ⟨b, off, none⟩ ∧ b < B ∧ w.cell? ⟨b, off + k, none⟩ = some (.bool bs[k]) := by
  obtain ⟨b, off, e, hb, hc⟩ := h.at_ (k := k) (by simpa using hk)
  exact ⟨b, off, e, hb, by simpa using hc⟩

set_option maxHeartbeats 1000000 in
theorem toBoolS_any (A : Option Addr) (n c : Nat) (bs : List Bool) (w : World) (hn : bs.length = n) (hm : n ≤ 1048576) (hr : Row w w.heap.size A (bs.map Value.bool)) :
    Calls Try.prog 31 #[.slice A n c] w (Copied w n (bs.map Value.bool)) := by
  have hmk := run_make_row' (P := Try.prog) 36 4 (.bool false) 1 Try.underlying36 info_bool rfl .i64 .i64 n (by omega) (by omega)
  have HN := Lib.hid hn
  clear hn
  go_enter Try.func31, Try.ntmps31
  go_wp2
  clear hmk
  go_loopw [4] (fun i wx => ∃ k : Nat, k ≤ n ∧ i = .int .i64 k ∧ Below w.heap.size w wx ∧ wx.rowIs w.heap.size 4 n (fun i => if i < k then .bool (bs.getD i false) else .bool false)) (fun i _ => n - (intOf i).toNat)
  case atStart => exact ⟨0, Nat.zero_le _, rfl, (Below.refl _ _).alloc (Nat.le_refl _) _, (World.rowIs_made w _ n _).congr (fun i hi => by simp)⟩
  case round =>
    obtain ⟨k, hk, rfl, hb, hrow⟩ := hrel
    by_cases hlt : k < n
    · obtain ⟨b, off, rfl, hbw, hc⟩ := bool_at (hr.below hb) (k := k) (by rw [HN.out]; exact hlt)
      have hd := hrow.cell hlt
      have hf := hrow.frozen k
      have HR := Lib.hid hrow
      clear hrow hr
      go_wp2
      go_roundw
      case rel =>
        refine ⟨k + 1, by omega, by go_num, hb.setCell (Nat.le_refl _) _, (HR.out.set k _).congr fun i hi => ?_⟩
        by_cases e : i = k
        · subst e
          have hl : i < bs.length := by rw [HN.out]; exact hlt
          simp [hl]
        · by_cases h2 : i < k
          · simp [e, h2, show i < k + 1 by omega]
          · simp [e, h2, show ¬ i < k + 1 by omega]
      case measure => simp [intOf]; omega
    · obtain rfl : k = n := by omega
      go_wp2
      go_ret
      refine ⟨rfl, hb, hrow.lt, rowIs_row hrow _ (by simp [HN.out]) fun i u hu => ?_⟩
      have hl : i < bs.length := by simpa using (List.getElem?_eq_some_iff.1 hu).1
      have hi : i < k := by rw [← HN.out]; exact hl
      simp [hl] at hu
      simp [hi, hl, hu]

def Same (w : World) (e : Ending) (w' : World) : Prop := e = .returned (.bool true) ∧ Below w.heap.size w w'
set_option maxHeartbeats 1000000 in
theorem eqBoolS_same (A B : Option Addr) (n c d : Nat) (bs : List Bool) (w : World) (hn : bs.length = n) (hm : n ≤ 1048576) (ha : Row w w.heap.size A (bs.map Value.bool)) (hb : Row w w.heap.size B (bs.map Value.bool)) :
    Calls Try.prog 33 #[.slice A n c, .slice B n d] w (Same w) := by
  have HN := Lib.hid hn
  clear hn
  go_enter Try.func33, Try.ntmps33
  go_wp2
  go_loopw [5] (fun i wx => ∃ k : Nat, k ≤ n ∧ i = .int .i64 k ∧ Below w.heap.size w wx) (fun i _ => n - (intOf i).toNat)
  case atStart => exact ⟨0, Nat.zero_le _, rfl, Below.refl _ _⟩
  case round =>
    obtain ⟨k, hk, rfl, hbel⟩ := hrel
    by_cases hlt : k < n
    · obtain ⟨b, off, rfl, hbw, hc⟩ := bool_at (ha.below hbel) (k := k) (by rw [HN.out]; exact hlt)
      obtain ⟨b', off', rfl, hbw', hc'⟩ := bool_at (hb.below hbel) (k := k) (by rw [HN.out]; exact hlt)
      clear ha hb
      go_wp2
      go_quiet (fail)
      go_wp2
      go_roundw
      case rel => exact ⟨k + 1, by omega, by go_num, below_drewN hbel _⟩
      case measure => simp [intOf]; omega
    · go_wp2
      go_ret
      exact ⟨rfl, hbel⟩

def one01 (b : Bool) : Int := if b then 1 else 0
theorem one_any (b : Bool) (w : World) :
    Calls Try.prog 44 #[.bool b] w fun e w' => e = .returned (.int .i64 (one01 b)) ∧ w = w' := by
  cases b
  · go_enter Try.func44, Try.ntmps44
    go_wp2
    go_ret
    exact ⟨rfl, rfl⟩
  · go_enter Try.func44, Try.ntmps44
    go_wp2
    go_ret
    exact ⟨rfl, rfl⟩

def cnt : List Bool → Int
  | [] => 0
  | b :: l => one01 b + cnt l
theorem cnt_app (l m : List Bool) : cnt (l ++ m) = cnt l + cnt m := by
  induction l with
  | nil => simp [cnt]
  | cons b l ih => simp [cnt, ih]; omega
theorem one01_bd (b : Bool) : 0 ≤ one01 b ∧ one01 b ≤ 1 := by cases b <;> simp [one01]
theorem cnt_bd (l : List Bool) : 0 ≤ cnt l ∧ cnt l ≤ l.length := by
  induction l with
  | nil => simp [cnt]
  | cons b l ih =>
    have := one01_bd b
    simp only [cnt, List.length_cons]
    omega
theorem cnt_step (l : List Bool) (k : Nat) (h : k < l.length) : cnt (l.take (k + 1)) = cnt (l.take k) + one01 l[k] := by
  rw [List.take_succ_eq_append_getElem h, cnt_app]
  simp [cnt]
theorem li_bd (n k num den : Int) : -1 ≤ li n k num den ∧ li n k num den ≤ 21 := by
  by_cases h : okL n k num den
  · rw [li_in h]
    have h1 := (li_spec h).2.1
    obtain ⟨_, g2, _, g4, _⟩ := h
    omega
  · rw [li_out h]
    omega
def acc (n : Int) (bs : List Bool) (num den : Int) : Bool := decide (0 ≤ li n bs.length num den) && decide (li n bs.length num den ≤ cnt bs)

set_option maxHeartbeats 1000000 in
theorem sAccepts_any (n num den : Int) (A : Option Addr) (m c : Nat) (bs : List Bool) (w : World) (hn : bs.length = m) (hm : m ≤ 1048576) (hr : Row w w.heap.size A (bs.map Value.bool)) :
    Calls Try.prog 30 #[.int .i64 n, .slice A m c, .int .i64 num, .int .i64 den] w fun e w' => e = .returned (.bool (acc n bs num den)) ∧ w = w' := by
  have hli := li_bd n m num den
  have HN := Lib.hid hn
  have HA : Hid (acc n bs num den = (decide (0 ≤ li n m num den) && decide (li n m num den ≤ cnt bs))) := by
    show acc n bs num den = _
    unfold acc
    rw [hn]
  clear hn
  go_enter Try.func30, Try.ntmps30
  go_wp2_with (go_at_call 25; refine (sAuditLimit_any _ _ _ _ _).mono ?_; rintro e w' ⟨rfl, rfl⟩)
  go_loop [10, 11] (fun s i => ∃ k : Nat, k ≤ m ∧ i = .int .i64 k ∧ s = .int .i64 (cnt (bs.take k))) (fun _ i => m - (intOf i).toNat)
  case atStart => exact ⟨0, Nat.zero_le _, rfl, rfl⟩
  case round =>
    obtain ⟨k, hk, rfl, rfl⟩ := hrel
    have hcb := cnt_bd (bs.take k)
    have hlen : (bs.take k).length ≤ k := List.length_take_le _ _
    by_cases hlt : k < m
    · have hl : k < bs.length := by rw [HN.out]; exact hlt
      obtain ⟨b, off, rfl, hbw, hc⟩ := bool_at hr hl
      have HS := Lib.hid (cnt_step bs k hl)
      clear hr
      cases hv : bs[k] with
      | true =>
        have HV := Lib.hid hv
        rw [hv] at hc
        clear hv
        go_wp2
        go_round
        case rel => exact ⟨k + 1, by omega, by go_num, by rw [HS.out, HV.out]; rfl⟩
        case measure => simp [intOf]; omega
      | false =>
        have HV := Lib.hid hv
        rw [hv] at hc
        clear hv
        go_wp2
        go_round
        case rel => exact ⟨k + 1, by omega, by go_num, by rw [HS.out, HV.out]; simp [one01]⟩
        case measure => simp [intOf]; omega
    · have HE : Hid (bs.take k = bs) := by
        show bs.take k = bs
        exact List.take_of_length_le (by rw [HN.out]; omega)
      by_cases h0 : 0 ≤ li n m num den
      · have d0 : decide (0 ≤ li n m num den) = true := by simpa using h0
        by_cases h1 : li n m num den ≤ cnt (bs.take k)
        · have d1 : decide (li n m num den ≤ cnt (bs.take k)) = true := by simpa using h1
          have HD := Lib.hid d1
          have HD0 := Lib.hid d0
          go_wp2
          go_ret
          exact ⟨ret_bool (by rw [HA.out, HD0.out, ← HE.out, HD.out]; rfl), rfl⟩
        · have d1 : decide (li n m num den ≤ cnt (bs.take k)) = false := by simpa using h1
          have HD := Lib.hid d1
          have HD0 := Lib.hid d0
          go_wp2
          go_ret
          exact ⟨ret_bool (by rw [HA.out, HD0.out, ← HE.out, HD.out]; rfl), rfl⟩
      · have d0 : decide (0 ≤ li n m num den) = false := by simpa using h0
        have HD0 := Lib.hid d0
        go_wp2
        go_ret
        exact ⟨ret_bool (by rw [HA.out, HD0.out]; rfl), rfl⟩

set_option maxHeartbeats 1000000 in
theorem Accepts_any (n num den : Int) (A : Option Addr) (m c : Nat) (bs : List Bool) (w : World) (hn : bs.length = m) (hm : m ≤ 1048576) (hr : Row w w.heap.size A (bs.map Value.bool)) :
    Calls Try.prog 32 #[.int .i64 n, .slice A m c, .int .i64 num, .int .i64 den] w fun e w' => e = .returned (.bool (acc n bs num den)) ∧ w = w' := by
  have hli := li_bd n m num den
  have HN := Lib.hid hn
  have HA : Hid (acc n bs num den = (decide (0 ≤ li n m num den) && decide (li n m num den ≤ cnt bs))) := by
    show acc n bs num den = _
    unfold acc
    rw [hn]
  clear hn
  by_cases h0 : li n m num den < 0
  · have d0 : decide (0 ≤ li n m num den) = false := by simp; omega
    have HD0 := Lib.hid d0
    clear d0
    go_enter Try.func32, Try.ntmps32
    go_wp2_with (go_at_call 26; refine (AuditLimit_any _ _ _ _ _).mono ?_; rintro e w' ⟨rfl, rfl⟩)
    go_ret
    exact ⟨ret_bool (by rw [HA.out, HD0.out]; rfl), rfl⟩
  have d0 : decide (0 ≤ li n m num den) = true := by simp; omega
  have HD0 := Lib.hid d0
  clear d0
  go_enter Try.func32, Try.ntmps32
  go_wp2_with (go_at_call 26; refine (AuditLimit_any _ _ _ _ _).mono ?_; rintro e w' ⟨rfl, rfl⟩)
  go_loop [9, 22] (fun s i => ∃ k : Nat, k ≤ m ∧ i = .int .i64 k ∧ s = .int .i64 (li n m num den - cnt (bs.take k))) (fun _ i => m - (intOf i).toNat)
  case atStart => exact ⟨0, Nat.zero_le _, rfl, by simp [cnt]⟩
  case round =>
    obtain ⟨k, hk, rfl, rfl⟩ := hrel
    have hcb := cnt_bd (bs.take k)
    have hlen : (bs.take k).length ≤ k := List.length_take_le _ _
    by_cases hlt : k < m
    · have hl : k < bs.length := by rw [HN.out]; exact hlt
      obtain ⟨b, off, rfl, hbw, hc⟩ := bool_at hr hl
      have HS := Lib.hid (cnt_step bs k hl)
      have hob := one01_bd bs[k]
      clear hr
      go_wp2_with (go_at_call 44; refine (one_any _ _).mono ?_; rintro e w' ⟨rfl, rfl⟩)
      go_round
      case rel => exact ⟨k + 1, by omega, by go_num, by rw [HS.out]; congr 1; omega⟩
      case measure => simp [intOf]; omega
    · have HE : Hid (bs.take k = bs) := by
        show bs.take k = bs
        exact List.take_of_length_le (by rw [HN.out]; omega)
      go_wp2
      go_ret
      refine ⟨ret_bool ?_, rfl⟩
      rw [HA.out, HD0.out, HE.out]
      simp
      omega

end Go.Proofs.Ytjandooipgopoaa
