/- What SampleNext, ManifestTotal and ManifestAt return, the reference's and the program's. The conditions stand in each theorem. -/
import Derived.Test.YtkjdccpomldmeaaManM
import Derived.Test.YtkjdccpomldmeaaInts
namespace Go.Proofs.Ytkjdccpomldmeaa
open Go.RowKit Go.ChangeShapes
set_option linter.unusedVariables false

def nxt (s : Int) : Int := (75 * s + 74) % 65537
theorem nxt_bd (s : Int) : 0 ≤ nxt s ∧ nxt s ≤ 65536 := by unfold nxt; omega
def snx (s : Int) : Int := if 0 ≤ s ∧ s ≤ 65536 then nxt s else -1
theorem snx_in {s : Int} (h : 0 ≤ s ∧ s ≤ 65536) : snx s = nxt s := if_pos h
theorem snx_out {s : Int} (h : ¬ (0 ≤ s ∧ s ≤ 65536)) : snx s = -1 := if_neg h

theorem SampleNext_any (s : Int) (w : World) :
    Calls Try.prog 24 #[.int .i64 s] w fun e w' => e = .returned (.int .i64 (snx s)) ∧ w = w' := by
  by_cases h1 : s < 0
  · rw [snx_out (by omega)]
    go_enter Try.func24, Try.ntmps24
    go_wp2
    go_ret
    exact ⟨rfl, rfl⟩
  by_cases h2 : 65536 < s
  · rw [snx_out (by omega)]
    go_enter Try.func24, Try.ntmps24
    go_wp2
    go_ret
    exact ⟨rfl, rfl⟩
  · rw [snx_in (by omega)]
    go_enter Try.func24, Try.ntmps24
    go_wp2
    go_ret
    exact ⟨rfl, rfl⟩
theorem sSampleNext_any (s : Int) (w : World) :
    Calls Try.prog 23 #[.int .i64 s] w fun e w' => e = .returned (.int .i64 (snx s)) ∧ w = w' := by
  by_cases h : 0 ≤ s ∧ s ≤ 65536
  · rw [snx_in h]
    have d := inB_yes h.1 h.2
    obtain ⟨h1, h2⟩ := h
    go_enter Try.func23, Try.ntmps23
    go_wp2_with (go_at_call 39; refine (in_any _ _ _ _).mono ?_; rintro e w' ⟨rfl, rfl⟩)
    go_ret
    exact ⟨rfl, rfl⟩
  · rw [snx_out h]
    have d := inB_no (a := s) (lo := 0) (hi := 65536) (by omega)
    clear h
    go_enter Try.func23, Try.ntmps23
    go_wp2_with (go_at_call 39; refine (in_any _ _ _ _).mono ?_; rintro e w' ⟨rfl, rfl⟩)
    go_ret
    exact ⟨rfl, rfl⟩

open Man in
set_option maxHeartbeats 1000000 in
theorem Total_any (A : Option Addr) (n c : Nat) (zs : List Int) (w : World) (hn : zs.length = n) (hm : n ≤ 1048576) (hr : Row w w.heap.size A (zs.map (Value.int .i64))) :
    Calls Try.prog 20 #[.slice A n c] w fun e w' => e = .returned (.int .i64 (tot zs)) ∧ w = w' := by
  have HN := Lib.hid hn
  clear hn
  go_enter Try.func20, Try.ntmps20
  go_wp2
  go_loop [3, 8] (fun s i => ∃ (k : Nat) (x : Int), k ≤ n ∧ i = .int .i64 k ∧ s = .int .i64 x ∧ 0 ≤ x ∧ x ≤ 99 ∧ Hid (x = sumI (zs.take k)) ∧ Hid (∀ z ∈ zs.take k, 0 ≤ z ∧ z ≤ 99)) (fun _ i => n - (intOf i).toNat)
  case atStart => exact ⟨0, 0, Nat.zero_le _, rfl, rfl, by omega, by omega, rfl, by simp [Hid]⟩
  case round =>
    obtain ⟨k, x, hk, rfl, rfl, x0, x1, HX, HA⟩ := hrel
    by_cases hlt : k < n
    · have hl : k < zs.length := by rw [HN.out]; exact hlt
      have HS := Lib.hid (sumI_step zs k hl)
      obtain ⟨b, off, rfl, hbw, hc⟩ := int_at hr hl
      have HB := Lib.hid (fun h => tot_bad (l := zs) (k := k) hl h)
      have HO := Lib.hid (fun h => tot_over (l := zs) (k := k + 1) h)
      have HM : Hid (∀ y, y ∈ zs.take (k + 1) → y ∈ zs.take k ∨ y = zs[k]) := fun y hy => by
        rw [List.take_succ_eq_append_getElem hl] at hy
        exact (List.mem_append.1 hy).imp_right List.mem_singleton.1
      clear hr
      generalize zs[k] = z at *
      by_cases h1 : z < 0
      · go_wp2
        go_ret
        exact ⟨ret_int (HB.out (by omega)).symm, rfl⟩
      by_cases h2 : 99 - x < z
      · go_wp2
        go_ret
        exact ⟨ret_int (HO.out (by rw [HS.out, ← HX.out]; omega)).symm, rfl⟩
      · go_wp2
        go_round
        case rel =>
          refine ⟨k + 1, _, by omega, by go_num, rfl, by omega, by omega, ?_, fun y hy => ?_⟩
          · show _ = _
            rw [HS.out, ← HX.out]
          · rcases HM.out y hy with hy | hy
            · exact HA.out y hy
            · omega
        case measure => simp [intOf]; omega
    · have he : zs.take k = zs := List.take_of_length_le (by rw [HN.out]; omega)
      by_cases h8 : 8 < n
      · have HT : Hid (tot zs = -1) := tot_out fun h => by have := h.2.1; rw [HN.out] at this; omega
        clear he
        go_wp2
        go_ret
        exact ⟨ret_int HT.out.symm, rfl⟩
      · have HT : Hid (tot zs = x) := by
          show tot zs = x
          have h1 := HX.out
          have h2 := HA.out
          rw [he] at h1 h2
          rw [tot_in ⟨h2, by rw [HN.out]; omega, by omega⟩, h1]
        clear he
        go_wp2
        go_ret
        exact ⟨ret_int HT.out.symm, rfl⟩

open Man in
set_option maxHeartbeats 1000000 in
theorem sTotal_any (A : Option Addr) (n c : Nat) (zs : List Int) (w : World) (hn : zs.length = n) (hm : n ≤ 1048576) (hr : Row w w.heap.size A (zs.map (Value.int .i64))) :
    Calls Try.prog 27 #[.slice A n c] w fun e w' => e = .returned (.int .i64 (tot zs)) ∧ w = w' := by
  have HN := Lib.hid hn
  clear hn
  go_enter Try.func27, Try.ntmps27
  go_wp2
  go_loop [3, 4] (fun s i => ∃ (k : Nat) (x : Int), k ≤ n ∧ i = .int .i64 k ∧ s = .int .i64 x ∧ 0 ≤ x ∧ x ≤ 103809024 ∧ Hid (x = sumI (zs.take k)) ∧ Hid (∀ z ∈ zs.take k, 0 ≤ z ∧ z ≤ 99)) (fun _ i => n - (intOf i).toNat)
  case atStart => exact ⟨0, 0, Nat.zero_le _, rfl, rfl, by omega, by omega, rfl, by simp [Hid]⟩
  case round =>
    obtain ⟨k, x, hk, rfl, rfl, x0, x1, HX, HA⟩ := hrel
    by_cases hlt : k < n
    · have hl : k < zs.length := by rw [HN.out]; exact hlt
      have HS := Lib.hid (sumI_step zs k hl)
      obtain ⟨b, off, rfl, hbw, hc⟩ := int_at hr hl
      have HB := Lib.hid (fun h => tot_bad (l := zs) (k := k) hl h)
      have HM : Hid (∀ y, y ∈ zs.take (k + 1) → y ∈ zs.take k ∨ y = zs[k]) := fun y hy => by
        rw [List.take_succ_eq_append_getElem hl] at hy
        exact (List.mem_append.1 hy).imp_right List.mem_singleton.1
      have HL : Hid ((zs.take (k + 1)).length ≤ k + 1) := List.length_take_le _ _
      clear hr
      generalize zs[k] = z at *
      by_cases h1 : 0 ≤ z ∧ z ≤ 99
      · have d := inB_yes h1.1 h1.2
        have HA' : Hid (∀ y, y ∈ zs.take (k + 1) → 0 ≤ y ∧ y ≤ 99) := fun y hy => by
          rcases HM.out y hy with hy | hy
          · exact HA.out y hy
          · omega
        have hbd := sumI_bd _ HA'.out
        have hlen := HL.out
        have e1 : sumI (zs.take (k + 1)) = x + z := by rw [HS.out, ← HX.out]
        rw [e1] at hbd
        have HE := Lib.hid e1
        have hx : 0 ≤ x + z ∧ x + z ≤ 103809024 := by omega
        clear e1 hbd hlen h1
        go_wp2_with (go_at_call 39; refine (in_any _ _ _ _).mono ?_; rintro e w' ⟨rfl, rfl⟩)
        go_round
        case rel => exact ⟨k + 1, _, by omega, by go_num, rfl, by omega, by omega, HE.out.symm, HA'⟩
        case measure => simp [intOf]; omega
      · have d := inB_no (a := z) (lo := 0) (hi := 99) (by omega)
        have HT : Hid (tot zs = -1) := HB.out (by omega)
        clear h1
        go_wp2_with (go_at_call 39; refine (in_any _ _ _ _).mono ?_; rintro e w' ⟨rfl, rfl⟩)
        go_ret
        exact ⟨ret_int HT.out.symm, rfl⟩
    · have he : zs.take k = zs := List.take_of_length_le (by rw [HN.out]; omega)
      have h1 := HX.out
      have h2 := HA.out
      rw [he] at h1 h2
      have H1 := Lib.hid h1
      have H2 := Lib.hid h2
      clear he h1 h2 HX HA
      by_cases h8 : 8 < n
      · have HT : Hid (tot zs = -1) := tot_out fun h => by have := h.2.1; rw [HN.out] at this; omega
        go_wp2
        go_ret
        exact ⟨ret_int HT.out.symm, rfl⟩
      by_cases h9 : 99 < x
      · have HT : Hid (tot zs = -1) := tot_out fun h => by have := h.2.2; rw [← H1.out] at this; omega
        go_wp2
        go_ret
        exact ⟨ret_int HT.out.symm, rfl⟩
      · have HT : Hid (tot zs = x) := by
          show tot zs = x
          rw [tot_in ⟨H2.out, by rw [HN.out]; omega, by rw [← H1.out]; omega⟩, H1.out]
        go_wp2
        go_ret
        exact ⟨ret_int HT.out.symm, rfl⟩

def atA (zs : List Int) (b : Int) : Int := if 0 ≤ b ∧ b < Man.tot zs then ((Man.loc zs b).1 : Int) else 0
def atB (zs : List Int) (b : Int) : Int := if 0 ≤ b ∧ b < Man.tot zs then (Man.loc zs b).2 else 0
def atC (zs : List Int) (b : Int) : Bool := decide (0 ≤ b) && decide (b < Man.tot zs)
theorem at_in {zs : List Int} {b : Int} (h : 0 ≤ b ∧ b < Man.tot zs) : atA zs b = ((Man.loc zs b).1 : Int) ∧ atB zs b = (Man.loc zs b).2 ∧ atC zs b = true :=
  ⟨if_pos h, if_pos h, by simp [atC, h.1, h.2]⟩
theorem at_out {zs : List Int} {b : Int} (h : ¬ (0 ≤ b ∧ b < Man.tot zs)) : atA zs b = 0 ∧ atB zs b = 0 ∧ atC zs b = false :=
  ⟨if_neg h, if_neg h, by
    cases hb : atC zs b with
    | false => rfl
    | true => simp [atC] at hb; omega⟩
theorem tot_ok {zs : List Int} {b : Int} (h0 : 0 ≤ b) (h : b < Man.tot zs) : Man.ok zs ∧ b < Man.sumI zs := by
  by_cases hok : Man.ok zs
  · rw [Man.tot_in hok] at h
    exact ⟨hok, h⟩
  · rw [Man.tot_out hok] at h
    omega
theorem ret2 {a b c d : Int} (h1 : a = c) (h2 : b = d) : Ending.returned (.tuple #[.int .i64 a, .int .i64 b]) = .returned (.tuple #[.int .i64 c, .int .i64 d]) := by rw [h1, h2]
theorem ret3 {a b c d : Int} {x y : Bool} (h1 : a = c) (h2 : b = d) (h3 : x = y) : Ending.returned (.tuple #[.int .i64 a, .int .i64 b, .bool x]) = .returned (.tuple #[.int .i64 c, .int .i64 d, .bool y]) := by rw [h1, h2, h3]

open Man in
set_option maxHeartbeats 1000000 in
theorem At_any (A : Option Addr) (n c : Nat) (zs : List Int) (bal : Int) (w : World) (hn : zs.length = n) (hm : n ≤ 1048576) (hr : Row w w.heap.size A (zs.map (Value.int .i64))) :
    Calls Try.prog 21 #[.slice A n c, .int .i64 bal] w fun e w' => e = .returned (.tuple #[.int .i64 (atA zs bal), .int .i64 (atB zs bal), .bool (atC zs bal)]) ∧ w = w' := by
  have HN := Lib.hid hn
  clear hn
  have hbd := tot_bd zs
  by_cases h0 : bal < 0
  · have H := Lib.hid (at_out (zs := zs) (b := bal) (by omega))
    go_enter Try.func21, Try.ntmps21
    go_wp2_with fail
    go_ret3
    exact ⟨ret3 H.out.1.symm H.out.2.1.symm H.out.2.2.symm, rfl⟩
  by_cases h1 : tot zs ≤ bal
  · have H := Lib.hid (at_out (zs := zs) (b := bal) (by omega))
    go_enter Try.func21, Try.ntmps21
    go_wp2_with fail
    refine (Total_any _ _ _ zs _ HN.out hm hr).mono ?_
    rintro e w' ⟨rfl, rfl⟩
    go_wp2_with fail
    go_ret3
    exact ⟨ret3 H.out.1.symm H.out.2.1.symm H.out.2.2.symm, rfl⟩
  have H := Lib.hid (at_in (zs := zs) (b := bal) (by omega))
  have HO := Lib.hid (tot_ok (zs := zs) (b := bal) (by omega) (by omega)).1
  have HB := Lib.hid (tot_ok (zs := zs) (b := bal) (by omega) (by omega)).2
  have hn0 : 0 < n := by
    by_cases hn0 : 0 < n
    · exact hn0
    · have h2 : zs = [] := List.eq_nil_of_length_eq_zero (by rw [HN.out]; omega)
      have h3 := HB.out
      rw [h2] at h3
      simp [sumI] at h3
      omega
  go_enter Try.func21, Try.ntmps21
  go_wp2_with fail
  refine (Total_any _ _ _ zs _ HN.out hm hr).mono ?_
  rintro e w' ⟨rfl, rfl⟩
  go_wp2_with fail
  go_loop [1, 7] (fun s i => ∃ (k : Nat) (x : Int), k < n ∧ i = .int .i64 k ∧ s = .int .i64 x ∧ 0 ≤ x ∧ x ≤ 99 ∧ Hid (x = bal - sumI (zs.take k)) ∧ Hid (∀ j, j < k → (hj : j < zs.length) → zs[j] ≤ bal - sumI (zs.take j))) (fun _ i => n - (intOf i).toNat)
  case atStart => exact ⟨0, bal, by omega, rfl, rfl, by omega, by omega, by simp [Hid, sumI], fun j hj => absurd hj (by omega)⟩
  case round =>
    obtain ⟨k, x, hk, rfl, rfl, x0, x1, HX, HA⟩ := hrel
    have hl : k < zs.length := by rw [HN.out]; exact hk
    have HS := Lib.hid (sumI_step zs k hl)
    have HF := Lib.hid (fun h h' => loc_find zs bal k hl h HA.out h')
    have hz := HO.out.1 zs[k] (List.getElem_mem hl)
    obtain ⟨b, off, rfl, hbw, hc⟩ := int_at hr hl
    have HQ : Hid (∀ j, j < k + 1 → (hj : j < zs.length) → zs[k] ≤ x → zs[j] ≤ bal - sumI (zs.take j)) := fun j hj hj' hzx => by
      by_cases e : j = k
      · subst e
        rw [← HX.out]
        exact hzx
      · exact HA.out j (by omega) hj'
    have HE : Hid (∀ y : Int, y = x - zs[k] → 0 ≤ y → k + 1 < n) := fun y hy h0 => by
      by_cases hc : k + 1 < n
      · exact hc
      · have h1 := HS.out
        rw [List.take_of_length_le (by rw [HN.out]; omega)] at h1
        have h2 := HB.out
        have h3 := HX.out
        omega
    clear hr
    generalize hzk : zs[k] = z at *
    by_cases h1 : z ≤ x
    · have h3 := HE.out (x - z) rfl (by omega)
      clear hzk
      go_wp2
      go_round
      case rel => exact ⟨k + 1, _, h3, by go_num, rfl, by omega, by omega, by
        show _ = _
        rw [HS.out, HX.out]
        omega, fun j hj hj' => HQ.out j hj hj' h1⟩
      case measure => simp [intOf]; omega
    · have HR := HF.out (by rw [← HX.out]; omega) (by rw [← HX.out]; omega)
      rw [← HX.out] at HR
      have HR' := Lib.hid HR
      clear HR hzk
      go_wp2
      go_ret3
      exact ⟨ret3 (by rw [H.out.1, HR'.out]) (by rw [H.out.2.1, HR'.out]) H.out.2.2.symm, rfl⟩

open Man in
set_option maxHeartbeats 1000000 in
theorem sl33At_any (A : Option Addr) (n c : Nat) (zs : List Int) (bal : Int) (w : World) (hn : zs.length = n) (hm : n ≤ 1048576) (hr : Row w w.heap.size A (zs.map (Value.int .i64))) (h0 : 0 ≤ bal) (h1 : bal < tot zs) :
    Calls Try.prog 31 #[.slice A n c, .int .i64 bal] w fun e w' => e = .returned (.tuple #[.int .i64 ((loc zs bal).1 : Int), .int .i64 (loc zs bal).2]) ∧ w = w' := by
  have HN := Lib.hid hn
  clear hn
  have hbd := tot_bd zs
  have HO := Lib.hid (tot_ok h0 h1).1
  have HB := Lib.hid (tot_ok h0 h1).2
  have hn0 : 0 < n := by
    by_cases hn0 : 0 < n
    · exact hn0
    · have h2 : zs = [] := List.eq_nil_of_length_eq_zero (by rw [HN.out]; omega)
      have h3 := HB.out
      rw [h2] at h3
      simp [sumI] at h3
      omega
  go_enter Try.func31, Try.ntmps31
  go_wp2
  go_loop [1, 6] (fun s i => ∃ (k : Nat) (x : Int), k < n ∧ i = .int .i64 k ∧ s = .int .i64 x ∧ 0 ≤ x ∧ x ≤ 99 ∧ Hid (x = bal - sumI (zs.take k)) ∧ Hid (∀ j, j < k → (hj : j < zs.length) → zs[j] ≤ bal - sumI (zs.take j))) (fun _ i => n - (intOf i).toNat)
  case atStart => exact ⟨0, bal, by omega, rfl, rfl, by omega, by omega, by simp [Hid, sumI], fun j hj => absurd hj (by omega)⟩
  case round =>
    obtain ⟨k, x, hk, rfl, rfl, x0, x1, HX, HA⟩ := hrel
    have hl : k < zs.length := by rw [HN.out]; exact hk
    have HS := Lib.hid (sumI_step zs k hl)
    have HF := Lib.hid (fun h h' => loc_find zs bal k hl h HA.out h')
    have hz := HO.out.1 zs[k] (List.getElem_mem hl)
    obtain ⟨b, off, rfl, hbw, hc⟩ := int_at hr hl
    have HQ : Hid (∀ j, j < k + 1 → (hj : j < zs.length) → zs[k] ≤ x → zs[j] ≤ bal - sumI (zs.take j)) := fun j hj hj' hzx => by
      by_cases e : j = k
      · subst e
        rw [← HX.out]
        exact hzx
      · exact HA.out j (by omega) hj'
    have HE : Hid (∀ y : Int, y = x - zs[k] → 0 ≤ y → k + 1 < n) := fun y hy h0 => by
      by_cases hc : k + 1 < n
      · exact hc
      · have h1 := HS.out
        rw [List.take_of_length_le (by rw [HN.out]; omega)] at h1
        have h2 := HB.out
        have h3 := HX.out
        omega
    clear hr
    generalize hzk : zs[k] = z at *
    by_cases h1 : z ≤ x
    · have h3 := HE.out (x - z) rfl (by omega)
      clear hzk
      go_wp2
      go_round
      case rel => exact ⟨k + 1, _, h3, by go_num, rfl, by omega, by omega, by
        show _ = _
        rw [HS.out, HX.out]
        omega, fun j hj hj' => HQ.out j hj hj' h1⟩
      case measure => simp [intOf]; omega
    · have HR := HF.out (by rw [← HX.out]; omega) (by rw [← HX.out]; omega)
      rw [← HX.out] at HR
      have HR' := Lib.hid HR
      clear HR hzk
      go_wp2
      go_ret2
      exact ⟨ret2 (by rw [HR'.out]) (by rw [HR'.out]), rfl⟩

open Man in
set_option maxHeartbeats 1000000 in
theorem sAt_any (A : Option Addr) (n c : Nat) (zs : List Int) (bal : Int) (w : World) (hn : zs.length = n) (hm : n ≤ 1048576) (hr : Row w w.heap.size A (zs.map (Value.int .i64))) :
    Calls Try.prog 28 #[.slice A n c, .int .i64 bal] w fun e w' => e = .returned (.tuple #[.int .i64 (atA zs bal), .int .i64 (atB zs bal), .bool (atC zs bal)]) ∧ w = w' := by
  have HN := Lib.hid hn
  clear hn
  have hbd := tot_bd zs
  by_cases h : 0 ≤ bal ∧ bal < tot zs
  · have H := Lib.hid (at_in h)
    have d := inB_yes (a := bal) (lo := 0) (hi := tot zs - 1) h.1 (by omega)
    obtain ⟨h0, h1⟩ := h
    go_enter Try.func28, Try.ntmps28
    go_wp2_with fail
    refine (sTotal_any _ _ _ zs _ HN.out hm hr).mono ?_
    rintro e w' ⟨rfl, rfl⟩
    go_wp2_with fail
    refine (in_any _ _ _ _).mono ?_
    rintro e w' ⟨rfl, rfl⟩
    go_wp2_with fail
    refine (sl33At_any _ _ _ zs _ _ HN.out hm hr h0 h1).mono ?_
    rintro e w' ⟨rfl, rfl⟩
    go_wp2_with fail
    go_ret3
    exact ⟨ret3 H.out.1.symm H.out.2.1.symm H.out.2.2.symm, rfl⟩
  · have H := Lib.hid (at_out h)
    have d := inB_no (a := bal) (lo := 0) (hi := tot zs - 1) (by omega)
    clear h
    go_enter Try.func28, Try.ntmps28
    go_wp2_with fail
    refine (sTotal_any _ _ _ zs _ HN.out hm hr).mono ?_
    rintro e w' ⟨rfl, rfl⟩
    go_wp2_with fail
    refine (in_any _ _ _ _).mono ?_
    rintro e w' ⟨rfl, rfl⟩
    go_wp2_with fail
    go_ret3
    exact ⟨ret3 H.out.1.symm H.out.2.1.symm H.out.2.2.symm, rfl⟩

end Go.Proofs.Ytkjdccpomldmeaa
