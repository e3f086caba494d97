/- The law FnPairsErrorCounts returns true and leaves all that was there as it was. The conditions stand in each theorem. -/
import Derived.Test.YtkpgbombikgffaaLawD4
namespace Go.Proofs.Ytkpgbombikgffaa
open Go.RowKit Go.ChangeShapes
set_option linter.unusedVariables false

theorem okPr_of {ps : List Pr} (h : pvB ps = true) {k : Nat} (hk : k < ps.length) : okPr ps[k] = true := by
  have := (pvB_len h).2
  rw [List.all_eq_true] at this
  exact this _ (List.getElem_mem hk)

set_option maxRecDepth 100000 in
set_option maxHeartbeats 8000000 in
theorem FnPairsErrorCounts_walk (a0 : Option Addr) (len0 cap0 : Nat) (z0 : List Int) (w : World) (w0 : IsRow .u8 w a0 len0 cap0 z0) :
    Calls Try.prog 10 #[.slice a0 len0 cap0] w fun e w' => e = .returned (.bool true) ∧ Below w.heap.size w w' := by
  have hcap := w0.len_le.2.1
  have hlen := w0.len_le.1
  unfold maxLen at hcap
  by_cases hbig : 1048576 < len0
  · clear w0
    go_enter Try.func10, Try.ntmps10
    go_wp2
    go_ret
    exact ⟨rfl, Below.refl _ _⟩
  have dd0 : decide ((1048576 : Int) < (len0 : Int)) = false := by simp; omega
  go_enter Try.func10, Try.ntmps10
  go_wp2_with fail
  refine (DrawPairsError_any _ _ _ _ _ w0).mono ?_
  rintro e w2 ⟨A, ps, n, c, x, y, rfl, hl, hn, hsh, hc1, hc2, hx, hy, hr, hb⟩
  have HN := Lib.hid hl
  have HS : Hid (∀ z ∈ ps, smallPr z) := fun z hz => short_small (hsh z hz)
  clear w0 hbig hcap hlen hl hsh hc1 hc2
  have hbd := pse_bd ps x y
  go_wp2_with fail
  refine (PairsError_any _ _ _ ps _ _ _ HN.out (by omega) HS.out hr).mono ?_
  rintro e w3 ⟨rfl, hb3⟩
  have hr3 := (hr.below hb3).more hb3.size
  have hbF3 := hb.trans (hb3.mono hb.size)
  clear hr hb3 hb
  go_wp2_with fail
  refine (sPairsError_any _ _ _ ps _ _ _ HN.out (by omega) HS.out hr3).mono ?_
  rintro e w4 ⟨rfl, hb4⟩
  have hr4 := (hr3.below hb4).more hb4.size
  have hbF4 := hbF3.trans (hb4.mono hbF3.size)
  clear hr3 hb4 hbF3
  cases hp : pseB ps x y with
  | false =>
    clear hr4
    generalize pseZ ps x y = z at *
    go_wp2_with fail
    go_ret
    exact ⟨rfl, hbF4⟩
  | true =>
    obtain ⟨hv, hrv⟩ := pse_of hp
    have HE := Lib.hid (pse_yes hv hrv).1
    have HV := Lib.hid hv
    have HRV := Lib.hid hrv
    have HR4 := Lib.hid hr4
    clear hp hv hrv hr4
    go_wp2_with fail
    go_loopw [10, 11] (fun s i wx => ∃ (k : Nat) (z : Int), k ≤ n ∧ i = .int .i64 k ∧ s = .int .i64 z ∧ -2097152 ≤ z ∧ z ≤ 2097152 ∧ Below w4.heap.size w4 wx ∧ Hid (z = psum (ps.take k) x y)) (fun _ i _ => n - (intOf i).toNat)
    case atStart => exact ⟨0, 0, Nat.zero_le _, rfl, rfl, by omega, by omega, Below.refl _ _, rfl⟩
    case round =>
      obtain ⟨k, z, hk, rfl, rfl, z0, z1, hbel, HX⟩ := hrel
      by_cases hlt : k < n
      · have hl : k < ps.length := by rw [HN.out]; exact hlt
        have ha2 := (HR4.out.below hbel).more hbel.size
        obtain ⟨b, off, rfl, hbw, hk0, hk1⟩ := pair_at ha2 hl
        have HP := Lib.hid (HS.out _ (List.getElem_mem hl))
        have HTT := Lib.hid (psum_step ps k x y hl)
        have hb1' := psum_bd (ps.take (k + 1)) x y
        have hl1 : (ps.take (k + 1)).length ≤ k + 1 := List.length_take_le _ _
        have hz3 : -1000 ≤ z ∧ z ≤ 1000 := by
          have h1 := psum_bd (ps.take k) x y
          have h2 : (ps.take k).length ≤ k := List.length_take_le _ _
          rw [HX.out]
          omega
        have HOK := Lib.hid (okPr_of HV.out hl)
        clear ha2 hb1' hl1
        generalize ps[k] = p at *
        obtain ⟨pa, pb⟩ := p
        simp only at hk0 hk1
        have HPE : Hid (pe (pa, pb) x y = voteL (zsP pa) x y - voteL (zsP pb) x y) := pe_yes HOK.out HRV.out
        obtain ⟨oka, okb⟩ : okP pa = true ∧ okP pb = true := by
          have := HOK.out
          unfold okPr at this
          simpa using this
        go_wp2_with fail
        refine (BallotParse_any pa _ HP.out.1).mono ?_
        rintro e w5 ⟨Aa, na, ca, rfl, hla, hna5, hca1, hca2, hra0, hb5⟩
        have hk1' := (hb5.cell (p := ⟨b, off + k * 2 + 1, none⟩) hbw).trans hk1
        have hbel5 : Below w4.heap.size w4 w5 := hbel.trans (hb5.mono hbel.size)
        rw [oka]
        clear hk0 hk1 hb5
        go_wp2_with fail
        refine (BallotParse_any pb _ HP.out.2).mono ?_
        rintro e w6 ⟨Ab, nb, cb, rfl, hlb, hnb5, hcb1, hcb2, hrb, hb6⟩
        have hra := (hra0.below hb6).more hb6.size
        have hbel2 : Below w4.heap.size w4 w6 := hbel5.trans (hb6.mono hbel5.size)
        rw [okb]
        clear hk1' hra0 hb6 hbel5 hbel HOK oka okb
        unfold maxLen at hca2 hcb2
        have HLa := Lib.hid hla
        have HLb := Lib.hid hlb
        generalize zsP pa = za at *
        generalize zsP pb = zb at *
        cases za with
        | nil =>
          obtain rfl : na = 0 := by have := HLa.out; simp at this; exact this.symm
          have HVA : Hid (voteL [] x y = 0) := rfl
          cases zb with
          | nil =>
            obtain rfl : nb = 0 := by have := HLb.out; simp at this; exact this.symm
            have HVB : Hid (voteL [] x y = 0) := rfl
            clear hla hlb
            go_wp2_with fail
            go_roundw
            case rel => exact ⟨k + 1, _, by omega, by go_num, rfl, by omega, by omega, hbel2, by
              show _ = _
              have e1 := HVA.out
              have e2 := HVB.out
              rw [HTT.out, ← HX.out, HPE.out]
              omega⟩
            case measure => simp [intOf]; omega
          | cons zb tb =>
            obtain ⟨bb, ob, rfl, hbb, hcb⟩ := int_at hrb (k := 0) (by simp)
            simp only [List.getElem_cons_zero, Nat.add_zero] at hcb
            have hpb : 0 < nb := by have := HLb.out; simp at this; omega
            cases q1b : (zb == x) with
            | true =>
              cases q2b : (zb == y) with
              | true =>
                have HVB : Hid (voteL (zb :: tb) x y = 0) := by
                  show _ = _
                  simp only [voteL, q1b, q2b]
                  rfl
                clear hla hlb
                go_wp2_with fail
                go_roundw
                case rel => exact ⟨k + 1, _, by omega, by go_num, rfl, by omega, by omega, hbel2, by
                  show _ = _
                  have e1 := HVA.out
                  have e2 := HVB.out
                  rw [HTT.out, ← HX.out, HPE.out]
                  omega⟩
                case measure => simp [intOf]; omega
              | false =>
                have HVB : Hid (voteL (zb :: tb) x y = 1) := by
                  show _ = _
                  simp only [voteL, q1b, q2b]
                  rfl
                clear hla hlb
                go_wp2_with fail
                go_roundw
                case rel => exact ⟨k + 1, _, by omega, by go_num, rfl, by omega, by omega, hbel2, by
                  show _ = _
                  have e1 := HVA.out
                  have e2 := HVB.out
                  rw [HTT.out, ← HX.out, HPE.out]
                  omega⟩
                case measure => simp [intOf]; omega
            | false =>
              cases q2b : (zb == y) with
              | true =>
                have HVB : Hid (voteL (zb :: tb) x y = -1) := by
                  show _ = _
                  simp only [voteL, q1b, q2b]
                  rfl
                clear hla hlb
                go_wp2_with fail
                go_roundw
                case rel => exact ⟨k + 1, _, by omega, by go_num, rfl, by omega, by omega, hbel2, by
                  show _ = _
                  have e1 := HVA.out
                  have e2 := HVB.out
                  rw [HTT.out, ← HX.out, HPE.out]
                  omega⟩
                case measure => simp [intOf]; omega
              | false =>
                have HVB : Hid (voteL (zb :: tb) x y = 0) := by
                  show _ = _
                  simp only [voteL, q1b, q2b]
                  rfl
                clear hla hlb
                go_wp2_with fail
                go_roundw
                case rel => exact ⟨k + 1, _, by omega, by go_num, rfl, by omega, by omega, hbel2, by
                  show _ = _
                  have e1 := HVA.out
                  have e2 := HVB.out
                  rw [HTT.out, ← HX.out, HPE.out]
                  omega⟩
                case measure => simp [intOf]; omega
        | cons za ta =>
          obtain ⟨ba, oa, rfl, hba, hca⟩ := int_at hra (k := 0) (by simp)
          simp only [List.getElem_cons_zero, Nat.add_zero] at hca
          have hpa : 0 < na := by have := HLa.out; simp at this; omega
          cases q1a : (za == x) with
          | true =>
            cases q2a : (za == y) with
            | true =>
              have HVA : Hid (voteL (za :: ta) x y = 0) := by
                show _ = _
                simp only [voteL, q1a, q2a]
                rfl
              cases zb with
              | nil =>
                obtain rfl : nb = 0 := by have := HLb.out; simp at this; exact this.symm
                have HVB : Hid (voteL [] x y = 0) := rfl
                clear hla hlb
                go_wp2_with fail
                go_roundw
                case rel => exact ⟨k + 1, _, by omega, by go_num, rfl, by omega, by omega, hbel2, by
                  show _ = _
                  have e1 := HVA.out
                  have e2 := HVB.out
                  rw [HTT.out, ← HX.out, HPE.out]
                  omega⟩
                case measure => simp [intOf]; omega
              | cons zb tb =>
                obtain ⟨bb, ob, rfl, hbb, hcb⟩ := int_at hrb (k := 0) (by simp)
                simp only [List.getElem_cons_zero, Nat.add_zero] at hcb
                have hpb : 0 < nb := by have := HLb.out; simp at this; omega
                cases q1b : (zb == x) with
                | true =>
                  cases q2b : (zb == y) with
                  | true =>
                    have HVB : Hid (voteL (zb :: tb) x y = 0) := by
                      show _ = _
                      simp only [voteL, q1b, q2b]
                      rfl
                    clear hla hlb
                    go_wp2_with fail
                    go_roundw
                    case rel => exact ⟨k + 1, _, by omega, by go_num, rfl, by omega, by omega, hbel2, by
                      show _ = _
                      have e1 := HVA.out
                      have e2 := HVB.out
                      rw [HTT.out, ← HX.out, HPE.out]
                      omega⟩
                    case measure => simp [intOf]; omega
                  | false =>
                    have HVB : Hid (voteL (zb :: tb) x y = 1) := by
                      show _ = _
                      simp only [voteL, q1b, q2b]
                      rfl
                    clear hla hlb
                    go_wp2_with fail
                    go_roundw
                    case rel => exact ⟨k + 1, _, by omega, by go_num, rfl, by omega, by omega, hbel2, by
                      show _ = _
                      have e1 := HVA.out
                      have e2 := HVB.out
                      rw [HTT.out, ← HX.out, HPE.out]
                      omega⟩
                    case measure => simp [intOf]; omega
                | false =>
                  cases q2b : (zb == y) with
                  | true =>
                    have HVB : Hid (voteL (zb :: tb) x y = -1) := by
                      show _ = _
                      simp only [voteL, q1b, q2b]
                      rfl
                    clear hla hlb
                    go_wp2_with fail
                    go_roundw
                    case rel => exact ⟨k + 1, _, by omega, by go_num, rfl, by omega, by omega, hbel2, by
                      show _ = _
                      have e1 := HVA.out
                      have e2 := HVB.out
                      rw [HTT.out, ← HX.out, HPE.out]
                      omega⟩
                    case measure => simp [intOf]; omega
                  | false =>
                    have HVB : Hid (voteL (zb :: tb) x y = 0) := by
                      show _ = _
                      simp only [voteL, q1b, q2b]
                      rfl
                    clear hla hlb
                    go_wp2_with fail
                    go_roundw
                    case rel => exact ⟨k + 1, _, by omega, by go_num, rfl, by omega, by omega, hbel2, by
                      show _ = _
                      have e1 := HVA.out
                      have e2 := HVB.out
                      rw [HTT.out, ← HX.out, HPE.out]
                      omega⟩
                    case measure => simp [intOf]; omega
            | false =>
              have HVA : Hid (voteL (za :: ta) x y = 1) := by
                show _ = _
                simp only [voteL, q1a, q2a]
                rfl
              cases zb with
              | nil =>
                obtain rfl : nb = 0 := by have := HLb.out; simp at this; exact this.symm
                have HVB : Hid (voteL [] x y = 0) := rfl
                clear hla hlb
                go_wp2_with fail
                go_roundw
                case rel => exact ⟨k + 1, _, by omega, by go_num, rfl, by omega, by omega, hbel2, by
                  show _ = _
                  have e1 := HVA.out
                  have e2 := HVB.out
                  rw [HTT.out, ← HX.out, HPE.out]
                  omega⟩
                case measure => simp [intOf]; omega
              | cons zb tb =>
                obtain ⟨bb, ob, rfl, hbb, hcb⟩ := int_at hrb (k := 0) (by simp)
                simp only [List.getElem_cons_zero, Nat.add_zero] at hcb
                have hpb : 0 < nb := by have := HLb.out; simp at this; omega
                cases q1b : (zb == x) with
                | true =>
                  cases q2b : (zb == y) with
                  | true =>
                    have HVB : Hid (voteL (zb :: tb) x y = 0) := by
                      show _ = _
                      simp only [voteL, q1b, q2b]
                      rfl
                    clear hla hlb
                    go_wp2_with fail
                    go_roundw
                    case rel => exact ⟨k + 1, _, by omega, by go_num, rfl, by omega, by omega, hbel2, by
                      show _ = _
                      have e1 := HVA.out
                      have e2 := HVB.out
                      rw [HTT.out, ← HX.out, HPE.out]
                      omega⟩
                    case measure => simp [intOf]; omega
                  | false =>
                    have HVB : Hid (voteL (zb :: tb) x y = 1) := by
                      show _ = _
                      simp only [voteL, q1b, q2b]
                      rfl
                    clear hla hlb
                    go_wp2_with fail
                    go_roundw
                    case rel => exact ⟨k + 1, _, by omega, by go_num, rfl, by omega, by omega, hbel2, by
                      show _ = _
                      have e1 := HVA.out
                      have e2 := HVB.out
                      rw [HTT.out, ← HX.out, HPE.out]
                      omega⟩
                    case measure => simp [intOf]; omega
                | false =>
                  cases q2b : (zb == y) with
                  | true =>
                    have HVB : Hid (voteL (zb :: tb) x y = -1) := by
                      show _ = _
                      simp only [voteL, q1b, q2b]
                      rfl
                    clear hla hlb
                    go_wp2_with fail
                    go_roundw
                    case rel => exact ⟨k + 1, _, by omega, by go_num, rfl, by omega, by omega, hbel2, by
                      show _ = _
                      have e1 := HVA.out
                      have e2 := HVB.out
                      rw [HTT.out, ← HX.out, HPE.out]
                      omega⟩
                    case measure => simp [intOf]; omega
                  | false =>
                    have HVB : Hid (voteL (zb :: tb) x y = 0) := by
                      show _ = _
                      simp only [voteL, q1b, q2b]
                      rfl
                    clear hla hlb
                    go_wp2_with fail
                    go_roundw
                    case rel => exact ⟨k + 1, _, by omega, by go_num, rfl, by omega, by omega, hbel2, by
                      show _ = _
                      have e1 := HVA.out
                      have e2 := HVB.out
                      rw [HTT.out, ← HX.out, HPE.out]
                      omega⟩
                    case measure => simp [intOf]; omega
          | false =>
            cases q2a : (za == y) with
            | true =>
              have HVA : Hid (voteL (za :: ta) x y = -1) := by
                show _ = _
                simp only [voteL, q1a, q2a]
                rfl
              cases zb with
              | nil =>
                obtain rfl : nb = 0 := by have := HLb.out; simp at this; exact this.symm
                have HVB : Hid (voteL [] x y = 0) := rfl
                clear hla hlb
                go_wp2_with fail
                go_roundw
                case rel => exact ⟨k + 1, _, by omega, by go_num, rfl, by omega, by omega, hbel2, by
                  show _ = _
                  have e1 := HVA.out
                  have e2 := HVB.out
                  rw [HTT.out, ← HX.out, HPE.out]
                  omega⟩
                case measure => simp [intOf]; omega
              | cons zb tb =>
                obtain ⟨bb, ob, rfl, hbb, hcb⟩ := int_at hrb (k := 0) (by simp)
                simp only [List.getElem_cons_zero, Nat.add_zero] at hcb
                have hpb : 0 < nb := by have := HLb.out; simp at this; omega
                cases q1b : (zb == x) with
                | true =>
                  cases q2b : (zb == y) with
                  | true =>
                    have HVB : Hid (voteL (zb :: tb) x y = 0) := by
                      show _ = _
                      simp only [voteL, q1b, q2b]
                      rfl
                    clear hla hlb
                    go_wp2_with fail
                    go_roundw
                    case rel => exact ⟨k + 1, _, by omega, by go_num, rfl, by omega, by omega, hbel2, by
                      show _ = _
                      have e1 := HVA.out
                      have e2 := HVB.out
                      rw [HTT.out, ← HX.out, HPE.out]
                      omega⟩
                    case measure => simp [intOf]; omega
                  | false =>
                    have HVB : Hid (voteL (zb :: tb) x y = 1) := by
                      show _ = _
                      simp only [voteL, q1b, q2b]
                      rfl
                    clear hla hlb
                    go_wp2_with fail
                    go_roundw
                    case rel => exact ⟨k + 1, _, by omega, by go_num, rfl, by omega, by omega, hbel2, by
                      show _ = _
                      have e1 := HVA.out
                      have e2 := HVB.out
                      rw [HTT.out, ← HX.out, HPE.out]
                      omega⟩
                    case measure => simp [intOf]; omega
                | false =>
                  cases q2b : (zb == y) with
                  | true =>
                    have HVB : Hid (voteL (zb :: tb) x y = -1) := by
                      show _ = _
                      simp only [voteL, q1b, q2b]
                      rfl
                    clear hla hlb
                    go_wp2_with fail
                    go_roundw
                    case rel => exact ⟨k + 1, _, by omega, by go_num, rfl, by omega, by omega, hbel2, by
                      show _ = _
                      have e1 := HVA.out
                      have e2 := HVB.out
                      rw [HTT.out, ← HX.out, HPE.out]
                      omega⟩
                    case measure => simp [intOf]; omega
                  | false =>
                    have HVB : Hid (voteL (zb :: tb) x y = 0) := by
                      show _ = _
                      simp only [voteL, q1b, q2b]
                      rfl
                    clear hla hlb
                    go_wp2_with fail
                    go_roundw
                    case rel => exact ⟨k + 1, _, by omega, by go_num, rfl, by omega, by omega, hbel2, by
                      show _ = _
                      have e1 := HVA.out
                      have e2 := HVB.out
                      rw [HTT.out, ← HX.out, HPE.out]
                      omega⟩
                    case measure => simp [intOf]; omega
            | false =>
              have HVA : Hid (voteL (za :: ta) x y = 0) := by
                show _ = _
                simp only [voteL, q1a, q2a]
                rfl
              cases zb with
              | nil =>
                obtain rfl : nb = 0 := by have := HLb.out; simp at this; exact this.symm
                have HVB : Hid (voteL [] x y = 0) := rfl
                clear hla hlb
                go_wp2_with fail
                go_roundw
                case rel => exact ⟨k + 1, _, by omega, by go_num, rfl, by omega, by omega, hbel2, by
                  show _ = _
                  have e1 := HVA.out
                  have e2 := HVB.out
                  rw [HTT.out, ← HX.out, HPE.out]
                  omega⟩
                case measure => simp [intOf]; omega
              | cons zb tb =>
                obtain ⟨bb, ob, rfl, hbb, hcb⟩ := int_at hrb (k := 0) (by simp)
                simp only [List.getElem_cons_zero, Nat.add_zero] at hcb
                have hpb : 0 < nb := by have := HLb.out; simp at this; omega
                cases q1b : (zb == x) with
                | true =>
                  cases q2b : (zb == y) with
                  | true =>
                    have HVB : Hid (voteL (zb :: tb) x y = 0) := by
                      show _ = _
                      simp only [voteL, q1b, q2b]
                      rfl
                    clear hla hlb
                    go_wp2_with fail
                    go_roundw
                    case rel => exact ⟨k + 1, _, by omega, by go_num, rfl, by omega, by omega, hbel2, by
                      show _ = _
                      have e1 := HVA.out
                      have e2 := HVB.out
                      rw [HTT.out, ← HX.out, HPE.out]
                      omega⟩
                    case measure => simp [intOf]; omega
                  | false =>
                    have HVB : Hid (voteL (zb :: tb) x y = 1) := by
                      show _ = _
                      simp only [voteL, q1b, q2b]
                      rfl
                    clear hla hlb
                    go_wp2_with fail
                    go_roundw
                    case rel => exact ⟨k + 1, _, by omega, by go_num, rfl, by omega, by omega, hbel2, by
                      show _ = _
                      have e1 := HVA.out
                      have e2 := HVB.out
                      rw [HTT.out, ← HX.out, HPE.out]
                      omega⟩
                    case measure => simp [intOf]; omega
                | false =>
                  cases q2b : (zb == y) with
                  | true =>
                    have HVB : Hid (voteL (zb :: tb) x y = -1) := by
                      show _ = _
                      simp only [voteL, q1b, q2b]
                      rfl
                    clear hla hlb
                    go_wp2_with fail
                    go_roundw
                    case rel => exact ⟨k + 1, _, by omega, by go_num, rfl, by omega, by omega, hbel2, by
                      show _ = _
                      have e1 := HVA.out
                      have e2 := HVB.out
                      rw [HTT.out, ← HX.out, HPE.out]
                      omega⟩
                    case measure => simp [intOf]; omega
                  | false =>
                    have HVB : Hid (voteL (zb :: tb) x y = 0) := by
                      show _ = _
                      simp only [voteL, q1b, q2b]
                      rfl
                    clear hla hlb
                    go_wp2_with fail
                    go_roundw
                    case rel => exact ⟨k + 1, _, by omega, by go_num, rfl, by omega, by omega, hbel2, by
                      show _ = _
                      have e1 := HVA.out
                      have e2 := HVB.out
                      rw [HTT.out, ← HX.out, HPE.out]
                      omega⟩
                    case measure => simp [intOf]; omega
      · have q : (z == pseZ ps x y) = true := by
          have h1 := HX.out
          rw [List.take_of_length_le (by rw [HN.out]; omega)] at h1
          rw [h1, HE.out]
          simp
        have hbF := hbF4.trans (hbel.mono hbF4.size)
        generalize pseZ ps x y = t3 at *
        go_wp2_with fail
        go_ret
        exact ⟨rfl, hbF⟩

end Go.Proofs.Ytkpgbombikgffaa
