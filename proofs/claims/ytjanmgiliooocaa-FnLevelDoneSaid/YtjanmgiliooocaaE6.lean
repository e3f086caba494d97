/- Votes of districts: what DistrictsValid and DistrictVotes of the program and DistrictsValid of the reference return. The conditions stand in each theorem. -/
import Derived.Test.YtjanmgiliooocaaE5
namespace Go.Proofs.Ytjanmgiliooocaa
open Go.RowKit Go.ChangeShapes
open Man
set_option linter.unusedVariables false

theorem vvB_bd {v : List Int} (h : vvB v = true) : ∀ z ∈ v, 0 ≤ z ∧ z ≤ 99 := (vvB_of h).1
/-- Rows that were all looked at. -/
def Good (vs : List (List Int)) (k : Nat) : Prop := ∀ r ∈ vs.take k, vvB r = true ∧ r.length = wid vs
theorem Good.next {vs : List (List Int)} {k : Nat} (h : Good vs k) (hk : k < vs.length) (h1 : vvB vs[k] = true) (h2 : vs[k].length = wid vs) : Good vs (k + 1) := by
  intro r hr
  rw [List.take_succ_eq_append_getElem hk] at hr
  rcases List.mem_append.1 hr with hr | hr
  · exact h r hr
  · rw [List.mem_singleton.1 hr]
    exact ⟨h1, h2⟩
theorem Good.all {vs : List (List Int)} {k : Nat} (h : Good vs k) (hk : vs.length ≤ k) : ∀ r ∈ vs, vvB r = true ∧ r.length = wid vs := by
  unfold Good at h
  rwa [List.take_of_length_le hk] at h
theorem good_rows {rs : List Sl} {n : Nat} (hn : wid (vals rs) = n) (h : ∀ r ∈ vals rs, vvB r = true ∧ r.length = wid (vals rs)) : ∀ r ∈ rs, r.zs.length = n ∧ ∀ z ∈ r.zs, 0 ≤ z ∧ z ≤ 99 := by
  intro r hr
  have := h r.zs (List.mem_map.2 ⟨r, hr, rfl⟩)
  exact ⟨this.2.trans hn, vvB_bd this.1⟩

set_option maxHeartbeats 2000000 in
theorem DistrictsValid_any (A : Option Addr) (N C : Nat) (rs : List Sl) (w : World) (hN : rs.length = N) (hNm : N ≤ 1048576) (ha : Mat w w.heap.size A rs) :
    Calls Try.prog 30 #[.slice A N C] w (Says w (dvB (vals rs))) := by
  have HN := Lib.hid hN
  have HM := Lib.hid ha
  by_cases h4 : 1 ≤ N ∧ N ≤ 4
  · obtain ⟨h41, h44⟩ := h4
    have h00 : 0 < rs.length := by omega
    obtain ⟨b, off, rfl, hbw, hc0⟩ := ha.at_ h00
    rw [Nat.add_zero] at hc0
    have HL0 : Hid (wid (vals rs) = rs[0].n) := (vals_wid h00).trans (ha.row _ (List.getElem_mem h00)).len
    have hn0 := (ha.row _ (List.getElem_mem h00)).sm
    generalize rs[0].A = A0 at *
    generalize rs[0].c = C0 at *
    generalize rs[0].n = n0 at *
    clear hN ha
    go_enter Try.func30, Try.ntmps30
    go_wp2_with fail
    go_loop [15] (fun i => ∃ k : Nat, k ≤ N ∧ i = .int .i64 k ∧ Hid (Good (vals rs) k)) (fun i => N - (intOf i).toNat)
    case atStart => exact ⟨0, Nat.zero_le _, rfl, fun r hr => by simp at hr⟩
    case round =>
      obtain ⟨k, hk, rfl, HG⟩ := hrel
      by_cases hlt : k < N
      · have hl : k < rs.length := by rw [HN.out]; exact hlt
        have hl' : k < (vals rs).length := by rw [vals_len]; exact hl
        have HBAD : Hid (vvB rs[k].zs = false ∨ rs[k].zs.length ≠ wid (vals rs) → dvB (vals rs) = false) := fun h => dvB_row hl' (by rw [vals_at rs k hl]; exact h)
        have HNX : Hid (vvB rs[k].zs = true → rs[k].zs.length = wid (vals rs) → Good (vals rs) (k + 1)) := fun h1 h2 => HG.out.next hl' (by rw [vals_at rs k hl]; exact h1) (by rw [vals_at rs k hl]; exact h2)
        have HO := HM.out.row _ (List.getElem_mem hl)
        have hcr := HM.out.cellOf hl
        generalize rs[k] = r at *
        obtain ⟨rA, rn, rc, rz⟩ := r
        obtain ⟨o1, o2, o3, o4, hrow⟩ := HO
        simp only at o1 o2 o3 o4 hrow HBAD HNX hcr
        have HC := Lib.hid (votesValid_any rA rn rc rz w o1 o4 hrow)
        clear hrow
        cases hv : vvB rz with
        | false =>
          have HQ := Lib.hid (HBAD.out (.inl hv))
          rw [hv] at HC
          clear hv o1
          go_wp2_with fail
          refine HC.out.mono ?_
          rintro e w' ⟨rfl, rfl⟩
          go_wp2_with fail
          go_ret
          exact ⟨ret_bool HQ.out.symm, Below.refl _ _⟩
        | true =>
          rw [hv] at HC
          by_cases hln : rn = n0
          · have HQ := Lib.hid (HNX.out hv (by rw [o1, hln, HL0.out]))
            subst hln
            clear hv o1
            go_wp2_with fail
            refine HC.out.mono ?_
            rintro e w' ⟨rfl, rfl⟩
            go_wp2_with fail
            go_round
            case rel => exact ⟨k + 1, by omega, by go_num, HQ⟩
            case measure => simp [intOf]; omega
          · have HQ := Lib.hid (HBAD.out (.inr (by rw [o1, HL0.out]; exact hln)))
            have hln2 : ((rn : Int) == (n0 : Int)) = false := by simp; omega
            clear hv o1
            go_wp2_with fail
            refine HC.out.mono ?_
            rintro e w' ⟨rfl, rfl⟩
            go_wp2_with fail
            go_ret
            exact ⟨ret_bool HQ.out.symm, Below.refl _ _⟩
      · have HA := Lib.hid (HG.out.all (by rw [vals_len, HN.out]; omega))
        have HQ : Hid (dvB (vals rs) = vvB (tog n0 (vals rs))) := by
          show _ = _
          rw [dvB_end (by rw [vals_len, HN.out]; exact inB_yes (by omega) (by omega)) HA.out, HL0.out]
        have HC := Lib.hid (together_any (some ⟨b, off, none⟩) N C n0 rs w HN.out h41 h44 hn0 (good_rows HL0.out HA.out) HM.out)
        clear hc0
        go_wp2_with fail
        refine HC.out.mono ?_
        rintro e w2 ⟨rfl, hown2, hb2⟩
        have HC2 := Lib.hid (votesValid_any (some ⟨w.heap.size, 0, none⟩) n0 n0 (tog n0 (vals rs)) w2 hown2.len hn0 hown2.rowAt.2.2)
        clear hown2 HC
        go_wp2_with fail
        refine HC2.out.mono ?_
        rintro e w' ⟨rfl, rfl⟩
        go_wp2_with fail
        go_ret
        exact ⟨ret_bool HQ.out.symm, hb2⟩
  · have HQ : Hid (dvB (vals rs) = false) := dvB_len (by rw [vals_len, hN]; exact inB_no (by omega))
    clear ha hN
    by_cases h1 : N = 0
    · subst h1
      clear h4
      go_enter Try.func30, Try.ntmps30
      go_wp2_with fail
      go_ret
      exact ⟨ret_bool HQ.out.symm, Below.refl _ _⟩
    · have h5 : 4 < N := by omega
      clear h4
      go_enter Try.func30, Try.ntmps30
      go_wp2_with fail
      go_ret
      exact ⟨ret_bool HQ.out.symm, Below.refl _ _⟩

set_option maxHeartbeats 4000000 in
theorem sDistrictsValid_any (A : Option Addr) (N C : Nat) (rs : List Sl) (w : World) (hN : rs.length = N) (hNm : N ≤ 1048576) (ha : Mat w w.heap.size A rs) :
    Calls Try.prog 42 #[.slice A N C] w (Says w (dvB (vals rs))) := by
  have HN := Lib.hid hN
  have HM := Lib.hid ha
  by_cases h4 : 1 ≤ N ∧ N ≤ 4
  · obtain ⟨h41, h44⟩ := h4
    have h00 : 0 < rs.length := by omega
    have d := inB_yes (a := (N : Int)) (lo := 1) (hi := 4) (by omega) (by omega)
    obtain ⟨b, off, rfl, hbw, _⟩ := ha.at_ h00
    have HL0 : Hid (wid (vals rs) = rs[0].n) := (vals_wid h00).trans (ha.row _ (List.getElem_mem h00)).len
    have HC0 : Hid (∀ W, Below w.heap.size w W → W.cell? ⟨b, off, none⟩ = some (.slice rs[0].A rs[0].n rs[0].c)) := fun W hW => by
      have := (ha.below hW).cellOf h00
      rwa [Nat.add_zero] at this
    have hn0 := (ha.row _ (List.getElem_mem h00)).sm
    generalize rs[0].A = A0 at *
    generalize rs[0].c = C0 at *
    generalize rs[0].n = n0 at *
    clear hN ha
    go_enter Try.func42, Try.ntmps42
    go_wp2_with (go_at_call 26; refine (in_any _ _ _ _).mono ?_; rintro e w' ⟨rfl, rfl⟩)
    go_loopw [3] (fun i wx => ∃ k : Nat, k ≤ N ∧ i = .int .i64 k ∧ Hid (Good (vals rs) k) ∧ Below w.heap.size w wx) (fun i _ => N - (intOf i).toNat)
    case atStart => exact ⟨0, Nat.zero_le _, rfl, (fun r hr => by simp at hr), Below.refl _ _⟩
    case round =>
      obtain ⟨k, hk, rfl, HG, hbel⟩ := hrel
      by_cases hlt : k < N
      · have hl : k < rs.length := by rw [HN.out]; exact hlt
        have hl' : k < (vals rs).length := by rw [vals_len]; exact hl
        have HBAD : Hid (vvB rs[k].zs = false ∨ rs[k].zs.length ≠ wid (vals rs) → dvB (vals rs) = false) := fun h => dvB_row hl' (by rw [vals_at rs k hl]; exact h)
        have HNX : Hid (vvB rs[k].zs = true → rs[k].zs.length = wid (vals rs) → Good (vals rs) (k + 1)) := fun h1 h2 => HG.out.next hl' (by rw [vals_at rs k hl]; exact h1) (by rw [vals_at rs k hl]; exact h2)
        have HO := HM.out.row _ (List.getElem_mem hl)
        have hcr := (HM.out.below hbel).cellOf hl
        have hc0 := HC0.out _ hbel
        generalize rs[k] = r at *
        obtain ⟨rA, rn, rc, rz⟩ := r
        obtain ⟨o1, o2, o3, o4, hrow⟩ := HO
        simp only at o1 o2 o3 o4 hrow HBAD HNX hcr
        have HC : Hid (∀ m, Calls Try.prog 52 #[.slice rA rn rc] (wr.drewN m) fun e w' => e = .returned (.bool (vvB rz)) ∧ wr.drewN m = w') := fun m =>
          l21Votes_any rA rn rc rz (wr.drewN m) o1 o4 ((hrow.below (below_drewN hbel m)).more (below_drewN hbel m).size)
        clear hrow
        cases hv : vvB rz with
        | false =>
          have HQ := Lib.hid (HBAD.out (.inl hv))
          rw [hv] at HC
          clear hv o1
          go_wp2_with fail
          go_quiet ((go_at_call 52; exact quiet_left (HC.out _)))
          go_wp2_with fail
          go_ret
          exact ⟨ret_bool HQ.out.symm, below_drewN hbel _⟩
        | true =>
          rw [hv] at HC
          by_cases hln : rn = n0
          · have HQ := Lib.hid (HNX.out hv (by rw [o1, hln, HL0.out]))
            subst hln
            clear hv o1
            go_wp2_with fail
            go_quiet ((go_at_call 52; exact quiet_left (HC.out _)))
            go_wp2_with fail
            go_roundw
            case rel => exact ⟨k + 1, by omega, by go_num, HQ, below_drewN hbel _⟩
            case measure => simp [intOf]; omega
          · have HQ := Lib.hid (HBAD.out (.inr (by rw [o1, HL0.out]; exact hln)))
            have hln2 : ((rn : Int) == (n0 : Int)) = false := by simp; omega
            clear hv o1
            go_wp2_with fail
            go_quiet ((go_at_call 52; exact quiet_left (HC.out _)))
            go_wp2_with fail
            go_ret
            exact ⟨ret_bool HQ.out.symm, below_drewN hbel _⟩
      · have HA := Lib.hid (HG.out.all (by rw [vals_len, HN.out]; omega))
        have HQ : Hid (dvB (vals rs) = vvB (tog n0 (vals rs))) := by
          show _ = _
          rw [dvB_end (by rw [vals_len, HN.out]; exact inB_yes (by omega) (by omega)) HA.out, HL0.out]
        have HC := Lib.hid (l24Votes_any (some ⟨b, off, none⟩) N C n0 rs wr HN.out h41 h44 hn0 (good_rows HL0.out HA.out) (HM.out.on hbel))
        go_wp2_with fail
        refine HC.out.mono ?_
        rintro e w2 ⟨rfl, hown2, hb2⟩
        have HC2 := Lib.hid (l21Votes_any (some ⟨wr.heap.size, 0, none⟩) n0 n0 (tog n0 (vals rs)) w2 hown2.len hn0 hown2.rowAt.2.2)
        have hbF := hbel.trans (hb2.mono hbel.size)
        clear hown2 HC hb2
        go_wp2_with fail
        refine HC2.out.mono ?_
        rintro e w' ⟨rfl, rfl⟩
        go_wp2_with fail
        go_ret
        exact ⟨ret_bool HQ.out.symm, hbF⟩
  · have HQ : Hid (dvB (vals rs) = false) := dvB_len (by rw [vals_len, hN]; exact inB_no (by omega))
    have d := inB_no (a := (N : Int)) (lo := 1) (hi := 4) (by omega)
    clear ha hN h4
    go_enter Try.func42, Try.ntmps42
    go_wp2_with (go_at_call 26; refine (in_any _ _ _ _).mono ?_; rintro e w' ⟨rfl, rfl⟩)
    go_ret
    exact ⟨ret_bool HQ.out.symm, Below.refl _ _⟩

def dtL (vs : List (List Int)) : List Int := if dvB vs = true then tog (wid vs) vs else []
theorem dv_rows {rs : List Sl} (h : dvB (vals rs) = true) : 1 ≤ rs.length ∧ rs.length ≤ 4 ∧ wid (vals rs) ≤ 5 ∧ 1 ≤ wid (vals rs) ∧ ∀ r ∈ rs, r.zs.length = wid (vals rs) ∧ ∀ z ∈ r.zs, 0 ≤ z ∧ z ≤ 99 := by
  obtain ⟨h1, h2, h3, h4⟩ := dvB_of h
  rw [vals_len] at h1 h2
  obtain ⟨_, g1, g2, _⟩ := vvB_of h4
  rw [tog_len] at g1 g2
  exact ⟨h1, h2, g2, g1, good_rows rfl h3⟩
set_option maxHeartbeats 1000000 in
theorem DistrictVotes_any (A : Option Addr) (N C : Nat) (rs : List Sl) (w : World) (hN : rs.length = N) (hNm : N ≤ 1048576) (ha : Mat w w.heap.size A rs) :
    Calls Try.prog 11 #[.slice A N C] w (Seated w (dvB (vals rs)) (dtL (vals rs))) := by
  have HM := Lib.hid ha
  have HC := Lib.hid (DistrictsValid_any A N C rs w hN hNm ha)
  have HN := Lib.hid hN
  clear ha hN
  cases hd : dvB (vals rs) with
  | false =>
    have HQ : Hid (dtL (vals rs) = []) := by
      show _ = _
      unfold dtL
      rw [hd]
      rfl
    rw [hd] at HC
    rw [HQ.out]
    clear hd
    go_enter Try.func11, Try.ntmps11
    go_wp2_with fail
    refine HC.out.mono ?_
    rintro e w2 ⟨rfl, hb2⟩
    go_wp2_with fail
    go_ret2
    exact Seated.nil_ hb2
  | true =>
    have HQ : Hid (dtL (vals rs) = tog (wid (vals rs)) (vals rs)) := if_pos hd
    obtain ⟨d1, d2, d3, d4, d5⟩ := dv_rows hd
    rw [HN.out] at d1 d2
    have HR := Lib.hid d5
    rw [hd] at HC
    clear hd d5
    generalize hwd : wid (vals rs) = n at *
    clear hwd
    go_enter Try.func11, Try.ntmps11
    go_wp2_with fail
    refine HC.out.mono ?_
    rintro e w2 ⟨rfl, hb2⟩
    have HC2 := Lib.hid (together_any A N C n rs w2 HN.out d1 d2 (by omega) HR.out (HM.out.on hb2))
    clear HC
    go_wp2_with fail
    refine HC2.out.mono ?_
    rintro e w3 ⟨rfl, hown3, hb3⟩
    have hbF := hb2.trans (hb3.mono hb2.size)
    have HO := Lib.hid (hown3.from_ hb2.size)
    clear HC2 hown3 hb3
    go_wp2_with fail
    go_ret2
    exact ⟨_, n, n, rfl, by rw [HQ.out]; exact HO.out.len, by omega, Nat.le_refl _, by unfold maxLen; omega, by rw [HQ.out]; exact HO.out, hbF⟩

end Go.Proofs.Ytjanmgiliooocaa
