/- Seats of districts: what l24Ok of the reference and DistrictSeats of the program return. The conditions stand in each theorem. -/
import Derived.Test.YtjanmgiliooocaaE6
namespace Go.Proofs.Ytjanmgiliooocaa
open Go.RowKit Go.ChangeShapes
open Man
set_option linter.unusedVariables false

theorem dsB_no {vs : List (List Int)} {s me : Int} {lots : List Int} (h : dvB vs = false ∨ s < 0 ∨ 20 < s * (vs.length : Int)) : dsB vs s me lots = false := by
  unfold dsB
  rcases h with h | h
  · rw [h]; rfl
  · rw [decide_eq_false (by omega)]; simp
theorem dsB_eq {vs : List (List Int)} {s me : Int} {lots : List Int} (h : dvB vs = true) (h0 : 0 ≤ s) (h1 : s * (vs.length : Int) ≤ 20) : dsB vs s me lots = (meB me && (ltB lots && decide (lots.length = wid vs))) := by
  unfold dsB
  rw [h, decide_eq_true ⟨h0, h1⟩]
  rfl
theorem sq_in {s : Int} {N : Nat} (h1 : 1 ≤ N) (h4 : N ≤ 4) : inB s 0 (20 / (N : Int)) = decide (0 ≤ s ∧ s * (N : Int) ≤ 20) := by
  unfold inB
  rw [Bool.eq_iff_iff]
  simp only [Bool.and_eq_true, decide_eq_true_eq]
  rw [s_div h1 h4]

set_option maxHeartbeats 2000000 in
theorem l24Ok_any (A : Option Addr) (N C : Nat) (rs : List Sl) (s me : Int) (Lo : Option Addr) (l f : Nat) (lots : List Int) (w : World) (hN : rs.length = N) (hNm : N ≤ 1048576) (ha : Mat w w.heap.size A rs)
    (hl0 : lots.length = l) (hl1 : l ≤ 1048576) (hf1 : l ≤ f) (hf2 : f ≤ maxLen) (hl : Row w w.heap.size Lo (lots.map (Value.int .i64))) :
    Calls Try.prog 25 #[.slice A N C, .int .i64 s, .int .i64 me, .slice Lo l f] w (Says w (dsB (vals rs) s me lots)) := by
  have HM := Lib.hid ha
  have HL := Lib.hid hl
  have HC := Lib.hid (sDistrictsValid_any A N C rs w hN hNm ha)
  have HN := Lib.hid hN
  have HLL := Lib.hid hl0
  clear ha hN hl hl0
  cases hd : dvB (vals rs) with
  | false =>
    have HQ : Hid (dsB (vals rs) s me lots = false) := dsB_no (.inl hd)
    rw [hd] at HC
    clear hd
    go_enter Try.func25, Try.ntmps25
    go_wp2_with fail
    refine HC.out.mono ?_
    rintro e w2 ⟨rfl, hb2⟩
    go_wp2_with fail
    go_ret
    exact ⟨ret_bool HQ.out.symm, hb2⟩
  | true =>
    obtain ⟨d1, d2, _, _, _⟩ := dv_rows hd
    rw [HN.out] at d1 d2
    have hq := sq_in (s := s) d1 d2
    have hne : ((N : Int) == 0) = false := by simp; omega
    by_cases hs : 0 ≤ s ∧ s * (N : Int) ≤ 20
    · rw [decide_eq_true hs] at hq
      have HE := Lib.hid (dsB_eq (me := me) (lots := lots) hd hs.1 (by rw [vals_len, HN.out]; exact hs.2))
      have h00 : 0 < rs.length := by rw [HN.out]; omega
      have HW := Lib.hid (vals_wid h00)
      have HR0 := HM.out.row _ (List.getElem_mem h00)
      have hr0 := HR0.len
      obtain ⟨b, off, rfl, hbw, _⟩ := HM.out.at_ h00
      have HC0 : Hid (∀ W, Below w.heap.size w W → W.cell? ⟨b, off, none⟩ = some (.slice rs[0].A rs[0].n rs[0].c)) := fun W hW => by
        have := (HM.out.below hW).cellOf h00
        rwa [Nat.add_zero] at this
      rw [hr0] at HW
      generalize rs[0].A = A0 at *
      generalize rs[0].c = C0 at *
      generalize rs[0].n = n0 at *
      rw [hd] at HC
      clear hd hs HR0 hr0
      cases hm : meB me with
      | false =>
        have HQ : Hid (dsB (vals rs) s me lots = false) := by show _ = _; rw [HE.out, hm]; rfl
        clear HE
        go_enter Try.func25, Try.ntmps25
        go_wp2_with fail
        refine HC.out.mono ?_
        rintro e w2 ⟨rfl, hb2⟩
        go_wp2_with fail
        refine (in_any _ _ _ _).mono ?_
        rintro e w' ⟨rfl, rfl⟩
        rw [hq]
        go_wp2_with fail
        refine (sl21Method_any me _).mono ?_
        rintro e w' ⟨rfl, rfl⟩
        rw [hm]
        clear hq hm
        go_wp2_with fail
        go_ret
        exact ⟨ret_bool HQ.out.symm, hb2⟩
      | true =>
        have hE2 := HE.out
        rw [hm, Bool.true_and] at hE2
        have HE2 := Lib.hid hE2
        clear hE2 HE
        go_enter Try.func25, Try.ntmps25
        go_wp2_with fail
        refine HC.out.mono ?_
        rintro e w2 ⟨rfl, hb2⟩
        go_wp2_with fail
        refine (in_any _ _ _ _).mono ?_
        rintro e w' ⟨rfl, rfl⟩
        rw [hq]
        go_wp2_with fail
        refine (sl21Method_any me _).mono ?_
        rintro e w' ⟨rfl, rfl⟩
        rw [hm]
        have HC3 := Lib.hid (sLotsValid_any Lo l f lots w2 HLL.out hl1 hf1 hf2 (HL.out.on hb2))
        clear hq hm HC
        go_wp2_with fail
        refine HC3.out.mono ?_
        rintro e w3 ⟨rfl, hb3⟩
        have hbF := hb2.trans (hb3.mono hb2.size)
        have hc0 := HC0.out _ hbF
        cases hlt : ltB lots with
        | false =>
          have HQ : Hid (dsB (vals rs) s me lots = false) := by show _ = _; rw [HE2.out, hlt]; rfl
          clear hlt HE2 HC3
          go_wp2_with fail
          go_ret
          exact ⟨ret_bool HQ.out.symm, hbF⟩
        | true =>
          have HQ : Hid (dsB (vals rs) s me lots = ((l : Int) == (n0 : Int))) := by
            show _ = _
            rw [HE2.out, hlt, Bool.true_and, HW.out, HLL.out]
            by_cases e : l = n0
            · subst e
              simp
            · rw [decide_eq_false e]
              have : ((l : Int) == (n0 : Int)) = false := by simp; omega
              rw [this]
          clear hlt HE2 HC3
          go_wp2_with fail
          go_ret
          exact ⟨ret_bool HQ.out.symm, hbF⟩
    · rw [decide_eq_false hs] at hq
      have HQ : Hid (dsB (vals rs) s me lots = false) := by
        show _ = _
        unfold dsB
        rw [vals_len, HN.out, decide_eq_false hs]
        simp
      rw [hd] at HC
      clear hd hs
      go_enter Try.func25, Try.ntmps25
      go_wp2_with fail
      refine HC.out.mono ?_
      rintro e w2 ⟨rfl, hb2⟩
      go_wp2_with fail
      refine (in_any _ _ _ _).mono ?_
      rintro e w' ⟨rfl, rfl⟩
      rw [hq]
      clear hq
      go_wp2_with fail
      go_ret
      exact ⟨ret_bool HQ.out.symm, hb2⟩

theorem info_ints : (Try.prog.info? 24).map (fun i => (i.zero, i.size, i.bytes)) = some (some (.slice none 0 0), 1, 24) := by kernel_rfl
theorem Row.stay {w w' : World} {B : Nat} {A : Option Addr} {xs : List Value} (h : Row w B A xs) (hk : ∀ ad : Addr, A = some ad → ad.block < B → w'.heap[ad.block]? = w.heap[ad.block]?) : Row w' B A xs := by
  rcases h with h | ⟨b, off, e, hb, hc⟩
  · exact .inl h
  · have hcell : ∀ j, w'.cell? ⟨b, off + j, none⟩ = w.cell? ⟨b, off + j, none⟩ := fun j => by
      have h1 : w'.heap[b]? = w.heap[b]? := hk ⟨b, off, none⟩ e hb
      exact World.cell?_of_block (w := w) h1
    exact .inr ⟨b, off, e, hb, fun j u hu => (hcell j).trans (hc j u hu)⟩
/-- Rows that lie elsewhere than the slice u's own block. -/
def Apart (u : Value) (rs : List Sl) : Prop := ∀ r ∈ rs, ∀ ad : Addr, r.A = some ad → u.ownBlock ≠ some ad.block
def Low (w : World) (rs : List Sl) : Prop := ∀ r ∈ rs, ∀ ad : Addr, r.A = some ad → ad.block < w.heap.size
/-- A matrix, and whether there is one. -/
def Mated (w : World) (b : Bool) (vs : List (List Int)) (e : Ending) (w' : World) : Prop :=
  ∃ (A : Option Addr) (k c : Nat) (rs : List Sl), e = .returned (.tuple #[.slice A k c, .bool b]) ∧ rs.length = k ∧ k ≤ 4 ∧ k ≤ c ∧ c ≤ maxLen ∧ vals rs = vs ∧ Mat w' w'.heap.size A rs ∧ Below w.heap.size w w'
theorem Mated.nil_ {w w' : World} (hb : Below w.heap.size w w') : Mated w false [] (.returned (.tuple #[.slice none 0 0, .bool false])) w' :=
  ⟨none, 0, 0, [], rfl, rfl, by omega, Nat.le_refl _, by unfold maxLen; omega, rfl, ⟨.inl rfl, fun r hr => by cases hr⟩, hb⟩
def dsL (vs : List (List Int)) (s me : Int) (lots : List Int) : List (List Int) := if dsB vs s me lots = true then apL vs s me lots else []
theorem dsL_no {vs : List (List Int)} {s me : Int} {lots : List Int} (h : dsB vs s me lots = false) : dsL vs s me lots = [] := by
  unfold dsL
  rw [h]
  rfl
theorem ap_take {rs : List Sl} {s me : Int} {lots : List Int} {k : Nat} (hk : k < rs.length) (h : sdB rs[k].zs s me lots = true) : (apL (vals rs) s me lots).take (k + 1) = (apL (vals rs) s me lots).take k ++ [sdL rs[k].zs s me lots] := by
  have hl : k < (apL (vals rs) s me lots).length := by simpa [apL, vals] using hk
  rw [List.take_succ_eq_append_getElem hl, sdL_yes h]
  simp [apL, vals]

set_option maxHeartbeats 4000000 in
theorem DistrictSeats_any (A : Option Addr) (N C : Nat) (rs : List Sl) (s me : Int) (Lo : Option Addr) (l f : Nat) (lots : List Int) (w : World) (hN : rs.length = N) (hNm : N ≤ 1048576) (ha : Mat w w.heap.size A rs)
    (hl0 : lots.length = l) (hl1 : l ≤ 1048576) (hf1 : l ≤ f) (hf2 : f ≤ maxLen) (hl : Row w w.heap.size Lo (lots.map (Value.int .i64))) :
    Calls Try.prog 13 #[.slice A N C, .int .i64 s, .int .i64 me, .slice Lo l f] w (Mated w (dsB (vals rs) s me lots) (dsL (vals rs) s me lots)) := by
  have HM := Lib.hid ha
  have HL := Lib.hid hl
  have HC := Lib.hid (DistrictsValid_any A N C rs w hN hNm ha)
  have HN := Lib.hid hN
  have HLL := Lib.hid hl0
  clear ha hN hl hl0
  cases hd : dvB (vals rs) with
  | false =>
    have hQ : dsB (vals rs) s me lots = false := dsB_no (.inl hd)
    rw [dsL_no hQ, hQ]
    rw [hd] at HC
    clear hd hQ
    go_enter Try.func13, Try.ntmps13
    go_wp2_with fail
    refine HC.out.mono ?_
    rintro e w2 ⟨rfl, hb2⟩
    go_wp2_with fail
    go_ret2
    exact Mated.nil_ hb2
  | true =>
    obtain ⟨d1, d2, _, _, _⟩ := dv_rows hd
    rw [HN.out] at d1 d2
    have hq := s_div (s := s) d1 d2
    have hne : ((N : Int) == 0) = false := by simp; omega
    by_cases hs0 : s < 0
    · have hQ : dsB (vals rs) s me lots = false := dsB_no (.inr (.inl hs0))
      rw [dsL_no hQ, hQ]
      rw [hd] at HC
      clear hd hQ hq
      go_enter Try.func13, Try.ntmps13
      go_wp2_with fail
      refine HC.out.mono ?_
      rintro e w2 ⟨rfl, hb2⟩
      go_wp2_with fail
      go_ret2
      exact Mated.nil_ hb2
    by_cases hs1 : 20 < s * (N : Int)
    · have hQ : dsB (vals rs) s me lots = false := dsB_no (.inr (.inr (by rw [vals_len, HN.out]; exact hs1)))
      have hgt : 20 / (N : Int) < s := by
        by_cases h : s ≤ 20 / (N : Int)
        · have := hq.1 h
          omega
        · exact Int.not_le.1 h
      rw [dsL_no hQ, hQ]
      rw [hd] at HC
      clear hd hQ hq
      go_enter Try.func13, Try.ntmps13
      go_wp2_with fail
      refine HC.out.mono ?_
      rintro e w2 ⟨rfl, hb2⟩
      go_wp2_with fail
      go_ret2
      exact Mated.nil_ hb2
    · have hle : s ≤ 20 / (N : Int) := hq.2 (by omega)
      have hs0' : 0 ≤ s := by omega
      have hs1' : s * ((vals rs).length : Int) ≤ 20 := by rw [vals_len, HN.out]; omega
      have HBAD : Hid (dsB (vals rs) s me lots = false → ∀ v ∈ vals rs, sdB v s me lots = false) := fun h v hv => ds_bad hd hs0' hs1' h hv
      rw [hd] at HC
      clear hd hq hs1 hs1'
      cases hB : dsB (vals rs) s me lots with
      | false =>
        rw [dsL_no hB]
        have HBD := Lib.hid (HBAD.out hB)
        clear HBAD hB
        go_enter Try.func13, Try.ntmps13
        go_wp2_with fail
        refine HC.out.mono ?_
        rintro e w2 ⟨rfl, hb2⟩
        clear HC
        go_wp2_with fail
        go_loopw [31] (fun i wx => i = .int .i64 0 ∧ Below w.heap.size w wx) (fun _ _ => 0)
        case atStart => exact ⟨rfl, hb2⟩
        case round =>
          clear hb2
          obtain ⟨rfl, hbel⟩ := hrel
          have hl : 0 < rs.length := by rw [HN.out]; omega
          have hv := HBD.out rs[0].zs (List.mem_map.2 ⟨_, List.getElem_mem hl, rfl⟩)
          have HO := (HM.out.on hbel).row _ (List.getElem_mem hl)
          obtain ⟨b, off, rfl, hbw, hcr⟩ := (HM.out.below hbel).at_ hl
          rw [Nat.add_zero] at hcr
          generalize rs[0] = r at *
          obtain ⟨rA, rn, rc, rz⟩ := r
          obtain ⟨o1, o2, o3, o4, hrow⟩ := HO
          simp only at o1 o2 o3 o4 hrow hcr hv
          have HC2 := Lib.hid (SeatsDivisor_any rA rn rc rz s me Lo l f lots wr o1 HLL.out o4 hl1 hf1 hf2 hrow (HL.out.on hbel))
          rw [hv] at HC2
          clear hrow hv
          go_wp2_with fail
          refine HC2.out.mono ?_
          rintro e w3 ⟨A3, k3, c3, rfl, _, _, _, _, _, hb3⟩
          have hbF := hbel.trans (hb3.mono hbel.size)
          clear HC2 hb3
          go_wp2_with fail
          go_ret2
          exact Mated.nil_ hbF
      | true =>
        have HQ : Hid (dsL (vals rs) s me lots = apL (vals rs) s me lots) := if_pos hB
        have HGOOD : Hid (∀ v ∈ vals rs, sdB v s me lots = true) := fun v hv => (ds_row hB hv).1
        obtain ⟨i0, hi0, hz0, hz1, hz2⟩ := info_parts info_ints
        have HI := Lib.hid hi0
        have HZ0 := Lib.hid hz0
        have HZ1 := Lib.hid hz1
        have HZ2 := Lib.hid hz2
        clear HBAD hB hi0 hz0 hz1 hz2
        go_enter Try.func13, Try.ntmps13
        go_wp2_with fail
        refine HC.out.mono ?_
        rintro e w2 ⟨rfl, hb2⟩
        clear HC
        go_wp2_with fail
        go_loopw [10, 31] (fun u i wx => ∃ (k : Nat) (qs : List Sl), k ≤ N ∧ i = .int .i64 k ∧ Below w.heap.size w wx ∧ wx.ownsRow w.heap.size 24 1 u k (qs.map Sl.v) ∧ Hid (vals qs = (apL (vals rs) s me lots).take k) ∧ Hid (∀ r ∈ qs, SlOk wx wx.heap.size r) ∧ Hid (Apart u qs) ∧ Hid (Low wx qs)) (fun _ i _ => N - (intOf i).toNat)
        case atStart => exact ⟨0, [], Nat.zero_le _, rfl, hb2, own_nil _ _ _ _, rfl, fun r hr => (by cases hr), fun r hr => (by cases hr), fun r hr => (by cases hr)⟩
        case round =>
          clear hb2
          obtain ⟨k, qs, hk, rfl, hbel, hown, HV, HS, HAP, HLW⟩ := hrel
          by_cases hlt : k < N
          · have hl : k < rs.length := by rw [HN.out]; exact hlt
            have hv := HGOOD.out rs[k].zs (List.mem_map.2 ⟨_, List.getElem_mem hl, rfl⟩)
            have HT := Lib.hid (ap_take (s := s) (me := me) (lots := lots) hl hv)
            have HO := (HM.out.on hbel).row _ (List.getElem_mem hl)
            obtain ⟨b, off, rfl, hbw, hcr⟩ := (HM.out.below hbel).at_ hl
            generalize rs[k] = r at *
            obtain ⟨rA, rn, rc, rz⟩ := r
            obtain ⟨o1, o2, o3, o4, hrow⟩ := HO
            simp only at o1 o2 o3 o4 hrow hcr hv HT
            have HC2 := Lib.hid (SeatsDivisor_any rA rn rc rz s me Lo l f lots wr o1 HLL.out o4 hl1 hf1 hf2 hrow (HL.out.on hbel))
            rw [hv] at HC2
            have HOW := Lib.hid hown
            clear hrow hv hown
            go_wp2_with fail
            refine HC2.out.mono ?_
            rintro e w3 ⟨A3, k3, c3, rfl, h31, h32, h33, h34, hown3, hb3⟩
            have hbF := hbel.trans (hb3.mono hbel.size)
            have hs3 := hbF.size
            have hown4 := own_alloc (own_below HOW.out hb3) (.cells #[Value.slice A3 k3 c3] 24)
            have HOW3 := Lib.hid hown3
            have HS3 : Hid (∀ r ∈ qs ++ [(⟨A3, k3, c3, sdL rz s me lots⟩ : Sl)], SlOk w3 w3.heap.size r) := fun r hr => by
              rcases List.mem_append.1 hr with hr | hr
              · exact ((HS.out r hr).below hb3).more hb3.size
              · rw [List.mem_singleton.1 hr]
                exact ⟨h31, h33, h34, h32, hown3.rowAt.2.2⟩
            have HAP3 : Hid (Apart u10 (qs ++ [(⟨A3, k3, c3, sdL rz s me lots⟩ : Sl)])) := fun r hr ad had => by
              rcases List.mem_append.1 hr with hr | hr
              · exact HAP.out r hr ad had
              · rw [List.mem_singleton.1 hr] at had
                simp only at had
                intro e
                have h1 := (own_block HOW.out _ e).2
                have h2 := (own_block hown3 ad.block (by rw [had]; simp [Value.ownBlock])).1
                omega
            have HLW3 : Hid (Low w3 (qs ++ [(⟨A3, k3, c3, sdL rz s me lots⟩ : Sl)])) := fun r hr ad had => by
              rcases List.mem_append.1 hr with hr | hr
              · exact Nat.lt_of_lt_of_le (HLW.out r hr ad had) hb3.size
              · rw [List.mem_singleton.1 hr] at had
                simp only at had
                exact (own_block hown3 ad.block (by rw [had]; simp [Value.ownBlock])).2
            have HVN : Hid (vals (qs ++ [(⟨A3, k3, c3, sdL rz s me lots⟩ : Sl)]) = (apL (vals rs) s me lots).take (k + 1)) := by
              show _ = _
              rw [HT.out, ← HV.out]
              simp [vals]
            have HMAP : Hid ((qs ++ [(⟨A3, k3, c3, sdL rz s me lots⟩ : Sl)]).map Sl.v = qs.map Sl.v ++ [.slice A3 k3 c3]) := by
              show _ = _
              rw [List.map_append]
              rfl
            have HOB := Lib.hid (own_block HOW.out)
            clear HC2 hb3 hown3 h31 h32 h33 h34 HT HV HS HAP HLW HOW3
            generalize qs ++ [(⟨A3, k3, c3, sdL rz s me lots⟩ : Sl)] = qs2 at *
            go_wp2_with (at_builtin; refine wpList_append_own_at _ rfl (.tmp 45) (.tmp 47) _ rfl w.heap.size 24 i0 _ 1 24 Try.underlying23 HI.out HZ0.out HZ1.out HZ2.out rfl (by omega) u10 _ _ rfl hown4 ⟨w3.heap.size, 0, none⟩ 1 1 [.slice A3 k3 c3] rfl rfl (cell_one_new _ _ _) (by intro u hu; simp at hu; subst hu; rfl) (by unfold maxLen; omega) (by omega) (by simp; omega) ?_; intro v7 w7 hown7 hgrow7 hnil7 hat7)
            have hs7 := hgrow7.size
            simp at hs7
            go_roundw
            case rel =>
              refine ⟨k + 1, qs2, by omega, by go_num, (hbF.alloc hs3 _).grown hgrow7 (by simp; omega) (fun x hx => (HOB.out x hx).1), by rw [HMAP.out]; exact hown7, HVN.out, fun r hr => ?_, fun r hr ad had => ?_, fun r hr ad had => Nat.lt_of_lt_of_le (HLW3.out r hr ad had) (by omega)⟩
              · obtain ⟨p1, p2, p3, p4, p5⟩ := HS3.out r hr
                refine ⟨p1, p2, p3, p4, (p5.stay fun ad had hlt => ?_).more (by omega)⟩
                exact (hgrow7.block ad.block (by simp; omega) (fun e => HAP3.out r hr ad had e.symm)).trans (Below.heap_alloc w3 _ _ hlt)
              · have h1 := HLW3.out r hr ad had
                rcases hat7 with e | e
                · rw [e]
                  exact HAP3.out r hr ad had
                · rw [e]
                  intro e2
                  injection e2 with e2
                  simp at e2
                  omega
            case measure => simp [intOf]; omega
          · obtain rfl : k = N := by omega
            obtain ⟨A', c', rfl, hc1, hc2, hcl, hrow⟩ := own_slice hown
            have HR := Lib.hid hrow
            have HVF : Hid (vals qs = dsL (vals rs) s me lots) := by
              show _ = _
              rw [HV.out, HQ.out, List.take_of_length_le]
              simp [apL, vals_len, HN.out]
            have HCL : Hid (qs.length = k) := by
              show _ = _
              simpa using hcl
            clear hrow hown hcl
            go_wp2_with fail
            go_ret2
            exact ⟨A', k, c', qs, rfl, HCL.out, d2, hc1, hc2, HVF.out, ⟨HR.out, HS.out⟩, hbel⟩

end Go.Proofs.Ytjanmgiliooocaa
