/- The laws on SampleNext, ManifestTotal and ManifestAt return true and leave all that was there as it was. The conditions stand in each theorem. -/
import Derived.Test.YtnkjleipkfbhnaaDrawB
import Derived.Test.YtnkjleipkfbhnaaToInts
namespace Go.Proofs.Ytnkjleipkfbhnaa
open Go.RowKit Go.ChangeShapes
set_option linter.unusedVariables false

theorem Row.cut {w : World} {B : Nat} {A : Option Addr} {xs : List Value} (h : Row w B A xs) {k c : Nat} (hk : k ≤ xs.length) (hc : xs.length ≤ c) : Row w B (if c = k then A else A.map (·.add k)) (xs.drop k) := by
  by_cases e : c = k
  · exact .inl (List.drop_eq_nil_of_le (by omega))
  · rw [if_neg e]
    rcases h with h | ⟨b, off, rfl, hb, hcell⟩
    · exact .inl (by rw [h]; simp)
    · refine .inr ⟨b, off + k, ?_, hb, fun j u hu => ?_⟩
      · by_cases hk0 : k = 0
        · subst hk0
          simp [Addr.add]
        · simp [Addr.add, hk0]
      · rw [List.getElem?_drop] at hu
        have := hcell (k + j) u hu
        rw [show off + k + j = off + (k + j) by omega]
        exact this

theorem quiet_left {P : Program} {f : FuncId} {args : Array Value} {w : World} {n : Nat} {v : Value}
    (h : Calls P f args (w.drewN n) fun e w' => e = .returned v ∧ w.drewN n = w') : Calls P f args (w.drewN n) fun e w'' => e = .returned v ∧ ∃ m, w'' = w.drewN m :=
  h.mono fun _ _ ⟨he, hm⟩ => ⟨he, n, hm.symm⟩

theorem FnExactSampleNext_walk (a0 : Int) (w0 : (Lit.int .i64 a0).wf = true) (w : World) :
    Calls Try.prog 3 #[.int .i64 a0] w fun e w' => e = .returned (.bool true) ∧ Grown w w' := by
  clear w0
  go_enter Try.func3, Try.ntmps3
  go_wp2_with (first
    | (go_at_call 14; refine (sSampleNext_any _ _).mono ?_; rintro e w' ⟨rfl, rfl⟩)
    | (go_at_call 15; refine (SampleNext_any _ _).mono ?_; rintro e w' ⟨rfl, rfl⟩))
  go_ret
  exact ⟨rfl, Grown.refl _⟩

theorem nxt_ne (s : Int) (h0 : 0 ≤ s) (h1 : s ≤ 65536) : nxt ((s + 1) % 65537) ≠ nxt s := by
  unfold nxt
  omega

set_option maxHeartbeats 1000000 in
theorem FnSampleNext_walk (a0 : Option Addr) (len0 cap0 : Nat) (z0 : List Int) (w : World) (w0 : IsRow .u8 w a0 len0 cap0 z0) :
    Calls Try.prog 4 #[.slice a0 len0 cap0] w fun e w' => e = .returned (.bool true) ∧ Below w.heap.size w w' := by
  have hcap := w0.len_le.2.1
  have hlen := w0.len_le.1
  unfold maxLen at hcap
  by_cases hbig : 1048576 < len0
  · clear w0
    go_enter Try.func4, Try.ntmps4
    go_wp2
    go_ret
    exact ⟨rfl, Below.refl _ _⟩
  go_enter Try.func4, Try.ntmps4
  go_wp2_with fail
  refine (DrawSampleNext_any _ _ _ _ _ w0).mono ?_
  rintro e w1 ⟨s, rfl, hs, hb⟩
  clear w0 hbig hcap hlen
  by_cases h : 0 ≤ s ∧ s ≤ 65536
  · have E : snx s = nxt s := snx_in h
    have E2 : snx ((s + 1) % 65537) = nxt ((s + 1) % 65537) := snx_in (by omega)
    have hb1 := nxt_bd s
    have hne := nxt_ne s h.1 h.2
    have q : (nxt ((s + 1) % 65537) != nxt s) = true := by simpa using hne
    have q2 : (nxt ((s + 1) % 65537) == nxt s) = false := by simpa using hne
    obtain ⟨h1, h2⟩ := h
    clear hne
    go_wp2_with (first
      | (go_at_call 14; refine (sSampleNext_any _ _).mono ?_; rintro e w' ⟨rfl, rfl⟩)
      | (go_at_call 15; refine (SampleNext_any _ _).mono ?_; rintro e w' ⟨rfl, rfl⟩))
    go_ret
    exact ⟨rfl, hb⟩
  · have E : snx s = -1 := snx_out h
    clear h
    go_wp2_with (first
      | (go_at_call 14; refine (sSampleNext_any _ _).mono ?_; rintro e w' ⟨rfl, rfl⟩)
      | (go_at_call 15; refine (SampleNext_any _ _).mono ?_; rintro e w' ⟨rfl, rfl⟩))
    go_ret
    exact ⟨rfl, hb⟩

theorem IsRow.parts {w : World} {a : Option Addr} {len cap : Nat} {zs : List Int} (h : IsRow .i64 w a len cap zs) :
    ∃ ys : List Int, ys.length = len ∧ len ≤ cap ∧ cap ≤ maxLen ∧ Row w w.heap.size a (ys.map (Value.int .i64)) :=
  ⟨zs.take len, h.len_le.2.2, h.len_le.1, h.len_le.2.1, h.row⟩

set_option maxHeartbeats 1000000 in
theorem FnExactManifestTotal_walk (a0 : Option Addr) (len0 cap0 : Nat) (z0 : List Int) (w : World) (w0 : IsRow .i64 w a0 len0 cap0 z0) :
    Calls Try.prog 5 #[.slice a0 len0 cap0] w fun e w' => e = .returned (.bool true) ∧ Below w.heap.size w w' := by
  obtain ⟨ys, hn, h1, h2, hr⟩ := w0.parts
  clear w0
  unfold maxLen at h2
  have HN := Lib.hid hn
  clear hn
  by_cases hbig : 1048576 < len0
  · clear hr
    go_enter Try.func5, Try.ntmps5
    go_wp2
    go_ret
    exact ⟨rfl, Below.refl _ _⟩
  go_enter Try.func5, Try.ntmps5
  go_wp2_with fail
  refine (toIntS_any _ _ _ ys _ HN.out (by omega) hr).mono ?_
  intro e w1 C1
  have hr1 := C1.row HN.out
  obtain ⟨rfl, hb1, _⟩ := C1
  go_wp2_with fail
  refine (sTotal_any _ _ _ ys _ HN.out (by omega) hr1).mono ?_
  rintro e w' ⟨rfl, rfl⟩
  clear hr1
  have hr2 := (hr.below hb1).more hb1.size
  go_wp2_with fail
  refine (toIntS_any _ _ _ ys _ HN.out (by omega) hr2).mono ?_
  intro e w2 C2
  have hr3 := C2.row HN.out
  obtain ⟨rfl, hb2, _⟩ := C2
  go_wp2_with fail
  refine (Total_any _ _ _ ys _ HN.out (by omega) hr3).mono ?_
  rintro e w' ⟨rfl, rfl⟩
  have hr4 := (hr2.below hb2).more hb2.size
  clear hr2
  go_wp2_with fail
  refine (toIntS_any _ _ _ ys _ HN.out (by omega) hr4).mono ?_
  intro e w3 C3
  have hr5 := C3.row HN.out
  obtain ⟨rfl, hb3, _⟩ := C3
  have hr6 := (hr3.below hb3).more hb3.size
  clear hr4 hr3
  go_wp2_with fail
  refine (eqIntS_same _ _ _ _ _ ys _ HN.out (by omega) hr6 hr5).mono ?_
  rintro e w4 ⟨rfl, hb4⟩
  clear hr5 hr6
  go_wp2_with fail
  go_ret
  exact ⟨rfl, ((hb1.trans (hb2.mono hb1.size)).trans (hb3.mono (Nat.le_trans hb1.size hb2.size))).trans (hb4.mono (Nat.le_trans hb1.size (Nat.le_trans hb2.size hb3.size)))⟩

set_option maxHeartbeats 1000000 in
theorem FnExactManifestAt_walk (a0 : Option Addr) (len0 cap0 : Nat) (z0 : List Int) (a1 : Int) (w : World) (w0 : IsRow .i64 w a0 len0 cap0 z0) (w1 : (Lit.int .i64 a1).wf = true) :
    Calls Try.prog 7 #[.slice a0 len0 cap0, .int .i64 a1] w fun e w' => e = .returned (.bool true) ∧ Below w.heap.size w w' := by
  obtain ⟨ys, hn, h1, h2, hr⟩ := w0.parts
  clear w0 w1
  unfold maxLen at h2
  have HN := Lib.hid hn
  clear hn
  by_cases hbig : 1048576 < len0
  · clear hr
    go_enter Try.func7, Try.ntmps7
    go_wp2
    go_ret
    exact ⟨rfl, Below.refl _ _⟩
  go_enter Try.func7, Try.ntmps7
  go_wp2_with fail
  refine (toIntS_any _ _ _ ys _ HN.out (by omega) hr).mono ?_
  intro e w1 C1
  have hr1 := C1.row HN.out
  obtain ⟨rfl, hb1, _⟩ := C1
  go_wp2_with fail
  refine (sAt_any _ _ _ ys _ _ HN.out (by omega) hr1).mono ?_
  rintro e w' ⟨rfl, rfl⟩
  clear hr1
  have hr2 := (hr.below hb1).more hb1.size
  go_wp2_with fail
  refine (toIntS_any _ _ _ ys _ HN.out (by omega) hr2).mono ?_
  intro e w2 C2
  have hr3 := C2.row HN.out
  obtain ⟨rfl, hb2, _⟩ := C2
  go_wp2_with fail
  refine (At_any _ _ _ ys _ _ HN.out (by omega) hr3).mono ?_
  rintro e w' ⟨rfl, rfl⟩
  have hr4 := (hr2.below hb2).more hb2.size
  clear hr2
  go_wp2_with fail
  refine (toIntS_any _ _ _ ys _ HN.out (by omega) hr4).mono ?_
  intro e w3 C3
  have hr5 := C3.row HN.out
  obtain ⟨rfl, hb3, _⟩ := C3
  have hr6 := (hr3.below hb3).more hb3.size
  clear hr4 hr3
  go_wp2_with fail
  refine (eqIntS_same _ _ _ _ _ ys _ HN.out (by omega) hr6 hr5).mono ?_
  rintro e w4 ⟨rfl, hb4⟩
  clear hr5 hr6
  go_wp2_with fail
  go_ret
  exact ⟨rfl, ((hb1.trans (hb2.mono hb1.size)).trans (hb3.mono (Nat.le_trans hb1.size hb2.size))).trans (hb4.mono (Nat.le_trans hb1.size (Nat.le_trans hb2.size hb3.size)))⟩

open Man in
set_option maxHeartbeats 1000000 in
theorem FnManifestTotal_walk (a0 : Option Addr) (len0 cap0 : Nat) (z0 : List Int) (a1 : Option Addr) (len1 cap1 : Nat) (z1 : List Int) (w : World) (w0 : IsRow .u8 w a0 len0 cap0 z0) (w1 : IsRow .u8 w a1 len1 cap1 z1) :
    Calls Try.prog 6 #[.slice a0 len0 cap0, .slice a1 len1 cap1] w fun e w' => e = .returned (.bool true) ∧ Below w.heap.size w w' := by
  have hcap := w0.len_le.2.1
  have hlen := w0.len_le.1
  have hcap1 := w1.len_le.2.1
  have hlen1 := w1.len_le.1
  unfold maxLen at hcap hcap1
  clear w1
  by_cases hbig : 1048576 < len0
  · clear w0
    go_enter Try.func6, Try.ntmps6
    go_wp2
    go_ret
    exact ⟨rfl, Below.refl _ _⟩
  by_cases hbig1 : 1048576 < len1
  · clear w0
    go_enter Try.func6, Try.ntmps6
    go_wp2
    go_ret
    exact ⟨rfl, Below.refl _ _⟩
  go_enter Try.func6, Try.ntmps6
  go_wp2_with fail
  refine (DrawManifestTotal_any _ _ _ _ _ w0).mono ?_
  rintro e w2 ⟨A, ys, n, c, rfl, hl, hn, hbnd, hc1, hc2, hr, hb⟩
  have HN := Lib.hid hl
  clear w0 hbig hcap hlen hl hbnd
  unfold maxLen at hc2
  have hbd := tot_bd ys
  go_wp2_with fail
  refine (Total_any _ _ _ ys _ HN.out (by omega) hr).mono ?_
  rintro e w' ⟨rfl, rfl⟩
  go_wp2_with fail
  refine (sTotal_any _ _ _ ys _ HN.out (by omega) hr).mono ?_
  rintro e w' ⟨rfl, rfl⟩
  by_cases hok : ok ys
  · have ht0 : 0 ≤ tot ys := by
      rw [tot_in hok]
      exact sumI_nonneg _ fun z hz => (hok.1 z hz).1
    obtain ⟨K, hK⟩ : ∃ K : Nat, K = len1 % (n + 1) := ⟨_, rfl⟩
    have hKn : K ≤ n := by have := Nat.mod_lt len1 (show 0 < n + 1 by omega); omega
    have eK : (len1 : Int) % ((n : Int) + 1) = (K : Int) := by rw [hK]; rfl
    have HT := Lib.hid (tot_in (ok_take hok K))
    have HD := Lib.hid (tot_in (ok_drop hok K))
    have HS := Lib.hid (sumI_split ys K)
    have HO := Lib.hid (tot_in hok)
    have hb1 := tot_bd (ys.take K)
    have hb2 := tot_bd (ys.drop K)
    have hr1 : Row w2 w2.heap.size A ((ys.take K).map (Value.int .i64)) := by rw [List.map_take]; exact hr.take K
    have hr2 : Row w2 w2.heap.size (if c = K then A else A.map (·.add K)) ((ys.drop K).map (Value.int .i64)) := by
      rw [List.map_drop]
      exact hr.cut (by rw [List.length_map, HN.out]; exact hKn) (by rw [List.length_map, HN.out]; exact hc1)
    have HL1 : Hid ((ys.take K).length = K) := by
      show _ = _
      rw [List.length_take, HN.out]
      omega
    have HL2 : Hid ((ys.drop K).length = n - K) := by
      show _ = _
      rw [List.length_drop, HN.out]
    clear hok hr hK
    go_wp2_with fail
    simp only [eK]
    clear eK
    go_quiet ((go_at_call 19; (first
      | exact quiet_left (Total_any _ _ _ (ys.take K) _ HL1.out (by omega) hr1)
      | exact quiet_left (Total_any _ _ _ (ys.drop K) _ HL2.out (by omega) hr2))))
    have E : (tot (ys.take K) + tot (ys.drop K) == tot ys) = true := by
      rw [HT.out, HD.out, HS.out, HO.out]
      simp
    clear hr1 hr2
    go_wp2_with fail
    all_goals
      go_ret
      exact ⟨rfl, below_drewN hb _⟩
  · have E : tot ys = -1 := tot_out hok
    clear hok
    go_wp2_with fail
    go_ret
    exact ⟨rfl, hb⟩

open Man in
set_option maxHeartbeats 1000000 in
theorem FnManifestAt_walk (a0 : Option Addr) (len0 cap0 : Nat) (z0 : List Int) (w : World) (w0 : IsRow .u8 w a0 len0 cap0 z0) :
    Calls Try.prog 9 #[.slice a0 len0 cap0] w fun e w' => e = .returned (.bool true) ∧ Below w.heap.size w w' := by
  have hcap := w0.len_le.2.1
  have hlen := w0.len_le.1
  unfold maxLen at hcap
  by_cases hbig : 1048576 < len0
  · clear w0
    go_enter Try.func9, Try.ntmps9
    go_wp2
    go_ret
    exact ⟨rfl, Below.refl _ _⟩
  go_enter Try.func9, Try.ntmps9
  go_wp2_with fail
  refine (DrawManifestAt_any _ _ _ _ _ w0).mono ?_
  rintro e w2 ⟨A, ys, n, c, bal, rfl, hl, hn, hbnd, hc1, hc2, hbal, hr, hb⟩
  have HN := Lib.hid hl
  clear w0 hbig hcap hlen hl hbnd
  unfold maxLen at hc2
  have hbd := tot_bd ys
  go_wp2_with fail
  refine (At_any _ _ _ ys _ _ HN.out (by omega) hr).mono ?_
  rintro e w' ⟨rfl, rfl⟩
  go_wp2_with fail
  refine (sAt_any _ _ _ ys _ _ HN.out (by omega) hr).mono ?_
  rintro e w' ⟨rfl, rfl⟩
  by_cases h : 0 ≤ bal ∧ bal < tot ys
  · obtain ⟨E1, E2, E3⟩ := at_in h
    obtain ⟨hok, hsum⟩ := tot_ok h.1 h.2
    obtain ⟨i1, i2, i3, i4⟩ := loc_spec ys bal h.1 hsum
    have HT := Lib.hid (tot_in (ok_take hok (loc ys bal).1))
    have hb1 := tot_bd (ys.take (loc ys bal).1)
    have hr1 : Row w2 w2.heap.size A ((ys.take (loc ys bal).1).map (Value.int .i64)) := by rw [List.map_take]; exact hr.take _
    have HL1 : Hid ((ys.take (loc ys bal).1).length = (loc ys bal).1) := by
      show _ = _
      rw [List.length_take]
      omega
    rw [HN.out] at i1
    generalize (loc ys bal).1 = K at *
    generalize (loc ys bal).2 = pl at *
    have hl : K < ys.length := by rw [HN.out]; exact i1
    obtain ⟨b, off, rfl, hbw, hc⟩ := int_at hr hl
    have ez : ys.getD K 0 = ys[K] := by simp [hl]
    rw [ez] at i3
    generalize ys[K] = z at *
    have H4 := Lib.hid i4
    have EQ : (tot (ys.take K) + pl == bal) = true := by
      rw [HT.out, i4]
      simp
    have hpl : pl ≤ 2000 := by
      have := HT.out
      omega
    obtain ⟨h0, h1⟩ := h
    clear i4 hr hok ez
    go_wp2_with (go_at_call 19; refine (Total_any _ _ _ (ys.take K) _ HL1.out (by omega) hr1).mono ?_; rintro e w' ⟨rfl, rfl⟩)
    go_ret
    exact ⟨rfl, hb⟩
  · obtain ⟨E1, E2, E3⟩ := at_out h
    clear h
    go_wp2_with fail
    go_ret
    exact ⟨rfl, hb⟩

open Man in
set_option maxHeartbeats 1000000 in
theorem FnManifestNext_walk (a0 : Option Addr) (len0 cap0 : Nat) (z0 : List Int) (w : World) (w0 : IsRow .u8 w a0 len0 cap0 z0) :
    Calls Try.prog 10 #[.slice a0 len0 cap0] w fun e w' => e = .returned (.bool true) ∧ Below w.heap.size w w' := by
  have hcap := w0.len_le.2.1
  have hlen := w0.len_le.1
  unfold maxLen at hcap
  by_cases hbig : 1048576 < len0
  · clear w0
    go_enter Try.func10, Try.ntmps10
    go_wp2
    go_ret
    exact ⟨rfl, Below.refl _ _⟩
  go_enter Try.func10, Try.ntmps10
  go_wp2_with fail
  refine (DrawManifestAt_any _ _ _ _ _ w0).mono ?_
  rintro e w2 ⟨A, ys, n, c, bal, rfl, hl, hn, hbnd, hc1, hc2, hbal, hr, hb⟩
  have HN := Lib.hid hl
  clear w0 hbig hcap hlen hl hbnd
  unfold maxLen at hc2
  have hbd := tot_bd ys
  go_wp2_with fail
  refine (At_any _ _ _ ys _ _ HN.out (by omega) hr).mono ?_
  rintro e w' ⟨rfl, rfl⟩
  go_wp2_with fail
  refine (sAt_any _ _ _ ys _ _ HN.out (by omega) hr).mono ?_
  rintro e w' ⟨rfl, rfl⟩
  by_cases h : 0 ≤ bal ∧ bal < tot ys
  · obtain ⟨E1, E2, E3⟩ := at_in h
    obtain ⟨hok, hsum⟩ := tot_ok h.1 h.2
    obtain ⟨i1, i2, i3, i4⟩ := loc_spec ys bal h.1 hsum
    by_cases hf : bal + 1 < tot ys
    · obtain ⟨F1, F2, F3⟩ := at_in (zs := ys) (b := bal + 1) (by omega)
      have hnx := loc_next ys bal h.1 (by rw [tot_in hok] at hf; exact hf) (fun z hz => (hok.1 z hz).1)
      have hl : (loc ys bal).1 < ys.length := i1
      obtain ⟨b, off, rfl, hbw, hc⟩ := int_at hr hl
      have ez : ys.getD (loc ys bal).1 0 = ys[(loc ys bal).1] := by simp [hl]
      rw [ez] at i3 hnx
      have hz := hok.1 _ (List.getElem_mem hl)
      rw [HN.out] at i1
      generalize ys[(loc ys bal).1] = z at *
      clear ez
      have HQ := Lib.hid i4
      clear i4 hok hsum
      generalize (loc ys bal).1 = K at *
      generalize (loc ys bal).2 = pl at *
      generalize (loc ys (bal + 1)).1 = K' at *
      generalize (loc ys (bal + 1)).2 = pl' at *
      obtain ⟨h0, h1⟩ := h
      go_wp2_with fail
      refine (At_any _ _ _ ys _ _ HN.out (by omega) hr).mono ?_
      rintro e w' ⟨rfl, rfl⟩
      rcases hnx with ⟨e1, e2⟩ | ⟨e1, e2, e3⟩
      · subst e1 e2
        clear hr
        go_wp2_with fail
        go_ret
        exact ⟨rfl, hb⟩
      · subst e2
        have q1 : (((K' : Int)) == (K : Int)) = false := by simp; omega
        have q2 : (pl == z - 1) = true := by simpa using e3
        have e4 : (K : Int) < (K' : Int) := by omega
        clear hr e3
        go_wp2_with fail
        go_ret
        exact ⟨rfl, hb⟩
    · obtain ⟨F1, F2, F3⟩ := at_out (zs := ys) (b := bal + 1) (by omega)
      have q : (bal + 1 == tot ys) = true := by simp; omega
      obtain ⟨h0, h1⟩ := h
      have H4 := Lib.hid i4
      clear i4 i3 i2 i1 hok hsum
      generalize (loc ys bal).1 = K at *
      generalize (loc ys bal).2 = pl at *
      go_wp2_with fail
      refine (At_any _ _ _ ys _ _ HN.out (by omega) hr).mono ?_
      rintro e w' ⟨rfl, rfl⟩
      go_wp2_with fail
      refine (Total_any _ _ _ ys _ HN.out (by omega) hr).mono ?_
      rintro e w' ⟨rfl, rfl⟩
      go_wp2_with fail
      go_ret
      exact ⟨rfl, hb⟩
  · obtain ⟨E1, E2, E3⟩ := at_out h
    clear h
    go_wp2_with fail
    go_ret
    exact ⟨rfl, hb⟩

end Go.Proofs.Ytnkjleipkfbhnaa
