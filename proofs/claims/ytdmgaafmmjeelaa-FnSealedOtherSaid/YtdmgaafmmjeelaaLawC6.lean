/- The law FnSealedOther returns true and leaves all that was there as it was. The conditions stand in each theorem. -/
import Derived.Test.YtdmgaafmmjeelaaDrawC2
import Derived.Test.YtdmgaafmmjeelaaEvS
namespace Go.Proofs.Ytdmgaafmmjeelaa
open Go.RowKit Go.ChangeShapes
set_option linter.unusedVariables false

set_option maxRecDepth 100000 in
set_option maxHeartbeats 4000000 in
theorem FnSealedOther_walk (a0 : Option Addr) (len0 cap0 : Nat) (z0 : List Int) (w : World) (w0 : IsRow .u8 w a0 len0 cap0 z0) :
    Calls Try.prog 7 #[.slice a0 len0 cap0] w fun e w' => e = .returned (.bool true) ∧ Below w.heap.size w w' := by
  have hcap := w0.len_le.2.1
  have hlen := w0.len_le.1
  unfold maxLen at hcap
  by_cases hbig : 1048576 < len0
  · clear w0
    go_enter Try.func7, Try.ntmps7
    go_wp2
    go_ret
    exact ⟨rfl, Below.refl _ _⟩
  have dd0 : decide ((1048576 : Int) < (len0 : Int)) = false := by simp; omega
  go_enter Try.func7, Try.ntmps7
  go_wp2_with fail
  refine (DrawLedgerSealed_any _ _ _ _ _ w0).mono ?_
  rintro e w2 ⟨A, ps, n, c, b, rfl, hl, hn, hc1, hc2, hbb, hr, hb⟩
  have HN := Lib.hid hl
  have KB := Lib.hid (wf_small (k := b) (by omega) (by omega))
  clear w0 hbig hcap hlen hl
  unfold maxLen at hc2
  obtain ⟨hb0, hb5⟩ := hbb
  go_wp2_with fail
  refine (LedgerSealed_any _ _ _ ps b _ HN.out (by omega) KB.out hr).mono ?_
  rintro e w3 ⟨rfl, hb3⟩
  have hr3 := (hr.below hb3).more hb3.size
  have hbF3 := hb.trans (hb3.mono hb.size)
  clear hr hb3 hb
  go_wp2_with fail
  refine (sLedgerSealed_any _ _ _ ps b _ HN.out (by omega) hr3).mono ?_
  rintro e w4 ⟨rfl, hb4⟩
  have hr4 := (hr3.below hb4).more hb4.size
  have hbF4 := hbF3.trans (hb4.mono hbF3.size)
  clear hr3 hb4 hbF3
  generalize hs : sea ps b = sv at *
  obtain ⟨s, m, ok⟩ := sv
  have HS := Lib.hid hs
  clear hs
  cases ok with
  | false =>
    go_wp2_with fail
    go_ret
    exact ⟨rfl, hbF4⟩
  | true =>
    have hbd := sea_one (l := ps) (b := b) (by rw [HS.out])
    rw [HS.out] at hbd
    simp only at hbd
    obtain ⟨s0, s1, m0, m1, n20⟩ := hbd
    rw [HN.out] at n20
    by_cases hbig : n = 20
    · subst hbig
      go_wp2_with fail
      go_ret
      exact ⟨rfl, hbF4⟩
    obtain ⟨i0, hi0, hz0, hz1, hz2⟩ := info_parts info_ev
    have HI := Lib.hid hi0
    have HZ0 := Lib.hid hz0
    have HZ1 := Lib.hid hz1
    have HZ2 := Lib.hid hz2
    have hsz4 := hbF4.size
    have hlenE : (evCells ps).length = n * 4 := by rw [evCells_len, HN.out]
    have HLE := Lib.hid hlenE
    have HO := Lib.hid (ev_oneCell ps)
    clear hi0 hz0 hz1 hz2 hlenE
    have HO1 := Lib.hid (other (l := ps) (s' := s % 99 + 1) (m' := m) HS.out (by rw [HN.out]; omega) (by omega) (.inl (by omega)))
    have HO2 := Lib.hid (other (l := ps) (s' := s) (m' := (m + 1) % 100) HS.out (by rw [HN.out]; omega) (by omega) (.inr (by omega)))
    have HLX1 : Hid ((ps ++ [(⟨b, 3, s % 99 + 1, m⟩ : Ev)]).length = n + 1) := by
      show _ = _
      rw [List.length_append, HN.out]
      rfl
    have HLX2 : Hid ((ps ++ [(⟨b, 3, s, (m + 1) % 100⟩ : Ev)]).length = n + 1) := by
      show _ = _
      rw [List.length_append, HN.out]
      rfl
    have hq1 : 1 ≤ s % 99 + 1 := by omega
    have hq2 : s % 99 + 1 ≤ 99 := by omega
    have hq3 : 0 ≤ (m + 1) % 100 := by omega
    have hq4 : (m + 1) % 100 ≤ 99 := by omega
    go_wp2_with fail
    have b8 : Below w4.heap.size w4 ((w4.alloc (.cells #[.int .i64 b, .int .i64 3, .int .i64 (s % 99 + 1), .int .i64 m] 36)).alloc (.cells #[.int .i64 b, .int .i64 3, .int .i64 s, .int .i64 ((m + 1) % 100)] 36)) := ((Below.refl _ _).alloc (Nat.le_refl _) _).alloc (by simp) _
    have hbF8 := hbF4.trans (b8.mono hsz4)
    have hr8 := (hr4.below b8).more b8.size
    have hE1 : Blk ((w4.alloc (.cells #[.int .i64 b, .int .i64 3, .int .i64 (s % 99 + 1), .int .i64 m] 36)).alloc (.cells #[.int .i64 b, .int .i64 3, .int .i64 s, .int .i64 ((m + 1) % 100)] 36)) w4.heap.size 36 #[.int .i64 b, .int .i64 3, .int .i64 (s % 99 + 1), .int .i64 m] := (Blk.new _ _ _).alloc _
    have hE2 : Blk ((w4.alloc (.cells #[.int .i64 b, .int .i64 3, .int .i64 (s % 99 + 1), .int .i64 m] 36)).alloc (.cells #[.int .i64 b, .int .i64 3, .int .i64 s, .int .i64 ((m + 1) % 100)] 36)) (w4.heap.size + 1) 36 #[.int .i64 b, .int .i64 3, .int .i64 s, .int .i64 ((m + 1) % 100)] := by
      have h := Blk.new (w4.alloc (.cells #[.int .i64 b, .int .i64 3, .int .i64 (s % 99 + 1), .int .i64 m] 36)) 36 #[.int .i64 b, .int .i64 3, .int .i64 s, .int .i64 ((m + 1) % 100)]
      simpa using h
    clear b8 hbF4 hr4 hsz4
    generalize (w4.alloc (.cells #[.int .i64 b, .int .i64 3, .int .i64 (s % 99 + 1), .int .i64 m] 36)).alloc (.cells #[.int .i64 b, .int .i64 3, .int .i64 s, .int .i64 ((m + 1) % 100)] 36) = w8 at *
    generalize s % 99 + 1 = s' at *
    generalize (m + 1) % 100 = m' at *
    generalize w4.heap.size + 1 = eb2 at *
    generalize w4.heap.size = eb at *
    have c0 : w8.cell? ⟨eb, 0, none⟩ = some (.int .i64 b) := by rw [hE1.cell 0]; rfl
    have c1 : w8.cell? ⟨eb, 1, none⟩ = some (.int .i64 3) := by rw [hE1.cell 1]; rfl
    have c2 : w8.cell? ⟨eb, 2, none⟩ = some (.int .i64 s') := by rw [hE1.cell 2]; rfl
    have c3 : w8.cell? ⟨eb, 3, none⟩ = some (.int .i64 m) := by rw [hE1.cell 3]; rfl
    have hebl := hE1.lt
    have HSRC : Hid (∀ W, Below w8.heap.size w8 W → Src W 4 A n (evCells ps)) := fun W hW => (hr8.below hW).src (by omega) HLE.out
    have HOWN2 : Hid (World.ownsRow ((w8.alloc (.cells #[.int .i64 b, .int .i64 3, .int .i64 s', .int .i64 m] 36)).alloc (.cells #[] 36)) w8.heap.size 36 4 (.slice (some ⟨w8.heap.size + 1, 0, none⟩) 0 0) 0 []) := by
      have e : (w8.alloc (.cells #[.int .i64 b, .int .i64 3, .int .i64 s', .int .i64 m] 36)).heap.size = w8.heap.size + 1 := by simp
      have h := own_empty (w8.alloc (.cells #[.int .i64 b, .int .i64 3, .int .i64 s', .int .i64 m] 36)) w8.heap.size 36 4 (by simp)
      rw [e] at h
      exact h
    go_cut [13] (fun v wx => ∃ (A9 : Option Addr) (c9 : Nat), v = .slice A9 (n + 1) c9 ∧ n + 1 ≤ c9 ∧ c9 ≤ maxLen ∧ wx.ownsRow w8.heap.size 36 4 v (n + 1) (evCells (ps ++ [(⟨b, 3, s', m⟩ : Ev)])) ∧ Below w8.heap.size w8 wx)
    case first =>
      go_region_law (first
        | (refine step_append_src _ rfl (.tmp 90) (.tmp 91) _ rfl w8.heap.size 36 i0 _ 4 32 Try.underlying25 HI.out HZ0.out HZ1.out HZ2.out rfl (by omega) (.slice (some ⟨w8.heap.size, 0, none⟩) 0 0) 0 [] rfl (own_empty w8 w8.heap.size 36 4 (Nat.le_refl _)) A n c (evCells ps) rfl (HSRC.out _ (((Below.refl w8.heap.size w8).alloc (Nat.le_refl _) _).drew)) HO.out (by unfold maxLen; omega) (by omega) (by simp <;> omega) ?_; intro v7 w7 hown7 hgrow7 hat7; rw [Nat.zero_add, List.nil_append] at hown7; have hb47 : Below w8.heap.size w8 w7 := (((Below.refl w8.heap.size w8).alloc (Nat.le_refl _) _).drew).grown hgrow7 (by simp <;> omega) (fun x hx => (own_block (own_empty w8 w8.heap.size 36 4 (Nat.le_refl _)) x hx).1); have hsz7 := hb47.size; have k0 : w7.cell? ⟨eb, 0, none⟩ = some (.int .i64 b) := (hb47.cell (p := ⟨eb, 0, none⟩) hebl).trans c0; have z0 := hb47.frozen (p := ⟨eb, 0, none⟩) hebl; have k1 : w7.cell? ⟨eb, 1, none⟩ = some (.int .i64 3) := (hb47.cell (p := ⟨eb, 1, none⟩) hebl).trans c1; have z1 := hb47.frozen (p := ⟨eb, 1, none⟩) hebl; have k2 : w7.cell? ⟨eb, 2, none⟩ = some (.int .i64 s') := (hb47.cell (p := ⟨eb, 2, none⟩) hebl).trans c2; have z2 := hb47.frozen (p := ⟨eb, 2, none⟩) hebl; have k3 : w7.cell? ⟨eb, 3, none⟩ = some (.int .i64 m) := (hb47.cell (p := ⟨eb, 3, none⟩) hebl).trans c3; have z3 := hb47.frozen (p := ⟨eb, 3, none⟩) hebl; obtain ⟨A7, c7, rfl, ho1, ho2, ho3, ho4⟩ := own_sliceN hown7; clear ho1 ho2 ho3 ho4 hat7; clear hgrow7)
        | (refine step_append_src _ rfl (.tmp 90) (.tmp 91) _ rfl w8.heap.size 36 i0 _ 4 32 Try.underlying25 HI.out HZ0.out HZ1.out HZ2.out rfl (by omega) (.slice (some ⟨w8.heap.size + 1, 0, none⟩) 0 0) 0 [] rfl (HOWN2.out) A n c (evCells ps) rfl (HSRC.out _ ((((Below.refl w8.heap.size w8).alloc (Nat.le_refl _) _).alloc (by simp) _).drew)) HO.out (by unfold maxLen; omega) (by omega) (by simp <;> omega) ?_; intro v7 w7 hown7 hgrow7 hat7; rw [Nat.zero_add, List.nil_append] at hown7; have hb47 : Below w8.heap.size w8 w7 := ((((Below.refl w8.heap.size w8).alloc (Nat.le_refl _) _).alloc (by simp) _).drew).grown hgrow7 (by simp <;> omega) (fun x hx => (own_block (HOWN2.out) x hx).1); have hsz7 := hb47.size; have k0 : w7.cell? ⟨eb, 0, none⟩ = some (.int .i64 b) := (hb47.cell (p := ⟨eb, 0, none⟩) hebl).trans c0; have z0 := hb47.frozen (p := ⟨eb, 0, none⟩) hebl; have k1 : w7.cell? ⟨eb, 1, none⟩ = some (.int .i64 3) := (hb47.cell (p := ⟨eb, 1, none⟩) hebl).trans c1; have z1 := hb47.frozen (p := ⟨eb, 1, none⟩) hebl; have k2 : w7.cell? ⟨eb, 2, none⟩ = some (.int .i64 s') := (hb47.cell (p := ⟨eb, 2, none⟩) hebl).trans c2; have z2 := hb47.frozen (p := ⟨eb, 2, none⟩) hebl; have k3 : w7.cell? ⟨eb, 3, none⟩ = some (.int .i64 m) := (hb47.cell (p := ⟨eb, 3, none⟩) hebl).trans c3; have z3 := hb47.frozen (p := ⟨eb, 3, none⟩) hebl; obtain ⟨A7, c7, rfl, ho1, ho2, ho3, ho4⟩ := own_sliceN hown7; clear ho1 ho2 ho3 ho4 hat7; have hnew : w7.heap[w8.heap.size]? = some (.cells #[.int .i64 b, .int .i64 3, .int .i64 s', .int .i64 m] 36 (0, 0)) := (hgrow7.block w8.heap.size (by simp; omega) (by simp [Value.ownBlock])).trans ((Below.heap_alloc _ _ _ (by simp)).trans (heap_alloc_new _ _)); clear hgrow7)
        | (refine step_append_src _ rfl (.tmp 90) (.tmp 91) _ rfl w8.heap.size 36 i0 _ 4 32 Try.underlying25 HI.out HZ0.out HZ1.out HZ2.out rfl (by omega) (.slice (some ⟨w8.heap.size, 0, none⟩) 0 0) 0 [] rfl (own_alloc (own_empty w8 w8.heap.size 36 4 (Nat.le_refl _)) (.cells #[.int .i64 b, .int .i64 3, .int .i64 s', .int .i64 m] 36)) A n c (evCells ps) rfl (HSRC.out _ ((((Below.refl w8.heap.size w8).alloc (Nat.le_refl _) _).alloc (by simp) _).drew)) HO.out (by unfold maxLen; omega) (by omega) (by simp <;> omega) ?_; intro v7 w7 hown7 hgrow7 hat7; rw [Nat.zero_add, List.nil_append] at hown7; have hb47 : Below w8.heap.size w8 w7 := ((((Below.refl w8.heap.size w8).alloc (Nat.le_refl _) _).alloc (by simp) _).drew).grown hgrow7 (by simp <;> omega) (fun x hx => (own_block (own_alloc (own_empty w8 w8.heap.size 36 4 (Nat.le_refl _)) (.cells #[.int .i64 b, .int .i64 3, .int .i64 s', .int .i64 m] 36)) x hx).1); have hsz7 := hb47.size; have k0 : w7.cell? ⟨eb, 0, none⟩ = some (.int .i64 b) := (hb47.cell (p := ⟨eb, 0, none⟩) hebl).trans c0; have z0 := hb47.frozen (p := ⟨eb, 0, none⟩) hebl; have k1 : w7.cell? ⟨eb, 1, none⟩ = some (.int .i64 3) := (hb47.cell (p := ⟨eb, 1, none⟩) hebl).trans c1; have z1 := hb47.frozen (p := ⟨eb, 1, none⟩) hebl; have k2 : w7.cell? ⟨eb, 2, none⟩ = some (.int .i64 s') := (hb47.cell (p := ⟨eb, 2, none⟩) hebl).trans c2; have z2 := hb47.frozen (p := ⟨eb, 2, none⟩) hebl; have k3 : w7.cell? ⟨eb, 3, none⟩ = some (.int .i64 m) := (hb47.cell (p := ⟨eb, 3, none⟩) hebl).trans c3; have z3 := hb47.frozen (p := ⟨eb, 3, none⟩) hebl; obtain ⟨A7, c7, rfl, ho1, ho2, ho3, ho4⟩ := own_sliceN hown7; clear ho1 ho2 ho3 ho4 hat7; have hnew : w7.heap[w8.heap.size + 1]? = some (.cells #[.int .i64 b, .int .i64 3, .int .i64 s', .int .i64 m] 36 (0, 0)) := (hgrow7.block (w8.heap.size + 1) (by simp) (by simp [Value.ownBlock])).trans (by have e : (w8.alloc (.cells #[] 36)).heap.size = w8.heap.size + 1 := (by simp); rw [← e]; exact heap_alloc_new _ _); clear hgrow7)
        | (refine step_append_src _ rfl (.tmp 92) (.tmp 94) _ rfl w8.heap.size 36 i0 _ 4 32 Try.underlying25 HI.out HZ0.out HZ1.out HZ2.out rfl (by omega) (.slice A7 n c7) _ _ rfl (own_alloc hown7 _) (some ⟨w7.heap.size, 0, none⟩) 1 1 [.int .i64 b, .int .i64 3, .int .i64 s', .int .i64 m] rfl ⟨rfl, fun _ => ⟨_, rfl, World.news_of_block (heap_alloc_new w7 _)⟩⟩ (by intro u hu; simp at hu; rcases hu with rfl | rfl | rfl | rfl <;> rfl) (by unfold maxLen; omega) (by omega) (hb47.alloc hsz7 _).size ?_; intro v9 w9 hown9 hgrow9 hat9; have hb49 : Below w8.heap.size w8 w9 := (hb47.alloc hsz7 _).grown hgrow9 (hb47.alloc hsz7 _).size (fun x hx => (own_block hown7 x hx).1); clear hgrow9)
        | (refine step_append_src _ rfl (.tmp 92) (.tmp 94) _ rfl w8.heap.size 36 i0 _ 4 32 Try.underlying25 HI.out HZ0.out HZ1.out HZ2.out rfl (by omega) (.slice A7 n c7) _ _ rfl (hown7) (some ⟨w8.heap.size, 0, none⟩) 1 1 [.int .i64 b, .int .i64 3, .int .i64 s', .int .i64 m] rfl ⟨rfl, fun _ => ⟨_, rfl, World.news_of_block hnew⟩⟩ (by intro u hu; simp at hu; rcases hu with rfl | rfl | rfl | rfl <;> rfl) (by unfold maxLen; omega) (by omega) (hb47).size ?_; intro v9 w9 hown9 hgrow9 hat9; have hb49 : Below w8.heap.size w8 w9 := (hb47).grown hgrow9 (hb47).size (fun x hx => (own_block hown7 x hx).1); clear hgrow9)
        | (refine step_append_src _ rfl (.tmp 92) (.tmp 94) _ rfl w8.heap.size 36 i0 _ 4 32 Try.underlying25 HI.out HZ0.out HZ1.out HZ2.out rfl (by omega) (.slice A7 n c7) _ _ rfl (hown7) (some ⟨w8.heap.size + 1, 0, none⟩) 1 1 [.int .i64 b, .int .i64 3, .int .i64 s', .int .i64 m] rfl ⟨rfl, fun _ => ⟨_, rfl, World.news_of_block hnew⟩⟩ (by intro u hu; simp at hu; rcases hu with rfl | rfl | rfl | rfl <;> rfl) (by unfold maxLen; omega) (by omega) (hb47).size ?_; intro v9 w9 hown9 hgrow9 hat9; have hb49 : Below w8.heap.size w8 w9 := (hb47).grown hgrow9 (hb47).size (fun x hx => (own_block hown7 x hx).1); clear hgrow9))
      all_goals
        go_simp
        go_wp2_with fail
        go_meet
        case rel =>
          have hown9' : w9.ownsRow w8.heap.size 36 4 v9 (n + 1) (evCells (ps ++ [(⟨b, 3, s', m⟩ : Ev)])) := by
            rw [evCells_app]
            exact hown9
          obtain ⟨A9, c9, rfl, hc91, hc92, _, _⟩ := own_sliceN hown9'
          exact ⟨A9, c9, rfl, hc91, hc92, hown9', hb49⟩
    case rest =>
      obtain ⟨A9, c9, rfl, hc91, hc92, hownX, hb8c⟩ := hcut
      have hrc := (hr8.below hb8c).more hb8c.size
      have hbFc := hbF8.trans (hb8c.mono hbF8.size)
      have hEc : Blk wc eb2 36 #[.int .i64 b, .int .i64 3, .int .i64 s, .int .i64 m'] := (hb8c.block eb2 hE2.lt).trans hE2
      have d0 : wc.cell? ⟨eb2, 0, none⟩ = some (.int .i64 b) := by rw [hEc.cell 0]; rfl
      have d1 : wc.cell? ⟨eb2, 1, none⟩ = some (.int .i64 3) := by rw [hEc.cell 1]; rfl
      have d2 : wc.cell? ⟨eb2, 2, none⟩ = some (.int .i64 s) := by rw [hEc.cell 2]; rfl
      have d3 : wc.cell? ⟨eb2, 3, none⟩ = some (.int .i64 m') := by rw [hEc.cell 3]; rfl
      have hebl2 := hEc.lt
      have HSRC2 : Hid (∀ W, Below wc.heap.size wc W → Src W 4 A n (evCells ps)) := fun W hW => (hrc.below hW).src (by omega) HLE.out
      clear hr8 hbF8 hE1 hE2 c0 c1 c2 c3 hebl HSRC hb8c hEc
      unfold maxLen at hc92
      go_wp2_with fail
      obtain ⟨wd, rfl⟩ : ∃ wd : World, wd = wc := ⟨_, rfl⟩
      have HOWN2 : Hid (World.ownsRow ((wd.alloc (.cells #[.int .i64 b, .int .i64 3, .int .i64 s, .int .i64 m'] 36)).alloc (.cells #[] 36)) wd.heap.size 36 4 (.slice (some ⟨wd.heap.size + 1, 0, none⟩) 0 0) 0 []) := by
        have e : (wd.alloc (.cells #[.int .i64 b, .int .i64 3, .int .i64 s, .int .i64 m'] 36)).heap.size = wd.heap.size + 1 := by simp
        have h := own_empty (wd.alloc (.cells #[.int .i64 b, .int .i64 3, .int .i64 s, .int .i64 m'] 36)) wd.heap.size 36 4 (by simp)
        rw [e] at h
        exact h
      go_cut [14] (fun v wx => ∃ (A9 : Option Addr) (c9 : Nat), v = .slice A9 (n + 1) c9 ∧ n + 1 ≤ c9 ∧ c9 ≤ maxLen ∧ wx.ownsRow wd.heap.size 36 4 v (n + 1) (evCells (ps ++ [(⟨b, 3, s, m'⟩ : Ev)])) ∧ Below wd.heap.size wd wx)
      case first =>
        go_region_law (first
          | (refine step_append_src _ rfl (.tmp 96) (.tmp 97) _ rfl wd.heap.size 36 i0 _ 4 32 Try.underlying25 HI.out HZ0.out HZ1.out HZ2.out rfl (by omega) (.slice (some ⟨wd.heap.size, 0, none⟩) 0 0) 0 [] rfl (own_empty wd wd.heap.size 36 4 (Nat.le_refl _)) A n c (evCells ps) rfl (HSRC2.out _ (((Below.refl wd.heap.size wd).alloc (Nat.le_refl _) _).drew)) HO.out (by unfold maxLen; omega) (by omega) (by simp <;> omega) ?_; intro v7 w7 hown7 hgrow7 hat7; rw [Nat.zero_add, List.nil_append] at hown7; have hb47 : Below wd.heap.size wd w7 := (((Below.refl wd.heap.size wd).alloc (Nat.le_refl _) _).drew).grown hgrow7 (by simp <;> omega) (fun x hx => (own_block (own_empty wd wd.heap.size 36 4 (Nat.le_refl _)) x hx).1); have hsz7 := hb47.size; have k0 : w7.cell? ⟨eb2, 0, none⟩ = some (.int .i64 b) := (hb47.cell (p := ⟨eb2, 0, none⟩) hebl2).trans d0; have z0 := hb47.frozen (p := ⟨eb2, 0, none⟩) hebl2; have k1 : w7.cell? ⟨eb2, 1, none⟩ = some (.int .i64 3) := (hb47.cell (p := ⟨eb2, 1, none⟩) hebl2).trans d1; have z1 := hb47.frozen (p := ⟨eb2, 1, none⟩) hebl2; have k2 : w7.cell? ⟨eb2, 2, none⟩ = some (.int .i64 s) := (hb47.cell (p := ⟨eb2, 2, none⟩) hebl2).trans d2; have z2 := hb47.frozen (p := ⟨eb2, 2, none⟩) hebl2; have k3 : w7.cell? ⟨eb2, 3, none⟩ = some (.int .i64 m') := (hb47.cell (p := ⟨eb2, 3, none⟩) hebl2).trans d3; have z3 := hb47.frozen (p := ⟨eb2, 3, none⟩) hebl2; obtain ⟨A7, c7, rfl, ho1, ho2, ho3, ho4⟩ := own_sliceN hown7; clear ho1 ho2 ho3 ho4 hat7; clear hgrow7)
          | (refine step_append_src _ rfl (.tmp 96) (.tmp 97) _ rfl wd.heap.size 36 i0 _ 4 32 Try.underlying25 HI.out HZ0.out HZ1.out HZ2.out rfl (by omega) (.slice (some ⟨wd.heap.size + 1, 0, none⟩) 0 0) 0 [] rfl (HOWN2.out) A n c (evCells ps) rfl (HSRC2.out _ ((((Below.refl wd.heap.size wd).alloc (Nat.le_refl _) _).alloc (by simp) _).drew)) HO.out (by unfold maxLen; omega) (by omega) (by simp <;> omega) ?_; intro v7 w7 hown7 hgrow7 hat7; rw [Nat.zero_add, List.nil_append] at hown7; have hb47 : Below wd.heap.size wd w7 := ((((Below.refl wd.heap.size wd).alloc (Nat.le_refl _) _).alloc (by simp) _).drew).grown hgrow7 (by simp <;> omega) (fun x hx => (own_block (HOWN2.out) x hx).1); have hsz7 := hb47.size; have k0 : w7.cell? ⟨eb2, 0, none⟩ = some (.int .i64 b) := (hb47.cell (p := ⟨eb2, 0, none⟩) hebl2).trans d0; have z0 := hb47.frozen (p := ⟨eb2, 0, none⟩) hebl2; have k1 : w7.cell? ⟨eb2, 1, none⟩ = some (.int .i64 3) := (hb47.cell (p := ⟨eb2, 1, none⟩) hebl2).trans d1; have z1 := hb47.frozen (p := ⟨eb2, 1, none⟩) hebl2; have k2 : w7.cell? ⟨eb2, 2, none⟩ = some (.int .i64 s) := (hb47.cell (p := ⟨eb2, 2, none⟩) hebl2).trans d2; have z2 := hb47.frozen (p := ⟨eb2, 2, none⟩) hebl2; have k3 : w7.cell? ⟨eb2, 3, none⟩ = some (.int .i64 m') := (hb47.cell (p := ⟨eb2, 3, none⟩) hebl2).trans d3; have z3 := hb47.frozen (p := ⟨eb2, 3, none⟩) hebl2; obtain ⟨A7, c7, rfl, ho1, ho2, ho3, ho4⟩ := own_sliceN hown7; clear ho1 ho2 ho3 ho4 hat7; have hnew : w7.heap[wd.heap.size]? = some (.cells #[.int .i64 b, .int .i64 3, .int .i64 s, .int .i64 m'] 36 (0, 0)) := (hgrow7.block wd.heap.size (by simp; omega) (by simp [Value.ownBlock])).trans ((Below.heap_alloc _ _ _ (by simp)).trans (heap_alloc_new _ _)); clear hgrow7)
          | (refine step_append_src _ rfl (.tmp 96) (.tmp 97) _ rfl wd.heap.size 36 i0 _ 4 32 Try.underlying25 HI.out HZ0.out HZ1.out HZ2.out rfl (by omega) (.slice (some ⟨wd.heap.size, 0, none⟩) 0 0) 0 [] rfl (own_alloc (own_empty wd wd.heap.size 36 4 (Nat.le_refl _)) (.cells #[.int .i64 b, .int .i64 3, .int .i64 s, .int .i64 m'] 36)) A n c (evCells ps) rfl (HSRC2.out _ ((((Below.refl wd.heap.size wd).alloc (Nat.le_refl _) _).alloc (by simp) _).drew)) HO.out (by unfold maxLen; omega) (by omega) (by simp <;> omega) ?_; intro v7 w7 hown7 hgrow7 hat7; rw [Nat.zero_add, List.nil_append] at hown7; have hb47 : Below wd.heap.size wd w7 := ((((Below.refl wd.heap.size wd).alloc (Nat.le_refl _) _).alloc (by simp) _).drew).grown hgrow7 (by simp <;> omega) (fun x hx => (own_block (own_alloc (own_empty wd wd.heap.size 36 4 (Nat.le_refl _)) (.cells #[.int .i64 b, .int .i64 3, .int .i64 s, .int .i64 m'] 36)) x hx).1); have hsz7 := hb47.size; have k0 : w7.cell? ⟨eb2, 0, none⟩ = some (.int .i64 b) := (hb47.cell (p := ⟨eb2, 0, none⟩) hebl2).trans d0; have z0 := hb47.frozen (p := ⟨eb2, 0, none⟩) hebl2; have k1 : w7.cell? ⟨eb2, 1, none⟩ = some (.int .i64 3) := (hb47.cell (p := ⟨eb2, 1, none⟩) hebl2).trans d1; have z1 := hb47.frozen (p := ⟨eb2, 1, none⟩) hebl2; have k2 : w7.cell? ⟨eb2, 2, none⟩ = some (.int .i64 s) := (hb47.cell (p := ⟨eb2, 2, none⟩) hebl2).trans d2; have z2 := hb47.frozen (p := ⟨eb2, 2, none⟩) hebl2; have k3 : w7.cell? ⟨eb2, 3, none⟩ = some (.int .i64 m') := (hb47.cell (p := ⟨eb2, 3, none⟩) hebl2).trans d3; have z3 := hb47.frozen (p := ⟨eb2, 3, none⟩) hebl2; obtain ⟨A7, c7, rfl, ho1, ho2, ho3, ho4⟩ := own_sliceN hown7; clear ho1 ho2 ho3 ho4 hat7; have hnew : w7.heap[wd.heap.size + 1]? = some (.cells #[.int .i64 b, .int .i64 3, .int .i64 s, .int .i64 m'] 36 (0, 0)) := (hgrow7.block (wd.heap.size + 1) (by simp) (by simp [Value.ownBlock])).trans (by have e : (wd.alloc (.cells #[] 36)).heap.size = wd.heap.size + 1 := (by simp); rw [← e]; exact heap_alloc_new _ _); clear hgrow7)
          | (refine step_append_src _ rfl (.tmp 98) (.tmp 100) _ rfl wd.heap.size 36 i0 _ 4 32 Try.underlying25 HI.out HZ0.out HZ1.out HZ2.out rfl (by omega) (.slice A7 n c7) _ _ rfl (own_alloc hown7 _) (some ⟨w7.heap.size, 0, none⟩) 1 1 [.int .i64 b, .int .i64 3, .int .i64 s, .int .i64 m'] rfl ⟨rfl, fun _ => ⟨_, rfl, World.news_of_block (heap_alloc_new w7 _)⟩⟩ (by intro u hu; simp at hu; rcases hu with rfl | rfl | rfl | rfl <;> rfl) (by unfold maxLen; omega) (by omega) (hb47.alloc hsz7 _).size ?_; intro v9 w9 hown9 hgrow9 hat9; have hb49 : Below wd.heap.size wd w9 := (hb47.alloc hsz7 _).grown hgrow9 (hb47.alloc hsz7 _).size (fun x hx => (own_block hown7 x hx).1); clear hgrow9)
          | (refine step_append_src _ rfl (.tmp 98) (.tmp 100) _ rfl wd.heap.size 36 i0 _ 4 32 Try.underlying25 HI.out HZ0.out HZ1.out HZ2.out rfl (by omega) (.slice A7 n c7) _ _ rfl (hown7) (some ⟨wd.heap.size, 0, none⟩) 1 1 [.int .i64 b, .int .i64 3, .int .i64 s, .int .i64 m'] rfl ⟨rfl, fun _ => ⟨_, rfl, World.news_of_block hnew⟩⟩ (by intro u hu; simp at hu; rcases hu with rfl | rfl | rfl | rfl <;> rfl) (by unfold maxLen; omega) (by omega) (hb47).size ?_; intro v9 w9 hown9 hgrow9 hat9; have hb49 : Below wd.heap.size wd w9 := (hb47).grown hgrow9 (hb47).size (fun x hx => (own_block hown7 x hx).1); clear hgrow9)
          | (refine step_append_src _ rfl (.tmp 98) (.tmp 100) _ rfl wd.heap.size 36 i0 _ 4 32 Try.underlying25 HI.out HZ0.out HZ1.out HZ2.out rfl (by omega) (.slice A7 n c7) _ _ rfl (hown7) (some ⟨wd.heap.size + 1, 0, none⟩) 1 1 [.int .i64 b, .int .i64 3, .int .i64 s, .int .i64 m'] rfl ⟨rfl, fun _ => ⟨_, rfl, World.news_of_block hnew⟩⟩ (by intro u hu; simp at hu; rcases hu with rfl | rfl | rfl | rfl <;> rfl) (by unfold maxLen; omega) (by omega) (hb47).size ?_; intro v9 w9 hown9 hgrow9 hat9; have hb49 : Below wd.heap.size wd w9 := (hb47).grown hgrow9 (hb47).size (fun x hx => (own_block hown7 x hx).1); clear hgrow9))
        all_goals
          go_simp
          go_wp2_with fail
          go_meet
          case rel =>
            have hown9' : w9.ownsRow wd.heap.size 36 4 v9 (n + 1) (evCells (ps ++ [(⟨b, 3, s, m'⟩ : Ev)])) := by
              rw [evCells_app]
              exact hown9
            obtain ⟨A9, c9, rfl, hc91, hc92, _, _⟩ := own_sliceN hown9'
            exact ⟨A9, c9, rfl, hc91, hc92, hown9', hb49⟩
      case rest =>
        obtain ⟨A10, c10, rfl, hc101, hc102, hownY, hbdc⟩ := hcut
        have hrX := own_rowN (own_below hownX hbdc)
        have hrY := own_rowN hownY
        have hbF := hbFc.trans (hbdc.mono hbFc.size)
        clear hrc hbFc d0 d1 d2 d3 hebl2 HSRC2 hbdc hownX hownY
        have e1 := HO1.out
        have e2 := HO2.out
        rw [HN.out] at e1 e2
        have HO1' := Lib.hid e1
        have HO2' := Lib.hid e2
        clear e1 e2 HO1 HO2
        generalize ps ++ [(⟨b, 3, s', m⟩ : Ev)] = X at *
        generalize ps ++ [(⟨b, 3, s, m'⟩ : Ev)] = Y at *
        go_wp2_with fail
        refine (LedgerSealed_any _ _ _ X b _ HLX1.out (by omega) KB.out hrX).mono ?_
        rintro e w20 ⟨rfl, hb20⟩
        have hrX2 := (hrX.below hb20).more hb20.size
        have hrY2 := (hrY.below hb20).more hb20.size
        have hbF2 := hbF.trans (hb20.mono hbF.size)
        rw [HO1'.out.1]
        clear hrX hrY hb20 hbF
        go_wp2_with fail
        refine (LedgerSealed_any _ _ _ Y b _ HLX2.out (by omega) KB.out hrY2).mono ?_
        rintro e w21 ⟨rfl, hb21⟩
        have hrX3 := (hrX2.below hb21).more hb21.size
        have hrY3 := (hrY2.below hb21).more hb21.size
        have hbF3 := hbF2.trans (hb21.mono hbF2.size)
        rw [HO2'.out.1]
        clear hrX2 hrY2 hb21 hbF2
        go_wp2_with fail
        refine (LedgerGaps_any _ _ _ X _ HLX1.out (by omega) hrX3).mono ?_
        rintro e w22 ⟨A1, k1, c1, rfl, hl1, hk1, hcc1, hown1, hb22⟩
        have hrY4 := (hrY3.below hb22).more hb22.size
        have hbF4 := hbF3.trans (hb22.mono hbF3.size)
        have hk120 : k1 ≤ 20 := by have := gapsE_len X; omega
        have HL1 := Lib.hid hl1
        have hrow1 := own_row hown1
        clear hrX3 hrY3 hb22 hbF3 hown1 hl1
        go_wp2_with fail
        refine (hasInt_any _ _ _ (gapsE X) _ _ HL1.out (by omega) hrow1).mono ?_
        rintro e w23 ⟨rfl, rfl⟩
        rw [HO1'.out.2]
        clear hrow1
        go_wp2_with fail
        refine (LedgerGaps_any _ _ _ Y _ HLX2.out (by omega) hrY4).mono ?_
        rintro e w24 ⟨A2, k2, c2, rfl, hl2, hk2, hcc2, hown2, hb24⟩
        have hbF5 := hbF4.trans (hb24.mono hbF4.size)
        have hk220 : k2 ≤ 20 := by have := gapsE_len Y; omega
        have HL2 := Lib.hid hl2
        have hrow2 := own_row hown2
        clear hrY4 hb24 hbF4 hown2 hl2
        go_wp2_with fail
        refine (hasInt_any _ _ _ (gapsE Y) _ _ HL2.out (by omega) hrow2).mono ?_
        rintro e w25 ⟨rfl, rfl⟩
        rw [HO2'.out.2]
        clear hrow2
        go_wp2_with fail
        go_ret
        exact ⟨rfl, hbF5⟩
end Go.Proofs.Ytdmgaafmmjeelaa
