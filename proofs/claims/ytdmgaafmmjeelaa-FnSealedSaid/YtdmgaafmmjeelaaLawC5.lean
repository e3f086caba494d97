/- The law FnSealed returns true and leaves all that was there as it was. The conditions stand in each theorem. -/
import Derived.Test.YtdmgaafmmjeelaaDrawC2
import Derived.Test.YtdmgaafmmjeelaaEvS
namespace Go.Proofs.Ytdmgaafmmjeelaa
open Go.RowKit Go.ChangeShapes
set_option linter.unusedVariables false

set_option maxRecDepth 100000 in
set_option maxHeartbeats 4000000 in
theorem FnSealed_walk (a0 : Option Addr) (len0 cap0 : Nat) (z0 : List Int) (w : World) (w0 : IsRow .u8 w a0 len0 cap0 z0) :
    Calls Try.prog 5 #[.slice a0 len0 cap0] w fun e w' => e = .returned (.bool true) ∧ Below w.heap.size w w' := by
  have hcap := w0.len_le.2.1
  have hlen := w0.len_le.1
  unfold maxLen at hcap
  by_cases hbig : 1048576 < len0
  · clear w0
    go_enter Try.func5, Try.ntmps5
    go_wp2
    go_ret
    exact ⟨rfl, Below.refl _ _⟩
  have dd0 : decide ((1048576 : Int) < (len0 : Int)) = false := by simp; omega
  go_enter Try.func5, Try.ntmps5
  go_wp2_with fail
  refine (DrawLedgerSealed_any _ _ _ _ _ w0).mono ?_
  rintro e w2 ⟨A, ps, n, c, b, rfl, hl, hn, hc1, hc2, hbb, hr, hb⟩
  have HN := Lib.hid hl
  have KB := Lib.hid (wf_small (k := b) (by omega) (by omega))
  clear w0 hbig hcap hlen hl
  unfold maxLen at hc2
  obtain ⟨hb0, hb5⟩ := hbb
  go_wp2_with fail
  refine (LedgerSealed_any _ _ _ ps b _ HN.out (by omega) KB.out hr).mono ?_
  rintro e w3 ⟨rfl, hb3⟩
  have hr3 := (hr.below hb3).more hb3.size
  have hbF3 := hb.trans (hb3.mono hb.size)
  clear hr hb3 hb
  go_wp2_with fail
  refine (sLedgerSealed_any _ _ _ ps b _ HN.out (by omega) hr3).mono ?_
  rintro e w4 ⟨rfl, hb4⟩
  have hr4 := (hr3.below hb4).more hb4.size
  have hbF4 := hbF3.trans (hb4.mono hbF3.size)
  clear hr3 hb4 hbF3
  generalize hs : sea ps b = sv at *
  obtain ⟨s, m, ok⟩ := sv
  have HS := Lib.hid hs
  clear hs
  cases ok with
  | false =>
    go_wp2_with fail
    go_ret
    exact ⟨rfl, hbF4⟩
  | true =>
    have hbd := sea_one (l := ps) (b := b) (by rw [HS.out])
    rw [HS.out] at hbd
    simp only at hbd
    obtain ⟨s0, s1, m0, m1, n20⟩ := hbd
    rw [HN.out] at n20
    by_cases hbig : 18 < n
    · go_wp2_with fail
      go_ret
      exact ⟨rfl, hbF4⟩
    obtain ⟨i0, hi0, hz0, hz1, hz2⟩ := info_parts info_ev
    have HI := Lib.hid hi0
    have HZ0 := Lib.hid hz0
    have HZ1 := Lib.hid hz1
    have HZ2 := Lib.hid hz2
    have hsz4 := hbF4.size
    have hlenE : (evCells ps).length = n * 4 := by rw [evCells_len, HN.out]
    have HSRC : Hid (∀ o, Src (w4.alloc o) 4 A n (evCells ps)) := fun o => (hr4.below ((Below.refl w4.heap.size w4).alloc (Nat.le_refl _) o)).src (by omega) hlenE
    have HO := Lib.hid (ev_oneCell ps)
    clear hi0 hz0 hz1 hz2 hlenE
    have HMV := Lib.hid (moved (l := ps) HS.out (by rw [HN.out]; omega))
    have HLX : Hid ((ps ++ [(⟨b, 2, s, m⟩ : Ev), ⟨b, 3, s, m⟩]).length = n + 2) := by
      show _ = _
      rw [List.length_append, HN.out]
      rfl
    have hempty := own_empty w4 w4.heap.size 36 4 (Nat.le_refl _)
    have HEB := Lib.hid (own_block hempty)
    have HEM := Lib.hid hempty
    clear hempty
    go_wp2_with (first
      | (at_builtin; refine wpList_append_src _ rfl (.tmp 73) (.tmp 74) _ rfl w4.heap.size 36 i0 _ 4 32 Try.underlying25 HI.out HZ0.out HZ1.out HZ2.out rfl (by omega) (.slice (some ⟨w4.heap.size, 0, none⟩) 0 0) 0 [] rfl HEM.out A n c (evCells ps) rfl (HSRC.out _) HO.out (by unfold maxLen; omega) (by omega) (by simp) ?_; intro v7 w7 hown7 hgrow7 hat7; rw [Nat.zero_add, List.nil_append] at hown7; have hb47 : Below w4.heap.size w4 w7 := ((Below.refl _ _).alloc (Nat.le_refl _) _).grown hgrow7 (by simp) (fun x hx => (HEB.out x hx).1); have hsz7 := hb47.size; obtain ⟨A7, c7, rfl, _, _, _, _⟩ := own_sliceN hown7; clear hgrow7 hat7)
      | (at_builtin; refine wpList_append_own_at _ rfl (.tmp 75) (.tmp 84) _ rfl w4.heap.size 36 i0 _ 4 32 Try.underlying25 HI.out HZ0.out HZ1.out HZ2.out rfl (by omega) (.slice A7 n c7) _ _ rfl (own_alloc hown7 _) ⟨w7.heap.size, 0, none⟩ 2 2 [.int .i64 b, .int .i64 2, .int .i64 s, .int .i64 m, .int .i64 b, .int .i64 3, .int .i64 s, .int .i64 m] rfl rfl (World.news_of_block (heap_alloc_new w7 _)) (by intro u hu; simp at hu; rcases hu with rfl | rfl | rfl | rfl | rfl | rfl | rfl | rfl <;> rfl) (by unfold maxLen; omega) (by omega) (by simp; omega) ?_; intro v9 w9 hown9 hgrow9 hnil9 hat9; have hb49 : Below w4.heap.size w4 w9 := (hb47.alloc hb47.size _).grown hgrow9 (by simp; omega) (fun x hx => (own_block hown7 x hx).1); obtain ⟨A9, c9, rfl, _, _, _, _⟩ := own_sliceN hown9; clear hnil9 hat9 hgrow9))
    have hown9' : w9.ownsRow w4.heap.size 36 4 (.slice A9 (n + 2) c9) (n + 2) (evCells (ps ++ [(⟨b, 2, s, m⟩ : Ev), ⟨b, 3, s, m⟩])) := by
      rw [evCells_app]
      exact hown9
    have hrX := own_rowN hown9'
    have hr9 := (hr4.below hb49).more hb49.size
    have hbF9 := hbF4.trans (hb49.mono hbF4.size)
    clear hown9 hown9' hown7 hb47 hsz7 hb49 hr4 hbF4
    generalize ps ++ [(⟨b, 2, s, m⟩ : Ev), ⟨b, 3, s, m⟩] = X at *
    refine (LedgerSealed_any _ _ _ X b _ HLX.out (by omega) KB.out hrX).mono ?_
    rintro e w10 ⟨rfl, hb10⟩
    have hrX10 := (hrX.below hb10).more hb10.size
    have hr10 := (hr9.below hb10).more hb10.size
    have hbF10 := hbF9.trans (hb10.mono hbF9.size)
    clear hrX hr9 hb10 hbF9
    rw [HMV.out.1]
    go_wp2_with fail
    refine (LedgerGaps_any _ _ _ X _ HLX.out (by omega) hrX10).mono ?_
    rintro e w11 ⟨A1, k1, c1, rfl, hl1, hk1, hcc1, hown1, hb11⟩
    have hr11 := (hr10.below hb11).more hb11.size
    have hbF11 := hbF10.trans (hb11.mono hbF10.size)
    have HL1 := Lib.hid hl1
    clear hrX10 hr10 hb11 hbF10 hown1 hl1
    go_wp2_with fail
    refine (LedgerGaps_any _ _ _ ps _ HN.out (by omega) hr11).mono ?_
    rintro e w12 ⟨A2, k2, c2, rfl, hl2, hk2, hcc2, hown2, hb12⟩
    have hbF12 := hbF11.trans (hb12.mono hbF11.size)
    obtain rfl : k2 = k1 := by rw [← hl2, ← HL1.out, HMV.out.2]
    clear hr11 hb12 hbF11 hown2 hl2
    go_wp2_with fail
    go_ret
    exact ⟨rfl, hbF12⟩
end Go.Proofs.Ytdmgaafmmjeelaa
