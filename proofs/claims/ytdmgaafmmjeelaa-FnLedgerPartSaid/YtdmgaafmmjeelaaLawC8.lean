/- The law FnLedgerPart returns true and leaves all that was there as it was. The conditions stand in each theorem. -/
import Derived.Test.YtdmgaafmmjeelaaDrawC2
import Derived.Test.YtdmgaafmmjeelaaLed10
namespace Go.Proofs.Ytdmgaafmmjeelaa
open Go.RowKit Go.ChangeShapes
set_option linter.unusedVariables false

set_option maxRecDepth 100000 in
set_option maxHeartbeats 4000000 in
theorem FnLedgerPart_walk (a0 : Option Addr) (len0 cap0 : Nat) (z0 : List Int) (w : World) (w0 : IsRow .u8 w a0 len0 cap0 z0) :
    Calls Try.prog 6 #[.slice a0 len0 cap0] w fun e w' => e = .returned (.bool true) ∧ Below w.heap.size w w' := by
  have hcap := w0.len_le.2.1
  have hlen := w0.len_le.1
  unfold maxLen at hcap
  by_cases hbig : 1048576 < len0
  · clear w0
    go_enter Try.func6, Try.ntmps6
    go_wp2
    go_ret
    exact ⟨rfl, Below.refl _ _⟩
  have dd0 : decide ((1048576 : Int) < (len0 : Int)) = false := by simp; omega
  go_enter Try.func6, Try.ntmps6
  go_wp2_with fail
  refine (DrawLedgerValid_any _ _ _ _ _ w0).mono ?_
  rintro e w2 ⟨A, ps, n, c, rfl, hl, hn, hc1, hc2, hr, hb⟩
  have HN := Lib.hid hl
  clear w0 hbig hcap hlen hl
  unfold maxLen at hc2
  go_wp2_with fail
  refine (LedgerValid_any _ _ _ ps _ HN.out (by omega) hr).mono ?_
  rintro e w3 ⟨rfl, hb3⟩
  have hr3 := (hr.below hb3).more hb3.size
  have hbF3 := hb.trans (hb3.mono hb.size)
  clear hr hb3 hb
  go_wp2_with fail
  refine (sLedgerValid_any _ _ _ ps _ HN.out (by omega) hr3).mono ?_
  rintro e w4 ⟨rfl, hb4⟩
  have hr4 := (hr3.below hb4).more hb4.size
  have hbF4 := hbF3.trans (hb4.mono hbF3.size)
  clear hr3 hb4 hbF3
  cases hv : lvB ps with
  | false =>
    clear hv hr4
    go_wp2_with fail
    go_ret
    exact ⟨rfl, hbF4⟩
  | true =>
    by_cases h0 : n = 0
    · subst h0
      clear hr4 hv
      go_wp2_with fail
      go_ret
      exact ⟨rfl, hbF4⟩
    obtain ⟨N, rfl⟩ : ∃ N, n = N + 1 := ⟨n - 1, by omega⟩
    have HT := Lib.hid (lvB_take hv N)
    have HLT : Hid ((ps.take N).length = N) := by
      show _ = _
      rw [List.length_take, HN.out]
      omega
    have HBAD := Lib.hid (lvB_snoc_bad (l := ps.take N) (e := ⟨1, 0, 1, 0⟩) (by decide))
    have HLX : Hid ((ps.take N ++ [(⟨1, 0, 1, 0⟩ : Ev)]).length = N + 1) := by
      show _ = _
      rw [List.length_append, HLT.out]
      rfl
    have HCNT := Lib.hid (cntE_no HBAD.out)
    obtain ⟨i0, hi0, hz0, hz1, hz2⟩ := info_parts info_ev
    have HI := Lib.hid hi0
    have HZ0 := Lib.hid hz0
    have HZ1 := Lib.hid hz1
    have HZ2 := Lib.hid hz2
    have hsz4 := hbF4.size
    have hlenE : (evCells (ps.take N)).length = N * 4 := by rw [evCells_len, HLT.out]
    have hrT : Row w4 w4.heap.size A (evCells (ps.take N)) := by
      rw [evCells_take]
      exact hr4.take _
    have HSRC : Hid (∀ o, Src (w4.alloc o) 4 A N (evCells (ps.take N))) := fun o => (hrT.below ((Below.refl w4.heap.size w4).alloc (Nat.le_refl _) o)).src (by omega) hlenE
    have HO := Lib.hid (ev_oneCell (ps.take N))
    have hempty := own_empty w4 w4.heap.size 36 4 (Nat.le_refl _)
    have HEB := Lib.hid (own_block hempty)
    have HEM := Lib.hid hempty
    clear hempty hi0 hz0 hz1 hz2 hlenE hv hr4
    go_wp2_with (first
      | (at_builtin; refine wpList_append_src _ rfl (.tmp 31) (.tmp 36) _ rfl w4.heap.size 36 i0 _ 4 32 Try.underlying25 HI.out HZ0.out HZ1.out HZ2.out rfl (by omega) (.slice (some ⟨w4.heap.size, 0, none⟩) 0 0) 0 [] rfl HEM.out A N c (evCells (ps.take N)) rfl (HSRC.out _) HO.out (by unfold maxLen; omega) (by omega) (by simp) ?_; intro v7 w7 hown7 hgrow7 hat7; rw [Nat.zero_add, List.nil_append] at hown7; have hb47 : Below w4.heap.size w4 w7 := ((Below.refl _ _).alloc (Nat.le_refl _) _).grown hgrow7 (by simp) (fun x hx => (HEB.out x hx).1); have hsz7 := hb47.size; obtain ⟨A7, c7, rfl, _, _, _, _⟩ := own_sliceN hown7; clear hgrow7 hat7)
      | (at_builtin; refine wpList_append_own_at _ rfl (.tmp 37) (.tmp 39) _ rfl w4.heap.size 36 i0 _ 4 32 Try.underlying25 HI.out HZ0.out HZ1.out HZ2.out rfl (by omega) (.slice A7 N c7) _ _ rfl (own_alloc hown7 _) ⟨w7.heap.size, 0, none⟩ 1 1 [.int .i64 1, .int .i64 0, .int .i64 1, .int .i64 0] rfl rfl (World.news_of_block (heap_alloc_new w7 _)) (by intro u hu; simp at hu; rcases hu with rfl | rfl | rfl | rfl <;> rfl) (by unfold maxLen; omega) (by omega) (by simp; omega) ?_; intro v9 w9 hown9 hgrow9 hnil9 hat9; have hb49 : Below w4.heap.size w4 w9 := (hb47.alloc hb47.size _).grown hgrow9 (by simp; omega) (fun x hx => (own_block hown7 x hx).1); obtain ⟨A9, c9, rfl, _, _, _, _⟩ := own_sliceN hown9; clear hnil9 hat9 hgrow9))
    have hown9' : w9.ownsRow w4.heap.size 36 4 (.slice A9 (N + 1) c9) (N + 1) (evCells (ps.take N ++ [(⟨1, 0, 1, 0⟩ : Ev)])) := by
      rw [evCells_app]
      exact hown9
    have hrX := own_rowN hown9'
    have hr9 := (hrT.below hb49).more hb49.size
    have hbF9 := hbF4.trans (hb49.mono hbF4.size)
    clear hown9 hown9' hown7 hb47 hsz7 hb49 hrT hbF4
    generalize ps.take N ++ [(⟨1, 0, 1, 0⟩ : Ev)] = X at *
    generalize ps.take N = T at *
    refine (LedgerValid_any _ _ _ T _ HLT.out (by omega) hr9).mono ?_
    rintro e w10 ⟨rfl, hb10⟩
    have hrX10 := (hrX.below hb10).more hb10.size
    have hbF10 := hbF9.trans (hb10.mono hbF9.size)
    rw [HT.out]
    clear hrX hr9 hb10 hbF9
    go_wp2_with fail
    refine (LedgerValid_any _ _ _ X _ HLX.out (by omega) hrX10).mono ?_
    rintro e w11 ⟨rfl, hb11⟩
    have hrX11 := (hrX10.below hb11).more hb11.size
    have hbF11 := hbF10.trans (hb11.mono hbF10.size)
    rw [HBAD.out]
    clear hrX10 hb11 hbF10
    go_wp2_with fail
    refine (LedgerCount_any _ _ _ X _ HLX.out (by omega) hrX11).mono ?_
    rintro e w12 ⟨rfl, hb12⟩
    have hbF12 := hbF11.trans (hb12.mono hbF11.size)
    rw [HCNT.out]
    clear hrX11 hb12 hbF11
    go_wp2_with fail
    go_ret
    exact ⟨rfl, hbF12⟩
end Go.Proofs.Ytdmgaafmmjeelaa
