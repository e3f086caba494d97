/- What the drawing of a ledger gives. The conditions stand in each theorem. -/
import Derived.Test.YtdmgaafmmjeelaaLed7
namespace Go.Proofs.Ytdmgaafmmjeelaa
open Go.RowKit Go.ChangeShapes
set_option linter.unusedVariables false

theorem info_evs : (Try.prog.info? 36).map (fun i => (i.zero, i.size, i.bytes)) = some (some (.agg #[.int .i64 0, .int .i64 0, .int .i64 0, .int .i64 0]), 4, 32) := by kernel_rfl
theorem evCells_set : ∀ (l : List Ev) (k : Nat) (e : Ev) (h : k < l.length), ((((evCells l).set (k * 4) (.int .i64 e.bx)).set (k * 4 + 1) (.int .i64 e.kd)).set (k * 4 + 2) (.int .i64 e.sl)).set (k * 4 + 3) (.int .i64 e.mn) = evCells (l.set k e)
  | p :: l, 0, e, _ => rfl
  | p :: l, k + 1, e, h => by
    have ih := evCells_set l k e (by simpa using h)
    have e1 : (k + 1) * 4 = k * 4 + 1 + 1 + 1 + 1 := by omega
    rw [e1]
    show ((((Value.int .i64 p.bx :: .int .i64 p.kd :: .int .i64 p.sl :: .int .i64 p.mn :: evCells l).set (k * 4 + 1 + 1 + 1 + 1) _).set (k * 4 + 1 + 1 + 1 + 1 + 1) _).set (k * 4 + 1 + 1 + 1 + 1 + 2) _).set (k * 4 + 1 + 1 + 1 + 1 + 3) _ = Value.int .i64 p.bx :: .int .i64 p.kd :: .int .i64 p.sl :: .int .i64 p.mn :: evCells (l.set k e)
    rw [← ih, show k * 4 + 1 + 1 + 1 + 1 + 1 = k * 4 + 1 + 1 + 1 + 1 + 1 from rfl, show k * 4 + 1 + 1 + 1 + 1 + 2 = k * 4 + 2 + 1 + 1 + 1 + 1 by omega, show k * 4 + 1 + 1 + 1 + 1 + 3 = k * 4 + 3 + 1 + 1 + 1 + 1 by omega]
    rfl
theorem own_far {w : World} {base : Nat} {e : TypeId} {size n : Nat} {v : Value} {xs : List Value} {eb : Nat} (h : w.ownsRow base e size v n xs) (hne : v.ownBlock ≠ some eb) (i : Nat) (u : Value) : (w.setCell ⟨eb, i, none⟩ u).ownsRow base e size v n xs := by
  refine ⟨h.1, ?_⟩
  rcases h.2 with h0 | ⟨g, cap, cur, hv, h1, h2, h3⟩
  · exact .inl h0
  · refine .inr ⟨g, cap, cur, hv, h1, (Below.heap_setCell w ⟨eb, i, none⟩ u g (fun e => ?_)).trans h2, h3⟩
    subst hv
    exact hne (by simp at e; simp [Value.ownBlock, e])
theorem RdI.farE {w0 w : World} {g p B : Nat} (h : RdI w0 w g p) (hB : g < B) (i : Nat) (u : Value) : RdI w0 (w.setCell ⟨B, i, none⟩ u) g p :=
  h.grown (grown_set w B i u) (fun k hk => by injection hk with hk; omega)
theorem Blk.grownS {w w' : World} {g b : Nat} {t : TypeId} {cs : Array Value} (h : Blk w b t cs) (hg : w.grownBy w' (some g)) (hne : b ≠ g) : Blk w' b t cs :=
  (hg.block b h.lt (fun e => by injection e with e; exact hne e)).trans h
theorem own_rowN {w : World} {base : Nat} {e : TypeId} {A : Option Addr} {size n c : Nat} {xs : List Value} (h : w.ownsRow base e size (.slice A n c) n xs) : Row w w.heap.size A xs := by
  obtain ⟨_, _, he, _, _, _, hr⟩ := own_sliceN h
  injection he with e1
  rw [e1]
  exact hr
theorem last_bd (l : List Ev) (hv : ∀ e ∈ l, okE e = true) (k : Nat) (b : Int) (hk : k ≤ l.length) : 0 ≤ (lastL l (foll l k).gaps b k).mn ∧ (lastL l (foll l k).gaps b k).mn ≤ 99 := by
  rw [lastL_foll l b k k (Nat.le_refl _) hk]
  cases h : (foll l k).last b with
  | none => simp [evZ]
  | some e =>
    have := (okE_iff e).1 (foll_last l hv k b e h).1
    simp only [Option.getD_some]
    omega
theorem sea_bd (l : List Ev) (b : Int) : (sea l b).2.2 = true → 1 ≤ (sea l b).1 ∧ (sea l b).1 ≤ 99 ∧ 0 ≤ (sea l b).2.1 ∧ (sea l b).2.1 ≤ 99 := by
  cases hv : lvB l with
  | false => rw [sea_bad hv]; intro h; cases h
  | true =>
    cases h : (foll l l.length).last b with
    | none => rw [sea_none hv h]; intro h; cases h
    | some e =>
      have hb := (okE_iff e).1 (foll_last l (lvB_of hv).2 l.length b e h).1
      by_cases h3 : e.kd = 3
      · rw [sea_open hv h h3]; intro h; cases h
      · rw [sea_yes hv h h3]
        intro _
        simp only
        omega

def DrawnL (w0 w : World) (g p : Nat) (e : Ending) (w' : World) : Prop :=
  ∃ (A : Option Addr) (es : List Ev) (n c q : Nat), e = .returned (.slice A n c) ∧ es.length = n ∧ n ≤ 21 ∧ q ≤ p + 300 ∧ RdI w0 w' g q ∧ w.heap.size ≤ w'.heap.size ∧ n ≤ c ∧ c ≤ maxLen ∧ w'.ownsRow w.heap.size 36 4 (.slice A n c) n (evCells es)

set_option maxRecDepth 100000 in
set_option maxHeartbeats 16000000 in
theorem l92Ledger_any {w0 w : World} {g p : Nat} (I : RdI w0 w g p) (hp : p ≤ 100) :
    Calls Try.prog 43 #[.pointer (some ⟨g, 0, none⟩)] w (DrawnL w0 w g p) := by
  obtain ⟨i0, hi0, hz0, hz1, hz2⟩ := info_parts info_evs
  have HI := Lib.hid hi0
  have HZ0 := Lib.hid hz0
  have HZ1 := Lib.hid hz1
  have HZ2 := Lib.hid hz2
  clear hi0 hz0 hz1 hz2
  have hg1 := I.rd.lt_
  go_enter Try.func43, Try.ntmps43
  go_wp2_with fail
  refine (pickI _ (I.alloc _) (by omega) (by omega)).mono ?_
  rintro e w2 ⟨n9, rfl, n90, n91, I2, G2⟩
  have hs2 := G2.size
  simp at hs2
  have hown2 := own_grown (own_empty w w.heap.size 36 4 (Nat.le_refl _)) G2 hg1
  clear I G2
  go_wp2_with fail
  refine (pickI _ I2 (by omega) (by omega)).mono ?_
  rintro e w3 ⟨rr, rfl, rr0, rr1, I3, G3⟩
  have hs3 := G3.size
  have hown3 := own_grown hown2 G3 hg1
  clear I2 G3 hown2
  by_cases hr : rr = 0
  · subst hr
    go_wp2_with fail
    refine (pickI _ I3 (by omega) (by omega)).mono ?_
    rintro e w4 ⟨t, rfl, t0, t1, I4, G4⟩
    have hs4 := G4.size
    have hown4 := own_grown hown3 G4 hg1
    have HQ0 : p + 1 + 1 + 1 ≤ p + 3 + 8 * 0 := by omega
    clear I3 G4 hown3
    go_wp2_with fail
    have n0 : 0 ≤ 19 + t := by omega
    have n1 : 19 + t ≤ 21 := by omega
    clear t0 t1 n90 n91
    generalize 19 + t = nn at *
    · skip
      go_loopw [3, 5] (fun s i wx => ∃ (k : Nat) (es : List Ev) (q : Nat), (k : Int) ≤ nn ∧ i = .int .i64 k ∧ Hid (es.length = k) ∧ q ≤ p + 3 + 8 * k ∧ w.heap.size ≤ wx.heap.size ∧ Hid (∀ z ∈ es, okE z = true) ∧ RdI w0 wx g q ∧ wx.ownsRow w.heap.size 36 4 s k (evCells es)) (fun _ i _ => nn.toNat - (intOf i).toNat)
      case atStart => exact ⟨0, [], _, by omega, rfl, rfl, HQ0, by omega, fun z hz => by simp at hz, I4, hown4⟩
      case round =>
        clear I4 hown4
        obtain ⟨k, es, q, hk, rfl, HY, hq, hsz, HV, I5, hown5⟩ := hrel
        by_cases hlt : (k : Int) < nn
        · obtain ⟨A3, c3, rfl, hc31, hc32, _, _⟩ := own_sliceN hown5
          go_wp2_with fail
          refine (pickI _ I5 (by omega) (by omega)).mono ?_
          rintro e w5 ⟨r, rfl, r0, r1, I6, G6⟩
          have hown6 := own_grown hown5 G6 hg1
          have hs6 := G6.size
          clear I5 hown5 G6
          go_wp2_with fail
          refine (sLedgerSealed_any _ _ _ es (1 + r) _ HY.out (by omega) (own_rowN hown6)).mono ?_
          rintro e w6 ⟨rfl, hb7⟩
          have hown7 := own_below hown6 hb7
          have I7 := I6.grown (below_grown hb7 none) (fun x hx => by cases hx)
          have hs7 := hb7.size
          have HSB := Lib.hid (sea_bd es (1 + r))
          clear hown6 I6 hb7
          generalize sea es (1 + r) = sv at *
          obtain ⟨s7, m7, ok7⟩ := sv
          simp only at HSB
          go_wp2_with fail
          refine (pickI _ I7 (by omega) (by omega)).mono ?_
          rintro e w7 ⟨ra, rfl, ra0, ra1, I8, G8⟩
          have hown8 := own_grown hown7 G8 hg1
          have hs8 := G8.size
          clear I7 hown7 G8
          go_wp2_with fail
          refine (pickI _ I8 (by omega) (by omega)).mono ?_
          rintro e w8 ⟨rb, rfl, rb0, rb1, I9, G9⟩
          have hown9 := own_grown hown8 G9 hg1
          have hs9 := G9.size
          clear I8 hown8 G9
          obtain ⟨eb, heb⟩ : ∃ eb, eb = w8.heap.size := ⟨_, rfl⟩
          have HNB : Hid ((Value.slice A3 k c3).ownBlock ≠ some eb) := fun e => by have := (own_block hown9 _ e).2; omega
          have hgeb : g < eb := by omega
          have hebg : eb ≠ g := by omega
          have KE0 : Blk (w8.alloc (.cells #[.int .i64 (1 + r), .int .i64 1, .int .i64 (1 + ra), .int .i64 rb] 36)) eb 36 #[.int .i64 (1 + r), .int .i64 1, .int .i64 (1 + ra), .int .i64 rb] := by rw [heb]; exact Blk.new _ _ _
          have hownE := own_alloc hown9 (.cells #[.int .i64 (1 + r), .int .i64 1, .int .i64 (1 + ra), .int .i64 rb] 36)
          have IE := I9.alloc (.cells #[.int .i64 (1 + r), .int .i64 1, .int .i64 (1 + ra), .int .i64 rb] 36)
          have hsE : (w8.alloc (.cells #[.int .i64 (1 + r), .int .i64 1, .int .i64 (1 + ra), .int .i64 rb] 36)).heap.size = w8.heap.size + 1 := by simp
          have HEB := Lib.hid heb
          clear heb
          cases ok7 with
          | false =>
            clear HSB
            go_wp2_with fail
            rw [← HEB.out]
            have KE := KE0
            have hown := hownE
            have I := IE
            clear KE0 hownE IE I9 hown9
            generalize w8.alloc (.cells #[.int .i64 (1 + r), .int .i64 1, .int .i64 (1 + ra), .int .i64 rb] 36) = We at *
            have hrowS := own_rowN hown
            refine (sl31Gaps_any _ _ _ es _ HY.out (by omega) HV.out hrowS).mono ?_
            rintro e Wg ⟨Ag, kg, cg, rfl, hlg, hkg, hcg, howng, hbg⟩
            have HLG := Lib.hid hlg
            have hkg9 : kg ≤ 30 := by have := gaps_len es k; omega
            have KE' := KE.below_ hbg KE.lt
            have hown' := own_below hown hbg
            have I' := I.grown (below_grown hbg none) (fun x hx => by cases hx)
            have hszg := hbg.size
            have hrowS' := (hrowS.below hbg).more hbg.size
            have hrowG := own_row howng
            clear KE hown I hrowS hlg howng hbg
            have I := I'
            have KE := KE'
            have hown := hown'
            clear I' KE' hown'
            go_wp2_with fail
            refine (sl31Last_any _ k _ es _ kg _ (foll es k).gaps (1 + r) k _ HY.out (by omega) hrowS' HLG.out (by omega) hrowG (Nat.le_refl _)).mono ?_
            rintro e Wl ⟨rfl, hbl⟩
            have KE' := KE.below_ hbl KE.lt
            have hown' := own_below hown hbl
            have I' := I.grown (below_grown hbl none) (fun x hx => by cases hx)
            have hszl := hbl.size
            have hxm := last_bd es HV.out k (1 + r) (by rw [HY.out]; exact Nat.le_refl _)
            clear KE hown I hrowS' hrowG hbl
            have I := I'
            have KE := KE'
            have hown := hown'
            clear I' KE' hown'
            generalize lastL es (foll es k).gaps (1 + r) k = x at *
            obtain ⟨xa, xb, xc, xd⟩ := x
            simp only at hxm
            simp only [evV]
            have d0 : Wl.cell? ⟨eb, 0, none⟩ = some (.int .i64 (1 + r)) := by simpa using KE.cell 0
            have f0 := KE.frozen 0
            have d1 : Wl.cell? ⟨eb, 1, none⟩ = some (.int .i64 1) := by simpa using KE.cell 1
            have f1 := KE.frozen 1
            have d2 : Wl.cell? ⟨eb, 2, none⟩ = some (.int .i64 (1 + ra)) := by simpa using KE.cell 2
            have f2 := KE.frozen 2
            have d3 : Wl.cell? ⟨eb, 3, none⟩ = some (.int .i64 rb) := by simpa using KE.cell 3
            have f3 := KE.frozen 3
            by_cases h3 : xb = 3
            · have q3 : (xb == 3) = true := by simpa using h3
              clear h3
              have dx : (Wl.alloc (.cells #[.int .i64 xa, .int .i64 xb, .int .i64 xc, .int .i64 xd] 36)).cell? ⟨eb, 3, none⟩ = some (.int .i64 rb) := by rw [(KE.alloc (.cells #[.int .i64 xa, .int .i64 xb, .int .i64 xc, .int .i64 xd] 36)).cell 3]; rfl
              have fx := (KE.alloc (.cells #[.int .i64 xa, .int .i64 xb, .int .i64 xc, .int .i64 xd] 36)).frozen 3
              go_wp2_with fail
              clear dx fx
              have KE2 : Blk ((Wl.alloc (.cells #[.int .i64 xa, .int .i64 xb, .int .i64 xc, .int .i64 xd] 36)).setCell ⟨eb, 3, none⟩ (.int .i64 xd)) eb 36 #[.int .i64 (1 + r), .int .i64 1, .int .i64 (1 + ra), .int .i64 xd] := by simpa using (KE.alloc (.cells #[.int .i64 xa, .int .i64 xb, .int .i64 xc, .int .i64 xd] 36)).put 3 (.int .i64 xd)
              have hown2 := own_far (own_alloc hown (.cells #[.int .i64 xa, .int .i64 xb, .int .i64 xc, .int .i64 xd] 36)) HNB.out 3 (.int .i64 xd)
              have I2 := (I.alloc (.cells #[.int .i64 xa, .int .i64 xb, .int .i64 xc, .int .i64 xd] 36)).farE hgeb 3 (.int .i64 xd)
              have hszS : ((Wl.alloc (.cells #[.int .i64 xa, .int .i64 xb, .int .i64 xc, .int .i64 xd] 36)).setCell ⟨eb, 3, none⟩ (.int .i64 xd)).heap.size = Wl.heap.size + 1 := by simp [World.setCell]
              clear KE hown I d0 d1 d2 d3 f0 f1 f2 f3
              generalize (Wl.alloc (.cells #[.int .i64 xa, .int .i64 xb, .int .i64 xc, .int .i64 xd] 36)).setCell ⟨eb, 3, none⟩ (.int .i64 xd) = Wm at *
              have KE := KE2
              have hown := hown2
              have I := I2
              clear KE2 hown2 I2
              refine (pickI _ I (by omega) (by omega)).mono ?_
              rintro e Wa ⟨sw, rfl, sw0, sw1, I', G'⟩
              have KE' := KE.grownS G' hebg
              have hown' := own_grown hown G' hg1
              have hsz_sw := G'.size
              clear I KE hown G'
              have I := I'
              have KE := KE'
              have hown := hown'
              clear I' KE' hown'
              have d0 : Wa.cell? ⟨eb, 0, none⟩ = some (.int .i64 (1 + r)) := by simpa using KE.cell 0
              have f0 := KE.frozen 0
              have d1 : Wa.cell? ⟨eb, 1, none⟩ = some (.int .i64 1) := by simpa using KE.cell 1
              have f1 := KE.frozen 1
              have d2 : Wa.cell? ⟨eb, 2, none⟩ = some (.int .i64 (1 + ra)) := by simpa using KE.cell 2
              have f2 := KE.frozen 2
              have d3 : Wa.cell? ⟨eb, 3, none⟩ = some (.int .i64 xd) := by simpa using KE.cell 3
              have f3 := KE.frozen 3
              by_cases h0 : sw = 0
              · subst h0
                go_wp2_with fail
                clear d0 d1 d2 d3 f0 f1 f2 f3
                refine (pickI _ I (by omega) (by omega)).mono ?_
                rintro e Wb ⟨ta, rfl, ta0, ta1, I', G'⟩
                have KE' := KE.grownS G' hebg
                have hown' := own_grown hown G' hg1
                have hsz_ta := G'.size
                clear I KE hown G'
                have I := I'
                have KE := KE'
                have hown := hown'
                clear I' KE' hown'
                have HOKE : Hid (okE ⟨(1 + r), 1, (1 + ta), xd⟩ = true) := (okE_iff _).2 (by simp only; omega)
                have d0 : Wb.cell? ⟨eb, 0, none⟩ = some (.int .i64 (1 + r)) := by simpa using KE.cell 0
                have f0 := KE.frozen 0
                have d1 : Wb.cell? ⟨eb, 1, none⟩ = some (.int .i64 1) := by simpa using KE.cell 1
                have f1 := KE.frozen 1
                have d2 : Wb.cell? ⟨eb, 2, none⟩ = some (.int .i64 (1 + ra)) := by simpa using KE.cell 2
                have f2 := KE.frozen 2
                have d3 : Wb.cell? ⟨eb, 3, none⟩ = some (.int .i64 xd) := by simpa using KE.cell 3
                have f3 := KE.frozen 3
                have hszW : (Wb.setCell ⟨eb, 2, none⟩ (.int .i64 (1 + ta))).heap.size = Wb.heap.size := by simp [World.setCell]
                have hown2 := own_far hown HNB.out 2 (.int .i64 (1 + ta))
                have I2 := I.farE hgeb 2 (.int .i64 (1 + ta))
                clear hown I
                have hown := hown2
                have I := I2
                clear hown2 I2
                go_wp2_with (at_builtin; refine wpList_append_own_at _ rfl (.tmp 85) (.tmp 87) _ rfl w.heap.size 36 i0 _ 4 32 Try.underlying25 HI.out HZ0.out HZ1.out HZ2.out rfl (by omega) (.slice A3 k c3) _ _ rfl (own_alloc hown _) ⟨Wb.heap.size, 0, none⟩ 1 1 [.int .i64 (1 + r), .int .i64 1, .int .i64 (1 + ta), .int .i64 xd] rfl rfl (by have h := heap_alloc_new (Wb.setCell ⟨eb, 2, none⟩ (.int .i64 (1 + ta))) (.cells #[.int .i64 (1 + r), .int .i64 1, .int .i64 (1 + ta), .int .i64 xd] 36); rw [hszW] at h; exact World.news_of_block h) (by intro u hu; simp at hu; rcases hu with rfl | rfl | rfl | rfl <;> rfl) (by unfold maxLen; omega) (by omega) (by simp [World.setCell]; omega) ?_; intro v' w14 hown14 hgrow14 hnil14 hat14; clear hnil14 hat14)
                go_roundw
                case rel =>
                  have hs14 := hgrow14.size
                  simp [World.setCell] at hs14
                  refine ⟨k + 1, es ++ [⟨(1 + r), 1, (1 + ta), xd⟩], _, by omega, by go_num, ?_, ?_, by omega, fun z hz => ?_, (I.alloc _).grown hgrow14 (fun x hx => by have := (own_block hown x hx).1; omega), by rw [evCells_app]; exact hown14⟩
                  · show (es ++ [_]).length = k + 1
                    rw [List.length_append, HY.out]
                    rfl
                  · omega
                  · rcases List.mem_append.1 hz with hz | hz
                    · exact HV.out z hz
                    · rw [List.mem_singleton.1 hz]
                      exact HOKE.out
                case measure => simp [intOf]; omega
              have s0 : (sw == 0) = false := by simpa using h0
              by_cases h1 : sw = 1
              · subst h1
                go_wp2_with fail
                clear d0 d1 d2 d3 f0 f1 f2 f3
                refine (pickI _ I (by omega) (by omega)).mono ?_
                rintro e Wb ⟨ta, rfl, ta0, ta1, I', G'⟩
                have KE' := KE.grownS G' hebg
                have hown' := own_grown hown G' hg1
                have hsz_ta := G'.size
                clear I KE hown G'
                have I := I'
                have KE := KE'
                have hown := hown'
                clear I' KE' hown'
                have HOKE : Hid (okE ⟨(1 + r), 1, (1 + ra), ta⟩ = true) := (okE_iff _).2 (by simp only; omega)
                have d0 : Wb.cell? ⟨eb, 0, none⟩ = some (.int .i64 (1 + r)) := by simpa using KE.cell 0
                have f0 := KE.frozen 0
                have d1 : Wb.cell? ⟨eb, 1, none⟩ = some (.int .i64 1) := by simpa using KE.cell 1
                have f1 := KE.frozen 1
                have d2 : Wb.cell? ⟨eb, 2, none⟩ = some (.int .i64 (1 + ra)) := by simpa using KE.cell 2
                have f2 := KE.frozen 2
                have d3 : Wb.cell? ⟨eb, 3, none⟩ = some (.int .i64 xd) := by simpa using KE.cell 3
                have f3 := KE.frozen 3
                have hszW : (Wb.setCell ⟨eb, 3, none⟩ (.int .i64 ta)).heap.size = Wb.heap.size := by simp [World.setCell]
                have hown2 := own_far hown HNB.out 3 (.int .i64 ta)
                have I2 := I.farE hgeb 3 (.int .i64 ta)
                clear hown I
                have hown := hown2
                have I := I2
                clear hown2 I2
                go_wp2_with (at_builtin; refine wpList_append_own_at _ rfl (.tmp 85) (.tmp 87) _ rfl w.heap.size 36 i0 _ 4 32 Try.underlying25 HI.out HZ0.out HZ1.out HZ2.out rfl (by omega) (.slice A3 k c3) _ _ rfl (own_alloc hown _) ⟨Wb.heap.size, 0, none⟩ 1 1 [.int .i64 (1 + r), .int .i64 1, .int .i64 (1 + ra), .int .i64 ta] rfl rfl (by have h := heap_alloc_new (Wb.setCell ⟨eb, 3, none⟩ (.int .i64 ta)) (.cells #[.int .i64 (1 + r), .int .i64 1, .int .i64 (1 + ra), .int .i64 ta] 36); rw [hszW] at h; exact World.news_of_block h) (by intro u hu; simp at hu; rcases hu with rfl | rfl | rfl | rfl <;> rfl) (by unfold maxLen; omega) (by omega) (by simp [World.setCell]; omega) ?_; intro v' w14 hown14 hgrow14 hnil14 hat14; clear hnil14 hat14)
                go_roundw
                case rel =>
                  have hs14 := hgrow14.size
                  simp [World.setCell] at hs14
                  refine ⟨k + 1, es ++ [⟨(1 + r), 1, (1 + ra), ta⟩], _, by omega, by go_num, ?_, ?_, by omega, fun z hz => ?_, (I.alloc _).grown hgrow14 (fun x hx => by have := (own_block hown x hx).1; omega), by rw [evCells_app]; exact hown14⟩
                  · show (es ++ [_]).length = k + 1
                    rw [List.length_append, HY.out]
                    rfl
                  · omega
                  · rcases List.mem_append.1 hz with hz | hz
                    · exact HV.out z hz
                    · rw [List.mem_singleton.1 hz]
                      exact HOKE.out
                case measure => simp [intOf]; omega
              have s1 : (sw == 1) = false := by simpa using h1
              by_cases h2 : sw = 2
              · subst h2
                go_wp2_with fail
                clear d0 d1 d2 d3 f0 f1 f2 f3
                refine (pickI _ I (by omega) (by omega)).mono ?_
                rintro e Wb ⟨ta, rfl, ta0, ta1, I', G'⟩
                have KE' := KE.grownS G' hebg
                have hown' := own_grown hown G' hg1
                have hsz_ta := G'.size
                clear I KE hown G'
                have I := I'
                have KE := KE'
                have hown := hown'
                clear I' KE' hown'
                have HOKE : Hid (okE ⟨(1 + r), (1 + ta), (1 + ra), xd⟩ = true) := (okE_iff _).2 (by simp only; omega)
                have d0 : Wb.cell? ⟨eb, 0, none⟩ = some (.int .i64 (1 + r)) := by simpa using KE.cell 0
                have f0 := KE.frozen 0
                have d1 : Wb.cell? ⟨eb, 1, none⟩ = some (.int .i64 1) := by simpa using KE.cell 1
                have f1 := KE.frozen 1
                have d2 : Wb.cell? ⟨eb, 2, none⟩ = some (.int .i64 (1 + ra)) := by simpa using KE.cell 2
                have f2 := KE.frozen 2
                have d3 : Wb.cell? ⟨eb, 3, none⟩ = some (.int .i64 xd) := by simpa using KE.cell 3
                have f3 := KE.frozen 3
                have hszW : (Wb.setCell ⟨eb, 1, none⟩ (.int .i64 (1 + ta))).heap.size = Wb.heap.size := by simp [World.setCell]
                have hown2 := own_far hown HNB.out 1 (.int .i64 (1 + ta))
                have I2 := I.farE hgeb 1 (.int .i64 (1 + ta))
                clear hown I
                have hown := hown2
                have I := I2
                clear hown2 I2
                go_wp2_with (at_builtin; refine wpList_append_own_at _ rfl (.tmp 85) (.tmp 87) _ rfl w.heap.size 36 i0 _ 4 32 Try.underlying25 HI.out HZ0.out HZ1.out HZ2.out rfl (by omega) (.slice A3 k c3) _ _ rfl (own_alloc hown _) ⟨Wb.heap.size, 0, none⟩ 1 1 [.int .i64 (1 + r), .int .i64 (1 + ta), .int .i64 (1 + ra), .int .i64 xd] rfl rfl (by have h := heap_alloc_new (Wb.setCell ⟨eb, 1, none⟩ (.int .i64 (1 + ta))) (.cells #[.int .i64 (1 + r), .int .i64 (1 + ta), .int .i64 (1 + ra), .int .i64 xd] 36); rw [hszW] at h; exact World.news_of_block h) (by intro u hu; simp at hu; rcases hu with rfl | rfl | rfl | rfl <;> rfl) (by unfold maxLen; omega) (by omega) (by simp [World.setCell]; omega) ?_; intro v' w14 hown14 hgrow14 hnil14 hat14; clear hnil14 hat14)
                go_roundw
                case rel =>
                  have hs14 := hgrow14.size
                  simp [World.setCell] at hs14
                  refine ⟨k + 1, es ++ [⟨(1 + r), (1 + ta), (1 + ra), xd⟩], _, by omega, by go_num, ?_, ?_, by omega, fun z hz => ?_, (I.alloc _).grown hgrow14 (fun x hx => by have := (own_block hown x hx).1; omega), by rw [evCells_app]; exact hown14⟩
                  · show (es ++ [_]).length = k + 1
                    rw [List.length_append, HY.out]
                    rfl
                  · omega
                  · rcases List.mem_append.1 hz with hz | hz
                    · exact HV.out z hz
                    · rw [List.mem_singleton.1 hz]
                      exact HOKE.out
                case measure => simp [intOf]; omega
              have s2 : (sw == 2) = false := by simpa using h2
              clear d0 d1 d2 d3 f0 f1 f2 f3
              have HOKE : Hid (okE ⟨(1 + r), 1, (1 + ra), xd⟩ = true) := (okE_iff _).2 (by simp only; omega)
              have d0 : Wa.cell? ⟨eb, 0, none⟩ = some (.int .i64 (1 + r)) := by simpa using KE.cell 0
              have f0 := KE.frozen 0
              have d1 : Wa.cell? ⟨eb, 1, none⟩ = some (.int .i64 1) := by simpa using KE.cell 1
              have f1 := KE.frozen 1
              have d2 : Wa.cell? ⟨eb, 2, none⟩ = some (.int .i64 (1 + ra)) := by simpa using KE.cell 2
              have f2 := KE.frozen 2
              have d3 : Wa.cell? ⟨eb, 3, none⟩ = some (.int .i64 xd) := by simpa using KE.cell 3
              have f3 := KE.frozen 3
              go_wp2_with (at_builtin; refine wpList_append_own_at _ rfl (.tmp 85) (.tmp 87) _ rfl w.heap.size 36 i0 _ 4 32 Try.underlying25 HI.out HZ0.out HZ1.out HZ2.out rfl (by omega) (.slice A3 k c3) _ _ rfl (own_alloc hown _) ⟨Wa.heap.size, 0, none⟩ 1 1 [.int .i64 (1 + r), .int .i64 1, .int .i64 (1 + ra), .int .i64 xd] rfl rfl (World.news_of_block (heap_alloc_new Wa _)) (by intro u hu; simp at hu; rcases hu with rfl | rfl | rfl | rfl <;> rfl) (by unfold maxLen; omega) (by omega) (by simp; omega) ?_; intro v' w14 hown14 hgrow14 hnil14 hat14; clear hnil14 hat14)
              go_roundw
              case rel =>
                have hs14 := hgrow14.size
                simp at hs14
                refine ⟨k + 1, es ++ [⟨(1 + r), 1, (1 + ra), xd⟩], _, by omega, by go_num, ?_, ?_, by omega, fun z hz => ?_, (I.alloc _).grown hgrow14 (fun x hx => by have := (own_block hown x hx).1; omega), by rw [evCells_app]; exact hown14⟩
                · show (es ++ [_]).length = k + 1
                  rw [List.length_append, HY.out]
                  rfl
                · omega
                · rcases List.mem_append.1 hz with hz | hz
                  · exact HV.out z hz
                  · rw [List.mem_singleton.1 hz]
                    exact HOKE.out
              case measure => simp [intOf]; omega
            have q3 : (xb == 3) = false := by simpa using h3
            clear h3
            go_wp2_with fail
            have KE2 := KE.alloc (.cells #[.int .i64 xa, .int .i64 xb, .int .i64 xc, .int .i64 xd] 36)
            have hown2 := own_alloc hown (.cells #[.int .i64 xa, .int .i64 xb, .int .i64 xc, .int .i64 xd] 36)
            have I2 := I.alloc (.cells #[.int .i64 xa, .int .i64 xb, .int .i64 xc, .int .i64 xd] 36)
            have hszS : (Wl.alloc (.cells #[.int .i64 xa, .int .i64 xb, .int .i64 xc, .int .i64 xd] 36)).heap.size = Wl.heap.size + 1 := by simp
            clear KE hown I d0 d1 d2 d3 f0 f1 f2 f3
            generalize Wl.alloc (.cells #[.int .i64 xa, .int .i64 xb, .int .i64 xc, .int .i64 xd] 36) = Wm at *
            have KE := KE2
            have hown := hown2
            have I := I2
            clear KE2 hown2 I2
            refine (pickI _ I (by omega) (by omega)).mono ?_
            rintro e Wa ⟨sw, rfl, sw0, sw1, I', G'⟩
            have KE' := KE.grownS G' hebg
            have hown' := own_grown hown G' hg1
            have hsz_sw := G'.size
            clear I KE hown G'
            have I := I'
            have KE := KE'
            have hown := hown'
            clear I' KE' hown'
            have d0 : Wa.cell? ⟨eb, 0, none⟩ = some (.int .i64 (1 + r)) := by simpa using KE.cell 0
            have f0 := KE.frozen 0
            have d1 : Wa.cell? ⟨eb, 1, none⟩ = some (.int .i64 1) := by simpa using KE.cell 1
            have f1 := KE.frozen 1
            have d2 : Wa.cell? ⟨eb, 2, none⟩ = some (.int .i64 (1 + ra)) := by simpa using KE.cell 2
            have f2 := KE.frozen 2
            have d3 : Wa.cell? ⟨eb, 3, none⟩ = some (.int .i64 rb) := by simpa using KE.cell 3
            have f3 := KE.frozen 3
            by_cases h0 : sw = 0
            · subst h0
              go_wp2_with fail
              clear d0 d1 d2 d3 f0 f1 f2 f3
              refine (pickI _ I (by omega) (by omega)).mono ?_
              rintro e Wb ⟨ta, rfl, ta0, ta1, I', G'⟩
              have KE' := KE.grownS G' hebg
              have hown' := own_grown hown G' hg1
              have hsz_ta := G'.size
              clear I KE hown G'
              have I := I'
              have KE := KE'
              have hown := hown'
              clear I' KE' hown'
              have HOKE : Hid (okE ⟨(1 + r), 1, (1 + ta), rb⟩ = true) := (okE_iff _).2 (by simp only; omega)
              have d0 : Wb.cell? ⟨eb, 0, none⟩ = some (.int .i64 (1 + r)) := by simpa using KE.cell 0
              have f0 := KE.frozen 0
              have d1 : Wb.cell? ⟨eb, 1, none⟩ = some (.int .i64 1) := by simpa using KE.cell 1
              have f1 := KE.frozen 1
              have d2 : Wb.cell? ⟨eb, 2, none⟩ = some (.int .i64 (1 + ra)) := by simpa using KE.cell 2
              have f2 := KE.frozen 2
              have d3 : Wb.cell? ⟨eb, 3, none⟩ = some (.int .i64 rb) := by simpa using KE.cell 3
              have f3 := KE.frozen 3
              have hszW : (Wb.setCell ⟨eb, 2, none⟩ (.int .i64 (1 + ta))).heap.size = Wb.heap.size := by simp [World.setCell]
              have hown2 := own_far hown HNB.out 2 (.int .i64 (1 + ta))
              have I2 := I.farE hgeb 2 (.int .i64 (1 + ta))
              clear hown I
              have hown := hown2
              have I := I2
              clear hown2 I2
              go_wp2_with (at_builtin; refine wpList_append_own_at _ rfl (.tmp 85) (.tmp 87) _ rfl w.heap.size 36 i0 _ 4 32 Try.underlying25 HI.out HZ0.out HZ1.out HZ2.out rfl (by omega) (.slice A3 k c3) _ _ rfl (own_alloc hown _) ⟨Wb.heap.size, 0, none⟩ 1 1 [.int .i64 (1 + r), .int .i64 1, .int .i64 (1 + ta), .int .i64 rb] rfl rfl (by have h := heap_alloc_new (Wb.setCell ⟨eb, 2, none⟩ (.int .i64 (1 + ta))) (.cells #[.int .i64 (1 + r), .int .i64 1, .int .i64 (1 + ta), .int .i64 rb] 36); rw [hszW] at h; exact World.news_of_block h) (by intro u hu; simp at hu; rcases hu with rfl | rfl | rfl | rfl <;> rfl) (by unfold maxLen; omega) (by omega) (by simp [World.setCell]; omega) ?_; intro v' w14 hown14 hgrow14 hnil14 hat14; clear hnil14 hat14)
              go_roundw
              case rel =>
                have hs14 := hgrow14.size
                simp [World.setCell] at hs14
                refine ⟨k + 1, es ++ [⟨(1 + r), 1, (1 + ta), rb⟩], _, by omega, by go_num, ?_, ?_, by omega, fun z hz => ?_, (I.alloc _).grown hgrow14 (fun x hx => by have := (own_block hown x hx).1; omega), by rw [evCells_app]; exact hown14⟩
                · show (es ++ [_]).length = k + 1
                  rw [List.length_append, HY.out]
                  rfl
                · omega
                · rcases List.mem_append.1 hz with hz | hz
                  · exact HV.out z hz
                  · rw [List.mem_singleton.1 hz]
                    exact HOKE.out
              case measure => simp [intOf]; omega
            have s0 : (sw == 0) = false := by simpa using h0
            by_cases h1 : sw = 1
            · subst h1
              go_wp2_with fail
              clear d0 d1 d2 d3 f0 f1 f2 f3
              refine (pickI _ I (by omega) (by omega)).mono ?_
              rintro e Wb ⟨ta, rfl, ta0, ta1, I', G'⟩
              have KE' := KE.grownS G' hebg
              have hown' := own_grown hown G' hg1
              have hsz_ta := G'.size
              clear I KE hown G'
              have I := I'
              have KE := KE'
              have hown := hown'
              clear I' KE' hown'
              have HOKE : Hid (okE ⟨(1 + r), 1, (1 + ra), ta⟩ = true) := (okE_iff _).2 (by simp only; omega)
              have d0 : Wb.cell? ⟨eb, 0, none⟩ = some (.int .i64 (1 + r)) := by simpa using KE.cell 0
              have f0 := KE.frozen 0
              have d1 : Wb.cell? ⟨eb, 1, none⟩ = some (.int .i64 1) := by simpa using KE.cell 1
              have f1 := KE.frozen 1
              have d2 : Wb.cell? ⟨eb, 2, none⟩ = some (.int .i64 (1 + ra)) := by simpa using KE.cell 2
              have f2 := KE.frozen 2
              have d3 : Wb.cell? ⟨eb, 3, none⟩ = some (.int .i64 rb) := by simpa using KE.cell 3
              have f3 := KE.frozen 3
              have hszW : (Wb.setCell ⟨eb, 3, none⟩ (.int .i64 ta)).heap.size = Wb.heap.size := by simp [World.setCell]
              have hown2 := own_far hown HNB.out 3 (.int .i64 ta)
              have I2 := I.farE hgeb 3 (.int .i64 ta)
              clear hown I
              have hown := hown2
              have I := I2
              clear hown2 I2
              go_wp2_with (at_builtin; refine wpList_append_own_at _ rfl (.tmp 85) (.tmp 87) _ rfl w.heap.size 36 i0 _ 4 32 Try.underlying25 HI.out HZ0.out HZ1.out HZ2.out rfl (by omega) (.slice A3 k c3) _ _ rfl (own_alloc hown _) ⟨Wb.heap.size, 0, none⟩ 1 1 [.int .i64 (1 + r), .int .i64 1, .int .i64 (1 + ra), .int .i64 ta] rfl rfl (by have h := heap_alloc_new (Wb.setCell ⟨eb, 3, none⟩ (.int .i64 ta)) (.cells #[.int .i64 (1 + r), .int .i64 1, .int .i64 (1 + ra), .int .i64 ta] 36); rw [hszW] at h; exact World.news_of_block h) (by intro u hu; simp at hu; rcases hu with rfl | rfl | rfl | rfl <;> rfl) (by unfold maxLen; omega) (by omega) (by simp [World.setCell]; omega) ?_; intro v' w14 hown14 hgrow14 hnil14 hat14; clear hnil14 hat14)
              go_roundw
              case rel =>
                have hs14 := hgrow14.size
                simp [World.setCell] at hs14
                refine ⟨k + 1, es ++ [⟨(1 + r), 1, (1 + ra), ta⟩], _, by omega, by go_num, ?_, ?_, by omega, fun z hz => ?_, (I.alloc _).grown hgrow14 (fun x hx => by have := (own_block hown x hx).1; omega), by rw [evCells_app]; exact hown14⟩
                · show (es ++ [_]).length = k + 1
                  rw [List.length_append, HY.out]
                  rfl
                · omega
                · rcases List.mem_append.1 hz with hz | hz
                  · exact HV.out z hz
                  · rw [List.mem_singleton.1 hz]
                    exact HOKE.out
              case measure => simp [intOf]; omega
            have s1 : (sw == 1) = false := by simpa using h1
            by_cases h2 : sw = 2
            · subst h2
              go_wp2_with fail
              clear d0 d1 d2 d3 f0 f1 f2 f3
              refine (pickI _ I (by omega) (by omega)).mono ?_
              rintro e Wb ⟨ta, rfl, ta0, ta1, I', G'⟩
              have KE' := KE.grownS G' hebg
              have hown' := own_grown hown G' hg1
              have hsz_ta := G'.size
              clear I KE hown G'
              have I := I'
              have KE := KE'
              have hown := hown'
              clear I' KE' hown'
              have HOKE : Hid (okE ⟨(1 + r), (1 + ta), (1 + ra), rb⟩ = true) := (okE_iff _).2 (by simp only; omega)
              have d0 : Wb.cell? ⟨eb, 0, none⟩ = some (.int .i64 (1 + r)) := by simpa using KE.cell 0
              have f0 := KE.frozen 0
              have d1 : Wb.cell? ⟨eb, 1, none⟩ = some (.int .i64 1) := by simpa using KE.cell 1
              have f1 := KE.frozen 1
              have d2 : Wb.cell? ⟨eb, 2, none⟩ = some (.int .i64 (1 + ra)) := by simpa using KE.cell 2
              have f2 := KE.frozen 2
              have d3 : Wb.cell? ⟨eb, 3, none⟩ = some (.int .i64 rb) := by simpa using KE.cell 3
              have f3 := KE.frozen 3
              have hszW : (Wb.setCell ⟨eb, 1, none⟩ (.int .i64 (1 + ta))).heap.size = Wb.heap.size := by simp [World.setCell]
              have hown2 := own_far hown HNB.out 1 (.int .i64 (1 + ta))
              have I2 := I.farE hgeb 1 (.int .i64 (1 + ta))
              clear hown I
              have hown := hown2
              have I := I2
              clear hown2 I2
              go_wp2_with (at_builtin; refine wpList_append_own_at _ rfl (.tmp 85) (.tmp 87) _ rfl w.heap.size 36 i0 _ 4 32 Try.underlying25 HI.out HZ0.out HZ1.out HZ2.out rfl (by omega) (.slice A3 k c3) _ _ rfl (own_alloc hown _) ⟨Wb.heap.size, 0, none⟩ 1 1 [.int .i64 (1 + r), .int .i64 (1 + ta), .int .i64 (1 + ra), .int .i64 rb] rfl rfl (by have h := heap_alloc_new (Wb.setCell ⟨eb, 1, none⟩ (.int .i64 (1 + ta))) (.cells #[.int .i64 (1 + r), .int .i64 (1 + ta), .int .i64 (1 + ra), .int .i64 rb] 36); rw [hszW] at h; exact World.news_of_block h) (by intro u hu; simp at hu; rcases hu with rfl | rfl | rfl | rfl <;> rfl) (by unfold maxLen; omega) (by omega) (by simp [World.setCell]; omega) ?_; intro v' w14 hown14 hgrow14 hnil14 hat14; clear hnil14 hat14)
              go_roundw
              case rel =>
                have hs14 := hgrow14.size
                simp [World.setCell] at hs14
                refine ⟨k + 1, es ++ [⟨(1 + r), (1 + ta), (1 + ra), rb⟩], _, by omega, by go_num, ?_, ?_, by omega, fun z hz => ?_, (I.alloc _).grown hgrow14 (fun x hx => by have := (own_block hown x hx).1; omega), by rw [evCells_app]; exact hown14⟩
                · show (es ++ [_]).length = k + 1
                  rw [List.length_append, HY.out]
                  rfl
                · omega
                · rcases List.mem_append.1 hz with hz | hz
                  · exact HV.out z hz
                  · rw [List.mem_singleton.1 hz]
                    exact HOKE.out
              case measure => simp [intOf]; omega
            have s2 : (sw == 2) = false := by simpa using h2
            clear d0 d1 d2 d3 f0 f1 f2 f3
            have HOKE : Hid (okE ⟨(1 + r), 1, (1 + ra), rb⟩ = true) := (okE_iff _).2 (by simp only; omega)
            have d0 : Wa.cell? ⟨eb, 0, none⟩ = some (.int .i64 (1 + r)) := by simpa using KE.cell 0
            have f0 := KE.frozen 0
            have d1 : Wa.cell? ⟨eb, 1, none⟩ = some (.int .i64 1) := by simpa using KE.cell 1
            have f1 := KE.frozen 1
            have d2 : Wa.cell? ⟨eb, 2, none⟩ = some (.int .i64 (1 + ra)) := by simpa using KE.cell 2
            have f2 := KE.frozen 2
            have d3 : Wa.cell? ⟨eb, 3, none⟩ = some (.int .i64 rb) := by simpa using KE.cell 3
            have f3 := KE.frozen 3
            go_wp2_with (at_builtin; refine wpList_append_own_at _ rfl (.tmp 85) (.tmp 87) _ rfl w.heap.size 36 i0 _ 4 32 Try.underlying25 HI.out HZ0.out HZ1.out HZ2.out rfl (by omega) (.slice A3 k c3) _ _ rfl (own_alloc hown _) ⟨Wa.heap.size, 0, none⟩ 1 1 [.int .i64 (1 + r), .int .i64 1, .int .i64 (1 + ra), .int .i64 rb] rfl rfl (World.news_of_block (heap_alloc_new Wa _)) (by intro u hu; simp at hu; rcases hu with rfl | rfl | rfl | rfl <;> rfl) (by unfold maxLen; omega) (by omega) (by simp; omega) ?_; intro v' w14 hown14 hgrow14 hnil14 hat14; clear hnil14 hat14)
            go_roundw
            case rel =>
              have hs14 := hgrow14.size
              simp at hs14
              refine ⟨k + 1, es ++ [⟨(1 + r), 1, (1 + ra), rb⟩], _, by omega, by go_num, ?_, ?_, by omega, fun z hz => ?_, (I.alloc _).grown hgrow14 (fun x hx => by have := (own_block hown x hx).1; omega), by rw [evCells_app]; exact hown14⟩
              · show (es ++ [_]).length = k + 1
                rw [List.length_append, HY.out]
                rfl
              · omega
              · rcases List.mem_append.1 hz with hz | hz
                · exact HV.out z hz
                · rw [List.mem_singleton.1 hz]
                  exact HOKE.out
            case measure => simp [intOf]; omega
          | true =>
            have hsb := HSB.out rfl
            go_wp2_with fail
            rw [← HEB.out]
            have KE := KE0
            have hown := hownE
            have I := IE
            clear KE0 hownE IE I9 hown9
            generalize w8.alloc (.cells #[.int .i64 (1 + r), .int .i64 1, .int .i64 (1 + ra), .int .i64 rb] 36) = We at *
            refine (pickI _ I (by omega) (by omega)).mono ?_
            rintro e Wt ⟨tt, rfl, tt0, tt1, I', G'⟩
            have KE' := KE.grownS G' hebg
            have hown' := own_grown hown G' hg1
            have hsz_tt := G'.size
            clear I KE hown G'
            have I := I'
            have KE := KE'
            have hown := hown'
            clear I' KE' hown'
            have d0 : Wt.cell? ⟨eb, 0, none⟩ = some (.int .i64 (1 + r)) := by simpa using KE.cell 0
            have f0 := KE.frozen 0
            have d1 : Wt.cell? ⟨eb, 1, none⟩ = some (.int .i64 1) := by simpa using KE.cell 1
            have f1 := KE.frozen 1
            have d2 : Wt.cell? ⟨eb, 2, none⟩ = some (.int .i64 (1 + ra)) := by simpa using KE.cell 2
            have f2 := KE.frozen 2
            have d3 : Wt.cell? ⟨eb, 3, none⟩ = some (.int .i64 rb) := by simpa using KE.cell 3
            have f3 := KE.frozen 3
            go_wp2_with fail
            clear d0 d1 d2 d3 f0 f1 f2 f3
            have KE2 : Blk ((((Wt.setCell ⟨eb, 0, none⟩ (.int .i64 (1 + r))).setCell ⟨eb, 1, none⟩ (.int .i64 (2 + tt))).setCell ⟨eb, 2, none⟩ (.int .i64 s7)).setCell ⟨eb, 3, none⟩ (.int .i64 m7)) eb 36 #[.int .i64 (1 + r), .int .i64 (2 + tt), .int .i64 s7, .int .i64 m7] := by
              have h := (((KE.put 0 (.int .i64 (1 + r))).put 1 (.int .i64 (2 + tt))).put 2 (.int .i64 s7)).put 3 (.int .i64 m7)
              simpa using h
            have hown2 := own_far (own_far (own_far (own_far hown HNB.out 0 (.int .i64 (1 + r))) HNB.out 1 (.int .i64 (2 + tt))) HNB.out 2 (.int .i64 s7)) HNB.out 3 (.int .i64 m7)
            have I2 := (((I.farE hgeb 0 (.int .i64 (1 + r))).farE hgeb 1 (.int .i64 (2 + tt))).farE hgeb 2 (.int .i64 s7)).farE hgeb 3 (.int .i64 m7)
            have hszS : ((((Wt.setCell ⟨eb, 0, none⟩ (.int .i64 (1 + r))).setCell ⟨eb, 1, none⟩ (.int .i64 (2 + tt))).setCell ⟨eb, 2, none⟩ (.int .i64 s7)).setCell ⟨eb, 3, none⟩ (.int .i64 m7)).heap.size = Wt.heap.size := by simp [World.setCell]
            clear KE hown I
            generalize (((Wt.setCell ⟨eb, 0, none⟩ (.int .i64 (1 + r))).setCell ⟨eb, 1, none⟩ (.int .i64 (2 + tt))).setCell ⟨eb, 2, none⟩ (.int .i64 s7)).setCell ⟨eb, 3, none⟩ (.int .i64 m7) = Wu at *
            have KE := KE2
            have hown := hown2
            have I := I2
            clear KE2 hown2 I2
            have hrowS := own_rowN hown
            refine (sl31Gaps_any _ _ _ es _ HY.out (by omega) HV.out hrowS).mono ?_
            rintro e Wg ⟨Ag, kg, cg, rfl, hlg, hkg, hcg, howng, hbg⟩
            have HLG := Lib.hid hlg
            have hkg9 : kg ≤ 30 := by have := gaps_len es k; omega
            have KE' := KE.below_ hbg KE.lt
            have hown' := own_below hown hbg
            have I' := I.grown (below_grown hbg none) (fun x hx => by cases hx)
            have hszg := hbg.size
            have hrowS' := (hrowS.below hbg).more hbg.size
            have hrowG := own_row howng
            clear KE hown I hrowS hlg howng hbg
            have I := I'
            have KE := KE'
            have hown := hown'
            clear I' KE' hown'
            go_wp2_with fail
            refine (sl31Last_any _ k _ es _ kg _ (foll es k).gaps (1 + r) k _ HY.out (by omega) hrowS' HLG.out (by omega) hrowG (Nat.le_refl _)).mono ?_
            rintro e Wl ⟨rfl, hbl⟩
            have KE' := KE.below_ hbl KE.lt
            have hown' := own_below hown hbl
            have I' := I.grown (below_grown hbl none) (fun x hx => by cases hx)
            have hszl := hbl.size
            have hxm := last_bd es HV.out k (1 + r) (by rw [HY.out]; exact Nat.le_refl _)
            clear KE hown I hrowS' hrowG hbl
            have I := I'
            have KE := KE'
            have hown := hown'
            clear I' KE' hown'
            generalize lastL es (foll es k).gaps (1 + r) k = x at *
            obtain ⟨xa, xb, xc, xd⟩ := x
            simp only at hxm
            simp only [evV]
            have d0 : Wl.cell? ⟨eb, 0, none⟩ = some (.int .i64 (1 + r)) := by simpa using KE.cell 0
            have f0 := KE.frozen 0
            have d1 : Wl.cell? ⟨eb, 1, none⟩ = some (.int .i64 (2 + tt)) := by simpa using KE.cell 1
            have f1 := KE.frozen 1
            have d2 : Wl.cell? ⟨eb, 2, none⟩ = some (.int .i64 s7) := by simpa using KE.cell 2
            have f2 := KE.frozen 2
            have d3 : Wl.cell? ⟨eb, 3, none⟩ = some (.int .i64 m7) := by simpa using KE.cell 3
            have f3 := KE.frozen 3
            by_cases h3 : xb = 3
            · have q3 : (xb == 3) = true := by simpa using h3
              clear h3
              have dx : (Wl.alloc (.cells #[.int .i64 xa, .int .i64 xb, .int .i64 xc, .int .i64 xd] 36)).cell? ⟨eb, 3, none⟩ = some (.int .i64 m7) := by rw [(KE.alloc (.cells #[.int .i64 xa, .int .i64 xb, .int .i64 xc, .int .i64 xd] 36)).cell 3]; rfl
              have fx := (KE.alloc (.cells #[.int .i64 xa, .int .i64 xb, .int .i64 xc, .int .i64 xd] 36)).frozen 3
              go_wp2_with fail
              clear dx fx
              have KE2 : Blk ((Wl.alloc (.cells #[.int .i64 xa, .int .i64 xb, .int .i64 xc, .int .i64 xd] 36)).setCell ⟨eb, 3, none⟩ (.int .i64 xd)) eb 36 #[.int .i64 (1 + r), .int .i64 (2 + tt), .int .i64 s7, .int .i64 xd] := by simpa using (KE.alloc (.cells #[.int .i64 xa, .int .i64 xb, .int .i64 xc, .int .i64 xd] 36)).put 3 (.int .i64 xd)
              have hown2 := own_far (own_alloc hown (.cells #[.int .i64 xa, .int .i64 xb, .int .i64 xc, .int .i64 xd] 36)) HNB.out 3 (.int .i64 xd)
              have I2 := (I.alloc (.cells #[.int .i64 xa, .int .i64 xb, .int .i64 xc, .int .i64 xd] 36)).farE hgeb 3 (.int .i64 xd)
              have hszS : ((Wl.alloc (.cells #[.int .i64 xa, .int .i64 xb, .int .i64 xc, .int .i64 xd] 36)).setCell ⟨eb, 3, none⟩ (.int .i64 xd)).heap.size = Wl.heap.size + 1 := by simp [World.setCell]
              clear KE hown I d0 d1 d2 d3 f0 f1 f2 f3
              generalize (Wl.alloc (.cells #[.int .i64 xa, .int .i64 xb, .int .i64 xc, .int .i64 xd] 36)).setCell ⟨eb, 3, none⟩ (.int .i64 xd) = Wm at *
              have KE := KE2
              have hown := hown2
              have I := I2
              clear KE2 hown2 I2
              refine (pickI _ I (by omega) (by omega)).mono ?_
              rintro e Wa ⟨sw, rfl, sw0, sw1, I', G'⟩
              have KE' := KE.grownS G' hebg
              have hown' := own_grown hown G' hg1
              have hsz_sw := G'.size
              clear I KE hown G'
              have I := I'
              have KE := KE'
              have hown := hown'
              clear I' KE' hown'
              have d0 : Wa.cell? ⟨eb, 0, none⟩ = some (.int .i64 (1 + r)) := by simpa using KE.cell 0
              have f0 := KE.frozen 0
              have d1 : Wa.cell? ⟨eb, 1, none⟩ = some (.int .i64 (2 + tt)) := by simpa using KE.cell 1
              have f1 := KE.frozen 1
              have d2 : Wa.cell? ⟨eb, 2, none⟩ = some (.int .i64 s7) := by simpa using KE.cell 2
              have f2 := KE.frozen 2
              have d3 : Wa.cell? ⟨eb, 3, none⟩ = some (.int .i64 xd) := by simpa using KE.cell 3
              have f3 := KE.frozen 3
              by_cases h0 : sw = 0
              · subst h0
                go_wp2_with fail
                clear d0 d1 d2 d3 f0 f1 f2 f3
                refine (pickI _ I (by omega) (by omega)).mono ?_
                rintro e Wb ⟨ta, rfl, ta0, ta1, I', G'⟩
                have KE' := KE.grownS G' hebg
                have hown' := own_grown hown G' hg1
                have hsz_ta := G'.size
                clear I KE hown G'
                have I := I'
                have KE := KE'
                have hown := hown'
                clear I' KE' hown'
                have HOKE : Hid (okE ⟨(1 + r), (2 + tt), (1 + ta), xd⟩ = true) := (okE_iff _).2 (by simp only; omega)
                have d0 : Wb.cell? ⟨eb, 0, none⟩ = some (.int .i64 (1 + r)) := by simpa using KE.cell 0
                have f0 := KE.frozen 0
                have d1 : Wb.cell? ⟨eb, 1, none⟩ = some (.int .i64 (2 + tt)) := by simpa using KE.cell 1
                have f1 := KE.frozen 1
                have d2 : Wb.cell? ⟨eb, 2, none⟩ = some (.int .i64 s7) := by simpa using KE.cell 2
                have f2 := KE.frozen 2
                have d3 : Wb.cell? ⟨eb, 3, none⟩ = some (.int .i64 xd) := by simpa using KE.cell 3
                have f3 := KE.frozen 3
                have hszW : (Wb.setCell ⟨eb, 2, none⟩ (.int .i64 (1 + ta))).heap.size = Wb.heap.size := by simp [World.setCell]
                have hown2 := own_far hown HNB.out 2 (.int .i64 (1 + ta))
                have I2 := I.farE hgeb 2 (.int .i64 (1 + ta))
                clear hown I
                have hown := hown2
                have I := I2
                clear hown2 I2
                go_wp2_with (at_builtin; refine wpList_append_own_at _ rfl (.tmp 85) (.tmp 87) _ rfl w.heap.size 36 i0 _ 4 32 Try.underlying25 HI.out HZ0.out HZ1.out HZ2.out rfl (by omega) (.slice A3 k c3) _ _ rfl (own_alloc hown _) ⟨Wb.heap.size, 0, none⟩ 1 1 [.int .i64 (1 + r), .int .i64 (2 + tt), .int .i64 (1 + ta), .int .i64 xd] rfl rfl (by have h := heap_alloc_new (Wb.setCell ⟨eb, 2, none⟩ (.int .i64 (1 + ta))) (.cells #[.int .i64 (1 + r), .int .i64 (2 + tt), .int .i64 (1 + ta), .int .i64 xd] 36); rw [hszW] at h; exact World.news_of_block h) (by intro u hu; simp at hu; rcases hu with rfl | rfl | rfl | rfl <;> rfl) (by unfold maxLen; omega) (by omega) (by simp [World.setCell]; omega) ?_; intro v' w14 hown14 hgrow14 hnil14 hat14; clear hnil14 hat14)
                go_roundw
                case rel =>
                  have hs14 := hgrow14.size
                  simp [World.setCell] at hs14
                  refine ⟨k + 1, es ++ [⟨(1 + r), (2 + tt), (1 + ta), xd⟩], _, by omega, by go_num, ?_, ?_, by omega, fun z hz => ?_, (I.alloc _).grown hgrow14 (fun x hx => by have := (own_block hown x hx).1; omega), by rw [evCells_app]; exact hown14⟩
                  · show (es ++ [_]).length = k + 1
                    rw [List.length_append, HY.out]
                    rfl
                  · omega
                  · rcases List.mem_append.1 hz with hz | hz
                    · exact HV.out z hz
                    · rw [List.mem_singleton.1 hz]
                      exact HOKE.out
                case measure => simp [intOf]; omega
              have s0 : (sw == 0) = false := by simpa using h0
              by_cases h1 : sw = 1
              · subst h1
                go_wp2_with fail
                clear d0 d1 d2 d3 f0 f1 f2 f3
                refine (pickI _ I (by omega) (by omega)).mono ?_
                rintro e Wb ⟨ta, rfl, ta0, ta1, I', G'⟩
                have KE' := KE.grownS G' hebg
                have hown' := own_grown hown G' hg1
                have hsz_ta := G'.size
                clear I KE hown G'
                have I := I'
                have KE := KE'
                have hown := hown'
                clear I' KE' hown'
                have HOKE : Hid (okE ⟨(1 + r), (2 + tt), s7, ta⟩ = true) := (okE_iff _).2 (by simp only; omega)
                have d0 : Wb.cell? ⟨eb, 0, none⟩ = some (.int .i64 (1 + r)) := by simpa using KE.cell 0
                have f0 := KE.frozen 0
                have d1 : Wb.cell? ⟨eb, 1, none⟩ = some (.int .i64 (2 + tt)) := by simpa using KE.cell 1
                have f1 := KE.frozen 1
                have d2 : Wb.cell? ⟨eb, 2, none⟩ = some (.int .i64 s7) := by simpa using KE.cell 2
                have f2 := KE.frozen 2
                have d3 : Wb.cell? ⟨eb, 3, none⟩ = some (.int .i64 xd) := by simpa using KE.cell 3
                have f3 := KE.frozen 3
                have hszW : (Wb.setCell ⟨eb, 3, none⟩ (.int .i64 ta)).heap.size = Wb.heap.size := by simp [World.setCell]
                have hown2 := own_far hown HNB.out 3 (.int .i64 ta)
                have I2 := I.farE hgeb 3 (.int .i64 ta)
                clear hown I
                have hown := hown2
                have I := I2
                clear hown2 I2
                go_wp2_with (at_builtin; refine wpList_append_own_at _ rfl (.tmp 85) (.tmp 87) _ rfl w.heap.size 36 i0 _ 4 32 Try.underlying25 HI.out HZ0.out HZ1.out HZ2.out rfl (by omega) (.slice A3 k c3) _ _ rfl (own_alloc hown _) ⟨Wb.heap.size, 0, none⟩ 1 1 [.int .i64 (1 + r), .int .i64 (2 + tt), .int .i64 s7, .int .i64 ta] rfl rfl (by have h := heap_alloc_new (Wb.setCell ⟨eb, 3, none⟩ (.int .i64 ta)) (.cells #[.int .i64 (1 + r), .int .i64 (2 + tt), .int .i64 s7, .int .i64 ta] 36); rw [hszW] at h; exact World.news_of_block h) (by intro u hu; simp at hu; rcases hu with rfl | rfl | rfl | rfl <;> rfl) (by unfold maxLen; omega) (by omega) (by simp [World.setCell]; omega) ?_; intro v' w14 hown14 hgrow14 hnil14 hat14; clear hnil14 hat14)
                go_roundw
                case rel =>
                  have hs14 := hgrow14.size
                  simp [World.setCell] at hs14
                  refine ⟨k + 1, es ++ [⟨(1 + r), (2 + tt), s7, ta⟩], _, by omega, by go_num, ?_, ?_, by omega, fun z hz => ?_, (I.alloc _).grown hgrow14 (fun x hx => by have := (own_block hown x hx).1; omega), by rw [evCells_app]; exact hown14⟩
                  · show (es ++ [_]).length = k + 1
                    rw [List.length_append, HY.out]
                    rfl
                  · omega
                  · rcases List.mem_append.1 hz with hz | hz
                    · exact HV.out z hz
                    · rw [List.mem_singleton.1 hz]
                      exact HOKE.out
                case measure => simp [intOf]; omega
              have s1 : (sw == 1) = false := by simpa using h1
              by_cases h2 : sw = 2
              · subst h2
                go_wp2_with fail
                clear d0 d1 d2 d3 f0 f1 f2 f3
                refine (pickI _ I (by omega) (by omega)).mono ?_
                rintro e Wb ⟨ta, rfl, ta0, ta1, I', G'⟩
                have KE' := KE.grownS G' hebg
                have hown' := own_grown hown G' hg1
                have hsz_ta := G'.size
                clear I KE hown G'
                have I := I'
                have KE := KE'
                have hown := hown'
                clear I' KE' hown'
                have HOKE : Hid (okE ⟨(1 + r), (1 + ta), s7, xd⟩ = true) := (okE_iff _).2 (by simp only; omega)
                have d0 : Wb.cell? ⟨eb, 0, none⟩ = some (.int .i64 (1 + r)) := by simpa using KE.cell 0
                have f0 := KE.frozen 0
                have d1 : Wb.cell? ⟨eb, 1, none⟩ = some (.int .i64 (2 + tt)) := by simpa using KE.cell 1
                have f1 := KE.frozen 1
                have d2 : Wb.cell? ⟨eb, 2, none⟩ = some (.int .i64 s7) := by simpa using KE.cell 2
                have f2 := KE.frozen 2
                have d3 : Wb.cell? ⟨eb, 3, none⟩ = some (.int .i64 xd) := by simpa using KE.cell 3
                have f3 := KE.frozen 3
                have hszW : (Wb.setCell ⟨eb, 1, none⟩ (.int .i64 (1 + ta))).heap.size = Wb.heap.size := by simp [World.setCell]
                have hown2 := own_far hown HNB.out 1 (.int .i64 (1 + ta))
                have I2 := I.farE hgeb 1 (.int .i64 (1 + ta))
                clear hown I
                have hown := hown2
                have I := I2
                clear hown2 I2
                go_wp2_with (at_builtin; refine wpList_append_own_at _ rfl (.tmp 85) (.tmp 87) _ rfl w.heap.size 36 i0 _ 4 32 Try.underlying25 HI.out HZ0.out HZ1.out HZ2.out rfl (by omega) (.slice A3 k c3) _ _ rfl (own_alloc hown _) ⟨Wb.heap.size, 0, none⟩ 1 1 [.int .i64 (1 + r), .int .i64 (1 + ta), .int .i64 s7, .int .i64 xd] rfl rfl (by have h := heap_alloc_new (Wb.setCell ⟨eb, 1, none⟩ (.int .i64 (1 + ta))) (.cells #[.int .i64 (1 + r), .int .i64 (1 + ta), .int .i64 s7, .int .i64 xd] 36); rw [hszW] at h; exact World.news_of_block h) (by intro u hu; simp at hu; rcases hu with rfl | rfl | rfl | rfl <;> rfl) (by unfold maxLen; omega) (by omega) (by simp [World.setCell]; omega) ?_; intro v' w14 hown14 hgrow14 hnil14 hat14; clear hnil14 hat14)
                go_roundw
                case rel =>
                  have hs14 := hgrow14.size
                  simp [World.setCell] at hs14
                  refine ⟨k + 1, es ++ [⟨(1 + r), (1 + ta), s7, xd⟩], _, by omega, by go_num, ?_, ?_, by omega, fun z hz => ?_, (I.alloc _).grown hgrow14 (fun x hx => by have := (own_block hown x hx).1; omega), by rw [evCells_app]; exact hown14⟩
                  · show (es ++ [_]).length = k + 1
                    rw [List.length_append, HY.out]
                    rfl
                  · omega
                  · rcases List.mem_append.1 hz with hz | hz
                    · exact HV.out z hz
                    · rw [List.mem_singleton.1 hz]
                      exact HOKE.out
                case measure => simp [intOf]; omega
              have s2 : (sw == 2) = false := by simpa using h2
              clear d0 d1 d2 d3 f0 f1 f2 f3
              have HOKE : Hid (okE ⟨(1 + r), (2 + tt), s7, xd⟩ = true) := (okE_iff _).2 (by simp only; omega)
              have d0 : Wa.cell? ⟨eb, 0, none⟩ = some (.int .i64 (1 + r)) := by simpa using KE.cell 0
              have f0 := KE.frozen 0
              have d1 : Wa.cell? ⟨eb, 1, none⟩ = some (.int .i64 (2 + tt)) := by simpa using KE.cell 1
              have f1 := KE.frozen 1
              have d2 : Wa.cell? ⟨eb, 2, none⟩ = some (.int .i64 s7) := by simpa using KE.cell 2
              have f2 := KE.frozen 2
              have d3 : Wa.cell? ⟨eb, 3, none⟩ = some (.int .i64 xd) := by simpa using KE.cell 3
              have f3 := KE.frozen 3
              go_wp2_with (at_builtin; refine wpList_append_own_at _ rfl (.tmp 85) (.tmp 87) _ rfl w.heap.size 36 i0 _ 4 32 Try.underlying25 HI.out HZ0.out HZ1.out HZ2.out rfl (by omega) (.slice A3 k c3) _ _ rfl (own_alloc hown _) ⟨Wa.heap.size, 0, none⟩ 1 1 [.int .i64 (1 + r), .int .i64 (2 + tt), .int .i64 s7, .int .i64 xd] rfl rfl (World.news_of_block (heap_alloc_new Wa _)) (by intro u hu; simp at hu; rcases hu with rfl | rfl | rfl | rfl <;> rfl) (by unfold maxLen; omega) (by omega) (by simp; omega) ?_; intro v' w14 hown14 hgrow14 hnil14 hat14; clear hnil14 hat14)
              go_roundw
              case rel =>
                have hs14 := hgrow14.size
                simp at hs14
                refine ⟨k + 1, es ++ [⟨(1 + r), (2 + tt), s7, xd⟩], _, by omega, by go_num, ?_, ?_, by omega, fun z hz => ?_, (I.alloc _).grown hgrow14 (fun x hx => by have := (own_block hown x hx).1; omega), by rw [evCells_app]; exact hown14⟩
                · show (es ++ [_]).length = k + 1
                  rw [List.length_append, HY.out]
                  rfl
                · omega
                · rcases List.mem_append.1 hz with hz | hz
                  · exact HV.out z hz
                  · rw [List.mem_singleton.1 hz]
                    exact HOKE.out
              case measure => simp [intOf]; omega
            have q3 : (xb == 3) = false := by simpa using h3
            clear h3
            go_wp2_with fail
            have KE2 := KE.alloc (.cells #[.int .i64 xa, .int .i64 xb, .int .i64 xc, .int .i64 xd] 36)
            have hown2 := own_alloc hown (.cells #[.int .i64 xa, .int .i64 xb, .int .i64 xc, .int .i64 xd] 36)
            have I2 := I.alloc (.cells #[.int .i64 xa, .int .i64 xb, .int .i64 xc, .int .i64 xd] 36)
            have hszS : (Wl.alloc (.cells #[.int .i64 xa, .int .i64 xb, .int .i64 xc, .int .i64 xd] 36)).heap.size = Wl.heap.size + 1 := by simp
            clear KE hown I d0 d1 d2 d3 f0 f1 f2 f3
            generalize Wl.alloc (.cells #[.int .i64 xa, .int .i64 xb, .int .i64 xc, .int .i64 xd] 36) = Wm at *
            have KE := KE2
            have hown := hown2
            have I := I2
            clear KE2 hown2 I2
            refine (pickI _ I (by omega) (by omega)).mono ?_
            rintro e Wa ⟨sw, rfl, sw0, sw1, I', G'⟩
            have KE' := KE.grownS G' hebg
            have hown' := own_grown hown G' hg1
            have hsz_sw := G'.size
            clear I KE hown G'
            have I := I'
            have KE := KE'
            have hown := hown'
            clear I' KE' hown'
            have d0 : Wa.cell? ⟨eb, 0, none⟩ = some (.int .i64 (1 + r)) := by simpa using KE.cell 0
            have f0 := KE.frozen 0
            have d1 : Wa.cell? ⟨eb, 1, none⟩ = some (.int .i64 (2 + tt)) := by simpa using KE.cell 1
            have f1 := KE.frozen 1
            have d2 : Wa.cell? ⟨eb, 2, none⟩ = some (.int .i64 s7) := by simpa using KE.cell 2
            have f2 := KE.frozen 2
            have d3 : Wa.cell? ⟨eb, 3, none⟩ = some (.int .i64 m7) := by simpa using KE.cell 3
            have f3 := KE.frozen 3
            by_cases h0 : sw = 0
            · subst h0
              go_wp2_with fail
              clear d0 d1 d2 d3 f0 f1 f2 f3
              refine (pickI _ I (by omega) (by omega)).mono ?_
              rintro e Wb ⟨ta, rfl, ta0, ta1, I', G'⟩
              have KE' := KE.grownS G' hebg
              have hown' := own_grown hown G' hg1
              have hsz_ta := G'.size
              clear I KE hown G'
              have I := I'
              have KE := KE'
              have hown := hown'
              clear I' KE' hown'
              have HOKE : Hid (okE ⟨(1 + r), (2 + tt), (1 + ta), m7⟩ = true) := (okE_iff _).2 (by simp only; omega)
              have d0 : Wb.cell? ⟨eb, 0, none⟩ = some (.int .i64 (1 + r)) := by simpa using KE.cell 0
              have f0 := KE.frozen 0
              have d1 : Wb.cell? ⟨eb, 1, none⟩ = some (.int .i64 (2 + tt)) := by simpa using KE.cell 1
              have f1 := KE.frozen 1
              have d2 : Wb.cell? ⟨eb, 2, none⟩ = some (.int .i64 s7) := by simpa using KE.cell 2
              have f2 := KE.frozen 2
              have d3 : Wb.cell? ⟨eb, 3, none⟩ = some (.int .i64 m7) := by simpa using KE.cell 3
              have f3 := KE.frozen 3
              have hszW : (Wb.setCell ⟨eb, 2, none⟩ (.int .i64 (1 + ta))).heap.size = Wb.heap.size := by simp [World.setCell]
              have hown2 := own_far hown HNB.out 2 (.int .i64 (1 + ta))
              have I2 := I.farE hgeb 2 (.int .i64 (1 + ta))
              clear hown I
              have hown := hown2
              have I := I2
              clear hown2 I2
              go_wp2_with (at_builtin; refine wpList_append_own_at _ rfl (.tmp 85) (.tmp 87) _ rfl w.heap.size 36 i0 _ 4 32 Try.underlying25 HI.out HZ0.out HZ1.out HZ2.out rfl (by omega) (.slice A3 k c3) _ _ rfl (own_alloc hown _) ⟨Wb.heap.size, 0, none⟩ 1 1 [.int .i64 (1 + r), .int .i64 (2 + tt), .int .i64 (1 + ta), .int .i64 m7] rfl rfl (by have h := heap_alloc_new (Wb.setCell ⟨eb, 2, none⟩ (.int .i64 (1 + ta))) (.cells #[.int .i64 (1 + r), .int .i64 (2 + tt), .int .i64 (1 + ta), .int .i64 m7] 36); rw [hszW] at h; exact World.news_of_block h) (by intro u hu; simp at hu; rcases hu with rfl | rfl | rfl | rfl <;> rfl) (by unfold maxLen; omega) (by omega) (by simp [World.setCell]; omega) ?_; intro v' w14 hown14 hgrow14 hnil14 hat14; clear hnil14 hat14)
              go_roundw
              case rel =>
                have hs14 := hgrow14.size
                simp [World.setCell] at hs14
                refine ⟨k + 1, es ++ [⟨(1 + r), (2 + tt), (1 + ta), m7⟩], _, by omega, by go_num, ?_, ?_, by omega, fun z hz => ?_, (I.alloc _).grown hgrow14 (fun x hx => by have := (own_block hown x hx).1; omega), by rw [evCells_app]; exact hown14⟩
                · show (es ++ [_]).length = k + 1
                  rw [List.length_append, HY.out]
                  rfl
                · omega
                · rcases List.mem_append.1 hz with hz | hz
                  · exact HV.out z hz
                  · rw [List.mem_singleton.1 hz]
                    exact HOKE.out
              case measure => simp [intOf]; omega
            have s0 : (sw == 0) = false := by simpa using h0
            by_cases h1 : sw = 1
            · subst h1
              go_wp2_with fail
              clear d0 d1 d2 d3 f0 f1 f2 f3
              refine (pickI _ I (by omega) (by omega)).mono ?_
              rintro e Wb ⟨ta, rfl, ta0, ta1, I', G'⟩
              have KE' := KE.grownS G' hebg
              have hown' := own_grown hown G' hg1
              have hsz_ta := G'.size
              clear I KE hown G'
              have I := I'
              have KE := KE'
              have hown := hown'
              clear I' KE' hown'
              have HOKE : Hid (okE ⟨(1 + r), (2 + tt), s7, ta⟩ = true) := (okE_iff _).2 (by simp only; omega)
              have d0 : Wb.cell? ⟨eb, 0, none⟩ = some (.int .i64 (1 + r)) := by simpa using KE.cell 0
              have f0 := KE.frozen 0
              have d1 : Wb.cell? ⟨eb, 1, none⟩ = some (.int .i64 (2 + tt)) := by simpa using KE.cell 1
              have f1 := KE.frozen 1
              have d2 : Wb.cell? ⟨eb, 2, none⟩ = some (.int .i64 s7) := by simpa using KE.cell 2
              have f2 := KE.frozen 2
              have d3 : Wb.cell? ⟨eb, 3, none⟩ = some (.int .i64 m7) := by simpa using KE.cell 3
              have f3 := KE.frozen 3
              have hszW : (Wb.setCell ⟨eb, 3, none⟩ (.int .i64 ta)).heap.size = Wb.heap.size := by simp [World.setCell]
              have hown2 := own_far hown HNB.out 3 (.int .i64 ta)
              have I2 := I.farE hgeb 3 (.int .i64 ta)
              clear hown I
              have hown := hown2
              have I := I2
              clear hown2 I2
              go_wp2_with (at_builtin; refine wpList_append_own_at _ rfl (.tmp 85) (.tmp 87) _ rfl w.heap.size 36 i0 _ 4 32 Try.underlying25 HI.out HZ0.out HZ1.out HZ2.out rfl (by omega) (.slice A3 k c3) _ _ rfl (own_alloc hown _) ⟨Wb.heap.size, 0, none⟩ 1 1 [.int .i64 (1 + r), .int .i64 (2 + tt), .int .i64 s7, .int .i64 ta] rfl rfl (by have h := heap_alloc_new (Wb.setCell ⟨eb, 3, none⟩ (.int .i64 ta)) (.cells #[.int .i64 (1 + r), .int .i64 (2 + tt), .int .i64 s7, .int .i64 ta] 36); rw [hszW] at h; exact World.news_of_block h) (by intro u hu; simp at hu; rcases hu with rfl | rfl | rfl | rfl <;> rfl) (by unfold maxLen; omega) (by omega) (by simp [World.setCell]; omega) ?_; intro v' w14 hown14 hgrow14 hnil14 hat14; clear hnil14 hat14)
              go_roundw
              case rel =>
                have hs14 := hgrow14.size
                simp [World.setCell] at hs14
                refine ⟨k + 1, es ++ [⟨(1 + r), (2 + tt), s7, ta⟩], _, by omega, by go_num, ?_, ?_, by omega, fun z hz => ?_, (I.alloc _).grown hgrow14 (fun x hx => by have := (own_block hown x hx).1; omega), by rw [evCells_app]; exact hown14⟩
                · show (es ++ [_]).length = k + 1
                  rw [List.length_append, HY.out]
                  rfl
                · omega
                · rcases List.mem_append.1 hz with hz | hz
                  · exact HV.out z hz
                  · rw [List.mem_singleton.1 hz]
                    exact HOKE.out
              case measure => simp [intOf]; omega
            have s1 : (sw == 1) = false := by simpa using h1
            by_cases h2 : sw = 2
            · subst h2
              go_wp2_with fail
              clear d0 d1 d2 d3 f0 f1 f2 f3
              refine (pickI _ I (by omega) (by omega)).mono ?_
              rintro e Wb ⟨ta, rfl, ta0, ta1, I', G'⟩
              have KE' := KE.grownS G' hebg
              have hown' := own_grown hown G' hg1
              have hsz_ta := G'.size
              clear I KE hown G'
              have I := I'
              have KE := KE'
              have hown := hown'
              clear I' KE' hown'
              have HOKE : Hid (okE ⟨(1 + r), (1 + ta), s7, m7⟩ = true) := (okE_iff _).2 (by simp only; omega)
              have d0 : Wb.cell? ⟨eb, 0, none⟩ = some (.int .i64 (1 + r)) := by simpa using KE.cell 0
              have f0 := KE.frozen 0
              have d1 : Wb.cell? ⟨eb, 1, none⟩ = some (.int .i64 (2 + tt)) := by simpa using KE.cell 1
              have f1 := KE.frozen 1
              have d2 : Wb.cell? ⟨eb, 2, none⟩ = some (.int .i64 s7) := by simpa using KE.cell 2
              have f2 := KE.frozen 2
              have d3 : Wb.cell? ⟨eb, 3, none⟩ = some (.int .i64 m7) := by simpa using KE.cell 3
              have f3 := KE.frozen 3
              have hszW : (Wb.setCell ⟨eb, 1, none⟩ (.int .i64 (1 + ta))).heap.size = Wb.heap.size := by simp [World.setCell]
              have hown2 := own_far hown HNB.out 1 (.int .i64 (1 + ta))
              have I2 := I.farE hgeb 1 (.int .i64 (1 + ta))
              clear hown I
              have hown := hown2
              have I := I2
              clear hown2 I2
              go_wp2_with (at_builtin; refine wpList_append_own_at _ rfl (.tmp 85) (.tmp 87) _ rfl w.heap.size 36 i0 _ 4 32 Try.underlying25 HI.out HZ0.out HZ1.out HZ2.out rfl (by omega) (.slice A3 k c3) _ _ rfl (own_alloc hown _) ⟨Wb.heap.size, 0, none⟩ 1 1 [.int .i64 (1 + r), .int .i64 (1 + ta), .int .i64 s7, .int .i64 m7] rfl rfl (by have h := heap_alloc_new (Wb.setCell ⟨eb, 1, none⟩ (.int .i64 (1 + ta))) (.cells #[.int .i64 (1 + r), .int .i64 (1 + ta), .int .i64 s7, .int .i64 m7] 36); rw [hszW] at h; exact World.news_of_block h) (by intro u hu; simp at hu; rcases hu with rfl | rfl | rfl | rfl <;> rfl) (by unfold maxLen; omega) (by omega) (by simp [World.setCell]; omega) ?_; intro v' w14 hown14 hgrow14 hnil14 hat14; clear hnil14 hat14)
              go_roundw
              case rel =>
                have hs14 := hgrow14.size
                simp [World.setCell] at hs14
                refine ⟨k + 1, es ++ [⟨(1 + r), (1 + ta), s7, m7⟩], _, by omega, by go_num, ?_, ?_, by omega, fun z hz => ?_, (I.alloc _).grown hgrow14 (fun x hx => by have := (own_block hown x hx).1; omega), by rw [evCells_app]; exact hown14⟩
                · show (es ++ [_]).length = k + 1
                  rw [List.length_append, HY.out]
                  rfl
                · omega
                · rcases List.mem_append.1 hz with hz | hz
                  · exact HV.out z hz
                  · rw [List.mem_singleton.1 hz]
                    exact HOKE.out
              case measure => simp [intOf]; omega
            have s2 : (sw == 2) = false := by simpa using h2
            clear d0 d1 d2 d3 f0 f1 f2 f3
            have HOKE : Hid (okE ⟨(1 + r), (2 + tt), s7, m7⟩ = true) := (okE_iff _).2 (by simp only; omega)
            have d0 : Wa.cell? ⟨eb, 0, none⟩ = some (.int .i64 (1 + r)) := by simpa using KE.cell 0
            have f0 := KE.frozen 0
            have d1 : Wa.cell? ⟨eb, 1, none⟩ = some (.int .i64 (2 + tt)) := by simpa using KE.cell 1
            have f1 := KE.frozen 1
            have d2 : Wa.cell? ⟨eb, 2, none⟩ = some (.int .i64 s7) := by simpa using KE.cell 2
            have f2 := KE.frozen 2
            have d3 : Wa.cell? ⟨eb, 3, none⟩ = some (.int .i64 m7) := by simpa using KE.cell 3
            have f3 := KE.frozen 3
            go_wp2_with (at_builtin; refine wpList_append_own_at _ rfl (.tmp 85) (.tmp 87) _ rfl w.heap.size 36 i0 _ 4 32 Try.underlying25 HI.out HZ0.out HZ1.out HZ2.out rfl (by omega) (.slice A3 k c3) _ _ rfl (own_alloc hown _) ⟨Wa.heap.size, 0, none⟩ 1 1 [.int .i64 (1 + r), .int .i64 (2 + tt), .int .i64 s7, .int .i64 m7] rfl rfl (World.news_of_block (heap_alloc_new Wa _)) (by intro u hu; simp at hu; rcases hu with rfl | rfl | rfl | rfl <;> rfl) (by unfold maxLen; omega) (by omega) (by simp; omega) ?_; intro v' w14 hown14 hgrow14 hnil14 hat14; clear hnil14 hat14)
            go_roundw
            case rel =>
              have hs14 := hgrow14.size
              simp at hs14
              refine ⟨k + 1, es ++ [⟨(1 + r), (2 + tt), s7, m7⟩], _, by omega, by go_num, ?_, ?_, by omega, fun z hz => ?_, (I.alloc _).grown hgrow14 (fun x hx => by have := (own_block hown x hx).1; omega), by rw [evCells_app]; exact hown14⟩
              · show (es ++ [_]).length = k + 1
                rw [List.length_append, HY.out]
                rfl
              · omega
              · rcases List.mem_append.1 hz with hz | hz
                · exact HV.out z hz
                · rw [List.mem_singleton.1 hz]
                  exact HOKE.out
            case measure => simp [intOf]; omega
        · obtain rfl : nn = (k : Int) := by omega
          by_cases hn0 : 0 < k
          · go_wp2_with fail
            refine (pickI _ I5 (by omega) (by omega)).mono ?_
            rintro e w6 ⟨t6, rfl, t60, t61, I6, G6⟩
            have hs6 := G6.size
            have hown6 := own_grown hown5 G6 hg1
            clear I5 G6 hown5
            by_cases ht6 : t6 = 0
            · subst ht6
              go_wp2_with fail
              refine (pickI _ I6 (by omega) (by omega)).mono ?_
              rintro e w7 ⟨i1, rfl, i10, i11, I7, G7⟩
              have hs7 := G7.size
              have hown7 := own_grown hown6 G7 hg1
              clear I6 G7 hown6
              go_wp2_with fail
              refine (pickI _ I7 (by omega) (by omega)).mono ?_
              rintro e w8 ⟨i2, rfl, i20, i21, I8, G8⟩
              have hs8 := G8.size
              have hown8 := own_grown hown7 G8 hg1
              clear I7 G8 hown7
              go_wp2_with fail
              refine (pickI _ I8 (by omega) (by omega)).mono ?_
              rintro e w9 ⟨i3, rfl, i30, i31, I9, G9⟩
              have hs9 := G9.size
              have hown9 := own_grown hown8 G9 hg1
              clear I8 G9 hown8
              go_wp2_with fail
              refine (pickI _ I9 (by omega) (by omega)).mono ?_
              rintro e w10 ⟨i4, rfl, i40, i41, I10, G10⟩
              have hs10 := G10.size
              have hown10 := own_grown hown9 G10 hg1
              clear I9 G10 hown9
              go_wp2_with fail
              refine (pickI _ I10 (by omega) (by omega)).mono ?_
              rintro e w11 ⟨i5, rfl, i50, i51, I11, G11⟩
              have hs11 := G11.size
              have hown11 := own_grown hown10 G11 hg1
              clear I10 G11 hown10
              obtain ⟨b, cc, rfl, hbb, hc1, hc2⟩ : ∃ b cc, u3 = .slice (some ⟨b, 0, none⟩) k cc ∧ w.heap.size ≤ b ∧ k ≤ cc ∧ cc ≤ maxLen := by
                rcases hown11.2 with ⟨_, h0⟩ | ⟨b, cc, cur, h1, h2, h3, h4, h5, _⟩
                · omega
                · exact ⟨b, cc, h1, h2, h4, h5⟩
              unfold maxLen at hc2
              have hil : i1.toNat < k := by omega
              have hik : i1 < (k : Int) := by omega
              have hpl : i1.toNat < es.length := by rw [HY.out]; exact hil
              have hcell : ∀ j, j < 4 → ∃ u, w11.cell? ⟨b, i1.toNat * 4 + j, none⟩ = some u := fun j hj => by
                rw [hown11.cellAt _ (by omega)]
                exact ⟨_, List.getElem?_eq_getElem (by rw [evCells_len, HY.out]; omega)⟩
              obtain ⟨u0, hu0⟩ := hcell 0 (by omega)
              obtain ⟨u1, hu1⟩ := hcell 1 (by omega)
              obtain ⟨u2, hu2⟩ := hcell 2 (by omega)
              obtain ⟨u3', hu3⟩ := hcell 3 (by omega)
              rw [Nat.add_zero] at hu0
              have fz0 := hown11.frozenAt (i1.toNat * 4)
              have fz1 := hown11.frozenAt (i1.toNat * 4 + 1)
              have fz2 := hown11.frozenAt (i1.toNat * 4 + 2)
              have fz3 := hown11.frozenAt (i1.toNat * 4 + 3)
              have S0 := hown11.stored (i1.toNat * 4) (.int .i64 i2)
              have S1 := S0.1.stored (i1.toNat * 4 + 1) (.int .i64 i3)
              have S2 := S1.1.stored (i1.toNat * 4 + 2) (.int .i64 (i4 * 50))
              have S3 := S2.1.stored (i1.toNat * 4 + 3) (.int .i64 (i5 * 50))
              have HST := Lib.hid S3.1
              have I12 := (((I11.grown S0.2 (fun x hx => by injection hx with hx; omega)).grown S1.2 (fun x hx => by injection hx with hx; omega)).grown S2.2 (fun x hx => by injection hx with hx; omega)).grown S3.2 (fun x hx => by injection hx with hx; omega)
              have HSET := Lib.hid (evCells_set es i1.toNat ⟨i2, i3, i4 * 50, i5 * 50⟩ hpl)
              have HY2 : Hid ((es.set i1.toNat ⟨i2, i3, i4 * 50, i5 * 50⟩).length = k) := by
                show _ = _
                rw [List.length_set]
                exact HY.out
              have hs12 := S0.2.size
              have hs13 := S1.2.size
              have hs14 := S2.2.size
              have hs15 := S3.2.size
              clear hcell S0 S1 S2 S3 hown11 I11
              go_wp2_with fail
              go_ret
              refine ⟨_, es.set i1.toNat ⟨i2, i3, i4 * 50, i5 * 50⟩, k, _, _, rfl, HY2.out, by omega, ?_, I12, by omega, hc1, by unfold maxLen; omega, ?_⟩
              · omega
              · rw [← HSET.out]
                exact HST.out
            · have ht6' : (t6 == 0) = false := by simpa using ht6
              obtain ⟨A', c', hv, hc1, hc2, hlen', hrow'⟩ := own_sliceN hown6
              subst hv
              have HC2 := Lib.hid hc2
              clear hlen' hrow' hc2
              go_wp2_with fail
              go_ret
              exact ⟨_, es, k, _, _, rfl, HY.out, by omega, by omega, I6, by omega, hc1, HC2.out, hown6⟩
          · obtain rfl : k = 0 := by omega
            obtain ⟨A', c', hv, hc1, hc2, hlen', hrow'⟩ := own_sliceN hown5
            subst hv
            have HC2 := Lib.hid hc2
            clear hlen' hrow' hc2
            go_wp2_with fail
            go_ret
            exact ⟨_, es, 0, _, _, rfl, HY.out, by omega, by omega, I5, by omega, hc1, HC2.out, hown5⟩
  · have hr' : (rr == 0) = false := by simpa using hr
    have I4 := I3
    have hown4 := hown3
    have HQ0 : p + 1 + 1 ≤ p + 3 + 8 * 0 := by omega
    clear I3 hown3 hr rr0 rr1
    go_wp2_with fail
    have n0 : 0 ≤ n9 := by omega
    have n1 : n9 ≤ 21 := by omega
    clear n90 n91
    generalize n9 = nn at *
    · skip
      go_loopw [3, 5] (fun s i wx => ∃ (k : Nat) (es : List Ev) (q : Nat), (k : Int) ≤ nn ∧ i = .int .i64 k ∧ Hid (es.length = k) ∧ q ≤ p + 3 + 8 * k ∧ w.heap.size ≤ wx.heap.size ∧ Hid (∀ z ∈ es, okE z = true) ∧ RdI w0 wx g q ∧ wx.ownsRow w.heap.size 36 4 s k (evCells es)) (fun _ i _ => nn.toNat - (intOf i).toNat)
      case atStart => exact ⟨0, [], _, by omega, rfl, rfl, HQ0, by omega, fun z hz => by simp at hz, I4, hown4⟩
      case round =>
        clear I4 hown4
        obtain ⟨k, es, q, hk, rfl, HY, hq, hsz, HV, I5, hown5⟩ := hrel
        by_cases hlt : (k : Int) < nn
        · obtain ⟨A3, c3, rfl, hc31, hc32, _, _⟩ := own_sliceN hown5
          go_wp2_with fail
          refine (pickI _ I5 (by omega) (by omega)).mono ?_
          rintro e w5 ⟨r, rfl, r0, r1, I6, G6⟩
          have hown6 := own_grown hown5 G6 hg1
          have hs6 := G6.size
          clear I5 hown5 G6
          go_wp2_with fail
          refine (sLedgerSealed_any _ _ _ es (1 + r) _ HY.out (by omega) (own_rowN hown6)).mono ?_
          rintro e w6 ⟨rfl, hb7⟩
          have hown7 := own_below hown6 hb7
          have I7 := I6.grown (below_grown hb7 none) (fun x hx => by cases hx)
          have hs7 := hb7.size
          have HSB := Lib.hid (sea_bd es (1 + r))
          clear hown6 I6 hb7
          generalize sea es (1 + r) = sv at *
          obtain ⟨s7, m7, ok7⟩ := sv
          simp only at HSB
          go_wp2_with fail
          refine (pickI _ I7 (by omega) (by omega)).mono ?_
          rintro e w7 ⟨ra, rfl, ra0, ra1, I8, G8⟩
          have hown8 := own_grown hown7 G8 hg1
          have hs8 := G8.size
          clear I7 hown7 G8
          go_wp2_with fail
          refine (pickI _ I8 (by omega) (by omega)).mono ?_
          rintro e w8 ⟨rb, rfl, rb0, rb1, I9, G9⟩
          have hown9 := own_grown hown8 G9 hg1
          have hs9 := G9.size
          clear I8 hown8 G9
          obtain ⟨eb, heb⟩ : ∃ eb, eb = w8.heap.size := ⟨_, rfl⟩
          have HNB : Hid ((Value.slice A3 k c3).ownBlock ≠ some eb) := fun e => by have := (own_block hown9 _ e).2; omega
          have hgeb : g < eb := by omega
          have hebg : eb ≠ g := by omega
          have KE0 : Blk (w8.alloc (.cells #[.int .i64 (1 + r), .int .i64 1, .int .i64 (1 + ra), .int .i64 rb] 36)) eb 36 #[.int .i64 (1 + r), .int .i64 1, .int .i64 (1 + ra), .int .i64 rb] := by rw [heb]; exact Blk.new _ _ _
          have hownE := own_alloc hown9 (.cells #[.int .i64 (1 + r), .int .i64 1, .int .i64 (1 + ra), .int .i64 rb] 36)
          have IE := I9.alloc (.cells #[.int .i64 (1 + r), .int .i64 1, .int .i64 (1 + ra), .int .i64 rb] 36)
          have hsE : (w8.alloc (.cells #[.int .i64 (1 + r), .int .i64 1, .int .i64 (1 + ra), .int .i64 rb] 36)).heap.size = w8.heap.size + 1 := by simp
          have HEB := Lib.hid heb
          clear heb
          cases ok7 with
          | false =>
            clear HSB
            go_wp2_with fail
            rw [← HEB.out]
            have KE := KE0
            have hown := hownE
            have I := IE
            clear KE0 hownE IE I9 hown9
            generalize w8.alloc (.cells #[.int .i64 (1 + r), .int .i64 1, .int .i64 (1 + ra), .int .i64 rb] 36) = We at *
            have hrowS := own_rowN hown
            refine (sl31Gaps_any _ _ _ es _ HY.out (by omega) HV.out hrowS).mono ?_
            rintro e Wg ⟨Ag, kg, cg, rfl, hlg, hkg, hcg, howng, hbg⟩
            have HLG := Lib.hid hlg
            have hkg9 : kg ≤ 30 := by have := gaps_len es k; omega
            have KE' := KE.below_ hbg KE.lt
            have hown' := own_below hown hbg
            have I' := I.grown (below_grown hbg none) (fun x hx => by cases hx)
            have hszg := hbg.size
            have hrowS' := (hrowS.below hbg).more hbg.size
            have hrowG := own_row howng
            clear KE hown I hrowS hlg howng hbg
            have I := I'
            have KE := KE'
            have hown := hown'
            clear I' KE' hown'
            go_wp2_with fail
            refine (sl31Last_any _ k _ es _ kg _ (foll es k).gaps (1 + r) k _ HY.out (by omega) hrowS' HLG.out (by omega) hrowG (Nat.le_refl _)).mono ?_
            rintro e Wl ⟨rfl, hbl⟩
            have KE' := KE.below_ hbl KE.lt
            have hown' := own_below hown hbl
            have I' := I.grown (below_grown hbl none) (fun x hx => by cases hx)
            have hszl := hbl.size
            have hxm := last_bd es HV.out k (1 + r) (by rw [HY.out]; exact Nat.le_refl _)
            clear KE hown I hrowS' hrowG hbl
            have I := I'
            have KE := KE'
            have hown := hown'
            clear I' KE' hown'
            generalize lastL es (foll es k).gaps (1 + r) k = x at *
            obtain ⟨xa, xb, xc, xd⟩ := x
            simp only at hxm
            simp only [evV]
            have d0 : Wl.cell? ⟨eb, 0, none⟩ = some (.int .i64 (1 + r)) := by simpa using KE.cell 0
            have f0 := KE.frozen 0
            have d1 : Wl.cell? ⟨eb, 1, none⟩ = some (.int .i64 1) := by simpa using KE.cell 1
            have f1 := KE.frozen 1
            have d2 : Wl.cell? ⟨eb, 2, none⟩ = some (.int .i64 (1 + ra)) := by simpa using KE.cell 2
            have f2 := KE.frozen 2
            have d3 : Wl.cell? ⟨eb, 3, none⟩ = some (.int .i64 rb) := by simpa using KE.cell 3
            have f3 := KE.frozen 3
            by_cases h3 : xb = 3
            · have q3 : (xb == 3) = true := by simpa using h3
              clear h3
              have dx : (Wl.alloc (.cells #[.int .i64 xa, .int .i64 xb, .int .i64 xc, .int .i64 xd] 36)).cell? ⟨eb, 3, none⟩ = some (.int .i64 rb) := by rw [(KE.alloc (.cells #[.int .i64 xa, .int .i64 xb, .int .i64 xc, .int .i64 xd] 36)).cell 3]; rfl
              have fx := (KE.alloc (.cells #[.int .i64 xa, .int .i64 xb, .int .i64 xc, .int .i64 xd] 36)).frozen 3
              go_wp2_with fail
              clear dx fx
              have KE2 : Blk ((Wl.alloc (.cells #[.int .i64 xa, .int .i64 xb, .int .i64 xc, .int .i64 xd] 36)).setCell ⟨eb, 3, none⟩ (.int .i64 xd)) eb 36 #[.int .i64 (1 + r), .int .i64 1, .int .i64 (1 + ra), .int .i64 xd] := by simpa using (KE.alloc (.cells #[.int .i64 xa, .int .i64 xb, .int .i64 xc, .int .i64 xd] 36)).put 3 (.int .i64 xd)
              have hown2 := own_far (own_alloc hown (.cells #[.int .i64 xa, .int .i64 xb, .int .i64 xc, .int .i64 xd] 36)) HNB.out 3 (.int .i64 xd)
              have I2 := (I.alloc (.cells #[.int .i64 xa, .int .i64 xb, .int .i64 xc, .int .i64 xd] 36)).farE hgeb 3 (.int .i64 xd)
              have hszS : ((Wl.alloc (.cells #[.int .i64 xa, .int .i64 xb, .int .i64 xc, .int .i64 xd] 36)).setCell ⟨eb, 3, none⟩ (.int .i64 xd)).heap.size = Wl.heap.size + 1 := by simp [World.setCell]
              clear KE hown I d0 d1 d2 d3 f0 f1 f2 f3
              generalize (Wl.alloc (.cells #[.int .i64 xa, .int .i64 xb, .int .i64 xc, .int .i64 xd] 36)).setCell ⟨eb, 3, none⟩ (.int .i64 xd) = Wm at *
              have KE := KE2
              have hown := hown2
              have I := I2
              clear KE2 hown2 I2
              refine (pickI _ I (by omega) (by omega)).mono ?_
              rintro e Wa ⟨sw, rfl, sw0, sw1, I', G'⟩
              have KE' := KE.grownS G' hebg
              have hown' := own_grown hown G' hg1
              have hsz_sw := G'.size
              clear I KE hown G'
              have I := I'
              have KE := KE'
              have hown := hown'
              clear I' KE' hown'
              have d0 : Wa.cell? ⟨eb, 0, none⟩ = some (.int .i64 (1 + r)) := by simpa using KE.cell 0
              have f0 := KE.frozen 0
              have d1 : Wa.cell? ⟨eb, 1, none⟩ = some (.int .i64 1) := by simpa using KE.cell 1
              have f1 := KE.frozen 1
              have d2 : Wa.cell? ⟨eb, 2, none⟩ = some (.int .i64 (1 + ra)) := by simpa using KE.cell 2
              have f2 := KE.frozen 2
              have d3 : Wa.cell? ⟨eb, 3, none⟩ = some (.int .i64 xd) := by simpa using KE.cell 3
              have f3 := KE.frozen 3
              by_cases h0 : sw = 0
              · subst h0
                go_wp2_with fail
                clear d0 d1 d2 d3 f0 f1 f2 f3
                refine (pickI _ I (by omega) (by omega)).mono ?_
                rintro e Wb ⟨ta, rfl, ta0, ta1, I', G'⟩
                have KE' := KE.grownS G' hebg
                have hown' := own_grown hown G' hg1
                have hsz_ta := G'.size
                clear I KE hown G'
                have I := I'
                have KE := KE'
                have hown := hown'
                clear I' KE' hown'
                have HOKE : Hid (okE ⟨(1 + r), 1, (1 + ta), xd⟩ = true) := (okE_iff _).2 (by simp only; omega)
                have d0 : Wb.cell? ⟨eb, 0, none⟩ = some (.int .i64 (1 + r)) := by simpa using KE.cell 0
                have f0 := KE.frozen 0
                have d1 : Wb.cell? ⟨eb, 1, none⟩ = some (.int .i64 1) := by simpa using KE.cell 1
                have f1 := KE.frozen 1
                have d2 : Wb.cell? ⟨eb, 2, none⟩ = some (.int .i64 (1 + ra)) := by simpa using KE.cell 2
                have f2 := KE.frozen 2
                have d3 : Wb.cell? ⟨eb, 3, none⟩ = some (.int .i64 xd) := by simpa using KE.cell 3
                have f3 := KE.frozen 3
                have hszW : (Wb.setCell ⟨eb, 2, none⟩ (.int .i64 (1 + ta))).heap.size = Wb.heap.size := by simp [World.setCell]
                have hown2 := own_far hown HNB.out 2 (.int .i64 (1 + ta))
                have I2 := I.farE hgeb 2 (.int .i64 (1 + ta))
                clear hown I
                have hown := hown2
                have I := I2
                clear hown2 I2
                go_wp2_with (at_builtin; refine wpList_append_own_at _ rfl (.tmp 85) (.tmp 87) _ rfl w.heap.size 36 i0 _ 4 32 Try.underlying25 HI.out HZ0.out HZ1.out HZ2.out rfl (by omega) (.slice A3 k c3) _ _ rfl (own_alloc hown _) ⟨Wb.heap.size, 0, none⟩ 1 1 [.int .i64 (1 + r), .int .i64 1, .int .i64 (1 + ta), .int .i64 xd] rfl rfl (by have h := heap_alloc_new (Wb.setCell ⟨eb, 2, none⟩ (.int .i64 (1 + ta))) (.cells #[.int .i64 (1 + r), .int .i64 1, .int .i64 (1 + ta), .int .i64 xd] 36); rw [hszW] at h; exact World.news_of_block h) (by intro u hu; simp at hu; rcases hu with rfl | rfl | rfl | rfl <;> rfl) (by unfold maxLen; omega) (by omega) (by simp [World.setCell]; omega) ?_; intro v' w14 hown14 hgrow14 hnil14 hat14; clear hnil14 hat14)
                go_roundw
                case rel =>
                  have hs14 := hgrow14.size
                  simp [World.setCell] at hs14
                  refine ⟨k + 1, es ++ [⟨(1 + r), 1, (1 + ta), xd⟩], _, by omega, by go_num, ?_, ?_, by omega, fun z hz => ?_, (I.alloc _).grown hgrow14 (fun x hx => by have := (own_block hown x hx).1; omega), by rw [evCells_app]; exact hown14⟩
                  · show (es ++ [_]).length = k + 1
                    rw [List.length_append, HY.out]
                    rfl
                  · omega
                  · rcases List.mem_append.1 hz with hz | hz
                    · exact HV.out z hz
                    · rw [List.mem_singleton.1 hz]
                      exact HOKE.out
                case measure => simp [intOf]; omega
              have s0 : (sw == 0) = false := by simpa using h0
              by_cases h1 : sw = 1
              · subst h1
                go_wp2_with fail
                clear d0 d1 d2 d3 f0 f1 f2 f3
                refine (pickI _ I (by omega) (by omega)).mono ?_
                rintro e Wb ⟨ta, rfl, ta0, ta1, I', G'⟩
                have KE' := KE.grownS G' hebg
                have hown' := own_grown hown G' hg1
                have hsz_ta := G'.size
                clear I KE hown G'
                have I := I'
                have KE := KE'
                have hown := hown'
                clear I' KE' hown'
                have HOKE : Hid (okE ⟨(1 + r), 1, (1 + ra), ta⟩ = true) := (okE_iff _).2 (by simp only; omega)
                have d0 : Wb.cell? ⟨eb, 0, none⟩ = some (.int .i64 (1 + r)) := by simpa using KE.cell 0
                have f0 := KE.frozen 0
                have d1 : Wb.cell? ⟨eb, 1, none⟩ = some (.int .i64 1) := by simpa using KE.cell 1
                have f1 := KE.frozen 1
                have d2 : Wb.cell? ⟨eb, 2, none⟩ = some (.int .i64 (1 + ra)) := by simpa using KE.cell 2
                have f2 := KE.frozen 2
                have d3 : Wb.cell? ⟨eb, 3, none⟩ = some (.int .i64 xd) := by simpa using KE.cell 3
                have f3 := KE.frozen 3
                have hszW : (Wb.setCell ⟨eb, 3, none⟩ (.int .i64 ta)).heap.size = Wb.heap.size := by simp [World.setCell]
                have hown2 := own_far hown HNB.out 3 (.int .i64 ta)
                have I2 := I.farE hgeb 3 (.int .i64 ta)
                clear hown I
                have hown := hown2
                have I := I2
                clear hown2 I2
                go_wp2_with (at_builtin; refine wpList_append_own_at _ rfl (.tmp 85) (.tmp 87) _ rfl w.heap.size 36 i0 _ 4 32 Try.underlying25 HI.out HZ0.out HZ1.out HZ2.out rfl (by omega) (.slice A3 k c3) _ _ rfl (own_alloc hown _) ⟨Wb.heap.size, 0, none⟩ 1 1 [.int .i64 (1 + r), .int .i64 1, .int .i64 (1 + ra), .int .i64 ta] rfl rfl (by have h := heap_alloc_new (Wb.setCell ⟨eb, 3, none⟩ (.int .i64 ta)) (.cells #[.int .i64 (1 + r), .int .i64 1, .int .i64 (1 + ra), .int .i64 ta] 36); rw [hszW] at h; exact World.news_of_block h) (by intro u hu; simp at hu; rcases hu with rfl | rfl | rfl | rfl <;> rfl) (by unfold maxLen; omega) (by omega) (by simp [World.setCell]; omega) ?_; intro v' w14 hown14 hgrow14 hnil14 hat14; clear hnil14 hat14)
                go_roundw
                case rel =>
                  have hs14 := hgrow14.size
                  simp [World.setCell] at hs14
                  refine ⟨k + 1, es ++ [⟨(1 + r), 1, (1 + ra), ta⟩], _, by omega, by go_num, ?_, ?_, by omega, fun z hz => ?_, (I.alloc _).grown hgrow14 (fun x hx => by have := (own_block hown x hx).1; omega), by rw [evCells_app]; exact hown14⟩
                  · show (es ++ [_]).length = k + 1
                    rw [List.length_append, HY.out]
                    rfl
                  · omega
                  · rcases List.mem_append.1 hz with hz | hz
                    · exact HV.out z hz
                    · rw [List.mem_singleton.1 hz]
                      exact HOKE.out
                case measure => simp [intOf]; omega
              have s1 : (sw == 1) = false := by simpa using h1
              by_cases h2 : sw = 2
              · subst h2
                go_wp2_with fail
                clear d0 d1 d2 d3 f0 f1 f2 f3
                refine (pickI _ I (by omega) (by omega)).mono ?_
                rintro e Wb ⟨ta, rfl, ta0, ta1, I', G'⟩
                have KE' := KE.grownS G' hebg
                have hown' := own_grown hown G' hg1
                have hsz_ta := G'.size
                clear I KE hown G'
                have I := I'
                have KE := KE'
                have hown := hown'
                clear I' KE' hown'
                have HOKE : Hid (okE ⟨(1 + r), (1 + ta), (1 + ra), xd⟩ = true) := (okE_iff _).2 (by simp only; omega)
                have d0 : Wb.cell? ⟨eb, 0, none⟩ = some (.int .i64 (1 + r)) := by simpa using KE.cell 0
                have f0 := KE.frozen 0
                have d1 : Wb.cell? ⟨eb, 1, none⟩ = some (.int .i64 1) := by simpa using KE.cell 1
                have f1 := KE.frozen 1
                have d2 : Wb.cell? ⟨eb, 2, none⟩ = some (.int .i64 (1 + ra)) := by simpa using KE.cell 2
                have f2 := KE.frozen 2
                have d3 : Wb.cell? ⟨eb, 3, none⟩ = some (.int .i64 xd) := by simpa using KE.cell 3
                have f3 := KE.frozen 3
                have hszW : (Wb.setCell ⟨eb, 1, none⟩ (.int .i64 (1 + ta))).heap.size = Wb.heap.size := by simp [World.setCell]
                have hown2 := own_far hown HNB.out 1 (.int .i64 (1 + ta))
                have I2 := I.farE hgeb 1 (.int .i64 (1 + ta))
                clear hown I
                have hown := hown2
                have I := I2
                clear hown2 I2
                go_wp2_with (at_builtin; refine wpList_append_own_at _ rfl (.tmp 85) (.tmp 87) _ rfl w.heap.size 36 i0 _ 4 32 Try.underlying25 HI.out HZ0.out HZ1.out HZ2.out rfl (by omega) (.slice A3 k c3) _ _ rfl (own_alloc hown _) ⟨Wb.heap.size, 0, none⟩ 1 1 [.int .i64 (1 + r), .int .i64 (1 + ta), .int .i64 (1 + ra), .int .i64 xd] rfl rfl (by have h := heap_alloc_new (Wb.setCell ⟨eb, 1, none⟩ (.int .i64 (1 + ta))) (.cells #[.int .i64 (1 + r), .int .i64 (1 + ta), .int .i64 (1 + ra), .int .i64 xd] 36); rw [hszW] at h; exact World.news_of_block h) (by intro u hu; simp at hu; rcases hu with rfl | rfl | rfl | rfl <;> rfl) (by unfold maxLen; omega) (by omega) (by simp [World.setCell]; omega) ?_; intro v' w14 hown14 hgrow14 hnil14 hat14; clear hnil14 hat14)
                go_roundw
                case rel =>
                  have hs14 := hgrow14.size
                  simp [World.setCell] at hs14
                  refine ⟨k + 1, es ++ [⟨(1 + r), (1 + ta), (1 + ra), xd⟩], _, by omega, by go_num, ?_, ?_, by omega, fun z hz => ?_, (I.alloc _).grown hgrow14 (fun x hx => by have := (own_block hown x hx).1; omega), by rw [evCells_app]; exact hown14⟩
                  · show (es ++ [_]).length = k + 1
                    rw [List.length_append, HY.out]
                    rfl
                  · omega
                  · rcases List.mem_append.1 hz with hz | hz
                    · exact HV.out z hz
                    · rw [List.mem_singleton.1 hz]
                      exact HOKE.out
                case measure => simp [intOf]; omega
              have s2 : (sw == 2) = false := by simpa using h2
              clear d0 d1 d2 d3 f0 f1 f2 f3
              have HOKE : Hid (okE ⟨(1 + r), 1, (1 + ra), xd⟩ = true) := (okE_iff _).2 (by simp only; omega)
              have d0 : Wa.cell? ⟨eb, 0, none⟩ = some (.int .i64 (1 + r)) := by simpa using KE.cell 0
              have f0 := KE.frozen 0
              have d1 : Wa.cell? ⟨eb, 1, none⟩ = some (.int .i64 1) := by simpa using KE.cell 1
              have f1 := KE.frozen 1
              have d2 : Wa.cell? ⟨eb, 2, none⟩ = some (.int .i64 (1 + ra)) := by simpa using KE.cell 2
              have f2 := KE.frozen 2
              have d3 : Wa.cell? ⟨eb, 3, none⟩ = some (.int .i64 xd) := by simpa using KE.cell 3
              have f3 := KE.frozen 3
              go_wp2_with (at_builtin; refine wpList_append_own_at _ rfl (.tmp 85) (.tmp 87) _ rfl w.heap.size 36 i0 _ 4 32 Try.underlying25 HI.out HZ0.out HZ1.out HZ2.out rfl (by omega) (.slice A3 k c3) _ _ rfl (own_alloc hown _) ⟨Wa.heap.size, 0, none⟩ 1 1 [.int .i64 (1 + r), .int .i64 1, .int .i64 (1 + ra), .int .i64 xd] rfl rfl (World.news_of_block (heap_alloc_new Wa _)) (by intro u hu; simp at hu; rcases hu with rfl | rfl | rfl | rfl <;> rfl) (by unfold maxLen; omega) (by omega) (by simp; omega) ?_; intro v' w14 hown14 hgrow14 hnil14 hat14; clear hnil14 hat14)
              go_roundw
              case rel =>
                have hs14 := hgrow14.size
                simp at hs14
                refine ⟨k + 1, es ++ [⟨(1 + r), 1, (1 + ra), xd⟩], _, by omega, by go_num, ?_, ?_, by omega, fun z hz => ?_, (I.alloc _).grown hgrow14 (fun x hx => by have := (own_block hown x hx).1; omega), by rw [evCells_app]; exact hown14⟩
                · show (es ++ [_]).length = k + 1
                  rw [List.length_append, HY.out]
                  rfl
                · omega
                · rcases List.mem_append.1 hz with hz | hz
                  · exact HV.out z hz
                  · rw [List.mem_singleton.1 hz]
                    exact HOKE.out
              case measure => simp [intOf]; omega
            have q3 : (xb == 3) = false := by simpa using h3
            clear h3
            go_wp2_with fail
            have KE2 := KE.alloc (.cells #[.int .i64 xa, .int .i64 xb, .int .i64 xc, .int .i64 xd] 36)
            have hown2 := own_alloc hown (.cells #[.int .i64 xa, .int .i64 xb, .int .i64 xc, .int .i64 xd] 36)
            have I2 := I.alloc (.cells #[.int .i64 xa, .int .i64 xb, .int .i64 xc, .int .i64 xd] 36)
            have hszS : (Wl.alloc (.cells #[.int .i64 xa, .int .i64 xb, .int .i64 xc, .int .i64 xd] 36)).heap.size = Wl.heap.size + 1 := by simp
            clear KE hown I d0 d1 d2 d3 f0 f1 f2 f3
            generalize Wl.alloc (.cells #[.int .i64 xa, .int .i64 xb, .int .i64 xc, .int .i64 xd] 36) = Wm at *
            have KE := KE2
            have hown := hown2
            have I := I2
            clear KE2 hown2 I2
            refine (pickI _ I (by omega) (by omega)).mono ?_
            rintro e Wa ⟨sw, rfl, sw0, sw1, I', G'⟩
            have KE' := KE.grownS G' hebg
            have hown' := own_grown hown G' hg1
            have hsz_sw := G'.size
            clear I KE hown G'
            have I := I'
            have KE := KE'
            have hown := hown'
            clear I' KE' hown'
            have d0 : Wa.cell? ⟨eb, 0, none⟩ = some (.int .i64 (1 + r)) := by simpa using KE.cell 0
            have f0 := KE.frozen 0
            have d1 : Wa.cell? ⟨eb, 1, none⟩ = some (.int .i64 1) := by simpa using KE.cell 1
            have f1 := KE.frozen 1
            have d2 : Wa.cell? ⟨eb, 2, none⟩ = some (.int .i64 (1 + ra)) := by simpa using KE.cell 2
            have f2 := KE.frozen 2
            have d3 : Wa.cell? ⟨eb, 3, none⟩ = some (.int .i64 rb) := by simpa using KE.cell 3
            have f3 := KE.frozen 3
            by_cases h0 : sw = 0
            · subst h0
              go_wp2_with fail
              clear d0 d1 d2 d3 f0 f1 f2 f3
              refine (pickI _ I (by omega) (by omega)).mono ?_
              rintro e Wb ⟨ta, rfl, ta0, ta1, I', G'⟩
              have KE' := KE.grownS G' hebg
              have hown' := own_grown hown G' hg1
              have hsz_ta := G'.size
              clear I KE hown G'
              have I := I'
              have KE := KE'
              have hown := hown'
              clear I' KE' hown'
              have HOKE : Hid (okE ⟨(1 + r), 1, (1 + ta), rb⟩ = true) := (okE_iff _).2 (by simp only; omega)
              have d0 : Wb.cell? ⟨eb, 0, none⟩ = some (.int .i64 (1 + r)) := by simpa using KE.cell 0
              have f0 := KE.frozen 0
              have d1 : Wb.cell? ⟨eb, 1, none⟩ = some (.int .i64 1) := by simpa using KE.cell 1
              have f1 := KE.frozen 1
              have d2 : Wb.cell? ⟨eb, 2, none⟩ = some (.int .i64 (1 + ra)) := by simpa using KE.cell 2
              have f2 := KE.frozen 2
              have d3 : Wb.cell? ⟨eb, 3, none⟩ = some (.int .i64 rb) := by simpa using KE.cell 3
              have f3 := KE.frozen 3
              have hszW : (Wb.setCell ⟨eb, 2, none⟩ (.int .i64 (1 + ta))).heap.size = Wb.heap.size := by simp [World.setCell]
              have hown2 := own_far hown HNB.out 2 (.int .i64 (1 + ta))
              have I2 := I.farE hgeb 2 (.int .i64 (1 + ta))
              clear hown I
              have hown := hown2
              have I := I2
              clear hown2 I2
              go_wp2_with (at_builtin; refine wpList_append_own_at _ rfl (.tmp 85) (.tmp 87) _ rfl w.heap.size 36 i0 _ 4 32 Try.underlying25 HI.out HZ0.out HZ1.out HZ2.out rfl (by omega) (.slice A3 k c3) _ _ rfl (own_alloc hown _) ⟨Wb.heap.size, 0, none⟩ 1 1 [.int .i64 (1 + r), .int .i64 1, .int .i64 (1 + ta), .int .i64 rb] rfl rfl (by have h := heap_alloc_new (Wb.setCell ⟨eb, 2, none⟩ (.int .i64 (1 + ta))) (.cells #[.int .i64 (1 + r), .int .i64 1, .int .i64 (1 + ta), .int .i64 rb] 36); rw [hszW] at h; exact World.news_of_block h) (by intro u hu; simp at hu; rcases hu with rfl | rfl | rfl | rfl <;> rfl) (by unfold maxLen; omega) (by omega) (by simp [World.setCell]; omega) ?_; intro v' w14 hown14 hgrow14 hnil14 hat14; clear hnil14 hat14)
              go_roundw
              case rel =>
                have hs14 := hgrow14.size
                simp [World.setCell] at hs14
                refine ⟨k + 1, es ++ [⟨(1 + r), 1, (1 + ta), rb⟩], _, by omega, by go_num, ?_, ?_, by omega, fun z hz => ?_, (I.alloc _).grown hgrow14 (fun x hx => by have := (own_block hown x hx).1; omega), by rw [evCells_app]; exact hown14⟩
                · show (es ++ [_]).length = k + 1
                  rw [List.length_append, HY.out]
                  rfl
                · omega
                · rcases List.mem_append.1 hz with hz | hz
                  · exact HV.out z hz
                  · rw [List.mem_singleton.1 hz]
                    exact HOKE.out
              case measure => simp [intOf]; omega
            have s0 : (sw == 0) = false := by simpa using h0
            by_cases h1 : sw = 1
            · subst h1
              go_wp2_with fail
              clear d0 d1 d2 d3 f0 f1 f2 f3
              refine (pickI _ I (by omega) (by omega)).mono ?_
              rintro e Wb ⟨ta, rfl, ta0, ta1, I', G'⟩
              have KE' := KE.grownS G' hebg
              have hown' := own_grown hown G' hg1
              have hsz_ta := G'.size
              clear I KE hown G'
              have I := I'
              have KE := KE'
              have hown := hown'
              clear I' KE' hown'
              have HOKE : Hid (okE ⟨(1 + r), 1, (1 + ra), ta⟩ = true) := (okE_iff _).2 (by simp only; omega)
              have d0 : Wb.cell? ⟨eb, 0, none⟩ = some (.int .i64 (1 + r)) := by simpa using KE.cell 0
              have f0 := KE.frozen 0
              have d1 : Wb.cell? ⟨eb, 1, none⟩ = some (.int .i64 1) := by simpa using KE.cell 1
              have f1 := KE.frozen 1
              have d2 : Wb.cell? ⟨eb, 2, none⟩ = some (.int .i64 (1 + ra)) := by simpa using KE.cell 2
              have f2 := KE.frozen 2
              have d3 : Wb.cell? ⟨eb, 3, none⟩ = some (.int .i64 rb) := by simpa using KE.cell 3
              have f3 := KE.frozen 3
              have hszW : (Wb.setCell ⟨eb, 3, none⟩ (.int .i64 ta)).heap.size = Wb.heap.size := by simp [World.setCell]
              have hown2 := own_far hown HNB.out 3 (.int .i64 ta)
              have I2 := I.farE hgeb 3 (.int .i64 ta)
              clear hown I
              have hown := hown2
              have I := I2
              clear hown2 I2
              go_wp2_with (at_builtin; refine wpList_append_own_at _ rfl (.tmp 85) (.tmp 87) _ rfl w.heap.size 36 i0 _ 4 32 Try.underlying25 HI.out HZ0.out HZ1.out HZ2.out rfl (by omega) (.slice A3 k c3) _ _ rfl (own_alloc hown _) ⟨Wb.heap.size, 0, none⟩ 1 1 [.int .i64 (1 + r), .int .i64 1, .int .i64 (1 + ra), .int .i64 ta] rfl rfl (by have h := heap_alloc_new (Wb.setCell ⟨eb, 3, none⟩ (.int .i64 ta)) (.cells #[.int .i64 (1 + r), .int .i64 1, .int .i64 (1 + ra), .int .i64 ta] 36); rw [hszW] at h; exact World.news_of_block h) (by intro u hu; simp at hu; rcases hu with rfl | rfl | rfl | rfl <;> rfl) (by unfold maxLen; omega) (by omega) (by simp [World.setCell]; omega) ?_; intro v' w14 hown14 hgrow14 hnil14 hat14; clear hnil14 hat14)
              go_roundw
              case rel =>
                have hs14 := hgrow14.size
                simp [World.setCell] at hs14
                refine ⟨k + 1, es ++ [⟨(1 + r), 1, (1 + ra), ta⟩], _, by omega, by go_num, ?_, ?_, by omega, fun z hz => ?_, (I.alloc _).grown hgrow14 (fun x hx => by have := (own_block hown x hx).1; omega), by rw [evCells_app]; exact hown14⟩
                · show (es ++ [_]).length = k + 1
                  rw [List.length_append, HY.out]
                  rfl
                · omega
                · rcases List.mem_append.1 hz with hz | hz
                  · exact HV.out z hz
                  · rw [List.mem_singleton.1 hz]
                    exact HOKE.out
              case measure => simp [intOf]; omega
            have s1 : (sw == 1) = false := by simpa using h1
            by_cases h2 : sw = 2
            · subst h2
              go_wp2_with fail
              clear d0 d1 d2 d3 f0 f1 f2 f3
              refine (pickI _ I (by omega) (by omega)).mono ?_
              rintro e Wb ⟨ta, rfl, ta0, ta1, I', G'⟩
              have KE' := KE.grownS G' hebg
              have hown' := own_grown hown G' hg1
              have hsz_ta := G'.size
              clear I KE hown G'
              have I := I'
              have KE := KE'
              have hown := hown'
              clear I' KE' hown'
              have HOKE : Hid (okE ⟨(1 + r), (1 + ta), (1 + ra), rb⟩ = true) := (okE_iff _).2 (by simp only; omega)
              have d0 : Wb.cell? ⟨eb, 0, none⟩ = some (.int .i64 (1 + r)) := by simpa using KE.cell 0
              have f0 := KE.frozen 0
              have d1 : Wb.cell? ⟨eb, 1, none⟩ = some (.int .i64 1) := by simpa using KE.cell 1
              have f1 := KE.frozen 1
              have d2 : Wb.cell? ⟨eb, 2, none⟩ = some (.int .i64 (1 + ra)) := by simpa using KE.cell 2
              have f2 := KE.frozen 2
              have d3 : Wb.cell? ⟨eb, 3, none⟩ = some (.int .i64 rb) := by simpa using KE.cell 3
              have f3 := KE.frozen 3
              have hszW : (Wb.setCell ⟨eb, 1, none⟩ (.int .i64 (1 + ta))).heap.size = Wb.heap.size := by simp [World.setCell]
              have hown2 := own_far hown HNB.out 1 (.int .i64 (1 + ta))
              have I2 := I.farE hgeb 1 (.int .i64 (1 + ta))
              clear hown I
              have hown := hown2
              have I := I2
              clear hown2 I2
              go_wp2_with (at_builtin; refine wpList_append_own_at _ rfl (.tmp 85) (.tmp 87) _ rfl w.heap.size 36 i0 _ 4 32 Try.underlying25 HI.out HZ0.out HZ1.out HZ2.out rfl (by omega) (.slice A3 k c3) _ _ rfl (own_alloc hown _) ⟨Wb.heap.size, 0, none⟩ 1 1 [.int .i64 (1 + r), .int .i64 (1 + ta), .int .i64 (1 + ra), .int .i64 rb] rfl rfl (by have h := heap_alloc_new (Wb.setCell ⟨eb, 1, none⟩ (.int .i64 (1 + ta))) (.cells #[.int .i64 (1 + r), .int .i64 (1 + ta), .int .i64 (1 + ra), .int .i64 rb] 36); rw [hszW] at h; exact World.news_of_block h) (by intro u hu; simp at hu; rcases hu with rfl | rfl | rfl | rfl <;> rfl) (by unfold maxLen; omega) (by omega) (by simp [World.setCell]; omega) ?_; intro v' w14 hown14 hgrow14 hnil14 hat14; clear hnil14 hat14)
              go_roundw
              case rel =>
                have hs14 := hgrow14.size
                simp [World.setCell] at hs14
                refine ⟨k + 1, es ++ [⟨(1 + r), (1 + ta), (1 + ra), rb⟩], _, by omega, by go_num, ?_, ?_, by omega, fun z hz => ?_, (I.alloc _).grown hgrow14 (fun x hx => by have := (own_block hown x hx).1; omega), by rw [evCells_app]; exact hown14⟩
                · show (es ++ [_]).length = k + 1
                  rw [List.length_append, HY.out]
                  rfl
                · omega
                · rcases List.mem_append.1 hz with hz | hz
                  · exact HV.out z hz
                  · rw [List.mem_singleton.1 hz]
                    exact HOKE.out
              case measure => simp [intOf]; omega
            have s2 : (sw == 2) = false := by simpa using h2
            clear d0 d1 d2 d3 f0 f1 f2 f3
            have HOKE : Hid (okE ⟨(1 + r), 1, (1 + ra), rb⟩ = true) := (okE_iff _).2 (by simp only; omega)
            have d0 : Wa.cell? ⟨eb, 0, none⟩ = some (.int .i64 (1 + r)) := by simpa using KE.cell 0
            have f0 := KE.frozen 0
            have d1 : Wa.cell? ⟨eb, 1, none⟩ = some (.int .i64 1) := by simpa using KE.cell 1
            have f1 := KE.frozen 1
            have d2 : Wa.cell? ⟨eb, 2, none⟩ = some (.int .i64 (1 + ra)) := by simpa using KE.cell 2
            have f2 := KE.frozen 2
            have d3 : Wa.cell? ⟨eb, 3, none⟩ = some (.int .i64 rb) := by simpa using KE.cell 3
            have f3 := KE.frozen 3
            go_wp2_with (at_builtin; refine wpList_append_own_at _ rfl (.tmp 85) (.tmp 87) _ rfl w.heap.size 36 i0 _ 4 32 Try.underlying25 HI.out HZ0.out HZ1.out HZ2.out rfl (by omega) (.slice A3 k c3) _ _ rfl (own_alloc hown _) ⟨Wa.heap.size, 0, none⟩ 1 1 [.int .i64 (1 + r), .int .i64 1, .int .i64 (1 + ra), .int .i64 rb] rfl rfl (World.news_of_block (heap_alloc_new Wa _)) (by intro u hu; simp at hu; rcases hu with rfl | rfl | rfl | rfl <;> rfl) (by unfold maxLen; omega) (by omega) (by simp; omega) ?_; intro v' w14 hown14 hgrow14 hnil14 hat14; clear hnil14 hat14)
            go_roundw
            case rel =>
              have hs14 := hgrow14.size
              simp at hs14
              refine ⟨k + 1, es ++ [⟨(1 + r), 1, (1 + ra), rb⟩], _, by omega, by go_num, ?_, ?_, by omega, fun z hz => ?_, (I.alloc _).grown hgrow14 (fun x hx => by have := (own_block hown x hx).1; omega), by rw [evCells_app]; exact hown14⟩
              · show (es ++ [_]).length = k + 1
                rw [List.length_append, HY.out]
                rfl
              · omega
              · rcases List.mem_append.1 hz with hz | hz
                · exact HV.out z hz
                · rw [List.mem_singleton.1 hz]
                  exact HOKE.out
            case measure => simp [intOf]; omega
          | true =>
            have hsb := HSB.out rfl
            go_wp2_with fail
            rw [← HEB.out]
            have KE := KE0
            have hown := hownE
            have I := IE
            clear KE0 hownE IE I9 hown9
            generalize w8.alloc (.cells #[.int .i64 (1 + r), .int .i64 1, .int .i64 (1 + ra), .int .i64 rb] 36) = We at *
            refine (pickI _ I (by omega) (by omega)).mono ?_
            rintro e Wt ⟨tt, rfl, tt0, tt1, I', G'⟩
            have KE' := KE.grownS G' hebg
            have hown' := own_grown hown G' hg1
            have hsz_tt := G'.size
            clear I KE hown G'
            have I := I'
            have KE := KE'
            have hown := hown'
            clear I' KE' hown'
            have d0 : Wt.cell? ⟨eb, 0, none⟩ = some (.int .i64 (1 + r)) := by simpa using KE.cell 0
            have f0 := KE.frozen 0
            have d1 : Wt.cell? ⟨eb, 1, none⟩ = some (.int .i64 1) := by simpa using KE.cell 1
            have f1 := KE.frozen 1
            have d2 : Wt.cell? ⟨eb, 2, none⟩ = some (.int .i64 (1 + ra)) := by simpa using KE.cell 2
            have f2 := KE.frozen 2
            have d3 : Wt.cell? ⟨eb, 3, none⟩ = some (.int .i64 rb) := by simpa using KE.cell 3
            have f3 := KE.frozen 3
            go_wp2_with fail
            clear d0 d1 d2 d3 f0 f1 f2 f3
            have KE2 : Blk ((((Wt.setCell ⟨eb, 0, none⟩ (.int .i64 (1 + r))).setCell ⟨eb, 1, none⟩ (.int .i64 (2 + tt))).setCell ⟨eb, 2, none⟩ (.int .i64 s7)).setCell ⟨eb, 3, none⟩ (.int .i64 m7)) eb 36 #[.int .i64 (1 + r), .int .i64 (2 + tt), .int .i64 s7, .int .i64 m7] := by
              have h := (((KE.put 0 (.int .i64 (1 + r))).put 1 (.int .i64 (2 + tt))).put 2 (.int .i64 s7)).put 3 (.int .i64 m7)
              simpa using h
            have hown2 := own_far (own_far (own_far (own_far hown HNB.out 0 (.int .i64 (1 + r))) HNB.out 1 (.int .i64 (2 + tt))) HNB.out 2 (.int .i64 s7)) HNB.out 3 (.int .i64 m7)
            have I2 := (((I.farE hgeb 0 (.int .i64 (1 + r))).farE hgeb 1 (.int .i64 (2 + tt))).farE hgeb 2 (.int .i64 s7)).farE hgeb 3 (.int .i64 m7)
            have hszS : ((((Wt.setCell ⟨eb, 0, none⟩ (.int .i64 (1 + r))).setCell ⟨eb, 1, none⟩ (.int .i64 (2 + tt))).setCell ⟨eb, 2, none⟩ (.int .i64 s7)).setCell ⟨eb, 3, none⟩ (.int .i64 m7)).heap.size = Wt.heap.size := by simp [World.setCell]
            clear KE hown I
            generalize (((Wt.setCell ⟨eb, 0, none⟩ (.int .i64 (1 + r))).setCell ⟨eb, 1, none⟩ (.int .i64 (2 + tt))).setCell ⟨eb, 2, none⟩ (.int .i64 s7)).setCell ⟨eb, 3, none⟩ (.int .i64 m7) = Wu at *
            have KE := KE2
            have hown := hown2
            have I := I2
            clear KE2 hown2 I2
            have hrowS := own_rowN hown
            refine (sl31Gaps_any _ _ _ es _ HY.out (by omega) HV.out hrowS).mono ?_
            rintro e Wg ⟨Ag, kg, cg, rfl, hlg, hkg, hcg, howng, hbg⟩
            have HLG := Lib.hid hlg
            have hkg9 : kg ≤ 30 := by have := gaps_len es k; omega
            have KE' := KE.below_ hbg KE.lt
            have hown' := own_below hown hbg
            have I' := I.grown (below_grown hbg none) (fun x hx => by cases hx)
            have hszg := hbg.size
            have hrowS' := (hrowS.below hbg).more hbg.size
            have hrowG := own_row howng
            clear KE hown I hrowS hlg howng hbg
            have I := I'
            have KE := KE'
            have hown := hown'
            clear I' KE' hown'
            go_wp2_with fail
            refine (sl31Last_any _ k _ es _ kg _ (foll es k).gaps (1 + r) k _ HY.out (by omega) hrowS' HLG.out (by omega) hrowG (Nat.le_refl _)).mono ?_
            rintro e Wl ⟨rfl, hbl⟩
            have KE' := KE.below_ hbl KE.lt
            have hown' := own_below hown hbl
            have I' := I.grown (below_grown hbl none) (fun x hx => by cases hx)
            have hszl := hbl.size
            have hxm := last_bd es HV.out k (1 + r) (by rw [HY.out]; exact Nat.le_refl _)
            clear KE hown I hrowS' hrowG hbl
            have I := I'
            have KE := KE'
            have hown := hown'
            clear I' KE' hown'
            generalize lastL es (foll es k).gaps (1 + r) k = x at *
            obtain ⟨xa, xb, xc, xd⟩ := x
            simp only at hxm
            simp only [evV]
            have d0 : Wl.cell? ⟨eb, 0, none⟩ = some (.int .i64 (1 + r)) := by simpa using KE.cell 0
            have f0 := KE.frozen 0
            have d1 : Wl.cell? ⟨eb, 1, none⟩ = some (.int .i64 (2 + tt)) := by simpa using KE.cell 1
            have f1 := KE.frozen 1
            have d2 : Wl.cell? ⟨eb, 2, none⟩ = some (.int .i64 s7) := by simpa using KE.cell 2
            have f2 := KE.frozen 2
            have d3 : Wl.cell? ⟨eb, 3, none⟩ = some (.int .i64 m7) := by simpa using KE.cell 3
            have f3 := KE.frozen 3
            by_cases h3 : xb = 3
            · have q3 : (xb == 3) = true := by simpa using h3
              clear h3
              have dx : (Wl.alloc (.cells #[.int .i64 xa, .int .i64 xb, .int .i64 xc, .int .i64 xd] 36)).cell? ⟨eb, 3, none⟩ = some (.int .i64 m7) := by rw [(KE.alloc (.cells #[.int .i64 xa, .int .i64 xb, .int .i64 xc, .int .i64 xd] 36)).cell 3]; rfl
              have fx := (KE.alloc (.cells #[.int .i64 xa, .int .i64 xb, .int .i64 xc, .int .i64 xd] 36)).frozen 3
              go_wp2_with fail
              clear dx fx
              have KE2 : Blk ((Wl.alloc (.cells #[.int .i64 xa, .int .i64 xb, .int .i64 xc, .int .i64 xd] 36)).setCell ⟨eb, 3, none⟩ (.int .i64 xd)) eb 36 #[.int .i64 (1 + r), .int .i64 (2 + tt), .int .i64 s7, .int .i64 xd] := by simpa using (KE.alloc (.cells #[.int .i64 xa, .int .i64 xb, .int .i64 xc, .int .i64 xd] 36)).put 3 (.int .i64 xd)
              have hown2 := own_far (own_alloc hown (.cells #[.int .i64 xa, .int .i64 xb, .int .i64 xc, .int .i64 xd] 36)) HNB.out 3 (.int .i64 xd)
              have I2 := (I.alloc (.cells #[.int .i64 xa, .int .i64 xb, .int .i64 xc, .int .i64 xd] 36)).farE hgeb 3 (.int .i64 xd)
              have hszS : ((Wl.alloc (.cells #[.int .i64 xa, .int .i64 xb, .int .i64 xc, .int .i64 xd] 36)).setCell ⟨eb, 3, none⟩ (.int .i64 xd)).heap.size = Wl.heap.size + 1 := by simp [World.setCell]
              clear KE hown I d0 d1 d2 d3 f0 f1 f2 f3
              generalize (Wl.alloc (.cells #[.int .i64 xa, .int .i64 xb, .int .i64 xc, .int .i64 xd] 36)).setCell ⟨eb, 3, none⟩ (.int .i64 xd) = Wm at *
              have KE := KE2
              have hown := hown2
              have I := I2
              clear KE2 hown2 I2
              refine (pickI _ I (by omega) (by omega)).mono ?_
              rintro e Wa ⟨sw, rfl, sw0, sw1, I', G'⟩
              have KE' := KE.grownS G' hebg
              have hown' := own_grown hown G' hg1
              have hsz_sw := G'.size
              clear I KE hown G'
              have I := I'
              have KE := KE'
              have hown := hown'
              clear I' KE' hown'
              have d0 : Wa.cell? ⟨eb, 0, none⟩ = some (.int .i64 (1 + r)) := by simpa using KE.cell 0
              have f0 := KE.frozen 0
              have d1 : Wa.cell? ⟨eb, 1, none⟩ = some (.int .i64 (2 + tt)) := by simpa using KE.cell 1
              have f1 := KE.frozen 1
              have d2 : Wa.cell? ⟨eb, 2, none⟩ = some (.int .i64 s7) := by simpa using KE.cell 2
              have f2 := KE.frozen 2
              have d3 : Wa.cell? ⟨eb, 3, none⟩ = some (.int .i64 xd) := by simpa using KE.cell 3
              have f3 := KE.frozen 3
              by_cases h0 : sw = 0
              · subst h0
                go_wp2_with fail
                clear d0 d1 d2 d3 f0 f1 f2 f3
                refine (pickI _ I (by omega) (by omega)).mono ?_
                rintro e Wb ⟨ta, rfl, ta0, ta1, I', G'⟩
                have KE' := KE.grownS G' hebg
                have hown' := own_grown hown G' hg1
                have hsz_ta := G'.size
                clear I KE hown G'
                have I := I'
                have KE := KE'
                have hown := hown'
                clear I' KE' hown'
                have HOKE : Hid (okE ⟨(1 + r), (2 + tt), (1 + ta), xd⟩ = true) := (okE_iff _).2 (by simp only; omega)
                have d0 : Wb.cell? ⟨eb, 0, none⟩ = some (.int .i64 (1 + r)) := by simpa using KE.cell 0
                have f0 := KE.frozen 0
                have d1 : Wb.cell? ⟨eb, 1, none⟩ = some (.int .i64 (2 + tt)) := by simpa using KE.cell 1
                have f1 := KE.frozen 1
                have d2 : Wb.cell? ⟨eb, 2, none⟩ = some (.int .i64 s7) := by simpa using KE.cell 2
                have f2 := KE.frozen 2
                have d3 : Wb.cell? ⟨eb, 3, none⟩ = some (.int .i64 xd) := by simpa using KE.cell 3
                have f3 := KE.frozen 3
                have hszW : (Wb.setCell ⟨eb, 2, none⟩ (.int .i64 (1 + ta))).heap.size = Wb.heap.size := by simp [World.setCell]
                have hown2 := own_far hown HNB.out 2 (.int .i64 (1 + ta))
                have I2 := I.farE hgeb 2 (.int .i64 (1 + ta))
                clear hown I
                have hown := hown2
                have I := I2
                clear hown2 I2
                go_wp2_with (at_builtin; refine wpList_append_own_at _ rfl (.tmp 85) (.tmp 87) _ rfl w.heap.size 36 i0 _ 4 32 Try.underlying25 HI.out HZ0.out HZ1.out HZ2.out rfl (by omega) (.slice A3 k c3) _ _ rfl (own_alloc hown _) ⟨Wb.heap.size, 0, none⟩ 1 1 [.int .i64 (1 + r), .int .i64 (2 + tt), .int .i64 (1 + ta), .int .i64 xd] rfl rfl (by have h := heap_alloc_new (Wb.setCell ⟨eb, 2, none⟩ (.int .i64 (1 + ta))) (.cells #[.int .i64 (1 + r), .int .i64 (2 + tt), .int .i64 (1 + ta), .int .i64 xd] 36); rw [hszW] at h; exact World.news_of_block h) (by intro u hu; simp at hu; rcases hu with rfl | rfl | rfl | rfl <;> rfl) (by unfold maxLen; omega) (by omega) (by simp [World.setCell]; omega) ?_; intro v' w14 hown14 hgrow14 hnil14 hat14; clear hnil14 hat14)
                go_roundw
                case rel =>
                  have hs14 := hgrow14.size
                  simp [World.setCell] at hs14
                  refine ⟨k + 1, es ++ [⟨(1 + r), (2 + tt), (1 + ta), xd⟩], _, by omega, by go_num, ?_, ?_, by omega, fun z hz => ?_, (I.alloc _).grown hgrow14 (fun x hx => by have := (own_block hown x hx).1; omega), by rw [evCells_app]; exact hown14⟩
                  · show (es ++ [_]).length = k + 1
                    rw [List.length_append, HY.out]
                    rfl
                  · omega
                  · rcases List.mem_append.1 hz with hz | hz
                    · exact HV.out z hz
                    · rw [List.mem_singleton.1 hz]
                      exact HOKE.out
                case measure => simp [intOf]; omega
              have s0 : (sw == 0) = false := by simpa using h0
              by_cases h1 : sw = 1
              · subst h1
                go_wp2_with fail
                clear d0 d1 d2 d3 f0 f1 f2 f3
                refine (pickI _ I (by omega) (by omega)).mono ?_
                rintro e Wb ⟨ta, rfl, ta0, ta1, I', G'⟩
                have KE' := KE.grownS G' hebg
                have hown' := own_grown hown G' hg1
                have hsz_ta := G'.size
                clear I KE hown G'
                have I := I'
                have KE := KE'
                have hown := hown'
                clear I' KE' hown'
                have HOKE : Hid (okE ⟨(1 + r), (2 + tt), s7, ta⟩ = true) := (okE_iff _).2 (by simp only; omega)
                have d0 : Wb.cell? ⟨eb, 0, none⟩ = some (.int .i64 (1 + r)) := by simpa using KE.cell 0
                have f0 := KE.frozen 0
                have d1 : Wb.cell? ⟨eb, 1, none⟩ = some (.int .i64 (2 + tt)) := by simpa using KE.cell 1
                have f1 := KE.frozen 1
                have d2 : Wb.cell? ⟨eb, 2, none⟩ = some (.int .i64 s7) := by simpa using KE.cell 2
                have f2 := KE.frozen 2
                have d3 : Wb.cell? ⟨eb, 3, none⟩ = some (.int .i64 xd) := by simpa using KE.cell 3
                have f3 := KE.frozen 3
                have hszW : (Wb.setCell ⟨eb, 3, none⟩ (.int .i64 ta)).heap.size = Wb.heap.size := by simp [World.setCell]
                have hown2 := own_far hown HNB.out 3 (.int .i64 ta)
                have I2 := I.farE hgeb 3 (.int .i64 ta)
                clear hown I
                have hown := hown2
                have I := I2
                clear hown2 I2
                go_wp2_with (at_builtin; refine wpList_append_own_at _ rfl (.tmp 85) (.tmp 87) _ rfl w.heap.size 36 i0 _ 4 32 Try.underlying25 HI.out HZ0.out HZ1.out HZ2.out rfl (by omega) (.slice A3 k c3) _ _ rfl (own_alloc hown _) ⟨Wb.heap.size, 0, none⟩ 1 1 [.int .i64 (1 + r), .int .i64 (2 + tt), .int .i64 s7, .int .i64 ta] rfl rfl (by have h := heap_alloc_new (Wb.setCell ⟨eb, 3, none⟩ (.int .i64 ta)) (.cells #[.int .i64 (1 + r), .int .i64 (2 + tt), .int .i64 s7, .int .i64 ta] 36); rw [hszW] at h; exact World.news_of_block h) (by intro u hu; simp at hu; rcases hu with rfl | rfl | rfl | rfl <;> rfl) (by unfold maxLen; omega) (by omega) (by simp [World.setCell]; omega) ?_; intro v' w14 hown14 hgrow14 hnil14 hat14; clear hnil14 hat14)
                go_roundw
                case rel =>
                  have hs14 := hgrow14.size
                  simp [World.setCell] at hs14
                  refine ⟨k + 1, es ++ [⟨(1 + r), (2 + tt), s7, ta⟩], _, by omega, by go_num, ?_, ?_, by omega, fun z hz => ?_, (I.alloc _).grown hgrow14 (fun x hx => by have := (own_block hown x hx).1; omega), by rw [evCells_app]; exact hown14⟩
                  · show (es ++ [_]).length = k + 1
                    rw [List.length_append, HY.out]
                    rfl
                  · omega
                  · rcases List.mem_append.1 hz with hz | hz
                    · exact HV.out z hz
                    · rw [List.mem_singleton.1 hz]
                      exact HOKE.out
                case measure => simp [intOf]; omega
              have s1 : (sw == 1) = false := by simpa using h1
              by_cases h2 : sw = 2
              · subst h2
                go_wp2_with fail
                clear d0 d1 d2 d3 f0 f1 f2 f3
                refine (pickI _ I (by omega) (by omega)).mono ?_
                rintro e Wb ⟨ta, rfl, ta0, ta1, I', G'⟩
                have KE' := KE.grownS G' hebg
                have hown' := own_grown hown G' hg1
                have hsz_ta := G'.size
                clear I KE hown G'
                have I := I'
                have KE := KE'
                have hown := hown'
                clear I' KE' hown'
                have HOKE : Hid (okE ⟨(1 + r), (1 + ta), s7, xd⟩ = true) := (okE_iff _).2 (by simp only; omega)
                have d0 : Wb.cell? ⟨eb, 0, none⟩ = some (.int .i64 (1 + r)) := by simpa using KE.cell 0
                have f0 := KE.frozen 0
                have d1 : Wb.cell? ⟨eb, 1, none⟩ = some (.int .i64 (2 + tt)) := by simpa using KE.cell 1
                have f1 := KE.frozen 1
                have d2 : Wb.cell? ⟨eb, 2, none⟩ = some (.int .i64 s7) := by simpa using KE.cell 2
                have f2 := KE.frozen 2
                have d3 : Wb.cell? ⟨eb, 3, none⟩ = some (.int .i64 xd) := by simpa using KE.cell 3
                have f3 := KE.frozen 3
                have hszW : (Wb.setCell ⟨eb, 1, none⟩ (.int .i64 (1 + ta))).heap.size = Wb.heap.size := by simp [World.setCell]
                have hown2 := own_far hown HNB.out 1 (.int .i64 (1 + ta))
                have I2 := I.farE hgeb 1 (.int .i64 (1 + ta))
                clear hown I
                have hown := hown2
                have I := I2
                clear hown2 I2
                go_wp2_with (at_builtin; refine wpList_append_own_at _ rfl (.tmp 85) (.tmp 87) _ rfl w.heap.size 36 i0 _ 4 32 Try.underlying25 HI.out HZ0.out HZ1.out HZ2.out rfl (by omega) (.slice A3 k c3) _ _ rfl (own_alloc hown _) ⟨Wb.heap.size, 0, none⟩ 1 1 [.int .i64 (1 + r), .int .i64 (1 + ta), .int .i64 s7, .int .i64 xd] rfl rfl (by have h := heap_alloc_new (Wb.setCell ⟨eb, 1, none⟩ (.int .i64 (1 + ta))) (.cells #[.int .i64 (1 + r), .int .i64 (1 + ta), .int .i64 s7, .int .i64 xd] 36); rw [hszW] at h; exact World.news_of_block h) (by intro u hu; simp at hu; rcases hu with rfl | rfl | rfl | rfl <;> rfl) (by unfold maxLen; omega) (by omega) (by simp [World.setCell]; omega) ?_; intro v' w14 hown14 hgrow14 hnil14 hat14; clear hnil14 hat14)
                go_roundw
                case rel =>
                  have hs14 := hgrow14.size
                  simp [World.setCell] at hs14
                  refine ⟨k + 1, es ++ [⟨(1 + r), (1 + ta), s7, xd⟩], _, by omega, by go_num, ?_, ?_, by omega, fun z hz => ?_, (I.alloc _).grown hgrow14 (fun x hx => by have := (own_block hown x hx).1; omega), by rw [evCells_app]; exact hown14⟩
                  · show (es ++ [_]).length = k + 1
                    rw [List.length_append, HY.out]
                    rfl
                  · omega
                  · rcases List.mem_append.1 hz with hz | hz
                    · exact HV.out z hz
                    · rw [List.mem_singleton.1 hz]
                      exact HOKE.out
                case measure => simp [intOf]; omega
              have s2 : (sw == 2) = false := by simpa using h2
              clear d0 d1 d2 d3 f0 f1 f2 f3
              have HOKE : Hid (okE ⟨(1 + r), (2 + tt), s7, xd⟩ = true) := (okE_iff _).2 (by simp only; omega)
              have d0 : Wa.cell? ⟨eb, 0, none⟩ = some (.int .i64 (1 + r)) := by simpa using KE.cell 0
              have f0 := KE.frozen 0
              have d1 : Wa.cell? ⟨eb, 1, none⟩ = some (.int .i64 (2 + tt)) := by simpa using KE.cell 1
              have f1 := KE.frozen 1
              have d2 : Wa.cell? ⟨eb, 2, none⟩ = some (.int .i64 s7) := by simpa using KE.cell 2
              have f2 := KE.frozen 2
              have d3 : Wa.cell? ⟨eb, 3, none⟩ = some (.int .i64 xd) := by simpa using KE.cell 3
              have f3 := KE.frozen 3
              go_wp2_with (at_builtin; refine wpList_append_own_at _ rfl (.tmp 85) (.tmp 87) _ rfl w.heap.size 36 i0 _ 4 32 Try.underlying25 HI.out HZ0.out HZ1.out HZ2.out rfl (by omega) (.slice A3 k c3) _ _ rfl (own_alloc hown _) ⟨Wa.heap.size, 0, none⟩ 1 1 [.int .i64 (1 + r), .int .i64 (2 + tt), .int .i64 s7, .int .i64 xd] rfl rfl (World.news_of_block (heap_alloc_new Wa _)) (by intro u hu; simp at hu; rcases hu with rfl | rfl | rfl | rfl <;> rfl) (by unfold maxLen; omega) (by omega) (by simp; omega) ?_; intro v' w14 hown14 hgrow14 hnil14 hat14; clear hnil14 hat14)
              go_roundw
              case rel =>
                have hs14 := hgrow14.size
                simp at hs14
                refine ⟨k + 1, es ++ [⟨(1 + r), (2 + tt), s7, xd⟩], _, by omega, by go_num, ?_, ?_, by omega, fun z hz => ?_, (I.alloc _).grown hgrow14 (fun x hx => by have := (own_block hown x hx).1; omega), by rw [evCells_app]; exact hown14⟩
                · show (es ++ [_]).length = k + 1
                  rw [List.length_append, HY.out]
                  rfl
                · omega
                · rcases List.mem_append.1 hz with hz | hz
                  · exact HV.out z hz
                  · rw [List.mem_singleton.1 hz]
                    exact HOKE.out
              case measure => simp [intOf]; omega
            have q3 : (xb == 3) = false := by simpa using h3
            clear h3
            go_wp2_with fail
            have KE2 := KE.alloc (.cells #[.int .i64 xa, .int .i64 xb, .int .i64 xc, .int .i64 xd] 36)
            have hown2 := own_alloc hown (.cells #[.int .i64 xa, .int .i64 xb, .int .i64 xc, .int .i64 xd] 36)
            have I2 := I.alloc (.cells #[.int .i64 xa, .int .i64 xb, .int .i64 xc, .int .i64 xd] 36)
            have hszS : (Wl.alloc (.cells #[.int .i64 xa, .int .i64 xb, .int .i64 xc, .int .i64 xd] 36)).heap.size = Wl.heap.size + 1 := by simp
            clear KE hown I d0 d1 d2 d3 f0 f1 f2 f3
            generalize Wl.alloc (.cells #[.int .i64 xa, .int .i64 xb, .int .i64 xc, .int .i64 xd] 36) = Wm at *
            have KE := KE2
            have hown := hown2
            have I := I2
            clear KE2 hown2 I2
            refine (pickI _ I (by omega) (by omega)).mono ?_
            rintro e Wa ⟨sw, rfl, sw0, sw1, I', G'⟩
            have KE' := KE.grownS G' hebg
            have hown' := own_grown hown G' hg1
            have hsz_sw := G'.size
            clear I KE hown G'
            have I := I'
            have KE := KE'
            have hown := hown'
            clear I' KE' hown'
            have d0 : Wa.cell? ⟨eb, 0, none⟩ = some (.int .i64 (1 + r)) := by simpa using KE.cell 0
            have f0 := KE.frozen 0
            have d1 : Wa.cell? ⟨eb, 1, none⟩ = some (.int .i64 (2 + tt)) := by simpa using KE.cell 1
            have f1 := KE.frozen 1
            have d2 : Wa.cell? ⟨eb, 2, none⟩ = some (.int .i64 s7) := by simpa using KE.cell 2
            have f2 := KE.frozen 2
            have d3 : Wa.cell? ⟨eb, 3, none⟩ = some (.int .i64 m7) := by simpa using KE.cell 3
            have f3 := KE.frozen 3
            by_cases h0 : sw = 0
            · subst h0
              go_wp2_with fail
              clear d0 d1 d2 d3 f0 f1 f2 f3
              refine (pickI _ I (by omega) (by omega)).mono ?_
              rintro e Wb ⟨ta, rfl, ta0, ta1, I', G'⟩
              have KE' := KE.grownS G' hebg
              have hown' := own_grown hown G' hg1
              have hsz_ta := G'.size
              clear I KE hown G'
              have I := I'
              have KE := KE'
              have hown := hown'
              clear I' KE' hown'
              have HOKE : Hid (okE ⟨(1 + r), (2 + tt), (1 + ta), m7⟩ = true) := (okE_iff _).2 (by simp only; omega)
              have d0 : Wb.cell? ⟨eb, 0, none⟩ = some (.int .i64 (1 + r)) := by simpa using KE.cell 0
              have f0 := KE.frozen 0
              have d1 : Wb.cell? ⟨eb, 1, none⟩ = some (.int .i64 (2 + tt)) := by simpa using KE.cell 1
              have f1 := KE.frozen 1
              have d2 : Wb.cell? ⟨eb, 2, none⟩ = some (.int .i64 s7) := by simpa using KE.cell 2
              have f2 := KE.frozen 2
              have d3 : Wb.cell? ⟨eb, 3, none⟩ = some (.int .i64 m7) := by simpa using KE.cell 3
              have f3 := KE.frozen 3
              have hszW : (Wb.setCell ⟨eb, 2, none⟩ (.int .i64 (1 + ta))).heap.size = Wb.heap.size := by simp [World.setCell]
              have hown2 := own_far hown HNB.out 2 (.int .i64 (1 + ta))
              have I2 := I.farE hgeb 2 (.int .i64 (1 + ta))
              clear hown I
              have hown := hown2
              have I := I2
              clear hown2 I2
              go_wp2_with (at_builtin; refine wpList_append_own_at _ rfl (.tmp 85) (.tmp 87) _ rfl w.heap.size 36 i0 _ 4 32 Try.underlying25 HI.out HZ0.out HZ1.out HZ2.out rfl (by omega) (.slice A3 k c3) _ _ rfl (own_alloc hown _) ⟨Wb.heap.size, 0, none⟩ 1 1 [.int .i64 (1 + r), .int .i64 (2 + tt), .int .i64 (1 + ta), .int .i64 m7] rfl rfl (by have h := heap_alloc_new (Wb.setCell ⟨eb, 2, none⟩ (.int .i64 (1 + ta))) (.cells #[.int .i64 (1 + r), .int .i64 (2 + tt), .int .i64 (1 + ta), .int .i64 m7] 36); rw [hszW] at h; exact World.news_of_block h) (by intro u hu; simp at hu; rcases hu with rfl | rfl | rfl | rfl <;> rfl) (by unfold maxLen; omega) (by omega) (by simp [World.setCell]; omega) ?_; intro v' w14 hown14 hgrow14 hnil14 hat14; clear hnil14 hat14)
              go_roundw
              case rel =>
                have hs14 := hgrow14.size
                simp [World.setCell] at hs14
                refine ⟨k + 1, es ++ [⟨(1 + r), (2 + tt), (1 + ta), m7⟩], _, by omega, by go_num, ?_, ?_, by omega, fun z hz => ?_, (I.alloc _).grown hgrow14 (fun x hx => by have := (own_block hown x hx).1; omega), by rw [evCells_app]; exact hown14⟩
                · show (es ++ [_]).length = k + 1
                  rw [List.length_append, HY.out]
                  rfl
                · omega
                · rcases List.mem_append.1 hz with hz | hz
                  · exact HV.out z hz
                  · rw [List.mem_singleton.1 hz]
                    exact HOKE.out
              case measure => simp [intOf]; omega
            have s0 : (sw == 0) = false := by simpa using h0
            by_cases h1 : sw = 1
            · subst h1
              go_wp2_with fail
              clear d0 d1 d2 d3 f0 f1 f2 f3
              refine (pickI _ I (by omega) (by omega)).mono ?_
              rintro e Wb ⟨ta, rfl, ta0, ta1, I', G'⟩
              have KE' := KE.grownS G' hebg
              have hown' := own_grown hown G' hg1
              have hsz_ta := G'.size
              clear I KE hown G'
              have I := I'
              have KE := KE'
              have hown := hown'
              clear I' KE' hown'
              have HOKE : Hid (okE ⟨(1 + r), (2 + tt), s7, ta⟩ = true) := (okE_iff _).2 (by simp only; omega)
              have d0 : Wb.cell? ⟨eb, 0, none⟩ = some (.int .i64 (1 + r)) := by simpa using KE.cell 0
              have f0 := KE.frozen 0
              have d1 : Wb.cell? ⟨eb, 1, none⟩ = some (.int .i64 (2 + tt)) := by simpa using KE.cell 1
              have f1 := KE.frozen 1
              have d2 : Wb.cell? ⟨eb, 2, none⟩ = some (.int .i64 s7) := by simpa using KE.cell 2
              have f2 := KE.frozen 2
              have d3 : Wb.cell? ⟨eb, 3, none⟩ = some (.int .i64 m7) := by simpa using KE.cell 3
              have f3 := KE.frozen 3
              have hszW : (Wb.setCell ⟨eb, 3, none⟩ (.int .i64 ta)).heap.size = Wb.heap.size := by simp [World.setCell]
              have hown2 := own_far hown HNB.out 3 (.int .i64 ta)
              have I2 := I.farE hgeb 3 (.int .i64 ta)
              clear hown I
              have hown := hown2
              have I := I2
              clear hown2 I2
              go_wp2_with (at_builtin; refine wpList_append_own_at _ rfl (.tmp 85) (.tmp 87) _ rfl w.heap.size 36 i0 _ 4 32 Try.underlying25 HI.out HZ0.out HZ1.out HZ2.out rfl (by omega) (.slice A3 k c3) _ _ rfl (own_alloc hown _) ⟨Wb.heap.size, 0, none⟩ 1 1 [.int .i64 (1 + r), .int .i64 (2 + tt), .int .i64 s7, .int .i64 ta] rfl rfl (by have h := heap_alloc_new (Wb.setCell ⟨eb, 3, none⟩ (.int .i64 ta)) (.cells #[.int .i64 (1 + r), .int .i64 (2 + tt), .int .i64 s7, .int .i64 ta] 36); rw [hszW] at h; exact World.news_of_block h) (by intro u hu; simp at hu; rcases hu with rfl | rfl | rfl | rfl <;> rfl) (by unfold maxLen; omega) (by omega) (by simp [World.setCell]; omega) ?_; intro v' w14 hown14 hgrow14 hnil14 hat14; clear hnil14 hat14)
              go_roundw
              case rel =>
                have hs14 := hgrow14.size
                simp [World.setCell] at hs14
                refine ⟨k + 1, es ++ [⟨(1 + r), (2 + tt), s7, ta⟩], _, by omega, by go_num, ?_, ?_, by omega, fun z hz => ?_, (I.alloc _).grown hgrow14 (fun x hx => by have := (own_block hown x hx).1; omega), by rw [evCells_app]; exact hown14⟩
                · show (es ++ [_]).length = k + 1
                  rw [List.length_append, HY.out]
                  rfl
                · omega
                · rcases List.mem_append.1 hz with hz | hz
                  · exact HV.out z hz
                  · rw [List.mem_singleton.1 hz]
                    exact HOKE.out
              case measure => simp [intOf]; omega
            have s1 : (sw == 1) = false := by simpa using h1
            by_cases h2 : sw = 2
            · subst h2
              go_wp2_with fail
              clear d0 d1 d2 d3 f0 f1 f2 f3
              refine (pickI _ I (by omega) (by omega)).mono ?_
              rintro e Wb ⟨ta, rfl, ta0, ta1, I', G'⟩
              have KE' := KE.grownS G' hebg
              have hown' := own_grown hown G' hg1
              have hsz_ta := G'.size
              clear I KE hown G'
              have I := I'
              have KE := KE'
              have hown := hown'
              clear I' KE' hown'
              have HOKE : Hid (okE ⟨(1 + r), (1 + ta), s7, m7⟩ = true) := (okE_iff _).2 (by simp only; omega)
              have d0 : Wb.cell? ⟨eb, 0, none⟩ = some (.int .i64 (1 + r)) := by simpa using KE.cell 0
              have f0 := KE.frozen 0
              have d1 : Wb.cell? ⟨eb, 1, none⟩ = some (.int .i64 (2 + tt)) := by simpa using KE.cell 1
              have f1 := KE.frozen 1
              have d2 : Wb.cell? ⟨eb, 2, none⟩ = some (.int .i64 s7) := by simpa using KE.cell 2
              have f2 := KE.frozen 2
              have d3 : Wb.cell? ⟨eb, 3, none⟩ = some (.int .i64 m7) := by simpa using KE.cell 3
              have f3 := KE.frozen 3
              have hszW : (Wb.setCell ⟨eb, 1, none⟩ (.int .i64 (1 + ta))).heap.size = Wb.heap.size := by simp [World.setCell]
              have hown2 := own_far hown HNB.out 1 (.int .i64 (1 + ta))
              have I2 := I.farE hgeb 1 (.int .i64 (1 + ta))
              clear hown I
              have hown := hown2
              have I := I2
              clear hown2 I2
              go_wp2_with (at_builtin; refine wpList_append_own_at _ rfl (.tmp 85) (.tmp 87) _ rfl w.heap.size 36 i0 _ 4 32 Try.underlying25 HI.out HZ0.out HZ1.out HZ2.out rfl (by omega) (.slice A3 k c3) _ _ rfl (own_alloc hown _) ⟨Wb.heap.size, 0, none⟩ 1 1 [.int .i64 (1 + r), .int .i64 (1 + ta), .int .i64 s7, .int .i64 m7] rfl rfl (by have h := heap_alloc_new (Wb.setCell ⟨eb, 1, none⟩ (.int .i64 (1 + ta))) (.cells #[.int .i64 (1 + r), .int .i64 (1 + ta), .int .i64 s7, .int .i64 m7] 36); rw [hszW] at h; exact World.news_of_block h) (by intro u hu; simp at hu; rcases hu with rfl | rfl | rfl | rfl <;> rfl) (by unfold maxLen; omega) (by omega) (by simp [World.setCell]; omega) ?_; intro v' w14 hown14 hgrow14 hnil14 hat14; clear hnil14 hat14)
              go_roundw
              case rel =>
                have hs14 := hgrow14.size
                simp [World.setCell] at hs14
                refine ⟨k + 1, es ++ [⟨(1 + r), (1 + ta), s7, m7⟩], _, by omega, by go_num, ?_, ?_, by omega, fun z hz => ?_, (I.alloc _).grown hgrow14 (fun x hx => by have := (own_block hown x hx).1; omega), by rw [evCells_app]; exact hown14⟩
                · show (es ++ [_]).length = k + 1
                  rw [List.length_append, HY.out]
                  rfl
                · omega
                · rcases List.mem_append.1 hz with hz | hz
                  · exact HV.out z hz
                  · rw [List.mem_singleton.1 hz]
                    exact HOKE.out
              case measure => simp [intOf]; omega
            have s2 : (sw == 2) = false := by simpa using h2
            clear d0 d1 d2 d3 f0 f1 f2 f3
            have HOKE : Hid (okE ⟨(1 + r), (2 + tt), s7, m7⟩ = true) := (okE_iff _).2 (by simp only; omega)
            have d0 : Wa.cell? ⟨eb, 0, none⟩ = some (.int .i64 (1 + r)) := by simpa using KE.cell 0
            have f0 := KE.frozen 0
            have d1 : Wa.cell? ⟨eb, 1, none⟩ = some (.int .i64 (2 + tt)) := by simpa using KE.cell 1
            have f1 := KE.frozen 1
            have d2 : Wa.cell? ⟨eb, 2, none⟩ = some (.int .i64 s7) := by simpa using KE.cell 2
            have f2 := KE.frozen 2
            have d3 : Wa.cell? ⟨eb, 3, none⟩ = some (.int .i64 m7) := by simpa using KE.cell 3
            have f3 := KE.frozen 3
            go_wp2_with (at_builtin; refine wpList_append_own_at _ rfl (.tmp 85) (.tmp 87) _ rfl w.heap.size 36 i0 _ 4 32 Try.underlying25 HI.out HZ0.out HZ1.out HZ2.out rfl (by omega) (.slice A3 k c3) _ _ rfl (own_alloc hown _) ⟨Wa.heap.size, 0, none⟩ 1 1 [.int .i64 (1 + r), .int .i64 (2 + tt), .int .i64 s7, .int .i64 m7] rfl rfl (World.news_of_block (heap_alloc_new Wa _)) (by intro u hu; simp at hu; rcases hu with rfl | rfl | rfl | rfl <;> rfl) (by unfold maxLen; omega) (by omega) (by simp; omega) ?_; intro v' w14 hown14 hgrow14 hnil14 hat14; clear hnil14 hat14)
            go_roundw
            case rel =>
              have hs14 := hgrow14.size
              simp at hs14
              refine ⟨k + 1, es ++ [⟨(1 + r), (2 + tt), s7, m7⟩], _, by omega, by go_num, ?_, ?_, by omega, fun z hz => ?_, (I.alloc _).grown hgrow14 (fun x hx => by have := (own_block hown x hx).1; omega), by rw [evCells_app]; exact hown14⟩
              · show (es ++ [_]).length = k + 1
                rw [List.length_append, HY.out]
                rfl
              · omega
              · rcases List.mem_append.1 hz with hz | hz
                · exact HV.out z hz
                · rw [List.mem_singleton.1 hz]
                  exact HOKE.out
            case measure => simp [intOf]; omega
        · obtain rfl : nn = (k : Int) := by omega
          by_cases hn0 : 0 < k
          · go_wp2_with fail
            refine (pickI _ I5 (by omega) (by omega)).mono ?_
            rintro e w6 ⟨t6, rfl, t60, t61, I6, G6⟩
            have hs6 := G6.size
            have hown6 := own_grown hown5 G6 hg1
            clear I5 G6 hown5
            by_cases ht6 : t6 = 0
            · subst ht6
              go_wp2_with fail
              refine (pickI _ I6 (by omega) (by omega)).mono ?_
              rintro e w7 ⟨i1, rfl, i10, i11, I7, G7⟩
              have hs7 := G7.size
              have hown7 := own_grown hown6 G7 hg1
              clear I6 G7 hown6
              go_wp2_with fail
              refine (pickI _ I7 (by omega) (by omega)).mono ?_
              rintro e w8 ⟨i2, rfl, i20, i21, I8, G8⟩
              have hs8 := G8.size
              have hown8 := own_grown hown7 G8 hg1
              clear I7 G8 hown7
              go_wp2_with fail
              refine (pickI _ I8 (by omega) (by omega)).mono ?_
              rintro e w9 ⟨i3, rfl, i30, i31, I9, G9⟩
              have hs9 := G9.size
              have hown9 := own_grown hown8 G9 hg1
              clear I8 G9 hown8
              go_wp2_with fail
              refine (pickI _ I9 (by omega) (by omega)).mono ?_
              rintro e w10 ⟨i4, rfl, i40, i41, I10, G10⟩
              have hs10 := G10.size
              have hown10 := own_grown hown9 G10 hg1
              clear I9 G10 hown9
              go_wp2_with fail
              refine (pickI _ I10 (by omega) (by omega)).mono ?_
              rintro e w11 ⟨i5, rfl, i50, i51, I11, G11⟩
              have hs11 := G11.size
              have hown11 := own_grown hown10 G11 hg1
              clear I10 G11 hown10
              obtain ⟨b, cc, rfl, hbb, hc1, hc2⟩ : ∃ b cc, u3 = .slice (some ⟨b, 0, none⟩) k cc ∧ w.heap.size ≤ b ∧ k ≤ cc ∧ cc ≤ maxLen := by
                rcases hown11.2 with ⟨_, h0⟩ | ⟨b, cc, cur, h1, h2, h3, h4, h5, _⟩
                · omega
                · exact ⟨b, cc, h1, h2, h4, h5⟩
              unfold maxLen at hc2
              have hil : i1.toNat < k := by omega
              have hik : i1 < (k : Int) := by omega
              have hpl : i1.toNat < es.length := by rw [HY.out]; exact hil
              have hcell : ∀ j, j < 4 → ∃ u, w11.cell? ⟨b, i1.toNat * 4 + j, none⟩ = some u := fun j hj => by
                rw [hown11.cellAt _ (by omega)]
                exact ⟨_, List.getElem?_eq_getElem (by rw [evCells_len, HY.out]; omega)⟩
              obtain ⟨u0, hu0⟩ := hcell 0 (by omega)
              obtain ⟨u1, hu1⟩ := hcell 1 (by omega)
              obtain ⟨u2, hu2⟩ := hcell 2 (by omega)
              obtain ⟨u3', hu3⟩ := hcell 3 (by omega)
              rw [Nat.add_zero] at hu0
              have fz0 := hown11.frozenAt (i1.toNat * 4)
              have fz1 := hown11.frozenAt (i1.toNat * 4 + 1)
              have fz2 := hown11.frozenAt (i1.toNat * 4 + 2)
              have fz3 := hown11.frozenAt (i1.toNat * 4 + 3)
              have S0 := hown11.stored (i1.toNat * 4) (.int .i64 i2)
              have S1 := S0.1.stored (i1.toNat * 4 + 1) (.int .i64 i3)
              have S2 := S1.1.stored (i1.toNat * 4 + 2) (.int .i64 (i4 * 50))
              have S3 := S2.1.stored (i1.toNat * 4 + 3) (.int .i64 (i5 * 50))
              have HST := Lib.hid S3.1
              have I12 := (((I11.grown S0.2 (fun x hx => by injection hx with hx; omega)).grown S1.2 (fun x hx => by injection hx with hx; omega)).grown S2.2 (fun x hx => by injection hx with hx; omega)).grown S3.2 (fun x hx => by injection hx with hx; omega)
              have HSET := Lib.hid (evCells_set es i1.toNat ⟨i2, i3, i4 * 50, i5 * 50⟩ hpl)
              have HY2 : Hid ((es.set i1.toNat ⟨i2, i3, i4 * 50, i5 * 50⟩).length = k) := by
                show _ = _
                rw [List.length_set]
                exact HY.out
              have hs12 := S0.2.size
              have hs13 := S1.2.size
              have hs14 := S2.2.size
              have hs15 := S3.2.size
              clear hcell S0 S1 S2 S3 hown11 I11
              go_wp2_with fail
              go_ret
              refine ⟨_, es.set i1.toNat ⟨i2, i3, i4 * 50, i5 * 50⟩, k, _, _, rfl, HY2.out, by omega, ?_, I12, by omega, hc1, by unfold maxLen; omega, ?_⟩
              · omega
              · rw [← HSET.out]
                exact HST.out
            · have ht6' : (t6 == 0) = false := by simpa using ht6
              obtain ⟨A', c', hv, hc1, hc2, hlen', hrow'⟩ := own_sliceN hown6
              subst hv
              have HC2 := Lib.hid hc2
              clear hlen' hrow' hc2
              go_wp2_with fail
              go_ret
              exact ⟨_, es, k, _, _, rfl, HY.out, by omega, by omega, I6, by omega, hc1, HC2.out, hown6⟩
          · obtain rfl : k = 0 := by omega
            obtain ⟨A', c', hv, hc1, hc2, hlen', hrow'⟩ := own_sliceN hown5
            subst hv
            have HC2 := Lib.hid hc2
            clear hlen' hrow' hc2
            go_wp2_with fail
            go_ret
            exact ⟨_, es, 0, _, _, rfl, HY.out, by omega, by omega, I5, by omega, hc1, HC2.out, hown5⟩

end Go.Proofs.Ytdmgaafmmjeelaa
