/- A region that draws its order, walked by what each slot holds and not order by order: each operation, whenever it comes up, finds its operands as their slots' kinds say, and leaves its own slot so. The conditions stand in each theorem. -/
import Derived.Test.YtjanmgiliooocaaMem
namespace Go.Proofs.Ytjanmgiliooocaa
open Go.RowKit Go.ChangeShapes
set_option linter.unusedVariables false

theorem countP_less {p q : Nat → Bool} {i : Nat} : ∀ (l : List Nat), (∀ x, q x = true → p x = true) → i ∈ l → p i = true → q i = false → l.countP q + 1 ≤ l.countP p
  | [], _, h, _, _ => by cases h
  | x :: l, hqp, h, hp, hq => by
    have hm : l.countP q ≤ l.countP p := List.countP_mono_left fun y _ hy => hqp y hy
    rw [List.countP_cons, List.countP_cons]
    rcases List.mem_cons.1 h with rfl | h
    · rw [hp, hq]
      simp
      omega
    · have ih := countP_less l hqp h hp hq
      cases hqx : q x with
      | true =>
        rw [hqp x hqx]
        simp
        omega
      | false =>
        simp
        omega

section
variable {P : Program} {ops : Array Oper} {Q : Exit → Act → World → Prop} {a0 : Act}
/-- The slot may be looked at: it was there ahead of the region, or its operation has come up. -/
def Seen (ops : Array Oper) (base : Nat → Bool) (listed : Array Bool) (s : Nat) : Prop := base s = true ∨ ∃ (j : Nat) (o : Oper), ops[j]? = some o ∧ listed.getD j false = true ∧ o.dst = some s

theorem ready_mem {listed : Array Bool} {i : Nat} (h : i ∈ Region.ready .any ops listed) : i < ops.size ∧ listed.getD i true = false ∧ ∃ o, ops[i]? = some o ∧ ∀ e ∈ o.after, Region.binds .any e = true → listed.getD e.on false = true := by
  unfold Region.ready at h
  obtain ⟨h1, h2⟩ := List.mem_filter.1 h
  have hi := List.mem_range.1 h1
  have ho : ops[i]? = some ops[i] := Array.getElem?_eq_getElem hi
  rw [ho] at h2
  simp only [Option.map_some, Option.getD_some, Bool.and_eq_true, Bool.not_eq_true'] at h2
  refine ⟨hi, h2.1, ops[i], ho, fun e he hb => ?_⟩
  obtain ⟨k, hk, rfl⟩ := Array.mem_iff_getElem.1 he
  have := (Array.all_eq_true.1 h2.2) k hk
  rw [hb] at this
  simpa using this

theorem ready_nil {listed : Array Bool} (hac : ∀ (i : Nat) (o : Oper), ops[i]? = some o → ∀ e ∈ o.after, Region.binds .any e = true → e.on < i) (hs : listed.size = ops.size) (h : Region.ready .any ops listed = []) : ∀ i, i < ops.size → listed.getD i true = true := by
  intro i
  induction i using Nat.strongRecOn with
  | _ i ih =>
    intro hi
    cases hl : listed.getD i true with
    | true => rfl
    | false =>
      have ho : ops[i]? = some ops[i] := Array.getElem?_eq_getElem hi
      have : i ∈ Region.ready .any ops listed := by
        unfold Region.ready
        refine List.mem_filter.2 ⟨List.mem_range.2 hi, ?_⟩
        rw [ho, hl]
        simp only [Option.map_some, Option.getD_some, Bool.not_false, Bool.true_and]
        refine Array.all_eq_true.2 fun k hk => ?_
        cases hb : Region.binds .any ops[i].after[k] with
        | false => simp
        | true =>
          have hlt := hac i _ ho _ (Array.getElem_mem hk) hb
          have h1 := ih _ hlt (by omega)
          have h2 : listed.getD (ops[i].after[k]).on false = true := by
            have hsz : (ops[i].after[k]).on < listed.size := by omega
            simp only [Array.getD, hsz, dif_pos] at h1 ⊢
            exact h1
          rw [h2]
          simp
      rw [h] at this
      cases this

/-- What the text of the region itself must show: no guards, no edge forward, each slot that an operation looks at is made by one that comes before it. -/
def regOk (ops : Array Oper) (base : Nat → Bool) (uses : Nat → List Nat) (N : Nat) : Bool :=
  (List.range ops.size).all fun i => match ops[i]? with
    | none => true
    | some o => o.guard.isNone && o.after.all (fun e => !Region.binds .any e || decide (e.on < i)) && (uses i).all (fun s => base s || o.after.any fun e => Region.binds .any e && (match ops[e.on]? with | some o' => (match o'.dst with | some d => Nat.beq d s | none => false) | none => false)) && (match o.dst with | some d => decide (d < N) | none => true)
theorem regOk_at {base : Nat → Bool} {uses : Nat → List Nat} {N : Nat} (h : regOk ops base uses N = true) (i : Nat) (o : Oper) (ho : ops[i]? = some o) :
    o.guard = none ∧ (∀ e ∈ o.after, Region.binds .any e = true → e.on < i) ∧ (∀ s ∈ uses i, base s = true ∨ ∃ e ∈ o.after, Region.binds .any e = true ∧ ∃ o', ops[e.on]? = some o' ∧ o'.dst = some s) ∧ ∀ d, o.dst = some d → d < N := by
  unfold regOk at h
  have hi : i < ops.size := (Array.getElem?_eq_some_iff.1 ho).1
  have h1 := (List.all_eq_true.1 h) i (List.mem_range.2 hi)
  simp only [ho, Bool.and_eq_true] at h1
  obtain ⟨⟨⟨h2, h3⟩, h4⟩, h5⟩ := h1
  refine ⟨by simpa using h2, fun e he => ?_, fun s hs => ?_, fun d hd => ?_⟩
  · obtain ⟨k, hk, rfl⟩ := Array.mem_iff_getElem.1 he
    intro hb
    have h6 := (Array.all_eq_true.1 h3) k hk
    rw [hb] at h6
    simpa using h6
  · have h6 := (List.all_eq_true.1 h4) s hs
    rcases Bool.or_eq_true_iff.1 h6 with h7 | h7
    · exact .inl h7
    · obtain ⟨k, hk, h8⟩ := Array.any_eq_true.1 h7
      simp only [Bool.and_eq_true] at h8
      refine .inr ⟨_, Array.getElem_mem hk, h8.1, ?_⟩
      have h9 := h8.2
      split at h9
      · rename_i o' ho'
        split at h9
        · rename_i d hd
          exact ⟨o', ho', by rw [hd, Nat.eq_of_beq_eq_true h9]⟩
        · cases h9
      · cases h9
  · rw [hd] at h5
    simpa using h5

theorem wpAny_typed (T : Nat → World → Value → Prop) (J : Nat → World → Prop) (R : World → World → Prop) (base : Nat → Bool) (uses : Nat → List Nat)
    (mono : ∀ s w w' v, R w w' → T s w v → T s w' v)
    (hok : regOk ops base uses a0.tmps.size = true)
    (step : ∀ (i : Nat) (o : Oper) (n : Nat) (a : Act) (w : World), ops[i]? = some o → n < ops.size → J n w → (∀ s ∈ uses i, T s w (a.tmps.getD s undef)) →
      ∀ K : Act → World → Prop, (∀ v w', R w w' → J (n + 1) w' → (∀ d, o.dst = some d → T d w' v) → K (a.put o.dst v) w') → o.wp P a w K Q)
    (fin : ∀ (a : Act) (w : World) (n : Nat), J n w → a.tmps.size = a0.tmps.size → a.defers = a0.defers → (∀ s, base s = true ∨ (∃ (i : Nat) (o : Oper), ops[i]? = some o ∧ o.dst = some s) → T s w (a.tmps.getD s undef)) → Q .normal a w) :
    ∀ (fuel n : Nat) (listed : Array Bool) (a : Act) (w : World), n + fuel = ops.size → listed.size = ops.size → (List.range ops.size).countP (fun i => !listed.getD i true) ≤ fuel → J n w → a.tmps.size = a0.tmps.size → a.defers = a0.defers →
      (∀ s, Seen ops base listed s → T s w (a.tmps.getD s undef)) → wpAny P .any ops Q fuel listed a w := by
  have hac : ∀ (i : Nat) (o : Oper), ops[i]? = some o → ∀ e ∈ o.after, Region.binds .any e = true → e.on < i := fun i o ho => (regOk_at hok i o ho).2.1
  have hfin : ∀ (n : Nat) (listed : Array Bool) (a : Act) (w : World), listed.size = ops.size → J n w → a.tmps.size = a0.tmps.size → a.defers = a0.defers → (∀ s, Seen ops base listed s → T s w (a.tmps.getD s undef)) → Region.ready .any ops listed = [] → Q .normal a w := by
    intro n listed a w hs hj hsz hdf ht hr
    have hall := ready_nil hac hs hr
    refine fin a w n hj hsz hdf fun s h => ht s ?_
    rcases h with h | ⟨i, o, ho, hd⟩
    · exact .inl h
    · have hi : i < ops.size := (Array.getElem?_eq_some_iff.1 ho).1
      refine .inr ⟨i, o, ho, ?_, hd⟩
      have h1 := hall i hi
      have hi' : i < listed.size := by omega
      simp only [Array.getD, hi', dif_pos] at h1 ⊢
      exact h1
  intro fuel
  induction fuel with
  | zero =>
    intro n listed a w hn hs hc hj hsz hdf ht
    have hr : Region.ready .any ops listed = [] := by
      cases hr : Region.ready .any ops listed with
      | nil => rfl
      | cons i rs =>
        have hm : i ∈ Region.ready .any ops listed := by rw [hr]; exact List.mem_cons_self ..
        obtain ⟨hi, hl, _⟩ := ready_mem hm
        have : 0 < (List.range ops.size).countP (fun i => !listed.getD i true) := List.countP_pos_iff.2 ⟨i, List.mem_range.2 hi, by simp [hl]⟩
        omega
    exact ⟨hr, hfin n listed a w hs hj hsz hdf ht hr⟩
  | succ fuel ih =>
    intro n listed a w hn hs hc hj hsz hdf ht
    refine ⟨fun hr => hfin n listed a w hs hj hsz hdf ht hr, fun i hi => ?_⟩
    obtain ⟨hlt, hl, o, ho, haf⟩ := ready_mem hi
    have hg := (regOk_at hok i o ho).1
    have hw := step i o n a w ho (by omega) hj (fun s hsu => ht s (by
      rcases (regOk_at hok i o ho).2.2.1 s hsu with h | ⟨e, he, hb, o', ho', hd⟩
      · exact .inl h
      · exact .inr ⟨e.on, o', ho', haf e he hb, hd⟩))
    unfold wpOp
    rw [ho]
    have hwant : Region.wanted o (yielded ops a.tmps) = true := by simp [Region.wanted, hg]
    simp only [hwant, if_true]
    refine .inl (hw _ fun v w' hR hJ hv => ?_)
    have hi' : i < listed.size := by omega
    refine ih (n + 1) _ _ w' (by omega) (by simpa using hs) ?_ hJ ?_ ?_ fun s h => ?_
    · have hless := countP_less (p := fun i => !listed.getD i true) (q := fun j => !(listed.setIfInBounds i true).getD j true) (i := i) (List.range ops.size) (fun x hx => by
        by_cases hxl : x < listed.size
        · have hxl' : x < (listed.setIfInBounds i true).size := by simpa using hxl
          simp only [Array.getD, hxl, hxl', dif_pos] at hx ⊢
          rw [Array.getInternal_eq_getElem, Array.getElem_setIfInBounds] at hx
          rw [Array.getInternal_eq_getElem]
          split at hx
          · simp at hx
          · exact hx
        · have hxl' : ¬ x < (listed.setIfInBounds i true).size := by simpa using hxl
          simp only [Array.getD, hxl', dif_neg, not_false_eq_true] at hx
          simp at hx) (List.mem_range.2 hlt) (by simp [hl]) (by
          have hxl' : i < (listed.setIfInBounds i true).size := by simpa using hi'
          simp [Array.getD])
      omega
    · cases o.dst with
      | none => exact hsz
      | some d => simpa [Act.put] using hsz
    · cases o.dst with
      | none => exact hdf
      | some d => exact hdf
    · by_cases hds : o.dst = some s
      · have hd := (regOk_at hok i o ho).2.2.2 s hds
        have e : (a.put o.dst v).tmps.getD s undef = v := by
          rw [hds]
          have hlt' : s < a.tmps.size := by rw [hsz]; exact hd
          simp [Act.put, Array.getD, hlt']
        rw [e]
        exact hv s hds
      · have e : (a.put o.dst v).tmps.getD s undef = a.tmps.getD s undef := by
          cases hdd : o.dst with
          | none => rfl
          | some d =>
            have hne : d ≠ s := fun he => hds (by rw [hdd, he])
            show (a.tmps.setIfInBounds d v).getD s undef = _
            by_cases hlt' : s < a.tmps.size
            · simp [Array.getD, hlt', hne]
            · simp [Array.getD, hlt']
        rw [e]
        refine mono s w w' _ hR (ht s ?_)
        rcases h with h | ⟨j, o', ho', hlj, hdj⟩
        · exact .inl h
        · refine .inr ⟨j, o', ho', ?_, hdj⟩
          have hji : j ≠ i := fun he => by
            subst he
            rw [ho] at ho'
            injection ho' with ho'
            exact hds (by rw [ho', hdj])
          by_cases hjl : j < listed.size
          · have hjl' : j < (listed.setIfInBounds i true).size := by simpa using hjl
            simp only [Array.getD, hjl, hjl', dif_pos] at hlj ⊢
            rw [Array.getInternal_eq_getElem, Array.getElem_setIfInBounds, if_neg (Ne.symm hji)] at hlj
            exact hlj
          · have hjl' : ¬ j < (listed.setIfInBounds i true).size := by simpa using hjl
            simp only [Array.getD, hjl', dif_neg, not_false_eq_true] at hlj
            cases hlj
theorem region_typed {id : Nat} {w0 : World} (hm : P.follows .mixedOrders = true) (T : Nat → World → Value → Prop) (J : Nat → World → Prop) (R : World → World → Prop) (base : Nat → Bool) (uses : Nat → List Nat)
    (mono : ∀ s w w' v, R w w' → T s w v → T s w' v)
    (hok : regOk ops base uses a0.tmps.size = true)
    (step : ∀ (i : Nat) (o : Oper) (n : Nat) (a : Act) (w : World), ops[i]? = some o → n < ops.size → J n w → (∀ s ∈ uses i, T s w (a.tmps.getD s undef)) →
      ∀ K : Act → World → Prop, (∀ v w', R w w' → J (n + 1) w' → (∀ d, o.dst = some d → T d w' v) → K (a.put o.dst v) w') → o.wp P a w K Q)
    (hJ : J 0 w0.drew) (hT : ∀ s, base s = true → T s w0.drew (a0.tmps.getD s undef))
    (fin : ∀ (a : Act) (w : World) (n : Nat), J n w → a.tmps.size = a0.tmps.size → a.defers = a0.defers → (∀ s, base s = true ∨ (∃ (i : Nat) (o : Oper), ops[i]? = some o ∧ o.dst = some s) → T s w (a.tmps.getD s undef)) → Q .normal a w) :
    (Code.region id ops true).wp P Q a0 w0 := by
  refine wp_region_any hm ?_
  refine wpAny_typed T J R base uses mono hok step fin ops.size 0 _ a0 _ (Nat.zero_add _) (by simp) ?_ hJ rfl rfl fun s h => ?_
  · have := List.countP_le_length (p := fun i => !(Array.replicate ops.size false).getD i true) (l := List.range ops.size)
    simpa using this
  · rcases h with h | ⟨j, o, ho, hl, _⟩
    · exact hT s h
    · have hj : j < ops.size := (Array.getElem?_eq_some_iff.1 ho).1
      simp [Array.getD, hj] at hl
end

end Go.Proofs.Ytjanmgiliooocaa
