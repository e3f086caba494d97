/- Ledgers of events: what follows from each event, in plain lists and functions. -/
import Derived.Test.YtdmgaafmmjeelaaInts
namespace Go.Proofs.Ytdmgaafmmjeelaa
set_option linter.unusedVariables false

/-- An event: box, kind, number of the lock, ballots. -/
structure Ev where
  bx : Int
  kd : Int
  sl : Int
  mn : Int
def evZ : Ev := ⟨0, 0, 0, 0⟩
instance : Inhabited Ev := ⟨evZ⟩
def okE (e : Ev) : Bool := decide (1 ≤ e.bx ∧ e.bx ≤ 6 ∧ 1 ≤ e.kd ∧ e.kd ≤ 3 ∧ 1 ≤ e.sl ∧ e.sl ≤ 99 ∧ 0 ≤ e.mn ∧ e.mn ≤ 99)
theorem okE_iff (e : Ev) : okE e = true ↔ (1 ≤ e.bx ∧ e.bx ≤ 6 ∧ 1 ≤ e.kd ∧ e.kd ≤ 3 ∧ 1 ≤ e.sl ∧ e.sl ≤ 99 ∧ 0 ≤ e.mn ∧ e.mn ≤ 99) := by simp [okE]
theorem okE_no {e : Ev} (h : ¬ (1 ≤ e.bx ∧ e.bx ≤ 6 ∧ 1 ≤ e.kd ∧ e.kd ≤ 3 ∧ 1 ≤ e.sl ∧ e.sl ≤ 99 ∧ 0 ≤ e.mn ∧ e.mn ≤ 99)) : okE e = false := by
  unfold okE
  exact decide_eq_false h
def lvB (l : List Ev) : Bool := l.all okE && decide (l.length ≤ 20)
theorem lvB_bad {l : List Ev} {k : Nat} (hk : k < l.length) (h : okE l[k] = false) : lvB l = false := by
  unfold lvB
  have : l.all okE = false := by
    cases hb : l.all okE with
    | false => rfl
    | true =>
      rw [List.all_eq_true] at hb
      rw [hb _ (List.getElem_mem hk)] at h
      cases h
  rw [this]
  rfl
theorem lvB_all {l : List Ev} (h : l.all okE = true) : lvB l = decide ((l.length : Int) ≤ 20) := by
  unfold lvB
  rw [h, Bool.true_and]
  exact decide_eq_decide.2 (by omega)
theorem lvB_of {l : List Ev} (h : lvB l = true) : l.length ≤ 20 ∧ ∀ e ∈ l, okE e = true := by
  unfold lvB at h
  simp only [Bool.and_eq_true, decide_eq_true_eq, List.all_eq_true] at h
  exact ⟨h.2, h.1⟩
theorem lvB_mk {l : List Ev} (h1 : l.length ≤ 20) (h2 : ∀ e ∈ l, okE e = true) : lvB l = true := by
  unfold lvB
  rw [List.all_eq_true.2 h2]
  simp [h1]
theorem allE_snoc {l : List Ev} {k : Nat} (hk : k < l.length) (h1 : (l.take k).all okE = true) (h2 : okE l[k] = true) : (l.take (k + 1)).all okE = true := by
  rw [List.take_succ_eq_append_getElem hk, List.all_append, h1]
  simp [h2]

/-- What is known behind some events. -/
structure St where
  last : Int → Option Ev
  used : Int → Bool
  gaps : List Int
def St.init : St := ⟨fun _ => none, fun _ => false, []⟩
def St.fits (s : St) (e : Ev) : Bool :=
  if e.kd = 1 then !s.used e.sl && (match s.last e.bx with | none => true | some l => l.kd == 3 && l.mn == e.mn)
  else (match s.last e.bx with | none => false | some l => l.kd != 3 && (l.sl == e.sl && l.mn == e.mn))
def St.take (s : St) (e : Ev) : St := ⟨fun x => if x = e.bx then some e else s.last x, fun x => if e.kd = 1 ∧ x = e.sl then true else s.used x, s.gaps⟩
def St.step (s : St) (i : Nat) (e : Ev) : St := if s.fits e = true then s.take e else ⟨s.last, s.used, s.gaps ++ [(i : Int)]⟩
def foll (l : List Ev) : Nat → St
  | 0 => St.init
  | k + 1 => match l[k]? with
    | some e => (foll l k).step k e
    | none => foll l k
theorem foll_succ {l : List Ev} {k : Nat} (h : k < l.length) : foll l (k + 1) = (foll l k).step k l[k] := by
  simp only [foll, List.getElem?_eq_getElem h]
theorem step_yes {s : St} {i : Nat} {e : Ev} (h : s.fits e = true) : s.step i e = s.take e := if_pos h
theorem step_no {s : St} {i : Nat} {e : Ev} (h : s.fits e = false) : s.step i e = ⟨s.last, s.used, s.gaps ++ [(i : Int)]⟩ := if_neg (by rw [h]; exact Bool.false_ne_true)
theorem gaps_succ (l : List Ev) (k : Nat) : (foll l (k + 1)).gaps = (foll l k).gaps ∨ (k < l.length ∧ (foll l (k + 1)).gaps = (foll l k).gaps ++ [(k : Int)]) := by
  by_cases h : k < l.length
  · rw [foll_succ h]
    cases hf : (foll l k).fits l[k] with
    | true => rw [step_yes hf]; exact .inl rfl
    | false => rw [step_no hf]; exact .inr ⟨h, rfl⟩
  · exact .inl (by simp only [foll, List.getElem?_eq_none (Nat.le_of_not_lt h)])
theorem gaps_len (l : List Ev) : ∀ k, (foll l k).gaps.length ≤ k
  | 0 => by simp [foll, St.init]
  | k + 1 => by
    have ih := gaps_len l k
    rcases gaps_succ l k with h | ⟨_, h⟩ <;> rw [h] <;> simp <;> omega
theorem gaps_lt (l : List Ev) : ∀ k, ∀ x ∈ (foll l k).gaps, 0 ≤ x ∧ x < (k : Int) ∧ x < (l.length : Int)
  | 0, x, h => by simp [foll, St.init] at h
  | k + 1, x, h => by
    have ih := gaps_lt l k x
    rcases gaps_succ l k with e | ⟨hl, e⟩
    · rw [e] at h
      have := ih h
      omega
    · rw [e] at h
      rcases List.mem_append.1 h with h | h
      · have := ih h
        omega
      · rw [List.mem_singleton.1 h]
        omega
/-- Whether an event is a gap is told when it comes. -/
theorem gaps_mem (l : List Ev) (k : Nat) : ∀ n, k < n → ((k : Int) ∈ (foll l n).gaps ↔ (k : Int) ∈ (foll l (k + 1)).gaps)
  | 0, h => by omega
  | n + 1, h => by
    by_cases e : k = n
    · subst e
      exact Iff.rfl
    · rw [← gaps_mem l k n (by omega)]
      rcases gaps_succ l n with h1 | ⟨_, h1⟩
      · rw [h1]
      · rw [h1, List.mem_append, List.mem_singleton]
        constructor
        · rintro (h2 | h2)
          · exact h2
          · omega
        · exact .inl
theorem gap_at {l : List Ev} {k : Nat} (h : k < l.length) : ((k : Int) ∈ (foll l (k + 1)).gaps ↔ (foll l k).fits l[k] = false) := by
  rw [foll_succ h]
  have hno : (k : Int) ∉ (foll l k).gaps := fun hm => by have := gaps_lt l k _ hm; omega
  cases hf : (foll l k).fits l[k] with
  | true =>
    rw [step_yes hf]
    show (k : Int) ∈ (foll l k).gaps ↔ _
    simp [hno]
  | false =>
    rw [step_no hf]
    simp

/-- The reference's look at the last event of a box, and at the locks that were used. -/
def lastL (l : List Ev) (g : List Int) (b : Int) : Nat → Ev
  | 0 => evZ
  | n + 1 => match l[n]? with
    | some e => if e.bx = b ∧ (n : Int) ∉ g then e else lastL l g b n
    | none => lastL l g b n
def usedL (l : List Ev) (g : List Int) (s : Int) : Nat → Bool
  | 0 => false
  | n + 1 => match l[n]? with
    | some e => if e.kd = 1 ∧ e.sl = s ∧ (n : Int) ∉ g then true else usedL l g s n
    | none => usedL l g s n
theorem lastL_yes {l : List Ev} {g : List Int} {b : Int} {n : Nat} (h : n < l.length) (h1 : l[n].bx = b) (h2 : (n : Int) ∉ g) : lastL l g b (n + 1) = l[n] := by
  simp only [lastL, List.getElem?_eq_getElem h]
  exact if_pos ⟨h1, h2⟩
theorem lastL_no {l : List Ev} {g : List Int} {b : Int} {n : Nat} (h : n < l.length) (h1 : ¬ (l[n].bx = b ∧ (n : Int) ∉ g)) : lastL l g b (n + 1) = lastL l g b n := by
  simp only [lastL, List.getElem?_eq_getElem h]
  exact if_neg h1
theorem lastL_foll (l : List Ev) (b : Int) (m : Nat) : ∀ n, n ≤ m → n ≤ l.length → lastL l (foll l m).gaps b n = ((foll l n).last b).getD evZ
  | 0, _, _ => rfl
  | n + 1, hm, hl => by
    have ih := lastL_foll l b m n (by omega) (by omega)
    have hn : n < l.length := by omega
    have hg : (n : Int) ∈ (foll l m).gaps ↔ (foll l n).fits l[n] = false := (gaps_mem l n m (by omega)).trans (gap_at hn)
    rw [foll_succ hn]
    cases hf : (foll l n).fits l[n] with
    | true =>
      rw [step_yes hf]
      rw [hf] at hg
      have hno : (n : Int) ∉ (foll l m).gaps := fun h => by have := hg.1 h; cases this
      by_cases hb : l[n].bx = b
      · rw [lastL_yes hn hb hno]
        show l[n] = ((if b = l[n].bx then some l[n] else (foll l n).last b)).getD evZ
        rw [if_pos hb.symm]
        rfl
      · rw [lastL_no hn (fun h => hb h.1), ih]
        show _ = ((if b = l[n].bx then some l[n] else (foll l n).last b)).getD evZ
        rw [if_neg (fun h => hb h.symm)]
    | false =>
      rw [step_no hf]
      rw [lastL_no hn (fun h => h.2 (hg.2 hf)), ih]
theorem usedL_foll (l : List Ev) (s : Int) (m : Nat) : ∀ n, n ≤ m → n ≤ l.length → usedL l (foll l m).gaps s n = (foll l n).used s
  | 0, _, _ => rfl
  | n + 1, hm, hl => by
    have ih := usedL_foll l s m n (by omega) (by omega)
    have hn : n < l.length := by omega
    have hg : (n : Int) ∈ (foll l m).gaps ↔ (foll l n).fits l[n] = false := (gaps_mem l n m (by omega)).trans (gap_at hn)
    rw [foll_succ hn]
    have e1 : usedL l (foll l m).gaps s (n + 1) = if l[n].kd = 1 ∧ l[n].sl = s ∧ (n : Int) ∉ (foll l m).gaps then true else usedL l (foll l m).gaps s n := by
      simp only [usedL, List.getElem?_eq_getElem hn]
    rw [e1]
    cases hf : (foll l n).fits l[n] with
    | true =>
      rw [step_yes hf]
      rw [hf] at hg
      have hno : (n : Int) ∉ (foll l m).gaps := fun h => by have := hg.1 h; cases this
      show _ = if l[n].kd = 1 ∧ s = l[n].sl then true else (foll l n).used s
      by_cases hb : l[n].kd = 1 ∧ s = l[n].sl
      · rw [if_pos hb, if_pos ⟨hb.1, hb.2.symm, hno⟩]
      · rw [if_neg hb, if_neg (fun h => hb ⟨h.1, h.2.1.symm⟩), ih]
    | false =>
      rw [step_no hf, if_neg (fun h => h.2.2 (hg.2 hf)), ih]
/-- What is remembered of a box is an event of that box. -/
theorem foll_last (l : List Ev) (hv : ∀ e ∈ l, okE e = true) : ∀ n b e, (foll l n).last b = some e → okE e = true ∧ e.bx = b
  | 0, b, e, h => by simp [foll, St.init] at h
  | n + 1, b, e, h => by
    have ih := foll_last l hv n b e
    by_cases hn : n < l.length
    · rw [foll_succ hn] at h
      cases hf : (foll l n).fits l[n] with
      | true =>
        rw [step_yes hf] at h
        have h' : (if b = l[n].bx then some l[n] else (foll l n).last b) = some e := h
        by_cases hb : b = l[n].bx
        · rw [if_pos hb] at h'
          injection h' with h'
          rw [← h']
          exact ⟨hv _ (List.getElem_mem hn), hb.symm⟩
        · rw [if_neg hb] at h'
          exact ih h'
      | false =>
        rw [step_no hf] at h
        exact ih h
    · simp only [foll, List.getElem?_eq_none (Nat.le_of_not_lt hn)] at h
      exact ih h
/-- The reference's test, of what it has found. -/
def fitsL (x : Ev) (u : Bool) (e : Ev) : Bool :=
  if e.kd = 1 then !u && (x.kd == 0 || (x.kd == 3 && x.mn == e.mn)) else (x.kd == 1 || x.kd == 2) && (x.sl == e.sl && x.mn == e.mn)
theorem fitsL_foll (l : List Ev) (hv : ∀ e ∈ l, okE e = true) (n : Nat) (e : Ev) : fitsL (((foll l n).last e.bx).getD evZ) ((foll l n).used e.sl) e = (foll l n).fits e := by
  unfold fitsL St.fits
  cases h : (foll l n).last e.bx with
  | none => simp [evZ]
  | some x =>
    have hx := (okE_iff x).1 (foll_last l hv n e.bx x h).1
    simp only [Option.getD_some]
    have q0 : (x.kd == 0) = false := by simp; omega
    have q3 : (x.kd == 1 || x.kd == 2) = (x.kd != 3) := by
      have : x.kd = 1 ∨ x.kd = 2 ∨ x.kd = 3 := by omega
      rcases this with e | e | e <;> rw [e] <;> rfl
    rw [q0, q3]
    simp

def gapsE (l : List Ev) : List Int := if lvB l = true then (foll l l.length).gaps else []
theorem gapsE_yes {l : List Ev} (h : lvB l = true) : gapsE l = (foll l l.length).gaps := if_pos h
theorem gapsE_no {l : List Ev} (h : lvB l = false) : gapsE l = [] := if_neg (by rw [h]; exact Bool.false_ne_true)
theorem gapsE_len (l : List Ev) : (gapsE l).length ≤ 20 := by
  cases h : lvB l with
  | true =>
    rw [gapsE_yes h]
    have := gaps_len l l.length
    have := (lvB_of h).1
    omega
  | false => rw [gapsE_no h]; simp

end Go.Proofs.Ytdmgaafmmjeelaa
