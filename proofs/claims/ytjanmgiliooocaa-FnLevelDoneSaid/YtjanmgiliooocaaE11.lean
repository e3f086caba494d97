/- Words for what is drawn: the reader beside rows and rows of rows of the call's own; append of a row onto itself. The conditions stand in each theorem. -/
import Derived.Test.YtjanmgiliooocaaE7
namespace Go.Proofs.Ytjanmgiliooocaa
open Go.RowKit Go.ChangeShapes
open Man
set_option linter.unusedVariables false

/-- Behind some steps of a drawing that began in the world a: the reader stands; nothing of a's but the reader has turned. -/
structure Dr (w0 a W : World) (g p : Nat) : Prop where
  I : RdI w0 W g p
  K : a.grownBy W (some g)
  at_ : g < a.heap.size
theorem Dr.start {w0 w : World} {g p : Nat} (I : RdI w0 w g p) : Dr w0 w w g p := ⟨I, World.grownBy.refl w _, I.rd.lt_⟩
theorem Dr.size {w0 a W : World} {g p : Nat} (h : Dr w0 a W g p) : a.heap.size ≤ W.heap.size := h.K.size
theorem keep_own {a b c : World} {g : Nat} {row : Option Nat} (h : a.grownBy b (some g)) (k : b.grownBy c row) (hr : ∀ x, row = some x → a.heap.size ≤ x) : a.grownBy c (some g) :=
  ⟨k.os.trans h.os, k.tape.trans h.tape, k.output.trans h.output, Nat.le_trans h.size k.size, fun i hi hne => (k.block i (Nat.lt_of_lt_of_le hi h.size) (fun e => by have := hr i e.symm; omega)).trans (h.block i hi hne)⟩
theorem keep_trans {a b c : World} {g : Nat} (h : a.grownBy b (some g)) (k : b.grownBy c (some g)) : a.grownBy c (some g) :=
  ⟨k.os.trans h.os, k.tape.trans h.tape, k.output.trans h.output, Nat.le_trans h.size k.size, fun i hi hne => (k.block i (Nat.lt_of_lt_of_le hi h.size) hne).trans (h.block i hi hne)⟩
theorem below_grown {w w' : World} (h : Below w.heap.size w w') (row : Option Nat) : w.grownBy w' row := ⟨h.os, h.tape, h.output, h.size, fun k hk _ => h.block k hk⟩
theorem Dr.alloc {w0 a W : World} {g p : Nat} (h : Dr w0 a W g p) (o : Obj) : Dr w0 a (W.alloc o) g p :=
  ⟨h.I.alloc o, keep_own h.K (below_grown ((Below.refl W.heap.size W).alloc (Nat.le_refl _) o) none) (fun x hx => by cases hx), h.at_⟩
theorem Dr.step {w0 a W W' : World} {g p q : Nat} (h : Dr w0 a W g p) (I : RdI w0 W' g q) (k : W.grownBy W' (some g)) : Dr w0 a W' g q := ⟨I, keep_trans h.K k, h.at_⟩
theorem Dr.own {w0 a W W' : World} {g p : Nat} {row : Option Nat} (h : Dr w0 a W g p) (k : W.grownBy W' row) (hr : ∀ x, row = some x → a.heap.size ≤ x) : Dr w0 a W' g p :=
  ⟨h.I.grown k (fun x hx => by have := hr x hx; have := h.at_; omega), keep_own h.K k hr, h.at_⟩
theorem Dr.set {w0 a W : World} {g p : Nat} (h : Dr w0 a W g p) {b : Nat} (hb : a.heap.size ≤ b) (i : Nat) (u : Value) : Dr w0 a (W.setCell ⟨b, i, none⟩ u) g p :=
  h.own (grown_set W b i u) (fun x hx => by injection hx with hx; omega)
theorem Dr.below {w0 a W W' : World} {g p : Nat} (h : Dr w0 a W g p) (hb : Below W.heap.size W W') : Dr w0 a W' g p := h.own (below_grown hb none) (fun x hx => by cases hx)
/-- A pick. -/
def PickedD (w0 a w : World) (g p : Nat) (m : Int) (e : Ending) (w' : World) : Prop :=
  ∃ r : Int, e = .returned (.int .i64 r) ∧ 0 ≤ r ∧ (r < m ∨ r = 0) ∧ Dr w0 a w' g (p + 1) ∧ w.grownBy w' (some g)
theorem pickD {w0 a w : World} {g p : Nat} (m : Int) (D : Dr w0 a w g p) (hp : p ≤ 1000000) (hm : m ≤ 1000000) :
    Calls Try.prog 35 #[.pointer (some ⟨g, 0, none⟩), .int .i64 m] w (PickedD w0 a w g p m) :=
  (pickI m D.I hp hm).mono fun e w' ⟨r, he, h0, h1, h2, h3⟩ => ⟨r, he, h0, h1, D.step h2 h3, h3⟩
theorem OwnI.pick {w w' : World} {base n g : Nat} {v : Value} {zs : List Int} (h : OwnI w base v n zs) (k : w.grownBy w' (Option.some g)) (hg : g < base) : OwnI w' base v n zs := own_grown h k hg
theorem lit_cell {w w' : World} {zs : List Int} {t : TypeId} {g : Nat} (k : (w.alloc (.cells (zs.map (Value.int .i64)).toArray t)).grownBy w' (some g)) (hg : g < w.heap.size) {i : Nat} (hi : i < zs.length) : w'.cell? ⟨w.heap.size, i, none⟩ = some (.int .i64 zs[i]) := by
  have h1 : w'.heap[w.heap.size]? = (w.alloc (.cells (zs.map (Value.int .i64)).toArray t)).heap[w.heap.size]? := k.block w.heap.size (by simp) (fun e => by injection e with e; omega)
  have h2 := (World.cell?_of_block (a := ⟨w.heap.size, i, none⟩) h1).trans ((Blk.new w t (zs.map (Value.int .i64)).toArray).cell i)
  rw [h2]
  simp [hi]

/-- Rows of the call's own in a slice of the call's own. -/
structure Rows (W : World) (B : Nat) (u : Value) (qs : List Sl) : Prop where
  out : W.ownsRow B 24 1 u qs.length (qs.map Sl.v)
  row : ∀ r ∈ qs, SlOk W W.heap.size r ∧ r.n ≤ 6
  blk : ∀ r ∈ qs, ∀ ad : Addr, r.A = some ad → B ≤ ad.block ∧ ad.block < W.heap.size ∧ u.ownBlock ≠ some ad.block
theorem SlOk.stay {w w' : World} {r : Sl} (h : SlOk w w.heap.size r) (hs : w.heap.size ≤ w'.heap.size) (hk : ∀ ad : Addr, r.A = some ad → ad.block < w.heap.size → w'.heap[ad.block]? = w.heap[ad.block]?) : SlOk w' w'.heap.size r :=
  ⟨h.len, h.le, h.cm, h.sm, (h.row.stay hk).more hs⟩
theorem Rows.keep {W W' : World} {B : Nat} {u : Value} {qs : List Sl} (h : Rows W B u qs) (hs : W.heap.size ≤ W'.heap.size) (hk : ∀ b, B ≤ b → b < W.heap.size → W'.heap[b]? = W.heap[b]?) : Rows W' B u qs :=
  ⟨own_keep h.out hk, fun r hr => ⟨(h.row r hr).1.stay hs (fun ad had hlt => hk _ (h.blk r hr ad had).1 hlt), (h.row r hr).2⟩, fun r hr ad had => ⟨(h.blk r hr ad had).1, Nat.lt_of_lt_of_le (h.blk r hr ad had).2.1 hs, (h.blk r hr ad had).2.2⟩⟩
theorem Rows.pick {W W' : World} {B g : Nat} {u : Value} {qs : List Sl} (h : Rows W B u qs) (k : W.grownBy W' (some g)) (hg : g < B) : Rows W' B u qs :=
  h.keep k.size (fun b hb hlt => k.block b hlt (fun e => by injection e with e; omega))
theorem Rows.alloc {W : World} {B : Nat} {u : Value} {qs : List Sl} (h : Rows W B u qs) (o : Obj) : Rows (W.alloc o) B u qs :=
  h.keep (by simp) (fun b hb hlt => Below.heap_alloc W o b hlt)
theorem Rows.far {W W' : World} {B : Nat} {u : Value} {qs : List Sl} {row : Option Nat} (h : Rows W B u qs) (k : W.grownBy W' row) (hr : ∀ x, row = some x → W.heap.size ≤ x) : Rows W' B u qs :=
  h.keep k.size (fun b hb hlt => k.block b hlt (fun e => by have := hr b e.symm; omega))
theorem Rows.nil_ (W : World) (B : Nat) (hb : B ≤ W.heap.size) : Rows (W.alloc (.cells #[] 24)) B (.slice (some ⟨W.heap.size, 0, none⟩) 0 0) [] :=
  ⟨own_empty W B 24 1 hb, fun r hr => (by cases hr), fun r hr => (by cases hr)⟩
theorem Rows.mat {W : World} {B : Nat} {u : Value} {qs : List Sl} (h : Rows W B u qs) : ∃ A c, u = .slice A qs.length c ∧ qs.length ≤ c ∧ c ≤ maxLen ∧ Mat W W.heap.size A qs := by
  obtain ⟨A, c, h1, h2, h3, _, h4⟩ := own_slice h.out
  exact ⟨A, c, h1, h2, h3, ⟨h4, fun r hr => (h.row r hr).1⟩⟩
theorem Rows.matAt {W : World} {B n c : Nat} {A : Option Addr} {qs : List Sl} (h : Rows W B (.slice A n c) qs) : n = qs.length ∧ n ≤ c ∧ c ≤ maxLen ∧ Mat W W.heap.size A qs := by
  obtain ⟨A', c', e, h1, h2, h3⟩ := h.mat
  injection e with e1 e2 e3
  subst e1 e2 e3
  exact ⟨rfl, h1, h2, h3⟩
/-- What a row that goes into the slice must be. -/
structure RowFor (W : World) (B : Nat) (u : Value) (r : Sl) : Prop where
  ok : SlOk W W.heap.size r
  le : r.n ≤ 6
  blk : ∀ ad : Addr, r.A = some ad → B ≤ ad.block ∧ ad.block < W.heap.size ∧ u.ownBlock ≠ some ad.block
theorem Rows.all {W : World} {B : Nat} {u : Value} {qs : List Sl} (h : Rows W B u qs) : ∀ r ∈ qs, RowFor W B u r := fun r hr => ⟨(h.row r hr).1, (h.row r hr).2, h.blk r hr⟩
theorem RowFor.turn {W W' : World} {B : Nat} {u u' : Value} {r : Sl} (h : RowFor W B u r) (k : W.grownBy W' u.ownBlock) (hat : u'.ownBlock = u.ownBlock ∨ ∃ b, u'.ownBlock = some b ∧ W.heap.size ≤ b) : RowFor W' B u' r :=
  ⟨h.ok.stay k.size (fun ad had hlt => k.block _ hlt (fun e => (h.blk ad had).2.2 e.symm)), h.le, fun ad had => by
    obtain ⟨b1, b2, b3⟩ := h.blk ad had
    refine ⟨b1, Nat.lt_of_lt_of_le b2 k.size, ?_⟩
    rcases hat with e | ⟨b, e, hb⟩
    · rw [e]
      exact b3
    · rw [e]
      intro e2
      injection e2 with e2
      omega⟩
theorem Rows.of {W : World} {B n : Nat} {u : Value} {qs : List Sl} (hn : qs.length = n) (h : W.ownsRow B 24 1 u n (qs.map Sl.v)) (hr : ∀ r ∈ qs, RowFor W B u r) : Rows W B u qs := by
  subst hn
  exact ⟨h, fun r hx => ⟨(hr r hx).ok, (hr r hx).le⟩, fun r hx => (hr r hx).blk⟩
/-- A new row of the call's own, laid behind the slice. -/
theorem RowFor.new {W0 W : World} {B n c : Nat} {u A zs} (h : OwnI W W0.heap.size (.slice A n c) n zs) (hn : n ≤ 6) (hB : B ≤ W0.heap.size) (hu : ∀ b, u.ownBlock = some b → b < W0.heap.size) : RowFor W B u ⟨A, n, c, zs⟩ := by
  obtain ⟨h1, h2, h3⟩ := h.rowAt
  refine ⟨⟨h.len, h1, h2, by show n ≤ 1048576; omega, h3⟩, hn, fun ad had => ?_⟩
  have hb := own_block h ad.block (by simp only at had; rw [had]; simp [Value.ownBlock])
  exact ⟨Nat.le_trans hB hb.1, hb.2, fun e => by have := hu _ e; omega⟩

section
variable {P : Program} (w : World)
/-- Append onto a row of one's own: what it held stands where it stood. -/
theorem run_append_keep (base : Nat) (t ty e : TypeId) (i : TypeInfo) (z : Value) (bytes : Nat) (ht : P.underlying t = some (.slice e)) (hi : P.info? e = some i) (hz : i.zero = some z)
    (hsize : i.size = 1) (hby : i.bytes = bytes) (hzs : z.cells.size = 1)
    (g n cap : Nat) (xs : List Value) (hown : w.ownsRow base e 1 (.slice (some ⟨g, 0, none⟩) n cap) n xs)
    (a : Addr) (m c : Nat) (news : List Value) (hl : news.length = m) (hnews : ∀ j u, news[j]? = some u → w.cell? (a.add j) = some u) (h1 : ∀ u ∈ news, u.oneCell' = true)
    (h63 : n + m ≤ maxLen) (hbytes : (n + m) * bytes ≤ 140737488355328) (hbase : base ≤ w.heap.size) :
    ∃ v' w', (Builtin.append_ #[t, t] ty #[.slice (some ⟨g, 0, none⟩) n cap, .slice (some a) m c]).run P w = .ok v' w' ∧ w'.ownsRow base e 1 v' (n + m) (xs ++ news) ∧ w.grownBy w' (some g) ∧
      (v'.ownBlock = some g ∨ v'.ownBlock = some w.heap.size) ∧ ∀ j u, xs[j]? = some u → w'.cell? ⟨g, j, none⟩ = some u := by
  have hlen : xs.length = n := by have := hown.1; omega
  have hlt : g < w.heap.size := (own_block (h := hown) g (by simp [Value.ownBlock])).2
  obtain ⟨v', w', hrun, h2, h3, _, h5⟩ := run_append_own_at (P := P) w base t ty e i z 1 bytes ht hi hz hsize hby hzs (by omega) _ n xs hown a m c news (by omega) hnews h1 h63 hbytes hbase
  refine ⟨v', w', hrun, h2, h3, h5, fun j u hu => ?_⟩
  have hj : j < xs.length := (List.getElem?_eq_some_iff.1 hu).1
  have holdc : w.cell? ⟨g, j, none⟩ = some u := by rw [hown.cellAt j (by omega), hu]
  have hsmall : n + m ≤ 9223372036854775807 := by simp only [maxLen] at h63; omega
  by_cases hroom : n + m ≤ cap
  · rcases hown.2 with ⟨h0, _⟩ | ⟨g', cap', cur, hv, hbg, hg, hnc, hcm, hcs, htake⟩
    · cases h0
    · have hgc : g = g' ∧ cap = cap' := by
        injection hv with hA _ hC
        injection hA with hA
        injection hA with hA
        exact ⟨hA, hC⟩
      obtain ⟨rfl, rfl⟩ := hgc
      have hr := run_append_room (P := P) w t ty e i ht hi g n cap cur hg a m c news (by rw [hsize]; omega) hnews h1 hroom (by rw [hsize]; omega)
      rw [hrun] at hr
      injection hr with e1 e2
      subst e1
      rw [h2.cellAt j (by omega)]
      rw [List.getElem?_append_left hj]
      exact hu
  · have holds : ∀ j u, xs[j]? = some u → w.cell? ((⟨g, 0, none⟩ : Addr).add j) = some u := hown.cells (g := g) rfl
    have hr := run_append_grow (P := P) w t ty e i z ht hi hz ⟨g, 0, none⟩ n cap xs (by rw [hsize]; omega) holds a m c news (by rw [hsize]; omega) hnews (by omega) (by omega) (growslice_fits (by omega) (by rw [hby]; exact hbytes))
    rw [hrun] at hr
    injection hr with e1 e2
    rw [e2]
    exact (World.cell?_alloc_lt w.drew _ ⟨g, j, none⟩ hlt).trans holdc
theorem wpList_append_keep {ops : Array Oper} {rest : List Oper} {o : Oper} {a : Act} {Q : Exit → Act → World → Prop} (hgd : o.guard = none) (s x : Operand) (t : TypeId)
    (ho : o.op = .call { callee := .builtin .append, args := #[s, x], argTypes := #[t, t] })
    (base : Nat) (e : TypeId) (i : TypeInfo) (z : Value) (bytes : Nat) (ht : P.underlying t = some (.slice e)) (hi : P.info? e = some i) (hz : i.zero = some z)
    (hsize : i.size = 1) (hby : i.bytes = bytes) (hzs : z.cells.size = 1)
    (g n cap : Nat) (xs : List Value) (hs : a.eval s = .slice (some ⟨g, 0, none⟩) n cap) (hown : w.ownsRow base e 1 (.slice (some ⟨g, 0, none⟩) n cap) n xs)
    (ad : Addr) (m c : Nat) (news : List Value) (hx : a.eval x = .slice (some ad) m c) (hl : news.length = m) (hnews : ∀ j u, news[j]? = some u → w.cell? (ad.add j) = some u) (h1 : ∀ u ∈ news, u.oneCell' = true)
    (h63 : n + m ≤ maxLen) (hbytes : (n + m) * bytes ≤ 140737488355328) (hbase : base ≤ w.heap.size)
    (h : ∀ v' w', w'.ownsRow base e 1 v' (n + m) (xs ++ news) → w.grownBy w' (some g) → (v'.ownBlock = some g ∨ v'.ownBlock = some w.heap.size) → (∀ j u, xs[j]? = some u → w'.cell? ⟨g, j, none⟩ = some u) → wpList P ops Q rest (a.put o.dst v') w') : wpList P ops Q (o :: rest) a w := by
  obtain ⟨v', w', hrun, h2, h3, h4, h5⟩ := run_append_keep (P := P) w base t o.type e i z bytes ht hi hz hsize hby hzs g n cap xs hown ad m c news hl hnews h1 h63 hbytes hbase
  refine wpList_plain hgd fun K hK => ?_
  unfold Oper.wp execOp
  simp only [ho, resolve, invoke, builtin, Sem.run_bind, Sem.run_pure, Result.andThen_ok, List.map_toArray, List.map_cons, List.map_nil, hs, hx, hrun]
  exact hK _ _ (h v' w' h2 h3 h4 h5)
end

end Go.Proofs.Ytjanmgiliooocaa
