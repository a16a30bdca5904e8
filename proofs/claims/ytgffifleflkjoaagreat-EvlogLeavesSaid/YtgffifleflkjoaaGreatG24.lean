/-
  EvlogLeaves: what stands between two of its commits.
  A function beside nil.
  A range over a function of two values, in a block that its body may leave.
-/
import Derived.Test.YtgffifleflkjoaaGreatG01
import Derived.Test.YtgffifleflkjoaaGreatG22
import Derived.Test.YtgffifleflkjoaaGreatG23

namespace Go.Proofs.YtgffifleflkjoaaGreat
open Go.RowKit Dm

theorem log_clip {w : World} {pl pd md : Nat} {e : Em.E} {F : Nat → Prop} (x : LogAt w pl pd md e F) : LogAt w pl pd md e (fun k => F k ∧ k < w.heap.size) := by
  obtain ⟨l1, l2, l3, l4, l5⟩ := x.disk.lt
  exact ⟨x.good, x.disk.weak (fun k hk hl => ⟨hk, hl⟩) (fun h => l4 h.1) (fun h => l5 h.1), x.row, x.ne.1, x.ne.2.1, fun h => x.ne.2.2 h.1⟩

/-- Nothing of the engine moves. -/
theorem log_off {w w' : World} {pl pd md : Nat} {e : Em.E} {F O : Nat → Prop} (x : LogAt w pl pd md e F) (hm : Moves O w w') (h1 : ¬ O pl) (h2 : ¬ O pd) (h3 : ¬ O md) (h4 : ∀ k, F k → ¬ O k)
    (h5 : ∀ k, O k → k < w.heap.size → ∃ c t fr, w.heap[k]? = some (.cells c t fr)) : LogAt w' pl pd md e F := by
  obtain ⟨m, row, rows, hne⟩ := x.row
  have lm := rows.lt
  obtain ⟨l1, l2, _, _, _⟩ := x.disk.lt
  have hO : ¬ O m := by
    intro h
    obtain ⟨c, t, fr, hc⟩ := h5 m h lm
    obtain ⟨es, clock, k1, _⟩ := rows
    rw [k1] at hc
    cases hc
  refine ⟨x.good, x.disk.keeps (hm.block pd l1 h2) (hm.block md l2 h3) (fun k hk hl => hm.block k hl (h4 k hk)) (fun _ h _ => h) (fun _ h => Or.inl h), ⟨m, (hm.block pl (lt_of_row row) h1).trans row, ?_, hne⟩, x.ne⟩
  obtain ⟨es, clock, k1, G, hs, hD⟩ := rows
  exact ⟨es, clock, (hm.block m lm hO).trans k1, G, hs, hD⟩

/-- Between two commits: the engine, the document's rows in a cell of their own. -/
structure LvRel (w0 : World) (pl pd md q : Nat) (i : Nat) (wr : World) (e : Em.E) (F : Nat → Prop) (v : Value) : Prop where
  log : LogAt wr pl pd md e F
  waits : e.d.waits.length ≤ 3 * i
  tidy : Maps.Tidy e.rows
  row : wr.heap[q]? = some (.cells #[v] tRowL (0, 0))
  pairs : PairsAt wr (fun b => b ≠ pl ∧ b ≠ pd ∧ b ≠ md ∧ b ≠ q) v (Em.tell e.rows)
  foot : ¬ F q
  ne : q ≠ pl ∧ q ≠ pd ∧ q ≠ md
  below : Below w0.heap.size w0 wr
  new : w0.heap.size ≤ pl ∧ w0.heap.size ≤ pd ∧ w0.heap.size ≤ md ∧ w0.heap.size ≤ q

theorem LvRel.tell {w0 wr : World} {pl pd md q i : Nat} {e : Em.E} {F : Nat → Prop} {v : Value} (h : LvRel w0 pl pd md q i wr e F v) : (Em.tell e.rows).length ≤ 256 := by rw [Em.tell_len]; exact h.log.good.few

theorem below_of_moves {w0 A B : World} {O : Nat → Prop} (hb : Below w0.heap.size w0 A) (hm : Moves O A B) (hO : ∀ k, O k → w0.heap.size ≤ k) : Below w0.heap.size w0 B :=
  ⟨hm.os.trans hb.os, hm.tape.trans hb.tape, hm.output.trans hb.output, Nat.le_trans hb.size hm.size, fun k hk => (hm.block k (Nat.lt_of_lt_of_le hk hb.size) (fun h => by have := hO k h; omega)).trans (hb.block k hk)⟩

/-- A commit that did not go. -/
theorem LvRel.stay {w0 wr w1 : World} {pl pd md q i : Nat} {e e' : Em.E} {F : Nat → Prop} {v : Value} {l : List Em.Change} (h : LvRel w0 pl pd md q i wr e F v) (hm : Moves (PLM pl pd md) wr w1) (x : LogAt w1 pl pd md e' (plus F wr w1)) (he : e' = (e.commit l).1)
    (hc : (e.commit l).2 ≠ 0) : LvRel w0 pl pd md q (i + 1) w1 e' (plus F wr w1) v := by
  subst he
  obtain ⟨n1, n2, n3⟩ := h.ne
  obtain ⟨z1, z2, z3, z4⟩ := h.new
  have ht := Em.commit_tell (l := l) h.log.good h.tidy (fun _ => trivial)
  rw [if_neg hc] at ht
  have lq := lt_of_row h.row
  refine ⟨x, ?_, ht.1, (hm.block q lq (fun e => by rcases e with e | e | e <;> omega)).trans h.row, ?_, ?_, h.ne, below_of_moves h.below hm (fun k hk => by rcases hk with e | e | e <;> omega), h.new⟩
  · have := Em.commit_waits e l
    have := h.waits
    omega
  · rw [ht.2]
    exact h.pairs.moves hm (fun b hb _ e => by rcases e with e | e | e <;> omega)
  · intro hk
    rcases hk with hk | hk
    · exact h.foot hk
    · omega

/-- One that went: the document's rows are laid behind it. -/
theorem LvRel.next {w0 wr w1 w2 : World} {pl pd md q i : Nat} {e e' : Em.E} {F : Nat → Prop} {v v' : Value} {l : List Em.Change} (h : LvRel w0 pl pd md q i wr e F v) (hm : Moves (PLM pl pd md) wr w1) (x : LogAt w1 pl pd md e' (plus F wr w1)) (he : e' = (e.commit l).1)
    (hc : (e.commit l).2 = 0) (b2 : Below w1.heap.size w1 w2) (hp : PairsAt w2 (fun b => (b ≠ pl ∧ b ≠ pd ∧ b ≠ md ∧ b ≠ q) ∨ w1.heap.size ≤ b) v' (Em.rall (Em.tell e.rows) l).1) : LvRel w0 pl pd md q (i + 1) (w2.setCell ⟨q, 0, none⟩ v') e' (plus F wr w1) v' := by
  subst he
  obtain ⟨n1, n2, n3⟩ := h.ne
  obtain ⟨z1, z2, z3, z4⟩ := h.new
  have ht := Em.commit_tell (l := l) h.log.good h.tidy (fun _ => trivial)
  rw [if_pos hc] at ht
  have lq := lt_of_row h.row
  have sm := hm.size
  have r1 := (hm.block q lq (fun e => by rcases e with e | e | e <;> omega)).trans h.row
  have r2 := (b2.block q (by omega)).trans r1
  have lx := x.disk.lt
  have lp := lt_of_row x.row.choose_spec.1
  have ms := setCell_moves w2 q 0 v'
  have hF : ¬ plus F wr w1 q := by
    intro hk
    rcases hk with hk | hk
    · exact h.foot hk
    · omega
  have x2 : LogAt w2 pl pd md (e.commit l).1 (plus F wr w1) := log_off x (Moves.of_below (O := fun _ => False) b2) (fun h => h) (fun h => h) (fun h => h) (fun _ _ h => h) (fun _ h => h.elim)
  have x3 := log_off x2 ms (fun e => n1 e.symm) (fun e => n2 e.symm) (fun e => n3 e.symm) (fun k hk e => by subst e; exact hF hk) (fun k hk _ => by subst hk; exact ⟨_, _, _, r2⟩)
  refine ⟨x3, ?_, ht.1, heap_setCell_same _ _ 0 _ tRowL v' r2, ?_, hF, h.ne, below_of_moves (below_more (below_of_moves h.below hm (fun k hk => by rcases hk with e | e | e <;> omega)) b2) ms (fun k hk => by omega), h.new⟩
  · have := Em.commit_waits e l
    have := h.waits
    omega
  · rw [ht.2]
    refine (hp.weak (F' := fun b => b ≠ pl ∧ b ≠ pd ∧ b ≠ md ∧ b ≠ q) (fun b hb _ => ?_)).moves ms (fun b hb _ e => hb.2.2.2 e)
    rcases hb with hb | hb
    · exact hb
    · exact ⟨by omega, by omega, by omega, by omega⟩

theorem lt_of_row' {w : World} {k : Nat} {o : Obj} (h : w.heap[k]? = some o) : k < w.heap.size := (Array.getElem?_eq_some_iff.1 h).1

/-- The law's end: what stands in the result's cell. -/
theorem leaves_end {w W : World} {q6 : Nat} {ds : List Nat} {tmps : Array Value} (hb : Below w.heap.size w W) (hq : w.heap.size ≤ q6) (r6 : W.heap[q6]? = some (.cells #[.bool false] 4 (0, 0))) (hn : ds.Nodup)
    (hd : ∀ D ∈ ds, W.heap[D]? = some (.deferred (some [])) ∧ w.heap.size ≤ D) (ht : tmps.getD 6 undef = .pointer (some ⟨q6, 0, none⟩)) :
    LeavesInM Fence.wide 0 Tryz.prog Tryz.f4 tmps (fun e w' => e = .returned (.bool true) ∧ Below w.heap.size w w') (ds.map fun D => { target := .collected D, args := #[] }) .returning (W.setCell ⟨q6, 0, none⟩ (.bool true)) := by
  have ms := setCell_moves W q6 0 (.bool true)
  have r6' : (W.setCell ⟨q6, 0, none⟩ (.bool true)).heap[q6]? = some (.cells #[.bool true] 4 (0, 0)) := heap_setCell_same W q6 0 _ 4 (.bool true) r6
  have hne : ∀ D ∈ ds, D ≠ q6 := by
    rintro D hD rfl
    have := (hd D hD).1
    rw [r6] at this
    cases this
  refine leaves_marks ds _ hn (fun D hD => (ms.block D (lt_of_row' (hd D hD).1) (hne D hD)).trans (hd D hD).1) (fun w' hm => ⟨.bool true, ?_, rfl, ?_⟩)
  · refine results_cell_one rfl _ _ ⟨q6, 0, none⟩ (.bool true) ht ?_ (by kernel_rfl)
    exact row_cell ((hm.block q6 (lt_of_row r6') (fun h => hne q6 h rfl)).trans r6') rfl
  · exact below_of_moves (below_of_moves hb ms (fun k hk => by omega)) hm (fun k hk => (hd k hk).2)

theorem ActsIn.all {w : World} {v : Value} {Q : List ActQ} (h : ActsIn w v Q) : ∀ q ∈ Q, ActIs w q := by
  intro q hq
  rcases h with ⟨_, rfl⟩ | ⟨b, o, cap, cs, t, fr, h1, h2, h3⟩
  · cases hq
  · obtain ⟨i, hi⟩ := List.mem_iff_getElem?.1 hq
    exact (h3 i q hi).1

theorem act_src {w : World} {q : ActQ} {g : Nat} {t : TypeId} {fr : Nat × Nat} (r : w.heap[g]? = some (.cells (actCells q).toArray t fr)) (h : ∀ u ∈ actCells q, u.oneCell' = true) : SrcAt w 6 (.slice (some ⟨g, 0, none⟩) 1 1) [q].length (cellsA [q]) := by
  have e : cellsA [q] = actCells q := by simp [cellsA]
  refine Or.inr ⟨⟨g, 0, none⟩, 1, rfl, cellsA_len [q], fun j u hj => ?_, fun u hu => h u (by rw [← e]; exact hu)⟩
  rw [addr_add, cell_of_row _ _ _ _ _ _ r, Nat.zero_add]
  rw [e] at hj
  simpa using hj

/-- What the law's turns read. -/
structure TurnW (w W : World) (qw g m : Nat) (many : Int) (D : Em.Rows) (v : Value) : Prop where
  below : Below w.heap.size w W
  r4 : W.heap[w.heap.size]? = some (.cells #[.int .i64 many] 3 (0, 0))
  r6 : W.heap[w.heap.size + 1]? = some (.cells #[.bool false] 4 (0, 0))
  rq : W.heap[qw]? = some (.cells #[v] tRowL (0, 0))
  rg : W.heap[g]? = some (.cells #[.map (some m)] tRows (0, 0))
  rows : RowsIn W m (Maps.size D) D
  pairs : PairsAt W (fun _ => True) v (Em.tell D)

theorem TurnW.later {w W W' : World} {qw g m : Nat} {many : Int} {D : Em.Rows} {v : Value} (h : TurnW w W qw g m many D v) (hb : Below W.heap.size W W') : TurnW w W' qw g m many D v :=
  ⟨h.below.trans (hb.mono h.below.size), (hb.block _ (lt_of_row h.r4)).trans h.r4, (hb.block _ (lt_of_row h.r6)).trans h.r6, (hb.block _ (lt_of_row h.rq)).trans h.rq, (hb.block _ (lt_of_row h.rg)).trans h.rg, rows_below h.rows hb h.rows.lt, h.pairs.later hb⟩

end Go.Proofs.YtgffifleflkjoaaGreat

namespace Go.Proofs.YtgffifleflkjoaaGreat
open Go.RowKit

theorem eql_func_nil (t : TypeId) {a b : Array TypeId} {v : Bool} (ht : Tryz.prog.underlying t = some (.func a b v)) (f : Fn) (x c : Array Value) (w : World) : (binOp .eql t (.func f x c) .nilFunc).run Tryz.prog w = .ok (.bool false) w := by
  unfold binOp Op.equal Op.maxDepth Op.equalIn
  simp [run_underlying ht]

end Go.Proofs.YtgffifleflkjoaaGreat

namespace Go.Proofs.YtgffifleflkjoaaGreat
open Go.RowKit Dm

theorem wpIn_rangeIter2 {α : Type} {P : Program} {g : Operand} {p q r s bl : Nat} {assign body : Code} {Q : Exit → Act → World → Prop} {a : Act} {w : World}
    {gf : Nat} {lb : Array Value} (hg : a.eval g = .func (.func gf) #[] lb) (eg : ∀ args w, (callFunc gf args).run P w = .ok (.enter gf args) w)
    {u v : α → Value} {xs : List α} {R : Nat → Prop} {w0 : World} (hseq : Iter P gf lb (fun x => #[u x, v x]) xs R w0) (hR : ∀ i, R i → i < w.heap.size) (hb0 : Below w0.heap.size w0 w)
    (I : Nat → (Nat → Prop) → World → Prop) (Ix : Nat → (Nat → Prop) → World → Prop) (hI : Stable I) (hIx : Stable Ix)
    (hIb : ∀ k O (r : Loop) (o : Obj) W, W.heap[w.heap.size + 1]? = some (.loop r) → I k O W → I k O (W.putObj (w.heap.size + 1) o))
    (hIxb : ∀ k O (r : Loop) (o : Obj) W, W.heap[w.heap.size + 1]? = some (.loop r) → Ix k O W → Ix k O (W.putObj (w.heap.size + 1) o))
    (h0 : ∀ W, Below w.heap.size w W → W.heap.size = w.heap.size + 2 → I 0 (fun _ => False) W)
    (hassign : ∀ (x : α) (l : Nat) (W : World), assign.wpIn (Fence.wide.inRound l) 0 P (Exit.then (fun a' W' => a' = { tmps := (((a.tmps.setIfInBounds p (u x)).setIfInBounds q (v x)).setIfInBounds r (u x)).setIfInBounds s (v x), defers := [] } ∧ W' = W) (fun _ _ _ => False))
      { tmps := (a.tmps.setIfInBounds p (u x)).setIfInBounds q (v x), defers := [] } W)
    (hbody : ∀ (k : Nat) (x : α) (O : Nat → Prop) (W : World), xs[k]? = some x → ¬ O (w.heap.size + 1) → ¬ O w.heap.size → I k O W →
      body.wpIn (Fence.wide.inRound (w.heap.size + 1)) 0 P (iterPost (fun i => O i ∨ R i ∨ i = w.heap.size + 1 ∨ i = w.heap.size) I (fun c k O W => c = .exit bl ∧ Ix k O W) xs k O W)
        { tmps := (((a.tmps.setIfInBounds p (u x)).setIfInBounds q (v x)).setIfInBounds r (u x)).setIfInBounds s (v x), defers := [] } W)
    (hend : ∀ (k : Nat) (O : Nat → Prop) (W : World), k ≤ xs.length → ((k = xs.length ∧ I k O W) ∨ Ix k O W) → ¬ O w.heap.size → W.heap[w.heap.size]? = some (.deferred (some [])) → Q .normal { a with defers := { target := .collected w.heap.size, args := #[] } :: a.defers } W) :
    (Code.rangeFunc g #[p, q] assign body).wpIn Fence.wide 0 P (Exit.inBlock bl Q) a w := by
  have hz : ∀ x, (#[p, q].zip #[u x, v x]).foldl (fun t (x : Nat × Value) => t.setIfInBounds x.1 x.2) a.tmps = (a.tmps.setIfInBounds p (u x)).setIfInBounds q (v x) := fun x => by simp
  refine wpIn_rangeIter hg eg hseq hR hb0 (fun _ => rfl) I (fun c k O W => c = .exit bl ∧ Ix k O W) hI (fun c k O O' A B h hm h1 h2 => ⟨h.1, hIx k O O' A B h.2 hm h1 h2⟩) hIb (fun c k O r o W h hx => ⟨hx.1, hIxb k O r o W h hx.2⟩) h0
    (fun x a' _ => a' = { tmps := (((a.tmps.setIfInBounds p (u x)).setIfInBounds q (v x)).setIfInBounds r (u x)).setIfInBounds s (v x), defers := [] }) (fun x a' W l r o _ h => h) ?_ ?_ ?_ ?_
  · intro k x O W hx hi _ _ _
    have := hassign x (w.heap.size + 1) W
    rw [← hz x] at this
    refine wpIn_mono this (fun e a' W' he => ?_)
    cases e with
    | normal =>
      obtain ⟨rfl, rfl⟩ := he
      exact ⟨hi, Keeps.refl _ _, by rw [hz x]⟩
    | ret => exact he
    | exit id => exact he
    | goto t => exact he
    | panic ch => exact he
    | outgrown => exact he
  · rintro k x O a' W hx _ _ h1 h2 hi rfl
    exact hbody k x O W hx h1 h2 hi
  · intro O W hi ho hD
    exact hend xs.length O W (Nat.le_refl _) (Or.inl ⟨rfl, hi⟩) ho hD
  · rintro c k O W hk ⟨rfl, hx⟩ ho hD
    refine wpIn_wide.2 (wp_exit ?_)
    simpa [Exit.inBlock] using hend k O W hk (Or.inr hx) ho hD

/-- Between two rounds of the law's ranges. -/
def LvI (W8 : World) (q : Nat) (C : Nat → Prop) (k : Nat) (O : Nat → Prop) (W : World) : Prop :=
  Moves (fun i => i = q) W8 W ∧ W.heap[q]? = some (.cells #[.int .i64 (k : Int)] 3 (0, 0)) ∧ (∀ i, O i → W8.heap.size ≤ i) ∧ C k

theorem lvI_stable {W8 : World} {q : Nat} {C : Nat → Prop} (hq : q < W8.heap.size) : Stable (LvI W8 q C) := by
  rintro k O O' A B ⟨h1, h2, h3, h4⟩ hm ho1 ho2
  refine ⟨h1.trans hm (fun i hi h => absurd (h3 i h) (by omega)), (hm.block q (lt_of_row h2) (fun h => absurd (h3 q h) (by omega))).trans h2, fun i hi => ?_, h4⟩
  rcases ho2 i hi with h | h
  · exact h3 i h
  · exact Nat.le_trans h1.size h

theorem lvI_put {W8 : World} {q : Nat} {C : Nat → Prop} (hq : q < W8.heap.size) (k : Nat) (O : Nat → Prop) (o : Obj) (W : World) (h : LvI W8 q C k O W) : LvI W8 q C k O (W.putObj (W8.heap.size + 1) o) := by
  obtain ⟨h1, h2, h3, h4⟩ := h
  exact ⟨h1.trans (moves_putObj (l := W8.heap.size + 1) o) (fun i hi h => by omega), (World.putObj_heap_other (by omega)).trans h2, h3, h4⟩

theorem lvI_start {W8 : World} {q : Nat} {C : Nat → Prop} (r : W8.heap[q]? = some (.cells #[.int .i64 0] 3 (0, 0))) (h0 : C 0) (W : World) (hb : Below W8.heap.size W8 W) : LvI W8 q C 0 (fun _ => False) W :=
  ⟨Moves.of_below hb, (hb.block q (lt_of_row r)).trans r, fun i h => h.elim, h0⟩

/-- What stands apart from the count is as it was. -/
theorem LvI.row {W8 W : World} {q k : Nat} {C O : Nat → Prop} (h : LvI W8 q C k O W) {b : Nat} {o : Obj} (r : W8.heap[b]? = some o) (hb : b ≠ q) : W.heap[b]? = some o := (h.1.block b (lt_of_row' r) hb).trans r

end Go.Proofs.YtgffifleflkjoaaGreat
