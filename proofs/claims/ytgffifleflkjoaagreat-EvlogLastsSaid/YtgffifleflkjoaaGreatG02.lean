/-
  Regions that draw their order, whose operations read, and whose callees may make memory: one walk in the order of the text, in every world that has grown from the one at the region's head.
  A range over a map that does not change while it is gone through.
  How a disk lies in memory.
  A map of sectors: what a look and a store do.
  What stays of a disk in memory while other blocks change.
  The disk's small functions.
-/
import Derived.Test.YtgffifleflkjoaaGreatG01
import Derived.Deep.QuietTactic
import Derived.BigQuiet
import Derived.StillTailTactics

namespace Go.Proofs.YtgffifleflkjoaaGreat
open Go.RowKit

/-- A world that has grown from W: below B nothing has turned. -/
structure Ext (B : Nat) (W : World) where
  world : World
  below : Below B W world

instance extNonempty (B : Nat) (W : World) : Nonempty (Ext B W) := ⟨⟨W, Below.refl _ _⟩⟩

/-- The class of worlds that have grown from W. -/
def Grew (B : Nat) (W : World) (w' : World) : Prop := ∃ x : Ext B W, w' = x.world

theorem ext_call {P : Program} {f : FuncId} {args : Array Value} {B : Nat} {W : World} (x : Ext B W) {v : Value} (hB : B ≤ W.heap.size)
    (h : Calls P f args x.world fun e w' => e = .returned v ∧ Below x.world.heap.size x.world w') : Calls P f args x.world fun e w'' => e = .returned v ∧ ∃ y : Ext B W, w'' = y.world :=
  h.mono fun _ w' ⟨he, hb⟩ => ⟨he, ⟨w', x.below.trans (hb.mono (Nat.le_trans hB x.below.size))⟩, rfl⟩

theorem ext_call_same {P : Program} {f : FuncId} {args : Array Value} {B : Nat} {W : World} (x : Ext B W) {v : Value}
    (h : Calls P f args x.world fun e w' => e = .returned v ∧ x.world = w') : Calls P f args x.world fun e w'' => e = .returned v ∧ ∃ y : Ext B W, w'' = y.world :=
  h.mono fun _ w' ⟨he, hb⟩ => ⟨he, x, hb.symm⟩

theorem Ext.cell {B : Nat} {W : World} (x : Ext B W) {p : Addr} {v : Value} (hp : p.block < B) (h : W.cell? p = some v) : x.world.cell? p = some v := (x.below.cell hp).trans h

/-- A region that draws, at the class of grown worlds. -/
theorem wp_region_ext {P : Program} {id : Nat} {Q : Exit → Act → World → Prop} {a : Act} {w : World} {l : List Oper} (hm : P.follows .mixedOrders = true) (hB : Region.lexB .any l.toArray = true)
    (h : wpQuiet P l.toArray (fun w' => ∃ x : Ext w.heap.size w, w' = x.world) (fun a' => ∀ x : Ext w.heap.size w, Q .normal a' x.world) l a) : (Code.region id l.toArray true).wp P Q a w :=
  wp_region_quiet (C := fun w' => ∃ x : Ext w.heap.size w, w' = x.world) hm hB ⟨⟨w.drew, (Below.refl _ _).drew⟩, rfl⟩ (by
    have e : (fun a' => ∀ w', (∃ x : Ext w.heap.size w, w' = x.world) → Q .normal a' w') = fun a' => ∀ x : Ext w.heap.size w, Q .normal a' x.world := by
      funext a'
      exact propext ⟨fun k x => k _ ⟨x, rfl⟩, fun k w' ⟨x, hx⟩ => hx ▸ k x⟩
    rw [e]
    simpa using h)

def isDefer : Op → Bool
  | .defer _ => true
  | _ => false

/-- What holds in a frame of a function holds in a round's. -/
theorem wpOpsIn_of_wpOps {P : Program} {ops : Array Oper} {Q : Exit → Act → World → Prop} (l0 : Nat) (hq : ∀ a w, ¬ Q .outgrown a w) (hd : ∀ (i : Nat) (o : Oper), ops[i]? = some o → isDefer o.op = false) :
    ∀ (l : List Nat) (a : Act) (w : World), wpOps P ops Q l a w → wpOpsIn (Fence.wide.inRound l0) 0 P ops Q l a w := by
  intro l
  induction l with
  | nil => exact fun a w h => h
  | cons i rest ih =>
    intro a w h
    simp only [wpOps] at h
    simp only [wpOpsIn]
    cases ho : ops[i]? with
    | none =>
      simp only [ho] at h ⊢
      exact ih a w h
    | some o =>
      simp only [ho] at h ⊢
      have hnd : ∀ c, o.op ≠ .defer c := fun c e => by have := hd i o ho; rw [e] at this; cases this
      split
      · rename_i hw
        rw [if_pos hw] at h
        rcases h with h | ⟨_, a', w', h⟩
        · refine ⟨fun _ _ => trivial, ?_⟩
          rw [Oper.semAt_eq _ _ _ hnd]
          simp only [Oper.wp] at h
          cases hr : (execOp a.eval o).run P w with
          | ok x w1 =>
            rw [hr] at h
            cases x with
            | value v => exact ih _ _ h
            | skip => exact ih _ _ h
            | defer d => exact ih _ _ h
            | enter f args =>
              refine ⟨(fun e => by cases e), ?_⟩
              have h' : Calls P f args w1 _ := h
              refine CallsIn.inRound l0 ((callsIn_wide (n := 0)).2 (h'.mono fun e w2 he => ?_))
              cases e with
              | returned v => exact ih _ _ he
              | panicked ch => exact he
              | outgrown => exact he
            | row r args =>
              refine ⟨(fun e => by cases e), ?_⟩
              intro c cs _
              obtain ⟨v, w', hR, hs⟩ := h c cs
              exact ⟨v, w', ih _ _ hR, stepsIn_wide.2 hs⟩
            | _ => exact h.elim
          | halt x w1 =>
            rw [hr] at h
            cases x with
            | panic v => exact h
            | _ => exact h.elim
        · exact (hq _ _ h).elim
      · rename_i hw
        rw [if_neg hw] at h
        exact ⟨fun _ _ => trivial, ih _ _ h⟩


/-- The same region within a round. -/
theorem wpIn_region_ext {P : Program} {id l0 : Nat} {Q : Exit → Act → World → Prop} {a : Act} {w : World} {l : List Oper} (hm : P.follows .mixedOrders = true) (hB : Region.lexB .any l.toArray = true) (hd : l.all (fun o => !isDefer o.op) = true)
    (h : wpQuiet P l.toArray (fun w' => ∃ x : Ext w.heap.size w, w' = x.world) (fun a' => ∀ x : Ext w.heap.size w, Q .normal a' x.world) l a) : (Code.region id l.toArray true).wpIn (Fence.wide.inRound l0) 0 P Q a w := by
  have key : (Code.region id l.toArray true).wpIn (Fence.wide.inRound l0) 0 P (fun e a w => e = .normal ∧ Q .normal a w) a w := by
    refine wpIn_region_draw fun t => wpOpsIn_of_wpOps l0 (fun _ _ h => by cases h.1) (fun i o ho => ?_) _ _ _ ?_
    · have hmem : o ∈ l := by
        have := Array.mem_of_getElem? ho
        simpa using this
      have := List.all_eq_true.1 hd o hmem
      simpa using this
    · simp only [Region.schedule, hm, Bool.true_or, if_true]
      refine wpAny_sound l.toArray.size t _ a _ ?_
      simp only [Region.lexB, Bool.and_eq_true] at hB
      refine wpAny_of_quiet (C := fun w' => ∃ x : Ext w.heap.size w, w' = x.world) (Q := fun a' => ∀ x : Ext w.heap.size w, Q .normal a' x.world) (fun a' w' hw' h => by obtain ⟨x, rfl⟩ := hw'; exact ⟨rfl, h x⟩) _ _ _ _ ⟨⟨w.drew, (Below.refl _ _).drew⟩, rfl⟩ ?_
      have := wpAnyQ_lex (C := fun w' => ∃ x : Ext w.heap.size w, w' = x.world) (md := .any) hB.1 l.toArray.toList 0 (Array.replicate l.toArray.size false) a (by simp) (by simpa using hB.2) (by simpa using h)
      simpa using this
  refine wpIn_mono key (fun e a' w' he => ?_)
  obtain ⟨rfl, hq⟩ := he
  exact hq


/-- A region within a round, by whatever order. -/
theorem wpIn_region_of_any {P : Program} {id l0 : Nat} {Q : Exit → Act → World → Prop} {a : Act} {w : World} {l : List Oper} (hm : P.follows .mixedOrders = true) (hd : l.all (fun o => !isDefer o.op) = true)
    (h : wpAny P .any l.toArray (fun e a w => e = .normal ∧ Q .normal a w) l.toArray.size (Array.replicate l.toArray.size false) a { w with drawn := w.drawn + 1 }) : (Code.region id l.toArray true).wpIn (Fence.wide.inRound l0) 0 P Q a w := by
  have key : (Code.region id l.toArray true).wpIn (Fence.wide.inRound l0) 0 P (fun e a w => e = .normal ∧ Q .normal a w) a w := by
    refine wpIn_region_draw fun t => wpOpsIn_of_wpOps l0 (fun _ _ h => by cases h.1) (fun i o ho => ?_) _ _ _ ?_
    · have hmem : o ∈ l := by
        have := Array.mem_of_getElem? ho
        simpa using this
      have := List.all_eq_true.1 hd o hmem
      simpa using this
    · simp only [Region.schedule, hm, Bool.true_or, if_true]
      exact wpAny_sound l.toArray.size t _ a _ h
  refine wpIn_mono key (fun e a' w' he => ?_)
  obtain ⟨rfl, hq⟩ := he
  exact hq

/-- Reads ahead of one operation that writes, within a round. -/
theorem wpIn_region_still_tail {P : Program} {id l0 : Nat} {Q : Exit → Act → World → Prop} {a : Act} {w : World} {l : List Oper} (n : Nat) (hm : P.follows .mixedOrders = true) (hd : l.all (fun o => !isDefer o.op) = true) (hB : Region.lexTailB .any l.toArray n = true)
    (h : wpStill P l.toArray w.drew (fun a' => wpList P l.toArray (fun e a w => e = .normal ∧ Q .normal a w) (l.drop n) a' w.drew) (l.take n) a) : (Code.region id l.toArray true).wpIn (Fence.wide.inRound l0) 0 P Q a w := by
  simp only [Region.lexTailB, Bool.and_eq_true, decide_eq_true_eq] at hB
  obtain ⟨⟨⟨⟨hsel, hn⟩, hs⟩, hc⟩, hlex⟩ := hB
  have hn' : n < l.length := by simpa using hn
  have htl : (l.take n).length = n := by simp; omega
  have hdl : (l.drop n).length = l.toArray.size - n := by simp
  have inv0 : HeadInv .any l.toArray n (Array.replicate l.toArray.size false) :=
    ⟨by simp, fun j oj _ hl => (by rw [getD_replicate_false] at hl; cases hl), fun t _ ht => getD_in (by simpa using ht) (getD_replicate_false _ _)⟩
  have H := wpAnyL_lex (md := .any) (g := l.toArray.size - n) hsel hs hc hn (l.take n) 0 _ a (fun j hj => by
    have hj' : j < n := by rw [htl] at hj; exact hj
    simp [hj']) (by simpa using htl) inv0 (by rw [htl]; exact hlex) h
  refine wpIn_region_of_any hm hd ?_
  have := wpAny_of_head (Q' := fun e a w => e = .normal ∧ Q .normal a w) (g := l.toArray.size - n) (fun listed a' hL => by
    have := wpAny_of_seq (md := .any) (Q' := fun e a w => e = .normal ∧ Q .normal a w) (l.drop n) n listed a' { w with drawn := w.drawn + 1 } (fun j => by simp [List.getElem?_drop]) (by rw [hdl]; exact hL.1) hL.2
    rwa [hdl] at this) _ _ _ H
  rw [htl, show n + (l.toArray.size - n) = l.toArray.size by omega] at this
  exact this


theorem wpList_mapUpdate_run {P : Program} {ops : Array Oper} {rest : List Oper} {o : Oper} {a : Act} {w : World} {Q : Exit → Act → World → Prop} (hgd : o.guard = none) (t : TypeId) (m x v : Operand) (ho : o.op = .mapUpdate t m x v) (w' : World)
    (hrun : (Instr.mapUpdate t (a.eval m) (a.eval x) (a.eval v)).run P w = .ok () w') (h : wpList P ops Q rest (a.put o.dst undef) w') : wpList P ops Q (o :: rest) a w :=
  wpList_plain hgd fun K hK => by
    unfold Oper.wp execOp
    simp only [ho, Sem.run_bind, hrun, Result.andThen_ok, Sem.run_pure]
    exact hK _ _ h


theorem wp_region_tail {P : Program} {id : Nat} {Q : Exit → Act → World → Prop} {a : Act} {w : World} {l : List Oper} (n : Nat) (hm : P.follows .mixedOrders = true) (hB : Region.lexTailB .any l.toArray n = true)
    (h : wpStill P l.toArray w.drew (fun a' => wpList P l.toArray Q (l.drop n) a' w.drew) (l.take n) a) : (Code.region id l.toArray true).wp P Q a w := wp_region_still_tail n hm hB h

theorem wpStill_load_run {P : Program} {ops : Array Oper} {rest : List Oper} {o : Oper} {a : Act} {w : World} {Q : Act → Prop} (hgd : o.guard = none) (ty : TypeId) (x : Operand) (ho : o.op = .load ty x) (v : Value)
    (hrun : (Instr.loadAt ty (a.eval x)).run P w = .ok v w) (h : wpStill P ops w Q rest (a.put o.dst v)) : wpStill P ops w Q (o :: rest) a :=
  wpStill_step fun K hK => by
    simp only [Region.wanted, hgd, if_true]
    unfold Oper.still execOp
    simp only [ho, Sem.run_bind, hrun, Result.andThen_ok, Sem.run_pure, Oper.stillUpon]
    exact ⟨trivial, hK _ h⟩

theorem wpStill_lookup_run {P : Program} {ops : Array Oper} {rest : List Oper} {o : Oper} {a : Act} {w : World} {Q : Act → Prop} (hgd : o.guard = none) (ty : TypeId) (x y : Operand) (b : Bool) (ho : o.op = .lookup ty x y b) (v : Value)
    (hrun : (Instr.lookup ty (a.eval x) (a.eval y) b).run P w = .ok v w) (h : wpStill P ops w Q rest (a.put o.dst v)) : wpStill P ops w Q (o :: rest) a :=
  wpStill_step fun K hK => by
    simp only [Region.wanted, hgd, if_true]
    unfold Oper.still execOp
    simp only [ho, Sem.run_bind, hrun, Result.andThen_ok, Sem.run_pure, Oper.stillUpon]
    exact ⟨trivial, hK _ h⟩

/-- A whole aggregate out of its block. -/
theorem run_loadAt_row {P : Program} {w : World} {g : Nat} {t ty : TypeId} {cs : Array Value} {fr : Nat × Nat} {d : TypeDesc} (hg : w.heap[g]? = some (.cells cs t fr))
    (hu : P.underlying ty = some d) (hd : (match d with | .struct _ | .array _ _ => true | _ => false) = true) (hi : (P.info? ty).map (·.size) = some cs.size) :
    (Instr.loadAt ty (.pointer (some ⟨g, 0, none⟩))).run P w = .ok (.agg cs) w := by
  simp only [Instr.loadAt, Instr.sureAddr, Sem.run_bind, Sem.run_pure, Result.andThen_ok]
  exact run_loadVar_row w g t ty cs fr d hg hu hd hi

end Go.Proofs.YtgffifleflkjoaaGreat

namespace Go.Proofs.YtgffifleflkjoaaGreat
open Go.RowKit

theorem run_range_map {P : Program} {w : World} (t kt et : TypeId) (m : Nat) (es : Array MapEntry) (clock : Nat) (ht : P.underlying t = some (.map kt et)) (hm : w.heap[m]? = some (.map es clock)) :
    (Instr.range t (.map (some m))).run P w = .ok (.pointer (some ⟨w.heap.size, 0, none⟩)) (w.alloc (.mapIter (some m) clock #[] clock)) := by
  simp [Instr.range, Sem.run_bind, run_underlying ht, getObj, Sem.run, hm]

theorem filter_all {α : Type} (p : α → Bool) (l : Array α) (h : ∀ e ∈ l, p e = true) : l.filter p = l := Array.filter_eq_self.2 h
theorem filter_none {α : Type} (p : α → Bool) (l : Array α) (h : ∀ e ∈ l, p e = false) : l.filter p = #[] := Array.filter_eq_empty_iff.2 (fun e he => by simp [h e he])

theorem run_next_some {P : Program} {w : World} (r m : Nat) (es : Array MapEntry) (clock : Nat) (seen : Array Nat) (t : TypeId) (hr : w.heap[r]? = some (.mapIter (some m) clock seen clock)) (hm : w.heap[m]? = some (.map es clock))
    (hb : ∀ e ∈ es, e.born < clock) (hne : (es.filter fun e => !seen.contains e.born) ≠ #[]) :
    ∃ e w1, e ∈ es ∧ seen.contains e.born = false ∧ (w1 = w ∨ w1 = w.drew) ∧
      (Instr.next (.pointer (some ⟨r, 0, none⟩)) false t).run P w = .ok (.tuple #[.bool true, e.key, e.val]) (w1.putObj r (.mapIter (some m) clock (seen.push e.born) clock)) := by
  generalize hleft : (es.filter fun e => !seen.contains e.born) = left at hne
  have hmem : ∀ e ∈ left, e ∈ es ∧ seen.contains e.born = false := by
    intro e he
    rw [← hleft] at he
    simpa using he
  have hold : left.filter (fun e => decide (e.born < clock)) = left := filter_all _ _ (fun e he => by simpa using hb e (hmem e he).1)
  have hnew : left.filter (fun e => decide (e.born ≥ clock)) = #[] := filter_none _ _ (fun e he => by have := hb e (hmem e he).1; simp; omega)
  have hpos : 0 < left.size := by
    rcases Nat.eq_zero_or_pos left.size with h | h
    · exact absurd (Array.eq_empty_of_size_eq_zero h) hne
    · exact h
  have hall : (!seen.isEmpty && !es.isEmpty && es.all (fun x => decide (x.born ≥ clock))) = false := by
    have h0 := hmem left[0] (Array.getElem_mem hpos)
    have : es.all (fun x => decide (x.born ≥ clock)) = false := by
      rw [Array.all_eq_false]
      obtain ⟨i, hi, he⟩ := Array.mem_iff_getElem.1 h0.1
      exact ⟨i, hi, by rw [he]; have := hb _ h0.1; simp; omega⟩
    rw [this]
    simp
  have hemp : left.isEmpty = false := by
    cases h : left.isEmpty
    · rfl
    · rw [Array.isEmpty_iff] at h; exact absurd h hne
  have h1 : (getObj r).run P w = .ok (.mapIter (some m) clock seen clock) w := by simp [getObj, Sem.run, hr]
  have h2 : (getObj m).run P w = .ok (.map es clock) w := by simp [getObj, Sem.run, hm]
  have h3 : ∀ (w1 : World) (o : Obj), w1.heap = w.heap → (setObj r o).run P w1 = .ok () (w1.putObj r o) := by
    intro w1 o hw
    simp [setObj, Sem.run, hw, hr, World.putObj]
  have hsz : (#[] ++ Array.map some (left ++ #[]) : Array (Option MapEntry)) = Array.map some left := by simp
  by_cases hf : (Question.mapNext left.size).forced = true
  · refine ⟨left[0], w, (hmem _ (Array.getElem_mem hpos)).1, (hmem _ (Array.getElem_mem hpos)).2, Or.inl rfl, ?_⟩
    have hc : (choose (Question.mapNext left.size)).run P w = .ok 0 w := by simp [hf]
    have hget : (Array.map some left)[0]? = some (some left[0]) := by simp [hpos]
    simp only [Instr.next, Sem.run_bind, h1, h2, Result.andThen_ok, hall, Bool.false_eq_true, if_false, Sem.run_pure, hleft, hold, hnew, hemp, hsz, Array.size_map, hc, hget, h3 w _ rfl]
  · have hq : (Question.mapNext left.size).cut (w.tape w.drawn (.mapNext left.size)) < left.size := Nat.mod_lt _ hpos
    generalize hi : (Question.mapNext left.size).cut (w.tape w.drawn (.mapNext left.size)) = i at hq
    refine ⟨left[i], w.drew, (hmem _ (Array.getElem_mem hq)).1, (hmem _ (Array.getElem_mem hq)).2, Or.inr rfl, ?_⟩
    have hc : (choose (Question.mapNext left.size)).run P w = .ok i w.drew := by simp [hf, hi]
    have hget : (Array.map some left)[i]? = some (some left[i]) := by simp [hq]
    simp only [Instr.next, Sem.run_bind, h1, h2, Result.andThen_ok, hall, Bool.false_eq_true, if_false, Sem.run_pure, hleft, hold, hnew, hemp, hsz, Array.size_map, hc, hget, h3 w.drew _ rfl]

theorem run_next_none {P : Program} {w : World} (r m : Nat) (es : Array MapEntry) (clock : Nat) (seen : Array Nat) (t : TypeId) (hr : w.heap[r]? = some (.mapIter (some m) clock seen clock)) (hm : w.heap[m]? = some (.map es clock))
    (hb : ∀ e ∈ es, e.born < clock) (hne : (es.filter fun e => !seen.contains e.born) = #[]) :
    (Instr.next (.pointer (some ⟨r, 0, none⟩)) false t).run P w = .ok (.tuple #[.bool false]) w := by
  have hall : (!seen.isEmpty && !es.isEmpty && es.all (fun x => decide (x.born ≥ clock))) = false := by
    by_cases he : es.isEmpty = true
    · simp [he]
    · have hpos : 0 < es.size := by
        rcases Nat.eq_zero_or_pos es.size with h | h
        · exact absurd (by rw [Array.isEmpty_iff]; exact Array.eq_empty_of_size_eq_zero h) he
        · exact h
      have : es.all (fun x => decide (x.born ≥ clock)) = false := by
        rw [Array.all_eq_false]
        exact ⟨0, hpos, by have := hb _ (Array.getElem_mem hpos); simp; omega⟩
      rw [this]
      simp
  have h1 : (getObj r).run P w = .ok (.mapIter (some m) clock seen clock) w := by simp [getObj, Sem.run, hr]
  have h2 : (getObj m).run P w = .ok (.map es clock) w := by simp [getObj, Sem.run, hm]
  have hc : (choose (Question.mapNext 1)).run P w = .ok 0 w := by simp [Question.forced]
  have e1 : (#[] : Array MapEntry).filter (fun e => decide (e.born < clock)) = #[] := rfl
  have e2 : (#[] : Array MapEntry).filter (fun e => decide (e.born ≥ clock)) = #[] := rfl
  have hsz : ((if (#[] : Array MapEntry).isEmpty = true then #[none] else #[]) ++ Array.map some (#[] ++ #[]) : Array (Option MapEntry)) = #[none] := by simp
  have hget : (#[none] : Array (Option MapEntry))[0]? = some none := rfl
  simp only [Instr.next, Sem.run_bind, h1, h2, Result.andThen_ok, hall, Bool.false_eq_true, if_false, Sem.run_pure, hne, e1, e2, hsz]
  simp only [List.size_toArray, List.length_cons, List.length_nil, Nat.zero_add, hc, Result.andThen_ok, hget, Sem.run_pure]

theorem run_entry {P : Program} {w : World} (r m : Nat) (es : Array MapEntry) (clock : Nat) (seen : Array Nat) (e : MapEntry) (hr : w.heap[r]? = some (.mapIter (some m) clock (seen.push e.born) clock)) (hm : w.heap[m]? = some (.map es clock))
    (hf : es.find? (fun x => x.born == e.born) = some e) :
    (Instr.entry (.pointer (some ⟨r, 0, none⟩))).run P w = .ok (.tuple #[e.key, e.val]) w := by
  simp [Instr.entry, Sem.run_bind, getObj, Sem.run, hr, hm, hf]

end Go.Proofs.YtgffifleflkjoaaGreat

namespace Go.Proofs.YtgffifleflkjoaaGreat
open Go.RowKit Dm

abbrev tDisk : Nat := 95
abbrev tStep : Nat := 115
abbrev tByte : Nat := 5

/-- The cells of bytes. -/
def bval (b : UInt8) : Value := .int .u8 b.toNat

/-- A slice that reads as bytes, in a block of F. -/
def BytesAt (h : Array Obj) (F : Nat → Prop) (v : Value) (l : List UInt8) : Prop :=
  (v = .slice none 0 0 ∧ l = []) ∨ ∃ (b o cap : Nat) (c : Array Value) (t : TypeId) (fr : Nat × Nat), v = .slice (some ⟨b, o, none⟩) l.length cap ∧ l.length ≤ cap ∧ cap ≤ 9223372036854775807 ∧
    F b ∧ h[b]? = some (.cells c t fr) ∧ ∀ i x, l[i]? = some x → c[o + i]? = some (bval x)

/-- A map of sectors. -/
def SecMap (h : Array Obj) (m : Nat) (f : Int → List UInt8) : Prop :=
  ∃ (es : Array MapEntry) (clock : Nat), h[m]? = some (.map es clock) ∧ (∀ e ∈ es, e.born < clock) ∧
    (∀ e ∈ es, ∃ n : Int, e.key = .int .i64 n ∧ e.val = .agg ((f n).map bval).toArray ∧ (f n).length = 256) ∧
    (∀ n : Int, (∀ e ∈ es, e.key ≠ .int .i64 n) → f n = zeros) ∧ (es.toList.map (·.key)).Nodup ∧ (es.toList.map (·.born)).Nodup

/-- The seven cells of a step: what it does, in part, its tape, what it is, its bytes. -/
def StepAt (h : Array Obj) (F : Nat → Prop) (s : Step) (does part tape w0 w1 w2 str : Value) : Prop :=
  w0 = .int .i64 s.what ∧ w1 = .int .i64 s.n ∧ w2 = .int .i64 s.many ∧ (∃ ba : ByteArray, str = .string ba ∧ ba.data.toList = s.b) ∧
  ((s.what = 1 ∧ tape = .int .i64 (-1) ∧ ∃ bn bx : Nat, F bn ∧ F bx ∧ does ≠ does ∧
      part = part ∧ h[bn]? = some (.cells #[.int .i64 s.n] 3 (0, 0)) ∧ h[bx]? = some (.cells (s.b.map bval).toArray 135 (0, 0))) ∨
   (s.what = 2 ∧ tape = .int .i64 s.n ∧ ∃ bt bx bt' bx' : Nat, ∃ v : Value, F bt ∧ F bx ∧ F bt' ∧ F bx' ∧ does = .func (.func 142) #[] #[.pointer (some ⟨bt', 0, none⟩), .pointer (some ⟨bx', 0, none⟩)] ∧
      part = .func (.func 101) #[] #[.pointer (some ⟨bt, 0, none⟩), .pointer (some ⟨bx, 0, none⟩)] ∧ h[bt]? = some (.cells #[.int .i64 s.n] 3 (0, 0)) ∧ h[bt']? = some (.cells #[.int .i64 s.n] 3 (0, 0)) ∧
      h[bx]? = some (.cells #[v] 31 (0, 0)) ∧ h[bx']? = some (.cells #[v] 31 (0, 0)) ∧ BytesAt h F v s.b) ∨
   (s.what = 3 ∧ tape = .int .i64 s.n ∧ ∃ bt bn : Nat, F bt ∧ F bn ∧ does = .func (.func 122) #[] #[.pointer (some ⟨bt, 0, none⟩), .pointer (some ⟨bn, 0, none⟩)] ∧
      part = .func (.func 123) #[] #[] ∧ h[bt]? = some (.cells #[.int .i64 s.n] 3 (0, 0)) ∧ h[bn]? = some (.cells #[.int .i64 s.many] 3 (0, 0))))

/-- A slice of steps. -/
def StepsAt (h : Array Obj) (F : Nat → Prop) (v : Value) (l : List Step) : Prop :=
  (v = .slice none 0 0 ∧ l = []) ∨ ∃ (b o cap : Nat) (c : Array Value) (t : TypeId) (fr : Nat × Nat), v = .slice (some ⟨b, o, none⟩) l.length cap ∧ l.length ≤ cap ∧ cap ≤ 9223372036854775807 ∧
    F b ∧ h[b]? = some (.cells c t fr) ∧
      ∀ i s, l[i]? = some s → ∃ d p tp w0 w1 w2 st, c[o + i * 7]? = some d ∧ c[o + i * 7 + 1]? = some p ∧ c[o + i * 7 + 2]? = some tp ∧ c[o + i * 7 + 3]? = some w0 ∧ c[o + i * 7 + 4]? = some w1 ∧ c[o + i * 7 + 5]? = some w2 ∧ c[o + i * 7 + 6]? = some st ∧ StepAt h F s d p tp w0 w1 w2 st

def diskC (m : Nat) (t0 t1 t2 t3 : Value) (ml : Nat) (l0 l1 l2 l3 wv : Value) (many most : Int) (dead stops : Bool) (after : Int) : Array Value :=
  #[.map (some m), t0, t1, t2, t3, .map (some ml), l0, l1, l2, l3, wv, .int .i64 many, .int .i64 most, .bool dead, .bool stops, .int .i64 after, .bool true]

structure DiskAt (h : Array Obj) (p m : Nat) (d : D) (F : Nat → Prop) : Prop where
  ok : d.ok
  cells : ∃ t0 t1 t2 t3 ml l0 l1 l2 l3 wv stops after, h[p]? = some (.cells (diskC m t0 t1 t2 t3 ml l0 l1 l2 l3 wv d.many d.room d.dead stops after) tDisk (0, 0)) ∧
    (d.stops = if stops then after else -1) ∧ (stops = true → 0 ≤ after) ∧
    SecMap h m d.stand.sec ∧ SecMap h ml d.lasts.sec ∧ F ml ∧ ¬ F m ∧ ¬ F p ∧ m ≠ p ∧
    BytesAt h F t0 (d.stand.tp 0) ∧ BytesAt h F t1 (d.stand.tp 1) ∧ BytesAt h F t2 (d.stand.tp 2) ∧ BytesAt h F t3 (d.stand.tp 3) ∧
    BytesAt h F l0 (d.lasts.tp 0) ∧ BytesAt h F l1 (d.lasts.tp 1) ∧ BytesAt h F l2 (d.lasts.tp 2) ∧ BytesAt h F l3 (d.lasts.tp 3) ∧ StepsAt h F wv d.waits

end Go.Proofs.YtgffifleflkjoaaGreat

namespace Go.Proofs.YtgffifleflkjoaaGreat
open Go.RowKit Dm

abbrev tSec : Nat := 135
abbrev tMap : Nat := 89

theorem find_keys (n : Int) : ∀ (l : List MapEntry) (i : Nat), (∀ e ∈ l, ∃ k : Int, e.key = .int .i64 k) →
    (Instr.findNow (.int .i64) (.int .i64 n) l i = some none ∧ ∀ e ∈ l, e.key ≠ .int .i64 n) ∨
    (∃ j e, l[j]? = some e ∧ e.key = .int .i64 n ∧ Instr.findNow (.int .i64) (.int .i64 n) l i = some (some (i + j, e.val))) := by
  intro l
  induction l with
  | nil => intro i _; exact Or.inl ⟨rfl, by simp⟩
  | cons e l ih =>
    intro i h
    obtain ⟨k, hk⟩ := h e (List.mem_cons_self ..)
    by_cases hkn : n = k
    · subst hkn
      refine Or.inr ⟨0, e, rfl, hk, ?_⟩
      simp [Instr.findNow, hk, Instr.sameNow]
    · have hne : (n == k) = false := by simp [hkn]
      rcases ih (i + 1) (fun e he => h e (List.mem_cons_of_mem _ he)) with ⟨h1, h2⟩ | ⟨j, e', h1, h2, h3⟩
      · refine Or.inl ⟨?_, ?_⟩
        · simp [Instr.findNow, hk, Instr.sameNow, hne, h1]
        · intro x hx
          rcases List.mem_cons.1 hx with rfl | hx
          · rw [hk]; intro e; apply hkn; simpa using e.symm
          · exact h2 x hx
      · refine Or.inr ⟨j + 1, e', by simpa using h1, h2, ?_⟩
        simp [Instr.findNow, hk, Instr.sameNow, hne, h3]
        omega

theorem run_look_sec {w : World} {m : Nat} {f : Int → List UInt8} (h : SecMap w.heap m f) (n : Int) :
    (Instr.lookup tMap (.map (some m)) (.int .i64 n) false).run Tryz.prog w = .ok (.agg ((f n).map bval).toArray) w := by
  obtain ⟨es, clock, hm, hb, he, hz, hn, hd⟩ := h
  have hk : ∀ e ∈ es.toList, ∃ k : Int, e.key = .int .i64 k := fun e hx => by
    obtain ⟨k, h1, _⟩ := he e (by simpa using hx)
    exact ⟨k, h1⟩
  have zv : ((zeros.map bval).toArray : Array Value) = Array.replicate 256 (.int .u8 0) := by rw [zeros, List.map_replicate, List.toArray_replicate]; rfl
  rcases find_keys n es.toList 0 hk with ⟨h1, h2⟩ | ⟨j, e, h1, h2, h3⟩
  · rw [run_lookup_at tMap 3 tSec (.int .i64) m es clock _ (.agg (Array.replicate 256 (.int .u8 0))) false none Tryz.underlying89 Tryz.underlying3 rfl hm h1 (by kernel_rfl)]
    rw [hz n (fun e hx => h2 e (by simpa using hx)), zv]
    rfl
  · rw [run_lookup_at tMap 3 tSec (.int .i64) m es clock _ (.agg (Array.replicate 256 (.int .u8 0))) false (some (0 + j, e.val)) Tryz.underlying89 Tryz.underlying3 rfl hm h3 (by kernel_rfl)]
    have hin : e ∈ es := by simpa using List.mem_of_getElem? h1
    obtain ⟨k, hk1, hk2, _⟩ := he e hin
    have : n = k := by rw [h2] at hk1; simpa using hk1
    subst this
    rw [hk2]
    rfl

theorem run_mapUpdate_old {P : Program} {w : World} (mt kt et : TypeId) (r : Nat) (es : Array MapEntry) (clock : Nat) (n : Int) (val v0 : Value) (i : Nat)
    (hm : P.underlying mt = some (.map kt et)) (hk : P.underlying kt = some (.int .i64)) (hb : w.heap[r]? = some (.map es clock))
    (hf : Instr.findNow (.int .i64) (.int .i64 n) es.toList 0 = some (some (i, v0))) (hi : (es[i]?).map (·.key) = some (.int .i64 n)) :
    (Instr.mapUpdate mt (.map (some r)) (.int .i64 n) val).run P w = .ok () (w.putObj r (.map (es.modify i fun e => { e with key := .int .i64 n, val := val }) clock)) := by
  have hs : Instr.sameBits 10000 (.int .i64 n) (.int .i64 n) = true := by
    show (IntKind.i64 == IntKind.i64 && n == n) = true
    simp
  simp only [Instr.mapUpdate, Sem.run_bind, run_underlying hm, Result.andThen_ok]
  have hgd : ((es[i]?).map (fun x : MapEntry => x.key)).getD (.int .i64 n) = .int .i64 n := by rw [hi]; rfl
  simp [getObj, Sem.run, hb, run_checkKey_plain _ _ _ hk rfl, Instr.findKey, run_underlying hk, hf, setObj, Instr.keyThatStays, World.putObj]
  intro hc
  rw [hgd, hs] at hc
  cases hc

theorem mem_modify {α : Type} (es : Array α) (i : Nat) (g : α → α) (x : α) (h : x ∈ es.modify i g) : (∃ j, j ≠ i ∧ es[j]? = some x) ∨ (∃ y, es[i]? = some y ∧ x = g y) := by
  obtain ⟨j, hj, rfl⟩ := Array.mem_iff_getElem.1 h
  have hj' : j < es.size := by simpa using hj
  rw [Array.getElem_modify]
  by_cases e : i = j
  · subst e
    exact Or.inr ⟨es[i], by simp [hj'], by simp⟩
  · exact Or.inl ⟨j, fun h => e h.symm, by simp [hj', e]⟩

theorem run_put_sec {w : World} {m : Nat} {f : Int → List UInt8} (h : SecMap w.heap m f) (n : Int) (b : List UInt8) (hl : b.length = 256) :
    ∃ o, (Instr.mapUpdate tMap (.map (some m)) (.int .i64 n) (.agg (b.map bval).toArray)).run Tryz.prog w = .ok () (w.putObj m o) ∧ SecMap (w.putObj m o).heap m (upd f n b) := by
  obtain ⟨es, clock, hm, hb, he, hz, hn, hd⟩ := h
  have hlt : m < w.heap.size := (Array.getElem?_eq_some_iff.1 hm).1
  have hk : ∀ e ∈ es.toList, ∃ k : Int, e.key = .int .i64 k := fun e hx => by
    obtain ⟨k, h1, _⟩ := he e (by simpa using hx)
    exact ⟨k, h1⟩
  rcases find_keys n es.toList 0 hk with ⟨h1, h2⟩ | ⟨j, e, h1, h2, h3⟩
  · refine ⟨_, run_mapUpdate_new tMap 3 tSec (.int .i64) m es clock _ _ Tryz.underlying89 Tryz.underlying3 rfl hm h1, ?_⟩
    refine ⟨_, _, World.putObj_heap_same hlt, ?_, ?_, ?_, ?_, ?_⟩
    · intro e hx
      rcases Array.mem_push.1 hx with hx | rfl
      · have := hb e hx; omega
      · simp
    · intro e hx
      rcases Array.mem_push.1 hx with hx | rfl
      · obtain ⟨k, g1, g2, g3⟩ := he e hx
        have hne : k ≠ n := fun e' => h2 e (by simpa using hx) (by rw [g1, e'])
        exact ⟨k, g1, by rw [upd_other _ _ _ _ hne]; exact g2, by rw [upd_other _ _ _ _ hne]; exact g3⟩
      · exact ⟨n, rfl, by rw [upd_same], by rw [upd_same]; exact hl⟩
    · intro k hx
      have hkn : k ≠ n := fun e' => hx ⟨.int .i64 n, .agg (b.map bval).toArray, clock⟩ (by simp) (by rw [e'])
      rw [upd_other _ _ _ _ hkn]
      exact hz k (fun e he' => hx e (Array.mem_push.2 (Or.inl he')))
    · rw [Array.toList_push, List.map_append, List.nodup_append]
      refine ⟨hn, by simp, ?_⟩
      intro x hx y hy
      simp at hy
      subst hy
      obtain ⟨e, he', rfl⟩ := List.mem_map.1 hx
      exact h2 e he'
    · rw [Array.toList_push, List.map_append, List.nodup_append]
      refine ⟨hd, by simp, ?_⟩
      intro x hx y hy
      simp at hy
      subst hy
      obtain ⟨e, he', rfl⟩ := List.mem_map.1 hx
      have := hb e (by simpa using he')
      omega
  · have hej : es[j]? = some e := by simpa using h1
    have h3' : Instr.findNow (.int .i64) (.int .i64 n) es.toList 0 = some (some (j, e.val)) := by rw [h3, Nat.zero_add]
    refine ⟨_, run_mapUpdate_old tMap 3 tSec m es clock n _ _ j Tryz.underlying89 Tryz.underlying3 hm h3' (by rw [hej]; simp [h2]), ?_⟩
    have huniq : ∀ i x, es[i]? = some x → x.key = .int .i64 n → i = j := by
      intro i x hi hx
      have e1 : (es.toList.map (·.key))[i]? = some (.int .i64 n) := by simp [hi, hx]
      have e2 : (es.toList.map (·.key))[j]? = some (.int .i64 n) := by simp [hej, h2]
      have l1 := (List.getElem?_eq_some_iff.1 e1)
      have l2 := (List.getElem?_eq_some_iff.1 e2)
      exact (List.getElem_inj hn).1 (l1.2.trans l2.2.symm)
    refine ⟨_, _, World.putObj_heap_same hlt, ?_, ?_, ?_, ?_, ?_⟩
    · intro x hx
      rcases mem_modify _ _ _ _ hx with ⟨i, hi, hx⟩ | ⟨y, hy, rfl⟩
      · exact hb x (Array.mem_of_getElem? hx)
      · exact hb y (Array.mem_of_getElem? hy)
    · intro x hx
      rcases mem_modify _ _ _ _ hx with ⟨i, hi, hx⟩ | ⟨y, hy, rfl⟩
      · obtain ⟨k, g1, g2, g3⟩ := he x (Array.mem_of_getElem? hx)
        have hne : k ≠ n := fun e' => hi (huniq i x hx (by rw [g1, e']))
        exact ⟨k, g1, by rw [upd_other _ _ _ _ hne]; exact g2, by rw [upd_other _ _ _ _ hne]; exact g3⟩
      · exact ⟨n, rfl, by rw [upd_same], by rw [upd_same]; exact hl⟩
    · intro k hx
      have hjs : j < es.size := (Array.getElem?_eq_some_iff.1 hej).1
      have hkn : k ≠ n := fun e' => hx { e with key := .int .i64 n, val := .agg (b.map bval).toArray } (by
        have : (es.modify j fun e => { e with key := .int .i64 n, val := .agg (b.map bval).toArray })[j]? = some { e with key := .int .i64 n, val := .agg (b.map bval).toArray } := by
          rw [Array.getElem?_modify]; simp [hej]
        exact Array.mem_of_getElem? this) (by rw [e'])
      rw [upd_other _ _ _ _ hkn]
      refine hz k (fun x hx' hxk => ?_)
      obtain ⟨i, hi, rfl⟩ := Array.mem_iff_getElem.1 hx'
      have hij : i ≠ j := by
        rintro rfl
        have : es[i] = e := by have := (Array.getElem?_eq_some_iff.1 hej).2; exact this
        rw [this, h2] at hxk
        apply hkn
        simpa using hxk.symm
      refine hx es[i] ?_ hxk
      have : (es.modify j fun e => { e with key := .int .i64 n, val := .agg (b.map bval).toArray })[i]? = some es[i] := by
        rw [Array.getElem?_modify, if_neg (fun h => hij h.symm)]; simp [hi]
      exact Array.mem_of_getElem? this
    · have : (es.modify j fun e => { e with key := .int .i64 n, val := .agg (b.map bval).toArray }).toList.map (·.key) = es.toList.map (·.key) := by
        apply List.ext_getElem?
        intro i
        simp only [List.getElem?_map, Array.getElem?_toList, Array.getElem?_modify]
        by_cases hij : j = i
        · subst hij; simp [hej, h2]
        · simp [hij]
      rw [this]
      exact hn
    · have : (es.modify j fun e => { e with key := .int .i64 n, val := .agg (b.map bval).toArray }).toList.map (·.born) = es.toList.map (·.born) := by
        apply List.ext_getElem?
        intro i
        simp only [List.getElem?_map, Array.getElem?_toList, Array.getElem?_modify]
        by_cases hij : j = i
        · subst hij; simp [hej]
        · simp [hij]
      rw [this]
      exact hd

end Go.Proofs.YtgffifleflkjoaaGreat

namespace Go.Proofs.YtgffifleflkjoaaGreat
open Go.RowKit Dm

theorem BytesAt.stays {h h' : Array Obj} {F F' : Nat → Prop} {v : Value} {l : List UInt8} (x : BytesAt h F v l) (hs : ∀ k, F k → h'[k]? = h[k]?) (hF : ∀ k, F k → F' k) : BytesAt h' F' v l := by
  rcases x with x | ⟨b, o, cap, c, t, fr, h1, h2, h3, g2, g3, g4⟩
  · exact Or.inl x
  · exact Or.inr ⟨b, o, cap, c, t, fr, h1, h2, h3, hF _ g2, (hs _ g2).trans g3, g4⟩

theorem SecMap.stays {h h' : Array Obj} {m : Nat} {f : Int → List UInt8} (x : SecMap h m f) (hs : h'[m]? = h[m]?) : SecMap h' m f := by
  obtain ⟨es, clock, h1, h2⟩ := x
  exact ⟨es, clock, hs.trans h1, h2⟩

theorem StepAt.stays {h h' : Array Obj} {F F' : Nat → Prop} {s : Step} {a b c d e f g : Value} (x : StepAt h F s a b c d e f g) (hs : ∀ k, F k → h'[k]? = h[k]?) (hF : ∀ k, F k → F' k) : StepAt h' F' s a b c d e f g := by
  obtain ⟨h1, h2, h3, h4, h5⟩ := x
  refine ⟨h1, h2, h3, h4, ?_⟩
  rcases h5 with ⟨g1, g2, bn, bx, f1, f2, g3, g4, g5, g6⟩ | ⟨g1, g2, bt, bx, bt', bx', v, f1, f2, f3, f4, g3, g4, g5, g6, g7, g8, g9⟩ | ⟨g1, g2, bt, bn, f1, f2, g3, g4, g5, g6⟩
  · exact Or.inl ⟨g1, g2, bn, bx, hF _ f1, hF _ f2, g3, g4, (hs _ f1).trans g5, (hs _ f2).trans g6⟩
  · exact Or.inr (Or.inl ⟨g1, g2, bt, bx, bt', bx', v, hF _ f1, hF _ f2, hF _ f3, hF _ f4, g3, g4, (hs _ f1).trans g5, (hs _ f3).trans g6, (hs _ f2).trans g7, (hs _ f4).trans g8, g9.stays hs hF⟩)
  · exact Or.inr (Or.inr ⟨g1, g2, bt, bn, hF _ f1, hF _ f2, g3, g4, (hs _ f1).trans g5, (hs _ f2).trans g6⟩)

theorem StepsAt.stays {h h' : Array Obj} {F F' : Nat → Prop} {v : Value} {l : List Step} (x : StepsAt h F v l) (hs : ∀ k, F k → h'[k]? = h[k]?) (hF : ∀ k, F k → F' k) : StepsAt h' F' v l := by
  rcases x with x | ⟨b, o, cap, c, t, fr, h1, h2, h3, g2, g3, g4⟩
  · exact Or.inl x
  · refine Or.inr ⟨b, o, cap, c, t, fr, h1, h2, h3, hF _ g2, (hs _ g2).trans g3, fun i s hi => ?_⟩
    obtain ⟨d, p, tp, w0, w1, w2, st, e0, e1, e2, e3, e4, e5, e6, e7⟩ := g4 i s hi
    exact ⟨d, p, tp, w0, w1, w2, st, e0, e1, e2, e3, e4, e5, e6, e7.stays hs hF⟩

/-- A disk stays where its blocks do. -/
theorem DiskAt.stays {h h' : Array Obj} {p m : Nat} {d : D} {F : Nat → Prop} (x : DiskAt h p m d F) (hp : h'[p]? = h[p]?) (hm : h'[m]? = h[m]?) (hs : ∀ k, F k → h'[k]? = h[k]?) : DiskAt h' p m d F := by
  obtain ⟨ok, t0, t1, t2, t3, ml, l0, l1, l2, l3, wv, stops, after, c1, c2, c3, c4, c5, c6, c7, c8, c9, b0, b1, b2, b3, b4, b5, b6, b7, st⟩ := x
  exact ⟨ok, t0, t1, t2, t3, ml, l0, l1, l2, l3, wv, stops, after, hp.trans c1, c2, c3, c4.stays hm, c5.stays (hs _ c6), c6, c7, c8, c9, b0.stays hs (fun _ h => h), b1.stays hs (fun _ h => h), b2.stays hs (fun _ h => h), b3.stays hs (fun _ h => h),
    b4.stays hs (fun _ h => h), b5.stays hs (fun _ h => h), b6.stays hs (fun _ h => h), b7.stays hs (fun _ h => h), st.stays hs (fun _ h => h)⟩

end Go.Proofs.YtgffifleflkjoaaGreat

namespace Go.Proofs.YtgffifleflkjoaaGreat
open Go.RowKit Dm

theorem num_c (n : Int) (w : World) : Calls Tryz.prog 12 #[.int .i64 n] w fun e w' => e = .returned (.int .i64 n) ∧ w = w' := by
  go_enter Tryz.func12, Tryz.ntmps12
  go_wp2
  go_ret
  exact ⟨rfl, rfl⟩

theorem none_nil (w : World) : Calls Tryz.prog 45 #[.pointer none] w fun e w' => e = .returned (.bool true) ∧ w = w' := by
  go_enter Tryz.func45, Tryz.ntmps45
  go_wp2
  go_ret
  exact ⟨rfl, rfl⟩

theorem none_at (p : Nat) (made : Bool) (w : World) (h : w.cell? ⟨p, 16, none⟩ = some (.bool made)) :
    Calls Tryz.prog 45 #[.pointer (some ⟨p, 0, none⟩)] w fun e w' => e = .returned (.bool (!made)) ∧ w = w' := by
  cases made
  all_goals
    go_enter Tryz.func45, Tryz.ntmps45
    go_wp2
    go_ret
    exact ⟨rfl, rfl⟩

theorem picked_c (k n : Int) (w : World) (hk : -9223372036854775808 ≤ k) (hk' : k ≤ 9223372036854775807) (h1 : 1 ≤ n) (h2 : n ≤ 1152921504606846976) :
    Calls Tryz.prog 46 #[.int .i64 k, .int .i64 n] w fun e w' => e = .returned (.int .i64 (pick k n)) ∧ w = w' := by
  have b1 : -n < k.tmod n := Int.lt_tmod_of_pos _ (by omega)
  have b2 : k.tmod n < n := Int.tmod_lt_of_pos _ (by omega)
  go_enter Tryz.func46, Tryz.ntmps46
  go_wp2
  go_ret
  exact ⟨by rw [← pick_go]; rfl, rfl⟩

theorem room_at (p : Nat) (n : Int) (w : World) (h : w.cell? ⟨p, 16, none⟩ = some (.bool true)) (h2 : w.cell? ⟨p, 12, none⟩ = some (.int .i64 n)) :
    Calls Tryz.prog 80 #[.pointer (some ⟨p, 0, none⟩)] w fun e w' => e = .returned (.int .i64 n) ∧ w = w' := by
  go_enter Tryz.func80, Tryz.ntmps80
  go_wp2_with (go_at_call 45; refine (none_at _ true _ h).mono ?_; rintro e w' ⟨rfl, rfl⟩)
  go_ret
  exact ⟨rfl, rfl⟩

theorem waits_at (p : Nat) (a : Option Addr) (n c : Nat) (w : World) (h : w.cell? ⟨p, 16, none⟩ = some (.bool true)) (h2 : w.cell? ⟨p, 10, none⟩ = some (.slice a n c)) :
    Calls Tryz.prog 62 #[.pointer (some ⟨p, 0, none⟩)] w fun e w' => e = .returned (.int .i64 n) ∧ w = w' := by
  go_enter Tryz.func62, Tryz.ntmps62
  go_wp2_with (go_at_call 45; refine (none_at _ true _ h).mono ?_; rintro e w' ⟨rfl, rfl⟩)
  go_ret
  exact ⟨rfl, rfl⟩

theorem dead_at (p : Nat) (d : Bool) (w : World) (h : w.cell? ⟨p, 16, none⟩ = some (.bool true)) (h2 : w.cell? ⟨p, 13, none⟩ = some (.bool d)) :
    Calls Tryz.prog 63 #[.pointer (some ⟨p, 0, none⟩)] w fun e w' => e = .returned (.bool d) ∧ w = w' := by
  go_enter Tryz.func63, Tryz.ntmps63
  go_wp2_with (go_at_call 45; refine (none_at _ true _ h).mono ?_; rintro e w' ⟨rfl, rfl⟩)
  go_ret
  exact ⟨rfl, rfl⟩

/-- Whether a step goes. -/
theorem goes_dead (p : Nat) (w : World) (h : w.cell? ⟨p, 13, none⟩ = some (.bool true)) :
    Calls Tryz.prog 102 #[.pointer (some ⟨p, 0, none⟩)] w fun e w' => e = .returned (.int .i64 281) ∧ w = w' := by
  go_enter Tryz.func102, Tryz.ntmps102
  go_wp2
  go_ret
  exact ⟨rfl, rfl⟩
theorem goes_free (p : Nat) (w : World) (h : w.cell? ⟨p, 13, none⟩ = some (.bool false)) (h2 : w.cell? ⟨p, 14, none⟩ = some (.bool false)) :
    Calls Tryz.prog 102 #[.pointer (some ⟨p, 0, none⟩)] w fun e w' => e = .returned (.int .i64 0) ∧ w = w' := by
  go_enter Tryz.func102, Tryz.ntmps102
  go_wp2
  go_ret
  exact ⟨rfl, rfl⟩
theorem goes_ends (p : Nat) (w : World) (h : w.cell? ⟨p, 13, none⟩ = some (.bool false)) (h2 : w.cell? ⟨p, 14, none⟩ = some (.bool true)) (h3 : w.cell? ⟨p, 15, none⟩ = some (.int .i64 0))
    (f1 : w.frozen? ⟨p, 13, none⟩ = false) (f2 : w.frozen? ⟨p, 14, none⟩ = false) :
    Calls Tryz.prog 102 #[.pointer (some ⟨p, 0, none⟩)] w fun e w' => e = .returned (.int .i64 281) ∧ (w.setCell ⟨p, 13, none⟩ (.bool true)).setCell ⟨p, 14, none⟩ (.bool false) = w' := by
  go_enter Tryz.func102, Tryz.ntmps102
  go_wp2
  go_ret
  exact ⟨rfl, rfl⟩
theorem goes_counts (p : Nat) (n : Int) (w : World) (h : w.cell? ⟨p, 13, none⟩ = some (.bool false)) (h2 : w.cell? ⟨p, 14, none⟩ = some (.bool true)) (h3 : w.cell? ⟨p, 15, none⟩ = some (.int .i64 n)) (hn : 0 < n) (hn' : n ≤ 9223372036854775807)
    (f3 : w.frozen? ⟨p, 15, none⟩ = false) :
    Calls Tryz.prog 102 #[.pointer (some ⟨p, 0, none⟩)] w fun e w' => e = .returned (.int .i64 0) ∧ w.setCell ⟨p, 15, none⟩ (.int .i64 (n - 1)) = w' := by
  have hne : (n == 0) = false := by simp; omega
  go_enter Tryz.func102, Tryz.ntmps102
  go_wp2
  go_ret
  exact ⟨rfl, rfl⟩

end Go.Proofs.YtgffifleflkjoaaGreat
