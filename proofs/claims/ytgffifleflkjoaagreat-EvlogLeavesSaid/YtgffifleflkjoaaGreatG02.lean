/-
  Regions that draw their order, whose operations read, and whose callees may make memory: one walk in the order of the text, in every world that has grown from the one at the region's head.
  A region that draws its order, whose reads may be taken first though other operations make memory.
  Small laws on memory: cells stored in the middle of a block; cells of a block that is known whole.
-/
import Derived.Test.YtgffifleflkjoaaGreatG01
import Derived.Deep.QuietTactic
import Derived.BigQuiet
import Derived.StillTailTactics
import Derived.Deep.MidRow

namespace Go.Proofs.YtgffifleflkjoaaGreat
open Go.RowKit

/-- A world that has grown from W: below B nothing has turned. -/
structure Ext (B : Nat) (W : World) where
  world : World
  below : Below B W world

instance extNonempty (B : Nat) (W : World) : Nonempty (Ext B W) := ⟨⟨W, Below.refl _ _⟩⟩

/-- The class of worlds that have grown from W. -/
def Grew (B : Nat) (W : World) (w' : World) : Prop := ∃ x : Ext B W, w' = x.world

theorem ext_call {P : Program} {f : FuncId} {args : Array Value} {B : Nat} {W : World} (x : Ext B W) {v : Value} (hB : B ≤ W.heap.size)
    (h : Calls P f args x.world fun e w' => e = .returned v ∧ Below x.world.heap.size x.world w') : Calls P f args x.world fun e w'' => e = .returned v ∧ ∃ y : Ext B W, w'' = y.world :=
  h.mono fun _ w' ⟨he, hb⟩ => ⟨he, ⟨w', x.below.trans (hb.mono (Nat.le_trans hB x.below.size))⟩, rfl⟩

theorem ext_call_same {P : Program} {f : FuncId} {args : Array Value} {B : Nat} {W : World} (x : Ext B W) {v : Value}
    (h : Calls P f args x.world fun e w' => e = .returned v ∧ x.world = w') : Calls P f args x.world fun e w'' => e = .returned v ∧ ∃ y : Ext B W, w'' = y.world :=
  h.mono fun _ w' ⟨he, hb⟩ => ⟨he, x, hb.symm⟩

theorem Ext.cell {B : Nat} {W : World} (x : Ext B W) {p : Addr} {v : Value} (hp : p.block < B) (h : W.cell? p = some v) : x.world.cell? p = some v := (x.below.cell hp).trans h

/-- A region that draws, at the class of grown worlds. -/
theorem wp_region_ext {P : Program} {id : Nat} {Q : Exit → Act → World → Prop} {a : Act} {w : World} {l : List Oper} (hm : P.follows .mixedOrders = true) (hB : Region.lexB .any l.toArray = true)
    (h : wpQuiet P l.toArray (fun w' => ∃ x : Ext w.heap.size w, w' = x.world) (fun a' => ∀ x : Ext w.heap.size w, Q .normal a' x.world) l a) : (Code.region id l.toArray true).wp P Q a w :=
  wp_region_quiet (C := fun w' => ∃ x : Ext w.heap.size w, w' = x.world) hm hB ⟨⟨w.drew, (Below.refl _ _).drew⟩, rfl⟩ (by
    have e : (fun a' => ∀ w', (∃ x : Ext w.heap.size w, w' = x.world) → Q .normal a' w') = fun a' => ∀ x : Ext w.heap.size w, Q .normal a' x.world := by
      funext a'
      exact propext ⟨fun k x => k _ ⟨x, rfl⟩, fun k w' ⟨x, hx⟩ => hx ▸ k x⟩
    rw [e]
    simpa using h)

def isDefer : Op → Bool
  | .defer _ => true
  | _ => false

/-- What holds in a frame of a function holds in a round's. -/
theorem wpOpsIn_of_wpOps {P : Program} {ops : Array Oper} {Q : Exit → Act → World → Prop} (l0 : Nat) (hq : ∀ a w, ¬ Q .outgrown a w) (hd : ∀ (i : Nat) (o : Oper), ops[i]? = some o → isDefer o.op = false) :
    ∀ (l : List Nat) (a : Act) (w : World), wpOps P ops Q l a w → wpOpsIn (Fence.wide.inRound l0) 0 P ops Q l a w := by
  intro l
  induction l with
  | nil => exact fun a w h => h
  | cons i rest ih =>
    intro a w h
    simp only [wpOps] at h
    simp only [wpOpsIn]
    cases ho : ops[i]? with
    | none =>
      simp only [ho] at h ⊢
      exact ih a w h
    | some o =>
      simp only [ho] at h ⊢
      have hnd : ∀ c, o.op ≠ .defer c := fun c e => by have := hd i o ho; rw [e] at this; cases this
      split
      · rename_i hw
        rw [if_pos hw] at h
        rcases h with h | ⟨_, a', w', h⟩
        · refine ⟨fun _ _ => trivial, ?_⟩
          rw [Oper.semAt_eq _ _ _ hnd]
          simp only [Oper.wp] at h
          cases hr : (execOp a.eval o).run P w with
          | ok x w1 =>
            rw [hr] at h
            cases x with
            | value v => exact ih _ _ h
            | skip => exact ih _ _ h
            | defer d => exact ih _ _ h
            | enter f args =>
              refine ⟨(fun e => by cases e), ?_⟩
              have h' : Calls P f args w1 _ := h
              refine CallsIn.inRound l0 ((callsIn_wide (n := 0)).2 (h'.mono fun e w2 he => ?_))
              cases e with
              | returned v => exact ih _ _ he
              | panicked ch => exact he
              | outgrown => exact he
            | row r args =>
              refine ⟨(fun e => by cases e), ?_⟩
              intro c cs _
              obtain ⟨v, w', hR, hs⟩ := h c cs
              exact ⟨v, w', ih _ _ hR, stepsIn_wide.2 hs⟩
            | _ => exact h.elim
          | halt x w1 =>
            rw [hr] at h
            cases x with
            | panic v => exact h
            | _ => exact h.elim
        · exact (hq _ _ h).elim
      · rename_i hw
        rw [if_neg hw] at h
        exact ⟨fun _ _ => trivial, ih _ _ h⟩


/-- The same region within a round. -/
theorem wpIn_region_ext {P : Program} {id l0 : Nat} {Q : Exit → Act → World → Prop} {a : Act} {w : World} {l : List Oper} (hm : P.follows .mixedOrders = true) (hB : Region.lexB .any l.toArray = true) (hd : l.all (fun o => !isDefer o.op) = true)
    (h : wpQuiet P l.toArray (fun w' => ∃ x : Ext w.heap.size w, w' = x.world) (fun a' => ∀ x : Ext w.heap.size w, Q .normal a' x.world) l a) : (Code.region id l.toArray true).wpIn (Fence.wide.inRound l0) 0 P Q a w := by
  have key : (Code.region id l.toArray true).wpIn (Fence.wide.inRound l0) 0 P (fun e a w => e = .normal ∧ Q .normal a w) a w := by
    refine wpIn_region_draw fun t => wpOpsIn_of_wpOps l0 (fun _ _ h => by cases h.1) (fun i o ho => ?_) _ _ _ ?_
    · have hmem : o ∈ l := by
        have := Array.mem_of_getElem? ho
        simpa using this
      have := List.all_eq_true.1 hd o hmem
      simpa using this
    · simp only [Region.schedule, hm, Bool.true_or, if_true]
      refine wpAny_sound l.toArray.size t _ a _ ?_
      simp only [Region.lexB, Bool.and_eq_true] at hB
      refine wpAny_of_quiet (C := fun w' => ∃ x : Ext w.heap.size w, w' = x.world) (Q := fun a' => ∀ x : Ext w.heap.size w, Q .normal a' x.world) (fun a' w' hw' h => by obtain ⟨x, rfl⟩ := hw'; exact ⟨rfl, h x⟩) _ _ _ _ ⟨⟨w.drew, (Below.refl _ _).drew⟩, rfl⟩ ?_
      have := wpAnyQ_lex (C := fun w' => ∃ x : Ext w.heap.size w, w' = x.world) (md := .any) hB.1 l.toArray.toList 0 (Array.replicate l.toArray.size false) a (by simp) (by simpa using hB.2) (by simpa using h)
      simpa using this
  refine wpIn_mono key (fun e a' w' he => ?_)
  obtain ⟨rfl, hq⟩ := he
  exact hq


/-- A region within a round, by whatever order. -/
theorem wpIn_region_of_any {P : Program} {id l0 : Nat} {Q : Exit → Act → World → Prop} {a : Act} {w : World} {l : List Oper} (hm : P.follows .mixedOrders = true) (hd : l.all (fun o => !isDefer o.op) = true)
    (h : wpAny P .any l.toArray (fun e a w => e = .normal ∧ Q .normal a w) l.toArray.size (Array.replicate l.toArray.size false) a { w with drawn := w.drawn + 1 }) : (Code.region id l.toArray true).wpIn (Fence.wide.inRound l0) 0 P Q a w := by
  have key : (Code.region id l.toArray true).wpIn (Fence.wide.inRound l0) 0 P (fun e a w => e = .normal ∧ Q .normal a w) a w := by
    refine wpIn_region_draw fun t => wpOpsIn_of_wpOps l0 (fun _ _ h => by cases h.1) (fun i o ho => ?_) _ _ _ ?_
    · have hmem : o ∈ l := by
        have := Array.mem_of_getElem? ho
        simpa using this
      have := List.all_eq_true.1 hd o hmem
      simpa using this
    · simp only [Region.schedule, hm, Bool.true_or, if_true]
      exact wpAny_sound l.toArray.size t _ a _ h
  refine wpIn_mono key (fun e a' w' he => ?_)
  obtain ⟨rfl, hq⟩ := he
  exact hq

/-- Reads ahead of one operation that writes, within a round. -/
theorem wpIn_region_still_tail {P : Program} {id l0 : Nat} {Q : Exit → Act → World → Prop} {a : Act} {w : World} {l : List Oper} (n : Nat) (hm : P.follows .mixedOrders = true) (hd : l.all (fun o => !isDefer o.op) = true) (hB : Region.lexTailB .any l.toArray n = true)
    (h : wpStill P l.toArray w.drew (fun a' => wpList P l.toArray (fun e a w => e = .normal ∧ Q .normal a w) (l.drop n) a' w.drew) (l.take n) a) : (Code.region id l.toArray true).wpIn (Fence.wide.inRound l0) 0 P Q a w := by
  simp only [Region.lexTailB, Bool.and_eq_true, decide_eq_true_eq] at hB
  obtain ⟨⟨⟨⟨hsel, hn⟩, hs⟩, hc⟩, hlex⟩ := hB
  have hn' : n < l.length := by simpa using hn
  have htl : (l.take n).length = n := by simp; omega
  have hdl : (l.drop n).length = l.toArray.size - n := by simp
  have inv0 : HeadInv .any l.toArray n (Array.replicate l.toArray.size false) :=
    ⟨by simp, fun j oj _ hl => (by rw [getD_replicate_false] at hl; cases hl), fun t _ ht => getD_in (by simpa using ht) (getD_replicate_false _ _)⟩
  have H := wpAnyL_lex (md := .any) (g := l.toArray.size - n) hsel hs hc hn (l.take n) 0 _ a (fun j hj => by
    have hj' : j < n := by rw [htl] at hj; exact hj
    simp [hj']) (by simpa using htl) inv0 (by rw [htl]; exact hlex) h
  refine wpIn_region_of_any hm hd ?_
  have := wpAny_of_head (Q' := fun e a w => e = .normal ∧ Q .normal a w) (g := l.toArray.size - n) (fun listed a' hL => by
    have := wpAny_of_seq (md := .any) (Q' := fun e a w => e = .normal ∧ Q .normal a w) (l.drop n) n listed a' { w with drawn := w.drawn + 1 } (fun j => by simp [List.getElem?_drop]) (by rw [hdl]; exact hL.1) hL.2
    rwa [hdl] at this) _ _ _ H
  rw [htl, show n + (l.toArray.size - n) = l.toArray.size by omega] at this
  exact this


theorem wpList_mapUpdate_run {P : Program} {ops : Array Oper} {rest : List Oper} {o : Oper} {a : Act} {w : World} {Q : Exit → Act → World → Prop} (hgd : o.guard = none) (t : TypeId) (m x v : Operand) (ho : o.op = .mapUpdate t m x v) (w' : World)
    (hrun : (Instr.mapUpdate t (a.eval m) (a.eval x) (a.eval v)).run P w = .ok () w') (h : wpList P ops Q rest (a.put o.dst undef) w') : wpList P ops Q (o :: rest) a w :=
  wpList_plain hgd fun K hK => by
    unfold Oper.wp execOp
    simp only [ho, Sem.run_bind, hrun, Result.andThen_ok, Sem.run_pure]
    exact hK _ _ h


theorem wp_region_tail {P : Program} {id : Nat} {Q : Exit → Act → World → Prop} {a : Act} {w : World} {l : List Oper} (n : Nat) (hm : P.follows .mixedOrders = true) (hB : Region.lexTailB .any l.toArray n = true)
    (h : wpStill P l.toArray w.drew (fun a' => wpList P l.toArray Q (l.drop n) a' w.drew) (l.take n) a) : (Code.region id l.toArray true).wp P Q a w := wp_region_still_tail n hm hB h

theorem wpStill_load_run {P : Program} {ops : Array Oper} {rest : List Oper} {o : Oper} {a : Act} {w : World} {Q : Act → Prop} (hgd : o.guard = none) (ty : TypeId) (x : Operand) (ho : o.op = .load ty x) (v : Value)
    (hrun : (Instr.loadAt ty (a.eval x)).run P w = .ok v w) (h : wpStill P ops w Q rest (a.put o.dst v)) : wpStill P ops w Q (o :: rest) a :=
  wpStill_step fun K hK => by
    simp only [Region.wanted, hgd, if_true]
    unfold Oper.still execOp
    simp only [ho, Sem.run_bind, hrun, Result.andThen_ok, Sem.run_pure, Oper.stillUpon]
    exact ⟨trivial, hK _ h⟩

theorem wpStill_lookup_run {P : Program} {ops : Array Oper} {rest : List Oper} {o : Oper} {a : Act} {w : World} {Q : Act → Prop} (hgd : o.guard = none) (ty : TypeId) (x y : Operand) (b : Bool) (ho : o.op = .lookup ty x y b) (v : Value)
    (hrun : (Instr.lookup ty (a.eval x) (a.eval y) b).run P w = .ok v w) (h : wpStill P ops w Q rest (a.put o.dst v)) : wpStill P ops w Q (o :: rest) a :=
  wpStill_step fun K hK => by
    simp only [Region.wanted, hgd, if_true]
    unfold Oper.still execOp
    simp only [ho, Sem.run_bind, hrun, Result.andThen_ok, Sem.run_pure, Oper.stillUpon]
    exact ⟨trivial, hK _ h⟩

/-- A whole aggregate out of its block. -/
theorem run_loadAt_row {P : Program} {w : World} {g : Nat} {t ty : TypeId} {cs : Array Value} {fr : Nat × Nat} {d : TypeDesc} (hg : w.heap[g]? = some (.cells cs t fr))
    (hu : P.underlying ty = some d) (hd : (match d with | .struct _ | .array _ _ => true | _ => false) = true) (hi : (P.info? ty).map (·.size) = some cs.size) :
    (Instr.loadAt ty (.pointer (some ⟨g, 0, none⟩))).run P w = .ok (.agg cs) w := by
  simp only [Instr.loadAt, Instr.sureAddr, Sem.run_bind, Sem.run_pure, Result.andThen_ok]
  exact run_loadVar_row w g t ty cs fr d hg hu hd hi

end Go.Proofs.YtgffifleflkjoaaGreat

namespace Go.Proofs.YtgffifleflkjoaaGreat
open Go.RowKit

section
variable {P : Program} {ops : Array Oper} {md : Region.Mode} {I : World → Prop} {tail : List Nat}

abbrev noExit : Exit → Act → World → Prop := fun _ _ _ => False

/-- Whatever order is picked; behind each operation but the tail's the world is of the class. -/
def wpAnyI (P : Program) (md : Region.Mode) (ops : Array Oper) (I : World → Prop) (tail : List Nat) (Q : Act → World → Prop) : Nat → Array Bool → Act → World → Prop
  | 0, listed, a, w => Region.ready md ops listed = [] ∧ Q a w
  | f + 1, listed, a, w => (Region.ready md ops listed = [] → Q a w) ∧ ∀ i ∈ Region.ready md ops listed, wpOp P ops noExit i (fun a' w' => (i ∉ tail → I w') ∧ wpAnyI P md ops I tail Q f (listed.setIfInBounds i true) a' w') a w

/-- In state a, in every world of the class, o leaves v and the very world. -/
def YieldsI (P : Program) (ops : Array Oper) (I : World → Prop) (o : Oper) (v : Value) (a : Act) : Prop :=
  (Region.wanted o (yielded ops a.tmps) = true ∧ ∀ w, I w → (execOp a.eval o).run P w = .ok (.value v) w) ∨ (Region.wanted o (yielded ops a.tmps) = false ∧ v = undef)

theorem YieldsI.of_same {o : Oper} {v : Value} {a a' : Act} (hy : YieldsI P ops I o v a) (he : execOp a'.eval o = execOp a.eval o)
    (hw : Region.wanted o (yielded ops a'.tmps) = Region.wanted o (yielded ops a.tmps)) : YieldsI P ops I o v a' := by
  unfold YieldsI at *
  rw [he, hw]
  exact hy

theorem YieldsI.wpOp {i : Nat} {o : Oper} {v : Value} {a : Act} (hi : ops[i]? = some o) (hy : YieldsI P ops I o v a)
    {Q : Exit → Act → World → Prop} {K : Act → World → Prop} {w : World} (hI : I w) (h : K (a.put o.dst v) w) : wpOp P ops Q i K a w := by
  unfold Go.wpOp
  simp only [hi]
  rcases hy with ⟨hw, hv⟩ | ⟨hw, rfl⟩
  · simp only [hw, if_true, Oper.wp, hv w hI, Oper.upon]; exact .inl h
  · simp only [hw, Bool.false_eq_true, if_false]; exact h

theorem wpOpI_put {j : Nat} {oi oj : Oper} {v : Value} (hj : ops[j]? = some oj) (hap : oi.apart ops oj = true)
    (hsi : ∀ cs b, oi.op ≠ .select cs b) (hsj : ∀ cs b, oj.op ≠ .select cs b) {K : Act → World → Prop} {a : Act} {w : World}
    (hy : YieldsI P ops I oi v a) (h : wpOp P ops noExit j K (a.put oi.dst v) w) :
    wpOp P ops noExit j (fun a' w' => YieldsI P ops I oi v a' ∧ K (a'.put oi.dst v) w') a w := by
  obtain ⟨h1, h2, h3⟩ := Oper.apart_spec hap
  have keep : ∀ (a : Act), YieldsI P ops I oi v a → ∀ u, YieldsI P ops I oi v (a.put oj.dst u) := fun a hy u =>
    hy.of_same (execOp_put oi hsi a oj.dst u h3) (wanted_put oi a oj.dst u h3)
  have keepD : ∀ d, YieldsI P ops I oi v { a with defers := d :: a.defers } := fun d => hy.of_same rfl rfl
  unfold wpOp at *
  simp only [hj] at *
  rw [wanted_put oj a oi.dst v h1] at h
  split
  · rename_i hw
    simp only [hw, if_true] at h
    rcases h with h | ⟨hasks, hlets⟩
    case inr => exact .inr ⟨by unfold Oper.asks at *; rw [execOp_put oj hsj a oi.dst v h1] at hasks; exact hasks, hlets⟩
    refine .inl ?_
    unfold Oper.wp at *
    rw [execOp_put oj hsj a oi.dst v h1] at h
    generalize (execOp a.eval oj).run P w = r at *
    cases r with
    | ok n w' =>
      cases n <;> simp only [Oper.upon] at h ⊢
      case value u => exact ⟨keep a hy u, by rw [← Act.put_comm a v u h2]; exact h⟩
      case skip => exact ⟨keep a hy _, by rw [← Act.put_comm a v undef h2]; exact h⟩
      case defer d =>
        refine ⟨keep _ (keepD d) _, ?_⟩
        rw [← Act.put_comm _ v undef h2, ← Act.put_defers]
        exact h
      case enter f args =>
        refine Calls.mono h fun e w'' he => ?_
        cases e with
        | returned u => exact ⟨keep a hy u, by rw [← Act.put_comm a v u h2]; exact he⟩
        | panicked c => exact he
        | outgrown => exact he
      case row row args => exact Rows.mono h fun u w'' he => ⟨keep a hy u, by rw [← Act.put_comm a v u h2]; exact he⟩
    | halt x w' =>
      cases x <;> simp only [Oper.upon] at h ⊢
      case panic u => exact h
  · rename_i hw
    simp only [hw] at h
    exact ⟨keep a hy _, by rw [← Act.put_comm a v undef h2]; exact h⟩

/-- Whatever is listed, what it waits for is. -/
def Closed (md : Region.Mode) (ops : Array Oper) (listed : Array Bool) : Prop :=
  ∀ j oj, ops[j]? = some oj → listed.getD j false = true → ∀ e ∈ oj.after, Region.binds md e = true → listed.getD e.on false = true

theorem Closed.set {listed : Array Bool} {i : Nat} (h : Closed md ops listed) (hi : i ∈ Region.ready md ops listed) : Closed md ops (listed.setIfInBounds i true) := by
  obtain ⟨_, oi, hoi, hall⟩ := mem_ready.1 hi
  intro j oj hj hl e he hb
  by_cases hij : i = j
  · subst hij
    have : oj = oi := Option.some.inj (hj.symm.trans hoi)
    subst this
    exact getD_set_true (hall e he hb)
  · rw [getD_set_ne false hij] at hl
    exact getD_set_true (h j oj hj hl e he hb)

/-- Does t wait for i, by way of others? -/
def waitsB (md : Region.Mode) (ops : Array Oper) : Nat → Nat → Nat → Bool
  | 0, _, _ => false
  | f + 1, t, i => match ops[t]? with
    | some o => o.after.any fun e => Region.binds md e && (e.on == i || waitsB md ops f e.on i)
    | none => false

theorem listed_of_waits {listed : Array Bool} (hc : Closed md ops listed) : ∀ (f t i : Nat), waitsB md ops f t i = true → listed.getD t false = true → listed.getD i false = true
  | 0, _, _, h, _ => by cases h
  | f + 1, t, i, h, ht => by
    simp only [waitsB] at h
    split at h
    · rename_i o ho
      obtain ⟨e, he, hb⟩ := Array.any_eq_true'.1 h
      simp only [Bool.and_eq_true, Bool.or_eq_true, beq_iff_eq] at hb
      have h1 := hc t o ho ht e he hb.1
      rcases hb.2 with h2 | h2
      · rw [← h2]; exact h1
      · exact listed_of_waits hc f e.on i h2 h1
    · cases h

theorem not_ready_of_waits {listed : Array Bool} (hc : Closed md ops listed) {f t i : Nat} (h : waitsB md ops f t i = true) (hi : listed.getD i true = false) : t ∉ Region.ready md ops listed := by
  intro ht
  obtain ⟨_, o, ho, hall⟩ := mem_ready.1 ht
  have hf : listed.getD i false = false := getD_both hi
  cases f with
  | zero => cases h
  | succ f =>
    simp only [waitsB, ho] at h
    obtain ⟨e, he, hb⟩ := Array.any_eq_true'.1 h
    simp only [Bool.and_eq_true, Bool.or_eq_true, beq_iff_eq] at hb
    have h1 := hall e he hb.1
    rcases hb.2 with h2 | h2
    · rw [h2, hf] at h1; cases h1
    · rw [listed_of_waits hc f e.on i h2 h1] at hf; cases hf

theorem wpAnyI_first {Q : Act → World → Prop} {i : Nat} {oi : Oper} {v : Value} (hi : ops[i]? = some oi) (hsel : ∀ (j : Nat) (o : Oper) cs b, ops[j]? = some o → o.op ≠ .select cs b) (g : Nat) (hw : ∀ t ∈ tail, waitsB md ops g t i = true) :
    ∀ (fuel : Nat) (listed : Array Bool) (a : Act) (w : World), Closed md ops listed →
      (∀ j oj, ops[j]? = some oj → j ≠ i → listed.getD j true = false → (∀ e ∈ oj.after, Region.binds md e = true → e.on ≠ i) → oi.apart ops oj = true) →
      i ∈ Region.ready md ops listed → YieldsI P ops I oi v a → I w →
      wpAnyI P md ops I tail Q fuel (listed.setIfInBounds i true) (a.put oi.dst v) w → wpAnyI P md ops I tail Q (fuel + 1) listed a w := by
  intro fuel
  induction fuel with
  | zero =>
    intro listed a w _ _ hr hy hI H
    refine ⟨fun h => (by rw [h] at hr; cases hr), fun j hj => ?_⟩
    by_cases hji : j = i
    · subst hji; exact hy.wpOp hi hI ⟨fun _ => hI, H⟩
    · have := ready_mono hj hji
      rw [H.1] at this
      cases this
  | succ fuel ih =>
    intro listed a w hcl hfree hr hy hI H
    refine ⟨fun h => (by rw [h] at hr; cases hr), fun j hj => ?_⟩
    by_cases hji : j = i
    · subst hji; exact hy.wpOp hi hI ⟨fun _ => hI, H⟩
    · have h1 := H.2 j (ready_mono hj hji)
      obtain ⟨hjun, oj, hoj, hall⟩ := mem_ready.1 hj
      have hun := (mem_ready.1 hr).1
      have hjt : j ∉ tail := fun hm => not_ready_of_waits hcl (hw j hm) hun hj
      have hnot : ∀ e ∈ oj.after, Region.binds md e = true → e.on ≠ i := fun e he hb heq => by
        have h1 := hall e he hb
        rw [heq, getD_both hun] at h1
        cases h1
      have h2 := wpOpI_put hoj (hfree j oj hoj hji hjun hnot) (fun cs b => hsel i oi cs b hi) (fun cs b => hsel j oj cs b hoj) hy h1
      have hfree' : ∀ k ok, ops[k]? = some ok → k ≠ i → (listed.setIfInBounds j true).getD k true = false →
          (∀ e ∈ ok.after, Region.binds md e = true → e.on ≠ i) → oi.apart ops ok = true := fun k ok hk hki hun hno => by
        refine hfree k ok hk hki ?_ hno
        by_cases hjk : j = k
        · subst hjk; exact hjun
        · rw [getD_set_ne true hjk] at hun; exact hun
      refine wpOp_mono (fun a' w' h3 => ⟨fun _ => h3.2.1 hjt, ih (listed.setIfInBounds j true) a' w' (hcl.set hj) hfree' (ready_mono hr (Ne.symm hji)) h3.1 (h3.2.1 hjt) ?_⟩) h2
      rw [Array.setIfInBounds_comm _ _ hji]
      exact h3.2.2

theorem wpOp_out {i : Nat} {a : Act} {w : World} {K K' : Act → World → Prop} {Q' : Exit → Act → World → Prop} (h : ∀ a w, K a w → K' a w) (hh : wpOp P ops noExit i K a w) : wpOp P ops Q' i K' a w := by
  unfold wpOp at *
  split
  · exact h _ _ (by simpa [*] using hh)
  · rename_i o ho
    simp only [ho] at hh
    split
    · rename_i hw
      simp only [hw, if_true] at hh
      rcases hh with hh | ⟨_, _, _, hx⟩
      · refine .inl ?_
        unfold Oper.wp at *
        generalize (execOp a.eval o).run P w = r at *
        cases r with
        | ok n w' =>
          cases n <;> simp only [Oper.upon] at hh ⊢
          case value u => exact h _ _ hh
          case skip => exact h _ _ hh
          case defer d => exact h _ _ hh
          case enter f args =>
            refine Calls.mono hh fun e w'' he => ?_
            cases e with
            | returned u => exact h _ _ he
            | panicked c => exact he.elim
            | outgrown => obtain ⟨_, _, hx⟩ := he; exact hx.elim
          case row row args => exact Rows.mono hh fun u w'' he => h _ _ he
        | halt x w' =>
          cases x <;> simp only [Oper.upon] at hh ⊢
          case panic u => exact hh.elim
      · exact hx.elim
    · rename_i hw
      simp only [hw] at hh
      exact h _ _ hh

theorem wpAny_of_I {Q : Act → World → Prop} {Q' : Exit → Act → World → Prop} (hQ : ∀ a w, Q a w → Q' .normal a w) : ∀ (f : Nat) (listed : Array Bool) (a : Act) (w : World), wpAnyI P md ops I tail Q f listed a w → wpAny P md ops Q' f listed a w
  | 0, _, _, _, h => ⟨h.1, hQ _ _ h.2⟩
  | f + 1, _, _, _, h => ⟨fun h0 => hQ _ _ (h.1 h0), fun i hi => wpOp_out (fun a' w' h' => wpAny_of_I hQ f _ a' w' h'.2) (h.2 i hi)⟩

/-- The one operation that may come up. -/
theorem wpAnyI_only {Q : Act → World → Prop} {f k : Nat} {listed : Array Bool} {a : Act} {w : World} {o : Oper} (ho : ops[k]? = some o) (hr : Region.ready md ops listed = [k])
    (h : wpOp P ops noExit k (fun a' w' => (k ∉ tail → I w') ∧ wpAnyI P md ops I tail Q f (listed.setIfInBounds k true) a' w') a w) : wpAnyI P md ops I tail Q (f + 1) listed a w :=
  ⟨fun h0 => (by rw [hr] at h0; cases h0), fun i hi => by rw [hr] at hi; have e : i = k := (by simpa using hi); subst e; exact h⟩

/-- Here a value, and the very world. -/
def sameUpon (w : World) (v : Value) : Result Next → Prop
  | .ok (.value u) w' => w' = w ∧ u = v
  | _ => False

/-- One value, in every world of the class. -/
def hoists (P : Program) (I : World → Prop) (o : Oper) (a : Act) (next : Act → Prop) : Prop := ∃ v, (∀ w, I w → sameUpon w v ((execOp a.eval o).run P w)) ∧ next (a.put o.dst v)

def wpHoist (P : Program) (ops : Array Oper) (I : World → Prop) (Q : Act → Prop) : List Oper → Act → Prop
  | [], a => Q a
  | o :: rest, a => if Region.wanted o (yielded ops a.tmps) then hoists P I o a (wpHoist P ops I Q rest) else wpHoist P ops I Q rest (a.put o.dst undef)

theorem wpHoist_nil {Q : Act → Prop} {a : Act} (h : Q a) : wpHoist P ops I Q [] a := h

theorem wpHoist_step {Q : Act → Prop} {a : Act} {o : Oper} {rest : List Oper}
    (h : ∀ K : Act → Prop, (∀ a, wpHoist P ops I Q rest a → K a) → if Region.wanted o (yielded ops a.tmps) then hoists P I o a K else K (a.put o.dst undef)) : wpHoist P ops I Q (o :: rest) a :=
  h _ (fun _ h => h)

def hoistB (md : Region.Mode) (ops : Array Oper) (tail : List Nat) : List Nat → Array Bool → Bool
  | [], _ => true
  | k :: r, listed => (Region.ready md ops listed).contains k && Region.free md ops listed k && tail.all (fun t => waitsB md ops ops.size t k) && hoistB md ops tail r (listed.setIfInBounds k true)

/-- Reads that may be taken first. -/
theorem wpAnyI_hoist {Q : Act → World → Prop} (hs : Region.noSelect ops = true) {w : World} (hI : I w) : ∀ (ks : List Nat) (f : Nat) (listed : Array Bool) (a : Act), Closed md ops listed → hoistB md ops tail ks listed = true →
    wpHoist P ops I (fun a' => wpAnyI P md ops I tail Q f (ks.foldl (fun l k => l.setIfInBounds k true) listed) a' w) (ks.filterMap (fun k => ops[k]?)) a → wpAnyI P md ops I tail Q (f + ks.length) listed a w
  | [], f, listed, a, _, _, h => h
  | k :: r, f, listed, a, hc, hB, h => by
    simp only [hoistB, Bool.and_eq_true, List.all_eq_true] at hB
    obtain ⟨⟨⟨h1, h2⟩, h3⟩, h4⟩ := hB
    have hr : k ∈ Region.ready md ops listed := by simpa using h1
    obtain ⟨_, o, ho, _⟩ := mem_ready.1 hr
    simp only [List.filterMap_cons, ho, wpHoist] at h
    have : ∃ v, YieldsI P ops I o v a ∧ wpHoist P ops I (fun a' => wpAnyI P md ops I tail Q f ((k :: r).foldl (fun l k => l.setIfInBounds k true) listed) a' w) (r.filterMap (fun k => ops[k]?)) (a.put o.dst v) := by
      by_cases hw : Region.wanted o (yielded ops a.tmps) = true
      · rw [if_pos hw] at h
        obtain ⟨v, hv, hn⟩ := h
        refine ⟨v, .inl ⟨hw, fun w' hw' => ?_⟩, hn⟩
        have := hv w' hw'
        generalize (execOp a.eval o).run P w' = x at this
        cases x with
        | ok n w2 =>
          cases n <;> simp only [sameUpon] at this
          case value u => rw [this.1, this.2]
        | halt x w2 => simp only [sameUpon] at this
      · rw [if_neg hw] at h
        exact ⟨undef, .inr ⟨by simpa using hw, rfl⟩, h⟩
    obtain ⟨v, hy, hn⟩ := this
    rw [show f + (k :: r).length = (f + r.length) + 1 by simp; omega]
    exact wpAnyI_first ho (Region.noSelect_spec hs) ops.size h3 _ _ _ _ hc (Region.free_spec ho h2) hr hy hI (wpAnyI_hoist hs hI r f _ _ (hc.set hr) h4 hn)

theorem closed_none (n : Nat) : Closed md ops (Array.replicate n false) := fun j oj _ hl => by rw [getD_replicate_false] at hl; cases hl

def closedB (md : Region.Mode) (ops : Array Oper) (listed : Array Bool) : Bool :=
  (List.range ops.size).all fun j => match ops[j]? with
    | some o => !listed.getD j false || o.after.all fun e => !Region.binds md e || listed.getD e.on false
    | none => true
theorem closed_of_B {listed : Array Bool} (h : closedB md ops listed = true) : Closed md ops listed := by
  intro j oj hj hl e he hb
  have h1 := List.all_eq_true.1 h j (List.mem_range.2 (Array.getElem?_eq_some_iff.1 hj).1)
  simp only [hj, hl, Bool.not_true, Bool.false_or] at h1
  have h2 := (Array.all_eq_true_iff_forall_mem.1 h1) e he
  simpa [hb] using h2

/-- Reads first, at a state that is told. -/
theorem wpAnyI_reads {Q : Act → World → Prop} {w : World} {a : Act} (ks : List Nat) (f : Nat) (listed : Array Bool) (hI : I w) (hB : (Region.noSelect ops && closedB md ops listed && hoistB md ops tail ks listed) = true)
    (h : wpHoist P ops I (fun a' => wpAnyI P md ops I tail Q f (ks.foldl (fun l k => l.setIfInBounds k true) listed) a' w) (ks.filterMap (fun k => ops[k]?)) a) : wpAnyI P md ops I tail Q (f + ks.length) listed a w := by
  simp only [Bool.and_eq_true] at hB
  exact wpAnyI_hoist hB.1.1 hI ks f listed a (closed_of_B hB.1.2) hB.2 h

theorem wpOp_of_list {R : Act → World → Prop} {w : World} {a : Act} {k : Nat} {o : Oper} (ho : ops[k]? = some o)
    (h : wpList P ops (fun e a' w' => e = .normal ∧ R a' w') [o] a w) : wpOp P ops noExit k R a w := by
  unfold wpOp
  simp only [ho]
  simp only [wpList] at h
  split
  · rename_i hw
    simp only [hw, if_true] at h
    rcases h with h | ⟨_, _, _, hx⟩
    · refine .inl ?_
      unfold Oper.wp at *
      generalize (execOp a.eval o).run P w = r at *
      cases r with
      | ok n w' =>
        cases n <;> simp only [Oper.upon] at h ⊢
        case value u => exact h.2
        case skip => exact h.2
        case defer d => exact h.2
        case enter f args =>
          refine Calls.mono h fun e w'' he => ?_
          cases e with
          | returned u => exact he.2
          | panicked c => cases he.1
          | outgrown => obtain ⟨_, _, hx⟩ := he; cases hx.1
        case row row args => exact Rows.mono h fun u w'' he => he.2
      | halt x w' =>
        cases x <;> simp only [Oper.upon] at h ⊢
        case panic u => cases h.1
    · cases hx.1
  · rename_i hw
    simp only [hw] at h
    exact h.2

/-- One operation, at a state that is told. -/
theorem wpAnyI_one {Q : Act → World → Prop} {w : World} {a : Act} (k f : Nat) (listed : Array Bool) (o : Oper) (ho : ops[k]? = some o) (hr : Region.ready md ops listed = [k])
    (h : wpList P ops (fun e a' w' => e = .normal ∧ (k ∉ tail → I w') ∧ wpAnyI P md ops I tail Q f (listed.setIfInBounds k true) a' w') [o] a w) : wpAnyI P md ops I tail Q (f + 1) listed a w :=
  wpAnyI_only ho hr (wpOp_of_list ho h)

/-- One of two operations. -/
theorem wpAnyI_two {Q : Act → World → Prop} {w : World} {a : Act} (k k' f : Nat) (listed : Array Bool) (o o' : Oper) (ho : ops[k]? = some o) (ho' : ops[k']? = some o') (hr : Region.ready md ops listed = [k, k'])
    (h : wpList P ops (fun e a' w' => e = .normal ∧ (k ∉ tail → I w') ∧ wpAnyI P md ops I tail Q f (listed.setIfInBounds k true) a' w') [o] a w)
    (h' : wpList P ops (fun e a' w' => e = .normal ∧ (k' ∉ tail → I w') ∧ wpAnyI P md ops I tail Q f (listed.setIfInBounds k' true) a' w') [o'] a w) : wpAnyI P md ops I tail Q (f + 1) listed a w := by
  refine ⟨fun h0 => (by rw [hr] at h0; cases h0), fun i hi => ?_⟩
  rw [hr] at hi
  rcases List.mem_cons.1 hi with rfl | hi
  · exact wpOp_of_list ho h
  · rcases List.mem_cons.1 hi with rfl | hi
    · exact wpOp_of_list ho' h'
    · cases hi

/-- A world of a class. -/
structure Wd (p : World → Prop) where
  world : World
  ok : p world

theorem wpHoist_lookup_run {Q : Act → Prop} {a : Act} {o : Oper} {rest : List Oper} (hgd : o.guard = none) (ty : TypeId) (x y : Operand) (b : Bool) (ho : o.op = .lookup ty x y b) (v : Value)
    (hrun : ∀ w, I w → (Instr.lookup ty (a.eval x) (a.eval y) b).run P w = .ok v w) (h : wpHoist P ops I Q rest (a.put o.dst v)) : wpHoist P ops I Q (o :: rest) a :=
  wpHoist_step fun K hK => by
    simp only [Region.wanted, hgd, if_true]
    refine ⟨v, fun w hw => ?_, hK _ h⟩
    unfold execOp
    simp only [ho, Sem.run_bind, hrun w hw, Result.andThen_ok, Sem.run_pure, sameUpon, and_self]

theorem wpHoist_load_run {Q : Act → Prop} {a : Act} {o : Oper} {rest : List Oper} (hgd : o.guard = none) (ty : TypeId) (x : Operand) (ho : o.op = .load ty x) (v : Value)
    (hrun : ∀ w, I w → (Instr.loadAt ty (a.eval x)).run P w = .ok v w) (h : wpHoist P ops I Q rest (a.put o.dst v)) : wpHoist P ops I Q (o :: rest) a :=
  wpHoist_step fun K hK => by
    simp only [Region.wanted, hgd, if_true]
    refine ⟨v, fun w hw => ?_, hK _ h⟩
    unfold execOp
    simp only [ho, Sem.run_bind, hrun w hw, Result.andThen_ok, Sem.run_pure, sameUpon, and_self]

theorem setRow_moves (w : World) (g : Nat) (c : Array Value) : Moves (fun k => k = g) w (w.setRow g c) :=
  ⟨rfl, rfl, rfl, by simp, fun k _ hk => setRow_other w g k c hk⟩

/-- A whole aggregate stored into its block: the world behind it is told by what it holds. -/
theorem wpList_store_abs {rest : List Oper} {o : Oper} {a : Act} {w : World} {Q : Exit → Act → World → Prop} (hgd : o.guard = none) (ty : TypeId) (x y : Operand) (ho : o.op = .store ty x y)
    (g : Nat) (cells : Array Value) (hx : a.eval x = .pointer (some ⟨g, 0, none⟩)) (hy : a.eval y = .agg cells)
    (t : TypeId) (c : Array Value) (hg : w.heap[g]? = some (.cells c t (0, 0))) (hi : (P.info? ty).map (·.size) = some cells.size)
    (hold : c.size = cells.size) (h1 : cells.all (·.oneCell') = true)
    (h : ∀ W, Hid (W.heap[g]? = some (.cells cells t (0, 0))) → Moves (fun k => k = g) w W → W.heap.size = w.heap.size → wpList P ops Q rest (a.put o.dst undef) W) : wpList P ops Q (o :: rest) a w :=
  wpList_store_row hgd ty x y ho g cells hx hy t c hg hi hold h1 (h _ (setRow_heap w g c cells t (0, 0) hg) (setRow_moves w g cells) (by simp))

/-- The region. -/
theorem wp_region_hoist {id : Nat} {Q : Exit → Act → World → Prop} {a : Act} {w : World} (I : World → Prop) (tail : List Nat) (hm : P.follows .mixedOrders = true)
    (h : wpAnyI P .any ops I tail (fun a' w' => Q .normal a' w') ops.size (Array.replicate ops.size false) a w.drew) : (Code.region id ops true).wp P Q a w :=
  wp_region_any hm (wpAny_of_I (fun _ _ h => h) _ _ _ _ h)

end
end Go.Proofs.YtgffifleflkjoaaGreat

namespace Go.Proofs.YtgffifleflkjoaaGreat
open Go.RowKit

/-- Cells with others from o on. -/
def spl (c : Array Value) (o : Nat) : List Value → Array Value
  | [] => c
  | v :: vs => spl (c.setIfInBounds o v) (o + 1) vs

theorem setCells_row (g : Nat) (t : TypeId) : ∀ (vs : List Value) (o : Nat) (c : Array Value) (w : World), w.heap[g]? = some (.cells c t (0, 0)) →
    (w.setCells g o vs).heap[g]? = some (.cells (spl c o vs) t (0, 0)) ∧ Moves (fun k => k = g) w (w.setCells g o vs) ∧ (w.setCells g o vs).heap.size = w.heap.size
  | [], _, _, w, h => ⟨h, Moves.refl _ _, rfl⟩
  | v :: vs, o, c, w, h => by
    obtain ⟨h1, h2, h3⟩ := setCells_row g t vs (o + 1) (c.setIfInBounds o v) (w.setCell ⟨g, o, none⟩ v) (heap_setCell_same w g o c t v h)
    refine ⟨h1, ⟨h2.os, h2.tape, h2.output, ?_, fun k hk hn => ?_⟩, h3.trans (by simp)⟩
    · rw [show w.heap.size = (w.setCell ⟨g, o, none⟩ v).heap.size by simp]; exact h2.size
    · exact (h2.block k (by simpa using hk) hn).trans (heap_setCell_other w _ k v hn)

theorem there_of_row {w : World} {g o n : Nat} {c : Array Value} {t : TypeId} (h : w.heap[g]? = some (.cells c t (0, 0))) (hl : o + n ≤ c.size) : w.there g o n := fun j hj => by
  refine ⟨?_, by simp [World.frozen?, h]⟩
  rw [cell_of_row _ _ _ _ _ _ h, Array.getElem?_eq_getElem (by omega)]
  rfl

section
variable {P : Program} {ops : Array Oper}
/-- An aggregate stored in the middle of a block: the world behind it is told by what it holds. -/
theorem wpList_store_midA {rest : List Oper} {o : Oper} {a : Act} {w : World} {Q : Exit → Act → World → Prop} (hgd : o.guard = none) (ty : TypeId) (x y : Operand) (ho : o.op = .store ty x y)
    (g off : Nat) (cells : Array Value) (hx : a.eval x = .pointer (some ⟨g, off, none⟩)) (hy : a.eval y = .agg cells)
    (t : TypeId) (c : Array Value) (hg : w.heap[g]? = some (.cells c t (0, 0))) (hi : (P.info? ty).map (·.size) = some cells.size)
    (hl : off + cells.size ≤ c.size) (h1 : cells.all (·.oneCell') = true)
    (h : ∀ W, Hid (W.heap[g]? = some (.cells (spl c off cells.toList) t (0, 0))) → Moves (fun k => k = g) w W → W.heap.size = w.heap.size → wpList P ops Q rest (a.put o.dst undef) W) : wpList P ops Q (o :: rest) a w := by
  obtain ⟨h2, h3, h4⟩ := setCells_row g t cells.toList off c w hg
  exact wpList_store_mid hgd ty x y ho g off cells hx hy (there_of_row hg (by simpa using hl)) hi h1 (h _ h2 h3 h4)
end

theorem row_cell {w : World} {g : Nat} {c : Array Value} {t : TypeId} {fr : Nat × Nat} (h : w.heap[g]? = some (.cells c t fr)) {j : Nat} {v : Value} (hj : c[j]? = some v) : w.cell? ⟨g, j, none⟩ = some v := (cell_of_row _ _ _ _ _ _ h).trans hj
theorem row_free {w : World} {g : Nat} {c : Array Value} {t : TypeId} (h : w.heap[g]? = some (.cells c t (0, 0))) (j : Nat) : w.frozen? ⟨g, j, none⟩ = false := by simp [World.frozen?, h]

theorem below_drewN {B : Nat} {w w' : World} (h : Below B w w') (n : Nat) : Below B w (w'.drewN n) := ⟨h.os, h.tape, h.output, h.size, h.block⟩

/-- Steps that leave all old blocks but g as they were, g being new: nothing old has turned. -/
theorem Moves.new {w W W' : World} {g : Nat} (hb : Below w.heap.size w W) (hm : Moves (fun k => k = g) W W') (hg : w.heap.size ≤ g) : Below w.heap.size w W' :=
  hb.trans ⟨hm.os, hm.tape, hm.output, hm.size, fun k hk => hm.block k (by have := hb.size; omega) (fun e => by omega)⟩

end Go.Proofs.YtgffifleflkjoaaGreat
