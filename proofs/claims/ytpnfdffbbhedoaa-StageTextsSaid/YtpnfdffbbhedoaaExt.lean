/-
  Regions that draw their order, whose operations read, and whose callees may make memory: one walk in the order of the text, in every world that has grown from the one at the region's head.
-/
import Derived.Test.YtpnfdffbbhedoaaIter
import Derived.Deep.QuietTactic
import Derived.BigQuiet
import Derived.StillTailTactics
namespace Go.Proofs.Ytpnfdffbbhedoaa
open Go.RowKit

/-- A world that has grown from W: below B nothing has turned. -/
structure Ext (B : Nat) (W : World) where
  world : World
  below : Below B W world

instance extNonempty (B : Nat) (W : World) : Nonempty (Ext B W) := ⟨⟨W, Below.refl _ _⟩⟩

/-- The class of worlds that have grown from W. -/
def Grew (B : Nat) (W : World) (w' : World) : Prop := ∃ x : Ext B W, w' = x.world

theorem ext_call {P : Program} {f : FuncId} {args : Array Value} {B : Nat} {W : World} (x : Ext B W) {v : Value} (hB : B ≤ W.heap.size)
    (h : Calls P f args x.world fun e w' => e = .returned v ∧ Below x.world.heap.size x.world w') : Calls P f args x.world fun e w'' => e = .returned v ∧ ∃ y : Ext B W, w'' = y.world :=
  h.mono fun _ w' ⟨he, hb⟩ => ⟨he, ⟨w', x.below.trans (hb.mono (Nat.le_trans hB x.below.size))⟩, rfl⟩

theorem ext_call_same {P : Program} {f : FuncId} {args : Array Value} {B : Nat} {W : World} (x : Ext B W) {v : Value}
    (h : Calls P f args x.world fun e w' => e = .returned v ∧ x.world = w') : Calls P f args x.world fun e w'' => e = .returned v ∧ ∃ y : Ext B W, w'' = y.world :=
  h.mono fun _ w' ⟨he, hb⟩ => ⟨he, x, hb.symm⟩

theorem Ext.cell {B : Nat} {W : World} (x : Ext B W) {p : Addr} {v : Value} (hp : p.block < B) (h : W.cell? p = some v) : x.world.cell? p = some v := (x.below.cell hp).trans h

/-- A region that draws, at the class of grown worlds. -/
theorem wp_region_ext {P : Program} {id : Nat} {Q : Exit → Act → World → Prop} {a : Act} {w : World} {l : List Oper} (hm : P.follows .mixedOrders = true) (hB : Region.lexB .any l.toArray = true)
    (h : wpQuiet P l.toArray (fun w' => ∃ x : Ext w.heap.size w, w' = x.world) (fun a' => ∀ x : Ext w.heap.size w, Q .normal a' x.world) l a) : (Code.region id l.toArray true).wp P Q a w :=
  wp_region_quiet (C := fun w' => ∃ x : Ext w.heap.size w, w' = x.world) hm hB ⟨⟨w.drew, (Below.refl _ _).drew⟩, rfl⟩ (by
    have e : (fun a' => ∀ w', (∃ x : Ext w.heap.size w, w' = x.world) → Q .normal a' w') = fun a' => ∀ x : Ext w.heap.size w, Q .normal a' x.world := by
      funext a'
      exact propext ⟨fun k x => k _ ⟨x, rfl⟩, fun k w' ⟨x, hx⟩ => hx ▸ k x⟩
    rw [e]
    simpa using h)

def isDefer : Op → Bool
  | .defer _ => true
  | _ => false

/-- What holds in a frame of a function holds in a round's. -/
theorem wpOpsIn_of_wpOps {P : Program} {ops : Array Oper} {Q : Exit → Act → World → Prop} (l0 : Nat) (hq : ∀ a w, ¬ Q .outgrown a w) (hd : ∀ (i : Nat) (o : Oper), ops[i]? = some o → isDefer o.op = false) :
    ∀ (l : List Nat) (a : Act) (w : World), wpOps P ops Q l a w → wpOpsIn (Fence.wide.inRound l0) 0 P ops Q l a w := by
  intro l
  induction l with
  | nil => exact fun a w h => h
  | cons i rest ih =>
    intro a w h
    simp only [wpOps] at h
    simp only [wpOpsIn]
    cases ho : ops[i]? with
    | none =>
      simp only [ho] at h ⊢
      exact ih a w h
    | some o =>
      simp only [ho] at h ⊢
      have hnd : ∀ c, o.op ≠ .defer c := fun c e => by have := hd i o ho; rw [e] at this; cases this
      split
      · rename_i hw
        rw [if_pos hw] at h
        rcases h with h | ⟨_, a', w', h⟩
        · refine ⟨fun _ _ => trivial, ?_⟩
          rw [Oper.semAt_eq _ _ _ hnd]
          simp only [Oper.wp] at h
          cases hr : (execOp a.eval o).run P w with
          | ok x w1 =>
            rw [hr] at h
            cases x with
            | value v => exact ih _ _ h
            | skip => exact ih _ _ h
            | defer d => exact ih _ _ h
            | enter f args =>
              refine ⟨(fun e => by cases e), ?_⟩
              have h' : Calls P f args w1 _ := h
              refine CallsIn.inRound l0 ((callsIn_wide (n := 0)).2 (h'.mono fun e w2 he => ?_))
              cases e with
              | returned v => exact ih _ _ he
              | panicked ch => exact he
              | outgrown => exact he
            | row r args =>
              refine ⟨(fun e => by cases e), ?_⟩
              intro c cs _
              obtain ⟨v, w', hR, hs⟩ := h c cs
              exact ⟨v, w', ih _ _ hR, stepsIn_wide.2 hs⟩
            | _ => exact h.elim
          | halt x w1 =>
            rw [hr] at h
            cases x with
            | panic v => exact h
            | _ => exact h.elim
        · exact (hq _ _ h).elim
      · rename_i hw
        rw [if_neg hw] at h
        exact ⟨fun _ _ => trivial, ih _ _ h⟩


/-- The same region within a round. -/
theorem wpIn_region_ext {P : Program} {id l0 : Nat} {Q : Exit → Act → World → Prop} {a : Act} {w : World} {l : List Oper} (hm : P.follows .mixedOrders = true) (hB : Region.lexB .any l.toArray = true) (hd : l.all (fun o => !isDefer o.op) = true)
    (h : wpQuiet P l.toArray (fun w' => ∃ x : Ext w.heap.size w, w' = x.world) (fun a' => ∀ x : Ext w.heap.size w, Q .normal a' x.world) l a) : (Code.region id l.toArray true).wpIn (Fence.wide.inRound l0) 0 P Q a w := by
  have key : (Code.region id l.toArray true).wpIn (Fence.wide.inRound l0) 0 P (fun e a w => e = .normal ∧ Q .normal a w) a w := by
    refine wpIn_region_draw fun t => wpOpsIn_of_wpOps l0 (fun _ _ h => by cases h.1) (fun i o ho => ?_) _ _ _ ?_
    · have hmem : o ∈ l := by
        have := Array.mem_of_getElem? ho
        simpa using this
      have := List.all_eq_true.1 hd o hmem
      simpa using this
    · simp only [Region.schedule, hm, Bool.true_or, if_true]
      refine wpAny_sound l.toArray.size t _ a _ ?_
      simp only [Region.lexB, Bool.and_eq_true] at hB
      refine wpAny_of_quiet (C := fun w' => ∃ x : Ext w.heap.size w, w' = x.world) (Q := fun a' => ∀ x : Ext w.heap.size w, Q .normal a' x.world) (fun a' w' hw' h => by obtain ⟨x, rfl⟩ := hw'; exact ⟨rfl, h x⟩) _ _ _ _ ⟨⟨w.drew, (Below.refl _ _).drew⟩, rfl⟩ ?_
      have := wpAnyQ_lex (C := fun w' => ∃ x : Ext w.heap.size w, w' = x.world) (md := .any) hB.1 l.toArray.toList 0 (Array.replicate l.toArray.size false) a (by simp) (by simpa using hB.2) (by simpa using h)
      simpa using this
  refine wpIn_mono key (fun e a' w' he => ?_)
  obtain ⟨rfl, hq⟩ := he
  exact hq


/-- A region within a round, by whatever order. -/
theorem wpIn_region_of_any {P : Program} {id l0 : Nat} {Q : Exit → Act → World → Prop} {a : Act} {w : World} {l : List Oper} (hm : P.follows .mixedOrders = true) (hd : l.all (fun o => !isDefer o.op) = true)
    (h : wpAny P .any l.toArray (fun e a w => e = .normal ∧ Q .normal a w) l.toArray.size (Array.replicate l.toArray.size false) a { w with drawn := w.drawn + 1 }) : (Code.region id l.toArray true).wpIn (Fence.wide.inRound l0) 0 P Q a w := by
  have key : (Code.region id l.toArray true).wpIn (Fence.wide.inRound l0) 0 P (fun e a w => e = .normal ∧ Q .normal a w) a w := by
    refine wpIn_region_draw fun t => wpOpsIn_of_wpOps l0 (fun _ _ h => by cases h.1) (fun i o ho => ?_) _ _ _ ?_
    · have hmem : o ∈ l := by
        have := Array.mem_of_getElem? ho
        simpa using this
      have := List.all_eq_true.1 hd o hmem
      simpa using this
    · simp only [Region.schedule, hm, Bool.true_or, if_true]
      exact wpAny_sound l.toArray.size t _ a _ h
  refine wpIn_mono key (fun e a' w' he => ?_)
  obtain ⟨rfl, hq⟩ := he
  exact hq

/-- Reads ahead of one operation that writes, within a round. -/
theorem wpIn_region_still_tail {P : Program} {id l0 : Nat} {Q : Exit → Act → World → Prop} {a : Act} {w : World} {l : List Oper} (n : Nat) (hm : P.follows .mixedOrders = true) (hd : l.all (fun o => !isDefer o.op) = true) (hB : Region.lexTailB .any l.toArray n = true)
    (h : wpStill P l.toArray w.drew (fun a' => wpList P l.toArray (fun e a w => e = .normal ∧ Q .normal a w) (l.drop n) a' w.drew) (l.take n) a) : (Code.region id l.toArray true).wpIn (Fence.wide.inRound l0) 0 P Q a w := by
  simp only [Region.lexTailB, Bool.and_eq_true, decide_eq_true_eq] at hB
  obtain ⟨⟨⟨⟨hsel, hn⟩, hs⟩, hc⟩, hlex⟩ := hB
  have hn' : n < l.length := by simpa using hn
  have htl : (l.take n).length = n := by simp; omega
  have hdl : (l.drop n).length = l.toArray.size - n := by simp
  have inv0 : HeadInv .any l.toArray n (Array.replicate l.toArray.size false) :=
    ⟨by simp, fun j oj _ hl => (by rw [getD_replicate_false] at hl; cases hl), fun t _ ht => getD_in (by simpa using ht) (getD_replicate_false _ _)⟩
  have H := wpAnyL_lex (md := .any) (g := l.toArray.size - n) hsel hs hc hn (l.take n) 0 _ a (fun j hj => by
    have hj' : j < n := by rw [htl] at hj; exact hj
    simp [hj']) (by simpa using htl) inv0 (by rw [htl]; exact hlex) h
  refine wpIn_region_of_any hm hd ?_
  have := wpAny_of_head (Q' := fun e a w => e = .normal ∧ Q .normal a w) (g := l.toArray.size - n) (fun listed a' hL => by
    have := wpAny_of_seq (md := .any) (Q' := fun e a w => e = .normal ∧ Q .normal a w) (l.drop n) n listed a' { w with drawn := w.drawn + 1 } (fun j => by simp [List.getElem?_drop]) (by rw [hdl]; exact hL.1) hL.2
    rwa [hdl] at this) _ _ _ H
  rw [htl, show n + (l.toArray.size - n) = l.toArray.size by omega] at this
  exact this


theorem wpList_mapUpdate_run {P : Program} {ops : Array Oper} {rest : List Oper} {o : Oper} {a : Act} {w : World} {Q : Exit → Act → World → Prop} (hgd : o.guard = none) (t : TypeId) (m x v : Operand) (ho : o.op = .mapUpdate t m x v) (w' : World)
    (hrun : (Instr.mapUpdate t (a.eval m) (a.eval x) (a.eval v)).run P w = .ok () w') (h : wpList P ops Q rest (a.put o.dst undef) w') : wpList P ops Q (o :: rest) a w :=
  wpList_plain hgd fun K hK => by
    unfold Oper.wp execOp
    simp only [ho, Sem.run_bind, hrun, Result.andThen_ok, Sem.run_pure]
    exact hK _ _ h

end Go.Proofs.Ytpnfdffbbhedoaa
