/-
  A region that draws its order, whose reads may be taken first though other operations make memory.
  Appends in part.
  A sector is written in part.
-/
import Derived.Test.YtiefhmbpaoecfaaG02
import Derived.Test.YtiefhmbpaoecfaaG03
import Derived.Deep.RegionWith
import Derived.Laws.CopyOwn

namespace Go.Proofs.Ytiefhmbpaoecfaa
open Go.RowKit

section
variable {P : Program} {ops : Array Oper} {md : Region.Mode} {I : World → Prop} {tail : List Nat}

abbrev noExit : Exit → Act → World → Prop := fun _ _ _ => False

/-- Whatever order is picked; behind each operation but the tail's the world is of the class. -/
def wpAnyI (P : Program) (md : Region.Mode) (ops : Array Oper) (I : World → Prop) (tail : List Nat) (Q : Act → World → Prop) : Nat → Array Bool → Act → World → Prop
  | 0, listed, a, w => Region.ready md ops listed = [] ∧ Q a w
  | f + 1, listed, a, w => (Region.ready md ops listed = [] → Q a w) ∧ ∀ i ∈ Region.ready md ops listed, wpOp P ops noExit i (fun a' w' => (i ∉ tail → I w') ∧ wpAnyI P md ops I tail Q f (listed.setIfInBounds i true) a' w') a w

/-- In state a, in every world of the class, o leaves v and the very world. -/
def YieldsI (P : Program) (ops : Array Oper) (I : World → Prop) (o : Oper) (v : Value) (a : Act) : Prop :=
  (Region.wanted o (yielded ops a.tmps) = true ∧ ∀ w, I w → (execOp a.eval o).run P w = .ok (.value v) w) ∨ (Region.wanted o (yielded ops a.tmps) = false ∧ v = undef)

theorem YieldsI.of_same {o : Oper} {v : Value} {a a' : Act} (hy : YieldsI P ops I o v a) (he : execOp a'.eval o = execOp a.eval o)
    (hw : Region.wanted o (yielded ops a'.tmps) = Region.wanted o (yielded ops a.tmps)) : YieldsI P ops I o v a' := by
  unfold YieldsI at *
  rw [he, hw]
  exact hy

theorem YieldsI.wpOp {i : Nat} {o : Oper} {v : Value} {a : Act} (hi : ops[i]? = some o) (hy : YieldsI P ops I o v a)
    {Q : Exit → Act → World → Prop} {K : Act → World → Prop} {w : World} (hI : I w) (h : K (a.put o.dst v) w) : wpOp P ops Q i K a w := by
  unfold Go.wpOp
  simp only [hi]
  rcases hy with ⟨hw, hv⟩ | ⟨hw, rfl⟩
  · simp only [hw, if_true, Oper.wp, hv w hI, Oper.upon]; exact .inl h
  · simp only [hw, Bool.false_eq_true, if_false]; exact h

theorem wpOpI_put {j : Nat} {oi oj : Oper} {v : Value} (hj : ops[j]? = some oj) (hap : oi.apart ops oj = true)
    (hsi : ∀ cs b, oi.op ≠ .select cs b) (hsj : ∀ cs b, oj.op ≠ .select cs b) {K : Act → World → Prop} {a : Act} {w : World}
    (hy : YieldsI P ops I oi v a) (h : wpOp P ops noExit j K (a.put oi.dst v) w) :
    wpOp P ops noExit j (fun a' w' => YieldsI P ops I oi v a' ∧ K (a'.put oi.dst v) w') a w := by
  obtain ⟨h1, h2, h3⟩ := Oper.apart_spec hap
  have keep : ∀ (a : Act), YieldsI P ops I oi v a → ∀ u, YieldsI P ops I oi v (a.put oj.dst u) := fun a hy u =>
    hy.of_same (execOp_put oi hsi a oj.dst u h3) (wanted_put oi a oj.dst u h3)
  have keepD : ∀ d, YieldsI P ops I oi v { a with defers := d :: a.defers } := fun d => hy.of_same rfl rfl
  unfold wpOp at *
  simp only [hj] at *
  rw [wanted_put oj a oi.dst v h1] at h
  split
  · rename_i hw
    simp only [hw, if_true] at h
    rcases h with h | ⟨hasks, hlets⟩
    case inr => exact .inr ⟨by unfold Oper.asks at *; rw [execOp_put oj hsj a oi.dst v h1] at hasks; exact hasks, hlets⟩
    refine .inl ?_
    unfold Oper.wp at *
    rw [execOp_put oj hsj a oi.dst v h1] at h
    generalize (execOp a.eval oj).run P w = r at *
    cases r with
    | ok n w' =>
      cases n <;> simp only [Oper.upon] at h ⊢
      case value u => exact ⟨keep a hy u, by rw [← Act.put_comm a v u h2]; exact h⟩
      case skip => exact ⟨keep a hy _, by rw [← Act.put_comm a v undef h2]; exact h⟩
      case defer d =>
        refine ⟨keep _ (keepD d) _, ?_⟩
        rw [← Act.put_comm _ v undef h2, ← Act.put_defers]
        exact h
      case enter f args =>
        refine Calls.mono h fun e w'' he => ?_
        cases e with
        | returned u => exact ⟨keep a hy u, by rw [← Act.put_comm a v u h2]; exact he⟩
        | panicked c => exact he
        | outgrown => exact he
      case row row args => exact Rows.mono h fun u w'' he => ⟨keep a hy u, by rw [← Act.put_comm a v u h2]; exact he⟩
    | halt x w' =>
      cases x <;> simp only [Oper.upon] at h ⊢
      case panic u => exact h
  · rename_i hw
    simp only [hw] at h
    exact ⟨keep a hy _, by rw [← Act.put_comm a v undef h2]; exact h⟩

/-- Whatever is listed, what it waits for is. -/
def Closed (md : Region.Mode) (ops : Array Oper) (listed : Array Bool) : Prop :=
  ∀ j oj, ops[j]? = some oj → listed.getD j false = true → ∀ e ∈ oj.after, Region.binds md e = true → listed.getD e.on false = true

theorem Closed.set {listed : Array Bool} {i : Nat} (h : Closed md ops listed) (hi : i ∈ Region.ready md ops listed) : Closed md ops (listed.setIfInBounds i true) := by
  obtain ⟨_, oi, hoi, hall⟩ := mem_ready.1 hi
  intro j oj hj hl e he hb
  by_cases hij : i = j
  · subst hij
    have : oj = oi := Option.some.inj (hj.symm.trans hoi)
    subst this
    exact getD_set_true (hall e he hb)
  · rw [getD_set_ne false hij] at hl
    exact getD_set_true (h j oj hj hl e he hb)

/-- Does t wait for i, by way of others? -/
def waitsB (md : Region.Mode) (ops : Array Oper) : Nat → Nat → Nat → Bool
  | 0, _, _ => false
  | f + 1, t, i => match ops[t]? with
    | some o => o.after.any fun e => Region.binds md e && (e.on == i || waitsB md ops f e.on i)
    | none => false

theorem listed_of_waits {listed : Array Bool} (hc : Closed md ops listed) : ∀ (f t i : Nat), waitsB md ops f t i = true → listed.getD t false = true → listed.getD i false = true
  | 0, _, _, h, _ => by cases h
  | f + 1, t, i, h, ht => by
    simp only [waitsB] at h
    split at h
    · rename_i o ho
      obtain ⟨e, he, hb⟩ := Array.any_eq_true'.1 h
      simp only [Bool.and_eq_true, Bool.or_eq_true, beq_iff_eq] at hb
      have h1 := hc t o ho ht e he hb.1
      rcases hb.2 with h2 | h2
      · rw [← h2]; exact h1
      · exact listed_of_waits hc f e.on i h2 h1
    · cases h

theorem not_ready_of_waits {listed : Array Bool} (hc : Closed md ops listed) {f t i : Nat} (h : waitsB md ops f t i = true) (hi : listed.getD i true = false) : t ∉ Region.ready md ops listed := by
  intro ht
  obtain ⟨_, o, ho, hall⟩ := mem_ready.1 ht
  have hf : listed.getD i false = false := getD_both hi
  cases f with
  | zero => cases h
  | succ f =>
    simp only [waitsB, ho] at h
    obtain ⟨e, he, hb⟩ := Array.any_eq_true'.1 h
    simp only [Bool.and_eq_true, Bool.or_eq_true, beq_iff_eq] at hb
    have h1 := hall e he hb.1
    rcases hb.2 with h2 | h2
    · rw [h2, hf] at h1; cases h1
    · rw [listed_of_waits hc f e.on i h2 h1] at hf; cases hf

theorem wpAnyI_first {Q : Act → World → Prop} {i : Nat} {oi : Oper} {v : Value} (hi : ops[i]? = some oi) (hsel : ∀ (j : Nat) (o : Oper) cs b, ops[j]? = some o → o.op ≠ .select cs b) (g : Nat) (hw : ∀ t ∈ tail, waitsB md ops g t i = true) :
    ∀ (fuel : Nat) (listed : Array Bool) (a : Act) (w : World), Closed md ops listed →
      (∀ j oj, ops[j]? = some oj → j ≠ i → listed.getD j true = false → (∀ e ∈ oj.after, Region.binds md e = true → e.on ≠ i) → oi.apart ops oj = true) →
      i ∈ Region.ready md ops listed → YieldsI P ops I oi v a → I w →
      wpAnyI P md ops I tail Q fuel (listed.setIfInBounds i true) (a.put oi.dst v) w → wpAnyI P md ops I tail Q (fuel + 1) listed a w := by
  intro fuel
  induction fuel with
  | zero =>
    intro listed a w _ _ hr hy hI H
    refine ⟨fun h => (by rw [h] at hr; cases hr), fun j hj => ?_⟩
    by_cases hji : j = i
    · subst hji; exact hy.wpOp hi hI ⟨fun _ => hI, H⟩
    · have := ready_mono hj hji
      rw [H.1] at this
      cases this
  | succ fuel ih =>
    intro listed a w hcl hfree hr hy hI H
    refine ⟨fun h => (by rw [h] at hr; cases hr), fun j hj => ?_⟩
    by_cases hji : j = i
    · subst hji; exact hy.wpOp hi hI ⟨fun _ => hI, H⟩
    · have h1 := H.2 j (ready_mono hj hji)
      obtain ⟨hjun, oj, hoj, hall⟩ := mem_ready.1 hj
      have hun := (mem_ready.1 hr).1
      have hjt : j ∉ tail := fun hm => not_ready_of_waits hcl (hw j hm) hun hj
      have hnot : ∀ e ∈ oj.after, Region.binds md e = true → e.on ≠ i := fun e he hb heq => by
        have h1 := hall e he hb
        rw [heq, getD_both hun] at h1
        cases h1
      have h2 := wpOpI_put hoj (hfree j oj hoj hji hjun hnot) (fun cs b => hsel i oi cs b hi) (fun cs b => hsel j oj cs b hoj) hy h1
      have hfree' : ∀ k ok, ops[k]? = some ok → k ≠ i → (listed.setIfInBounds j true).getD k true = false →
          (∀ e ∈ ok.after, Region.binds md e = true → e.on ≠ i) → oi.apart ops ok = true := fun k ok hk hki hun hno => by
        refine hfree k ok hk hki ?_ hno
        by_cases hjk : j = k
        · subst hjk; exact hjun
        · rw [getD_set_ne true hjk] at hun; exact hun
      refine wpOp_mono (fun a' w' h3 => ⟨fun _ => h3.2.1 hjt, ih (listed.setIfInBounds j true) a' w' (hcl.set hj) hfree' (ready_mono hr (Ne.symm hji)) h3.1 (h3.2.1 hjt) ?_⟩) h2
      rw [Array.setIfInBounds_comm _ _ hji]
      exact h3.2.2

theorem wpOp_out {i : Nat} {a : Act} {w : World} {K K' : Act → World → Prop} {Q' : Exit → Act → World → Prop} (h : ∀ a w, K a w → K' a w) (hh : wpOp P ops noExit i K a w) : wpOp P ops Q' i K' a w := by
  unfold wpOp at *
  split
  · exact h _ _ (by simpa [*] using hh)
  · rename_i o ho
    simp only [ho] at hh
    split
    · rename_i hw
      simp only [hw, if_true] at hh
      rcases hh with hh | ⟨_, _, _, hx⟩
      · refine .inl ?_
        unfold Oper.wp at *
        generalize (execOp a.eval o).run P w = r at *
        cases r with
        | ok n w' =>
          cases n <;> simp only [Oper.upon] at hh ⊢
          case value u => exact h _ _ hh
          case skip => exact h _ _ hh
          case defer d => exact h _ _ hh
          case enter f args =>
            refine Calls.mono hh fun e w'' he => ?_
            cases e with
            | returned u => exact h _ _ he
            | panicked c => exact he.elim
            | outgrown => obtain ⟨_, _, hx⟩ := he; exact hx.elim
          case row row args => exact Rows.mono hh fun u w'' he => h _ _ he
        | halt x w' =>
          cases x <;> simp only [Oper.upon] at hh ⊢
          case panic u => exact hh.elim
      · exact hx.elim
    · rename_i hw
      simp only [hw] at hh
      exact h _ _ hh

theorem wpAny_of_I {Q : Act → World → Prop} {Q' : Exit → Act → World → Prop} (hQ : ∀ a w, Q a w → Q' .normal a w) : ∀ (f : Nat) (listed : Array Bool) (a : Act) (w : World), wpAnyI P md ops I tail Q f listed a w → wpAny P md ops Q' f listed a w
  | 0, _, _, _, h => ⟨h.1, hQ _ _ h.2⟩
  | f + 1, _, _, _, h => ⟨fun h0 => hQ _ _ (h.1 h0), fun i hi => wpOp_out (fun a' w' h' => wpAny_of_I hQ f _ a' w' h'.2) (h.2 i hi)⟩

/-- The one operation that may come up. -/
theorem wpAnyI_only {Q : Act → World → Prop} {f k : Nat} {listed : Array Bool} {a : Act} {w : World} {o : Oper} (ho : ops[k]? = some o) (hr : Region.ready md ops listed = [k])
    (h : wpOp P ops noExit k (fun a' w' => (k ∉ tail → I w') ∧ wpAnyI P md ops I tail Q f (listed.setIfInBounds k true) a' w') a w) : wpAnyI P md ops I tail Q (f + 1) listed a w :=
  ⟨fun h0 => (by rw [hr] at h0; cases h0), fun i hi => by rw [hr] at hi; have e : i = k := (by simpa using hi); subst e; exact h⟩

/-- Here a value, and the very world. -/
def sameUpon (w : World) (v : Value) : Result Next → Prop
  | .ok (.value u) w' => w' = w ∧ u = v
  | _ => False

/-- One value, in every world of the class. -/
def hoists (P : Program) (I : World → Prop) (o : Oper) (a : Act) (next : Act → Prop) : Prop := ∃ v, (∀ w, I w → sameUpon w v ((execOp a.eval o).run P w)) ∧ next (a.put o.dst v)

def wpHoist (P : Program) (ops : Array Oper) (I : World → Prop) (Q : Act → Prop) : List Oper → Act → Prop
  | [], a => Q a
  | o :: rest, a => if Region.wanted o (yielded ops a.tmps) then hoists P I o a (wpHoist P ops I Q rest) else wpHoist P ops I Q rest (a.put o.dst undef)

theorem wpHoist_nil {Q : Act → Prop} {a : Act} (h : Q a) : wpHoist P ops I Q [] a := h

theorem wpHoist_step {Q : Act → Prop} {a : Act} {o : Oper} {rest : List Oper}
    (h : ∀ K : Act → Prop, (∀ a, wpHoist P ops I Q rest a → K a) → if Region.wanted o (yielded ops a.tmps) then hoists P I o a K else K (a.put o.dst undef)) : wpHoist P ops I Q (o :: rest) a :=
  h _ (fun _ h => h)

def hoistB (md : Region.Mode) (ops : Array Oper) (tail : List Nat) : List Nat → Array Bool → Bool
  | [], _ => true
  | k :: r, listed => (Region.ready md ops listed).contains k && Region.free md ops listed k && tail.all (fun t => waitsB md ops ops.size t k) && hoistB md ops tail r (listed.setIfInBounds k true)

/-- Reads that may be taken first. -/
theorem wpAnyI_hoist {Q : Act → World → Prop} (hs : Region.noSelect ops = true) {w : World} (hI : I w) : ∀ (ks : List Nat) (f : Nat) (listed : Array Bool) (a : Act), Closed md ops listed → hoistB md ops tail ks listed = true →
    wpHoist P ops I (fun a' => wpAnyI P md ops I tail Q f (ks.foldl (fun l k => l.setIfInBounds k true) listed) a' w) (ks.filterMap (fun k => ops[k]?)) a → wpAnyI P md ops I tail Q (f + ks.length) listed a w
  | [], f, listed, a, _, _, h => h
  | k :: r, f, listed, a, hc, hB, h => by
    simp only [hoistB, Bool.and_eq_true, List.all_eq_true] at hB
    obtain ⟨⟨⟨h1, h2⟩, h3⟩, h4⟩ := hB
    have hr : k ∈ Region.ready md ops listed := by simpa using h1
    obtain ⟨_, o, ho, _⟩ := mem_ready.1 hr
    simp only [List.filterMap_cons, ho, wpHoist] at h
    have : ∃ v, YieldsI P ops I o v a ∧ wpHoist P ops I (fun a' => wpAnyI P md ops I tail Q f ((k :: r).foldl (fun l k => l.setIfInBounds k true) listed) a' w) (r.filterMap (fun k => ops[k]?)) (a.put o.dst v) := by
      by_cases hw : Region.wanted o (yielded ops a.tmps) = true
      · rw [if_pos hw] at h
        obtain ⟨v, hv, hn⟩ := h
        refine ⟨v, .inl ⟨hw, fun w' hw' => ?_⟩, hn⟩
        have := hv w' hw'
        generalize (execOp a.eval o).run P w' = x at this
        cases x with
        | ok n w2 =>
          cases n <;> simp only [sameUpon] at this
          case value u => rw [this.1, this.2]
        | halt x w2 => simp only [sameUpon] at this
      · rw [if_neg hw] at h
        exact ⟨undef, .inr ⟨by simpa using hw, rfl⟩, h⟩
    obtain ⟨v, hy, hn⟩ := this
    rw [show f + (k :: r).length = (f + r.length) + 1 by simp; omega]
    exact wpAnyI_first ho (Region.noSelect_spec hs) ops.size h3 _ _ _ _ hc (Region.free_spec ho h2) hr hy hI (wpAnyI_hoist hs hI r f _ _ (hc.set hr) h4 hn)

theorem closed_none (n : Nat) : Closed md ops (Array.replicate n false) := fun j oj _ hl => by rw [getD_replicate_false] at hl; cases hl

def closedB (md : Region.Mode) (ops : Array Oper) (listed : Array Bool) : Bool :=
  (List.range ops.size).all fun j => match ops[j]? with
    | some o => !listed.getD j false || o.after.all fun e => !Region.binds md e || listed.getD e.on false
    | none => true
theorem closed_of_B {listed : Array Bool} (h : closedB md ops listed = true) : Closed md ops listed := by
  intro j oj hj hl e he hb
  have h1 := List.all_eq_true.1 h j (List.mem_range.2 (Array.getElem?_eq_some_iff.1 hj).1)
  simp only [hj, hl, Bool.not_true, Bool.false_or] at h1
  have h2 := (Array.all_eq_true_iff_forall_mem.1 h1) e he
  simpa [hb] using h2

/-- Reads first, at a state that is told. -/
theorem wpAnyI_reads {Q : Act → World → Prop} {w : World} {a : Act} (ks : List Nat) (f : Nat) (listed : Array Bool) (hI : I w) (hB : (Region.noSelect ops && closedB md ops listed && hoistB md ops tail ks listed) = true)
    (h : wpHoist P ops I (fun a' => wpAnyI P md ops I tail Q f (ks.foldl (fun l k => l.setIfInBounds k true) listed) a' w) (ks.filterMap (fun k => ops[k]?)) a) : wpAnyI P md ops I tail Q (f + ks.length) listed a w := by
  simp only [Bool.and_eq_true] at hB
  exact wpAnyI_hoist hB.1.1 hI ks f listed a (closed_of_B hB.1.2) hB.2 h

theorem wpOp_of_list {R : Act → World → Prop} {w : World} {a : Act} {k : Nat} {o : Oper} (ho : ops[k]? = some o)
    (h : wpList P ops (fun e a' w' => e = .normal ∧ R a' w') [o] a w) : wpOp P ops noExit k R a w := by
  unfold wpOp
  simp only [ho]
  simp only [wpList] at h
  split
  · rename_i hw
    simp only [hw, if_true] at h
    rcases h with h | ⟨_, _, _, hx⟩
    · refine .inl ?_
      unfold Oper.wp at *
      generalize (execOp a.eval o).run P w = r at *
      cases r with
      | ok n w' =>
        cases n <;> simp only [Oper.upon] at h ⊢
        case value u => exact h.2
        case skip => exact h.2
        case defer d => exact h.2
        case enter f args =>
          refine Calls.mono h fun e w'' he => ?_
          cases e with
          | returned u => exact he.2
          | panicked c => cases he.1
          | outgrown => obtain ⟨_, _, hx⟩ := he; cases hx.1
        case row row args => exact Rows.mono h fun u w'' he => he.2
      | halt x w' =>
        cases x <;> simp only [Oper.upon] at h ⊢
        case panic u => cases h.1
    · cases hx.1
  · rename_i hw
    simp only [hw] at h
    exact h.2

/-- One operation, at a state that is told. -/
theorem wpAnyI_one {Q : Act → World → Prop} {w : World} {a : Act} (k f : Nat) (listed : Array Bool) (o : Oper) (ho : ops[k]? = some o) (hr : Region.ready md ops listed = [k])
    (h : wpList P ops (fun e a' w' => e = .normal ∧ (k ∉ tail → I w') ∧ wpAnyI P md ops I tail Q f (listed.setIfInBounds k true) a' w') [o] a w) : wpAnyI P md ops I tail Q (f + 1) listed a w :=
  wpAnyI_only ho hr (wpOp_of_list ho h)

/-- One of two operations. -/
theorem wpAnyI_two {Q : Act → World → Prop} {w : World} {a : Act} (k k' f : Nat) (listed : Array Bool) (o o' : Oper) (ho : ops[k]? = some o) (ho' : ops[k']? = some o') (hr : Region.ready md ops listed = [k, k'])
    (h : wpList P ops (fun e a' w' => e = .normal ∧ (k ∉ tail → I w') ∧ wpAnyI P md ops I tail Q f (listed.setIfInBounds k true) a' w') [o] a w)
    (h' : wpList P ops (fun e a' w' => e = .normal ∧ (k' ∉ tail → I w') ∧ wpAnyI P md ops I tail Q f (listed.setIfInBounds k' true) a' w') [o'] a w) : wpAnyI P md ops I tail Q (f + 1) listed a w := by
  refine ⟨fun h0 => (by rw [hr] at h0; cases h0), fun i hi => ?_⟩
  rw [hr] at hi
  rcases List.mem_cons.1 hi with rfl | hi
  · exact wpOp_of_list ho h
  · rcases List.mem_cons.1 hi with rfl | hi
    · exact wpOp_of_list ho' h'
    · cases hi

/-- A world of a class. -/
structure Wd (p : World → Prop) where
  world : World
  ok : p world

theorem wpHoist_lookup_run {Q : Act → Prop} {a : Act} {o : Oper} {rest : List Oper} (hgd : o.guard = none) (ty : TypeId) (x y : Operand) (b : Bool) (ho : o.op = .lookup ty x y b) (v : Value)
    (hrun : ∀ w, I w → (Instr.lookup ty (a.eval x) (a.eval y) b).run P w = .ok v w) (h : wpHoist P ops I Q rest (a.put o.dst v)) : wpHoist P ops I Q (o :: rest) a :=
  wpHoist_step fun K hK => by
    simp only [Region.wanted, hgd, if_true]
    refine ⟨v, fun w hw => ?_, hK _ h⟩
    unfold execOp
    simp only [ho, Sem.run_bind, hrun w hw, Result.andThen_ok, Sem.run_pure, sameUpon, and_self]

theorem wpHoist_load_run {Q : Act → Prop} {a : Act} {o : Oper} {rest : List Oper} (hgd : o.guard = none) (ty : TypeId) (x : Operand) (ho : o.op = .load ty x) (v : Value)
    (hrun : ∀ w, I w → (Instr.loadAt ty (a.eval x)).run P w = .ok v w) (h : wpHoist P ops I Q rest (a.put o.dst v)) : wpHoist P ops I Q (o :: rest) a :=
  wpHoist_step fun K hK => by
    simp only [Region.wanted, hgd, if_true]
    refine ⟨v, fun w hw => ?_, hK _ h⟩
    unfold execOp
    simp only [ho, Sem.run_bind, hrun w hw, Result.andThen_ok, Sem.run_pure, sameUpon, and_self]

theorem setRow_moves (w : World) (g : Nat) (c : Array Value) : Moves (fun k => k = g) w (w.setRow g c) :=
  ⟨rfl, rfl, rfl, by simp, fun k _ hk => setRow_other w g k c hk⟩

/-- A whole aggregate stored into its block: the world behind it is told by what it holds. -/
theorem wpList_store_abs {rest : List Oper} {o : Oper} {a : Act} {w : World} {Q : Exit → Act → World → Prop} (hgd : o.guard = none) (ty : TypeId) (x y : Operand) (ho : o.op = .store ty x y)
    (g : Nat) (cells : Array Value) (hx : a.eval x = .pointer (some ⟨g, 0, none⟩)) (hy : a.eval y = .agg cells)
    (t : TypeId) (c : Array Value) (hg : w.heap[g]? = some (.cells c t (0, 0))) (hi : (P.info? ty).map (·.size) = some cells.size)
    (hold : c.size = cells.size) (h1 : cells.all (·.oneCell') = true)
    (h : ∀ W, Hid (W.heap[g]? = some (.cells cells t (0, 0))) → Moves (fun k => k = g) w W → W.heap.size = w.heap.size → wpList P ops Q rest (a.put o.dst undef) W) : wpList P ops Q (o :: rest) a w :=
  wpList_store_row hgd ty x y ho g cells hx hy t c hg hi hold h1 (h _ (setRow_heap w g c cells t (0, 0) hg) (setRow_moves w g cells) (by simp))

/-- The region. -/
theorem wp_region_hoist {id : Nat} {Q : Exit → Act → World → Prop} {a : Act} {w : World} (I : World → Prop) (tail : List Nat) (hm : P.follows .mixedOrders = true)
    (h : wpAnyI P .any ops I tail (fun a' w' => Q .normal a' w') ops.size (Array.replicate ops.size false) a w.drew) : (Code.region id ops true).wp P Q a w :=
  wp_region_any hm (wpAny_of_I (fun _ _ h => h) _ _ _ _ h)

end
end Go.Proofs.Ytiefhmbpaoecfaa

namespace Go.Proofs.Ytiefhmbpaoecfaa
open Go.RowKit Dm

/-- What appends bytes to a tape is made. -/
theorem appended_c (t : Int) (a : Option Addr) (n c : Nat) (w : World) : Calls Try.prog 48 #[.int .i64 t, .slice a n c] w fun e w' =>
    e = .returned (.func (.func 66) #[] #[.pointer (some ⟨w.heap.size, 0, none⟩), .pointer (some ⟨w.heap.size + 1, 0, none⟩)]) ∧
      (w.alloc (.cells #[.int .i64 t] 3)).alloc (.cells #[.slice a n c] 36) = w' := by
  go_enter Try.func48, Try.ntmps48
  go_wp2
  go_ret
  exact ⟨rfl, rfl⟩

theorem pick_le (k : Int) (n : Nat) : 0 ≤ pick k (n + 1) ∧ pick k (n + 1) ≤ n := by
  unfold pick
  have h1 := Int.emod_nonneg k (b := (n : Int) + 1) (by omega)
  have h2 := Int.emod_lt_of_pos k (b := (n : Int) + 1) (by omega)
  exact ⟨h1, by omega⟩

set_option maxRecDepth 100000 in
set_option maxHeartbeats 2000000 in
theorem append1_some (q bt bx t b2 o2 len c2 : Nat) (k j : Int) (w : World) (R : World → Prop) (hk : -9223372036854775808 ≤ k) (hk' : k ≤ 9223372036854775807) (hlen : len ≤ 1048576) (hlc : len ≤ c2) (hc2 : c2 ≤ 9223372036854775807)
    (hj : pick k ((len : Int) + 1) = j) (hj0 : 0 ≤ j) (hj1 : j ≤ (len : Int))
    (hbt : w.cell? ⟨bt, 0, none⟩ = some (.int .i64 t)) (hbx : w.cell? ⟨bx, 0, none⟩ = some (.slice (some ⟨b2, o2, none⟩) len c2))
    (hR : Calls Try.prog 66 #[.pointer (some ⟨q, 0, none⟩), .pointer (some ⟨w.heap.size, 0, none⟩), .pointer (some ⟨w.heap.size + 1, 0, none⟩)]
      ((((w.drew).alloc (.cells #[.int .i64 t] 3)).alloc (.cells #[.slice (some ⟨b2, o2, none⟩) j.toNat c2] 36))) fun e w' => e = .returned (.tuple #[]) ∧ R w') :
    Calls Try.prog 49 #[.pointer (some ⟨q, 0, none⟩), .int .i64 k, .pointer (some ⟨bt, 0, none⟩), .pointer (some ⟨bx, 0, none⟩)] w fun e w' => e = .returned (.tuple #[]) ∧ R w' := by
  have HR := Lib.hid hR
  have HJ := Lib.hid hj
  clear hR hj
  have hwr : IntKind.i64.wrap ((len : Int) + 1) = (len : Int) + 1 := by simp [IntKind.wrap, IntKind.bits, IntKind.signed]; omega
  have hj2 : j ≤ (c2 : Int) := by omega
  have c1 : ∀ x : Ext w.heap.size w, x.world.cell? ⟨bt, 0, none⟩ = some (.int .i64 t) := fun x => x.cell (block_lt_of_cell hbt) hbt
  have c2' : ∀ x : Ext w.heap.size w, x.world.cell? ⟨bx, 0, none⟩ = some (.slice (some ⟨b2, o2, none⟩) len c2) := fun x => x.cell (block_lt_of_cell hbx) hbx
  go_enter Try.func49, Try.ntmps49
  go_wp2
  refine wp_region_hoist (fun w' => ∃ x : Ext w.heap.size w, w' = x.world) [10] (by kernel_rfl) ?_
  refine wpAnyI_reads [0, 1, 2, 3, 4, 5, 9] 4 _ ⟨⟨w.drew, (Below.refl _ _).drew⟩, rfl⟩ (by kernel_rfl) ?_
  simp only [List.filterMap_cons, List.filterMap_nil, List.getElem?_toArray, List.getElem?_cons_succ, List.getElem?_cons_zero]
  repeat (refine wpHoist_step (fun K hK => ?_); simp only [hoists, sameUpon]; go_simp; refine hK _ ?_; clear hK K)
  refine wpHoist_nil ?_
  refine wpAnyI_one 6 3 _ _ rfl (by kernel_rfl) ?_
  refine wpList_plain rfl fun K hK => ?_
  go_simp
  go_at_call 42
  refine (picked_c k ((len : Int) + 1) _ hk hk' (by omega) (by omega)).mono ?_
  rw [HJ.out]
  rintro e w' ⟨rfl, rfl⟩
  refine hK _ _ (wpList_nil ⟨rfl, fun _ => ⟨⟨w.drew, (Below.refl _ _).drew⟩, rfl⟩, ?_⟩)
  clear hK K
  refine wpAnyI_reads [7] 2 _ ⟨⟨w.drew, (Below.refl _ _).drew⟩, rfl⟩ (by kernel_rfl) ?_
  simp only [List.filterMap_cons, List.filterMap_nil, List.getElem?_toArray, List.getElem?_cons_succ, List.getElem?_cons_zero]
  repeat (refine wpHoist_step (fun K hK => ?_); simp only [hoists, sameUpon]; go_simp; refine hK _ ?_; clear hK K)
  refine wpHoist_nil ?_
  refine wpAnyI_one 8 1 _ _ rfl (by kernel_rfl) ?_
  refine wpList_plain rfl fun K hK => ?_
  go_simp
  go_at_call 48
  refine (appended_c _ _ _ _ _).mono ?_
  rintro e w' ⟨rfl, rfl⟩
  refine hK _ _ (wpList_nil ⟨rfl, fun _ => ⟨⟨_, (((Below.refl _ _).drew).alloc (Nat.le_refl _) _).alloc (by simp) _⟩, rfl⟩, ?_⟩)
  clear hK K
  refine wpAnyI_one 10 0 _ _ rfl (by kernel_rfl) ?_
  refine wpList_plain rfl fun K hK => ?_
  go_simp
  go_at_call 66
  refine HR.out.mono ?_
  rintro e w' ⟨rfl, hw⟩
  refine hK _ _ (wpList_nil ⟨rfl, fun h => absurd (List.mem_cons_self ..) h, by kernel_rfl, ?_⟩)
  clear hK K
  go_end0
  exact ⟨rfl, hw⟩

set_option maxRecDepth 100000 in
set_option maxHeartbeats 2000000 in
theorem append1_nil (q bt bx t : Nat) (k : Int) (w : World) (R : World → Prop) (hk : -9223372036854775808 ≤ k) (hk' : k ≤ 9223372036854775807)
    (hbt : w.cell? ⟨bt, 0, none⟩ = some (.int .i64 t)) (hbx : w.cell? ⟨bx, 0, none⟩ = some (.slice none 0 0))
    (hR : Calls Try.prog 66 #[.pointer (some ⟨q, 0, none⟩), .pointer (some ⟨w.heap.size, 0, none⟩), .pointer (some ⟨w.heap.size + 1, 0, none⟩)]
      ((((w.drew).alloc (.cells #[.int .i64 t] 3)).alloc (.cells #[.slice none 0 0] 36))) fun e w' => e = .returned (.tuple #[]) ∧ R w') :
    Calls Try.prog 49 #[.pointer (some ⟨q, 0, none⟩), .int .i64 k, .pointer (some ⟨bt, 0, none⟩), .pointer (some ⟨bx, 0, none⟩)] w fun e w' => e = .returned (.tuple #[]) ∧ R w' := by
  have HR := Lib.hid hR
  have HJ := Lib.hid (show pick k 1 = 0 by unfold pick; omega)
  clear hR
  have c1 : ∀ x : Ext w.heap.size w, x.world.cell? ⟨bt, 0, none⟩ = some (.int .i64 t) := fun x => x.cell (block_lt_of_cell hbt) hbt
  have c2' : ∀ x : Ext w.heap.size w, x.world.cell? ⟨bx, 0, none⟩ = some (.slice none 0 0) := fun x => x.cell (block_lt_of_cell hbx) hbx
  go_enter Try.func49, Try.ntmps49
  go_wp2
  refine wp_region_hoist (fun w' => ∃ x : Ext w.heap.size w, w' = x.world) [10] (by kernel_rfl) ?_
  refine wpAnyI_reads [0, 1, 2, 3, 4, 5, 9] 4 _ ⟨⟨w.drew, (Below.refl _ _).drew⟩, rfl⟩ (by kernel_rfl) ?_
  simp only [List.filterMap_cons, List.filterMap_nil, List.getElem?_toArray, List.getElem?_cons_succ, List.getElem?_cons_zero]
  repeat (refine wpHoist_step (fun K hK => ?_); simp only [hoists, sameUpon]; go_simp; refine hK _ ?_; clear hK K)
  refine wpHoist_nil ?_
  refine wpAnyI_one 6 3 _ _ rfl (by kernel_rfl) ?_
  refine wpList_plain rfl fun K hK => ?_
  go_simp
  go_at_call 42
  refine (picked_c k 1 _ hk hk' (by omega) (by omega)).mono ?_
  rw [HJ.out]
  rintro e w' ⟨rfl, rfl⟩
  refine hK _ _ (wpList_nil ⟨rfl, fun _ => ⟨⟨w.drew, (Below.refl _ _).drew⟩, rfl⟩, ?_⟩)
  clear hK K
  refine wpAnyI_reads [7] 2 _ ⟨⟨w.drew, (Below.refl _ _).drew⟩, rfl⟩ (by kernel_rfl) ?_
  simp only [List.filterMap_cons, List.filterMap_nil, List.getElem?_toArray, List.getElem?_cons_succ, List.getElem?_cons_zero]
  repeat (refine wpHoist_step (fun K hK => ?_); simp only [hoists, sameUpon]; go_simp; refine hK _ ?_; clear hK K)
  refine wpHoist_nil ?_
  refine wpAnyI_one 8 1 _ _ rfl (by kernel_rfl) ?_
  refine wpList_plain rfl fun K hK => ?_
  go_simp
  go_at_call 48
  refine (appended_c _ _ _ _ _).mono ?_
  rintro e w' ⟨rfl, rfl⟩
  refine hK _ _ (wpList_nil ⟨rfl, fun _ => ⟨⟨_, (((Below.refl _ _).drew).alloc (Nat.le_refl _) _).alloc (by simp) _⟩, rfl⟩, ?_⟩)
  clear hK K
  refine wpAnyI_one 10 0 _ _ rfl (by kernel_rfl) ?_
  refine wpList_plain rfl fun K hK => ?_
  go_simp
  go_at_call 66
  refine HR.out.mono ?_
  rintro e w' ⟨rfl, hw⟩
  refine hK _ _ (wpList_nil ⟨rfl, fun h => absurd (List.mem_cons_self ..) h, by kernel_rfl, ?_⟩)
  clear hK K
  go_end0
  exact ⟨rfl, hw⟩

/-- A beginning of bytes is appended to a tape. -/
theorem append1 (q bt bx t : Nat) (k : Int) (v v2 : Value) (l l2 : List UInt8) (F : Nat → Prop) (w : World) (ht : t < 4) (hk : -9223372036854775808 ≤ k) (hk' : k ≤ 9223372036854775807) (h1 : l.length ≤ 1048576) (h2 : l2.length ≤ 1048576)
    (hbt : w.cell? ⟨bt, 0, none⟩ = some (.int .i64 t)) (hbx : w.cell? ⟨bx, 0, none⟩ = some v2) (hq : w.cell? ⟨q, 1 + t, none⟩ = some v) (hf : w.frozen? ⟨q, 1 + t, none⟩ = false)
    (hv : BytesAt w.heap F v l) (hv2 : BytesAt w.heap F v2 l2) :
    Calls Try.prog 49 #[.pointer (some ⟨q, 0, none⟩), .int .i64 k, .pointer (some ⟨bt, 0, none⟩), .pointer (some ⟨bx, 0, none⟩)] w fun e w' => e = .returned (.tuple #[]) ∧ TapeIn w F q t (l ++ l2.take (pick k (l2.length + 1)).toNat) w' := by
  have lt := block_lt_of_cell hq
  obtain ⟨p0, p1⟩ := pick_le k l2.length
  have mid : ∀ (u : Value), BytesAt w.heap F u (l2.take (pick k (l2.length + 1)).toNat) →
      Calls Try.prog 66 #[.pointer (some ⟨q, 0, none⟩), .pointer (some ⟨w.heap.size, 0, none⟩), .pointer (some ⟨w.heap.size + 1, 0, none⟩)]
        ((w.drew.alloc (.cells #[.int .i64 t] 3)).alloc (.cells #[u] 36)) fun e w' => e = .returned (.tuple #[]) ∧ TapeIn w F q t (l ++ l2.take (pick k (l2.length + 1)).toNat) w' := by
    intro u hu
    have hb : Below w.heap.size w ((w.drew.alloc (.cells #[.int .i64 t] 3)).alloc (.cells #[u] 36)) := (((Below.refl _ _).drew).alloc (Nat.le_refl _) _).alloc (by simp) _
    have st : ∀ {x : Value} {y : List UInt8}, BytesAt w.heap F x y → BytesAt ((w.drew.alloc (.cells #[.int .i64 t] 3)).alloc (.cells #[u] 36)).heap F x y := by
      intro x y hx
      rcases hx with hx | ⟨b, o, cap, c, tt, fr, g1, g2, g3, g4, g5, g6⟩
      · exact Or.inl hx
      · exact Or.inr ⟨b, o, cap, c, tt, fr, g1, g2, g3, g4, (hb.block b (Array.getElem?_eq_some_iff.1 g5).1).trans g5, g6⟩
    refine (appended1 q w.heap.size (w.heap.size + 1) t v u l (l2.take (pick k (l2.length + 1)).toNat) F _ ht ?_ ?_ ?_ ((hb.cell lt).trans hq) ((hb.frozen lt).trans hf) (st hv) (st hu)).mono ?_
    · simp only [List.length_take]; omega
    · rw [World.cell?_alloc_past _ _ _ (by simp)]
      exact cell_of_row _ _ _ _ _ _ (heap_alloc_last w.drew (.cells #[.int .i64 t] 3))
    · have e : w.heap.size + 1 = (w.drew.alloc (.cells #[.int .i64 t] 3)).heap.size := by simp
      rw [e, cell_of_row _ _ _ _ _ _ (heap_alloc_last (w.drew.alloc (.cells #[.int .i64 t] 3)) (.cells #[u] 36))]
      rfl
    · rintro e w' ⟨rfl, v', w1, x1, x2, rfl⟩
      refine ⟨rfl, v', w1, hb.trans (x1.mono hb.size), x2.stays (fun _ _ => rfl) (fun i hi => ?_), rfl⟩
      rcases hi with hi | hi
      · exact Or.inl hi
      · exact Or.inr (Nat.le_trans hb.size hi)
  rcases hv2 with ⟨rfl, rfl⟩ | ⟨b, o, cap, c, tt, fr, rfl, g2, g3, g4, g5, g6⟩
  · refine append1_nil q bt bx t k w _ hk hk' hbt hbx (mid _ (Or.inl ⟨rfl, by simp⟩))
  · refine append1_some q bt bx t b o l2.length cap k _ w _ hk hk' h2 g2 g3 rfl p0 p1 hbt hbx (mid _ (Or.inr ⟨b, o, cap, c, tt, fr, ?_, ?_, g3, g4, g5, fun i x hi => g6 i x ?_⟩))
    · simp only [List.length_take]; congr 1; omega
    · simp only [List.length_take]; omega
    · rw [List.getElem?_take] at hi
      split at hi
      · exact hi
      · cases hi

end Go.Proofs.Ytiefhmbpaoecfaa

namespace Go.Proofs.Ytiefhmbpaoecfaa
open Go.RowKit Dm

theorem one_bvals (l : List UInt8) : ∀ v ∈ l.map bval, v.oneCell' = true := by
  intro v hv
  obtain ⟨x, _, rfl⟩ := List.mem_map.1 hv
  rfl

theorem all_bvals (l : List UInt8) : (l.map bval).toArray.all (·.oneCell') = true := by
  simp [Array.all_eq_true]
  intro i hi
  rfl

theorem pick_lt (k : Int) (n : Nat) (hn : 0 < n) : 0 ≤ pick k n ∧ pick k n < n := by
  unfold pick
  exact ⟨Int.emod_nonneg k (by omega), Int.emod_lt_of_pos k (by omega)⟩

set_option maxRecDepth 100000 in
set_option maxHeartbeats 2000000 in
/-- A sector is written in part. -/
theorem write2 (q m bn bx : Nat) (k n : Int) (b : List UInt8) (f : Int → List UInt8) (w : World) (hk : -9223372036854775808 ≤ k) (hk' : k ≤ 9223372036854775807)
    (hq : w.cell? ⟨q, 0, none⟩ = some (.map (some m))) (hn : w.heap[bn]? = some (.cells #[.int .i64 n] 3 (0, 0)))
    (hx : w.heap[bx]? = some (.cells (b.map bval).toArray tSec (0, 0))) (hl : b.length = 256) (hm : SecMap w.heap m f) (hfl : (f n).length = 256) :
    Calls Try.prog 46 #[.pointer (some ⟨q, 0, none⟩), .int .i64 k, .pointer (some ⟨bn, 0, none⟩), .pointer (some ⟨bx, 0, none⟩)] w fun e w' =>
      e = .returned (.tuple #[]) ∧ SecMap w'.heap m (upd f n (b.take (pick k 257).toNat ++ (f n).drop (pick k 257).toNat)) ∧ Moves (fun i => i = m) w w' := by
  obtain ⟨j, hj⟩ : ∃ j, pick k 257 = j := ⟨_, rfl⟩
  have hj01 : 0 ≤ j ∧ j < 257 := by have := pick_lt k 257 (by omega); rw [← hj]; exact this
  obtain ⟨hj0, hj1⟩ := hj01
  have hj2 : j ≤ 256 := by omega
  have c1 : w.cell? ⟨bn, 0, none⟩ = some (.int .i64 n) := by rw [cell_of_row _ _ _ _ _ _ hn]; rfl
  have ltq := block_lt_of_cell hq
  have ltn := block_lt_of_cell c1
  have ltx : bx < w.heap.size := (Array.getElem?_eq_some_iff.1 hx).1
  have ltm : m < w.heap.size := by obtain ⟨es, clock, h1, _⟩ := hm; exact (Array.getElem?_eq_some_iff.1 h1).1
  have x1 : ∀ x : Wd (Below w.heap.size w), x.world.cell? ⟨q, 0, none⟩ = some (.map (some m)) := fun x => (x.ok.cell ltq).trans hq
  have x2 : ∀ x : Wd (Below w.heap.size w), x.world.cell? ⟨bn, 0, none⟩ = some (.int .i64 n) := fun x => (x.ok.cell ltn).trans c1
  have look : ∀ w', (∃ x : Wd (Below w.heap.size w), w' = x.world) → (Instr.lookup tMap (.map (some m)) (.int .i64 n) false).run Try.prog w' = .ok (.agg ((f n).map bval).toArray) w' := by
    rintro w' ⟨x, rfl⟩
    exact run_look_sec (hm.stays (x.ok.block m ltm)) n
  have LK := Lib.hid look
  have HX := Lib.hid hx
  have HM := Lib.hid hm
  have HL := Lib.hid hl
  have HF := Lib.hid hfl
  have HJ := Lib.hid hj
  have ha : (Try.prog.info? tSec).map (·.size) = some ((f n).map bval).toArray.size := by rw [infoSec]; simp [hfl]
  have HA := Lib.hid ha
  have ne : Nonempty (Wd (Below w.heap.size w)) := ⟨⟨w, Below.refl _ _⟩⟩
  clear look hx hm hl hfl hj hn ha
  go_enter Try.func46, Try.ntmps46
  go_wp2
  refine wp_region_hoist (fun w' => ∃ x : Wd (Below w.heap.size w), w' = x.world) [] (by kernel_rfl) ?_
  refine wpAnyI_reads [0, 1, 2, 3, 4, 5] 2 _ ⟨⟨_, (Below.refl _ _).drew⟩, rfl⟩ (by kernel_rfl) ?_
  simp only [List.filterMap_cons, List.filterMap_nil, List.getElem?_toArray, List.getElem?_cons_succ, List.getElem?_cons_zero]
  repeat (refine wpHoist_step (fun K hK => ?_); simp only [hoists, sameUpon]; go_simp; refine hK _ ?_; clear hK K)
  refine wpHoist_lookup_run rfl tMap (.tmp 10) (.tmp 11) false rfl _ LK.out ?_
  refine wpHoist_nil ?_
  refine wpAnyI_one 6 1 _ _ rfl (by kernel_rfl) ?_
  refine wpList_plain rfl fun K hK => ?_
  go_simp
  refine hK _ _ (wpList_nil ⟨rfl, fun _ => ⟨⟨_, ((Below.refl _ _).alloc (Nat.le_refl _) _).drew⟩, rfl⟩, ?_⟩)
  clear hK K
  refine wpAnyI_one 7 0 _ _ rfl (by kernel_rfl) ?_
  have h0 : (w.alloc (.cells Try.zeroCells86 tSec)).drew.heap[w.heap.size]? = some (.cells Try.zeroCells86 tSec (0, 0)) := heap_alloc_last w _
  refine wpList_store_row rfl tSec (.tmp 6) (.tmp 12) rfl w.heap.size ((f n).map bval).toArray rfl rfl tSec Try.zeroCells86 h0 HA.out (by simp only [List.size_toArray, List.length_map, HF.out]; kernel_rfl) (all_bvals _) ?_
  have HW := Lib.hid (setRow_heap _ w.heap.size _ ((f n).map bval).toArray tSec _ h0)
  have HB : Below w.heap.size w ((w.alloc (.cells Try.zeroCells86 tSec)).drew.setRow w.heap.size ((f n).map bval).toArray) := below_setRow ((Below.refl _ _).alloc (Nat.le_refl _) _).drew (Nat.le_refl _) _
  clear h0
  generalize ((w.alloc (.cells Try.zeroCells86 tSec)).drew.setRow w.heap.size ((f n).map bval).toArray) = W1 at HW HB ⊢
  refine wpList_nil ⟨rfl, fun _ => ⟨⟨_, HB⟩, rfl⟩, by kernel_rfl, ?_⟩
  have ne1 : Nonempty (Wd (fun w' => w' = W1.drew)) := ⟨⟨_, rfl⟩⟩
  go_wp2
  refine wp_region_hoist (fun w' => ∃ x : Wd (fun w' => w' = W1.drew), w' = x.world) [4] (by kernel_rfl) ?_
  refine wpAnyI_reads [0, 3] 3 _ ⟨⟨_, rfl⟩, rfl⟩ (by kernel_rfl) ?_
  simp only [List.filterMap_cons, List.filterMap_nil, List.getElem?_toArray, List.getElem?_cons_succ, List.getElem?_cons_zero]
  repeat (refine wpHoist_step (fun K hK => ?_); simp only [hoists, sameUpon]; go_simp; refine hK _ ?_; clear hK K)
  refine wpHoist_nil ?_
  refine wpAnyI_one 1 2 _ _ rfl (by kernel_rfl) ?_
  refine wpList_plain rfl fun K hK => ?_
  go_simp
  go_at_call 42
  refine (picked_c k 257 _ hk hk' (by omega) (by omega)).mono ?_
  rw [HJ.out]
  rintro e w' ⟨rfl, rfl⟩
  refine hK _ _ (wpList_nil ⟨rfl, fun _ => ⟨⟨_, rfl⟩, rfl⟩, ?_⟩)
  clear hK K
  refine wpAnyI_reads [2] 1 _ ⟨⟨_, rfl⟩, rfl⟩ (by kernel_rfl) ?_
  simp only [List.filterMap_cons, List.filterMap_nil, List.getElem?_toArray, List.getElem?_cons_succ, List.getElem?_cons_zero]
  repeat (refine wpHoist_step (fun K hK => ?_); simp only [hoists, sameUpon]; go_simp; refine hK _ ?_; clear hK K)
  refine wpHoist_nil ?_
  refine wpAnyI_one 4 0 _ _ rfl (by kernel_rfl) ?_
  refine wpList_copy_splice rfl (.tmp 15) (.tmp 16) 36 36 rfl tByte Try.underlying36 (by kernel_rfl) (some ⟨w.heap.size, 0, none⟩) (some ⟨bx, 0, none⟩) j.toNat 256 256 256 rfl rfl w.heap.size 0 ((f n).map bval) tSec HW.out ((b.take j.toNat).map bval)
    (by simp only [List.length_map, List.length_take, HL.out]; exact Nat.min_comm _ _) (fun _ => ⟨rfl, _, rfl, fun i v hi => ?_⟩) (by simp only [List.length_map, List.length_take, HL.out, HF.out]; omega) (one_bvals _) w.heap.size w HB.drew (Nat.le_refl _) ?_
  · obtain ⟨x, hx, rfl⟩ : ∃ x, (b.take j.toNat)[i]? = some x ∧ bval x = v := by simpa only [List.getElem?_map, Option.map_eq_some_iff] using hi
    have hx2 : b[i]? = some x := by
      rw [List.getElem?_take] at hx
      split at hx
      · exact hx
      · cases hx
    have e : (⟨bx, 0, none⟩ : Addr).add i = ⟨bx, 0 + i, none⟩ := by unfold Addr.add; split <;> simp_all
    rw [e]
    refine (HB.drew.cell (p := ⟨bx, 0 + i, none⟩) ltx).trans ((cell_of_row _ _ _ _ _ _ HX.out).trans ?_)
    simp [hx2]
  intro W2 HW2 HB2
  refine wpList_nil ⟨rfl, fun h => absurd (by decide) h, by kernel_rfl, ?_⟩
  have hs : splice ((f n).map bval) 0 ((b.take j.toNat).map bval) = (b.take j.toNat ++ (f n).drop j.toNat).map bval := by
    unfold splice
    simp only [List.take_zero, List.nil_append, List.length_map, List.length_take, HL.out, Nat.zero_add, List.map_append, List.map_drop]
    congr 2
    omega
  have hlen : (b.take j.toNat ++ (f n).drop j.toNat).length = 256 := by
    simp only [List.length_append, List.length_take, List.length_drop, HL.out, HF.out]
    omega
  rw [hs] at HW2
  obtain ⟨o, hrun, hm'⟩ := run_put_sec (w := W2.drew) (HM.out.stays (HB2.block m ltm)) n (b.take j.toNat ++ (f n).drop j.toNat) hlen
  have hld : ∀ w', (∃ x : Wd (fun w' => w' = W2.drew), w' = x.world) → (Instr.loadAt tSec (.pointer (some ⟨w.heap.size, 0, none⟩))).run Try.prog w' = .ok (.agg ((b.take j.toNat ++ (f n).drop j.toNat).map bval).toArray) w' := by
    rintro w' ⟨⟨_, rfl⟩, rfl⟩
    exact run_loadAt_row (w := W2.drew) HW2.out Try.underlying86 rfl (by rw [infoSec]; simp only [List.size_toArray, List.length_map, hlen])
  have LD := Lib.hid hld
  have LR := Lib.hid hrun
  have LM := Lib.hid hm'
  have ne2 : Nonempty (Wd (fun w' => w' = W2.drew)) := ⟨⟨_, rfl⟩⟩
  have y1 : ∀ x : Wd (fun w' => w' = W2.drew), x.world.cell? ⟨q, 0, none⟩ = some (.map (some m)) := fun x => by rw [x.ok]; exact (HB2.drew.cell ltq).trans hq
  have y2 : ∀ x : Wd (fun w' => w' = W2.drew), x.world.cell? ⟨bn, 0, none⟩ = some (.int .i64 n) := fun x => by rw [x.ok]; exact (HB2.drew.cell ltn).trans c1
  clear hs hlen hrun hm' hld
  go_wp2
  refine wp_region_hoist (fun w' => ∃ x : Wd (fun w' => w' = W2.drew), w' = x.world) [6] (by kernel_rfl) ?_
  refine wpAnyI_reads [0, 1, 2, 3, 4, 5] 1 _ ⟨⟨_, rfl⟩, rfl⟩ (by kernel_rfl) ?_
  simp only [List.filterMap_cons, List.filterMap_nil, List.getElem?_toArray, List.getElem?_cons_succ, List.getElem?_cons_zero]
  repeat (refine wpHoist_step (fun K hK => ?_); simp only [hoists, sameUpon]; go_simp; refine hK _ ?_; clear hK K)
  refine wpHoist_load_run rfl tSec (.tmp 6) rfl _ LD.out ?_
  refine wpHoist_nil ?_
  refine wpAnyI_one 6 0 _ _ rfl (by kernel_rfl) ?_
  refine wpList_mapUpdate_run rfl tMap (.tmp 21) (.tmp 22) (.tmp 23) rfl _ LR.out ?_
  refine wpList_nil ⟨rfl, fun h => absurd (by decide) h, by kernel_rfl, ?_⟩
  go_end0
  rw [HJ.out]
  exact ⟨rfl, LM.out, ⟨HB2.os, HB2.tape, HB2.output, by simp only [World.putObj_size]; exact HB2.size, fun k hk1 hk2 => (World.putObj_heap_other hk2).trans (HB2.block k hk1)⟩⟩

end Go.Proofs.Ytiefhmbpaoecfaa
