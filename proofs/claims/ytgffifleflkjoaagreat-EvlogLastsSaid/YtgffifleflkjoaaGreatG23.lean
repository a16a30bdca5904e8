/-
  A region that draws its order, each operation by what its slot holds, whatever was done ahead of it.
  evlog: three batches that may not be, in one statement.
  evlog: the chapter's rows.
-/
import Derived.Test.YtgffifleflkjoaaGreatG03
import Derived.Test.YtgffifleflkjoaaGreatG08
import Derived.Test.YtgffifleflkjoaaGreatG11
import Derived.Test.YtgffifleflkjoaaGreatG22

namespace Go.Proofs.YtgffifleflkjoaaGreat
open Go.RowKit

section
variable {P : Program} {l : List Oper} {md : Region.Mode}

/-- What stands in the slots behind some operations. -/
def putL (vals : Nat → Value) : List Oper → Nat → Act → Act
  | [], _, a => a
  | o :: l, k, a => putL vals l (k + 1) (a.put o.dst (vals k))

/-- The slots between two operations: what is listed has been put, all else is as it was. -/
structure Slots (l : List Oper) (L : Nat → Bool) (vals : Nat → Value) (a0 a : Act) : Prop where
  defers : a.defers = a0.defers
  size : a.tmps.size = a0.tmps.size
  put : ∀ (k : Nat) (o : Oper) (d : Tmp), l[k]? = some o → o.dst = some d → L k = true → a.tmps[d]? = some (vals k)
  old : ∀ s : Nat, (∀ (k : Nat) (o : Oper), l[k]? = some o → L k = true → o.dst ≠ some s) → a.tmps[s]? = a0.tmps[s]?

/-- Slots that are each one's own, and there. -/
def apartB (n : Nat) : List Oper → Bool
  | [] => true
  | o :: l => (match o.dst with | none => true | some d => decide (d < n) && l.all (fun o' => o'.dst != some d)) && apartB n l

theorem apart_lt {n : Nat} : ∀ {l : List Oper}, apartB n l = true → ∀ (k : Nat) (o : Oper) (d : Tmp), l[k]? = some o → o.dst = some d → d < n
  | [], _, k, o, d, hk, _ => by simp at hk
  | x :: l, h, k, o, d, hk, hd => by
    simp only [apartB, Bool.and_eq_true] at h
    cases k with
    | zero =>
      simp only [List.getElem?_cons_zero, Option.some.injEq] at hk
      subst hk
      have h1 := h.1
      rw [hd] at h1
      simp only [Bool.and_eq_true, decide_eq_true_eq] at h1
      exact h1.1
    | succ k => exact apart_lt h.2 k o d (by simpa using hk) hd

theorem apart_ne {n : Nat} : ∀ {l : List Oper}, apartB n l = true → ∀ (k j : Nat) (o o' : Oper) (d : Tmp), l[k]? = some o → l[j]? = some o' → o.dst = some d → k ≠ j → o'.dst ≠ some d
  | [], _, k, _, o, _, d, hk, _, _, _ => by simp at hk
  | x :: l, h, k, j, o, o', d, hk, hj, hd, hne => by
    simp only [apartB, Bool.and_eq_true] at h
    cases k with
    | zero =>
      simp only [List.getElem?_cons_zero, Option.some.injEq] at hk
      subst hk
      cases j with
      | zero => exact absurd rfl hne
      | succ j =>
        have h1 := h.1
        rw [hd] at h1
        simp only [Bool.and_eq_true, List.all_eq_true] at h1
        have := h1.2 o' (List.mem_of_getElem? (by simpa using hj))
        simpa using this
    | succ k =>
      cases j with
      | zero =>
        simp only [List.getElem?_cons_zero, Option.some.injEq] at hj
        subst hj
        intro e
        have h1 := h.1
        rw [e] at h1
        simp only [Bool.and_eq_true, List.all_eq_true] at h1
        have := h1.2 o (List.mem_of_getElem? (by simpa using hk))
        rw [hd] at this
        simp at this
      | succ j => exact apart_ne h.2 k j o o' d (by simpa using hk) (by simpa using hj) hd (by omega)

theorem Slots.next {n : Nat} (hn : apartB n l = true) {L : Nat → Bool} {vals : Nat → Value} {a0 a : Act} (hsz : a0.tmps.size = n) (h : Slots l L vals a0 a) {i : Nat} {o : Oper} (hi : l[i]? = some o) (hL : L i = false) (v : Value) :
    Slots l (fun k => if k = i then true else L k) (fun k => if k = i then v else vals k) a0 (a.put o.dst v) := by
  cases hd : o.dst with
  | none =>
    refine ⟨h.defers, h.size, fun k o' d hk hd' hLk => ?_, fun s hs => h.old s (fun k o' hk hLk => hs k o' hk (by split; rfl; exact hLk))⟩
    have hne : k ≠ i := fun e => by subst e; rw [hi] at hk; cases hk; rw [hd] at hd'; cases hd'
    simp only [if_neg hne] at hLk ⊢
    exact h.put k o' d hk hd' hLk
  | some d0 =>
    have hlt : d0 < a.tmps.size := by rw [h.size, hsz]; exact apart_lt hn i o d0 hi hd
    refine ⟨h.defers, by simpa [Act.put] using h.size, fun k o' d hk hd' hLk => ?_, fun s hs => ?_⟩
    · by_cases hki : k = i
      · subst hki
        rw [hi] at hk; cases hk
        rw [hd] at hd'; cases hd'
        simp [Act.put, Array.getElem?_setIfInBounds, hlt]
      · simp only [if_neg hki] at hLk ⊢
        have hne : d0 ≠ d := fun e => apart_ne hn i k o o' d0 hi hk hd (Ne.symm hki) (by rw [e]; exact hd')
        show (a.tmps.setIfInBounds d0 v)[d]? = _
        rw [Array.getElem?_setIfInBounds_ne hne]
        exact h.put k o' d hk hd' hLk
    · have hne : d0 ≠ s := fun e => hs i o hi (by simp) (by rw [hd, e])
      show (a.tmps.setIfInBounds d0 v)[s]? = _
      rw [Array.getElem?_setIfInBounds_ne hne]
      exact h.old s (fun k o' hk hLk => hs k o' hk (by split; rfl; exact hLk))

theorem putL_defers (vals : Nat → Value) : ∀ (l : List Oper) (k : Nat) (a : Act), (putL vals l k a).defers = a.defers
  | [], _, _ => rfl
  | o :: l, k, a => by
    rw [putL, putL_defers vals l]
    cases o.dst <;> rfl

theorem putL_size (vals : Nat → Value) : ∀ (l : List Oper) (k : Nat) (a : Act), (putL vals l k a).tmps.size = a.tmps.size
  | [], _, _ => rfl
  | o :: l, k, a => by
    rw [putL, putL_size vals l]
    cases o.dst <;> simp [Act.put]

theorem putL_at {n : Nat} (vals : Nat → Value) : ∀ (l : List Oper) (k : Nat) (a : Act), apartB n l = true → a.tmps.size = n →
    (∀ (j : Nat) (o : Oper) (d : Tmp), l[j]? = some o → o.dst = some d → (putL vals l k a).tmps[d]? = some (vals (k + j))) ∧ (∀ s : Nat, (∀ (j : Nat) (o : Oper), l[j]? = some o → o.dst ≠ some s) → (putL vals l k a).tmps[s]? = a.tmps[s]?)
  | [], k, a, _, _ => ⟨fun j o d hj => by simp at hj, fun _ _ => rfl⟩
  | x :: l, k, a, h, hsz => by
    have h' := h
    simp only [apartB, Bool.and_eq_true] at h
    have hsz' : (a.put x.dst (vals k)).tmps.size = n := by cases x.dst <;> simp [Act.put, hsz]
    obtain ⟨i1, i2⟩ := putL_at vals l (k + 1) (a.put x.dst (vals k)) h.2 hsz'
    refine ⟨fun j o d hj hd => ?_, fun s hs => ?_⟩
    · cases j with
      | zero =>
        simp only [List.getElem?_cons_zero, Option.some.injEq] at hj
        subst hj
        rw [putL, i2 d (fun j o hj => apart_ne h' 0 (j + 1) x o d rfl (by simpa using hj) hd (by omega)), hd]
        have := apart_lt h' 0 x d rfl hd
        simp [Act.put, Array.getElem?_setIfInBounds, hsz, this]
      | succ j =>
        rw [putL, i1 j o d (by simpa using hj) hd]
        congr 2
        omega
    · rw [putL, i2 s (fun j o hj => hs (j + 1) o (by simpa using hj))]
      have := hs 0 x rfl
      cases hd : x.dst with
      | none => rfl
      | some d =>
        rw [hd] at this
        show (a.tmps.setIfInBounds d _)[s]? = _
        rw [Array.getElem?_setIfInBounds_ne (fun e => this (by rw [e]))]

theorem Slots.all {n : Nat} (hn : apartB n l = true) {L : Nat → Bool} {vals : Nat → Value} {a0 a : Act} (hsz : a0.tmps.size = n) (h : Slots l L vals a0 a) (hL : ∀ k, k < l.length → L k = true) : a = putL vals l 0 a0 := by
  obtain ⟨i1, i2⟩ := putL_at vals l 0 a0 hn hsz
  have e1 : a.tmps = (putL vals l 0 a0).tmps := by
    apply Array.ext_getElem?
    intro s
    by_cases hs : ∃ (k : Nat) (o : Oper), l[k]? = some o ∧ o.dst = some s
    · obtain ⟨k, o, hk, hd⟩ := hs
      rw [h.put k o s hk hd (hL k (List.getElem?_eq_some_iff.1 hk).1), i1 k o s hk hd, Nat.zero_add]
    · have hs' : ∀ (k : Nat) (o : Oper), l[k]? = some o → o.dst ≠ some s := fun k o hk hd => hs ⟨k, o, hk, hd⟩
      rw [h.old s (fun k o hk _ => hs' k o hk), i2 s hs']
  have e2 : a.defers = (putL vals l 0 a0).defers := by rw [putL_defers, h.defers]
  cases a
  cases hp : putL vals l 0 a0
  rw [hp] at e1 e2
  simp only at e1 e2
  rw [e1, e2]

/-- Each waits for such as stand ahead of it. -/
def lowB (md : Region.Mode) (l : List Oper) : Bool :=
  (List.range l.length).all fun i => match l[i]? with
    | some o => o.after.all fun e => !Region.binds md e || decide (e.on < i)
    | none => true

theorem all_listed (hlow : lowB md l = true) {listed : Array Bool} (hz : listed.size = l.length) (hr : Region.ready md l.toArray listed = []) : ∀ k, k < l.length → listed.getD k false = true := by
  intro k
  induction k using Nat.strongRecOn with
  | ind k ih =>
    intro hk
    cases hL : listed.getD k false with
    | true => rfl
    | false =>
      exfalso
      have hm : k ∈ Region.ready md l.toArray listed := by
        refine mem_ready.2 ⟨?_, l[k], by simp [hk], fun e he hb => ?_⟩
        · have hkz : k < listed.size := by omega
          simp only [Array.getD_eq_getD_getElem?, Array.getElem?_eq_getElem hkz, Option.getD_some] at hL ⊢
          exact hL
        · have h1 := List.all_eq_true.1 hlow k (List.mem_range.2 hk)
          rw [List.getElem?_eq_getElem hk] at h1
          have h2 := (Array.all_eq_true_iff_forall_mem.1 h1) e he
          simp only [hb, Bool.not_true, Bool.false_or, decide_eq_true_eq] at h2
          exact ih e.on h2 (by omega)
      rw [hr] at hm
      cases hm

theorem any_joint {n : Nat} (hn : apartB n l = true) (a0 : Act) (hsz : a0.tmps.size = n) (J : (Nat → Bool) → (Nat → Value) → World → Prop)
    (hstep : ∀ (i : Nat) (o : Oper) (L : Nat → Bool) (vals : Nat → Value) (a : Act) (w : World), l[i]? = some o → L i = false → (∀ k, waitsB md l.toArray l.length i k = true → L k = true) → (∀ k, waitsB md l.toArray l.length k i = true → L k = false) → J L vals w →
      (∀ (k : Nat) (ok : Oper) (d : Tmp), l[k]? = some ok → ok.dst = some d → L k = true → a.tmps[d]? = some (vals k)) → (∀ s : Nat, (∀ (k : Nat) (ok : Oper), l[k]? = some ok → ok.dst ≠ some s) → a.tmps[s]? = a0.tmps[s]?) →
      wpList P l.toArray (fun e a' w' => e = .normal ∧ ∃ v, a' = a.put o.dst v ∧ J (fun k => if k = i then true else L k) (fun k => if k = i then v else vals k) w') [o] a w)
    {Q : Exit → Act → World → Prop} (hlow : lowB md l = true)
    (hend : ∀ vals w, J (fun _ => true) vals w → Q .normal (putL vals l 0 a0) w)
    (hext : ∀ L L' vals w, (∀ k, k < l.length → L k = L' k) → J L vals w → J L' vals w) :
    ∀ (f : Nat) (listed : Array Bool) (vals : Nat → Value) (a : Act) (w : World), listed.size = l.length → Closed md l.toArray listed → l.length ≤ f + (List.range l.length).countP (fun k => listed.getD k false) → Slots l (fun k => listed.getD k false) vals a0 a →
      J (fun k => listed.getD k false) vals w → wpAny P md l.toArray Q f listed a w := by
  have done : ∀ (listed : Array Bool) (vals : Nat → Value) (a : Act) (w : World), (∀ k, k < l.length → listed.getD k false = true) → Slots l (fun k => listed.getD k false) vals a0 a →
      J (fun k => listed.getD k false) vals w → Q .normal a w := by
    intro listed vals a w hL hs hg
    rw [hs.all hn hsz hL]
    exact hend vals w (hext _ _ vals w (fun k hk => hL k hk) hg)
  intro f
  induction f with
  | zero =>
    intro listed vals a w hz hc hf hs hg
    have hL : ∀ k, k < l.length → listed.getD k false = true := by
      have h1 : (List.range l.length).countP (fun k => listed.getD k false) = (List.range l.length).length := by
        have := List.countP_le_length (p := fun k => listed.getD k false) (l := List.range l.length)
        simp at this ⊢
        simp at hf
        omega
      have h2 := List.countP_eq_length.1 h1
      intro k hk
      exact h2 k (List.mem_range.2 hk)
    refine ⟨?_, done listed vals a w hL hs hg⟩
    rw [List.eq_nil_iff_forall_not_mem]
    intro j hj
    obtain ⟨h0, o, ho, _⟩ := mem_ready.1 hj
    have hlt : j < l.length := by simpa using (Array.getElem?_eq_some_iff.1 ho).1
    have h1 := hL j hlt
    rw [getD_both h0] at h1
    cases h1
  | succ f ih =>
    intro listed vals a w hz hc hf hs hg
    refine ⟨fun hr => done listed vals a w (all_listed hlow hz hr) hs hg, fun i hi => ?_⟩
    obtain ⟨h0, o, ho, hafter⟩ := mem_ready.1 hi
    have hi' : l[i]? = some o := by simpa using ho
    have hlt : i < l.length := (List.getElem?_eq_some_iff.1 hi').1
    have hLi : listed.getD i false = false := getD_both h0
    have hdeps : ∀ k, waitsB md l.toArray l.length i k = true → listed.getD k false = true := by
      intro k hk
      cases hn : l.length with
      | zero => omega
      | succ g =>
        rw [hn] at hk
        simp only [waitsB, ho] at hk
        obtain ⟨e, he, hb⟩ := Array.any_eq_true'.1 hk
        simp only [Bool.and_eq_true, Bool.or_eq_true, beq_iff_eq] at hb
        have h1 := hafter e he hb.1
        rcases hb.2 with h2 | h2
        · rw [← h2]; exact h1
        · exact listed_of_waits hc _ _ _ h2 h1
    have hlater : ∀ k, waitsB md l.toArray l.length k i = true → listed.getD k false = false := by
      intro k hk
      cases hk2 : listed.getD k false with
      | false => rfl
      | true => have := listed_of_waits hc _ _ _ hk hk2; rw [hLi] at this; cases this
    have hset : ∀ k, (listed.setIfInBounds i true).getD k false = if k = i then true else listed.getD k false := by
      intro k
      by_cases hk : k = i
      · subst hk
        simp only [if_true, Array.getD_eq_getD_getElem?, Array.getElem?_setIfInBounds]
        simp [hz, hlt]
      · simp only [if_neg hk, Array.getD_eq_getD_getElem?, Array.getElem?_setIfInBounds_ne (Ne.symm hk)]
    have h1 := hstep i o (fun k => listed.getD k false) vals a w hi' hLi hdeps hlater hg
      (fun k ok d hk hd hw => hs.put k ok d hk hd hw)
      (fun s hs' => hs.old s (fun k o hk _ => hs' k o hk))
    refine wpOp_mono ?_ (wpOp_out (fun _ _ h => h) (wpOp_of_list ho h1))
    rintro a' w' ⟨v, rfl, hg'⟩
    refine ih (listed.setIfInBounds i true) (fun k => if k = i then v else vals k) _ w' (by simpa using hz) (hc.set hi) ?_ ?_ ?_
    · have hcount : (List.range l.length).countP (fun k => listed.getD k false) + 1 ≤ (List.range l.length).countP (fun k => (listed.setIfInBounds i true).getD k false) := by
        have key : ∀ (r : List Nat), r.Nodup → (r.countP (fun k => listed.getD k false)) + (if i ∈ r then 1 else 0) ≤ r.countP (fun k => (listed.setIfInBounds i true).getD k false) := by
          intro r hr
          induction r with
          | nil => simp
          | cons x r ihr =>
            rw [List.nodup_cons] at hr
            have h3 := ihr hr.2
            rw [List.countP_cons, List.countP_cons, hset]
            by_cases hx : x = i
            · subst hx
              rw [if_neg hr.1] at h3
              rw [hLi, if_pos rfl, if_pos (List.mem_cons_self ..)]
              simp only [Bool.false_eq_true, if_false, if_true]
              omega
            · have hm : (i ∈ x :: r) ↔ i ∈ r := by simp [Ne.symm hx]
              simp only [hm, if_neg hx]
              omega
        have := key (List.range l.length) List.nodup_range
        rw [if_pos (List.mem_range.2 hlt)] at this
        exact this
      omega
    · have := hs.next hn hsz hi' hLi v
      have e : (fun k => (listed.setIfInBounds i true).getD k false) = (fun k => if k = i then true else listed.getD k false) := funext hset
      rw [e]
      exact this
    · have e : (fun k => (listed.setIfInBounds i true).getD k false) = (fun k => if k = i then true else listed.getD k false) := funext hset
      rw [e]
      exact hg'

/-- The region, operation by operation: J says what holds behind those that are listed. -/
theorem wp_region_joint {id : Nat} {Q : Exit → Act → World → Prop} {a0 : Act} {w0 : World} (n : Nat) (J : (Nat → Bool) → (Nat → Value) → World → Prop) (hm : P.follows .mixedOrders = true) (hsz : a0.tmps.size = n)
    (hB : (apartB n l && lowB .any l) = true)
    (hext : ∀ L L' vals w, (∀ k, k < l.length → L k = L' k) → J L vals w → J L' vals w) (hg0 : J (fun _ => false) (fun _ => undef) w0.drew)
    (hstep : ∀ (i : Nat) (o : Oper) (L : Nat → Bool) (vals : Nat → Value) (a : Act) (w : World), l[i]? = some o → L i = false → (∀ k, waitsB .any l.toArray l.length i k = true → L k = true) → (∀ k, waitsB .any l.toArray l.length k i = true → L k = false) → J L vals w →
      (∀ (k : Nat) (ok : Oper) (d : Tmp), l[k]? = some ok → ok.dst = some d → L k = true → a.tmps[d]? = some (vals k)) → (∀ s : Nat, (l.all fun ok => ok.dst != some s) = true → a.tmps[s]? = a0.tmps[s]?) →
      wpList P l.toArray (fun e a' w' => e = .normal ∧ ∃ v, a' = a.put o.dst v ∧ J (fun k => if k = i then true else L k) (fun k => if k = i then v else vals k) w') [o] a w)
    (hend : ∀ vals w, J (fun _ => true) vals w → Q .normal (putL vals l 0 a0) w) : (Code.region id l.toArray true).wp P Q a0 w0 := by
  simp only [Bool.and_eq_true] at hB
  have none : ∀ k, (Array.replicate l.length false).getD k false = false := fun k => getD_replicate_false _ _
  refine wp_region_any hm ?_
  have hz : l.toArray.size = l.length := by simp
  rw [hz]
  refine any_joint hB.1 a0 hsz J (fun i o L vals a w h1 h2 h3 h4 h5 h6 h7 => hstep i o L vals a w h1 h2 h3 h4 h5 h6 (fun s hs => h7 s (fun k ok hk hd => by have := List.all_eq_true.1 hs ok (List.mem_of_getElem? hk); rw [hd] at this; simp at this))) hB.2 hend hext l.length (Array.replicate l.length false) (fun _ => undef) a0 w0.drew (by simp) (closed_none _) (Nat.le_add_right _ _) ⟨rfl, rfl, fun k o d hk hd hL => ?_, fun s _ => rfl⟩ ?_
  · rw [none] at hL; cases hL
  · exact hext _ _ _ _ (fun k _ => (none k).symm) hg0

end
end Go.Proofs.YtgffifleflkjoaaGreat

namespace Go.Proofs.YtgffifleflkjoaaGreat
open Go.RowKit Dm

/-- What a slot holds. -/
inductive KindW where
  | val (v : Value)
  | chg (l : List Em.Change)
  | byt (l : List UInt8)
  | free

def HoldsW (B : Nat) (w : World) : KindW → Value → Prop
  | .val u, v => v = u
  | .chg l, v => ChangesAt w (fun b => B ≤ b) v l
  | .byt l, v => BytesAt w.heap (fun b => B ≤ b) v l
  | .free, _ => True

theorem HoldsW.later {B : Nat} {w w' : World} {K : KindW} {v : Value} (h : HoldsW B w K v) (hb : Below w.heap.size w w') : HoldsW B w' K v := by
  cases K with
  | val u => exact h
  | chg l => exact ChangesAt.later h hb
  | byt l => exact BytesAt.below h hb
  | free => trivial

structure JW (w0 : World) (kind : Nat → KindW) (L : Nat → Bool) (vals : Nat → Value) (w : World) : Prop where
  below : Below w0.heap.size w0 w
  holds : ∀ k, L k = true → HoldsW w0.heap.size w (kind k) (vals k)

theorem JW.put {w0 : World} {kind : Nat → KindW} {L : Nat → Bool} {vals : Nat → Value} {w w' : World} (h : JW w0 kind L vals w) (hb : Below w.heap.size w w') (i : Nat) (v : Value) (hv : HoldsW w0.heap.size w' (kind i) v) :
    JW w0 kind (fun k => if k = i then true else L k) (fun k => if k = i then v else vals k) w' := by
  refine ⟨h.below.trans (hb.mono h.below.size), fun k hk => ?_⟩
  by_cases e : k = i
  · subst e
    simp only [if_true]
    exact hv
  · simp only [if_neg e] at hk ⊢
    exact (h.holds k hk).later hb

theorem JW.same {w0 : World} {kind : Nat → KindW} {L : Nat → Bool} {vals : Nat → Value} {w : World} (h : JW w0 kind L vals w) (i : Nat) (v : Value) (hv : HoldsW w0.heap.size w (kind i) v) :
    JW w0 kind (fun k => if k = i then true else L k) (fun k => if k = i then v else vals k) w := h.put (Below.refl _ _) i v hv

theorem JW.ext {w0 : World} {kind : Nat → KindW} {n : Nat} {L L' : Nat → Bool} {vals : Nat → Value} {w : World} (hL : ∀ k, k < n → L k = L' k) (h : JW w0 kind L vals w) (hf : ∀ k, n ≤ k → kind k = .free) : JW w0 kind L' vals w := by
  refine ⟨h.below, fun k hk => ?_⟩
  by_cases hkn : k < n
  · exact h.holds k (by rw [hL k hkn]; exact hk)
  · rw [hf k (by omega)]; trivial

/-- A row of changes as they are written. -/
theorem changes_row {w : World} {F : Nat → Prop} {g cap : Nat} {cs : Array Value} {t : TypeId} {fr : Nat × Nat} {l : List Em.Change} (hr : w.heap[g]? = some (.cells cs t fr)) (hF : F g) (hcap : l.length ≤ cap) (hcap2 : cap ≤ 1000000)
    (hc : cs = (l.flatMap fun c => [strOfB c.key, strOfB c.value, .bool c.gone]).toArray) : ChangesAt w F (.slice (some ⟨g, 0, none⟩) l.length cap) l := by
  refine Or.inr ⟨g, 0, cap, cs, t, fr, rfl, hcap, by omega, hF, hr, ?_⟩
  subst hc
  intro i c hi
  have key : ∀ (l : List Em.Change) (i : Nat) (c : Em.Change), l[i]? = some c → ∀ j v, [strOfB c.key, strOfB c.value, Value.bool c.gone][j]? = some v → (l.flatMap fun c => [strOfB c.key, strOfB c.value, Value.bool c.gone])[i * 3 + j]? = some v := by
    intro l
    induction l with
    | nil => intro i c hi; simp at hi
    | cons x l ih =>
      intro i c hi j v hj
      rw [List.flatMap_cons]
      cases i with
      | zero =>
        simp only [List.getElem?_cons_zero, Option.some.injEq] at hi
        subst hi
        have hlt : j < 3 := by
          have := (List.getElem?_eq_some_iff.1 hj).1
          simpa using this
        rw [List.getElem?_append_left (by simp; omega)]
        simpa using hj
      | succ i =>
        rw [List.getElem?_append_right (by simp; omega)]
        have := ih i c (by simpa using hi) j v hj
        rw [show (i + 1) * 3 + j - [strOfB x.key, strOfB x.value, Value.bool x.gone].length = i * 3 + j by simp; omega]
        exact this
  have h0 := key l i c hi 0 _ rfl
  have h1 := key l i c hi 1 _ rfl
  have h2 := key l i c hi 2 _ rfl
  simp only [List.getElem?_toArray, Nat.zero_add, Nat.add_zero] at h0 h1 h2 ⊢
  exact ⟨h0, h1, h2⟩

theorem mk65 (W : World) : (Instr.makeSlice tBytes (.int .i64 65) (.int .i64 65)).run Tryz.prog W = .ok (.slice (some ⟨W.heap.size, 0, none⟩) 65 65) (W.alloc (.cells (Array.replicate 65 (.int .u8 0)) tByte)) := by kernel_rfl

/-- A row of zeros. -/
theorem zeros_row {w : World} {F : Nat → Prop} {g n : Nat} {t : TypeId} {fr : Nat × Nat} (hr : w.heap[g]? = some (.cells (Array.replicate n (.int .u8 0)) t fr)) (hF : F g) (hn : n ≤ 1000000) : BytesAt w.heap F (.slice (some ⟨g, 0, none⟩) n n) (List.replicate n 0) := by
  refine Or.inr ⟨g, 0, n, _, t, fr, by simp, by simp, by omega, hF, hr, ?_⟩
  intro i x hi
  obtain ⟨h1, h2⟩ := List.getElem?_eq_some_iff.1 hi
  have : x = 0 := by rw [← h2]; simp
  subst this
  have hlt : i < n := by simpa using h1
  simp [Array.getElem?_replicate, hlt]
  rfl

end Go.Proofs.YtgffifleflkjoaaGreat

namespace Go.Proofs.YtgffifleflkjoaaGreat
open Go.RowKit Dm

abbrev chg (c : Em.Change) : Value := .agg #[strOfB c.key, strOfB c.value, .bool c.gone]

/-- What the slots of the statement hold. -/
def kind7 (pl : Nat) : Nat → KindW
  | 0 | 4 | 8 => .val (.pointer (some ⟨pl, 0, none⟩))
  | 1 => .val (chg ⟨[], [], false⟩)
  | 5 => .val (chg ⟨[97], [49], true⟩)
  | 11 => .val (chg ⟨Em.z65, [], false⟩)
  | 2 => .chg Em.b1
  | 6 => .chg Em.b2
  | 12 => .chg Em.b3
  | 9 => .byt Em.z65
  | 10 => .val (strOfB Em.z65)
  | 3 | 14 => .val (.int .i64 2)
  | 7 | 15 => .val (.int .i64 2)
  | 13 | 16 => .val (.int .i64 3)
  | _ => .free

theorem below_plm {w0 W W' : World} {pl pd md : Nat} (hb : Below w0.heap.size w0 W) (h : Moves (PLM pl pd md) W W') (h1 : w0.heap.size ≤ pl) (h2 : w0.heap.size ≤ pd) (h3 : w0.heap.size ≤ md) : Below w0.heap.size w0 W' :=
  hb.trans ⟨h.os, h.tape, h.output, h.size, fun k hk => h.block k (by have := hb.size; omega) (fun e => by rcases e with e | e | e <;> omega)⟩

theorem below_pm {w0 W W' : World} {pd md : Nat} (hb : Below w0.heap.size w0 W) (h : Moves (PM pd md) W W') (h2 : w0.heap.size ≤ pd) (h3 : w0.heap.size ≤ md) : Below w0.heap.size w0 W' :=
  hb.trans ⟨h.os, h.tape, h.output, h.size, fun k hk => h.block k (by have := hb.size; omega) (fun e => by rcases e with e | e <;> omega)⟩

theorem below_more {w0 W W' : World} (hb : Below w0.heap.size w0 W) (h : Below W.heap.size W W') : Below w0.heap.size w0 W' := hb.trans (h.mono hb.size)

set_option maxRecDepth 100000 in
set_option maxHeartbeats 4000000 in
theorem works19_c (w : World) : Calls Tryz.prog 8 #[] w fun e w' => e = .returned (.bool true) ∧ Below w.heap.size w w' := by
  have NW := Lib.hid (new_c 4 4000 w rfl)
  go_enter Tryz.func8, Tryz.ntmps8
  go_upto_region 2 with (go_at_call 9; refine NW.out.mono ?_; rintro e w1 ⟨p, m, rfl, hb1, hp, hm, x1⟩)
  have lx := x1.lt
  have x1 : DiskAt w1.heap p m (Dm.new 4 4000) (fun k => k < w1.heap.size ∧ k ≠ p ∧ k ≠ m) := x1.weak (fun k hk hl => ⟨hl, hk.2⟩) (fun h => h.2.1 rfl) (fun h => h.2.2 rfl)
  obtain ⟨q1, q2, q3, q4, q5⟩ := Em.begun_fine (s := 4) (room := 4000) (by decide)
  have OC := Lib.hid (open_c (ts := fun _ => Em.T.none) x1 (by show 0 ≤ _; decide) (fun i h => h.1) (fun k _ => reads_nil k) rfl)
  have H1 := Lib.hid (And.intro hb1 (And.intro hp hm))
  clear hb1 hp hm x1 lx NW
  go_upto_region 3 with (go_at_call 10; refine OC.out.mono ?_; rintro e w2 ⟨m2, o2, _⟩; obtain ⟨pl, F2, rfl, x2, hpl, hF2, _⟩ := o2 q1)
  have H2 := Lib.hid (And.intro m2 (And.intro hpl hF2))
  clear m2 o2 hpl hF2 OC
  obtain ⟨E0, hE0⟩ : ∃ E0, (Em.begun (Dm.new 4 4000)).1 = E0 := ⟨_, rfl⟩
  rw [show ((4000 : Nat) : Int) = 4000 from rfl] at q2 q3 q4 q5
  rw [hE0] at x2 q2 q3 q4 q5
  clear hE0 q1
  have ba : ∀ c, Below w2.heap.size w2 (w2.alloc c) := fun c => (Below.refl _ _).alloc (Nat.le_refl _) c
  obtain ⟨r1, r2, r3, r4, r5⟩ := q2.commit (l := Em.l1) (by rw [q3]; exact Em.l1_done) (by have := Em.l1_len; omega) (by omega) (by have := Em.l1_len; omega)
  have CC := commit_c (log_below x2 (ba _)) (by rw [q2.disk.waits]; decide) (changes_row (heap_alloc_last w2 (.cells #[.string ⟨#[97]⟩, .string ⟨#[49]⟩, .bool false, .string ⟨#[98]⟩, .string ⟨#[50]⟩, .bool false, .string ⟨#[97]⟩, .string ⟨#[]⟩, .bool true] tChange)) (F := fun _ => True) (l := Em.l1) (cap := 3) trivial (by decide) (by decide) rfl) (by decide) (by decide)
  have CC := Lib.hid CC
  have L5 := Em.l1_len
  rw [q3] at r3
  have H3 := Lib.hid (And.intro (below_more (below_pm H1.out.1 H2.out.1 H1.out.2.1 H1.out.2.2) (ba (.cells #[.string ⟨#[97]⟩, .string ⟨#[49]⟩, .bool false, .string ⟨#[98]⟩, .string ⟨#[50]⟩, .bool false, .string ⟨#[97]⟩, .string ⟨#[]⟩, .bool true] tChange))) (show w.heap.size ≤ pl from Nat.le_trans H1.out.1.size H2.out.2.1))
  generalize hE1 : Em.E.commit E0 Em.l1 = R1 at *
  clear x2 q3 ba
  go_upto_region 4 with (go_at_call 11; refine CC.out.mono ?_; rintro e w3 ⟨rfl, m3, x3⟩
                         have B3 := below_plm H3.out.1 m3 H3.out.2 H1.out.2.1 H1.out.2.2
                         clear m3)
  obtain ⟨F3, x3⟩ : ∃ F3, LogAt w3 pl p m R1.1 F3 := ⟨_, x3⟩
  obtain ⟨E1, hE⟩ : ∃ E1, R1.1 = E1 := ⟨_, rfl⟩
  rw [hE] at x3 r2 r3 r4 r5
  clear hE hE1 CC r1
  have r3 : E1.rows = Em.D1 := r3
  have LC := len_c x3
  have GC := gen_c x3
  have GB := get_c x3 [98] (by decide)
  have GA := get_c x3 [97] (by decide)
  rw [r3, Em.D1_size] at LC
  rw [r2.gen] at GC
  rw [r3, Em.D1_b.1, Em.D1_b.2] at GB
  rw [r3, Em.D1_a.1] at GA
  have LC := Lib.hid LC
  have GC := Lib.hid GC
  have GB := Lib.hid GB
  have GA := Lib.hid GA
  go_upto_region 7 with (first
    | (go_at_call 22; refine LC.out.mono ?_; rintro e w4 ⟨rfl, rfl⟩)
    | (go_at_call 23; refine GC.out.mono ?_; rintro e w4 ⟨rfl, rfl⟩)
    | (go_at_call 21; (with_reducible refine GB.out.mono ?_); rintro e w4 ⟨rfl, rfl⟩)
    | (go_at_call 21; (with_reducible refine GA.out.mono ?_); rintro e w4 ⟨rfl, rfl⟩))
  clear LC GC GB GA
  have X3 := Lib.hid x3
  have j0 : JW w3 (kind7 pl) (fun _ => false) (fun _ => undef) w3.drew := ⟨(Below.refl _ _).drew, fun k h => by cases h⟩
  have HB : ∀ (l : List Em.Change) (c : Int), Em.doneErr Em.D1 l = c → c ≠ 0 → l.length ≤ 1000000 → (∀ c ∈ l, c.key.length ≤ 1000000000 ∧ c.value.length ≤ 1000000000) → ∀ W v, Below w3.heap.size w3 W → ChangesAt W (fun b => w3.heap.size ≤ b) v l →
      Calls Tryz.prog 11 #[.pointer (some ⟨pl, 0, none⟩), v] W fun en w' => en = .returned (.int .i64 c) ∧ Below W.heap.size W w' := by
    intro l c h1 h2 h3 h4 W v hb hc
    have := commit_bad_c (log_below X3.out hb) hc h3 h4 (by rw [r3, h1]; exact h2)
    rw [r3, h1] at this
    exact this
  have HB := Lib.hid HB
  clear x3
  refine wp_region_joint _ (JW w3 (kind7 pl)) (by kernel_rfl) rfl (by kernel_rfl) (fun L L' vals w hL h => h.ext (n := 17) hL (fun k hk => by match k, hk with | k + 17, _ => rfl)) j0 ?_ ?_
  · intro i o L vals a W hi hLi hd hl hj hs hold
    match i, hi with
    | 0, hi =>
      obtain rfl := Option.some.inj hi
      have h1 : a.tmps[3]? = some _ := hold 3 (by kernel_rfl)
      refine wpList_plain rfl fun K hK => ?_
      go_simp
      exact hK _ _ (wpList_nil ⟨rfl, _, rfl, hj.same 0 _ rfl⟩)
    | 4, hi =>
      obtain rfl := Option.some.inj hi
      have h1 : a.tmps[3]? = some _ := hold 3 (by kernel_rfl)
      refine wpList_plain rfl fun K hK => ?_
      go_simp
      exact hK _ _ (wpList_nil ⟨rfl, _, rfl, hj.same 4 _ rfl⟩)
    | 8, hi =>
      obtain rfl := Option.some.inj hi
      have h1 : a.tmps[3]? = some _ := hold 3 (by kernel_rfl)
      refine wpList_plain rfl fun K hK => ?_
      go_simp
      exact hK _ _ (wpList_nil ⟨rfl, _, rfl, hj.same 8 _ rfl⟩)
    | 1, hi =>
      obtain rfl := Option.some.inj hi
      refine wpList_plain rfl fun K hK => ?_
      go_simp
      exact hK _ _ (wpList_nil ⟨rfl, _, rfl, hj.same 1 _ rfl⟩)
    | 5, hi =>
      obtain rfl := Option.some.inj hi
      refine wpList_plain rfl fun K hK => ?_
      go_simp
      exact hK _ _ (wpList_nil ⟨rfl, _, rfl, hj.same 5 _ rfl⟩)
    | 2, hi =>
      obtain rfl := Option.some.inj hi
      have e1 := hs 1 _ 50 rfl rfl (hd 1 (by kernel_rfl))
      rw [show vals 1 = _ from hj.holds 1 (hd 1 (by kernel_rfl))] at e1
      refine wpList_plain rfl fun K hK => ?_
      go_simp
      exact hK _ _ (wpList_nil ⟨rfl, _, rfl, hj.put ((Below.refl _ _).alloc (Nat.le_refl _) _) 2 _ (changes_row (l := Em.b1) (cap := 1) (heap_alloc_last W _) hj.below.size (by decide) (by decide) rfl)⟩)
    | 6, hi =>
      obtain rfl := Option.some.inj hi
      have e1 := hs 5 _ 54 rfl rfl (hd 5 (by kernel_rfl))
      rw [show vals 5 = _ from hj.holds 5 (hd 5 (by kernel_rfl))] at e1
      refine wpList_plain rfl fun K hK => ?_
      go_simp
      exact hK _ _ (wpList_nil ⟨rfl, _, rfl, hj.put ((Below.refl _ _).alloc (Nat.le_refl _) _) 6 _ (changes_row (l := Em.b2) (cap := 1) (heap_alloc_last W _) hj.below.size (by decide) (by decide) rfl)⟩)
    | 12, hi =>
      obtain rfl := Option.some.inj hi
      have e1 := hs 11 _ 60 rfl rfl (hd 11 (by kernel_rfl))
      rw [show vals 11 = _ from hj.holds 11 (hd 11 (by kernel_rfl))] at e1
      refine wpList_plain rfl fun K hK => ?_
      go_simp
      exact hK _ _ (wpList_nil ⟨rfl, _, rfl, hj.put ((Below.refl _ _).alloc (Nat.le_refl _) _) 12 _ (changes_row (l := Em.b3) (cap := 1) (heap_alloc_last W _) hj.below.size (by decide) (by decide) rfl)⟩)
    | 3, hi =>
      obtain rfl := Option.some.inj hi
      have e0 := hs 0 _ 49 rfl rfl (hd 0 (by kernel_rfl))
      rw [show vals 0 = _ from hj.holds 0 (hd 0 (by kernel_rfl))] at e0
      have e1 := hs 2 _ 51 rfl rfl (hd 2 (by kernel_rfl))
      have CB := Lib.hid (HB.out Em.b1 2 Em.b1_done (by decide) (by decide) (by decide) W (vals 2) hj.below (hj.holds 2 (hd 2 (by kernel_rfl))))
      refine wpList_plain rfl fun K hK => ?_
      go_simp
      go_at_call 11
      refine CB.out.mono ?_
      rintro e W2 ⟨rfl, hb⟩
      exact hK _ _ (wpList_nil ⟨rfl, _, rfl, hj.put hb 3 _ rfl⟩)
    | 7, hi =>
      obtain rfl := Option.some.inj hi
      have e0 := hs 4 _ 53 rfl rfl (hd 4 (by kernel_rfl))
      rw [show vals 4 = _ from hj.holds 4 (hd 4 (by kernel_rfl))] at e0
      have e1 := hs 6 _ 55 rfl rfl (hd 6 (by kernel_rfl))
      have CB := Lib.hid (HB.out Em.b2 2 Em.b2_done (by decide) (by decide) (by decide) W (vals 6) hj.below (hj.holds 6 (hd 6 (by kernel_rfl))))
      refine wpList_plain rfl fun K hK => ?_
      go_simp
      go_at_call 11
      refine CB.out.mono ?_
      rintro e W2 ⟨rfl, hb⟩
      exact hK _ _ (wpList_nil ⟨rfl, _, rfl, hj.put hb 7 _ rfl⟩)
    | 13, hi =>
      obtain rfl := Option.some.inj hi
      have e0 := hs 8 _ 57 rfl rfl (hd 8 (by kernel_rfl))
      rw [show vals 8 = _ from hj.holds 8 (hd 8 (by kernel_rfl))] at e0
      have e1 := hs 12 _ 61 rfl rfl (hd 12 (by kernel_rfl))
      have CB := Lib.hid (HB.out Em.b3 3 Em.b3_done (by decide) (by decide) (by decide) W (vals 12) hj.below (hj.holds 12 (hd 12 (by kernel_rfl))))
      refine wpList_plain rfl fun K hK => ?_
      go_simp
      go_at_call 11
      refine CB.out.mono ?_
      rintro e W2 ⟨rfl, hb⟩
      exact hK _ _ (wpList_nil ⟨rfl, _, rfl, hj.put hb 13 _ rfl⟩)
    | 9, hi =>
      obtain rfl := Option.some.inj hi
      have hmk := mk65
      refine wpList_plain rfl fun K hK => ?_
      go_simp
      exact hK _ _ (wpList_nil ⟨rfl, _, rfl, hj.put ((Below.refl _ _).alloc (Nat.le_refl _) _) 9 _ (zeros_row (heap_alloc_last W _) hj.below.size (by decide))⟩)
    | 10, hi =>
      obtain rfl := Option.some.inj hi
      have e1 := hs 9 _ 58 rfl rfl (hd 9 (by kernel_rfl))
      have hcv := run_string_of (hj.holds 9 (hd 9 (by kernel_rfl)))
      refine wpList_plain rfl fun K hK => ?_
      go_simp
      exact hK _ _ (wpList_nil ⟨rfl, _, rfl, hj.same 10 _ rfl⟩)
    | 11, hi =>
      obtain rfl := Option.some.inj hi
      have e1 := hs 10 _ 59 rfl rfl (hd 10 (by kernel_rfl))
      rw [show vals 10 = _ from hj.holds 10 (hd 10 (by kernel_rfl))] at e1
      refine wpList_plain rfl fun K hK => ?_
      go_simp
      exact hK _ _ (wpList_nil ⟨rfl, _, rfl, hj.same 11 _ rfl⟩)
    | 14, hi =>
      obtain rfl := Option.some.inj hi
      have e0 := hs 3 _ 52 rfl rfl (hd 3 (by kernel_rfl))
      rw [show vals 3 = _ from hj.holds 3 (hd 3 (by kernel_rfl))] at e0
      refine wpList_plain rfl fun K hK => ?_
      go_simp
      exact hK _ _ (wpList_nil ⟨rfl, _, rfl, hj.same 14 _ rfl⟩)
    | 15, hi =>
      obtain rfl := Option.some.inj hi
      have e0 := hs 7 _ 56 rfl rfl (hd 7 (by kernel_rfl))
      rw [show vals 7 = _ from hj.holds 7 (hd 7 (by kernel_rfl))] at e0
      refine wpList_plain rfl fun K hK => ?_
      go_simp
      exact hK _ _ (wpList_nil ⟨rfl, _, rfl, hj.same 15 _ rfl⟩)
    | 16, hi =>
      obtain rfl := Option.some.inj hi
      have e0 := hs 13 _ 62 rfl rfl (hd 13 (by kernel_rfl))
      rw [show vals 13 = _ from hj.holds 13 (hd 13 (by kernel_rfl))] at e0
      refine wpList_plain rfl fun K hK => ?_
      go_simp
      exact hK _ _ (wpList_nil ⟨rfl, _, rfl, hj.same 16 _ rfl⟩)
    | k + 17, hi => cases hi
  · intro vals W hj
    have q0 : vals 0 = _ := hj.holds 0 rfl
    have q14 : vals 14 = _ := hj.holds 14 rfl
    have q15 : vals 15 = _ := hj.holds 15 rfl
    have q16 : vals 16 = _ := hj.holds 16 rfl
    have HJ := Lib.hid hj.below
    clear hj j0 HB
    simp only [putL, Nat.zero_add, Nat.reduceAdd, q0, q14, q15, q16]
    clear q0 q14 q15 q16
    generalize vals 1 = u1
    generalize vals 2 = u2
    generalize vals 3 = u3
    generalize vals 4 = u4
    generalize vals 5 = u5
    generalize vals 6 = u6
    generalize vals 7 = u7
    generalize vals 8 = u8
    generalize vals 9 = u9
    generalize vals 10 = u10
    generalize vals 11 = u11
    generalize vals 12 = u12
    generalize vals 13 = u13
    go_simp
    obtain ⟨F4, x4⟩ : ∃ F4, LogAt W pl p m E1 F4 := ⟨_, log_below X3.out HJ.out⟩
    have B4 := below_more B3 HJ.out
    have hst : E1.d.stop 0 = ((E1.d.stop 0).1, 0) := by
      unfold D.stop
      rw [if_neg (by decide), if_neg (by rw [r2.disk.dead]; decide)]
    have SC := Lib.hid (stop_c x4.disk 0 (by decide))
    have X4 := Lib.hid x4
    have hwt : (E1.d.stop 0).1.waits = [] := by
      unfold D.stop
      rw [if_neg (by decide), if_neg (by rw [r2.disk.dead]; decide)]
      exact r2.disk.waits
    clear x4 X3 HJ
    go_upto_region 9 with (go_at_call 16; refine SC.out.mono ?_; rintro e w5 hs; obtain ⟨he, m5, x5⟩ := log_left_disk X4.out hs; rw [hst] at he; subst he; have B5 := below_plm B4 m5 H3.out.2 H1.out.2.1 H1.out.2.2; clear hs m5)
    have ba : ∀ c, Below w5.heap.size w5 (w5.alloc c) := fun c => (Below.refl _ _).alloc (Nat.le_refl _) c
    obtain ⟨s1, s2, s3⟩ := r2.stopped (l := Em.lc) (by rw [r3]; exact Em.lc_done) (by have := Em.lc_len; omega) (by omega) (by have := Em.lc_len; omega)
    have hw2 := commit_waits { E1 with d := (E1.d.stop 0).1 } Em.lc
    have CC := Lib.hid (commit_c (log_below x5 (ba _)) (by show (E1.d.stop 0).1.waits.length ≤ _; rw [hwt]; decide) (changes_row (heap_alloc_last w5 (.cells #[.string ⟨#[99]⟩, .string ⟨#[51]⟩, .bool false] tChange)) (F := fun _ => True) (l := Em.lc) (cap := 1) trivial (by decide) (by decide) rfl) (by decide) (by decide))
    have B5a := below_more B5 (ba (.cells #[.string ⟨#[99]⟩, .string ⟨#[51]⟩, .bool false] tChange))
    have hw2 : (Em.E.commit { E1 with d := (E1.d.stop 0).1 } Em.lc).1.d.waits.length ≤ 5 := by
      have e0 : ({ E1 with d := (E1.d.stop 0).1 } : Em.E).d.waits.length = 0 := by show (E1.d.stop 0).1.waits.length = 0; rw [hwt]; rfl
      omega
    generalize Em.E.commit { E1 with d := (E1.d.stop 0).1 } Em.lc = R2 at *
    clear x5 ba
    go_upto_region 10 with (go_at_call 11; refine CC.out.mono ?_; rintro e w6 ⟨rfl, m6, x6⟩
                            have B6 := below_plm B5a m6 H3.out.2 H1.out.2.1 H1.out.2.2
                            clear m6)
    obtain ⟨F6, x6⟩ : ∃ F6, LogAt w6 pl p m R2.1 F6 := ⟨_, x6⟩
    obtain ⟨E3, hE⟩ : ∃ E3, R2.1 = E3 := ⟨_, rfl⟩
    rw [hE] at x6 s2 s3 hw2
    clear hE CC
    have GC := get_c x6 [99] (by decide)
    rw [s3, r3, Em.D1_a.2] at GC
    have GC := Lib.hid GC
    have ba : ∀ c, Below w6.heap.size w6 (w6.alloc c) := fun c => (Below.refl _ _).alloc (Nat.le_refl _) c
    have CC := commit_c (log_below x6 (ba _)) (by omega) (changes_row (heap_alloc_last w6 (.cells #[.string ⟨#[100]⟩, .string ⟨#[52]⟩, .bool false] tChange)) (F := fun _ => True) (l := Em.ld) (cap := 1) trivial (by decide) (by decide) rfl) (by decide) (by decide)
    rw [commit_gone (by rw [s3, r3]; exact Em.ld_done) s2] at CC
    have CC := Lib.hid CC
    have B6a := below_more B6 (ba (.cells #[.string ⟨#[100]⟩, .string ⟨#[52]⟩, .bool false] tChange))
    clear x6 ba
    go_upto_region 12 with (first
      | (go_at_call 21; (with_reducible refine GC.out.mono ?_); rintro e w7 ⟨rfl, rfl⟩)
      | (go_at_call 11; refine CC.out.mono ?_; rintro e w8 ⟨rfl, m8, x8⟩
         have B8 := below_plm B6a m8 H3.out.2 H1.out.2.1 H1.out.2.2
         have GN := gone_c x8
         rw [s2] at GN
         have GN := Lib.hid GN
         clear m8 x8))
    clear GC CC
    go_wp2_with (first
      | (go_at_call 12; refine (num19_c _ _).mono ?_; rintro e w' ⟨rfl, rfl⟩)
      | (go_at_call 17; refine GN.out.mono ?_; rintro e w' ⟨rfl, rfl⟩))
    trace_state
    go_ret
    exact ⟨rfl, B8⟩

end Go.Proofs.YtgffifleflkjoaaGreat
