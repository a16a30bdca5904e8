/-
  A region that draws its order, each operation by what its slot holds, whatever was done ahead of it.
  A region that draws its order and calls a disk's functions: what its slots hold.
-/
import Derived.Test.YtiefhmbpaoecfaaG04
import Derived.Test.YtiefhmbpaoecfaaG27
import Derived.Lib.SlBytesConst

namespace Go.Proofs.Ytiefhmbpaoecfaa
open Go.RowKit

section
variable {P : Program} {l : List Oper} {md : Region.Mode}

/-- What stands in the slots behind some operations. -/
def putL (vals : Nat → Value) : List Oper → Nat → Act → Act
  | [], _, a => a
  | o :: l, k, a => putL vals l (k + 1) (a.put o.dst (vals k))

/-- The slots between two operations: what is listed has been put, all else is as it was. -/
structure Slots (l : List Oper) (L : Nat → Bool) (vals : Nat → Value) (a0 a : Act) : Prop where
  defers : a.defers = a0.defers
  size : a.tmps.size = a0.tmps.size
  put : ∀ (k : Nat) (o : Oper) (d : Tmp), l[k]? = some o → o.dst = some d → L k = true → a.tmps[d]? = some (vals k)
  old : ∀ s : Nat, (∀ (k : Nat) (o : Oper), l[k]? = some o → L k = true → o.dst ≠ some s) → a.tmps[s]? = a0.tmps[s]?

/-- Slots that are each one's own, and there. -/
def apartB (n : Nat) : List Oper → Bool
  | [] => true
  | o :: l => (match o.dst with | none => true | some d => decide (d < n) && l.all (fun o' => o'.dst != some d)) && apartB n l

theorem apart_lt {n : Nat} : ∀ {l : List Oper}, apartB n l = true → ∀ (k : Nat) (o : Oper) (d : Tmp), l[k]? = some o → o.dst = some d → d < n
  | [], _, k, o, d, hk, _ => by simp at hk
  | x :: l, h, k, o, d, hk, hd => by
    simp only [apartB, Bool.and_eq_true] at h
    cases k with
    | zero =>
      simp only [List.getElem?_cons_zero, Option.some.injEq] at hk
      subst hk
      have h1 := h.1
      rw [hd] at h1
      simp only [Bool.and_eq_true, decide_eq_true_eq] at h1
      exact h1.1
    | succ k => exact apart_lt h.2 k o d (by simpa using hk) hd

theorem apart_ne {n : Nat} : ∀ {l : List Oper}, apartB n l = true → ∀ (k j : Nat) (o o' : Oper) (d : Tmp), l[k]? = some o → l[j]? = some o' → o.dst = some d → k ≠ j → o'.dst ≠ some d
  | [], _, k, _, o, _, d, hk, _, _, _ => by simp at hk
  | x :: l, h, k, j, o, o', d, hk, hj, hd, hne => by
    simp only [apartB, Bool.and_eq_true] at h
    cases k with
    | zero =>
      simp only [List.getElem?_cons_zero, Option.some.injEq] at hk
      subst hk
      cases j with
      | zero => exact absurd rfl hne
      | succ j =>
        have h1 := h.1
        rw [hd] at h1
        simp only [Bool.and_eq_true, List.all_eq_true] at h1
        have := h1.2 o' (List.mem_of_getElem? (by simpa using hj))
        simpa using this
    | succ k =>
      cases j with
      | zero =>
        simp only [List.getElem?_cons_zero, Option.some.injEq] at hj
        subst hj
        intro e
        have h1 := h.1
        rw [e] at h1
        simp only [Bool.and_eq_true, List.all_eq_true] at h1
        have := h1.2 o (List.mem_of_getElem? (by simpa using hk))
        rw [hd] at this
        simp at this
      | succ j => exact apart_ne h.2 k j o o' d (by simpa using hk) (by simpa using hj) hd (by omega)

theorem Slots.next {n : Nat} (hn : apartB n l = true) {L : Nat → Bool} {vals : Nat → Value} {a0 a : Act} (hsz : a0.tmps.size = n) (h : Slots l L vals a0 a) {i : Nat} {o : Oper} (hi : l[i]? = some o) (hL : L i = false) (v : Value) :
    Slots l (fun k => if k = i then true else L k) (fun k => if k = i then v else vals k) a0 (a.put o.dst v) := by
  cases hd : o.dst with
  | none =>
    refine ⟨h.defers, h.size, fun k o' d hk hd' hLk => ?_, fun s hs => h.old s (fun k o' hk hLk => hs k o' hk (by split; rfl; exact hLk))⟩
    have hne : k ≠ i := fun e => by subst e; rw [hi] at hk; cases hk; rw [hd] at hd'; cases hd'
    simp only [if_neg hne] at hLk ⊢
    exact h.put k o' d hk hd' hLk
  | some d0 =>
    have hlt : d0 < a.tmps.size := by rw [h.size, hsz]; exact apart_lt hn i o d0 hi hd
    refine ⟨h.defers, by simpa [Act.put] using h.size, fun k o' d hk hd' hLk => ?_, fun s hs => ?_⟩
    · by_cases hki : k = i
      · subst hki
        rw [hi] at hk; cases hk
        rw [hd] at hd'; cases hd'
        simp [Act.put, Array.getElem?_setIfInBounds, hlt]
      · simp only [if_neg hki] at hLk ⊢
        have hne : d0 ≠ d := fun e => apart_ne hn i k o o' d0 hi hk hd (Ne.symm hki) (by rw [e]; exact hd')
        show (a.tmps.setIfInBounds d0 v)[d]? = _
        rw [Array.getElem?_setIfInBounds_ne hne]
        exact h.put k o' d hk hd' hLk
    · have hne : d0 ≠ s := fun e => hs i o hi (by simp) (by rw [hd, e])
      show (a.tmps.setIfInBounds d0 v)[s]? = _
      rw [Array.getElem?_setIfInBounds_ne hne]
      exact h.old s (fun k o' hk hLk => hs k o' hk (by split; rfl; exact hLk))

theorem putL_defers (vals : Nat → Value) : ∀ (l : List Oper) (k : Nat) (a : Act), (putL vals l k a).defers = a.defers
  | [], _, _ => rfl
  | o :: l, k, a => by
    rw [putL, putL_defers vals l]
    cases o.dst <;> rfl

theorem putL_size (vals : Nat → Value) : ∀ (l : List Oper) (k : Nat) (a : Act), (putL vals l k a).tmps.size = a.tmps.size
  | [], _, _ => rfl
  | o :: l, k, a => by
    rw [putL, putL_size vals l]
    cases o.dst <;> simp [Act.put]

theorem putL_at {n : Nat} (vals : Nat → Value) : ∀ (l : List Oper) (k : Nat) (a : Act), apartB n l = true → a.tmps.size = n →
    (∀ (j : Nat) (o : Oper) (d : Tmp), l[j]? = some o → o.dst = some d → (putL vals l k a).tmps[d]? = some (vals (k + j))) ∧ (∀ s : Nat, (∀ (j : Nat) (o : Oper), l[j]? = some o → o.dst ≠ some s) → (putL vals l k a).tmps[s]? = a.tmps[s]?)
  | [], k, a, _, _ => ⟨fun j o d hj => by simp at hj, fun _ _ => rfl⟩
  | x :: l, k, a, h, hsz => by
    have h' := h
    simp only [apartB, Bool.and_eq_true] at h
    have hsz' : (a.put x.dst (vals k)).tmps.size = n := by cases x.dst <;> simp [Act.put, hsz]
    obtain ⟨i1, i2⟩ := putL_at vals l (k + 1) (a.put x.dst (vals k)) h.2 hsz'
    refine ⟨fun j o d hj hd => ?_, fun s hs => ?_⟩
    · cases j with
      | zero =>
        simp only [List.getElem?_cons_zero, Option.some.injEq] at hj
        subst hj
        rw [putL, i2 d (fun j o hj => apart_ne h' 0 (j + 1) x o d rfl (by simpa using hj) hd (by omega)), hd]
        have := apart_lt h' 0 x d rfl hd
        simp [Act.put, Array.getElem?_setIfInBounds, hsz, this]
      | succ j =>
        rw [putL, i1 j o d (by simpa using hj) hd]
        congr 2
        omega
    · rw [putL, i2 s (fun j o hj => hs (j + 1) o (by simpa using hj))]
      have := hs 0 x rfl
      cases hd : x.dst with
      | none => rfl
      | some d =>
        rw [hd] at this
        show (a.tmps.setIfInBounds d _)[s]? = _
        rw [Array.getElem?_setIfInBounds_ne (fun e => this (by rw [e]))]

theorem Slots.all {n : Nat} (hn : apartB n l = true) {L : Nat → Bool} {vals : Nat → Value} {a0 a : Act} (hsz : a0.tmps.size = n) (h : Slots l L vals a0 a) (hL : ∀ k, k < l.length → L k = true) : a = putL vals l 0 a0 := by
  obtain ⟨i1, i2⟩ := putL_at vals l 0 a0 hn hsz
  have e1 : a.tmps = (putL vals l 0 a0).tmps := by
    apply Array.ext_getElem?
    intro s
    by_cases hs : ∃ (k : Nat) (o : Oper), l[k]? = some o ∧ o.dst = some s
    · obtain ⟨k, o, hk, hd⟩ := hs
      rw [h.put k o s hk hd (hL k (List.getElem?_eq_some_iff.1 hk).1), i1 k o s hk hd, Nat.zero_add]
    · have hs' : ∀ (k : Nat) (o : Oper), l[k]? = some o → o.dst ≠ some s := fun k o hk hd => hs ⟨k, o, hk, hd⟩
      rw [h.old s (fun k o hk _ => hs' k o hk), i2 s hs']
  have e2 : a.defers = (putL vals l 0 a0).defers := by rw [putL_defers, h.defers]
  cases a
  cases hp : putL vals l 0 a0
  rw [hp] at e1 e2
  simp only at e1 e2
  rw [e1, e2]

/-- Each waits for such as stand ahead of it. -/
def lowB (md : Region.Mode) (l : List Oper) : Bool :=
  (List.range l.length).all fun i => match l[i]? with
    | some o => o.after.all fun e => !Region.binds md e || decide (e.on < i)
    | none => true

theorem all_listed (hlow : lowB md l = true) {listed : Array Bool} (hz : listed.size = l.length) (hr : Region.ready md l.toArray listed = []) : ∀ k, k < l.length → listed.getD k false = true := by
  intro k
  induction k using Nat.strongRecOn with
  | ind k ih =>
    intro hk
    cases hL : listed.getD k false with
    | true => rfl
    | false =>
      exfalso
      have hm : k ∈ Region.ready md l.toArray listed := by
        refine mem_ready.2 ⟨?_, l[k], by simp [hk], fun e he hb => ?_⟩
        · have hkz : k < listed.size := by omega
          simp only [Array.getD_eq_getD_getElem?, Array.getElem?_eq_getElem hkz, Option.getD_some] at hL ⊢
          exact hL
        · have h1 := List.all_eq_true.1 hlow k (List.mem_range.2 hk)
          rw [List.getElem?_eq_getElem hk] at h1
          have h2 := (Array.all_eq_true_iff_forall_mem.1 h1) e he
          simp only [hb, Bool.not_true, Bool.false_or, decide_eq_true_eq] at h2
          exact ih e.on h2 (by omega)
      rw [hr] at hm
      cases hm

theorem any_joint {n : Nat} (hn : apartB n l = true) (a0 : Act) (hsz : a0.tmps.size = n) (J : (Nat → Bool) → (Nat → Value) → World → Prop)
    (hstep : ∀ (i : Nat) (o : Oper) (L : Nat → Bool) (vals : Nat → Value) (a : Act) (w : World), l[i]? = some o → L i = false → (∀ k, waitsB md l.toArray l.length i k = true → L k = true) → (∀ k, waitsB md l.toArray l.length k i = true → L k = false) → J L vals w →
      (∀ (k : Nat) (ok : Oper) (d : Tmp), l[k]? = some ok → ok.dst = some d → L k = true → a.tmps[d]? = some (vals k)) → (∀ s : Nat, (∀ (k : Nat) (ok : Oper), l[k]? = some ok → ok.dst ≠ some s) → a.tmps[s]? = a0.tmps[s]?) →
      wpList P l.toArray (fun e a' w' => e = .normal ∧ ∃ v, a' = a.put o.dst v ∧ J (fun k => if k = i then true else L k) (fun k => if k = i then v else vals k) w') [o] a w)
    {Q : Exit → Act → World → Prop} (hlow : lowB md l = true)
    (hend : ∀ vals w, J (fun _ => true) vals w → Q .normal (putL vals l 0 a0) w)
    (hext : ∀ L L' vals w, (∀ k, k < l.length → L k = L' k) → J L vals w → J L' vals w) :
    ∀ (f : Nat) (listed : Array Bool) (vals : Nat → Value) (a : Act) (w : World), listed.size = l.length → Closed md l.toArray listed → l.length ≤ f + (List.range l.length).countP (fun k => listed.getD k false) → Slots l (fun k => listed.getD k false) vals a0 a →
      J (fun k => listed.getD k false) vals w → wpAny P md l.toArray Q f listed a w := by
  have done : ∀ (listed : Array Bool) (vals : Nat → Value) (a : Act) (w : World), (∀ k, k < l.length → listed.getD k false = true) → Slots l (fun k => listed.getD k false) vals a0 a →
      J (fun k => listed.getD k false) vals w → Q .normal a w := by
    intro listed vals a w hL hs hg
    rw [hs.all hn hsz hL]
    exact hend vals w (hext _ _ vals w (fun k hk => hL k hk) hg)
  intro f
  induction f with
  | zero =>
    intro listed vals a w hz hc hf hs hg
    have hL : ∀ k, k < l.length → listed.getD k false = true := by
      have h1 : (List.range l.length).countP (fun k => listed.getD k false) = (List.range l.length).length := by
        have := List.countP_le_length (p := fun k => listed.getD k false) (l := List.range l.length)
        simp at this ⊢
        simp at hf
        omega
      have h2 := List.countP_eq_length.1 h1
      intro k hk
      exact h2 k (List.mem_range.2 hk)
    refine ⟨?_, done listed vals a w hL hs hg⟩
    rw [List.eq_nil_iff_forall_not_mem]
    intro j hj
    obtain ⟨h0, o, ho, _⟩ := mem_ready.1 hj
    have hlt : j < l.length := by simpa using (Array.getElem?_eq_some_iff.1 ho).1
    have h1 := hL j hlt
    rw [getD_both h0] at h1
    cases h1
  | succ f ih =>
    intro listed vals a w hz hc hf hs hg
    refine ⟨fun hr => done listed vals a w (all_listed hlow hz hr) hs hg, fun i hi => ?_⟩
    obtain ⟨h0, o, ho, hafter⟩ := mem_ready.1 hi
    have hi' : l[i]? = some o := by simpa using ho
    have hlt : i < l.length := (List.getElem?_eq_some_iff.1 hi').1
    have hLi : listed.getD i false = false := getD_both h0
    have hdeps : ∀ k, waitsB md l.toArray l.length i k = true → listed.getD k false = true := by
      intro k hk
      cases hn : l.length with
      | zero => omega
      | succ g =>
        rw [hn] at hk
        simp only [waitsB, ho] at hk
        obtain ⟨e, he, hb⟩ := Array.any_eq_true'.1 hk
        simp only [Bool.and_eq_true, Bool.or_eq_true, beq_iff_eq] at hb
        have h1 := hafter e he hb.1
        rcases hb.2 with h2 | h2
        · rw [← h2]; exact h1
        · exact listed_of_waits hc _ _ _ h2 h1
    have hlater : ∀ k, waitsB md l.toArray l.length k i = true → listed.getD k false = false := by
      intro k hk
      cases hk2 : listed.getD k false with
      | false => rfl
      | true => have := listed_of_waits hc _ _ _ hk hk2; rw [hLi] at this; cases this
    have hset : ∀ k, (listed.setIfInBounds i true).getD k false = if k = i then true else listed.getD k false := by
      intro k
      by_cases hk : k = i
      · subst hk
        simp only [if_true, Array.getD_eq_getD_getElem?, Array.getElem?_setIfInBounds]
        simp [hz, hlt]
      · simp only [if_neg hk, Array.getD_eq_getD_getElem?, Array.getElem?_setIfInBounds_ne (Ne.symm hk)]
    have h1 := hstep i o (fun k => listed.getD k false) vals a w hi' hLi hdeps hlater hg
      (fun k ok d hk hd hw => hs.put k ok d hk hd hw)
      (fun s hs' => hs.old s (fun k o hk _ => hs' k o hk))
    refine wpOp_mono ?_ (wpOp_out (fun _ _ h => h) (wpOp_of_list ho h1))
    rintro a' w' ⟨v, rfl, hg'⟩
    refine ih (listed.setIfInBounds i true) (fun k => if k = i then v else vals k) _ w' (by simpa using hz) (hc.set hi) ?_ ?_ ?_
    · have hcount : (List.range l.length).countP (fun k => listed.getD k false) + 1 ≤ (List.range l.length).countP (fun k => (listed.setIfInBounds i true).getD k false) := by
        have key : ∀ (r : List Nat), r.Nodup → (r.countP (fun k => listed.getD k false)) + (if i ∈ r then 1 else 0) ≤ r.countP (fun k => (listed.setIfInBounds i true).getD k false) := by
          intro r hr
          induction r with
          | nil => simp
          | cons x r ihr =>
            rw [List.nodup_cons] at hr
            have h3 := ihr hr.2
            rw [List.countP_cons, List.countP_cons, hset]
            by_cases hx : x = i
            · subst hx
              rw [if_neg hr.1] at h3
              rw [hLi, if_pos rfl, if_pos (List.mem_cons_self ..)]
              simp only [Bool.false_eq_true, if_false, if_true]
              omega
            · have hm : (i ∈ x :: r) ↔ i ∈ r := by simp [Ne.symm hx]
              simp only [hm, if_neg hx]
              omega
        have := key (List.range l.length) List.nodup_range
        rw [if_pos (List.mem_range.2 hlt)] at this
        exact this
      omega
    · have := hs.next hn hsz hi' hLi v
      have e : (fun k => (listed.setIfInBounds i true).getD k false) = (fun k => if k = i then true else listed.getD k false) := funext hset
      rw [e]
      exact this
    · have e : (fun k => (listed.setIfInBounds i true).getD k false) = (fun k => if k = i then true else listed.getD k false) := funext hset
      rw [e]
      exact hg'

/-- The region, operation by operation: J says what holds behind those that are listed. -/
theorem wp_region_joint {id : Nat} {Q : Exit → Act → World → Prop} {a0 : Act} {w0 : World} (n : Nat) (J : (Nat → Bool) → (Nat → Value) → World → Prop) (hm : P.follows .mixedOrders = true) (hsz : a0.tmps.size = n)
    (hB : (apartB n l && lowB .any l) = true)
    (hext : ∀ L L' vals w, (∀ k, k < l.length → L k = L' k) → J L vals w → J L' vals w) (hg0 : J (fun _ => false) (fun _ => undef) w0.drew)
    (hstep : ∀ (i : Nat) (o : Oper) (L : Nat → Bool) (vals : Nat → Value) (a : Act) (w : World), l[i]? = some o → L i = false → (∀ k, waitsB .any l.toArray l.length i k = true → L k = true) → (∀ k, waitsB .any l.toArray l.length k i = true → L k = false) → J L vals w →
      (∀ (k : Nat) (ok : Oper) (d : Tmp), l[k]? = some ok → ok.dst = some d → L k = true → a.tmps[d]? = some (vals k)) → (∀ s : Nat, (l.all fun ok => ok.dst != some s) = true → a.tmps[s]? = a0.tmps[s]?) →
      wpList P l.toArray (fun e a' w' => e = .normal ∧ ∃ v, a' = a.put o.dst v ∧ J (fun k => if k = i then true else L k) (fun k => if k = i then v else vals k) w') [o] a w)
    (hend : ∀ vals w, J (fun _ => true) vals w → Q .normal (putL vals l 0 a0) w) : (Code.region id l.toArray true).wp P Q a0 w0 := by
  simp only [Bool.and_eq_true] at hB
  have none : ∀ k, (Array.replicate l.length false).getD k false = false := fun k => getD_replicate_false _ _
  refine wp_region_any hm ?_
  have hz : l.toArray.size = l.length := by simp
  rw [hz]
  refine any_joint hB.1 a0 hsz J (fun i o L vals a w h1 h2 h3 h4 h5 h6 h7 => hstep i o L vals a w h1 h2 h3 h4 h5 h6 (fun s hs => h7 s (fun k ok hk hd => by have := List.all_eq_true.1 hs ok (List.mem_of_getElem? hk); rw [hd] at this; simp at this))) hB.2 hend hext l.length (Array.replicate l.length false) (fun _ => undef) a0 w0.drew (by simp) (closed_none _) (Nat.le_add_right _ _) ⟨rfl, rfl, fun k o d hk hd hL => ?_, fun s _ => rfl⟩ ?_
  · rw [none] at hL; cases hL
  · exact hext _ _ _ _ (fun k _ => (none k).symm) hg0

end
end Go.Proofs.Ytiefhmbpaoecfaa

namespace Go.Proofs.Ytiefhmbpaoecfaa
open Go.RowKit Dm

/-- What a slot holds: the disk; bytes that were made here; a number; whatever. -/
inductive Kind where
  | ptr
  | lit (l : List UInt8)
  | int (n : Int)
  | free

def Holds (B p m : Nat) (F : Nat → Prop) (w : World) : Kind → Value → Prop
  | .ptr, v => v = .pointer (some ⟨p, 0, none⟩)
  | .lit l, v => ∃ b, v = .slice (some ⟨b, 0, none⟩) l.length l.length ∧ B ≤ b ∧ ¬ F b ∧ b ≠ p ∧ b ≠ m ∧ l.length ≤ 1000000 ∧ ∃ fr, w.heap[b]? = some (.cells (l.map bval).toArray tByte fr)
  | .int n, v => v = .int .i64 n
  | .free, _ => True

theorem Holds.bytes {B p m : Nat} {F : Nat → Prop} {w : World} {l : List UInt8} {v : Value} (h : Holds B p m F w (.lit l) v) : BytesAt w.heap (fun k => k ≠ p ∧ k ≠ m) v l := by
  obtain ⟨b, rfl, _, _, h2, h3, h4, fr, h5⟩ := h
  exact Or.inr ⟨b, 0, l.length, _, tByte, fr, rfl, Nat.le_refl _, by omega, ⟨h2, h3⟩, h5, fun i x hi => by simp [hi]⟩

structure JD (w0 : World) (p m : Nat) (kind : Nat → Kind) (stage : (Nat → Bool) → D) (L : Nat → Bool) (vals : Nat → Value) (w : World) : Prop where
  below : Below w0.heap.size w0 w
  new : w0.heap.size ≤ p ∧ w0.heap.size ≤ m
  disk : ∃ F, DiskAt w.heap p m (stage L) F ∧ (∀ k, F k → k < w.heap.size) ∧ ∀ k, L k = true → Holds w0.heap.size p m F w (kind k) (vals k)

section
variable {w0 : World} {p m : Nat} {kind : Nat → Kind} {stage : (Nat → Bool) → D} {L : Nat → Bool} {vals : Nat → Value} {w : World}

/-- Nothing but a slot. -/
theorem JD.same (h : JD w0 p m kind stage L vals w) (i : Nat) (v : Value) (hs : stage (fun k => if k = i then true else L k) = stage L) (hk : kind i = .free ∨ (kind i = .ptr ∧ v = .pointer (some ⟨p, 0, none⟩)) ∨ ∃ n, kind i = .int n ∧ v = .int .i64 n) :
    JD w0 p m kind stage (fun k => if k = i then true else L k) (fun k => if k = i then v else vals k) w := by
  obtain ⟨F, x, hF, hv⟩ := h.disk
  refine ⟨h.below, h.new, F, by rw [hs]; exact x, hF, fun k hL => ?_⟩
  by_cases e : k = i
  · subst e
    simp only [if_true]
    rcases hk with hk | ⟨hk, rfl⟩ | ⟨n, hk, rfl⟩
    · rw [hk]; trivial
    · rw [hk]; rfl
    · rw [hk]; rfl
  · simp only [if_neg e] at hL ⊢
    exact hv k hL

theorem JD.lit (h : JD w0 p m kind stage L vals w) (i : Nat) (l : List UInt8) (n : Nat) (c : Array Value) (hs : stage (fun k => if k = i then true else L k) = stage L) (hk : kind i = .lit l) (hn : n = l.length) (hc : c = (l.map bval).toArray) (hl : l.length ≤ 1000000) :
    JD w0 p m kind stage (fun k => if k = i then true else L k) (fun k => if k = i then .slice (some ⟨w.heap.size, 0, none⟩) n n else vals k) (w.alloc (.cells c tByte)) := by
  obtain ⟨F, x, hF, hv⟩ := h.disk
  have lx := x.lt
  have hb : Below w.heap.size w (w.alloc (.cells c tByte)) := (Below.refl _ _).alloc (Nat.le_refl _) _
  refine ⟨h.below.trans (hb.mono h.below.size), h.new, F, by rw [hs]; exact x.below hb, fun k hk => by have := hF k hk; have := hb.size; omega, fun k hL => ?_⟩
  by_cases e : k = i
  · subst e
    simp only [if_true]
    rw [hk]
    exact ⟨w.heap.size, by rw [hn], h.below.size, fun hf => by have := hF _ hf; omega, by omega, by omega, hl, (0, 0), by rw [← hc]; exact heap_alloc_last w _⟩
  · simp only [if_neg e] at hL ⊢
    have h1 := hv k hL
    generalize kind k = K at *
    cases K with
    | ptr => exact h1
    | int n => exact h1
    | free => trivial
    | lit l =>
      obtain ⟨b, e1, e0, e2, e3, e4, e5, fr, e6⟩ := h1
      exact ⟨b, e1, e0, e2, e3, e4, e5, fr, (hb.block b (lt_of_row e6)).trans e6⟩

/-- A literal's row gets its mark. -/
theorem run_convert_lit (w : World) (b n c : Nat) (C : Array Value) (fr : Nat × Nat) (hb : w.heap[b]? = some (.cells C tByte fr)) :
    (convert tBytes tBytes (.slice (some ⟨b, 0, none⟩) n c)).run Try.prog w = .ok (.slice (some ⟨b, 0, none⟩) n c) (w.freeze ⟨b, C.size, none⟩ 1) := by
  have hsh : w.shape? b = some (tByte, C.size) := by
    unfold World.shape?
    rw [hb]
  simp [convert, run_underlying Try.underlying36, run_underlying Try.underlying5, markStringish, hsh]

theorem freeze_moves (w : World) (b n : Nat) (C : Array Value) (fr : Nat × Nat) (hb : w.heap[b]? = some (.cells C tByte fr)) :
    Moves (fun k => k = b) w (w.freeze ⟨b, n, none⟩ 1) ∧ ∃ fr', (w.freeze ⟨b, n, none⟩ 1).heap[b]? = some (.cells C tByte fr') := by
  have hlt : b < w.heap.size := lt_of_row hb
  unfold World.freeze
  rw [if_neg (by decide)]
  refine ⟨⟨rfl, rfl, rfl, by simp, fun k hk hn => ?_⟩, ?_⟩
  · show (w.heap.modify b _)[k]? = _
    rw [Array.getElem?_modify]
    rw [if_neg (fun e => hn e.symm)]
  · show ∃ fr', (w.heap.modify b _)[b]? = _
    rw [Array.getElem?_modify, if_pos rfl, hb]
    exact ⟨_, rfl⟩

theorem JD.conv (h : JD w0 p m kind stage L vals w) (i j : Nat) (l : List UInt8) (hs : stage (fun k => if k = i then true else L k) = stage L) (hk : kind i = .lit l) (hj : kind j = .lit l) (hL : L j = true) :
    ∃ w', (convert tBytes tBytes (vals j)).run Try.prog w = .ok (vals j) w' ∧ JD w0 p m kind stage (fun k => if k = i then true else L k) (fun k => if k = i then vals j else vals k) w' := by
  obtain ⟨F, x, hF, hv⟩ := h.disk
  have h1 := hv j hL
  rw [hj] at h1
  obtain ⟨b, e1, e0, e2, e3, e4, e5, fr, e6⟩ := h1
  rw [e1]
  refine ⟨_, run_convert_lit w b _ _ _ fr e6, ?_⟩
  obtain ⟨hm, fr', r'⟩ := freeze_moves w b (l.map bval).toArray.size _ fr e6
  have lx := x.lt
  generalize hw' : w.freeze ⟨b, (l.map bval).toArray.size, none⟩ 1 = w' at *
  have hz := hm.size
  have keep : ∀ (K : Kind) (v : Value), Holds w0.heap.size p m F w K v → Holds w0.heap.size p m F w' K v := by
    intro K v hK
    cases K with
    | ptr => exact hK
    | int n => exact hK
    | free => trivial
    | lit l2 =>
      obtain ⟨b2, f1, f0, f2, f3, f4, f5, fr2, f6⟩ := hK
      by_cases hbb : b2 = b
      · subst hbb
        rw [e6] at f6
        simp only [Option.some.injEq, Obj.cells.injEq] at f6
        refine ⟨b2, f1, f0, f2, f3, f4, f5, fr', ?_⟩
        rw [r', f6.1]
      · exact ⟨b2, f1, f0, f2, f3, f4, f5, fr2, (hm.block b2 (lt_of_row f6) hbb).trans f6⟩
  refine ⟨?_, h.new, F, ?_, fun k hk => by have := hF k hk; omega, fun k hL' => ?_⟩
  · exact h.below.trans ⟨hm.os, hm.tape, hm.output, hm.size, fun k hk => hm.block k (by have := h.below.size; omega) (by omega)⟩
  · rw [hs]
    exact x.keeps (hm.block p lx.1 (Ne.symm e3)) (hm.block m lx.2.1 (Ne.symm e4)) (fun k hk hl => hm.block k hl (fun e => e2 (e ▸ hk))) (fun k hk _ => hk) (fun k hk => Or.inl hk)
  · by_cases e : k = i
    · subst e
      simp only [if_true]
      rw [hk]
      exact keep (.lit l) _ ⟨b, rfl, e0, e2, e3, e4, e5, fr, e6⟩
    · simp only [if_neg e] at hL' ⊢
      exact keep _ _ (hv k hL')

theorem JD.call (h : JD w0 p m kind stage L vals w) : ∃ F, DiskAt w.heap p m (stage L) F ∧ (∀ k, L k = true → Holds w0.heap.size p m F w (kind k) (vals k)) ∧
    ∀ (i : Nat) (r : D × Int) (e : Ending) (w' : World), Left w p m F r e w' → kind i = .int r.2 → stage (fun k => if k = i then true else L k) = r.1 →
      JD w0 p m kind stage (fun k => if k = i then true else L k) (fun k => if k = i then .int .i64 r.2 else vals k) w' := by
  obtain ⟨F, x, hF, hv⟩ := h.disk
  refine ⟨F, x, hv, fun i r e w' hL hk hs => ?_⟩
  obtain ⟨_, hm, x'⟩ := hL
  have hz := hm.size
  refine ⟨h.below.trans ⟨hm.os, hm.tape, hm.output, hm.size, fun k hk => hm.block k (by have := h.below.size; omega) (by have := h.new; omega)⟩, h.new, _, by rw [hs]; exact x', fun k hk => ?_, fun k hL' => ?_⟩
  · rcases hk with hk | hk
    · have := hF k hk; omega
    · exact hk.2
  · by_cases e : k = i
    · subst e
      simp only [if_true]
      rw [hk]
      rfl
    · simp only [if_neg e] at hL' ⊢
      have h1 := hv k hL'
      generalize kind k = K at *
      cases K with
      | ptr => exact h1
      | int n => exact h1
      | free => trivial
      | lit l =>
        obtain ⟨b, e1, e0, e2, e3, e4, e5, fr, e6⟩ := h1
        have hlt := lt_of_row e6
        refine ⟨b, e1, e0, fun hp => ?_, e3, e4, e5, fr, (hm.block b hlt (by rintro (e | e); exact e3 e; exact e4 e)).trans e6⟩
        rcases hp with hp | hp
        · exact e2 hp
        · omega

theorem JD.ext {n : Nat} {L' : Nat → Bool} (hL : ∀ k, k < n → L k = L' k) (hst' : stage L = stage L') (h : JD w0 p m kind stage L vals w) (hf : ∀ k, n ≤ k → kind k = .free) : JD w0 p m kind stage L' vals w := by
  obtain ⟨F, x, hF, hv⟩ := h.disk
  refine ⟨h.below, h.new, F, by rw [← hst']; exact x, hF, fun k hk => ?_⟩
  by_cases hkn : k < n
  · exact hv k (by rw [hL k hkn]; exact hk)
  · rw [hf k (by omega)]; trivial

end
end Go.Proofs.Ytiefhmbpaoecfaa
