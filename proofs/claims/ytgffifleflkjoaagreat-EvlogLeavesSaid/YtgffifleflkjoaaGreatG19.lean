/-
  evlog: the chapter's rows, plain.
  A region that draws its order, each operation by what its slot holds, whatever was done ahead of it.
  evlog: three batches that may not be, in one statement.
-/
import Derived.Test.YtgffifleflkjoaaGreatG02
import Derived.Test.YtgffifleflkjoaaGreatG18

namespace Go.Proofs.YtgffifleflkjoaaGreat.Em
open Go.Maps Cm

theorem commit_put {e : E} {l : List Change} {r : E × Int} (hd : doneErr e.rows l = 0) (hg : e.gone = false) (hp : e.put (behind e.rows l) (batched l) = r) (h280 : r.2 ≠ 280) : e.commit l = ({ r.1 with gone := decide (r.2 = 281) }, r.2) := by
  have hst : e.step (behind e.rows l) (batched l) = r := by
    unfold E.step
    rw [hp, if_neg h280]
  unfold E.commit
  rw [if_neg (by omega), if_neg (by rw [hg]; decide), hst]

/-- A commit on a disk that is to stop at once. -/
theorem commit_stops {e : E} {room : Nat} {l : List Change} (tp : e.tp = 0) (gone : e.gone = false) (dead : e.d.dead = false) (stops : e.d.stops = 0) (hroom : e.d.room = (room : Int)) (used : e.d.stand.used = (e.fin : Int))
    (hd : doneErr e.rows l = 0) (hl : (batchBody l).length ≤ 8192) (hb : e.batches < 32) (hr : e.fin + (batchBody l).length + 13 ≤ room / 2) :
    (e.commit l).2 = 281 ∧ (e.commit l).1.gone = true ∧ (e.commit l).1.rows = e.rows := by
  obtain ⟨f1, f2⟩ := framed_le hl
  have hbl : batched l = framed (batchBody l) := rfl
  have hg : e.d.goes = ({ e.d with dead := true, stops := -1 }, 281) := by
    unfold Dm.D.goes
    rw [if_neg (by rw [dead]; decide), if_pos stops]
  have ha : e.d.append (e.tp : Nat) (batched l) = ({ e.d with dead := true, stops := -1 }, 281) := by
    rw [tp]
    unfold Dm.D.append
    rw [if_neg (by decide), if_neg (by rw [used, hroom, hbl]; omega)]
    unfold Dm.D.step
    rw [hg]
    rfl
  have hw : (wrote e.d e.tp (batched l)).2 = 281 := by
    unfold wrote next
    rw [ha]
    rfl
  have hp := put_live (e := e) (D := behind e.rows l) (b := batched l) (by rw [hbl, hroom]; omega)
  rw [hw] at hp
  rw [commit_put hd gone hp (show (281 : Int) ≠ 280 by decide)]
  exact ⟨rfl, rfl, rfl⟩

theorem Fine.stopped {e : E} {room : Nat} {l : List Change} (h : Fine e room) (hd : doneErr e.rows l = 0) (hl : (batchBody l).length ≤ 8192) (hb : e.batches < 32) (hr : e.fin + (batchBody l).length + 13 ≤ room / 2) :
    (({ e with d := (e.d.stop 0).1 } : E).commit l).2 = 281 ∧ (({ e with d := (e.d.stop 0).1 } : E).commit l).1.gone = true ∧ (({ e with d := (e.d.stop 0).1 } : E).commit l).1.rows = e.rows := by
  have hs : (e.d.stop 0).1 = { e.d with stops := 0 } := by
    unfold Dm.D.stop
    rw [if_neg (by decide), if_neg (by rw [h.disk.dead]; decide)]
  rw [hs]
  exact commit_stops (room := room) h.tp h.gone h.disk.dead rfl h.disk.room h.disk.used hd hl hb hr

def l1 : List Change := [⟨[97], [49], false⟩, ⟨[98], [50], false⟩, ⟨[97], [], true⟩]
def lc : List Change := [⟨[99], [51], false⟩]
def ld : List Change := [⟨[100], [52], false⟩]
def b1 : List Change := [⟨[], [], false⟩]
def b2 : List Change := [⟨[97], [49], true⟩]
def z65 : Bytes := List.replicate 65 0
def b3 : List Change := [⟨z65, [], false⟩]
def D1 : Rows := behind (.map []) l1

theorem l1_done : doneErr (.map []) l1 = 0 := by decide
theorem D1_size : size D1 = 1 := by decide
theorem D1_b : valueOf D1 [98] = [50] ∧ has D1 (.string [98]) = true := by decide
theorem D1_a : has D1 (.string [97]) = false ∧ has D1 (.string [99]) = false := by decide
theorem b1_done : doneErr D1 b1 = 2 := by decide
theorem b2_done : doneErr D1 b2 = 2 := by decide
theorem b3_done : doneErr D1 b3 = 3 := by decide
theorem lc_done : doneErr D1 lc = 0 := by decide
theorem ld_done : doneErr D1 ld = 0 := by decide
theorem l1_len : (batchBody l1).length ≤ 100 := by decide
theorem lc_len : (batchBody lc).length ≤ 100 := by decide

end Go.Proofs.YtgffifleflkjoaaGreat.Em

namespace Go.Proofs.YtgffifleflkjoaaGreat
open Go.RowKit

section
variable {P : Program} {l : List Oper} {md : Region.Mode}

/-- What stands in the slots behind some operations. -/
def putL (vals : Nat → Value) : List Oper → Nat → Act → Act
  | [], _, a => a
  | o :: l, k, a => putL vals l (k + 1) (a.put o.dst (vals k))

/-- The slots between two operations: what is listed has been put, all else is as it was. -/
structure Slots (l : List Oper) (L : Nat → Bool) (vals : Nat → Value) (a0 a : Act) : Prop where
  defers : a.defers = a0.defers
  size : a.tmps.size = a0.tmps.size
  put : ∀ (k : Nat) (o : Oper) (d : Tmp), l[k]? = some o → o.dst = some d → L k = true → a.tmps[d]? = some (vals k)
  old : ∀ s : Nat, (∀ (k : Nat) (o : Oper), l[k]? = some o → L k = true → o.dst ≠ some s) → a.tmps[s]? = a0.tmps[s]?

/-- Slots that are each one's own, and there. -/
def apartB (n : Nat) : List Oper → Bool
  | [] => true
  | o :: l => (match o.dst with | none => true | some d => decide (d < n) && l.all (fun o' => o'.dst != some d)) && apartB n l

theorem apart_lt {n : Nat} : ∀ {l : List Oper}, apartB n l = true → ∀ (k : Nat) (o : Oper) (d : Tmp), l[k]? = some o → o.dst = some d → d < n
  | [], _, k, o, d, hk, _ => by simp at hk
  | x :: l, h, k, o, d, hk, hd => by
    simp only [apartB, Bool.and_eq_true] at h
    cases k with
    | zero =>
      simp only [List.getElem?_cons_zero, Option.some.injEq] at hk
      subst hk
      have h1 := h.1
      rw [hd] at h1
      simp only [Bool.and_eq_true, decide_eq_true_eq] at h1
      exact h1.1
    | succ k => exact apart_lt h.2 k o d (by simpa using hk) hd

theorem apart_ne {n : Nat} : ∀ {l : List Oper}, apartB n l = true → ∀ (k j : Nat) (o o' : Oper) (d : Tmp), l[k]? = some o → l[j]? = some o' → o.dst = some d → k ≠ j → o'.dst ≠ some d
  | [], _, k, _, o, _, d, hk, _, _, _ => by simp at hk
  | x :: l, h, k, j, o, o', d, hk, hj, hd, hne => by
    simp only [apartB, Bool.and_eq_true] at h
    cases k with
    | zero =>
      simp only [List.getElem?_cons_zero, Option.some.injEq] at hk
      subst hk
      cases j with
      | zero => exact absurd rfl hne
      | succ j =>
        have h1 := h.1
        rw [hd] at h1
        simp only [Bool.and_eq_true, List.all_eq_true] at h1
        have := h1.2 o' (List.mem_of_getElem? (by simpa using hj))
        simpa using this
    | succ k =>
      cases j with
      | zero =>
        simp only [List.getElem?_cons_zero, Option.some.injEq] at hj
        subst hj
        intro e
        have h1 := h.1
        rw [e] at h1
        simp only [Bool.and_eq_true, List.all_eq_true] at h1
        have := h1.2 o (List.mem_of_getElem? (by simpa using hk))
        rw [hd] at this
        simp at this
      | succ j => exact apart_ne h.2 k j o o' d (by simpa using hk) (by simpa using hj) hd (by omega)

theorem Slots.next {n : Nat} (hn : apartB n l = true) {L : Nat → Bool} {vals : Nat → Value} {a0 a : Act} (hsz : a0.tmps.size = n) (h : Slots l L vals a0 a) {i : Nat} {o : Oper} (hi : l[i]? = some o) (hL : L i = false) (v : Value) :
    Slots l (fun k => if k = i then true else L k) (fun k => if k = i then v else vals k) a0 (a.put o.dst v) := by
  cases hd : o.dst with
  | none =>
    refine ⟨h.defers, h.size, fun k o' d hk hd' hLk => ?_, fun s hs => h.old s (fun k o' hk hLk => hs k o' hk (by split; rfl; exact hLk))⟩
    have hne : k ≠ i := fun e => by subst e; rw [hi] at hk; cases hk; rw [hd] at hd'; cases hd'
    simp only [if_neg hne] at hLk ⊢
    exact h.put k o' d hk hd' hLk
  | some d0 =>
    have hlt : d0 < a.tmps.size := by rw [h.size, hsz]; exact apart_lt hn i o d0 hi hd
    refine ⟨h.defers, by simpa [Act.put] using h.size, fun k o' d hk hd' hLk => ?_, fun s hs => ?_⟩
    · by_cases hki : k = i
      · subst hki
        rw [hi] at hk; cases hk
        rw [hd] at hd'; cases hd'
        simp [Act.put, Array.getElem?_setIfInBounds, hlt]
      · simp only [if_neg hki] at hLk ⊢
        have hne : d0 ≠ d := fun e => apart_ne hn i k o o' d0 hi hk hd (Ne.symm hki) (by rw [e]; exact hd')
        show (a.tmps.setIfInBounds d0 v)[d]? = _
        rw [Array.getElem?_setIfInBounds_ne hne]
        exact h.put k o' d hk hd' hLk
    · have hne : d0 ≠ s := fun e => hs i o hi (by simp) (by rw [hd, e])
      show (a.tmps.setIfInBounds d0 v)[s]? = _
      rw [Array.getElem?_setIfInBounds_ne hne]
      exact h.old s (fun k o' hk hLk => hs k o' hk (by split; rfl; exact hLk))

theorem putL_defers (vals : Nat → Value) : ∀ (l : List Oper) (k : Nat) (a : Act), (putL vals l k a).defers = a.defers
  | [], _, _ => rfl
  | o :: l, k, a => by
    rw [putL, putL_defers vals l]
    cases o.dst <;> rfl

theorem putL_size (vals : Nat → Value) : ∀ (l : List Oper) (k : Nat) (a : Act), (putL vals l k a).tmps.size = a.tmps.size
  | [], _, _ => rfl
  | o :: l, k, a => by
    rw [putL, putL_size vals l]
    cases o.dst <;> simp [Act.put]

theorem putL_at {n : Nat} (vals : Nat → Value) : ∀ (l : List Oper) (k : Nat) (a : Act), apartB n l = true → a.tmps.size = n →
    (∀ (j : Nat) (o : Oper) (d : Tmp), l[j]? = some o → o.dst = some d → (putL vals l k a).tmps[d]? = some (vals (k + j))) ∧ (∀ s : Nat, (∀ (j : Nat) (o : Oper), l[j]? = some o → o.dst ≠ some s) → (putL vals l k a).tmps[s]? = a.tmps[s]?)
  | [], k, a, _, _ => ⟨fun j o d hj => by simp at hj, fun _ _ => rfl⟩
  | x :: l, k, a, h, hsz => by
    have h' := h
    simp only [apartB, Bool.and_eq_true] at h
    have hsz' : (a.put x.dst (vals k)).tmps.size = n := by cases x.dst <;> simp [Act.put, hsz]
    obtain ⟨i1, i2⟩ := putL_at vals l (k + 1) (a.put x.dst (vals k)) h.2 hsz'
    refine ⟨fun j o d hj hd => ?_, fun s hs => ?_⟩
    · cases j with
      | zero =>
        simp only [List.getElem?_cons_zero, Option.some.injEq] at hj
        subst hj
        rw [putL, i2 d (fun j o hj => apart_ne h' 0 (j + 1) x o d rfl (by simpa using hj) hd (by omega)), hd]
        have := apart_lt h' 0 x d rfl hd
        simp [Act.put, Array.getElem?_setIfInBounds, hsz, this]
      | succ j =>
        rw [putL, i1 j o d (by simpa using hj) hd]
        congr 2
        omega
    · rw [putL, i2 s (fun j o hj => hs (j + 1) o (by simpa using hj))]
      have := hs 0 x rfl
      cases hd : x.dst with
      | none => rfl
      | some d =>
        rw [hd] at this
        show (a.tmps.setIfInBounds d _)[s]? = _
        rw [Array.getElem?_setIfInBounds_ne (fun e => this (by rw [e]))]

theorem Slots.all {n : Nat} (hn : apartB n l = true) {L : Nat → Bool} {vals : Nat → Value} {a0 a : Act} (hsz : a0.tmps.size = n) (h : Slots l L vals a0 a) (hL : ∀ k, k < l.length → L k = true) : a = putL vals l 0 a0 := by
  obtain ⟨i1, i2⟩ := putL_at vals l 0 a0 hn hsz
  have e1 : a.tmps = (putL vals l 0 a0).tmps := by
    apply Array.ext_getElem?
    intro s
    by_cases hs : ∃ (k : Nat) (o : Oper), l[k]? = some o ∧ o.dst = some s
    · obtain ⟨k, o, hk, hd⟩ := hs
      rw [h.put k o s hk hd (hL k (List.getElem?_eq_some_iff.1 hk).1), i1 k o s hk hd, Nat.zero_add]
    · have hs' : ∀ (k : Nat) (o : Oper), l[k]? = some o → o.dst ≠ some s := fun k o hk hd => hs ⟨k, o, hk, hd⟩
      rw [h.old s (fun k o hk _ => hs' k o hk), i2 s hs']
  have e2 : a.defers = (putL vals l 0 a0).defers := by rw [putL_defers, h.defers]
  cases a
  cases hp : putL vals l 0 a0
  rw [hp] at e1 e2
  simp only at e1 e2
  rw [e1, e2]

/-- Each waits for such as stand ahead of it. -/
def lowB (md : Region.Mode) (l : List Oper) : Bool :=
  (List.range l.length).all fun i => match l[i]? with
    | some o => o.after.all fun e => !Region.binds md e || decide (e.on < i)
    | none => true

theorem all_listed (hlow : lowB md l = true) {listed : Array Bool} (hz : listed.size = l.length) (hr : Region.ready md l.toArray listed = []) : ∀ k, k < l.length → listed.getD k false = true := by
  intro k
  induction k using Nat.strongRecOn with
  | ind k ih =>
    intro hk
    cases hL : listed.getD k false with
    | true => rfl
    | false =>
      exfalso
      have hm : k ∈ Region.ready md l.toArray listed := by
        refine mem_ready.2 ⟨?_, l[k], by simp [hk], fun e he hb => ?_⟩
        · have hkz : k < listed.size := by omega
          simp only [Array.getD_eq_getD_getElem?, Array.getElem?_eq_getElem hkz, Option.getD_some] at hL ⊢
          exact hL
        · have h1 := List.all_eq_true.1 hlow k (List.mem_range.2 hk)
          rw [List.getElem?_eq_getElem hk] at h1
          have h2 := (Array.all_eq_true_iff_forall_mem.1 h1) e he
          simp only [hb, Bool.not_true, Bool.false_or, decide_eq_true_eq] at h2
          exact ih e.on h2 (by omega)
      rw [hr] at hm
      cases hm

theorem any_joint {n : Nat} (hn : apartB n l = true) (a0 : Act) (hsz : a0.tmps.size = n) (J : (Nat → Bool) → (Nat → Value) → World → Prop)
    (hstep : ∀ (i : Nat) (o : Oper) (L : Nat → Bool) (vals : Nat → Value) (a : Act) (w : World), l[i]? = some o → L i = false → (∀ k, waitsB md l.toArray l.length i k = true → L k = true) → (∀ k, waitsB md l.toArray l.length k i = true → L k = false) → J L vals w →
      (∀ (k : Nat) (ok : Oper) (d : Tmp), l[k]? = some ok → ok.dst = some d → L k = true → a.tmps[d]? = some (vals k)) → (∀ s : Nat, (∀ (k : Nat) (ok : Oper), l[k]? = some ok → ok.dst ≠ some s) → a.tmps[s]? = a0.tmps[s]?) →
      wpList P l.toArray (fun e a' w' => e = .normal ∧ ∃ v, a' = a.put o.dst v ∧ J (fun k => if k = i then true else L k) (fun k => if k = i then v else vals k) w') [o] a w)
    {Q : Exit → Act → World → Prop} (hlow : lowB md l = true)
    (hend : ∀ vals w, J (fun _ => true) vals w → Q .normal (putL vals l 0 a0) w)
    (hext : ∀ L L' vals w, (∀ k, k < l.length → L k = L' k) → J L vals w → J L' vals w) :
    ∀ (f : Nat) (listed : Array Bool) (vals : Nat → Value) (a : Act) (w : World), listed.size = l.length → Closed md l.toArray listed → l.length ≤ f + (List.range l.length).countP (fun k => listed.getD k false) → Slots l (fun k => listed.getD k false) vals a0 a →
      J (fun k => listed.getD k false) vals w → wpAny P md l.toArray Q f listed a w := by
  have done : ∀ (listed : Array Bool) (vals : Nat → Value) (a : Act) (w : World), (∀ k, k < l.length → listed.getD k false = true) → Slots l (fun k => listed.getD k false) vals a0 a →
      J (fun k => listed.getD k false) vals w → Q .normal a w := by
    intro listed vals a w hL hs hg
    rw [hs.all hn hsz hL]
    exact hend vals w (hext _ _ vals w (fun k hk => hL k hk) hg)
  intro f
  induction f with
  | zero =>
    intro listed vals a w hz hc hf hs hg
    have hL : ∀ k, k < l.length → listed.getD k false = true := by
      have h1 : (List.range l.length).countP (fun k => listed.getD k false) = (List.range l.length).length := by
        have := List.countP_le_length (p := fun k => listed.getD k false) (l := List.range l.length)
        simp at this ⊢
        simp at hf
        omega
      have h2 := List.countP_eq_length.1 h1
      intro k hk
      exact h2 k (List.mem_range.2 hk)
    refine ⟨?_, done listed vals a w hL hs hg⟩
    rw [List.eq_nil_iff_forall_not_mem]
    intro j hj
    obtain ⟨h0, o, ho, _⟩ := mem_ready.1 hj
    have hlt : j < l.length := by simpa using (Array.getElem?_eq_some_iff.1 ho).1
    have h1 := hL j hlt
    rw [getD_both h0] at h1
    cases h1
  | succ f ih =>
    intro listed vals a w hz hc hf hs hg
    refine ⟨fun hr => done listed vals a w (all_listed hlow hz hr) hs hg, fun i hi => ?_⟩
    obtain ⟨h0, o, ho, hafter⟩ := mem_ready.1 hi
    have hi' : l[i]? = some o := by simpa using ho
    have hlt : i < l.length := (List.getElem?_eq_some_iff.1 hi').1
    have hLi : listed.getD i false = false := getD_both h0
    have hdeps : ∀ k, waitsB md l.toArray l.length i k = true → listed.getD k false = true := by
      intro k hk
      cases hn : l.length with
      | zero => omega
      | succ g =>
        rw [hn] at hk
        simp only [waitsB, ho] at hk
        obtain ⟨e, he, hb⟩ := Array.any_eq_true'.1 hk
        simp only [Bool.and_eq_true, Bool.or_eq_true, beq_iff_eq] at hb
        have h1 := hafter e he hb.1
        rcases hb.2 with h2 | h2
        · rw [← h2]; exact h1
        · exact listed_of_waits hc _ _ _ h2 h1
    have hlater : ∀ k, waitsB md l.toArray l.length k i = true → listed.getD k false = false := by
      intro k hk
      cases hk2 : listed.getD k false with
      | false => rfl
      | true => have := listed_of_waits hc _ _ _ hk hk2; rw [hLi] at this; cases this
    have hset : ∀ k, (listed.setIfInBounds i true).getD k false = if k = i then true else listed.getD k false := by
      intro k
      by_cases hk : k = i
      · subst hk
        simp only [if_true, Array.getD_eq_getD_getElem?, Array.getElem?_setIfInBounds]
        simp [hz, hlt]
      · simp only [if_neg hk, Array.getD_eq_getD_getElem?, Array.getElem?_setIfInBounds_ne (Ne.symm hk)]
    have h1 := hstep i o (fun k => listed.getD k false) vals a w hi' hLi hdeps hlater hg
      (fun k ok d hk hd hw => hs.put k ok d hk hd hw)
      (fun s hs' => hs.old s (fun k o hk _ => hs' k o hk))
    refine wpOp_mono ?_ (wpOp_out (fun _ _ h => h) (wpOp_of_list ho h1))
    rintro a' w' ⟨v, rfl, hg'⟩
    refine ih (listed.setIfInBounds i true) (fun k => if k = i then v else vals k) _ w' (by simpa using hz) (hc.set hi) ?_ ?_ ?_
    · have hcount : (List.range l.length).countP (fun k => listed.getD k false) + 1 ≤ (List.range l.length).countP (fun k => (listed.setIfInBounds i true).getD k false) := by
        have key : ∀ (r : List Nat), r.Nodup → (r.countP (fun k => listed.getD k false)) + (if i ∈ r then 1 else 0) ≤ r.countP (fun k => (listed.setIfInBounds i true).getD k false) := by
          intro r hr
          induction r with
          | nil => simp
          | cons x r ihr =>
            rw [List.nodup_cons] at hr
            have h3 := ihr hr.2
            rw [List.countP_cons, List.countP_cons, hset]
            by_cases hx : x = i
            · subst hx
              rw [if_neg hr.1] at h3
              rw [hLi, if_pos rfl, if_pos (List.mem_cons_self ..)]
              simp only [Bool.false_eq_true, if_false, if_true]
              omega
            · have hm : (i ∈ x :: r) ↔ i ∈ r := by simp [Ne.symm hx]
              simp only [hm, if_neg hx]
              omega
        have := key (List.range l.length) List.nodup_range
        rw [if_pos (List.mem_range.2 hlt)] at this
        exact this
      omega
    · have := hs.next hn hsz hi' hLi v
      have e : (fun k => (listed.setIfInBounds i true).getD k false) = (fun k => if k = i then true else listed.getD k false) := funext hset
      rw [e]
      exact this
    · have e : (fun k => (listed.setIfInBounds i true).getD k false) = (fun k => if k = i then true else listed.getD k false) := funext hset
      rw [e]
      exact hg'

/-- The region, operation by operation: J says what holds behind those that are listed. -/
theorem wp_region_joint {id : Nat} {Q : Exit → Act → World → Prop} {a0 : Act} {w0 : World} (n : Nat) (J : (Nat → Bool) → (Nat → Value) → World → Prop) (hm : P.follows .mixedOrders = true) (hsz : a0.tmps.size = n)
    (hB : (apartB n l && lowB .any l) = true)
    (hext : ∀ L L' vals w, (∀ k, k < l.length → L k = L' k) → J L vals w → J L' vals w) (hg0 : J (fun _ => false) (fun _ => undef) w0.drew)
    (hstep : ∀ (i : Nat) (o : Oper) (L : Nat → Bool) (vals : Nat → Value) (a : Act) (w : World), l[i]? = some o → L i = false → (∀ k, waitsB .any l.toArray l.length i k = true → L k = true) → (∀ k, waitsB .any l.toArray l.length k i = true → L k = false) → J L vals w →
      (∀ (k : Nat) (ok : Oper) (d : Tmp), l[k]? = some ok → ok.dst = some d → L k = true → a.tmps[d]? = some (vals k)) → (∀ s : Nat, (l.all fun ok => ok.dst != some s) = true → a.tmps[s]? = a0.tmps[s]?) →
      wpList P l.toArray (fun e a' w' => e = .normal ∧ ∃ v, a' = a.put o.dst v ∧ J (fun k => if k = i then true else L k) (fun k => if k = i then v else vals k) w') [o] a w)
    (hend : ∀ vals w, J (fun _ => true) vals w → Q .normal (putL vals l 0 a0) w) : (Code.region id l.toArray true).wp P Q a0 w0 := by
  simp only [Bool.and_eq_true] at hB
  have none : ∀ k, (Array.replicate l.length false).getD k false = false := fun k => getD_replicate_false _ _
  refine wp_region_any hm ?_
  have hz : l.toArray.size = l.length := by simp
  rw [hz]
  refine any_joint hB.1 a0 hsz J (fun i o L vals a w h1 h2 h3 h4 h5 h6 h7 => hstep i o L vals a w h1 h2 h3 h4 h5 h6 (fun s hs => h7 s (fun k ok hk hd => by have := List.all_eq_true.1 hs ok (List.mem_of_getElem? hk); rw [hd] at this; simp at this))) hB.2 hend hext l.length (Array.replicate l.length false) (fun _ => undef) a0 w0.drew (by simp) (closed_none _) (Nat.le_add_right _ _) ⟨rfl, rfl, fun k o d hk hd hL => ?_, fun s _ => rfl⟩ ?_
  · rw [none] at hL; cases hL
  · exact hext _ _ _ _ (fun k _ => (none k).symm) hg0

end
end Go.Proofs.YtgffifleflkjoaaGreat

namespace Go.Proofs.YtgffifleflkjoaaGreat
open Go.RowKit Dm

/-- What a slot holds. -/
inductive KindW where
  | val (v : Value)
  | chg (l : List Em.Change)
  | byt (l : List UInt8)
  | free

def HoldsW (B : Nat) (w : World) : KindW → Value → Prop
  | .val u, v => v = u
  | .chg l, v => ChangesAt w (fun b => B ≤ b) v l
  | .byt l, v => BytesAt w.heap (fun b => B ≤ b) v l
  | .free, _ => True

theorem HoldsW.later {B : Nat} {w w' : World} {K : KindW} {v : Value} (h : HoldsW B w K v) (hb : Below w.heap.size w w') : HoldsW B w' K v := by
  cases K with
  | val u => exact h
  | chg l => exact ChangesAt.later h hb
  | byt l => exact BytesAt.below h hb
  | free => trivial

structure JW (w0 : World) (kind : Nat → KindW) (L : Nat → Bool) (vals : Nat → Value) (w : World) : Prop where
  below : Below w0.heap.size w0 w
  holds : ∀ k, L k = true → HoldsW w0.heap.size w (kind k) (vals k)

theorem JW.put {w0 : World} {kind : Nat → KindW} {L : Nat → Bool} {vals : Nat → Value} {w w' : World} (h : JW w0 kind L vals w) (hb : Below w.heap.size w w') (i : Nat) (v : Value) (hv : HoldsW w0.heap.size w' (kind i) v) :
    JW w0 kind (fun k => if k = i then true else L k) (fun k => if k = i then v else vals k) w' := by
  refine ⟨h.below.trans (hb.mono h.below.size), fun k hk => ?_⟩
  by_cases e : k = i
  · subst e
    simp only [if_true]
    exact hv
  · simp only [if_neg e] at hk ⊢
    exact (h.holds k hk).later hb

theorem JW.same {w0 : World} {kind : Nat → KindW} {L : Nat → Bool} {vals : Nat → Value} {w : World} (h : JW w0 kind L vals w) (i : Nat) (v : Value) (hv : HoldsW w0.heap.size w (kind i) v) :
    JW w0 kind (fun k => if k = i then true else L k) (fun k => if k = i then v else vals k) w := h.put (Below.refl _ _) i v hv

theorem JW.ext {w0 : World} {kind : Nat → KindW} {n : Nat} {L L' : Nat → Bool} {vals : Nat → Value} {w : World} (hL : ∀ k, k < n → L k = L' k) (h : JW w0 kind L vals w) (hf : ∀ k, n ≤ k → kind k = .free) : JW w0 kind L' vals w := by
  refine ⟨h.below, fun k hk => ?_⟩
  by_cases hkn : k < n
  · exact h.holds k (by rw [hL k hkn]; exact hk)
  · rw [hf k (by omega)]; trivial

/-- A row of changes as they are written. -/
theorem changes_row {w : World} {F : Nat → Prop} {g cap : Nat} {cs : Array Value} {t : TypeId} {fr : Nat × Nat} {l : List Em.Change} (hr : w.heap[g]? = some (.cells cs t fr)) (hF : F g) (hcap : l.length ≤ cap) (hcap2 : cap ≤ 1000000)
    (hc : cs = (l.flatMap fun c => [strOfB c.key, strOfB c.value, .bool c.gone]).toArray) : ChangesAt w F (.slice (some ⟨g, 0, none⟩) l.length cap) l := by
  refine Or.inr ⟨g, 0, cap, cs, t, fr, rfl, hcap, by omega, hF, hr, ?_⟩
  subst hc
  intro i c hi
  have key : ∀ (l : List Em.Change) (i : Nat) (c : Em.Change), l[i]? = some c → ∀ j v, [strOfB c.key, strOfB c.value, Value.bool c.gone][j]? = some v → (l.flatMap fun c => [strOfB c.key, strOfB c.value, Value.bool c.gone])[i * 3 + j]? = some v := by
    intro l
    induction l with
    | nil => intro i c hi; simp at hi
    | cons x l ih =>
      intro i c hi j v hj
      rw [List.flatMap_cons]
      cases i with
      | zero =>
        simp only [List.getElem?_cons_zero, Option.some.injEq] at hi
        subst hi
        have hlt : j < 3 := by
          have := (List.getElem?_eq_some_iff.1 hj).1
          simpa using this
        rw [List.getElem?_append_left (by simp; omega)]
        simpa using hj
      | succ i =>
        rw [List.getElem?_append_right (by simp; omega)]
        have := ih i c (by simpa using hi) j v hj
        rw [show (i + 1) * 3 + j - [strOfB x.key, strOfB x.value, Value.bool x.gone].length = i * 3 + j by simp; omega]
        exact this
  have h0 := key l i c hi 0 _ rfl
  have h1 := key l i c hi 1 _ rfl
  have h2 := key l i c hi 2 _ rfl
  simp only [List.getElem?_toArray, Nat.zero_add, Nat.add_zero] at h0 h1 h2 ⊢
  exact ⟨h0, h1, h2⟩

theorem mk65 (W : World) : (Instr.makeSlice tBytes (.int .i64 65) (.int .i64 65)).run Tryz.prog W = .ok (.slice (some ⟨W.heap.size, 0, none⟩) 65 65) (W.alloc (.cells (Array.replicate 65 (.int .u8 0)) tByte)) := by kernel_rfl

/-- A row of zeros. -/
theorem zeros_row {w : World} {F : Nat → Prop} {g n : Nat} {t : TypeId} {fr : Nat × Nat} (hr : w.heap[g]? = some (.cells (Array.replicate n (.int .u8 0)) t fr)) (hF : F g) (hn : n ≤ 1000000) : BytesAt w.heap F (.slice (some ⟨g, 0, none⟩) n n) (List.replicate n 0) := by
  refine Or.inr ⟨g, 0, n, _, t, fr, by simp, by simp, by omega, hF, hr, ?_⟩
  intro i x hi
  obtain ⟨h1, h2⟩ := List.getElem?_eq_some_iff.1 hi
  have : x = 0 := by rw [← h2]; simp
  subst this
  have hlt : i < n := by simpa using h1
  simp [Array.getElem?_replicate, hlt]
  rfl

end Go.Proofs.YtgffifleflkjoaaGreat
