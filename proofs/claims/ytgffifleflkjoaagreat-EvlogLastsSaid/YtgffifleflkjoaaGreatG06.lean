/-
  A step that can be done, as the disk's model says it.
  Write.
  The tapes, one by one; how many bytes they have.
  How many bytes the tapes have.
-/
import Derived.Test.YtgffifleflkjoaaGreatG05
import Derived.Deep.MidRow
import Derived.Laws.IdiomStrings
import Derived.Laws.BytesArg

namespace Go.Proofs.YtgffifleflkjoaaGreat
open Go.RowKit Dm

theorem StandAt.weak {h : Array Obj} {q m : Nat} {x : St} {F F' : Nat → Prop} {ty : TypeId} {rest : List Value} (s : StandAt h q m x F ty rest) (hF : ∀ k, F k → k < h.size → F' k) (hq : ¬ F' q) (hm : ¬ F' m) : StandAt h q m x F' ty rest := by
  obtain ⟨t0, t1, t2, t3, c1, c2, b0, b1, b2, b3, n1, n2, n3⟩ := s
  have hs : ∀ k, F k → k < h.size → h[k]? = h[k]? := fun _ _ _ => rfl
  exact ⟨t0, t1, t2, t3, c1, c2, b0.keeps hs hF, b1.keeps hs hF, b2.keeps hs hF, b3.keeps hs hF, hm, hq, n3⟩

theorem DiskAt.weak {h : Array Obj} {p m : Nat} {d : D} {F F' : Nat → Prop} (x : DiskAt h p m d F) (hF : ∀ k, F k → k < h.size → F' k) (hp : ¬ F' p) (hm : ¬ F' m) : DiskAt h p m d F' := by
  obtain ⟨ml, l0, l1, l2, l3, wv, stops, after, s, r⟩ := x.parts
  exact DiskAt.of x.ok (s.weak hF hp hm) (r.keeps (fun _ _ _ => rfl) hF)

/-- A disk stays where all that was there does. -/
theorem DiskAt.below {w w' : World} {p m : Nat} {d : D} {F : Nat → Prop} (x : DiskAt w.heap p m d F) (hb : Below w.heap.size w w') : DiskAt w'.heap p m d F := by
  obtain ⟨l1, l2, l3, l4, l5⟩ := x.lt
  exact x.keeps (hb.block p l1) (hb.block m l2) (fun k _ hk => hb.block k hk) (fun _ h _ => h) (fun _ h => Or.inl h)

theorem done_other (x : St) (s : Step) (t : Int) (h : s.what = 1) : (x.done s).tp t = x.tp t := by simp [St.done, h]

theorem step_ok {d : D} {s : Step} (h : d.ok) (hs : s.ok d.many) (ht : ∀ t, ((d.stand.done s).tp t).length ≤ d.room) (d' : D) (e1 : d'.many = d.many) (e2 : d'.room = d.room) (e3 : d'.lasts = d.lasts) (e4 : d'.waits = d.waits ++ [s])
    (h1 : -1 ≤ d'.stops) (h2 : d'.stops ≤ 9223372036854775807) : d'.ok := by
  refine ⟨by rw [e1]; exact h.many0, by rw [e1]; exact h.many1, by rw [e2]; exact h.room0, by rw [e2]; exact h.room1, by rw [e3]; exact h.sec, fun k t => ?_, fun y hy => ?_, h1, h2⟩
  · unfold D.upto
    rw [e2, e3, e4]
    by_cases hk : k ≤ d.waits.length
    · rw [List.take_append_of_le_length hk]
      exact h.tape k t
    · rw [List.take_of_length_le (by simp; omega), List.foldl_append]
      exact ht t
  · rw [e4] at hy
    rw [e1]
    rcases List.mem_append.1 hy with hy | hy
    · exact h.waits y hy
    · rw [List.mem_singleton] at hy; subst hy; exact hs

theorem goes_two (d : D) : d.goes.2 = 0 ∨ d.goes.2 = 281 := by unfold D.goes; split; exact Or.inr rfl; split; exact Or.inr rfl; split <;> exact Or.inl rfl

theorem stand_tapes {d : D} (h : d.ok) (t : Int) : (d.stand.tp t).length ≤ d.room := by
  have := h.tape d.waits.length t
  unfold D.upto at this
  rwa [List.take_of_length_le (Nat.le_refl _)] at this

theorem done_sec {x : St} {s : Step} {many : Int} (hx : ∀ n, (x.sec n).length = 256) (hs : s.ok many) : ∀ n, ((x.done s).sec n).length = 256 := by
  intro n
  unfold St.done
  split
  · rename_i h1
    have hb : s.b.length = 256 := by
      rcases hs with hs | hs | hs
      · exact hs.2.2.2.2
      · omega
      · omega
    simp only [upd]
    split
    · exact hb
    · exact hx n
  · split <;> exact hx n

theorem foldl_sec {many : Int} : ∀ (l : List Step) (x : St), (∀ n, (x.sec n).length = 256) → (∀ s ∈ l, s.ok many) → ∀ n, ((l.foldl St.done x).sec n).length = 256
  | [], _, h, _ => h
  | s :: l, x, h, hs => foldl_sec l (x.done s) (done_sec h (hs s (List.mem_cons_self ..))) (fun y hy => hs y (List.mem_cons_of_mem _ hy))

theorem stand_secs {d : D} (h : d.ok) : ∀ n, (d.stand.sec n).length = 256 := foldl_sec d.waits d.lasts h.sec h.waits

/-- The row of steps behind the append. -/
theorem steps_more {W2 W : World} {F F' : Nat → Prop} {l : List Step} {s : Step} {cs : List Value} {base : Nat} {v : Value} {a0 a1 a2 a3 a4 a5 a6 : Value}
    (hl : cs.length = l.length * 7) (hcs : ∀ i s, l[i]? = some s → ∃ d p tp w0 w1 w2 st, cs[i * 7]? = some d ∧ cs[i * 7 + 1]? = some p ∧ cs[i * 7 + 2]? = some tp ∧ cs[i * 7 + 3]? = some w0 ∧ cs[i * 7 + 4]? = some w1 ∧ cs[i * 7 + 5]? = some w2 ∧ cs[i * 7 + 6]? = some st ∧ StepAt W2.heap F s d p tp w0 w1 w2 st)
    (hst : StepAt W2.heap F s a0 a1 a2 a3 a4 a5 a6) (hs : ∀ k, F k → k < W2.heap.size → W.heap[k]? = W2.heap[k]?) (hF : ∀ k, F k → k < W2.heap.size → F' k)
    (own : W.ownsRow base tStep 7 v (l.length + 1) (cs ++ stepL a0 a1 a2 a3 a4 a5 a6)) (hF2 : ∀ k, base ≤ k → k < W.heap.size → F' k) : StepsAt W.heap F' v (l ++ [s]) := by
  obtain ⟨_, h⟩ := own
  rcases h with ⟨_, h⟩ | ⟨g, cap, cur, rfl, h2, h3, h4, h5, h6, h7⟩
  · omega
  · refine Or.inr ⟨g, 0, cap, cur, tStep, (0, 0), by simp, by simpa using h4, by unfold maxLen at h5; omega, hF2 g h2 (lt_of_row h3), h3, fun i y hi => ?_⟩
    have look : ∀ j u, (cs ++ stepL a0 a1 a2 a3 a4 a5 a6)[j]? = some u → cur[0 + j]? = some u := by
      intro j u hj
      have hlt := (List.getElem?_eq_some_iff.1 hj).1
      rw [List.length_append, hl] at hlt
      have hlt' : j < (l.length + 1) * 7 := by simp only [stepL, List.length_cons, List.length_nil] at hlt; omega
      rw [← h7, List.getElem?_take, if_pos hlt'] at hj
      simpa using hj
    by_cases hi2 : i < l.length
    · rw [List.getElem?_append_left hi2] at hi
      obtain ⟨d, p, tp, w0, w1, w2, st, e0, e1, e2, e3, e4, e5, e6, e7⟩ := hcs i y hi
      have up : ∀ j u, cs[j]? = some u → (cs ++ stepL a0 a1 a2 a3 a4 a5 a6)[j]? = some u := fun j u h => by rw [List.getElem?_append_left (List.getElem?_eq_some_iff.1 h).1]; exact h
      refine ⟨d, p, tp, w0, w1, w2, st, look _ _ (up _ _ e0), ?_, ?_, ?_, ?_, ?_, ?_, e7.keeps hs hF⟩
      · have := look _ _ (up _ _ e1); rwa [← Nat.add_assoc] at this
      · have := look _ _ (up _ _ e2); rwa [← Nat.add_assoc] at this
      · have := look _ _ (up _ _ e3); rwa [← Nat.add_assoc] at this
      · have := look _ _ (up _ _ e4); rwa [← Nat.add_assoc] at this
      · have := look _ _ (up _ _ e5); rwa [← Nat.add_assoc] at this
      · have := look _ _ (up _ _ e6); rwa [← Nat.add_assoc] at this
    · have hi3 : i = l.length ∧ y = s := by
        have hlt := (List.getElem?_eq_some_iff.1 hi).1
        rw [List.length_append, List.length_singleton] at hlt
        have : i = l.length := by omega
        subst this
        rw [List.getElem?_append_right (Nat.le_refl _)] at hi
        simp at hi
        exact ⟨rfl, hi.symm⟩
      obtain ⟨rfl, rfl⟩ := hi3
      have up : ∀ j u, (stepL a0 a1 a2 a3 a4 a5 a6)[j]? = some u → cur[0 + l.length * 7 + j]? = some u := fun j u h => by
        have := look (l.length * 7 + j) u (by rw [List.getElem?_append_right (by omega)]; rw [hl, Nat.add_sub_cancel_left]; exact h)
        rwa [← Nat.add_assoc] at this
      refine ⟨a0, a1, a2, a3, a4, a5, a6, up 0 _ rfl, up 1 _ rfl, up 2 _ rfl, up 3 _ rfl, up 4 _ rfl, up 5 _ rfl, up 6 _ rfl, hst.keeps hs hF⟩

theorem step_c {p m : Nat} {d : D} {F : Nat → Prop} {w : World} (x : DiskAt w.heap p m d F) (s : Step) (hs : s.ok d.many) (hn : d.waits.length ≤ 1000000000000) (ht : ∀ t, ((d.stand.done s).tp t).length ≤ d.room)
    {a0 a1 a2 a3 a4 a5 a6 : Value} (hst : StepAt w.heap F s a0 a1 a2 a3 a4 a5 a6) :
    Calls Tryz.prog 99 #[.pointer (some ⟨p, 0, none⟩), .agg #[a0, a1, a2, a3, a4, a5, a6]] w fun e w' => e = .returned (.int .i64 (d.step s).2) ∧ Moves (fun k => k = p ∨ k = m) w w' ∧
      DiskAt w'.heap p m (d.step s).1 (plus F w w') := by
  obtain ⟨lp, lm, hne, np, nm⟩ := x.lt
  have hb0 : Below w.heap.size w (w.alloc (.cells #[a0, a1, a2, a3, a4, a5, a6] tStep)) := (Below.refl _ _).alloc (Nat.le_refl _) _
  have x0 : DiskAt (w.alloc (.cells #[a0, a1, a2, a3, a4, a5, a6] tStep)).heap p m d F := x.below hb0
  have hg := goes_c x0
  have pn : ∀ w' : World, ¬ plus F w w' p ∧ ¬ plus F w w' m := fun w' => ⟨fun h => by rcases h with h | h; exact np h; omega, fun h => by rcases h with h | h; exact nm h; omega⟩
  rcases goes_two d with h0 | h0
  · have e2 : d.step s = ({ d.goes.1 with waits := d.waits ++ [s] }, 0) := by unfold D.step; rw [if_pos h0]
    rw [e2]
    rw [h0] at hg
    obtain ⟨fn, lb, rfl, eg⟩ := hst.fn
    refine (step_live p fn lb a1 a2 a3 a4 a5 a6 w _
      (fun W1 W2 => ∃ ml l0 l1 l2 l3 wv stops after, RestAt W1.heap d.goes.1 F ml l0 l1 l2 l3 wv stops after ∧ Did W1.drew p m (d.stand.done s) F tDisk (diskR ml l0 l1 l2 l3 wv d.many d.room d.goes.1.dead stops after) (.returned (.tuple #[])) W2)
      eg d.waits.length hn
      (fun W2 cs => cs.length = d.waits.length * 7 ∧ ∃ G : Nat → Prop, (∀ k, F k → G k) ∧ (∀ k, G k → F k) ∧
        ∀ i s, d.waits[i]? = some s → ∃ dd p tp w0 w1 w2 st, cs[i * 7]? = some dd ∧ cs[i * 7 + 1]? = some p ∧ cs[i * 7 + 2]? = some tp ∧ cs[i * 7 + 3]? = some w0 ∧ cs[i * 7 + 4]? = some w1 ∧ cs[i * 7 + 5]? = some w2 ∧ cs[i * 7 + 6]? = some st ∧ StepAt W2.heap F s dd p tp w0 w1 w2 st)
      hst.ones hg ?_ ?_).mono ?_
    · rintro W1 ⟨hm1, hz1, hd1⟩
      refine ⟨(hm1.block w.heap.size (by simp) (fun (e : w.heap.size = p) => by omega)).trans (heap_alloc_last w _), ?_⟩
      obtain ⟨ml, l0, l1, l2, l3, wv, stops, after, sa, ra⟩ := hd1.parts
      rw [goes_stand, goes_many, goes_room] at sa
      have st1 : StepAt W1.drew.heap F s (.func (.func fn) #[] lb) a1 a2 a3 a4 a5 a6 := hst.keeps (fun k hk hl => (hm1.block k (by simp; omega) (fun e => np (e ▸ hk))).trans (hb0.block k hl)) (fun _ h _ => h)
      obtain ⟨fn', lb', ef, _, hc⟩ := does_c s d.many hs p m d.stand F tDisk _ W1.drew _ _ _ _ _ _ _ st1 (fun t => by have := stand_tapes x.ok t; have := x.ok.room1; omega) sa
      cases ef
      exact hc.mono fun e w' hd => ⟨hd.ret, ml, l0, l1, l2, l3, wv, stops, after, ra, by have e1 := hd.ret; subst e1; exact hd⟩
    · rintro W1 W2 ⟨hm1, hz1, hd1⟩ ⟨ml, l0, l1, l2, l3, wv, stops, after, ra, hd⟩
      obtain ⟨_, mv, sa⟩ := hd
      have hz1' : W1.heap.size = w.heap.size + 1 := by rw [hz1]; simp
      refine ⟨(mv.block w.heap.size (by show w.heap.size < W1.heap.size; omega) (fun (e : w.heap.size = p ∨ w.heap.size = m) => by omega)).trans ((hm1.block w.heap.size (by simp) (fun (e : w.heap.size = p) => by omega)).trans (heap_alloc_last w _)), wv, ?_⟩
      have keep : ∀ k, F k → k < W1.heap.size → W2.heap[k]? = W1.heap[k]? := fun k hk hl => mv.block k hl (fun e => by rcases e with e | e; exact np (e ▸ hk); exact nm (e ▸ hk))
      have st2 : StepsAt W2.heap F wv d.waits := by have := ra.steps.keeps keep (fun _ h _ => h); rwa [goes_waits] at this
      obtain ⟨t0, t1, t2, t3, c1, _⟩ := sa
      have hcell : W2.cell? ⟨p, 10, none⟩ = some wv := by rw [cell_of_row _ _ _ _ _ _ c1]; simp [diskR]
      have hfr : W2.frozen? ⟨p, 10, none⟩ = false := by simp [World.frozen?, c1]
      rcases st2.raw with ⟨rfl, hl⟩ | ⟨b, o, cap, cs, rfl, hcs, hFb, hlc, hcap, hc, h1, hst⟩
      · exact ⟨[], ⟨by simp [hl], F, fun _ h => h, fun _ h => h, fun i s hi => by rw [hl] at hi; cases hi⟩, by simp [hl], (fun u hu => by cases hu), hcell, hfr, Or.inl ⟨rfl, by simp [hl]⟩⟩
      · exact ⟨cs, ⟨hcs, F, fun _ h => h, fun _ h => h, hst⟩, hcs, h1, hcell, hfr, Or.inr ⟨b, o, cap, rfl, hc⟩⟩
    · rintro e w' ⟨rfl, W1, W2, W4, v, cs, ⟨hm1, hz1, hd1⟩, ⟨ml, l0, l1, l2, l3, wv, stops, after, ra, hd⟩, ⟨hcs, _, _, _, hst2⟩, hb4, own, rfl⟩
      obtain ⟨_, mv, sa⟩ := hd
      have hz1' : W1.heap.size = w.heap.size + 1 := by rw [hz1]; simp
      have mv1 : W1.heap.size ≤ W2.heap.size := mv.size
      have hsz : (W4.setCell ⟨p, 10, none⟩ v).heap.size = W4.heap.size := by simp
      have hb4s := hb4.size
      have ho : ∀ k, k ≠ p → (W4.setCell ⟨p, 10, none⟩ v).heap[k]? = W4.heap[k]? := fun k hk => heap_setCell_other W4 _ k v hk
      have hmv : Moves (fun k => k = p ∨ k = m) w (W4.setCell ⟨p, 10, none⟩ v) := by
        refine ⟨?_, ?_, ?_, by rw [hsz]; omega, fun k hk hn => ?_⟩
        · show W4.os = w.os
          rw [hb4.os, mv.os]; exact hm1.os
        · show W4.tape = w.tape
          rw [hb4.tape, mv.tape]; exact hm1.tape
        · show W4.output = w.output
          rw [hb4.output, mv.output]; exact hm1.output
        · rw [ho k (fun e => hn (Or.inl e)), hb4.block k (by omega), mv.block k (by show k < W1.heap.size; omega) hn]
          show W1.heap[k]? = _
          rw [hm1.block k (by simp; omega) (fun e => hn (Or.inl e)), hb0.block k hk]
      refine ⟨rfl, hmv, ?_⟩
      have keep : ∀ k, F k → k < W1.heap.size → (W4.setCell ⟨p, 10, none⟩ v).heap[k]? = W1.heap[k]? := fun k hk hl => by
        rw [ho k (fun e => np (e ▸ hk)), hb4.block k (by omega), mv.block k hl (fun e => by rcases e with e | e; exact np (e ▸ hk); exact nm (e ▸ hk))]
        rfl
      have keep2 : ∀ k, F k → k < W2.heap.size → (W4.setCell ⟨p, 10, none⟩ v).heap[k]? = W2.heap[k]? := fun k hk hl => by
        rw [ho k (fun e => np (e ▸ hk)), hb4.block k hl]
      have big : ∀ k, F k → plus F w (W4.setCell ⟨p, 10, none⟩ v) k := fun k h => Or.inl h
      have ra' := ra.keeps keep (fun k h _ => big k h)
      have g1 := goes_ok x.ok
      have g2 := goes_stand d
      have g3 := goes_lasts d
      have g4 := goes_waits d
      have g5 := goes_many d
      have g6 := goes_room d
      have st3 : StepAt W2.heap F s (.func (.func fn) #[] lb) a1 a2 a3 a4 a5 a6 := hst.keeps (fun k hk hl => by
        rw [mv.block k (by show k < W1.heap.size; omega) (fun e => by rcases e with e | e; exact np (e ▸ hk); exact nm (e ▸ hk))]
        show W1.heap[k]? = _
        rw [hm1.block k (by simp; omega) (fun e => np (e ▸ hk)), hb0.block k hl]) (fun _ h _ => h)
      have st4 : StepsAt (W4.setCell ⟨p, 10, none⟩ v).heap (plus F w (W4.setCell ⟨p, 10, none⟩ v)) v (d.waits ++ [s]) := by
        have y := steps_more (W := W4) (F' := plus F w (W4.setCell ⟨p, 10, none⟩ v)) hcs hst2 st3 (fun k _ hl => hb4.block k hl) (fun k h _ => big k h) own (fun k h1 h2 => Or.inr ⟨by omega, by rw [hsz]; exact h2⟩)
        exact y.keeps (fun k hk hl => ho k (fun e => (pn _).1 (e ▸ hk))) (fun _ h _ => h)
      obtain ⟨t0, t1, t2, t3, c1, c2, b0, b1, b2, b3, n1, n2, n3⟩ := sa
      have c1' := heap_setCell_same W4 p 10 _ tDisk v ((hb4.block p (lt_of_row c1)).trans c1)
      have lm2 : m < W2.heap.size := by omega
      have bk : ∀ {u : Value} {y : List UInt8}, BytesAt W2.heap (plus F W1.drew W2) u y → BytesAt (W4.setCell ⟨p, 10, none⟩ v).heap (plus F w (W4.setCell ⟨p, 10, none⟩ v)) u y := fun h =>
        h.keeps (fun k hk hl => (ho k (fun e => n2 (e ▸ hk))).trans (hb4.block k hl)) (fun k hk hl => by
          rcases hk with hk | hk
          · exact Or.inl hk
          · have : W1.heap.size ≤ k := hk.1
            exact Or.inr ⟨by omega, by rw [hsz]; omega⟩)
      refine DiskAt.of (ml := ml) (l0 := l0) (l1 := l1) (l2 := l2) (l3 := l3) (wv := v) (stops := stops) (after := after) ?_ ?_ ?_
      · exact step_ok x.ok hs ht _ g5 g6 g3 rfl g1.stops g1.stops1
      · refine ⟨t0, t1, t2, t3, c1'.trans ?_, ?_, ?_, ?_, ?_, ?_, (pn _).2, (pn _).1, n3⟩
        · simp only [g5, g6]
          simp [diskR]
        · have : ({ d.goes.1 with waits := d.waits ++ [s] } : D).stand = d.stand.done s := by
            simp only [D.stand, List.foldl_append, g3]; rfl
          rw [this]
          exact c2.stays ((ho m n3).trans (hb4.block m lm2))
        all_goals
          have : ({ d.goes.1 with waits := d.waits ++ [s] } : D).stand = d.stand.done s := by
            simp only [D.stand, List.foldl_append, g3]; rfl
          rw [this]
          first | exact bk b0 | exact bk b1 | exact bk b2 | exact bk b3
      · exact ⟨ra'.hst, ra'.haf, ra'.sec, ra'.fml, ra'.b0, ra'.b1, ra'.b2, ra'.b3, st4⟩
  · have hne0 : ¬ d.goes.2 = 0 := by omega
    have e2 : d.step s = (d.goes.1, d.goes.2) := by unfold D.step; rw [if_neg hne0]
    rw [e2]
    refine (step_dead p d.goes.2 a0 a1 a2 a3 a4 a5 a6 w _ h0 hg).mono ?_
    rintro e w' ⟨rfl, hm1, hz1, hd1⟩
    simp only [h0]
    refine ⟨trivial, ?_, hd1.weak (fun k h _ => Or.inl h) (pn _).1 (pn _).2⟩
    exact ⟨hm1.os, hm1.tape, hm1.output, by rw [hz1]; simp, fun k hk hn => (hm1.block k (by simp; omega) (fun e => hn (Or.inl e))).trans (hb0.block k hk)⟩

end Go.Proofs.YtgffifleflkjoaaGreat

namespace Go.Proofs.YtgffifleflkjoaaGreat
open Go.RowKit Dm

abbrev tBytes : Nat := 31

/-- No disk. -/
def NoneD (w : World) (v : Value) : Prop := v = .pointer none ∨ ∃ p, v = .pointer (some ⟨p, 0, none⟩) ∧ w.cell? ⟨p, 16, none⟩ = some (.bool false)

theorem NoneD.below {w w' : World} {v : Value} (h : NoneD w v) (hb : Below w.heap.size w w') : NoneD w' v := by
  rcases h with h | ⟨p, h1, h2⟩
  · exact Or.inl h
  · exact Or.inr ⟨p, h1, (hb.cell (p := ⟨p, 16, none⟩) (block_lt_of_cell h2)).trans h2⟩

theorem none_c {w : World} {v : Value} (h : NoneD w v) : Calls Tryz.prog 45 #[v] w fun e w' => e = .returned (.bool true) ∧ w = w' := by
  rcases h with rfl | ⟨p, rfl, h⟩
  · exact none_nil w
  · exact none_at p false w h

/-- A string of bytes. -/
theorem run_string_of {w : World} {F : Nat → Prop} {v : Value} {l : List UInt8} (h : BytesAt w.heap F v l) : (convert tBytes 9 v).run Tryz.prog w = .ok (.string ⟨l.toArray⟩) w := by
  rcases h with ⟨rfl, rfl⟩ | ⟨b, o, cap, c, t, fr, rfl, h2, h3, g2, g3, g4⟩
  · exact run_convert_bytes_nil w tBytes tByte Tryz.underlying31 Tryz.underlying5 0 0 9 Tryz.underlying9
  · exact run_convert_bytes_back w tBytes 9 tByte ⟨b, o, none⟩ cap l Tryz.underlying31 Tryz.underlying5 Tryz.underlying9 (fun j hj => by
      rw [addr_add, cell_of_row _ _ _ _ _ _ g3, g4 j l[j] (by simp [hj])]
      rfl)

theorem BytesAt.below {w w' : World} {F : Nat → Prop} {v : Value} {l : List UInt8} (h : BytesAt w.heap F v l) (hb : Below w.heap.size w w') : BytesAt w'.heap F v l := h.keeps (fun k _ hl => hb.block k hl) (fun _ h _ => h)

theorem run_arrayAt (W : World) (a : Addr) (c : Nat) : (Instr.arrayAt tSec (.slice (some a) 256 c)).run Tryz.prog W = .ok (.pointer (some a)) W := by
  simp [Instr.arrayAt, run_underlying Tryz.underlying135]

theorem DiskAt.cell16 {w : World} {p m : Nat} {d : D} {F : Nat → Prop} (x : DiskAt w.heap p m d F) : w.cell? ⟨p, 16, none⟩ = some (.bool true) ∧ w.cell? ⟨p, 11, none⟩ = some (.int .i64 d.many) ∧ w.cell? ⟨p, 12, none⟩ = some (.int .i64 d.room) ∧ w.cell? ⟨p, 13, none⟩ = some (.bool d.dead) := by
  obtain ⟨ml, l0, l1, l2, l3, wv, stops, after, ⟨t0, t1, t2, t3, c1, _⟩, _⟩ := x.parts
  refine ⟨?_, ?_, ?_, ?_⟩ <;> (rw [cell_of_row _ _ _ _ _ _ c1]; simp [diskR])

/-- What a call leaves that may change the disk at p, whose map is m. -/
def Left (w : World) (p m : Nat) (F : Nat → Prop) (r : D × Int) (e : Ending) (w' : World) : Prop :=
  e = .returned (.int .i64 r.2) ∧ Moves (fun k => k = p ∨ k = m) w w' ∧ DiskAt w'.heap p m r.1 (plus F w w')

theorem DiskAt.plus {w w' : World} {p m : Nat} {d : D} {F : Nat → Prop} (x : DiskAt w.heap p m d F) (hb : Below w.heap.size w w') : DiskAt w'.heap p m d (plus F w w') := by
  obtain ⟨l1, l2, l3, l4, l5⟩ := x.lt
  exact (x.below hb).weak (fun _ h _ => Or.inl h) (fun h => by rcases h with h | h; exact l4 h; omega) (fun h => by rcases h with h | h; exact l5 h; omega)

theorem left_below {w w' : World} {p m : Nat} {d : D} {F : Nat → Prop} {c : Int} (x : DiskAt w.heap p m d F) (hb : Below w.heap.size w w') : Left w p m F (d, c) (.returned (.int .i64 c)) w' :=
  ⟨rfl, Moves.of_below hb, x.plus hb⟩

/-- A call behind others that made memory. -/
theorem left_later {w W w' : World} {p m : Nat} {d : D} {F : Nat → Prop} {r : D × Int} {e : Ending} (x : DiskAt w.heap p m d F) (hb : Below w.heap.size w W) (h : Left W p m (plus F w W) r e w') : Left w p m F r e w' := by
  obtain ⟨l1, l2, l3, l4, l5⟩ := x.lt
  obtain ⟨h1, h2, h3⟩ := h
  have hs := hb.size
  have hs2 := h2.size
  refine ⟨h1, ⟨h2.os.trans hb.os, h2.tape.trans hb.tape, h2.output.trans hb.output, by omega, fun k hk hn => (h2.block k (by omega) hn).trans (hb.block k hk)⟩, h3.weak (fun k hk hl => ?_) ?_ ?_⟩
  · rcases hk with (hk | hk) | hk
    · exact Or.inl hk
    · exact Or.inr ⟨hk.1, hl⟩
    · exact Or.inr ⟨by omega, hl⟩
  · intro h; rcases h with h | h
    · exact l4 h
    · omega
  · intro h; rcases h with h | h
    · exact l5 h
    · omega

end Go.Proofs.YtgffifleflkjoaaGreat

namespace Go.Proofs.YtgffifleflkjoaaGreat
open Go.RowKit Dm Go.Shelf
attribute [local go_sem] Oper.semAt_some

def tapesL (t0 t1 t2 t3 : Value) : List (Int × Value) := [(0, t0), (1, t1), (2, t2), (3, t3)]
def encT (x : Int × Value) : Array Value := #[.int .i64 x.1, x.2]

theorem all_c (q o : Nat) (w : World) : Calls Tryz.prog 104 #[.pointer (some ⟨q, o, none⟩)] w fun e w' =>
    e = .returned (.func (.func 143) #[] #[.pointer (some ⟨w.heap.size, 0, none⟩)]) ∧ w.alloc (.cells #[.pointer (some ⟨q, o, none⟩)] 117) = w' := by
  go_enter Tryz.func104, Tryz.ntmps104
  go_wp2
  go_ret
  exact ⟨rfl, rfl⟩

abbrev tArr4 : Nat := 58

theorem run_index4 (t0 t1 t2 t3 : Value) (k : Nat) (v : Value) (hk : #[t0, t1, t2, t3][k]? = some v) (W : World) : (Instr.index tArr4 (.agg #[t0, t1, t2, t3]) (.int .i64 (Int.ofNat k))).run Tryz.prog W = .ok v W := by
  have hlt : k < 4 := by have := (Array.getElem?_eq_some_iff.1 hk).1; simpa using this
  have hs : (sizeOf tBytes).run Tryz.prog W = .ok 1 W := by kernel_rfl
  have hag : (isAgg tBytes).run Tryz.prog W = .ok false W := by kernel_rfl
  simp only [Instr.index, asIntOf, Sem.run_bind, Sem.run_pure, Result.andThen_ok, run_underlying Tryz.underlying58]
  rw [if_pos ⟨by simp, by show (k : Int) < 4; omega⟩]
  simp only [Sem.run_bind, hs, Result.andThen_ok, part, hag, Bool.false_eq_true, if_false, Int.ofNat_eq_natCast, Int.toNat_natCast, Nat.mul_one, hk, Sem.run_pure]

set_option maxRecDepth 100000 in
set_option maxHeartbeats 2000000 in
theorem all1_c (g q o : Nat) (ho : o = 0 ∨ o = 5) (t0 t1 t2 t3 : Value) (w : World) (hg : w.cell? ⟨g, 0, none⟩ = some (.pointer (some ⟨q, o, none⟩))) (h1 : w.cell? ⟨q, o + 1, none⟩ = some t0) (h2 : w.cell? ⟨q, o + 2, none⟩ = some t1)
    (h3 : w.cell? ⟨q, o + 3, none⟩ = some t2) (h4 : w.cell? ⟨q, o + 4, none⟩ = some t3) :
    Iter Tryz.prog 143 #[.pointer (some ⟨g, 0, none⟩)] encT (tapesL t0 t1 t2 t3) (fun _ => False) w := by
  intro l J Jx W hW hJ hJx hY h0
  have lt : q < w.heap.size := block_lt_of_cell h1
  have ix0 := fun W => run_index4 t0 t1 t2 t3 0 t0 rfl W
  have ix1 := fun W => run_index4 t0 t1 t2 t3 1 t1 rfl W
  have ix2 := fun W => run_index4 t0 t1 t2 t3 2 t2 rfl W
  have ix3 := fun W => run_index4 t0 t1 t2 t3 3 t3 rfl W
  simp only [Int.ofNat_eq_natCast, Int.cast_ofNat_Int] at ix0 ix1 ix2 ix3
  have f0 := (hW.cell (p := ⟨g, 0, none⟩) (block_lt_of_cell hg)).trans hg
  rcases ho with rfl | rfl
  all_goals
    have f1 := (hW.cell (p := ⟨q, _, none⟩) lt).trans h1
    have f2 := (hW.cell (p := ⟨q, _, none⟩) lt).trans h2
    have f3 := (hW.cell (p := ⟨q, _, none⟩) lt).trans h3
    have f4 := (hW.cell (p := ⟨q, _, none⟩) lt).trans h4
    simp only [Nat.zero_add, Nat.reduceAdd] at f1 f2 f3 f4
    clear h1 h2 h3 h4 hg
    refine callsIn_of_wp Tryz.func143 rfl trivial ?_ rfl
    simp only [Tryz.ntmps143, List.size_toArray, List.length_cons, List.length_nil, Nat.reduceAdd, Nat.reduceSub, Array.replicate_succ, Array.replicate_zero, List.push_toArray, List.append_toArray, List.nil_append, List.cons_append]
    gi_wp2
    refine wpIn_scope (wpIn_label_seq ?_)
    gi_wp2
    gi_loopw [9] (fun p wr => ∃ k : Nat, p = .int .i64 (k : Int) ∧ k ≤ 4 ∧ J k (fun _ => False) wr) (fun p _ => 5 - (intOf p).toNat)
    case atStart => exact ⟨0, rfl, by omega, h0⟩
    case round =>
      obtain ⟨k, rfl, hk, hJk⟩ := hrel
      by_cases hlt : k < 4
      · obtain rfl | rfl | rfl | rfl : k = 0 ∨ k = 1 ∨ k = 2 ∨ k = 3 := by omega
        all_goals
          obtain ⟨fn, tmps, assign, body, hy, hR⟩ := hY _ _ _ wr rfl hJk
          simp only [encT] at hy
          gi_wp2
          refine ⟨rfl, hR.mono ?_⟩
          rintro e W' (⟨rfl, hJ', hk'⟩ | ⟨rfl, hJx', hk'⟩)
          · gi_wp2
            first
              | exact ⟨⟨1, rfl, by decide, hJ'⟩, by simp [intOf]⟩
              | exact ⟨⟨2, rfl, by decide, hJ'⟩, by simp [intOf]⟩
              | exact ⟨⟨3, rfl, by decide, hJ'⟩, by simp [intOf]⟩
              | exact ⟨⟨4, rfl, by decide, hJ'⟩, by simp [intOf]⟩
          · gi_wp2
            simp +zetaDelta only [Exit.noGoto_normal]; refine bodyPost_end (results_none rfl _ _ _) rfl ?_
            first
              | exact ⟨⟨_, rfl⟩, _, .inr ⟨1, by simp [tapesL], hJx'⟩⟩
              | exact ⟨⟨_, rfl⟩, _, .inr ⟨2, by simp [tapesL], hJx'⟩⟩
              | exact ⟨⟨_, rfl⟩, _, .inr ⟨3, by simp [tapesL], hJx'⟩⟩
              | exact ⟨⟨_, rfl⟩, _, .inr ⟨4, by simp [tapesL], hJx'⟩⟩
      · obtain rfl : k = 4 := by omega
        gi_wp2
        simp +zetaDelta only [Exit.noGoto_normal]; refine bodyPost_end (results_none rfl _ _ _) rfl ?_
        exact ⟨⟨_, rfl⟩, _, .inl hJk⟩

end Go.Proofs.YtgffifleflkjoaaGreat

namespace Go.Proofs.YtgffifleflkjoaaGreat
open Go.RowKit Dm Go.Shelf
attribute [local go_sem] Oper.semAt_some

/-- A result that lies in a cell. -/
theorem results_cell_one {fn : Func} {p : Tmp} {ty : TypeId} (h : fn.results = #[.cell p ty]) (tmps : Array Value) (w : World) (a : Addr) (v : Value) (hp : tmps.getD p undef = .pointer (some a)) (hc : w.cell? a = some v)
    (hi : (isAgg ty).run Tryz.prog w = .ok false w) : (results fn tmps).run Tryz.prog w = .ok v w := by
  have hp' : tmps[p]?.getD undef = .pointer (some a) := by simpa using hp
  simp [results, h, hp', asAddr, loadVar, hi, hc]

/-- Between two rounds of the loop that counts. -/
def UsI (w : World) (ns : List Nat) (k : Nat) (O : Nat → Prop) (W' : World) : Prop :=
  Below w.heap.size w W' ∧ W'.heap[w.heap.size]? = some (.cells #[.int .i64 ((ns.take k).sum : Nat)] 3 (0, 0)) ∧ (∀ i, O i → w.heap.size + 4 ≤ i) ∧ w.heap.size + 4 ≤ W'.heap.size

theorem usI_moves {w A B : World} {ns : List Nat} {k : Nat} {O O' : Nat → Prop} (h : UsI w ns k O A) (hm : Moves O A B) (ho : ∀ i, O' i → O i ∨ A.heap.size ≤ i) : UsI w ns k O' B := by
  obtain ⟨h1, h2, h6, h7⟩ := h
  refine ⟨⟨hm.os.trans h1.os, hm.tape.trans h1.tape, hm.output.trans h1.output, Nat.le_trans h1.size hm.size, fun i hi => ?_⟩, (hm.block _ (by omega) (fun e => by have := h6 _ e; omega)).trans h2, fun i hi => ?_, Nat.le_trans h7 hm.size⟩
  · exact (hm.block i (by have := h1.size; omega) (fun e => by have := h6 i e; omega)).trans (h1.block i hi)
  · rcases ho i hi with e | e
    · exact h6 i e
    · omega

theorem usI_put {w A : World} {ns : List Nat} {k : Nat} {O : Nat → Prop} (h : UsI w ns k O A) (d : Nat) (hd : w.heap.size + 1 ≤ d) (o : Obj) : UsI w ns k O (A.putObj d o) := by
  obtain ⟨h1, h2, h6, h7⟩ := h
  exact ⟨⟨h1.os, h1.tape, h1.output, by simpa using h1.size, fun i hi => (World.putObj_heap_other (by omega)).trans (h1.block i hi)⟩, (World.putObj_heap_other (by omega)).trans h2, h6, by simpa using h7⟩

set_option maxRecDepth 100000 in
set_option maxHeartbeats 2000000 in
theorem used_c (q o : Nat) (ho : o = 0 ∨ o = 5) (a0 a1 a2 a3 : Option Addr) (n0 n1 n2 n3 c0 c1 c2 c3 : Nat) (hn : n0 + n1 + n2 + n3 ≤ 9223372036854775807) (w : World) (h1 : w.cell? ⟨q, o + 1, none⟩ = some (.slice a0 n0 c0)) (h2 : w.cell? ⟨q, o + 2, none⟩ = some (.slice a1 n1 c1))
    (h3 : w.cell? ⟨q, o + 3, none⟩ = some (.slice a2 n2 c2)) (h4 : w.cell? ⟨q, o + 4, none⟩ = some (.slice a3 n3 c3)) :
    Calls Tryz.prog 97 #[.pointer (some ⟨q, o, none⟩)] w fun e w' => e = .returned (.int .i64 ((n0 + n1 + n2 + n3 : Nat) : Int)) ∧ Below w.heap.size w w' := by
  have lt : q < w.heap.size := block_lt_of_cell h1
  have hb0 : Below w.heap.size w (w.alloc (.cells #[.int .i64 0] 3)) := (Below.refl _ _).alloc (Nat.le_refl _) _
  have hb : Below w.heap.size w ((w.alloc (.cells #[.int .i64 0] 3)).alloc (.cells #[.pointer (some ⟨q, o, none⟩)] 117)) := hb0.alloc (by simp) _
  have r0 : ((w.alloc (.cells #[.int .i64 0] 3)).alloc (.cells #[.pointer (some ⟨q, o, none⟩)] 117)).heap[w.heap.size]? = some (.cells #[.int .i64 0] 3 (0, 0)) := (Below.heap_alloc _ _ _ (by simp)).trans (heap_alloc_last w _)
  have k0 : ((w.alloc (.cells #[.int .i64 0] 3)).alloc (.cells #[.pointer (some ⟨q, o, none⟩)] 117)).cell? ⟨w.heap.size + 1, 0, none⟩ = some (.pointer (some ⟨q, o, none⟩)) := (cell_of_row _ _ _ _ _ _ (heap_at (w := w.alloc (.cells #[.int .i64 0] 3)) _ (by simp))).trans rfl
  have IT := Lib.hid (all1_c (w.heap.size + 1) q o ho _ _ _ _ _ k0 ((hb.cell (p := ⟨q, _, none⟩) lt).trans h1) ((hb.cell (p := ⟨q, _, none⟩) lt).trans h2) ((hb.cell (p := ⟨q, _, none⟩) lt).trans h3) ((hb.cell (p := ⟨q, _, none⟩) lt).trans h4))
  have R0 := Lib.hid r0
  clear h1 h2 h3 h4 r0 k0
  refine (callsIn_wide (n := 0)).1 ?_
  refine callsIn_of_wp_marks Tryz.func97 rfl trivial ?_ rfl
  simp only [Tryz.ntmps97, List.size_toArray, List.length_cons, List.length_nil, Nat.reduceAdd, Nat.reduceSub, Array.replicate_succ, Array.replicate_zero, List.push_toArray, List.append_toArray, List.nil_append, List.cons_append]
  gi_wp2_with (refine ⟨trivial, rfl, ?_⟩; gi_at_call 104; refine (callsIn_wide.2 (all_c q o _)).mono ?_; rintro e w' ⟨rfl, rfl⟩)
  refine wpIn_rangeIter (gf := 143) (lb := #[.pointer (some ⟨w.heap.size + 1, 0, none⟩)]) (encs := encT) (xs := tapesL (.slice a0 n0 c0) (.slice a1 n1 c1) (.slice a2 n2 c2) (.slice a3 n3 c3)) (R := fun _ => False) rfl (enters_of Tryz.func143 (by kernel_rfl) rfl) IT.out (fun _ h => h.elim)
    (Below.refl _ _) (fun _ => rfl) (UsI w [n0, n1, n2, n3]) (fun _ _ _ _ => False) (fun k O O' A B h hm _ ho => usI_moves h hm ho) (fun _ _ _ _ _ _ h _ _ _ => h) ?hIb (fun _ _ _ _ _ _ _ h => h) ?h0
    (fun x a' _ => a' = { tmps := #[.pointer (some ⟨q, o, none⟩), undef, .pointer (some ⟨w.heap.size, 0, none⟩), undef, x.2, .pointer (some ⟨q, o, none⟩), .func (.func 143) #[] #[.pointer (some ⟨w.heap.size + 1, 0, none⟩)], .int .i64 x.1, x.2, undef, undef, undef, undef, undef], defers := [] }) (fun _ _ _ _ _ _ _ h => h) ?assign ?body ?done ?stop
  case hIb =>
    intro k O r o W' _ h
    exact usI_put h _ (by simp only [World.size_alloc]; omega) o
  case h0 =>
    intro W' hb' hs
    simp only [World.size_alloc] at hb' hs
    refine ⟨hb.trans (hb'.mono (by omega)), (hb'.block _ (by omega)).trans R0.out, fun i h => h.elim, by omega⟩
  case assign =>
    rintro k ⟨x1, x2⟩ O W' hx hi _ _ _
    simp only [encT]
    gi_wp2
    exact ⟨hi, Keeps.refl _ _, trivial⟩
  case body =>
    rintro k x O a' W' hx hl hd hol hod hi rfl
    clear hl hd
    simp only [World.size_alloc] at hol hod ⊢
    have hk : k < 4 := by
      have := (List.getElem?_eq_some_iff.1 hx).1
      simpa [tapesL] using this
    obtain ⟨h1, h2, h6, h7⟩ := hi
    obtain ⟨a, n, c, hx2, hs⟩ : ∃ a n c, x.2 = .slice a n c ∧ ([n0, n1, n2, n3].take (k + 1)).sum = ([n0, n1, n2, n3].take k).sum + n ∧ ([n0, n1, n2, n3].take k).sum + n ≤ 9223372036854775807 := by
      have kk : k = 0 ∨ k = 1 ∨ k = 2 ∨ k = 3 := by omega
      rcases kk with rfl | rfl | rfl | rfl <;> (simp only [tapesL, List.getElem?_cons_zero, List.getElem?_cons_succ, Option.some.injEq] at hx; subst hx; refine ⟨_, _, _, rfl, ?_, ?_⟩ <;> simp [List.take] <;> omega)
    rw [hx2]
    have e1 : IntKind.i64.wrap ((([n0, n1, n2, n3].take k).sum : Nat) + (n : Int)) = (([n0, n1, n2, n3].take (k + 1)).sum : Nat) := by
      rw [hs.1]
      exact IntWalk.i64_in _ (by omega)
    have c1 : W'.cell? ⟨w.heap.size, 0, none⟩ = some (.int .i64 (([n0, n1, n2, n3].take k).sum : Nat)) := (cell_of_row _ _ _ _ _ _ h2).trans rfl
    have z1 : W'.frozen? ⟨w.heap.size, 0, none⟩ = false := by simp [World.frozen?, h2]
    have HH := Lib.hid (And.intro h1 (And.intro h2 (And.intro h6 (And.intro h7 hs))))
    generalize (([n0, n1, n2, n3].take k).sum : Nat) = s0 at *
    generalize hs1 : (([n0, n1, n2, n3].take (k + 1)).sum : Nat) = s1 at *
    clear h1 h2 h6 h7 hs
    gi_wp2
    obtain ⟨h1, h2, h6, h7, hs⟩ := HH.out
    have other : ∀ i, i ≠ w.heap.size → (W'.setCell ⟨w.heap.size, 0, none⟩ (.int .i64 (s1 : Int))).heap[i]? = W'.heap[i]? := fun i hi => heap_setCell_other W' _ i _ hi
    refine ⟨⟨by simp, fun i hi _ => other i ?_⟩, ⟨h1.os, h1.tape, h1.output, by simpa using h1.size, fun i hi => (other i (by omega)).trans (h1.block i hi)⟩, ?_, h6, by simpa using h7⟩
    · rcases hi with h | h | h | h
      · have := h6 i h; omega
      · exact h.elim
      · omega
      · omega
    · have := heap_setCell_same W' w.heap.size 0 _ _ (.int .i64 (s1 : Int)) h2
      rw [hs1]; exact this
  case done =>
    intro O W2 hi _ hD
    simp only [World.size_alloc] at hD
    obtain ⟨h1, h2, h6, h7⟩ := hi
    have e4 : ((List.take (tapesL (.slice a0 n0 c0) (.slice a1 n1 c1) (.slice a2 n2 c2) (.slice a3 n3 c3)).length [n0, n1, n2, n3]).sum : Nat) = n0 + n1 + n2 + n3 := by simp [tapesL]; omega
    rw [e4] at h2
    generalize hnn : n0 + n1 + n2 + n3 = n at *
    have k1 : W2.cell? ⟨w.heap.size, 0, none⟩ = some (.int .i64 (n : Int)) := (cell_of_row _ _ _ _ _ _ h2).trans rfl
    have z1 : W2.frozen? ⟨w.heap.size, 0, none⟩ = false := by simp [World.frozen?, h2]
    have other : ∀ i, i ≠ w.heap.size → (W2.setCell ⟨w.heap.size, 0, none⟩ (.int .i64 (n : Int))).heap[i]? = W2.heap[i]? := fun i hi => heap_setCell_other W2 _ i _ hi
    have hD' := (other (w.heap.size + 1 + 1) (by omega)).trans hD
    have hr : (W2.setCell ⟨w.heap.size, 0, none⟩ (.int .i64 (n : Int))).heap[w.heap.size]? = some (.cells #[.int .i64 (n : Int)] 3 (0, 0)) := heap_setCell_same W2 w.heap.size 0 _ _ (.int .i64 (n : Int)) h2
    have hr' : ((W2.setCell ⟨w.heap.size, 0, none⟩ (.int .i64 (n : Int))).putObj (w.heap.size + 1 + 1) (.deferred none)).heap[w.heap.size]? = some (.cells #[.int .i64 (n : Int)] 3 (0, 0)) := (World.putObj_heap_other (by omega)).trans hr
    have hbb : Below w.heap.size w ((W2.setCell ⟨w.heap.size, 0, none⟩ (.int .i64 (n : Int))).putObj (w.heap.size + 1 + 1) (.deferred none)) :=
      ⟨h1.os, h1.tape, h1.output, by simpa using h1.size, fun i hi => (World.putObj_heap_other (by omega)).trans ((other i (by omega)).trans (h1.block i hi))⟩
    have HI := Lib.hid (And.intro hr' (And.intro hbb hD'))
    clear h1 h2 h6 h7 other hD' hr hr' hbb hD
    gi_wp2
    simp only [World.size_alloc]
    exact leaves_mark HI.out.2.2 (results_cell_one rfl _ _ ⟨w.heap.size, 0, none⟩ _ rfl ((cell_of_row _ _ _ _ _ _ HI.out.1).trans rfl) (by kernel_rfl)) ⟨by rw [hnn]; rfl, HI.out.2.1⟩
  case stop =>
    intro c k O W' hkx h
    exact h.elim

end Go.Proofs.YtgffifleflkjoaaGreat
