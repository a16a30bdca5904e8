/-
  A disk in memory: its parts; whether a step goes; rows of steps.
  A step that can be done.
-/
import Derived.Test.YtgffifleflkjoaaGreatG04

namespace Go.Proofs.YtgffifleflkjoaaGreat
open Go.RowKit Dm

/-- The cells of a disk behind what stands. -/
def diskR (ml : Nat) (l0 l1 l2 l3 wv : Value) (many most : Int) (dead stops : Bool) (after : Int) : List Value :=
  [.map (some ml), l0, l1, l2, l3, wv, .int .i64 many, .int .i64 most, .bool dead, .bool stops, .int .i64 after, .bool true]

/-- What else a disk has. -/
structure RestAt (h : Array Obj) (d : D) (F : Nat → Prop) (ml : Nat) (l0 l1 l2 l3 wv : Value) (stops : Bool) (after : Int) : Prop where
  hst : d.stops = if stops then after else -1
  haf : stops = true → 0 ≤ after
  sec : SecMap h ml d.lasts.sec
  fml : F ml
  b0 : BytesAt h F l0 (d.lasts.tp 0)
  b1 : BytesAt h F l1 (d.lasts.tp 1)
  b2 : BytesAt h F l2 (d.lasts.tp 2)
  b3 : BytesAt h F l3 (d.lasts.tp 3)
  steps : StepsAt h F wv d.waits

theorem DiskAt.parts {h : Array Obj} {p m : Nat} {d : D} {F : Nat → Prop} (x : DiskAt h p m d F) :
    ∃ ml l0 l1 l2 l3 wv stops after, StandAt h p m d.stand F tDisk (diskR ml l0 l1 l2 l3 wv d.many d.room d.dead stops after) ∧ RestAt h d F ml l0 l1 l2 l3 wv stops after := by
  obtain ⟨ok, t0, t1, t2, t3, ml, l0, l1, l2, l3, wv, stops, after, c1, c2, c3, c4, c5, c6, c7, c8, c9, b0, b1, b2, b3, b4, b5, b6, b7, st⟩ := x
  exact ⟨ml, l0, l1, l2, l3, wv, stops, after, ⟨t0, t1, t2, t3, c1, c4, b0, b1, b2, b3, c7, c8, c9⟩, ⟨c2, c3, c5, c6, b4, b5, b6, b7, st⟩⟩

theorem DiskAt.of {h : Array Obj} {p m : Nat} {d : D} {F : Nat → Prop} (ok : d.ok) {ml : Nat} {l0 l1 l2 l3 wv : Value} {stops : Bool} {after : Int}
    (s : StandAt h p m d.stand F tDisk (diskR ml l0 l1 l2 l3 wv d.many d.room d.dead stops after)) (r : RestAt h d F ml l0 l1 l2 l3 wv stops after) : DiskAt h p m d F := by
  obtain ⟨t0, t1, t2, t3, c1, c4, b0, b1, b2, b3, c7, c8, c9⟩ := s
  exact ⟨ok, t0, t1, t2, t3, ml, l0, l1, l2, l3, wv, stops, after, c1, r.hst, r.haf, c4, r.sec, r.fml, c7, c8, c9, b0, b1, b2, b3, r.b0, r.b1, r.b2, r.b3, r.steps⟩

theorem RestAt.keeps {h h' : Array Obj} {d : D} {F F' : Nat → Prop} {ml : Nat} {l0 l1 l2 l3 wv : Value} {stops : Bool} {after : Int} (r : RestAt h d F ml l0 l1 l2 l3 wv stops after)
    (hs : ∀ k, F k → k < h.size → h'[k]? = h[k]?) (hF : ∀ k, F k → k < h.size → F' k) : RestAt h' d F' ml l0 l1 l2 l3 wv stops after := by
  have lt : ml < h.size := by obtain ⟨es, cl, g, _⟩ := r.sec; exact lt_of_row g
  exact ⟨r.hst, r.haf, r.sec.stays (hs _ r.fml lt), hF _ r.fml lt, r.b0.keeps hs hF, r.b1.keeps hs hF, r.b2.keeps hs hF, r.b3.keeps hs hF, r.steps.keeps hs hF⟩

/-- A disk stays where its blocks do. -/
theorem DiskAt.keeps {h h' : Array Obj} {p m : Nat} {d : D} {F F' : Nat → Prop} (x : DiskAt h p m d F) (hp : h'[p]? = h[p]?) (hm : h'[m]? = h[m]?) (hs : ∀ k, F k → k < h.size → h'[k]? = h[k]?)
    (hF : ∀ k, F k → k < h.size → F' k) (hF' : ∀ k, F' k → F k ∨ h.size ≤ k) : DiskAt h' p m d F' := by
  obtain ⟨ml, l0, l1, l2, l3, wv, stops, after, s, r⟩ := x.parts
  exact DiskAt.of x.ok (s.keeps hp hm hs hF hF') (r.keeps hs hF)

theorem DiskAt.lt {h : Array Obj} {p m : Nat} {d : D} {F : Nat → Prop} (x : DiskAt h p m d F) : p < h.size ∧ m < h.size ∧ m ≠ p ∧ ¬ F p ∧ ¬ F m := by
  obtain ⟨ml, l0, l1, l2, l3, wv, stops, after, ⟨t0, t1, t2, t3, c1, c4, b0, b1, b2, b3, c7, c8, c9⟩, r⟩ := x.parts
  refine ⟨lt_of_row c1, ?_, c9, c8, c7⟩
  obtain ⟨es, cl, g, _⟩ := c4
  exact lt_of_row g

theorem goes_ok {d : D} (h : d.ok) : d.goes.1.ok := by
  have h1 := h.stops
  have h2 := h.stops1
  unfold D.goes
  split
  · exact h
  · split
    · exact ⟨h.many0, h.many1, h.room0, h.room1, h.sec, h.tape, h.waits, by simp, by simp⟩
    · split
      · refine ⟨h.many0, h.many1, h.room0, h.room1, h.sec, h.tape, h.waits, ?_, ?_⟩ <;> simp <;> omega
      · exact h
theorem goes_many (d : D) : d.goes.1.many = d.many := by unfold D.goes; split; rfl; split; rfl; split <;> rfl
theorem goes_room (d : D) : d.goes.1.room = d.room := by unfold D.goes; split; rfl; split; rfl; split <;> rfl
theorem goes_lasts (d : D) : d.goes.1.lasts = d.lasts := by unfold D.goes; split; rfl; split; rfl; split <;> rfl
theorem goes_waits (d : D) : d.goes.1.waits = d.waits := by unfold D.goes; split; rfl; split; rfl; split <;> rfl
theorem goes_stand (d : D) : d.goes.1.stand = d.stand := by unfold D.stand; rw [goes_lasts, goes_waits]

/-- Whether a step goes. -/
theorem goes_c {p m : Nat} {d : D} {F : Nat → Prop} {w : World} (x : DiskAt w.heap p m d F) :
    Calls Tryz.prog 102 #[.pointer (some ⟨p, 0, none⟩)] w fun e w' => e = .returned (.int .i64 d.goes.2) ∧ Moves (fun k => k = p) w w' ∧ w'.heap.size = w.heap.size ∧ DiskAt w'.heap p m d.goes.1 F := by
  have lt := x.lt
  obtain ⟨ml, l0, l1, l2, l3, wv, stops, after, ⟨t0, t1, t2, t3, c1, c4, b0, b1, b2, b3, c7, c8, c9⟩, r⟩ := x.parts
  have hf : ∀ i, w.frozen? ⟨p, i, none⟩ = false := fun i => by simp [World.frozen?, c1]
  have k13 : w.cell? ⟨p, 13, none⟩ = some (.bool d.dead) := by rw [cell_of_row _ _ _ _ _ _ c1]; simp [diskR]
  have k14 : w.cell? ⟨p, 14, none⟩ = some (.bool stops) := by rw [cell_of_row _ _ _ _ _ _ c1]; simp [diskR]
  have k15 : w.cell? ⟨p, 15, none⟩ = some (.int .i64 after) := by rw [cell_of_row _ _ _ _ _ _ c1]; simp [diskR]
  have gen : ∀ (d' : D) (dead' stops' : Bool) (after' : Int) (w' : World), d' = { d with dead := dead', stops := if stops' then after' else -1 } → d'.ok → (stops' = true → 0 ≤ after') →
      Moves (fun k => k = p) w w' → w'.heap.size = w.heap.size → w'.heap[p]? = some (.cells (.map (some m) :: t0 :: t1 :: t2 :: t3 :: diskR ml l0 l1 l2 l3 wv d.many d.room dead' stops' after').toArray tDisk (0, 0)) →
      DiskAt w'.heap p m d' F := by
    intro d' dead' stops' after' w' ed hok ha hm hz hc
    subst ed
    have hs : ∀ k, F k → k < w.heap.size → w'.heap[k]? = w.heap[k]? := fun k hk hl => hm.block k hl (fun e => c8 (e ▸ hk))
    have hF : ∀ k, F k → k < w.heap.size → F k := fun _ h _ => h
    refine DiskAt.of hok (ml := ml) (l0 := l0) (l1 := l1) (l2 := l2) (l3 := l3) (wv := wv) (stops := stops') (after := after') ?_ ?_
    · exact ⟨t0, t1, t2, t3, hc, c4.stays (hm.block m lt.2.1 c9), b0.keeps hs hF, b1.keeps hs hF, b2.keeps hs hF, b3.keeps hs hF, c7, c8, c9⟩
    · have r' := r.keeps (F' := F) hs hF
      exact ⟨rfl, ha, r'.sec, r'.fml, r'.b0, r'.b1, r'.b2, r'.b3, r'.steps⟩
  have hok := goes_ok x.ok
  have hst := r.hst
  cases hd : d.dead
  · rw [hd] at k13
    cases stops
    · have hs1 : d.stops = -1 := by rw [hst]; rfl
      have hg : d.goes = (d, 0) := by simp [D.goes, hd, hs1]
      rw [hg]
      refine (goes_free p w k13 k14).mono ?_
      rintro e w' ⟨rfl, rfl⟩
      exact ⟨rfl, Moves.refl _ _, rfl, x⟩
    · have hs1 : d.stops = after := by rw [hst]; rfl
      have ha := r.haf rfl
      by_cases h0 : after = 0
      · subst h0
        have hg : d.goes = ({ d with dead := true, stops := -1 }, 281) := by simp [D.goes, hd, hs1]
        rw [hg] at hok ⊢
        refine (goes_ends p w k13 k14 k15 (hf _) (hf _)).mono ?_
        rintro e w' ⟨rfl, rfl⟩
        have y1 := heap_setCell_same w p 13 _ tDisk (.bool true) c1
        have y2 := heap_setCell_same _ p 14 _ tDisk (.bool false) y1
        refine ⟨rfl, ⟨rfl, rfl, rfl, by simp, fun k hk hn => ?_⟩, by simp, gen _ true false 0 _ rfl hok (fun h => by cases h) ⟨rfl, rfl, rfl, by simp, fun k hk hn => ?_⟩ (by simp) ?_⟩
        · rw [heap_setCell_other _ _ _ _ hn, heap_setCell_other _ _ _ _ hn]
        · rw [heap_setCell_other _ _ _ _ hn, heap_setCell_other _ _ _ _ hn]
        · rw [y2]; simp [diskR]
      · have hg : d.goes = ({ d with stops := d.stops - 1 }, 0) := by
          have e1 : ¬ after = 0 := h0
          have e2 : after > 0 := by omega
          simp [D.goes, hd, hs1, e1, e2]
        rw [hg] at hok ⊢
        have h63 := x.ok.stops1
        refine (goes_counts p after w k13 k14 k15 (by omega) (by omega) (hf _)).mono ?_
        rintro e w' ⟨rfl, rfl⟩
        have y1 := heap_setCell_same w p 15 _ tDisk (.int .i64 (after - 1)) c1
        refine ⟨rfl, ⟨rfl, rfl, rfl, by simp, fun k hk hn => ?_⟩, by simp, gen _ false true (after - 1) _ ?_ hok (fun _ => by omega) ⟨rfl, rfl, rfl, by simp, fun k hk hn => ?_⟩ (by simp) ?_⟩
        · rw [heap_setCell_other _ _ _ _ hn]
        · rw [hs1]; simp [hd]
        · rw [heap_setCell_other _ _ _ _ hn]
        · rw [y1]; simp [diskR, hd]
  · rw [hd] at k13
    have hg : d.goes = (d, 281) := by simp [D.goes, hd]
    rw [hg]
    refine (goes_dead p w k13).mono ?_
    rintro e w' ⟨rfl, rfl⟩
    exact ⟨rfl, Moves.refl _ _, rfl, x⟩

/-- The cells of a step. -/
def stepL (does part tape w0 w1 w2 str : Value) : List Value := [does, part, tape, w0, w1, w2, str]

theorem StepAt.ones {h : Array Obj} {F : Nat → Prop} {s : Step} {a b c d e f g : Value} (x : StepAt h F s a b c d e f g) : ∀ u ∈ stepL a b c d e f g, u.oneCell' = true := by
  obtain ⟨h1, h2, h3, ⟨ba, h4, _⟩, h5⟩ := x
  subst h1; subst h2; subst h3; subst h4
  rcases h5 with ⟨g1, g2, bn, bx, f1, f2, g3, g4, g5, g6⟩ | ⟨g1, g2, bt, bx, bt', bx', v, f1, f2, f3, f4, g3, g4, g5, g6, g7, g8, g9⟩ | ⟨g1, g2, bt, bn, f1, f2, g3, g4, g5, g6⟩
  exact absurd rfl g3
  all_goals
    subst g2; subst g3; subst g4
    intro u hu
    simp only [stepL, List.mem_cons, List.not_mem_nil, or_false] at hu
    rcases hu with rfl | rfl | rfl | rfl | rfl | rfl | rfl <;> rfl

/-- The raw cells of a row of steps. -/
theorem StepsAt.raw {w : World} {F : Nat → Prop} {v : Value} {l : List Step} (x : StepsAt w.heap F v l) :
    (v = .slice none 0 0 ∧ l = []) ∨ ∃ (b o cap : Nat) (cs : List Value), v = .slice (some ⟨b, o, none⟩) l.length cap ∧ cs.length = l.length * 7 ∧ F b ∧ l.length ≤ cap ∧ cap ≤ 9223372036854775807 ∧ (∀ i y, cs[i]? = some y → w.cell? ⟨b, o + i, none⟩ = some y) ∧ (∀ u ∈ cs, u.oneCell' = true) ∧
      ∀ i s, l[i]? = some s → ∃ d p tp w0 w1 w2 st, cs[i * 7]? = some d ∧ cs[i * 7 + 1]? = some p ∧ cs[i * 7 + 2]? = some tp ∧ cs[i * 7 + 3]? = some w0 ∧ cs[i * 7 + 4]? = some w1 ∧ cs[i * 7 + 5]? = some w2 ∧ cs[i * 7 + 6]? = some st ∧ StepAt w.heap F s d p tp w0 w1 w2 st := by
  rcases x with x | ⟨b, o, cap, c, t, fr, h1, h2, h3, g2, g3, g4⟩
  · exact Or.inl x
  · refine Or.inr ⟨b, o, cap, (List.range (l.length * 7)).map (fun i => (c[o + i]?).getD undef), h1, by simp, g2, h2, h3, ?_, ?_, ?_⟩
    · intro i y hi
      have hlt : i < l.length * 7 := by have := (List.getElem?_eq_some_iff.1 hi).1; simpa using this
      rw [cell_of_row _ _ _ _ _ _ g3]
      simp only [List.getElem?_map, List.getElem?_range hlt, Option.map_some, Option.some.injEq] at hi
      obtain ⟨d, p, tp, w0, w1, w2, st, e0, e1, e2, e3, e4, e5, e6, e7⟩ := g4 (i / 7) l[i / 7] (by rw [List.getElem?_eq_getElem])
      have hmod : i = i / 7 * 7 + i % 7 := by omega
      obtain hr | hr | hr | hr | hr | hr | hr : i % 7 = 0 ∨ i % 7 = 1 ∨ i % 7 = 2 ∨ i % 7 = 3 ∨ i % 7 = 4 ∨ i % 7 = 5 ∨ i % 7 = 6 := by omega
      all_goals
        rw [hr] at hmod
        have hoi : ∀ r, i = i / 7 * 7 + r → c[o + i]? = c[o + i / 7 * 7 + r]? := fun r h => by congr 1; omega
        rw [hoi _ hmod] at hi ⊢
        first
          | (rw [Nat.add_zero, e0] at hi ⊢; rw [← hi]; rfl)
          | (rw [e1] at hi ⊢; rw [← hi]; rfl)
          | (rw [e2] at hi ⊢; rw [← hi]; rfl)
          | (rw [e3] at hi ⊢; rw [← hi]; rfl)
          | (rw [e4] at hi ⊢; rw [← hi]; rfl)
          | (rw [e5] at hi ⊢; rw [← hi]; rfl)
          | (rw [e6] at hi ⊢; rw [← hi]; rfl)
    · intro u hu
      obtain ⟨i, hi, rfl⟩ := List.mem_map.1 hu
      have hlt : i < l.length * 7 := List.mem_range.1 hi
      obtain ⟨d, p, tp, w0, w1, w2, st, e0, e1, e2, e3, e4, e5, e6, e7⟩ := g4 (i / 7) l[i / 7] (by rw [List.getElem?_eq_getElem])
      have ones := e7.ones
      have hmod : i = i / 7 * 7 + i % 7 := by omega
      obtain hr | hr | hr | hr | hr | hr | hr : i % 7 = 0 ∨ i % 7 = 1 ∨ i % 7 = 2 ∨ i % 7 = 3 ∨ i % 7 = 4 ∨ i % 7 = 5 ∨ i % 7 = 6 := by omega
      all_goals
        rw [hr] at hmod
        have hoi : ∀ r, i = i / 7 * 7 + r → c[o + i]? = c[o + i / 7 * 7 + r]? := fun r h => by congr 1; omega
        rw [hoi _ hmod]
        first
          | (rw [Nat.add_zero, e0]; exact ones _ (by simp [stepL]))
          | (rw [e1]; exact ones _ (by simp [stepL]))
          | (rw [e2]; exact ones _ (by simp [stepL]))
          | (rw [e3]; exact ones _ (by simp [stepL]))
          | (rw [e4]; exact ones _ (by simp [stepL]))
          | (rw [e5]; exact ones _ (by simp [stepL]))
          | (rw [e6]; exact ones _ (by simp [stepL]))
    · intro i s hi
      have hlt : i < l.length := (List.getElem?_eq_some_iff.1 hi).1
      obtain ⟨d, p, tp, w0, w1, w2, st, e0, e1, e2, e3, e4, e5, e6, e7⟩ := g4 i s hi
      have at_ : ∀ r, r < 7 → ((List.range (l.length * 7)).map (fun i => (c[o + i]?).getD undef))[i * 7 + r]? = some ((c[o + i * 7 + r]?).getD undef) := by
        intro r hr
        rw [List.getElem?_map, List.getElem?_range (by omega)]
        simp [Nat.add_assoc]
      refine ⟨d, p, tp, w0, w1, w2, st, ?_, ?_, ?_, ?_, ?_, ?_, ?_, e7⟩
      · have := at_ 0 (by omega); rw [Nat.add_zero, Nat.add_zero, e0] at this; exact this
      · rw [at_ 1 (by omega), e1]; rfl
      · rw [at_ 2 (by omega), e2]; rfl
      · rw [at_ 3 (by omega), e3]; rfl
      · rw [at_ 4 (by omega), e4]; rfl
      · rw [at_ 5 (by omega), e5]; rfl
      · rw [at_ 6 (by omega), e6]; rfl

end Go.Proofs.YtgffifleflkjoaaGreat

namespace Go.Proofs.YtgffifleflkjoaaGreat
open Go.RowKit Dm

theorem StepAt.fn {h : Array Obj} {F : Nat → Prop} {s : Step} {a b c d e f g : Value} (x : StepAt h F s a b c d e f g) :
    ∃ fn lb, a = .func (.func fn) #[] lb ∧ (∀ args w, (callFunc fn args).run Tryz.prog w = .ok (.enter fn args) w) := by
  obtain ⟨h1, h2, h3, h4, h5⟩ := x
  rcases h5 with ⟨g1, g2, bn, bx, f1, f2, g3, g4, g5, g6⟩ | ⟨g1, g2, bt, bx, bt', bx', v, f1, f2, f3, f4, g3, g4, g5, g6, g7, g8, g9⟩ | ⟨g1, g2, bt, bn, f1, f2, g3, g4, g5, g6⟩
  · exact absurd rfl g3
  · exact ⟨_, _, g3, enters_of Tryz.func142 (by kernel_rfl) rfl⟩
  · exact ⟨_, _, g3, enters_of Tryz.func122 (by kernel_rfl) rfl⟩

theorem owns_below {X Y : World} {base base' : Nat} {e : TypeId} {size n : Nat} {v : Value} {xs : List Value} (h : X.ownsRow base e size v n xs) (hb : Below X.heap.size X Y) (hl : base' ≤ base) : Y.ownsRow base' e size v n xs := by
  obtain ⟨h0, h⟩ := h
  refine ⟨h0, ?_⟩
  rcases h with h | ⟨g, cap, cur, h1, h2, h3, h4, h5, h6, h7⟩
  · exact Or.inl h
  · exact Or.inr ⟨g, cap, cur, h1, Nat.le_trans hl h2, (hb.block g (lt_of_row h3)).trans h3, h4, h5, h6, h7⟩

theorem clones_all {W X : World} {n : Nat} {wv : Value} {cs : List Value} (hn : n ≤ 1000000000000) (hcs : cs.length = n * 7) (h1 : ∀ u ∈ cs, u.oneCell' = true)
    (hw : (wv = .slice none 0 0 ∧ n = 0) ∨ ∃ b o cap, wv = .slice (some ⟨b, o, none⟩) n cap ∧ ∀ i y, cs[i]? = some y → W.cell? ⟨b, o + i, none⟩ = some y) (hb : Below W.heap.size W X) :
    Calls Tryz.prog 141 #[wv] X fun e w' => ∃ v', e = .returned v' ∧ Below X.heap.size X w' ∧ w'.ownsRow W.heap.size tStep 7 v' n cs := by
  rcases hw with ⟨rfl, rfl⟩ | ⟨b, o, cap, rfl, hc⟩
  · refine (clones_nil X).mono ?_
    rintro e w' ⟨rfl, rfl⟩
    exact ⟨_, rfl, Below.refl _ _, by simpa using hcs, Or.inl ⟨rfl, rfl⟩⟩
  · refine (clones_some b o n cap cs X (by omega) hcs (fun i y hi => ?_) h1).mono ?_
    · have := hc i y hi
      exact (hb.cell (p := ⟨b, o + i, none⟩) (block_lt_of_cell this)).trans this
    · rintro e w' ⟨v', rfl, h2, h3⟩
      exact ⟨v', rfl, h2, owns_below h3 (Below.refl _ _) hb.size⟩

theorem infoStep1 : (Tryz.prog.info? tStep).map (·.size) = some 7 := by kernel_rfl

set_option maxRecDepth 100000 in
theorem step_dead (p : Nat) (c : Int) (a0 a1 a2 a3 a4 a5 a6 : Value) (w : World) (R : World → Prop) (hc : c = 281)
    (hg : Calls Tryz.prog 102 #[.pointer (some ⟨p, 0, none⟩)] (w.alloc (.cells #[a0, a1, a2, a3, a4, a5, a6] tStep)) fun e w' => e = .returned (.int .i64 c) ∧ R w') :
    Calls Tryz.prog 99 #[.pointer (some ⟨p, 0, none⟩), .agg #[a0, a1, a2, a3, a4, a5, a6]] w fun e w' => e = .returned (.int .i64 281) ∧ R w' := by
  subst hc
  have HG := Lib.hid hg
  clear hg
  go_enter Tryz.func99, Tryz.ntmps99
  go_wp2_with (go_at_call 102; refine HG.out.mono ?_; rintro e w' ⟨rfl, hr⟩)
  go_ret
  exact ⟨rfl, hr⟩

set_option maxRecDepth 100000 in
set_option maxHeartbeats 4000000 in
theorem step_live (p fn : Nat) (lb : Array Value) (a1 a2 a3 a4 a5 a6 : Value) (w : World) (R1 : World → Prop) (R2 : World → World → Prop) (eg : ∀ args w, (callFunc fn args).run Tryz.prog w = .ok (.enter fn args) w)
    (n : Nat) (hn : n ≤ 1000000000000) (KK : World → List Value → Prop) (h2 : ∀ u ∈ stepL (.func (.func fn) #[] lb) a1 a2 a3 a4 a5 a6, u.oneCell' = true)
    (hg : Calls Tryz.prog 102 #[.pointer (some ⟨p, 0, none⟩)] (w.alloc (.cells #[.func (.func fn) #[] lb, a1, a2, a3, a4, a5, a6] tStep)) fun e w' => e = .returned (.int .i64 0) ∧ R1 w')
    (hr1 : ∀ W1, R1 W1 → W1.heap[w.heap.size]? = some (.cells #[.func (.func fn) #[] lb, a1, a2, a3, a4, a5, a6] tStep (0, 0)) ∧
      Calls Tryz.prog fn (#[.pointer (some ⟨p, 0, none⟩)] ++ lb) W1.drew fun e w' => e = .returned (.tuple #[]) ∧ R2 W1 w')
    (hr2 : ∀ W1 W2, R1 W1 → R2 W1 W2 → W2.heap[w.heap.size]? = some (.cells #[.func (.func fn) #[] lb, a1, a2, a3, a4, a5, a6] tStep (0, 0)) ∧ ∃ wv cs, KK W2 cs ∧ cs.length = n * 7 ∧ (∀ u ∈ cs, u.oneCell' = true) ∧ W2.cell? ⟨p, 10, none⟩ = some wv ∧ W2.frozen? ⟨p, 10, none⟩ = false ∧
      ((wv = .slice none 0 0 ∧ n = 0) ∨ ∃ b o cap, wv = .slice (some ⟨b, o, none⟩) n cap ∧ ∀ i y, cs[i]? = some y → W2.cell? ⟨b, o + i, none⟩ = some y)) :
    Calls Tryz.prog 99 #[.pointer (some ⟨p, 0, none⟩), .agg #[.func (.func fn) #[] lb, a1, a2, a3, a4, a5, a6]] w fun e w' => e = .returned (.int .i64 0) ∧
      ∃ W1 W2 W4 v cs, R1 W1 ∧ R2 W1 W2 ∧ KK W2 cs ∧ Below W2.heap.size W2 W4 ∧ W4.ownsRow W2.heap.size tStep 7 v (n + 1) (cs ++ stepL (.func (.func fn) #[] lb) a1 a2 a3 a4 a5 a6) ∧ w' = W4.setCell ⟨p, 10, none⟩ v := by
  obtain ⟨i0, hi, hz0, hz1, hz2⟩ := info_parts infoStep
  have HI := Lib.hid (And.intro hi (And.intro hz0 (And.intro hz1 hz2)))
  clear hi hz0 hz1 hz2
  have HG := Lib.hid hg
  have HR1 := Lib.hid hr1
  have HR2 := Lib.hid hr2
  clear hg hr1 hr2
  go_enter Tryz.func99, Tryz.ntmps99
  go_wp2_with (go_at_call 102; refine HG.out.mono ?_; rintro e W1 ⟨rfl, q1⟩)
  have Q1 := Lib.hid q1
  obtain ⟨r1, r2⟩ := HR1.out W1 q1
  clear q1
  have R1' := Lib.hid r2
  clear r2
  have f0 : ∀ x : Wd (fun w' => w' = W1.drew), x.world.cell? ⟨w.heap.size, 0, none⟩ = some (.func (.func fn) #[] lb) := fun x => by rw [x.ok]; exact (cell_of_row W1 _ _ _ _ _ r1).trans rfl
  clear r1
  have ne : Nonempty (Wd (fun w' => w' = W1.drew)) := ⟨⟨_, rfl⟩⟩
  refine wp_region_hoist (fun w' => ∃ x : Wd (fun w' => w' = W1.drew), w' = x.world) [5] (by kernel_rfl) ?_
  refine wpAnyI_reads [0, 1, 2, 3, 4] 1 _ ⟨⟨_, rfl⟩, rfl⟩ (by kernel_rfl) ?_
  simp only [List.filterMap_cons, List.filterMap_nil, List.getElem?_toArray, List.getElem?_cons_succ, List.getElem?_cons_zero]
  repeat (refine wpHoist_step (fun K hK => ?_); simp only [hoists, sameUpon]; go_simp; refine hK _ ?_; clear hK K)
  refine wpHoist_nil ?_
  refine wpAnyI_one 5 0 _ _ rfl (by kernel_rfl) ?_
  refine wpList_plain rfl fun K hK => ?_
  go_simp
  refine R1'.out.mono ?_
  rintro e W2 ⟨rfl, q2⟩
  refine hK _ _ (wpList_nil ⟨rfl, fun h => absurd (by decide) h, by kernel_rfl, ?_⟩)
  clear hK K
  clear f0 ne R1'
  obtain ⟨r3, wv, cs, hkk, hcs, h1, r4, r5, r6⟩ := HR2.out W1 W2 Q1.out q2
  have H12 := Lib.hid (And.intro h1 h2)
  have HN := Lib.hid (And.intro hcs hn)
  have HK2 := Lib.hid hkk
  clear h1 h2 hcs hn hkk
  have Q2 := Lib.hid q2
  clear q2
  have lp := block_lt_of_cell r4
  simp only at lp
  have lg : w.heap.size < W2.heap.size := lt_of_row r3
  have f1 : ∀ x : Wd (Below W2.heap.size W2), x.world.cell? ⟨p, 10, none⟩ = some wv := fun x => (x.ok.cell (p := ⟨p, 10, none⟩) lp).trans r4
  have ld : ∀ w', (∃ x : Wd (Below W2.heap.size W2), w' = x.world) → (Instr.loadAt tStep (.pointer (some ⟨w.heap.size, 0, none⟩))).run Tryz.prog w' = .ok (.agg #[.func (.func fn) #[] lb, a1, a2, a3, a4, a5, a6]) w' := by
    rintro w' ⟨x, rfl⟩
    exact run_loadAt_row ((x.ok.block _ lg).trans r3) Tryz.underlying115 rfl (by rw [infoStep1]; rfl)
  have LD := Lib.hid ld
  have R6 := Lib.hid r6
  have R45 := Lib.hid (And.intro r4 r5)
  clear ld r3 r4 r5 r6
  have ne : Nonempty (Wd (Below W2.heap.size W2)) := ⟨⟨_, Below.refl _ _⟩⟩
  go_wp2
  refine wp_region_hoist (fun w' => ∃ x : Wd (Below W2.heap.size W2), w' = x.world) [11] (by kernel_rfl) ?_
  refine wpAnyI_reads [0, 1, 2, 3, 4, 6] 6 _ ⟨⟨_, (Below.refl _ _).drew⟩, rfl⟩ (by kernel_rfl) ?_
  simp only [List.filterMap_cons, List.filterMap_nil, List.getElem?_toArray, List.getElem?_cons_succ, List.getElem?_cons_zero]
  repeat (refine wpHoist_step (fun K hK => ?_); simp only [hoists, sameUpon]; go_simp; refine hK _ ?_; clear hK K)
  refine wpHoist_load_run rfl tStep (.tmp 3) rfl _ LD.out ?_
  refine wpHoist_nil ?_
  have CL := Lib.hid (fun X (hb : Below W2.heap.size W2 X) => clones_all HN.out.2 HN.out.1 H12.out.1 R6.out hb)
  refine wpAnyI_two 5 7 5 _ _ _ rfl rfl (by kernel_rfl) ?_ ?_
  · refine wpList_plain rfl fun K hK => ?_
    go_simp
    go_at_call 141
    refine (CL.out W2.drew (Below.refl _ _).drew).mono ?_
    rintro e X1 ⟨v', rfl, b1, o1⟩
    have B1 : Below W2.heap.size W2 X1 := (Below.refl _ _).drew.trans b1
    refine hK _ _ (wpList_nil ⟨rfl, fun _ => ⟨⟨_, B1⟩, rfl⟩, ?_⟩)
    clear hK K
    refine wpAnyI_one 7 4 _ _ rfl (by kernel_rfl) ?_
    refine wpList_plain rfl fun K hK => ?_
    go_simp
    have hg : (X1.alloc (.cells #[.func (.func fn) #[] lb, a1, a2, a3, a4, a5, a6] tStep)).heap[X1.heap.size]? = some (.cells #[.func (.func fn) #[] lb, a1, a2, a3, a4, a5, a6] tStep (0, 0)) := heap_alloc_last _ _
    have hlt := B1.size
    have B3 : Below W2.heap.size W2 (X1.alloc (.cells #[.func (.func fn) #[] lb, a1, a2, a3, a4, a5, a6] tStep)) := B1.alloc hlt _
    have O3 := Lib.hid (owns_below o1 ((Below.refl _ _).alloc (Nat.le_refl _) (.cells #[.func (.func fn) #[] lb, a1, a2, a3, a4, a5, a6] tStep)) (Nat.le_refl _))
    refine hK _ _ (wpList_nil ⟨rfl, fun _ => ⟨⟨_, B3⟩, rfl⟩, ?_⟩)
    clear hK K
    have HG3 := Lib.hid hg
    clear o1 b1 B1 hg
    generalize X1.alloc (.cells #[.func (.func fn) #[] lb, a1, a2, a3, a4, a5, a6] tStep) = W3 at B3 O3 HG3 ⊢
    generalize X1.heap.size = gb at HG3 hlt ⊢
    refine wpAnyI_one 8 3 _ _ rfl (by kernel_rfl) ?_
    refine wpList_append_own _ rfl (.tmp 22) (.tmp 24) 93 rfl W2.heap.size tStep i0 step0 7 64 Tryz.underlying93 HI.out.1 HI.out.2.1 HI.out.2.2.1 HI.out.2.2.2 rfl (by decide) _ n cs rfl O3.out ⟨gb, 0, none⟩ 1 1 (stepL (.func (.func fn) #[] lb) a1 a2 a3 a4 a5 a6) rfl rfl
      (fun j u hj => by rw [addr_add, cell_of_row _ _ _ _ _ _ HG3.out, Nat.zero_add, List.getElem?_toArray]; exact hj) H12.out.2 (by unfold maxLen; have := HN.out.2; omega) (by have := HN.out.2; omega) B3.size ?_
    intro v2 W4 own4 grow4 _
    have B4 : Below W2.heap.size W2 W4 := B3.grown grow4 B3.size (fun k e => by
      rcases O3.out.2 with ⟨h, _⟩ | ⟨g, cap, cur, h, hg, _⟩
      · rw [h] at e; cases e
      · rw [h] at e; cases e; exact hg)
    obtain ⟨g4, c4, rfl⟩ := own_pos own4 (by omega)
    have OW4 := Lib.hid own4
    have k4 : W4.cell? ⟨p, 10, none⟩ = some wv := (B4.cell (p := ⟨p, 10, none⟩) lp).trans R45.out.1
    have k5 : W4.frozen? ⟨p, 10, none⟩ = false := (B4.frozen (p := ⟨p, 10, none⟩) lp).trans R45.out.2
    clear own4 grow4 O3 HG3 hlt
    refine wpList_nil ⟨rfl, fun _ => ⟨⟨_, B4⟩, rfl⟩, ?_⟩
    refine wpAnyI_reads [9, 10] 1 _ ⟨⟨_, B4⟩, rfl⟩ (by kernel_rfl) ?_
    simp only [List.filterMap_cons, List.filterMap_nil, List.getElem?_toArray, List.getElem?_cons_succ, List.getElem?_cons_zero]
    repeat (refine wpHoist_step (fun K hK => ?_); simp only [hoists, sameUpon]; go_simp; refine hK _ ?_; clear hK K)
    refine wpHoist_nil ?_
    refine wpAnyI_one 11 0 _ _ rfl (by kernel_rfl) ?_
    refine wpList_plain rfl fun K hK => ?_
    go_simp
    refine hK _ _ (wpList_nil ⟨rfl, fun h => absurd (by decide) h, by kernel_rfl, ?_⟩)
    clear hK K
    go_wp2
    go_ret
    exact ⟨rfl, W1, W2, W4, _, cs, Q1.out, Q2.out, HK2.out, B4, OW4.out, rfl⟩
  · refine wpList_plain rfl fun K hK => ?_
    go_simp
    have hg : (W2.alloc (.cells #[.func (.func fn) #[] lb, a1, a2, a3, a4, a5, a6] tStep)).heap[W2.heap.size]? = some (.cells #[.func (.func fn) #[] lb, a1, a2, a3, a4, a5, a6] tStep (0, 0)) := heap_alloc_last _ _
    have B1 : Below W2.heap.size W2 (W2.alloc (.cells #[.func (.func fn) #[] lb, a1, a2, a3, a4, a5, a6] tStep)).drew := ((Below.refl _ _).alloc (Nat.le_refl _) _).drew
    refine hK _ _ (wpList_nil ⟨rfl, fun _ => ⟨⟨_, B1⟩, rfl⟩, ?_⟩)
    clear hK K
    refine wpAnyI_one 5 4 _ _ rfl (by kernel_rfl) ?_
    refine wpList_plain rfl fun K hK => ?_
    go_simp
    go_at_call 141
    refine (CL.out _ B1).mono ?_
    rintro e W3 ⟨v', rfl, b1, o1⟩
    have B3 : Below W2.heap.size W2 W3 := B1.trans (b1.mono B1.size)
    refine hK _ _ (wpList_nil ⟨rfl, fun _ => ⟨⟨_, B3⟩, rfl⟩, ?_⟩)
    clear hK K
    have O3 := Lib.hid o1
    have HG3 := Lib.hid ((b1.block W2.heap.size (by simp)).trans hg)
    have hlt : W2.heap.size ≤ W2.heap.size := Nat.le_refl _
    clear o1 b1 B1 hg
    refine wpAnyI_one 8 3 _ _ rfl (by kernel_rfl) ?_
    refine wpList_append_own _ rfl (.tmp 22) (.tmp 24) 93 rfl W2.heap.size tStep i0 step0 7 64 Tryz.underlying93 HI.out.1 HI.out.2.1 HI.out.2.2.1 HI.out.2.2.2 rfl (by decide) _ n cs rfl O3.out ⟨W2.heap.size, 0, none⟩ 1 1 (stepL (.func (.func fn) #[] lb) a1 a2 a3 a4 a5 a6) rfl rfl
      (fun j u hj => by rw [addr_add, cell_of_row _ _ _ _ _ _ HG3.out, Nat.zero_add, List.getElem?_toArray]; exact hj) H12.out.2 (by unfold maxLen; have := HN.out.2; omega) (by have := HN.out.2; omega) B3.size ?_
    intro v2 W4 own4 grow4 _
    have B4 : Below W2.heap.size W2 W4 := B3.grown grow4 B3.size (fun k e => by
      rcases O3.out.2 with ⟨h, _⟩ | ⟨g, cap, cur, h, hg, _⟩
      · rw [h] at e; cases e
      · rw [h] at e; cases e; exact hg)
    obtain ⟨g4, c4, rfl⟩ := own_pos own4 (by omega)
    have OW4 := Lib.hid own4
    have k4 : W4.cell? ⟨p, 10, none⟩ = some wv := (B4.cell (p := ⟨p, 10, none⟩) lp).trans R45.out.1
    have k5 : W4.frozen? ⟨p, 10, none⟩ = false := (B4.frozen (p := ⟨p, 10, none⟩) lp).trans R45.out.2
    clear own4 grow4 O3 HG3 hlt
    refine wpList_nil ⟨rfl, fun _ => ⟨⟨_, B4⟩, rfl⟩, ?_⟩
    refine wpAnyI_reads [9, 10] 1 _ ⟨⟨_, B4⟩, rfl⟩ (by kernel_rfl) ?_
    simp only [List.filterMap_cons, List.filterMap_nil, List.getElem?_toArray, List.getElem?_cons_succ, List.getElem?_cons_zero]
    repeat (refine wpHoist_step (fun K hK => ?_); simp only [hoists, sameUpon]; go_simp; refine hK _ ?_; clear hK K)
    refine wpHoist_nil ?_
    refine wpAnyI_one 11 0 _ _ rfl (by kernel_rfl) ?_
    refine wpList_plain rfl fun K hK => ?_
    go_simp
    refine hK _ _ (wpList_nil ⟨rfl, fun h => absurd (by decide) h, by kernel_rfl, ?_⟩)
    clear hK K
    go_wp2
    go_ret
    exact ⟨rfl, W1, W2, W4, _, cs, Q1.out, Q2.out, HK2.out, B4, OW4.out, rfl⟩

end Go.Proofs.YtgffifleflkjoaaGreat
