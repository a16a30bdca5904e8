/-
  What stands, in memory, and what a step makes of it.
  What a step does, whole or in part.
  A disk in memory: its parts; whether a step goes; rows of steps.
-/
import Derived.Test.YtgffifleflkjoaaGreatG04

namespace Go.Proofs.YtgffifleflkjoaaGreat
open Go.RowKit Dm

theorem BytesAt.keeps {h h' : Array Obj} {F F' : Nat → Prop} {v : Value} {l : List UInt8} (x : BytesAt h F v l) (hs : ∀ k, F k → k < h.size → h'[k]? = h[k]?) (hF : ∀ k, F k → k < h.size → F' k) : BytesAt h' F' v l := by
  rcases x with x | ⟨b, o, cap, c, t, fr, h1, h2, h3, g2, g3, g4⟩
  · exact Or.inl x
  · have lt := (Array.getElem?_eq_some_iff.1 g3).1
    exact Or.inr ⟨b, o, cap, c, t, fr, h1, h2, h3, hF _ g2 lt, (hs _ g2 lt).trans g3, g4⟩

theorem lt_of_row {h : Array Obj} {b : Nat} {o : Obj} (g : h[b]? = some o) : b < h.size := (Array.getElem?_eq_some_iff.1 g).1

theorem StepAt.keeps {h h' : Array Obj} {F F' : Nat → Prop} {s : Step} {a b c d e f g : Value} (x : StepAt h F s a b c d e f g) (hs : ∀ k, F k → k < h.size → h'[k]? = h[k]?) (hF : ∀ k, F k → k < h.size → F' k) : StepAt h' F' s a b c d e f g := by
  obtain ⟨h1, h2, h3, h4, h5⟩ := x
  refine ⟨h1, h2, h3, h4, ?_⟩
  rcases h5 with ⟨g1, g2, bn, bx, f1, f2, g3, g4, g5, g6⟩ | ⟨g1, g2, bt, bx, bt', bx', v, f1, f2, f3, f4, g3, g4, g5, g6, g7, g8, g9⟩ | ⟨g1, g2, bt, bn, f1, f2, g3, g4, g5, g6⟩
  · exact Or.inl ⟨g1, g2, bn, bx, hF _ f1 (lt_of_row g5), hF _ f2 (lt_of_row g6), g3, g4, (hs _ f1 (lt_of_row g5)).trans g5, (hs _ f2 (lt_of_row g6)).trans g6⟩
  · exact Or.inr (Or.inl ⟨g1, g2, bt, bx, bt', bx', v, hF _ f1 (lt_of_row g5), hF _ f2 (lt_of_row g7), hF _ f3 (lt_of_row g6), hF _ f4 (lt_of_row g8), g3, g4, (hs _ f1 (lt_of_row g5)).trans g5, (hs _ f3 (lt_of_row g6)).trans g6, (hs _ f2 (lt_of_row g7)).trans g7, (hs _ f4 (lt_of_row g8)).trans g8, g9.keeps hs hF⟩)
  · exact Or.inr (Or.inr ⟨g1, g2, bt, bn, hF _ f1 (lt_of_row g5), hF _ f2 (lt_of_row g6), g3, g4, (hs _ f1 (lt_of_row g5)).trans g5, (hs _ f2 (lt_of_row g6)).trans g6⟩)

theorem StepsAt.keeps {h h' : Array Obj} {F F' : Nat → Prop} {v : Value} {l : List Step} (x : StepsAt h F v l) (hs : ∀ k, F k → k < h.size → h'[k]? = h[k]?) (hF : ∀ k, F k → k < h.size → F' k) : StepsAt h' F' v l := by
  rcases x with x | ⟨b, o, cap, c, t, fr, h1, h2, h3, g2, g3, g4⟩
  · exact Or.inl x
  · refine Or.inr ⟨b, o, cap, c, t, fr, h1, h2, h3, hF _ g2 (lt_of_row g3), (hs _ g2 (lt_of_row g3)).trans g3, fun i s hi => ?_⟩
    obtain ⟨d, p, tp, w0, w1, w2, st, e0, e1, e2, e3, e4, e5, e6, e7⟩ := g4 i s hi
    exact ⟨d, p, tp, w0, w1, w2, st, e0, e1, e2, e3, e4, e5, e6, e7.keeps hs hF⟩

/-- What stands, in the first five cells of a block. -/
def StandAt (h : Array Obj) (q m : Nat) (x : St) (F : Nat → Prop) (ty : TypeId) (rest : List Value) : Prop :=
  ∃ t0 t1 t2 t3, h[q]? = some (.cells (.map (some m) :: t0 :: t1 :: t2 :: t3 :: rest).toArray ty (0, 0)) ∧ SecMap h m x.sec ∧
    BytesAt h F t0 (x.tp 0) ∧ BytesAt h F t1 (x.tp 1) ∧ BytesAt h F t2 (x.tp 2) ∧ BytesAt h F t3 (x.tp 3) ∧ ¬ F m ∧ ¬ F q ∧ m ≠ q

theorem StandAt.keeps {h h' : Array Obj} {q m : Nat} {x : St} {F F' : Nat → Prop} {ty : TypeId} {rest : List Value} (s : StandAt h q m x F ty rest) (hq : h'[q]? = h[q]?) (hm : h'[m]? = h[m]?) (hs : ∀ k, F k → k < h.size → h'[k]? = h[k]?)
    (hF : ∀ k, F k → k < h.size → F' k) (hF' : ∀ k, F' k → F k ∨ h.size ≤ k) : StandAt h' q m x F' ty rest := by
  obtain ⟨t0, t1, t2, t3, c1, c2, b0, b1, b2, b3, n1, n2, n3⟩ := s
  have lq := lt_of_row c1
  have lm : m < h.size := by obtain ⟨es, cl, g, _⟩ := c2; exact lt_of_row g
  refine ⟨t0, t1, t2, t3, hq.trans c1, c2.stays hm, b0.keeps hs hF, b1.keeps hs hF, b2.keeps hs hF, b3.keeps hs hF, fun k => ?_, fun k => ?_, n3⟩
  · rcases hF' _ k with k | k
    · exact n1 k
    · omega
  · rcases hF' _ k with k | k
    · exact n2 k
    · omega

/-- The footprint has grown by blocks that were made. -/
structure Grows (F F' : Nat → Prop) (w w' : World) : Prop where
  old : ∀ k, F k → k < w.heap.size → F' k
  new : ∀ k, F' k → F k ∨ (w.heap.size ≤ k ∧ k < w'.heap.size)

/-- F, and what was made between. -/
def plus (F : Nat → Prop) (w w' : World) : Nat → Prop := fun k => F k ∨ (w.heap.size ≤ k ∧ k < w'.heap.size)
theorem grows_plus (F : Nat → Prop) (w w' : World) : Grows F (plus F w w') w w' := ⟨fun _ h _ => Or.inl h, fun _ h => h⟩

theorem Grows.refl (F : Nat → Prop) (w : World) (w' : World) : Grows F F w w' := ⟨fun _ h _ => h, fun _ h => Or.inl h⟩

theorem Grows.trans {F F' F'' : Nat → Prop} {a b c : World} (h : Grows F F' a b) (k : Grows F' F'' b c) (ha : a.heap.size ≤ b.heap.size) (hb : b.heap.size ≤ c.heap.size) : Grows F F'' a c :=
  ⟨fun i h1 h2 => k.old i (h.old i h1 h2) (by omega), fun i h1 => by
    rcases k.new i h1 with h1 | h1
    · rcases h.new i h1 with h1 | h1
      · exact Or.inl h1
      · exact Or.inr ⟨h1.1, by omega⟩
    · exact Or.inr ⟨by omega, h1.2⟩⟩

/-- What has been done to what stands at q, whose map is m. -/
structure Did (w : World) (q m : Nat) (x : St) (F : Nat → Prop) (ty : TypeId) (rest : List Value) (e : Ending) (w' : World) : Prop where
  ret : e = .returned (.tuple #[])
  moves : Moves (fun k => k = q ∨ k = m) w w'
  stand : StandAt w'.heap q m x (plus F w w') ty rest

theorem four {P : Nat → Prop} {t : Nat} (ht : t < 4) (h0 : P 0) (h1 : P 1) (h2 : P 2) (h3 : P 3) : P t := by
  obtain rfl | rfl | rfl | rfl : t = 0 ∨ t = 1 ∨ t = 2 ∨ t = 3 := by omega
  all_goals assumption

/-- One tape's cell is written. -/
theorem stand_tape {w w1 : World} {q m : Nat} {x : St} {F : Nat → Prop} {ty : TypeId} {rest : List Value} (s : StandAt w.heap q m x F ty rest) (t : Nat) (ht : t < 4) (l : List UInt8) (v : Value) (hb : Below w.heap.size w w1)
    (hv : BytesAt w1.heap (fun k => F k ∨ w.heap.size ≤ k) v l) :
    StandAt (w1.setCell ⟨q, 1 + t, none⟩ v).heap q m { x with tp := upd x.tp t l } (plus F w (w1.setCell ⟨q, 1 + t, none⟩ v)) ty rest ∧ Moves (fun k => k = q ∨ k = m) w (w1.setCell ⟨q, 1 + t, none⟩ v) := by
  have hsz : (w1.setCell ⟨q, 1 + t, none⟩ v).heap.size = w1.heap.size := by simp
  obtain ⟨t0, t1, t2, t3, c1, c2, b0, b1, b2, b3, n1, n2, n3⟩ := s
  have lq := lt_of_row c1
  have lm : m < w.heap.size := by obtain ⟨es, cl, g, _⟩ := c2; exact lt_of_row g
  have hq := heap_setCell_same w1 q (1 + t) _ ty v ((hb.block q lq).trans c1)
  have ho : ∀ k, k ≠ q → (w1.setCell ⟨q, 1 + t, none⟩ v).heap[k]? = w1.heap[k]? := fun k hk => heap_setCell_other w1 _ k v hk
  have st : ∀ {u : Value} {y : List UInt8}, BytesAt w.heap F u y → BytesAt (w1.setCell ⟨q, 1 + t, none⟩ v).heap (plus F w (w1.setCell ⟨q, 1 + t, none⟩ v)) u y := fun h =>
    h.keeps (fun k hk hl => (ho k (fun e => n2 (e ▸ hk))).trans (hb.block k hl)) (fun k hk _ => Or.inl hk)
  have sv : BytesAt (w1.setCell ⟨q, 1 + t, none⟩ v).heap (plus F w (w1.setCell ⟨q, 1 + t, none⟩ v)) v l :=
    hv.keeps (fun k hk hl => ho k (fun e => by rcases hk with hk | hk; exact n2 (e ▸ hk); omega)) (fun k hk hl => by
      rcases hk with hk | hk
      · exact Or.inl hk
      · exact Or.inr ⟨hk, by rw [hsz]; exact hl⟩)
  refine ⟨?_, ⟨hb.os, hb.tape, hb.output, by rw [hsz]; exact hb.size, fun k hk hn => (ho k (fun e => hn (Or.inl e))).trans (hb.block k hk)⟩⟩
  have nm : ¬ plus F w (w1.setCell ⟨q, 1 + t, none⟩ v) m := fun k => by rcases k with k | k; exact n1 k; omega
  have nq : ¬ plus F w (w1.setCell ⟨q, 1 + t, none⟩ v) q := fun k => by rcases k with k | k; exact n2 k; omega
  have sm : SecMap (w1.setCell ⟨q, 1 + t, none⟩ v).heap m x.sec := c2.stays ((ho m n3).trans (hb.block m lm))
  obtain rfl | rfl | rfl | rfl : t = 0 ∨ t = 1 ∨ t = 2 ∨ t = 3 := by omega
  · exact ⟨v, t1, t2, t3, hq.trans (by simp), sm, sv, st b1, st b2, st b3, nm, nq, n3⟩
  · exact ⟨t0, v, t2, t3, hq.trans (by simp), sm, st b0, sv, st b2, st b3, nm, nq, n3⟩
  · exact ⟨t0, t1, v, t3, hq.trans (by simp), sm, st b0, st b1, sv, st b3, nm, nq, n3⟩
  · exact ⟨t0, t1, t2, v, hq.trans (by simp), sm, st b0, st b1, st b2, sv, nm, nq, n3⟩

/-- A sector's entry is written. -/
theorem stand_sec {w w' : World} {q m : Nat} {x : St} {F : Nat → Prop} {ty : TypeId} {rest : List Value} (s : StandAt w.heap q m x F ty rest) (f : Int → List UInt8) (hm : SecMap w'.heap m f) (hv : Moves (fun i => i = m) w w') :
    StandAt w'.heap q m { x with sec := f } (plus F w w') ty rest ∧ Moves (fun k => k = q ∨ k = m) w w' := by
  refine ⟨?_, hv.mono (fun _ => Or.inr)⟩
  obtain ⟨t0, t1, t2, t3, c1, c2, b0, b1, b2, b3, n1, n2, n3⟩ := s
  have lq := lt_of_row c1
  have lm : m < w.heap.size := by obtain ⟨es, cl, g, _⟩ := c2; exact lt_of_row g
  have st : ∀ {u : Value} {y : List UInt8}, BytesAt w.heap F u y → BytesAt w'.heap (plus F w w') u y := fun h =>
    h.keeps (fun k hk hl => hv.block k hl (fun e => n1 (e ▸ hk))) (fun k hk _ => Or.inl hk)
  refine ⟨t0, t1, t2, t3, (hv.block q lq (fun e => n3 e.symm)).trans c1, hm, st b0, st b1, st b2, st b3, fun k => ?_, fun k => ?_, n3⟩
  · rcases k with k | k
    · exact n1 k
    · omega
  · rcases k with k | k
    · exact n2 k
    · omega

/-- The cells of what stands. -/
theorem StandAt.cell {w : World} {q m : Nat} {x : St} {F : Nat → Prop} {ty : TypeId} {rest : List Value} (s : StandAt w.heap q m x F ty rest) :
    w.cell? ⟨q, 0, none⟩ = some (.map (some m)) ∧ ∀ t : Nat, t < 4 → ∃ v, w.cell? ⟨q, 1 + t, none⟩ = some v ∧ w.frozen? ⟨q, 1 + t, none⟩ = false ∧ BytesAt w.heap F v (x.tp t) := by
  obtain ⟨t0, t1, t2, t3, c1, c2, b0, b1, b2, b3, n1, n2, n3⟩ := s
  refine ⟨by rw [cell_of_row _ _ _ _ _ _ c1]; simp, fun t ht => ?_⟩
  have hf : ∀ i, w.frozen? ⟨q, i, none⟩ = false := fun i => by simp [World.frozen?, c1]
  obtain rfl | rfl | rfl | rfl : t = 0 ∨ t = 1 ∨ t = 2 ∨ t = 3 := by omega
  · exact ⟨t0, by rw [cell_of_row _ _ _ _ _ _ c1]; simp, hf _, b0⟩
  · exact ⟨t1, by rw [cell_of_row _ _ _ _ _ _ c1]; simp, hf _, b1⟩
  · exact ⟨t2, by rw [cell_of_row _ _ _ _ _ _ c1]; simp, hf _, b2⟩
  · exact ⟨t3, by rw [cell_of_row _ _ _ _ _ _ c1]; simp, hf _, b3⟩

end Go.Proofs.YtgffifleflkjoaaGreat

namespace Go.Proofs.YtgffifleflkjoaaGreat
open Go.RowKit Dm

/-- A function's value, called. -/
def Runs (v : Value) (args : Array Value) (w : World) (R : Ending → World → Prop) : Prop :=
  ∃ fn lb, v = .func (.func fn) #[] lb ∧ (∀ args w, (callFunc fn args).run Tryz.prog w = .ok (.enter fn args) w) ∧ Calls Tryz.prog fn (args ++ lb) w R

theorem natOf {n k : Int} (h0 : 0 ≤ n) (h1 : n ≤ k) : ∃ t : Nat, n = t ∧ (t : Int) ≤ k := ⟨n.toNat, by omega, by omega⟩

theorem does_c (s : Step) (many : Int) (hs : s.ok many) (q m : Nat) (x : St) (F : Nat → Prop) (ty : TypeId) (rest : List Value) (w : World) (does part tape w0 w1 w2 str : Value) (hst : StepAt w.heap F s does part tape w0 w1 w2 str)
    (hx : ∀ t, (x.tp t).length ≤ 1048576) (h : StandAt w.heap q m x F ty rest) : Runs does #[.pointer (some ⟨q, 0, none⟩)] w (Did w q m (x.done s) F ty rest) := by
  obtain ⟨_, _, _, _, h5⟩ := hst
  obtain ⟨k0, kt⟩ := h.cell
  rcases h5 with ⟨g1, g2, bn, bx, f1, f2, g3, g4, g5, g6⟩ | ⟨g1, g2, bt, bx, bt', bx', v, f1, f2, f3, f4, g3, g4, g5, g6, g7, g8, g9⟩ | ⟨g1, g2, bt, bn, f1, f2, g3, g4, g5, g6⟩
  · have hb : s.b.length = 256 := by
      rcases hs with hs | hs | hs
      · exact hs.2.2.2.2
      · omega
      · omega
    have hm : SecMap w.heap m x.sec := by obtain ⟨t0, t1, t2, t3, c1, c2, _⟩ := h; exact c2
    exact absurd rfl g3
  · have hb : 0 ≤ s.n ∧ s.n ≤ 3 ∧ s.b.length ≤ 1048576 := by
      rcases hs with hs | hs | hs
      · omega
      · exact ⟨hs.2.1, hs.2.2.1, hs.2.2.2.2⟩
      · omega
    obtain ⟨t, et, ht⟩ := natOf hb.1 hb.2.1
    obtain ⟨u, hu1, hu2, hu3⟩ := kt t (by omega)
    have lx := hx t
    refine ⟨_, _, g3, enters_of Tryz.func142 (by kernel_rfl) rfl, (appended1 q bt' bx' t u v (x.tp t) s.b F w (by omega) (by omega) (by rw [cell_of_row _ _ _ _ _ _ g6, et]; rfl) (by rw [cell_of_row _ _ _ _ _ _ g8]; rfl) hu1 hu2 hu3 g9).mono ?_⟩
    rintro e w' ⟨rfl, v', w1, z1, z2, rfl⟩
    obtain ⟨y1, y2⟩ := stand_tape h t (by omega) _ _ z1 z2
    exact ⟨rfl, y2, by simpa [St.done, g1, et] using y1⟩
  · have hb : 0 ≤ s.n ∧ s.n ≤ 3 ∧ 0 ≤ s.many ∧ s.many ≤ 1048576 := by
      rcases hs with hs | hs | hs
      · omega
      · omega
      · exact ⟨hs.2.1, hs.2.2.1, hs.2.2.2.1, hs.2.2.2.2.1⟩
    obtain ⟨t, et, ht⟩ := natOf hb.1 hb.2.1
    obtain ⟨k, ek, hk⟩ := natOf hb.2.2.1 hb.2.2.2
    obtain ⟨u, hu1, hu2, hu3⟩ := kt t (by omega)
    have c1 : w.cell? ⟨bt, 0, none⟩ = some (.int .i64 t) := by rw [cell_of_row _ _ _ _ _ _ g5, et]; rfl
    have c2 : w.cell? ⟨bn, 0, none⟩ = some (.int .i64 k) := by rw [cell_of_row _ _ _ _ _ _ g6, ek]; rfl
    refine ⟨_, _, g3, enters_of Tryz.func122 (by kernel_rfl) rfl, ?_⟩
    have fin : ∀ v', BytesAt w.heap F v' ((x.tp t).take k) → ∀ e w', (e = .returned (.tuple #[]) ∧ (w.setCell ⟨q, 1 + t, none⟩ v').drew = w') → Did w q m (x.done s) F ty rest e w' := by
      rintro v' hv' e w' ⟨rfl, rfl⟩
      obtain ⟨y1, y2⟩ := stand_tape h t (by omega) _ v' (Below.refl _ _) (hv'.stays (fun _ _ => rfl) (fun _ => Or.inl))
      refine ⟨rfl, ⟨y2.os, y2.tape, y2.output, y2.size, y2.block⟩, ?_⟩
      have e1 : s.what ≠ 1 := by omega
      have e2 : s.what ≠ 2 := by omega
      have y3 : StandAt (w.setCell ⟨q, 1 + t, none⟩ v').heap q m (x.done s) (plus F w (w.setCell ⟨q, 1 + t, none⟩ v')) ty rest := by simpa [St.done, e1, e2, et, ek] using y1
      exact y3
    rcases hu3 with ⟨rfl, hl⟩ | ⟨b, o, cap, c, tt, fr, rfl, r2, r3, r4, r5, r6⟩
    · refine (cut1_n q bt bn t k w (by omega) (by omega) c1 c2 hu1 hu2).mono (fin _ (Or.inl ⟨rfl, by rw [hl]; simp⟩))
    · by_cases hc : (x.tp t).length < k
      · refine (cut1_a q bt bn t k b o _ cap w (by omega) r2 r3 hc (by omega) c1 c2 hu1 hu2).mono (fin _ (Or.inr ⟨b, o, cap, c, tt, fr, ?_, ?_, r3, r4, r5, fun i y hi => r6 i y ?_⟩))
        · rw [List.take_of_length_le (by omega)]
        · rw [List.take_of_length_le (by omega)]; exact r2
        · rwa [List.take_of_length_le (by omega)] at hi
      · refine (cut1_b q bt bn t k b o _ cap w (by omega) r2 r3 (by omega) (by omega) c1 c2 hu1 hu2).mono (fin _ (Or.inr ⟨b, o, cap, c, tt, fr, ?_, ?_, r3, r4, r5, fun i y hi => r6 i y ?_⟩))
        · simp only [List.length_take]; congr 1; omega
        · simp only [List.length_take]; omega
        · rw [List.getElem?_take] at hi
          split at hi
          · exact hi
          · cases hi

theorem part_c (s : Step) (many : Int) (hs : s.ok many) (q m : Nat) (x : St) (F : Nat → Prop) (ty : TypeId) (rest : List Value) (w : World) (does part tape w0 w1 w2 str : Value) (k : Int) (hk : -9223372036854775808 ≤ k) (hk' : k ≤ 9223372036854775807)
    (hst : StepAt w.heap F s does part tape w0 w1 w2 str)
    (hx : ∀ t, (x.tp t).length ≤ 1048576) (hy : ∀ n, (x.sec n).length = 256) (h : StandAt w.heap q m x F ty rest) : Runs part #[.pointer (some ⟨q, 0, none⟩), .int .i64 k] w (Did w q m (x.part s k) F ty rest) := by
  obtain ⟨_, _, _, _, h5⟩ := hst
  obtain ⟨k0, kt⟩ := h.cell
  rcases h5 with ⟨g1, g2, bn, bx, f1, f2, g3, g4, g5, g6⟩ | ⟨g1, g2, bt, bx, bt', bx', v, f1, f2, f3, f4, g3, g4, g5, g6, g7, g8, g9⟩ | ⟨g1, g2, bt, bn, f1, f2, g3, g4, g5, g6⟩
  · have hb : s.b.length = 256 := by
      rcases hs with hs | hs | hs
      · exact hs.2.2.2.2
      · omega
      · omega
    have hm : SecMap w.heap m x.sec := by obtain ⟨t0, t1, t2, t3, c1, c2, _⟩ := h; exact c2
    exact absurd rfl g3
  · have hb : 0 ≤ s.n ∧ s.n ≤ 3 ∧ s.b.length ≤ 1048576 := by
      rcases hs with hs | hs | hs
      · omega
      · exact ⟨hs.2.1, hs.2.2.1, hs.2.2.2.2⟩
      · omega
    obtain ⟨t, et, ht⟩ := natOf hb.1 hb.2.1
    obtain ⟨u, hu1, hu2, hu3⟩ := kt t (by omega)
    have lx := hx t
    refine ⟨_, _, g4, enters_of Tryz.func101 (by kernel_rfl) rfl, (append1 q bt bx t k u v (x.tp t) s.b F w (by omega) hk hk' (by omega) (by omega) (by rw [cell_of_row _ _ _ _ _ _ g5, et]; rfl) (by rw [cell_of_row _ _ _ _ _ _ g7]; rfl) hu1 hu2 hu3 g9).mono ?_⟩
    rintro e w' ⟨rfl, v', w1, z1, z2, rfl⟩
    obtain ⟨y1, y2⟩ := stand_tape h t (by omega) _ _ z1 z2
    exact ⟨rfl, y2, by simpa [St.part, St.done, g1, et] using y1⟩
  · refine ⟨_, _, g4, enters_of Tryz.func123 (by kernel_rfl) rfl, (cut2 _ k w).mono ?_⟩
    rintro e w' ⟨rfl, rfl⟩
    refine ⟨rfl, Moves.refl _ _, ?_⟩
    have e1 : s.what ≠ 1 := by omega
    have e2 : s.what ≠ 2 := by omega
    have : x.part s k = x := by simp [St.part, e1, e2]
    rw [this]
    exact h.keeps rfl rfl (fun _ _ _ => rfl) (fun _ h _ => Or.inl h) (fun k h => by rcases h with h | h; exact Or.inl h; exact Or.inr h.1)

end Go.Proofs.YtgffifleflkjoaaGreat

namespace Go.Proofs.YtgffifleflkjoaaGreat
open Go.RowKit Dm

/-- The cells of a disk behind what stands. -/
def diskR (ml : Nat) (l0 l1 l2 l3 wv : Value) (many most : Int) (dead stops : Bool) (after : Int) : List Value :=
  [.map (some ml), l0, l1, l2, l3, wv, .int .i64 many, .int .i64 most, .bool dead, .bool stops, .int .i64 after, .bool true]

/-- What else a disk has. -/
structure RestAt (h : Array Obj) (d : D) (F : Nat → Prop) (ml : Nat) (l0 l1 l2 l3 wv : Value) (stops : Bool) (after : Int) : Prop where
  hst : d.stops = if stops then after else -1
  haf : stops = true → 0 ≤ after
  sec : SecMap h ml d.lasts.sec
  fml : F ml
  b0 : BytesAt h F l0 (d.lasts.tp 0)
  b1 : BytesAt h F l1 (d.lasts.tp 1)
  b2 : BytesAt h F l2 (d.lasts.tp 2)
  b3 : BytesAt h F l3 (d.lasts.tp 3)
  steps : StepsAt h F wv d.waits

theorem DiskAt.parts {h : Array Obj} {p m : Nat} {d : D} {F : Nat → Prop} (x : DiskAt h p m d F) :
    ∃ ml l0 l1 l2 l3 wv stops after, StandAt h p m d.stand F tDisk (diskR ml l0 l1 l2 l3 wv d.many d.room d.dead stops after) ∧ RestAt h d F ml l0 l1 l2 l3 wv stops after := by
  obtain ⟨ok, t0, t1, t2, t3, ml, l0, l1, l2, l3, wv, stops, after, c1, c2, c3, c4, c5, c6, c7, c8, c9, b0, b1, b2, b3, b4, b5, b6, b7, st⟩ := x
  exact ⟨ml, l0, l1, l2, l3, wv, stops, after, ⟨t0, t1, t2, t3, c1, c4, b0, b1, b2, b3, c7, c8, c9⟩, ⟨c2, c3, c5, c6, b4, b5, b6, b7, st⟩⟩

theorem DiskAt.of {h : Array Obj} {p m : Nat} {d : D} {F : Nat → Prop} (ok : d.ok) {ml : Nat} {l0 l1 l2 l3 wv : Value} {stops : Bool} {after : Int}
    (s : StandAt h p m d.stand F tDisk (diskR ml l0 l1 l2 l3 wv d.many d.room d.dead stops after)) (r : RestAt h d F ml l0 l1 l2 l3 wv stops after) : DiskAt h p m d F := by
  obtain ⟨t0, t1, t2, t3, c1, c4, b0, b1, b2, b3, c7, c8, c9⟩ := s
  exact ⟨ok, t0, t1, t2, t3, ml, l0, l1, l2, l3, wv, stops, after, c1, r.hst, r.haf, c4, r.sec, r.fml, c7, c8, c9, b0, b1, b2, b3, r.b0, r.b1, r.b2, r.b3, r.steps⟩

theorem RestAt.keeps {h h' : Array Obj} {d : D} {F F' : Nat → Prop} {ml : Nat} {l0 l1 l2 l3 wv : Value} {stops : Bool} {after : Int} (r : RestAt h d F ml l0 l1 l2 l3 wv stops after)
    (hs : ∀ k, F k → k < h.size → h'[k]? = h[k]?) (hF : ∀ k, F k → k < h.size → F' k) : RestAt h' d F' ml l0 l1 l2 l3 wv stops after := by
  have lt : ml < h.size := by obtain ⟨es, cl, g, _⟩ := r.sec; exact lt_of_row g
  exact ⟨r.hst, r.haf, r.sec.stays (hs _ r.fml lt), hF _ r.fml lt, r.b0.keeps hs hF, r.b1.keeps hs hF, r.b2.keeps hs hF, r.b3.keeps hs hF, r.steps.keeps hs hF⟩

/-- A disk stays where its blocks do. -/
theorem DiskAt.keeps {h h' : Array Obj} {p m : Nat} {d : D} {F F' : Nat → Prop} (x : DiskAt h p m d F) (hp : h'[p]? = h[p]?) (hm : h'[m]? = h[m]?) (hs : ∀ k, F k → k < h.size → h'[k]? = h[k]?)
    (hF : ∀ k, F k → k < h.size → F' k) (hF' : ∀ k, F' k → F k ∨ h.size ≤ k) : DiskAt h' p m d F' := by
  obtain ⟨ml, l0, l1, l2, l3, wv, stops, after, s, r⟩ := x.parts
  exact DiskAt.of x.ok (s.keeps hp hm hs hF hF') (r.keeps hs hF)

theorem DiskAt.lt {h : Array Obj} {p m : Nat} {d : D} {F : Nat → Prop} (x : DiskAt h p m d F) : p < h.size ∧ m < h.size ∧ m ≠ p ∧ ¬ F p ∧ ¬ F m := by
  obtain ⟨ml, l0, l1, l2, l3, wv, stops, after, ⟨t0, t1, t2, t3, c1, c4, b0, b1, b2, b3, c7, c8, c9⟩, r⟩ := x.parts
  refine ⟨lt_of_row c1, ?_, c9, c8, c7⟩
  obtain ⟨es, cl, g, _⟩ := c4
  exact lt_of_row g

theorem goes_ok {d : D} (h : d.ok) : d.goes.1.ok := by
  have h1 := h.stops
  have h2 := h.stops1
  unfold D.goes
  split
  · exact h
  · split
    · exact ⟨h.many0, h.many1, h.room0, h.room1, h.sec, h.tape, h.waits, by simp, by simp⟩
    · split
      · refine ⟨h.many0, h.many1, h.room0, h.room1, h.sec, h.tape, h.waits, ?_, ?_⟩ <;> simp <;> omega
      · exact h
theorem goes_many (d : D) : d.goes.1.many = d.many := by unfold D.goes; split; rfl; split; rfl; split <;> rfl
theorem goes_room (d : D) : d.goes.1.room = d.room := by unfold D.goes; split; rfl; split; rfl; split <;> rfl
theorem goes_lasts (d : D) : d.goes.1.lasts = d.lasts := by unfold D.goes; split; rfl; split; rfl; split <;> rfl
theorem goes_waits (d : D) : d.goes.1.waits = d.waits := by unfold D.goes; split; rfl; split; rfl; split <;> rfl
theorem goes_stand (d : D) : d.goes.1.stand = d.stand := by unfold D.stand; rw [goes_lasts, goes_waits]

/-- Whether a step goes. -/
theorem goes_c {p m : Nat} {d : D} {F : Nat → Prop} {w : World} (x : DiskAt w.heap p m d F) :
    Calls Tryz.prog 102 #[.pointer (some ⟨p, 0, none⟩)] w fun e w' => e = .returned (.int .i64 d.goes.2) ∧ Moves (fun k => k = p) w w' ∧ w'.heap.size = w.heap.size ∧ DiskAt w'.heap p m d.goes.1 F := by
  have lt := x.lt
  obtain ⟨ml, l0, l1, l2, l3, wv, stops, after, ⟨t0, t1, t2, t3, c1, c4, b0, b1, b2, b3, c7, c8, c9⟩, r⟩ := x.parts
  have hf : ∀ i, w.frozen? ⟨p, i, none⟩ = false := fun i => by simp [World.frozen?, c1]
  have k13 : w.cell? ⟨p, 13, none⟩ = some (.bool d.dead) := by rw [cell_of_row _ _ _ _ _ _ c1]; simp [diskR]
  have k14 : w.cell? ⟨p, 14, none⟩ = some (.bool stops) := by rw [cell_of_row _ _ _ _ _ _ c1]; simp [diskR]
  have k15 : w.cell? ⟨p, 15, none⟩ = some (.int .i64 after) := by rw [cell_of_row _ _ _ _ _ _ c1]; simp [diskR]
  have gen : ∀ (d' : D) (dead' stops' : Bool) (after' : Int) (w' : World), d' = { d with dead := dead', stops := if stops' then after' else -1 } → d'.ok → (stops' = true → 0 ≤ after') →
      Moves (fun k => k = p) w w' → w'.heap.size = w.heap.size → w'.heap[p]? = some (.cells (.map (some m) :: t0 :: t1 :: t2 :: t3 :: diskR ml l0 l1 l2 l3 wv d.many d.room dead' stops' after').toArray tDisk (0, 0)) →
      DiskAt w'.heap p m d' F := by
    intro d' dead' stops' after' w' ed hok ha hm hz hc
    subst ed
    have hs : ∀ k, F k → k < w.heap.size → w'.heap[k]? = w.heap[k]? := fun k hk hl => hm.block k hl (fun e => c8 (e ▸ hk))
    have hF : ∀ k, F k → k < w.heap.size → F k := fun _ h _ => h
    refine DiskAt.of hok (ml := ml) (l0 := l0) (l1 := l1) (l2 := l2) (l3 := l3) (wv := wv) (stops := stops') (after := after') ?_ ?_
    · exact ⟨t0, t1, t2, t3, hc, c4.stays (hm.block m lt.2.1 c9), b0.keeps hs hF, b1.keeps hs hF, b2.keeps hs hF, b3.keeps hs hF, c7, c8, c9⟩
    · have r' := r.keeps (F' := F) hs hF
      exact ⟨rfl, ha, r'.sec, r'.fml, r'.b0, r'.b1, r'.b2, r'.b3, r'.steps⟩
  have hok := goes_ok x.ok
  have hst := r.hst
  cases hd : d.dead
  · rw [hd] at k13
    cases stops
    · have hs1 : d.stops = -1 := by rw [hst]; rfl
      have hg : d.goes = (d, 0) := by simp [D.goes, hd, hs1]
      rw [hg]
      refine (goes_free p w k13 k14).mono ?_
      rintro e w' ⟨rfl, rfl⟩
      exact ⟨rfl, Moves.refl _ _, rfl, x⟩
    · have hs1 : d.stops = after := by rw [hst]; rfl
      have ha := r.haf rfl
      by_cases h0 : after = 0
      · subst h0
        have hg : d.goes = ({ d with dead := true, stops := -1 }, 281) := by simp [D.goes, hd, hs1]
        rw [hg] at hok ⊢
        refine (goes_ends p w k13 k14 k15 (hf _) (hf _)).mono ?_
        rintro e w' ⟨rfl, rfl⟩
        have y1 := heap_setCell_same w p 13 _ tDisk (.bool true) c1
        have y2 := heap_setCell_same _ p 14 _ tDisk (.bool false) y1
        refine ⟨rfl, ⟨rfl, rfl, rfl, by simp, fun k hk hn => ?_⟩, by simp, gen _ true false 0 _ rfl hok (fun h => by cases h) ⟨rfl, rfl, rfl, by simp, fun k hk hn => ?_⟩ (by simp) ?_⟩
        · rw [heap_setCell_other _ _ _ _ hn, heap_setCell_other _ _ _ _ hn]
        · rw [heap_setCell_other _ _ _ _ hn, heap_setCell_other _ _ _ _ hn]
        · rw [y2]; simp [diskR]
      · have hg : d.goes = ({ d with stops := d.stops - 1 }, 0) := by
          have e1 : ¬ after = 0 := h0
          have e2 : after > 0 := by omega
          simp [D.goes, hd, hs1, e1, e2]
        rw [hg] at hok ⊢
        have h63 := x.ok.stops1
        refine (goes_counts p after w k13 k14 k15 (by omega) (by omega) (hf _)).mono ?_
        rintro e w' ⟨rfl, rfl⟩
        have y1 := heap_setCell_same w p 15 _ tDisk (.int .i64 (after - 1)) c1
        refine ⟨rfl, ⟨rfl, rfl, rfl, by simp, fun k hk hn => ?_⟩, by simp, gen _ false true (after - 1) _ ?_ hok (fun _ => by omega) ⟨rfl, rfl, rfl, by simp, fun k hk hn => ?_⟩ (by simp) ?_⟩
        · rw [heap_setCell_other _ _ _ _ hn]
        · rw [hs1]; simp [hd]
        · rw [heap_setCell_other _ _ _ _ hn]
        · rw [y1]; simp [diskR, hd]
  · rw [hd] at k13
    have hg : d.goes = (d, 281) := by simp [D.goes, hd]
    rw [hg]
    refine (goes_dead p w k13).mono ?_
    rintro e w' ⟨rfl, rfl⟩
    exact ⟨rfl, Moves.refl _ _, rfl, x⟩

/-- The cells of a step. -/
def stepL (does part tape w0 w1 w2 str : Value) : List Value := [does, part, tape, w0, w1, w2, str]

theorem StepAt.ones {h : Array Obj} {F : Nat → Prop} {s : Step} {a b c d e f g : Value} (x : StepAt h F s a b c d e f g) : ∀ u ∈ stepL a b c d e f g, u.oneCell' = true := by
  obtain ⟨h1, h2, h3, ⟨ba, h4, _⟩, h5⟩ := x
  subst h1; subst h2; subst h3; subst h4
  rcases h5 with ⟨g1, g2, bn, bx, f1, f2, g3, g4, g5, g6⟩ | ⟨g1, g2, bt, bx, bt', bx', v, f1, f2, f3, f4, g3, g4, g5, g6, g7, g8, g9⟩ | ⟨g1, g2, bt, bn, f1, f2, g3, g4, g5, g6⟩
  exact absurd rfl g3
  all_goals
    subst g2; subst g3; subst g4
    intro u hu
    simp only [stepL, List.mem_cons, List.not_mem_nil, or_false] at hu
    rcases hu with rfl | rfl | rfl | rfl | rfl | rfl | rfl <;> rfl

/-- The raw cells of a row of steps. -/
theorem StepsAt.raw {w : World} {F : Nat → Prop} {v : Value} {l : List Step} (x : StepsAt w.heap F v l) :
    (v = .slice none 0 0 ∧ l = []) ∨ ∃ (b o cap : Nat) (cs : List Value), v = .slice (some ⟨b, o, none⟩) l.length cap ∧ cs.length = l.length * 7 ∧ F b ∧ l.length ≤ cap ∧ cap ≤ 9223372036854775807 ∧ (∀ i y, cs[i]? = some y → w.cell? ⟨b, o + i, none⟩ = some y) ∧ (∀ u ∈ cs, u.oneCell' = true) ∧
      ∀ i s, l[i]? = some s → ∃ d p tp w0 w1 w2 st, cs[i * 7]? = some d ∧ cs[i * 7 + 1]? = some p ∧ cs[i * 7 + 2]? = some tp ∧ cs[i * 7 + 3]? = some w0 ∧ cs[i * 7 + 4]? = some w1 ∧ cs[i * 7 + 5]? = some w2 ∧ cs[i * 7 + 6]? = some st ∧ StepAt w.heap F s d p tp w0 w1 w2 st := by
  rcases x with x | ⟨b, o, cap, c, t, fr, h1, h2, h3, g2, g3, g4⟩
  · exact Or.inl x
  · refine Or.inr ⟨b, o, cap, (List.range (l.length * 7)).map (fun i => (c[o + i]?).getD undef), h1, by simp, g2, h2, h3, ?_, ?_, ?_⟩
    · intro i y hi
      have hlt : i < l.length * 7 := by have := (List.getElem?_eq_some_iff.1 hi).1; simpa using this
      rw [cell_of_row _ _ _ _ _ _ g3]
      simp only [List.getElem?_map, List.getElem?_range hlt, Option.map_some, Option.some.injEq] at hi
      obtain ⟨d, p, tp, w0, w1, w2, st, e0, e1, e2, e3, e4, e5, e6, e7⟩ := g4 (i / 7) l[i / 7] (by rw [List.getElem?_eq_getElem])
      have hmod : i = i / 7 * 7 + i % 7 := by omega
      obtain hr | hr | hr | hr | hr | hr | hr : i % 7 = 0 ∨ i % 7 = 1 ∨ i % 7 = 2 ∨ i % 7 = 3 ∨ i % 7 = 4 ∨ i % 7 = 5 ∨ i % 7 = 6 := by omega
      all_goals
        rw [hr] at hmod
        have hoi : ∀ r, i = i / 7 * 7 + r → c[o + i]? = c[o + i / 7 * 7 + r]? := fun r h => by congr 1; omega
        rw [hoi _ hmod] at hi ⊢
        first
          | (rw [Nat.add_zero, e0] at hi ⊢; rw [← hi]; rfl)
          | (rw [e1] at hi ⊢; rw [← hi]; rfl)
          | (rw [e2] at hi ⊢; rw [← hi]; rfl)
          | (rw [e3] at hi ⊢; rw [← hi]; rfl)
          | (rw [e4] at hi ⊢; rw [← hi]; rfl)
          | (rw [e5] at hi ⊢; rw [← hi]; rfl)
          | (rw [e6] at hi ⊢; rw [← hi]; rfl)
    · intro u hu
      obtain ⟨i, hi, rfl⟩ := List.mem_map.1 hu
      have hlt : i < l.length * 7 := List.mem_range.1 hi
      obtain ⟨d, p, tp, w0, w1, w2, st, e0, e1, e2, e3, e4, e5, e6, e7⟩ := g4 (i / 7) l[i / 7] (by rw [List.getElem?_eq_getElem])
      have ones := e7.ones
      have hmod : i = i / 7 * 7 + i % 7 := by omega
      obtain hr | hr | hr | hr | hr | hr | hr : i % 7 = 0 ∨ i % 7 = 1 ∨ i % 7 = 2 ∨ i % 7 = 3 ∨ i % 7 = 4 ∨ i % 7 = 5 ∨ i % 7 = 6 := by omega
      all_goals
        rw [hr] at hmod
        have hoi : ∀ r, i = i / 7 * 7 + r → c[o + i]? = c[o + i / 7 * 7 + r]? := fun r h => by congr 1; omega
        rw [hoi _ hmod]
        first
          | (rw [Nat.add_zero, e0]; exact ones _ (by simp [stepL]))
          | (rw [e1]; exact ones _ (by simp [stepL]))
          | (rw [e2]; exact ones _ (by simp [stepL]))
          | (rw [e3]; exact ones _ (by simp [stepL]))
          | (rw [e4]; exact ones _ (by simp [stepL]))
          | (rw [e5]; exact ones _ (by simp [stepL]))
          | (rw [e6]; exact ones _ (by simp [stepL]))
    · intro i s hi
      have hlt : i < l.length := (List.getElem?_eq_some_iff.1 hi).1
      obtain ⟨d, p, tp, w0, w1, w2, st, e0, e1, e2, e3, e4, e5, e6, e7⟩ := g4 i s hi
      have at_ : ∀ r, r < 7 → ((List.range (l.length * 7)).map (fun i => (c[o + i]?).getD undef))[i * 7 + r]? = some ((c[o + i * 7 + r]?).getD undef) := by
        intro r hr
        rw [List.getElem?_map, List.getElem?_range (by omega)]
        simp [Nat.add_assoc]
      refine ⟨d, p, tp, w0, w1, w2, st, ?_, ?_, ?_, ?_, ?_, ?_, ?_, e7⟩
      · have := at_ 0 (by omega); rw [Nat.add_zero, Nat.add_zero, e0] at this; exact this
      · rw [at_ 1 (by omega), e1]; rfl
      · rw [at_ 2 (by omega), e2]; rfl
      · rw [at_ 3 (by omega), e3]; rfl
      · rw [at_ 4 (by omega), e4]; rfl
      · rw [at_ 5 (by omega), e5]; rfl
      · rw [at_ 6 (by omega), e6]; rfl

end Go.Proofs.YtgffifleflkjoaaGreat
