/-
  disk.Same: two stands are the same.
  Read, Tape.
  append onto a row of the call's own, whatever the source.
-/
import Derived.Test.YtiefhmbpaoecfaaG07
import Derived.Test.YtiefhmbpaoecfaaG08
import Derived.Test.YtiefhmbpaoecfaaG10
import Derived.Laws.AppendOwnNone

namespace Go.Proofs.Ytiefhmbpaoecfaa
open Go.RowKit Dm Go.Shelf
attribute [local go_sem] Oper.semAt_some

/-- Between two rounds. -/
def SmI (w : World) (pv : Value) (R : Prop) (b : Bool) (O : Nat → Prop) (W' : World) : Prop :=
  Below w.heap.size w W' ∧ W'.heap[w.heap.size]? = some (.cells #[pv] 84 (0, 0)) ∧ W'.heap[w.heap.size + 1]? = some (.cells #[.bool b] 4 (0, 0)) ∧ (∀ i, O i → w.heap.size + 5 ≤ i) ∧ w.heap.size + 5 ≤ W'.heap.size ∧ R

theorem smI_moves {w A B : World} {pv : Value} {R : Prop} {b : Bool} {O O' : Nat → Prop} (h : SmI w pv R b O A) (hm : Moves O A B) (ho : ∀ i, O' i → O i ∨ A.heap.size ≤ i) : SmI w pv R b O' B := by
  obtain ⟨h1, h2, h3, h6, h7, h8⟩ := h
  refine ⟨⟨hm.os.trans h1.os, hm.tape.trans h1.tape, hm.output.trans h1.output, Nat.le_trans h1.size hm.size, fun i hi => ?_⟩, (hm.block _ (by omega) (fun e => by have := h6 _ e; omega)).trans h2, (hm.block _ (by omega) (fun e => by have := h6 _ e; omega)).trans h3, fun i hi => ?_, Nat.le_trans h7 hm.size, h8⟩
  · exact (hm.block i (by have := h1.size; omega) (fun e => by have := h6 i e; omega)).trans (h1.block i hi)
  · rcases ho i hi with e | e
    · exact h6 i e
    · omega

theorem smI_put {w A : World} {pv : Value} {R : Prop} {b : Bool} {O : Nat → Prop} (h : SmI w pv R b O A) (d : Nat) (hd : w.heap.size + 2 ≤ d) (o : Obj) : SmI w pv R b O (A.putObj d o) := by
  obtain ⟨h1, h2, h3, h6, h7, h8⟩ := h
  exact ⟨⟨h1.os, h1.tape, h1.output, by simpa using h1.size, fun i hi => (World.putObj_heap_other (by omega)).trans (h1.block i hi)⟩, (World.putObj_heap_other (by omega)).trans h2, (World.putObj_heap_other (by omega)).trans h3, h6, by simpa using h7, h8⟩

theorem stand_end {w W2 W4 : World} (r : Bool) (h1 : Below w.heap.size w W2) (hD : W2.heap[w.heap.size + 3]? = some (.deferred (some []))) (h3 : W2.heap[w.heap.size + 1]? = some (.cells #[.bool false] 4 (0, 0))) (hz : w.heap.size + 5 ≤ W2.heap.size) (hb : Below W2.heap.size W2 W4) :
    (W4.setCell ⟨w.heap.size + 1, 0, none⟩ (.bool r)).heap[w.heap.size + 3]? = some (.deferred (some [])) ∧ ((W4.setCell ⟨w.heap.size + 1, 0, none⟩ (.bool r)).putObj (w.heap.size + 3) (.deferred none)).heap[w.heap.size + 1]? = some (.cells #[.bool r] 4 (0, 0)) ∧
      Below w.heap.size w ((W4.setCell ⟨w.heap.size + 1, 0, none⟩ (.bool r)).putObj (w.heap.size + 3) (.deferred none)) := by
  have other : ∀ i, i ≠ w.heap.size + 1 → (W4.setCell ⟨w.heap.size + 1, 0, none⟩ (.bool r)).heap[i]? = W4.heap[i]? := fun i hi => heap_setCell_other W4 _ i _ hi
  have h34 := (hb.block _ (by omega)).trans h3
  have h14 : Below w.heap.size w W4 := h1.trans (hb.mono h1.size)
  refine ⟨(other _ (by omega)).trans ((hb.block _ (by omega)).trans hD), (World.putObj_heap_other (by omega)).trans (heap_setCell_same W4 (w.heap.size + 1) 0 _ _ (.bool r) h34), h14.os, h14.tape, h14.output, by simpa using h14.size, fun i hi => (World.putObj_heap_other (by omega)).trans ((other i (by omega)).trans (h14.block i hi))⟩

theorem maps_same {h h' : Array Obj} {m m' : Nat} {f g : Int → List UInt8} {L : Prop} {r2 : Bool} (hl : L) (x : SecMap h m f) (y : SecMap h' m' g) (h1 : ∀ n, SecHas h m n → g n = f n) (h2 : r2 = true ↔ ∀ n, SecHas h' m' n → f n = g n) : r2 = true ↔ L ∧ ∀ n, f n = g n := by
  rw [h2]
  refine ⟨fun k => ⟨hl, fun n => ?_⟩, fun k n _ => k.2 n⟩
  by_cases hn : SecHas h m n
  · exact (h1 n hn).symm
  · by_cases hn' : SecHas h' m' n
    · exact k n hn'
    · rw [x.none hn, y.none hn']

set_option maxRecDepth 100000 in
set_option maxHeartbeats 1500000 in
theorem sameStand_c (q q' : Nat) (m m' : Nat) (t0 t1 t2 t3 u0 u1 u2 u3 : Value) (F G : Nat → Prop) (l k : Nat → List UInt8) (f g : Int → List UInt8) (w : World)
    (a0 : w.cell? ⟨q, 5, none⟩ = some (.map (some m))) (a1 : w.cell? ⟨q, 5 + 1, none⟩ = some t0) (a2 : w.cell? ⟨q, 5 + 2, none⟩ = some t1) (a3 : w.cell? ⟨q, 5 + 3, none⟩ = some t2) (a4 : w.cell? ⟨q, 5 + 4, none⟩ = some t3)
    (b0 : w.cell? ⟨q', 5, none⟩ = some (.map (some m'))) (b1 : ∀ j, j < 4 → ∃ u, w.cell? ⟨q', 5 + 1 + j, none⟩ = some u ∧ BytesAt w.heap G u (k j))
    (c0 : BytesAt w.heap F t0 (l 0)) (c1 : BytesAt w.heap F t1 (l 1)) (c2 : BytesAt w.heap F t2 (l 2)) (c3 : BytesAt w.heap F t3 (l 3))
    (x : SecMap w.heap m f) (y : SecMap w.heap m' g) (hf : ∀ n, (f n).length = 256) (hg : ∀ n, (g n).length = 256) :
    Calls Try.prog 55 #[.pointer (some ⟨q, 5, none⟩), .pointer (some ⟨q', 5, none⟩)] w fun e w' => ∃ r : Bool, e = .returned (.bool r) ∧ (r = true ↔ (∀ j, j < 4 → l j = k j) ∧ ∀ n, f n = g n) ∧ Below w.heap.size w w' := by
  have lt : q < w.heap.size := block_lt_of_cell a0
  have lt' : q' < w.heap.size := block_lt_of_cell b0
  obtain ⟨w1, hw1⟩ : ∃ w1, ((w.alloc (.cells #[.pointer (some ⟨q', 5, none⟩)] 84)).alloc (.cells #[.bool false] 4)).alloc (.cells #[.pointer (some ⟨q, 5, none⟩)] 84) = w1 := ⟨_, rfl⟩
  have hb : Below w.heap.size w w1 := by rw [← hw1]; exact (((Below.refl _ _).alloc (Nat.le_refl _) _).alloc (by simp) _).alloc (by simp; omega) _
  have z1 : w1.heap.size = w.heap.size + 3 := by rw [← hw1]; simp
  have r0 : w1.heap[w.heap.size]? = some (.cells #[.pointer (some ⟨q', 5, none⟩)] 84 (0, 0)) := by rw [← hw1]; exact (Below.heap_alloc _ _ _ (by simp; omega)).trans ((Below.heap_alloc _ _ _ (by simp)).trans (heap_alloc_last w _))
  have r1 : w1.heap[w.heap.size + 1]? = some (.cells #[.bool false] 4 (0, 0)) := by rw [← hw1]; exact (Below.heap_alloc _ _ _ (by simp)).trans (heap_at (w := w.alloc _) _ (by simp))
  have k0 : w1.cell? ⟨w.heap.size + 1 + 1, 0, none⟩ = some (.pointer (some ⟨q, 5, none⟩)) := by rw [← hw1]; exact (cell_of_row _ _ _ _ _ _ (heap_at (w := (w.alloc _).alloc _) _ (by simp))).trans rfl
  have IT := Lib.hid (all1_c (w.heap.size + 1 + 1) q 5 (Or.inr rfl) _ _ _ _ _ k0 ((hb.cell (p := ⟨q, _, none⟩) lt).trans a1) ((hb.cell (p := ⟨q, _, none⟩) lt).trans a2) ((hb.cell (p := ⟨q, _, none⟩) lt).trans a3) ((hb.cell (p := ⟨q, _, none⟩) lt).trans a4))
  have A := Lib.hid (And.intro a0 (And.intro b0 (And.intro b1 (And.intro c0 (And.intro c1 (And.intro c2 c3))))))
  have X := Lib.hid (And.intro x (And.intro y (And.intro hf (And.intro hg (And.intro lt lt')))))
  have B := Lib.hid (And.intro hb (And.intro z1 (And.intro r0 r1)))
  have HW := Lib.hid hw1
  clear a0 a1 a2 a3 a4 b0 b1 c0 c1 c2 c3 x y hf hg lt lt' r0 r1 hb k0 hw1 z1
  refine (callsIn_wide (n := 0)).1 ?_
  refine callsIn_of_wp_marks Try.func55 rfl trivial ?_ rfl
  simp only [Try.ntmps55, List.size_toArray, List.length_cons, List.length_nil, Nat.reduceAdd, Nat.reduceSub, Array.replicate_succ, Array.replicate_zero, List.push_toArray, List.append_toArray, List.nil_append, List.cons_append]
  gi_wp2_with (refine ⟨trivial, rfl, ?_⟩; gi_at_call 65; refine (callsIn_wide.2 (all_c q 5 _)).mono ?_; rintro e w' ⟨rfl, rfl⟩)
  rw [HW.out]
  refine wpIn_rangeIter (gf := 70) (lb := #[.pointer (some ⟨w.heap.size + 1 + 1, 0, none⟩)]) (encs := encT) (xs := tapesL t0 t1 t2 t3) (R := fun _ => False) rfl (enters_of Try.func70 (by kernel_rfl) rfl) IT.out (fun _ h => h.elim)
    (Below.refl _ _) (fun _ => rfl) (fun i => SmI w (.pointer (some ⟨q', 5, none⟩)) (∀ j, j < i → l j = k j) false) (fun c i O W => c = .ret ∧ SmI w (.pointer (some ⟨q', 5, none⟩)) (¬ ∀ j, j < 4 → l j = k j) false O W) (fun i O O' A B h hm _ ho => smI_moves h hm ho) (fun c i O O' A B h hm _ ho => ⟨h.1, smI_moves h.2 hm ho⟩) ?hIb ?hIxb ?h0
    (fun x a' _ => a' = { tmps := #[.pointer (some ⟨q, 5, none⟩), .pointer (some ⟨q', 5, none⟩), undef, .pointer (some ⟨w.heap.size, 0, none⟩), .pointer (some ⟨w.heap.size + 1, 0, none⟩), .int .i64 x.1, x.2, undef, .pointer (some ⟨q, 5, none⟩), .func (.func 70) #[] #[.pointer (some ⟨w.heap.size + 1 + 1, 0, none⟩)], .int .i64 x.1, x.2, undef, undef, undef, undef, undef, undef, undef, undef, undef, undef, undef, undef, undef, undef, undef, undef, undef, undef, undef, undef, undef, undef, undef, undef, undef, undef, undef, undef, undef, undef, undef], defers := [] }) (fun _ _ _ _ _ _ _ h => h) ?assign ?body ?done ?stop
  case hIb =>
    intro i O r o W' _ h
    exact smI_put h _ (by rw [B.out.2.1]; omega) o
  case hIxb =>
    intro c i O r o W' _ h
    exact ⟨h.1, smI_put h.2 _ (by rw [B.out.2.1]; omega) o⟩
  case h0 =>
    intro W' hb' hs
    rw [B.out.2.1] at hb' hs
    refine ⟨B.out.1.trans (hb'.mono (by omega)), (hb'.block _ (by omega)).trans B.out.2.2.1, (hb'.block _ (by omega)).trans B.out.2.2.2, fun i h => h.elim, by omega, fun j hj => absurd hj (by omega)⟩
  case assign =>
    rintro i ⟨x1, x2⟩ O W' hx hi _ _ _
    simp only [encT]
    gi_wp2
    exact ⟨hi, Keeps.refl _ _, trivial⟩
  case body =>
    rintro i x O a' W' hx hl hd hol hod hi rfl
    clear hl hd
    rw [B.out.2.1] at hol hod ⊢
    have hi4 : i < 4 := by
      have := (List.getElem?_eq_some_iff.1 hx).1
      simpa [tapesL] using this
    obtain ⟨h1, h2, h3, h6, h7, h8⟩ := hi
    obtain ⟨v, rfl, hv⟩ : ∃ v, x = ((i : Int), v) ∧ BytesAt w.heap F v (l i) := by
      have kk : i = 0 ∨ i = 1 ∨ i = 2 ∨ i = 3 := by omega
      rcases kk with rfl | rfl | rfl | rfl <;> (simp only [tapesL, List.getElem?_cons_zero, List.getElem?_cons_succ, Option.some.injEq] at hx; subst hx; refine ⟨_, rfl, ?_⟩)
      · exact A.out.2.2.2.1
      · exact A.out.2.2.2.2.1
      · exact A.out.2.2.2.2.2.1
      · exact A.out.2.2.2.2.2.2
    obtain ⟨u, hu1, hu2⟩ := A.out.2.2.1 i hi4
    have EQ := bytesEqual_c (hv.below h1) (hu2.below h1)
    have e3 : W'.cell? ⟨w.heap.size, 0, none⟩ = some (.pointer (some ⟨q', 5, none⟩)) := (cell_of_row _ _ _ _ _ _ h2).trans rfl
    have e4 : W'.cell? ⟨q', 5 + 1 + i, none⟩ = some u := (h1.cell (p := ⟨q', _, none⟩) X.out.2.2.2.2.2).trans hu1
    have HH := Lib.hid (And.intro h1 (And.intro h2 (And.intro h3 (And.intro h6 (And.intro h7 h8)))))
    have EE := Lib.hid EQ
    have n0 : (0 : Int) ≤ (i : Int) := by omega
    have n4 : (i : Int) < 4 := by omega
    have z1 : W'.frozen? ⟨w.heap.size + 1, 0, none⟩ = false := by simp [World.frozen?, h3]
    have c1 : W'.cell? ⟨w.heap.size + 1, 0, none⟩ = some (.bool false) := (cell_of_row _ _ _ _ _ _ h3).trans rfl
    clear h1 h2 h3 h6 h7 h8 EQ hv hu1 hu2 hx
    by_cases hlk : l i = k i
    · have LK := Lib.hid hlk
      rw [show decide (l i = k i) = true from by simpa using hlk] at EE
      clear hlk
      gi_wp2_with (refine ⟨trivial, rfl, ?_⟩; gi_at_call 67; refine (callsIn_wide.2 EE.out).mono ?_; rintro e w' ⟨rfl, rfl⟩)
      obtain ⟨h1, h2, h3, h6, h7, h8⟩ := HH.out
      refine ⟨Keeps.refl _ _, h1, h2, h3, h6, h7, fun j hj => ?_⟩
      by_cases hji : j < i
      · exact h8 j hji
      · obtain rfl : j = i := by omega
        exact LK.out
    · have LK := Lib.hid hlk
      rw [show decide (l i = k i) = false from by simpa using hlk] at EE
      clear hlk
      gi_wp2_with (refine ⟨trivial, rfl, ?_⟩; gi_at_call 67; refine (callsIn_wide.2 EE.out).mono ?_; rintro e w' ⟨rfl, rfl⟩)
      obtain ⟨h1, h2, h3, h6, h7, h8⟩ := HH.out
      have other : ∀ j, j ≠ w.heap.size + 1 → (W'.setCell ⟨w.heap.size + 1, 0, none⟩ (.bool false)).heap[j]? = W'.heap[j]? := fun j hj => heap_setCell_other W' _ j _ hj
      refine ⟨⟨by simp, fun j hj _ => other j ?_⟩, rfl, ⟨h1.os, h1.tape, h1.output, by simpa using h1.size, fun j hj => (other j (by omega)).trans (h1.block j hj)⟩, (other _ (by omega)).trans h2, heap_setCell_same W' (w.heap.size + 1) 0 _ _ (.bool false) h3, h6, by simpa using h7, fun h => LK.out (h i hi4)⟩
      rcases hj with h | h | h | h
      · have := h6 j h; omega
      · exact h.elim
      · omega
      · omega
  case stop =>
    rintro c i O W2 _ ⟨rfl, h1, h2, h3, h6, h7, h8⟩ _ hD
    rw [B.out.2.1] at hD ⊢
    have HD := Lib.hid (And.intro hD (And.intro h1 (And.intro h3 h8)))
    clear hD h1 h2 h3 h6 h7 h8
    gi_wp2
    refine leaves_mark HD.out.1 (results_cell_one rfl _ _ ⟨w.heap.size + 1, 0, none⟩ (.bool false) rfl ?_ (by kernel_rfl)) ⟨false, rfl, ⟨fun h => (by cases h), fun h => absurd h.1 HD.out.2.2.2⟩, ?_⟩
    · exact (cell_of_row _ _ _ _ _ _ ((World.putObj_heap_other (by omega)).trans HD.out.2.2.1)).trans rfl
    · obtain ⟨hD, h1, _⟩ := HD.out
      exact ⟨h1.os, h1.tape, h1.output, by simpa using h1.size, fun j hj => (World.putObj_heap_other (by omega)).trans (h1.block j hj)⟩
  case done =>
    rintro O W2 ⟨h1, h2, h3, h6, h7, h8⟩ _ hD
    rw [B.out.2.1] at hD ⊢
    have ha : ∀ j, j < 4 → l j = k j := fun j hj => h8 j (by simpa [tapesL] using hj)
    have ne : Nonempty (Wd (Below W2.heap.size W2)) := ⟨⟨W2, Below.refl _ _⟩⟩
    have ltw : w.heap.size < W2.heap.size := by omega
    have ltq : q < W2.heap.size := by have := X.out.2.2.2.2.1; omega
    have ltq' : q' < W2.heap.size := by have := X.out.2.2.2.2.2; omega
    have y1 : ∀ x : Wd (Below W2.heap.size W2), x.world.cell? ⟨q, 5, none⟩ = some (.map (some m)) := fun x => (x.ok.cell (p := ⟨q, 5, none⟩) ltq).trans ((h1.cell (p := ⟨q, 5, none⟩) X.out.2.2.2.2.1).trans A.out.1)
    have y2 : ∀ x : Wd (Below W2.heap.size W2), x.world.cell? ⟨q', 5, none⟩ = some (.map (some m')) := fun x => (x.ok.cell (p := ⟨q', 5, none⟩) ltq').trans ((h1.cell (p := ⟨q', 5, none⟩) X.out.2.2.2.2.2).trans A.out.2.1)
    have y3 : ∀ x : Wd (Below W2.heap.size W2), x.world.cell? ⟨w.heap.size, 0, none⟩ = some (.pointer (some ⟨q', 5, none⟩)) := fun x => (x.ok.cell (p := ⟨w.heap.size, 0, none⟩) ltw).trans ((cell_of_row _ _ _ _ _ _ h2).trans rfl)
    have HD := Lib.hid (And.intro hD (And.intro h1 (And.intro h2 (And.intro h3 (And.intro h7 ha)))))
    clear hD h1 h2 h3 h6 h7 h8 ltw ltq ltq' ha
    have SX : ∀ W3, Below w.heap.size w W3 → SecMap W3.heap m f ∧ SecMap W3.heap m' g := fun W3 hb => by
      obtain ⟨x, y, _⟩ := X.out
      refine ⟨x.stays (hb.block m ?_), y.stays (hb.block m' ?_)⟩
      · obtain ⟨_, _, h, _⟩ := x; exact lt_of_row h
      · obtain ⟨_, _, h, _⟩ := y; exact lt_of_row h
    have SY := Lib.hid SX
    clear SX
    gi_wp2
    refine wpIn_wide.2 ?_
    refine wp_region_hoist (fun w' => ∃ x : Wd (Below W2.heap.size W2), w' = x.world) [22] (by kernel_rfl) ?_
    refine wpAnyI_reads [0, 1, 2, 3, 4, 5, 6, 7, 8] 14 _ ⟨⟨_, (Below.refl _ _).drew⟩, rfl⟩ (by kernel_rfl) ?_
    simp only [List.filterMap_cons, List.filterMap_nil, List.getElem?_toArray, List.getElem?_cons_succ, List.getElem?_cons_zero]
    iterate 9 (with_reducible refine wpHoist_step (fun K hK => ?_); simp only [hoists, sameUpon]; go_simp; refine hK _ ?_; clear hK K)
    with_reducible refine wpHoist_nil ?_
    refine wpAnyI_one 9 13 _ _ rfl (by kernel_rfl) ?_
    refine wpList_plain rfl fun K hK => ?_
    go_simp
    go_at_call 68
    refine (sameMap_c (w := W2.drew) (SY.out _ HD.out.2.1.drew).1 (SY.out _ HD.out.2.1.drew).2 X.out.2.2.2.1).mono ?_
    rintro e W3 ⟨r1, rfl, hr1, hb3⟩
    have hb3' : Below W2.heap.size W2 W3 := (Below.refl _ _).drew.trans hb3
    refine hK _ _ (wpList_nil ⟨rfl, fun _ => ⟨⟨_, hb3'⟩, rfl⟩, ?_⟩)
    clear hK K
    have H3 := Lib.hid (And.intro hr1 hb3')
    clear hr1 hb3
    cases r1
    · refine wpAnyI_reads [10, 11, 12, 13, 14, 15, 16, 17, 18, 19] 3 _ ⟨⟨_, hb3'⟩, rfl⟩ (by kernel_rfl) ?_
      simp only [List.filterMap_cons, List.filterMap_nil, List.getElem?_toArray, List.getElem?_cons_succ, List.getElem?_cons_zero]
      iterate 10 (with_reducible refine wpHoist_step (fun K hK => ?_); simp only [hoists, sameUpon]; go_simp; refine hK _ ?_; clear hK K)
      with_reducible refine wpHoist_nil ?_
      refine wpAnyI_one 20 2 _ _ rfl (by kernel_rfl) ?_
      with_reducible refine wpList_step fun K hK => ?_
      go_simp
      refine hK _ _ (wpList_nil ⟨rfl, fun _ => ⟨⟨_, hb3'⟩, rfl⟩, ?_⟩)
      clear hK K
      have h3r : W3.heap[w.heap.size + 1]? = some (.cells #[.bool false] 4 (0, 0)) := (hb3'.block _ (by have := HD.out.2.2.2.2.1; omega)).trans HD.out.2.2.2.1
      have z1 : W3.frozen? ⟨w.heap.size + 1, 0, none⟩ = false := by simp [World.frozen?, h3r]
      have c1 : W3.cell? ⟨w.heap.size + 1, 0, none⟩ = some (.bool false) := (cell_of_row _ _ _ _ _ _ h3r).trans rfl
      have R3 := Lib.hid h3r
      clear h3r
      refine wpAnyI_reads [21] 1 _ ⟨⟨_, hb3'⟩, rfl⟩ (by kernel_rfl) ?_
      simp only [List.filterMap_cons, List.filterMap_nil, List.getElem?_toArray, List.getElem?_cons_succ, List.getElem?_cons_zero]
      iterate 1 (with_reducible refine wpHoist_step (fun K hK => ?_); simp only [hoists, sameUpon]; go_simp; refine hK _ ?_; clear hK K)
      with_reducible refine wpHoist_nil ?_
      refine wpAnyI_one 22 0 _ _ rfl (by kernel_rfl) ?_
      refine wpList_plain rfl fun K hK => ?_
      go_simp
      refine hK _ _ (wpList_nil ⟨rfl, fun h => absurd (by decide) h, by kernel_rfl, ?_⟩)
      clear hK K
      have EN := Lib.hid (stand_end false HD.out.2.1 HD.out.1 HD.out.2.2.2.1 HD.out.2.2.2.2.1 hb3')
      clear z1 c1
      gi_wp2
      refine leaves_mark EN.out.1 (results_cell_one rfl _ _ ⟨w.heap.size + 1, 0, none⟩ (.bool false) rfl ((cell_of_row _ _ _ _ _ _ EN.out.2.1).trans rfl) (by kernel_rfl)) ⟨false, rfl, ⟨fun h => (by cases h), fun h => H3.out.1.2 (fun n _ => (h.2 n).symm)⟩, EN.out.2.2⟩
    · refine wpAnyI_reads [10, 11, 12, 13, 14, 15, 16, 17, 18, 19] 3 _ ⟨⟨_, hb3'⟩, rfl⟩ (by kernel_rfl) ?_
      simp only [List.filterMap_cons, List.filterMap_nil, List.getElem?_toArray, List.getElem?_cons_succ, List.getElem?_cons_zero]
      iterate 10 (with_reducible refine wpHoist_step (fun K hK => ?_); simp only [hoists, sameUpon]; go_simp; refine hK _ ?_; clear hK K)
      with_reducible refine wpHoist_nil ?_
      refine wpAnyI_one 20 2 _ _ rfl (by kernel_rfl) ?_
      with_reducible refine wpList_step fun K hK => ?_
      go_simp
      go_at_call 68
      have hb03 : Below w.heap.size w W3 := HD.out.2.1.trans (hb3'.mono HD.out.2.1.size)
      refine (sameMap_c (w := W3) (SY.out _ hb03).2 (SY.out _ hb03).1 X.out.2.2.1).mono ?_
      rintro e W4 ⟨r2, rfl, hr2, hb4⟩
      have hb4' : Below W2.heap.size W2 W4 := hb3'.trans (hb4.mono hb3'.size)
      refine hK _ _ (wpList_nil ⟨rfl, fun _ => ⟨⟨_, hb4'⟩, rfl⟩, ?_⟩)
      clear hK K
      have H4 := Lib.hid (And.intro hr2 (And.intro hb03 hb4'))
      clear hr2 hb4 hb03
      have h3r : W4.heap[w.heap.size + 1]? = some (.cells #[.bool false] 4 (0, 0)) := (hb4'.block _ (by have := HD.out.2.2.2.2.1; omega)).trans HD.out.2.2.2.1
      have z1 : W4.frozen? ⟨w.heap.size + 1, 0, none⟩ = false := by simp [World.frozen?, h3r]
      have c1 : W4.cell? ⟨w.heap.size + 1, 0, none⟩ = some (.bool false) := (cell_of_row _ _ _ _ _ _ h3r).trans rfl
      have R4 := Lib.hid h3r
      clear h3r
      refine wpAnyI_reads [21] 1 _ ⟨⟨_, hb4'⟩, rfl⟩ (by kernel_rfl) ?_
      simp only [List.filterMap_cons, List.filterMap_nil, List.getElem?_toArray, List.getElem?_cons_succ, List.getElem?_cons_zero]
      iterate 1 (with_reducible refine wpHoist_step (fun K hK => ?_); simp only [hoists, sameUpon]; go_simp; refine hK _ ?_; clear hK K)
      with_reducible refine wpHoist_nil ?_
      refine wpAnyI_one 22 0 _ _ rfl (by kernel_rfl) ?_
      refine wpList_plain rfl fun K hK => ?_
      go_simp
      refine hK _ _ (wpList_nil ⟨rfl, fun h => absurd (by decide) h, by kernel_rfl, ?_⟩)
      clear hK K
      have EN := Lib.hid (stand_end r2 HD.out.2.1 HD.out.1 HD.out.2.2.2.1 HD.out.2.2.2.2.1 hb4')
      clear z1 c1
      gi_wp2
      refine leaves_mark EN.out.1 (results_cell_one rfl _ _ ⟨w.heap.size + 1, 0, none⟩ (.bool r2) rfl ((cell_of_row _ _ _ _ _ _ EN.out.2.1).trans rfl) (by kernel_rfl)) ⟨r2, rfl, maps_same HD.out.2.2.2.2.2 (SY.out _ HD.out.2.1.drew).1 (SY.out _ H4.out.2.1).2 (by have := H3.out.1; simpa using this) H4.out.1, EN.out.2.2⟩

end Go.Proofs.Ytiefhmbpaoecfaa

namespace Go.Proofs.Ytiefhmbpaoecfaa
open Go.RowKit Dm

/-- A slice of bytes of one's own: a whole block from base on. -/
def FreshBytes (h : Array Obj) (base : Nat) (v : Value) (l : List UInt8) : Prop :=
  (v = .slice none 0 0 ∧ l = []) ∨ ∃ (b cap : Nat) (c : Array Value) (t : TypeId), v = .slice (some ⟨b, 0, none⟩) l.length cap ∧ l.length ≤ cap ∧ cap ≤ 9223372036854775807 ∧
    base ≤ b ∧ h[b]? = some (.cells c t (0, 0)) ∧ ∀ (i : Nat) (x : UInt8), l[i]? = some x → c[i]? = some (bval x)

theorem FreshBytes.bytes {h : Array Obj} {base : Nat} {v : Value} {l : List UInt8} (x : FreshBytes h base v l) : BytesAt h (fun k => base ≤ k) v l := by
  rcases x with x | ⟨b, cap, c, t, h1, h2, h3, h4, h5, h6⟩
  · exact Or.inl x
  · exact Or.inr ⟨b, 0, cap, c, t, (0, 0), h1, h2, h3, h4, h5, fun i x hi => by rw [Nat.zero_add]; exact h6 i x hi⟩

theorem FreshBytes.mono {h : Array Obj} {base base' : Nat} {v : Value} {l : List UInt8} (x : FreshBytes h base v l) (hb : base' ≤ base) : FreshBytes h base' v l := by
  rcases x with x | ⟨b, cap, c, t, h1, h2, h3, h4, h5, h6⟩
  · exact Or.inl x
  · exact Or.inr ⟨b, cap, c, t, h1, h2, h3, by omega, h5, h6⟩

theorem fresh_of_owns {w : World} {base : Nat} {v : Value} {n : Nat} {l : List UInt8} (h : w.ownsRow base tByte 1 v n (l.map bval)) (hn : n = l.length) : FreshBytes w.heap base v l := by
  subst hn
  obtain ⟨_, h⟩ := h
  rcases h with ⟨rfl, h⟩ | ⟨g, cap, cur, rfl, hg, hh, h1, h2, h3, h4⟩
  · exact Or.inl ⟨rfl, by simpa using h⟩
  · refine Or.inr ⟨g, cap, cur, tByte, rfl, h1, by unfold maxLen at h2; omega, hg, hh, fun i x hi => ?_⟩
    have hlt : i < l.length := (List.getElem?_eq_some_iff.1 hi).1
    have e : (cur.toList.take (l.length * 1))[i]? = some (bval x) := by rw [h4]; simp [hi]
    rw [List.getElem?_take, if_pos (by omega)] at e
    simpa using e

/-- A call that hands back new bytes. -/
def GivesFresh (w : World) (l : List UInt8) (e : Ending) (w' : World) : Prop := ∃ v', e = .returned v' ∧ Below w.heap.size w w' ∧ FreshBytes w'.heap w.heap.size v' l

set_option maxRecDepth 100000 in
theorem clone_fresh (b o cap : Nat) (l : List UInt8) (w : World) (hl : l.length ≤ 1099511627776) (hc : ∀ i x, l[i]? = some x → w.cell? ⟨b, o + i, none⟩ = some (bval x)) :
    Calls Try.prog 43 #[.slice (some ⟨b, o, none⟩) l.length cap] w (GivesFresh w l) := by
  obtain ⟨i0, hi, hz0, hz1, hz2⟩ := info_parts infoByte
  have hown : (w.alloc (.cells #[] tByte)).ownsRow w.heap.size tByte 1 (.slice (some ⟨w.heap.size, 0, none⟩) 0 0) 0 [] :=
    ⟨rfl, Or.inr ⟨w.heap.size, 0, #[], rfl, Nat.le_refl _, heap_alloc_last _ _, Nat.le_refl _, Nat.zero_le _, rfl, rfl⟩⟩
  have HC := Lib.hid hc
  have HO := Lib.hid hown
  have HI := Lib.hid (And.intro hi (And.intro hz0 (And.intro hz1 hz2)))
  clear hc hown hi hz0 hz1 hz2
  have s2 : ∀ j u, (l.map bval)[j]? = some u → (w.alloc (.cells #[] tByte)).cell? ((⟨b, o, none⟩ : Addr).add j) = some u := by
    intro j u hj
    obtain ⟨x, hx, rfl⟩ : ∃ x, l[j]? = some x ∧ bval x = u := by simpa using hj
    have hadd : (⟨b, o, none⟩ : Addr).add j = ⟨b, o + j, none⟩ := by unfold Addr.add; split <;> simp_all
    have hc := HC.out j x hx
    rw [hadd, World.cell?_alloc_past _ _ _ (block_lt_of_cell hc)]
    exact hc
  have s3 : ∀ u ∈ l.map bval, u.oneCell' = true := by
    intro u hu
    obtain ⟨x, _, rfl⟩ := List.mem_map.1 hu
    rfl
  have HS := Lib.hid (And.intro s2 s3)
  clear s2 s3
  have hnil := fun (w : World) (a : Option Addr) (n c : Nat) => Lib.run_eql_slice_nil (P := Try.prog) w 36 tByte a n c 0 0 Try.underlying36
  go_enter Try.func43, Try.ntmps43
  go_wp2_with (at_builtin; refine wpList_append_own _ rfl (.tmp 5) (.tmp 6) 36 rfl w.heap.size tByte i0 (.int .u8 0) 1 1 Try.underlying36 HI.out.1 HI.out.2.1 HI.out.2.2.1 HI.out.2.2.2 rfl (by decide) _ 0 [] rfl HO.out ⟨b, o, none⟩ l.length cap (l.map bval) rfl (by simp) HS.out.1 HS.out.2 (by unfold maxLen; omega) (by omega) (by simp) ?_; intro v' w1 hown1 hgrow _)
  go_ret
  refine ⟨_, rfl, (((Below.refl _ _).alloc (Nat.le_refl _) _).grown hgrow (by simp) (fun k e => by cases e; exact Nat.le_refl _)), ?_⟩
  rw [List.nil_append] at hown1
  exact fresh_of_owns hown1 (by simp)

theorem clone_f {w : World} {G : Nat → Prop} {v : Value} {l : List UInt8} (x : BytesAt w.heap G v l) (hl : l.length ≤ 1099511627776) : Calls Try.prog 43 #[v] w (GivesFresh w l) := by
  rcases x with ⟨rfl, rfl⟩ | ⟨b, o, cap, c, t, fr, rfl, h2, h3, g2, g3, g4⟩
  · refine (clone_nil w).mono ?_
    rintro e w' ⟨rfl, rfl⟩
    exact ⟨_, rfl, Below.refl _ _, Or.inl ⟨rfl, rfl⟩⟩
  · exact clone_fresh b o cap l w hl (fun i x hi => (cell_of_row _ _ _ _ _ _ g3).trans (g4 i x hi))

/-! Tape. -/
theorem tape_none (v : Value) (t : Int) (w : World) (h : NoneD w v) : Calls Try.prog 19 #[v, .int .i64 t] w fun e w' => e = .returned (.tuple #[.slice none 0 0, .int .i64 1]) ∧ w = w' := by
  have H := Lib.hid h
  clear h
  go_enter Try.func19, Try.ntmps19
  go_wp2_with (go_at_call 33; refine (none_c H.out).mono ?_; rintro e w' ⟨rfl, rfl⟩)
  go_ret2
  exact ⟨rfl, rfl⟩

theorem tape_range (p : Nat) (t : Int) (w : World) (h : w.cell? ⟨p, 16, none⟩ = some (.bool true)) (hn : t < 0 ∨ 4 ≤ t) : Calls Try.prog 19 #[.pointer (some ⟨p, 0, none⟩), .int .i64 t] w fun e w' => e = .returned (.tuple #[.slice none 0 0, .int .i64 4]) ∧ w = w' := by
  by_cases hn0 : t < 0
  all_goals
    have hn2 : ¬ t < 0 → 4 ≤ t := fun h => by omega
    simp only [hn0, not_true_eq_false, not_false_eq_true, forall_const, false_implies] at hn2
    go_enter Try.func19, Try.ntmps19
    go_wp2_with (go_at_call 33; refine (none_at p true _ h).mono ?_; rintro e w' ⟨rfl, rfl⟩)
    go_ret2
    exact ⟨rfl, rfl⟩

theorem tape_live (p t : Nat) (v : Value) (l : List UInt8) (w : World) (F : Nat → Prop) (h : w.cell? ⟨p, 16, none⟩ = some (.bool true)) (ht : t < 4) (hq : w.cell? ⟨p, 1 + t, none⟩ = some v) (hv : BytesAt w.heap F v l) (hl : l.length ≤ 1099511627776) :
    Calls Try.prog 19 #[.pointer (some ⟨p, 0, none⟩), .int .i64 t] w fun e w' => ∃ v', e = .returned (.tuple #[v', .int .i64 0]) ∧ Below w.heap.size w w' ∧ FreshBytes w'.heap w.heap.size v' l := by
  have h1 : ¬ (t : Int) < 0 := by omega
  have h2 : ¬ 4 ≤ (t : Int) := by omega
  have h4 : (0 : Int) ≤ t := by omega
  have h5 : (t : Int) < 4 := by omega
  have h6 : ¬ 4 ≤ t := by omega
  have H := Lib.hid (clone_f hv hl)
  clear hv
  go_enter Try.func19, Try.ntmps19
  go_wp2_with (first | (go_at_call 33; refine (none_at p true _ h).mono ?_; rintro e w' ⟨rfl, rfl⟩) | (go_at_call 43; refine H.out.mono ?_; rintro e w' ⟨v', rfl, hb⟩))
  go_ret2
  exact ⟨v', rfl, hb⟩

/-- What a call that tells bytes hands back. -/
def Tells (w : World) (l : List UInt8) (c : Int) (e : Ending) (w' : World) : Prop := ∃ v', e = .returned (.tuple #[v', .int .i64 c]) ∧ Below w.heap.size w w' ∧ FreshBytes w'.heap w.heap.size v' l

theorem tape_c {p m : Nat} {d : D} {F : Nat → Prop} {w : World} (x : DiskAt w.heap p m d F) (t : Int) : Calls Try.prog 19 #[.pointer (some ⟨p, 0, none⟩), .int .i64 t] w
    (Tells w (if t < 0 ∨ t > 3 then [] else d.stand.tp t) (if t < 0 ∨ t > 3 then 4 else 0)) := by
  obtain ⟨k16, k11, k12, k13⟩ := x.cell16
  by_cases h1 : t < 0 ∨ t > 3
  · rw [if_pos h1, if_pos h1]
    refine (tape_range p t w k16 (by omega)).mono ?_
    rintro e w' ⟨rfl, rfl⟩
    exact ⟨_, rfl, Below.refl _ _, Or.inl ⟨rfl, rfl⟩⟩
  · rw [if_neg h1, if_neg h1]
    obtain ⟨t, rfl, ht⟩ := natOf (n := t) (k := 3) (by omega) (by omega)
    obtain ⟨ml, l0, l1, l2, l3, wv, stops, after, sa, ra⟩ := x.parts
    obtain ⟨v, hv, hf, bv⟩ := sa.cell.2 t (by omega)
    have := stand_tapes x.ok t
    have := x.ok.room1
    exact tape_live p t v _ w F k16 (by omega) hv bv (by omega)

/-! Read. -/
theorem read_none (v : Value) (t : Int) (w : World) (h : NoneD w v) : Calls Try.prog 17 #[v, .int .i64 t] w fun e w' => e = .returned (.tuple #[.slice none 0 0, .int .i64 1]) ∧ w = w' := by
  have H := Lib.hid h
  clear h
  go_enter Try.func17, Try.ntmps17
  go_wp2_with (go_at_call 33; refine (none_c H.out).mono ?_; rintro e w' ⟨rfl, rfl⟩)
  go_ret2
  exact ⟨rfl, rfl⟩

theorem read_range (p : Nat) (n many : Int) (w : World) (h : w.cell? ⟨p, 16, none⟩ = some (.bool true)) (h2 : w.cell? ⟨p, 11, none⟩ = some (.int .i64 many)) (hn : n < 0 ∨ many ≤ n) :
    Calls Try.prog 17 #[.pointer (some ⟨p, 0, none⟩), .int .i64 n] w fun e w' => e = .returned (.tuple #[.slice none 0 0, .int .i64 4]) ∧ w = w' := by
  by_cases hn0 : n < 0
  all_goals
    have hn2 : ¬ n < 0 → many ≤ n := fun h => by omega
    simp only [hn0, not_true_eq_false, not_false_eq_true, forall_const, false_implies] at hn2
    go_enter Try.func17, Try.ntmps17
    go_wp2_with (go_at_call 33; refine (none_at p true _ h).mono ?_; rintro e w' ⟨rfl, rfl⟩)
    go_ret2
    exact ⟨rfl, rfl⟩

set_option maxRecDepth 100000 in
set_option maxHeartbeats 1000000 in
theorem read_live (p m : Nat) (n many : Int) (f : Int → List UInt8) (w : World) (h : w.cell? ⟨p, 16, none⟩ = some (.bool true)) (h2 : w.cell? ⟨p, 11, none⟩ = some (.int .i64 many)) (h0 : w.cell? ⟨p, 0, none⟩ = some (.map (some m))) (hn0 : ¬ n < 0) (hn1 : ¬ many ≤ n)
    (hm : SecMap w.heap m f) (hl : (f n).length = 256) :
    Calls Try.prog 17 #[.pointer (some ⟨p, 0, none⟩), .int .i64 n] w (Tells w (f n) 0) := by
  have hlk := run_look_sec hm n
  clear hm
  have ha : (Try.prog.info? tSec).map (·.size) = some ((f n).map bval).toArray.size := by rw [infoSec]; simp [hl]
  have HA := Lib.hid ha
  have HL := Lib.hid hl
  clear ha hl
  generalize f n = l at *
  go_enter Try.func17, Try.ntmps17
  go_wp2_with (first
    | (go_at_call 33; refine (none_at p true _ h).mono ?_; rintro e w' ⟨rfl, rfl⟩)
    | (refine wpList_store_abs rfl tSec (.tmp 6) (.tmp 27) rfl w.heap.size (l.map bval).toArray rfl rfl tSec Try.zeroCells86 (heap_alloc_last w _) HA.out (by simp only [List.size_toArray, List.length_map, HL.out]; kernel_rfl) (all_bvals _) ?_
       intro W1 HW HM1 HS))
  go_ret2
  refine ⟨.slice (some ⟨w.heap.size, 0, none⟩) 256 256, rfl, Moves.new ((Below.refl _ _).alloc (Nat.le_refl _) _) HM1 (Nat.le_refl _), Or.inr ⟨w.heap.size, 256, _, tSec, by rw [HL.out], by rw [HL.out]; exact Nat.le_refl _, by decide, Nat.le_refl _, HW.out, fun i x hi => by simp [hi]⟩⟩

theorem read_c {p m : Nat} {d : D} {F : Nat → Prop} {w : World} (x : DiskAt w.heap p m d F) (n : Int) : Calls Try.prog 17 #[.pointer (some ⟨p, 0, none⟩), .int .i64 n] w
    (Tells w (if n < 0 ∨ n ≥ d.many then [] else d.stand.sec n) (if n < 0 ∨ n ≥ d.many then 4 else 0)) := by
  obtain ⟨k16, k11, k12, k13⟩ := x.cell16
  by_cases h1 : n < 0 ∨ n ≥ d.many
  · rw [if_pos h1, if_pos h1]
    refine (read_range p n d.many w k16 k11 h1).mono ?_
    rintro e w' ⟨rfl, rfl⟩
    exact ⟨_, rfl, Below.refl _ _, Or.inl ⟨rfl, rfl⟩⟩
  · rw [if_neg h1, if_neg h1]
    obtain ⟨ml, l0, l1, l2, l3, wv, stops, after, sa, ra⟩ := x.parts
    obtain ⟨k0, _⟩ := sa.cell
    obtain ⟨t0, t1, t2, t3, c1, c4, _⟩ := sa
    exact read_live p m n d.many d.stand.sec w k16 k11 k0 (by omega) (by omega) c4 (stand_secs x.ok n)

end Go.Proofs.Ytiefhmbpaoecfaa

namespace Go.Proofs.Ytiefhmbpaoecfaa
open Go.RowKit Dm

/-- A slice of m elements, of so many cells each, that holds the cells news. -/
def SrcAt (w : World) (size : Nat) (v : Value) (m : Nat) (news : List Value) : Prop :=
  (v = .slice none 0 0 ∧ m = 0 ∧ news = []) ∨ ∃ ad c, v = .slice (some ad) m c ∧ news.length = m * size ∧ (∀ (j : Nat) u, news[j]? = some u → w.cell? (ad.add j) = some u) ∧ ∀ u ∈ news, u.oneCell' = true

section
variable {P : Program} {ops : Array Oper}
theorem wpList_append_row {rest : List Oper} {o : Oper} {a : Act} {w : World} {Q : Exit → Act → World → Prop} (hgd : o.guard = none) (s x : Operand) (t : TypeId)
    (ho : o.op = .call { callee := .builtin .append, args := #[s, x], argTypes := #[t, t] })
    (B base : Nat) (w0 : World) (hb : Below B w0 w) (hB : B ≤ base) (e : TypeId) (z : Value) (size bytes : Nat) (ht : P.underlying t = some (.slice e)) (hi : (P.info? e).map (fun i => (i.zero, i.size, i.bytes)) = some (some z, size, bytes))
    (hzs : z.cells.size = size) (hsz : 0 < size)
    (v : Value) (n : Nat) (xs : List Value) (hs : a.eval s = v) (hown : w.ownsRow base e size v n xs)
    (v2 : Value) (m : Nat) (news : List Value) (hx : a.eval x = v2) (hsrc : SrcAt w size v2 m news)
    (h63 : n + m ≤ maxLen) (hbytes : (n + m) * bytes ≤ 140737488355328) (hbase : base ≤ w.heap.size)
    (h : ∀ v' w', Hid (w'.ownsRow base e size v' (n + m) (xs ++ news)) → Below B w0 w' → Below base w w' → wpList P ops Q rest (a.put o.dst v') w') : wpList P ops Q (o :: rest) a w := by
  obtain ⟨i0, hi0, hz0, hz1, hz2⟩ := info_parts hi
  have hob : ∀ k, v.ownBlock = some k → base ≤ k := fun k e => by
    rcases hown.2 with ⟨h, _⟩ | ⟨g, cap, cur, h, hg, _⟩
    · rw [h] at e; cases e
    · rw [h] at e; cases e; exact hg
  rcases hsrc with ⟨rfl, rfl, rfl⟩ | ⟨ad, c, rfl, g1, g2, g3⟩
  · refine wpList_append_own_none hgd s x t ho base e i0 size ht hi0 v n xs hs hown hx (h v w ?_ hb (Below.refl _ _))
    rw [List.append_nil, Nat.add_zero]
    exact hown
  · refine wpList_append_own w hgd s x t ho base e i0 z size bytes ht hi0 hz0 hz1 hz2 hzs hsz v n xs hs hown ad m c news hx g1 g2 g3 h63 hbytes hbase ?_
    intro v' w' ho' hg _
    exact h v' w' ho' (hb.grown hg (by omega) (fun k e => by have := hob k e; omega)) ((Below.refl _ _).grown hg hbase hob)
end

/-- Bytes of one's own. -/
abbrev OwnB (w : World) (base : Nat) (v : Value) (l : List UInt8) : Prop := w.ownsRow base tByte 1 v l.length (l.map bval)

theorem BytesAt.src {w : World} {G : Nat → Prop} {v : Value} {l : List UInt8} (x : BytesAt w.heap G v l) : SrcAt w 1 v l.length (l.map bval) := by
  rcases x with ⟨rfl, rfl⟩ | ⟨b, o, cap, c, t, fr, rfl, h2, h3, g2, g3, g4⟩
  · exact Or.inl ⟨rfl, rfl, rfl⟩
  · refine Or.inr ⟨⟨b, o, none⟩, cap, rfl, by simp, fun j u hj => ?_, fun u hu => ?_⟩
    · obtain ⟨x, hx, rfl⟩ : ∃ x, l[j]? = some x ∧ bval x = u := by simpa using hj
      rw [addr_add, cell_of_row _ _ _ _ _ _ g3]
      exact g4 j x hx
    · obtain ⟨x, _, rfl⟩ := List.mem_map.1 hu
      rfl

theorem own_empty (w : World) : OwnB (w.alloc (.cells #[] tByte)) w.heap.size (.slice (some ⟨w.heap.size, 0, none⟩) 0 0) [] :=
  ⟨rfl, Or.inr ⟨w.heap.size, 0, #[], rfl, Nat.le_refl _, heap_alloc_last _ _, Nat.le_refl _, Nat.zero_le _, rfl, rfl⟩⟩

theorem OwnB.bytes {w : World} {base : Nat} {v : Value} {l : List UInt8} (h : OwnB w base v l) : FreshBytes w.heap base v l := fresh_of_owns h rfl

theorem wpList_append_bytes {ops : Array Oper} {rest : List Oper} {o : Oper} {a : Act} {w : World} {Q : Exit → Act → World → Prop} (hgd : o.guard = none) (s x : Operand)
    (ho : o.op = .call { callee := .builtin .append, args := #[s, x], argTypes := #[tBytes, tBytes] })
    (B base : Nat) (w0 : World) (hb : Below B w0 w) (hB : B ≤ base) (v : Value) (l1 : List UInt8) (hs : a.eval s = v) (hown : OwnB w base v l1)
    (v2 : Value) (l2 : List UInt8) (G : Nat → Prop) (hx : a.eval x = v2) (hsrc : BytesAt w.heap G v2 l2)
    (hl : l1.length + l2.length ≤ 1099511627776) (hbase : base ≤ w.heap.size)
    (h : ∀ v' w', Hid (OwnB w' base v' (l1 ++ l2)) → Below B w0 w' → Below base w w' → wpList Try.prog ops Q rest (a.put o.dst v') w') : wpList Try.prog ops Q (o :: rest) a w := by
  refine wpList_append_row hgd s x tBytes ho B base w0 hb hB tByte (.int .u8 0) 1 1 Try.underlying36 infoByte rfl (by decide) v l1.length (l1.map bval) hs hown v2 l2.length (l2.map bval) hx hsrc.src (by unfold maxLen; omega) (by omega) hbase ?_
  intro v' w' ho' h1 h2
  refine h v' w' ?_ h1 h2
  have := ho'.out
  unfold OwnB
  rw [List.length_append, List.map_append]
  exact this

end Go.Proofs.Ytiefhmbpaoecfaa
