/-
  wire: a reader tries to take something.
  wire: a reader tries to take something: it goes; it does not.
  wire: Number.
  wire: what Text, Truth and End take.
-/
import Derived.Test.YtgffifleflkjoaaGreatG03
import Derived.Test.YtgffifleflkjoaaGreatG17
import Derived.Test.YtgffifleflkjoaaGreatG28

namespace Go.Proofs.YtgffifleflkjoaaGreat
open Go.RowKit Dm

abbrev tErrno : Nat := 24
abbrev tRest : Nat := 251

theorem run_wlacks (w : World) : (Instr.typeAssert (.iface tWLacks (.agg #[])) 20 tWLacks true).run Tryz.prog w = .ok (.tuple #[.agg #[], .bool true]) w := by kernel_rfl

theorem wcatch_idle (a b c : Addr) (w : World) :
    CallsD Tryz.prog 201 #[.pointer (some a), .pointer (some b), .pointer (some c)] .returning w fun e u' w' => e = .returned (.tuple #[]) ∧ u' = .returning ∧ w' = w := by
  refine callsD_of_wpS Tryz.func201 rfl fun c₀ cs hu => ?_
  apply wpS_seq
  apply wpS_region
  simp [wpOpsS, go_sem, recoverD, hu, Tryz.ntmps201, Exit.thenS]
  refine wpS_of_wp ?_
  simp only [Array.replicate_succ, Array.replicate_zero, List.push_toArray, List.append_toArray, List.nil_append, List.cons_append, List.setIfInBounds_toArray, List.set_cons_succ, List.set_cons_zero]
  go_wp2
  cases c₀
  simp_all [bodyPostS, results, Tryz.results201]

set_option maxHeartbeats 2000000 in
theorem wcatch_up {a b c q : Nat} {v0 v1 x : Value} {ba : Array Value} (older : List PanicEntry) {w : World} (ca : w.cell? ⟨a, 0, none⟩ = some v0) (cb : w.cell? ⟨b, 0, none⟩ = some (.pointer (some ⟨q, 0, none⟩))) (rc : w.heap[c]? = some (.cells #[x] tErrno (0, 0)))
    (rq : w.heap[q]? = some (.cells #[v1, .bool true, .bool false] tReader (0, 0))) (hv : ∃ s n m, v0 = .slice s n m) (hcq : c ≠ q) :
    CallsD Tryz.prog 201 #[.pointer (some ⟨a, 0, none⟩), .pointer (some ⟨b, 0, none⟩), .pointer (some ⟨c, 0, none⟩)] (.panicking ({ v := .iface tWLacks (.agg #[]), recovered := false } :: older)) w fun e u' w' =>
      e = .returned (.tuple #[]) ∧ u' = .panicking ({ v := .iface tWLacks (.agg #[]), recovered := true } :: older) ∧ Moves (fun k => k = q ∨ k = c) w w' ∧ w'.cell? ⟨c, 0, none⟩ = some (.int .i64 140) := by
  obtain ⟨s, n, m, rfl⟩ := hv
  refine callsD_of_wpS Tryz.func201 rfl fun c₀ cs hu => ?_
  have hrl := run_wlacks
  apply wpS_seq
  apply wpS_region
  simp [wpOpsS, go_sem, recoverD, hu, Tryz.ntmps201, Exit.thenS]
  refine wpS_of_wp ?_
  simp only [Array.replicate_succ, Array.replicate_zero, List.push_toArray, List.append_toArray, List.nil_append, List.cons_append, List.setIfInBounds_toArray, List.set_cons_succ, List.set_cons_zero]
  obtain ⟨W, hW⟩ : ∃ W, w.alloc (.cells #[] tWLacks) = W := ⟨_, rfl⟩
  have B : Below w.heap.size w W := by rw [← hW]; exact (Below.refl _ _).alloc (Nat.le_refl _) _
  have ka : W.cell? ⟨a, 0, none⟩ = some (.slice s n m) := cell_past B ca
  have kb : W.cell? ⟨b, 0, none⟩ = some (.pointer (some ⟨q, 0, none⟩)) := cell_past B cb
  have rq' := (B.block q (lt_of_row rq)).trans rq
  have rc' := (B.block c (lt_of_row rc)).trans rc
  have q0 := row_cell rq' (j := 0) rfl
  have q2 := row_cell rq' (j := 2) rfl
  have zq0 := row_free rq' 0
  have zq2 := row_free rq' 2
  have c0 := row_cell rc' (j := 0) rfl
  have zc0 := row_free rc' 0
  have HH := Lib.hid (And.intro B (And.intro rq' rc'))
  clear rq rc ca cb B rq' rc'
  go_wp2
  obtain ⟨B, rq', rc'⟩ := HH.out
  have m1 := setCell_moves W q 0 (.slice s n m)
  have m2 := setCell_moves (W.setCell ⟨q, 0, none⟩ (.slice s n m)) q 2 (.bool true)
  have m3 := setCell_moves ((W.setCell ⟨q, 0, none⟩ (.slice s n m)).setCell ⟨q, 2, none⟩ (.bool true)) c 0 (.int .i64 140)
  have r3 := (m2.block c (by have := m1.size; have := lt_of_row rc'; omega) hcq).trans ((m1.block c (lt_of_row rc') hcq).trans rc')
  have r4 := heap_setCell_same _ c 0 _ tErrno (.int .i64 140) r3
  have mv : Moves (fun k => k = q ∨ k = c) w (((W.setCell ⟨q, 0, none⟩ (.slice s n m)).setCell ⟨q, 2, none⟩ (.bool true)).setCell ⟨c, 0, none⟩ (.int .i64 140)) :=
    (Moves.of_below B).trans (((m1.mono (fun _ h => Or.inl h)).trans (m2.mono (fun _ h => Or.inl h)) (fun _ _ h => h)).trans (m3.mono (fun _ h => Or.inr h)) (fun _ _ h => h)) (fun _ _ h => h)
  have kc := row_cell r4 (j := 0) rfl
  generalize (((W.setCell ⟨q, 0, none⟩ (.slice s n m)).setCell ⟨q, 2, none⟩ (.bool true)).setCell ⟨c, 0, none⟩ (.int .i64 140)) = W' at mv kc ⊢
  simp [bodyPostS, results, Tryz.results201]
  exact ⟨mv, kc⟩

end Go.Proofs.YtgffifleflkjoaaGreat

namespace Go.Proofs.YtgffifleflkjoaaGreat
open Go.RowKit Dm

set_option maxRecDepth 100000 in
set_option maxHeartbeats 1000000 in
theorem wtry_yes {w : World} {q fn : Nat} {fs cs : Array Value} {l : List UInt8} {R : World → World → Prop} (h : RdAt w q l) (eg : ∀ args w, (callFunc fn args).run Tryz.prog w = .ok (.enter fn args) w)
    (HC : ∀ W, Below w.heap.size w W → Calls Tryz.prog fn (fs ++ cs) W fun e w' => e = .returned (.tuple #[]) ∧ R W w') (hR : ∀ W w', R W w' → Moves (fun k => k < w.heap.size) W w') :
    Calls Tryz.prog 175 #[.pointer (some ⟨q, 0, none⟩), .int .i64 0, .func (.func fn) fs cs] w fun e w' => e = .returned (.int .i64 0) ∧ ∃ W W' x, Below w.heap.size w W ∧ R W W' ∧ Moves (fun k => k = x) W' w' ∧ w.heap.size ≤ x := by
  have hmf : ∀ (fn : Fn) (first cap : Array Value) (w : World), (Instr.makeFunc fn first cap).run Tryz.prog w = .ok (.func fn first cap) w := fun _ _ _ _ => rfl
  have H := Lib.hid h
  obtain ⟨v, row, y⟩ := h
  obtain ⟨va, vc, rfl⟩ := y.slice
  have lq := lt_of_row row
  obtain ⟨W, hW⟩ : ∃ W, (w.alloc (.cells #[.pointer (some ⟨q, 0, none⟩)] tPReader)).alloc (.cells #[.int .i64 0] tErrno) = W := ⟨_, rfl⟩
  have B : Below w.heap.size w W := by rw [← hW]; exact ((Below.refl _ _).alloc (Nat.le_refl _) _).alloc (by simp) _
  have s : W.heap.size = w.heap.size + 2 := by rw [← hW]; simp
  have r3 : W.heap[w.heap.size]? = some (.cells #[.pointer (some ⟨q, 0, none⟩)] tPReader (0, 0)) := by rw [← hW]; exact heap_past (by simp) (heap_alloc_last w _)
  have r6 : W.heap[w.heap.size + 1]? = some (.cells #[.int .i64 0] tErrno (0, 0)) := by rw [← hW]; exact heap_at (w := w.alloc _) _ (by simp)
  have c3 : W.cell? ⟨w.heap.size, 0, none⟩ = some (.pointer (some ⟨q, 0, none⟩)) := row_cell r3 rfl
  have rq := (B.block q lq).trans row
  have q0 := row_cell rq (j := 0) rfl
  have q2 := row_cell rq (j := 2) rfl
  have NC := Lib.hid (fun (X : World) (hb : Below w.heap.size w X) => rnone_c (H.out.later hb))
  have HB := Lib.hid (And.intro B (And.intro s (And.intro r6 rq)))
  have HW := Lib.hid hW
  clear row y B r3 r6 rq hW
  go_enter_defers Tryz.func175, Tryz.ntmps175
  go_upto_region 1 with fail
  rw [HW.out]
  go_wp2_with (first
    | (go_at_call 200; refine (NC.out _ HB.out.1).mono ?_; rintro e w' ⟨rfl, rfl⟩)
    | (refine (HC _ (HB.out.1.alloc HB.out.1.size _)).mono ?_; rintro e w2 ⟨rfl, r2⟩
       have m2 := hR _ _ r2
       have t6 := (m2.block (w.heap.size + 1) (by have := HB.out.2.1; simp; omega) (by omega)).trans ((Below.heap_alloc _ _ _ (by have := HB.out.2.1; omega)).trans HB.out.2.2.1)
       have c6 := row_cell t6 (j := 0) rfl
       have z6 := row_free t6 0
       have H2 := Lib.hid (And.intro r2 t6)
       clear m2 t6 r2))
  refine leaves_cons (f := 201) (args := #[.pointer (some ⟨w.heap.size + 2, 0, none⟩), .pointer (some ⟨w.heap.size, 0, none⟩), .pointer (some ⟨w.heap.size + 1, 0, none⟩)]) (by simp) (by simp [go_sem]) ?_
  refine (wcatch_idle ⟨w.heap.size + 2, 0, none⟩ ⟨w.heap.size, 0, none⟩ ⟨w.heap.size + 1, 0, none⟩ _).mono ?_
  rintro e u' w'' ⟨rfl, rfl, rfl⟩
  have h1 : (w2.setCell ⟨w.heap.size + 1, 0, none⟩ (.int .i64 0)).cell? ⟨w.heap.size + 1, 0, none⟩ = some (.int .i64 0) := row_cell (heap_setCell_same _ _ 0 _ tErrno (.int .i64 0) H2.out.2) rfl
  have ms := setCell_moves w2 (w.heap.size + 1) 0 (.int .i64 0)
  simp [Leaves, settle, results, Tryz.results175, go_sem, h1]
  exact ⟨_, HB.out.1.alloc HB.out.1.size _, w2, H2.out.1, w.heap.size + 1, ms, by omega⟩

set_option maxRecDepth 100000 in
set_option maxHeartbeats 1000000 in
theorem wtry_no {w : World} {q fn : Nat} {fs cs : Array Value} {l : List UInt8} {R : World → World → Prop} (h : RdAt w q l) (eg : ∀ args w, (callFunc fn args).run Tryz.prog w = .ok (.enter fn args) w)
    (HC : ∀ W, Below w.heap.size w W → Calls Tryz.prog fn (fs ++ cs) W fun e w' => e = .panicked wGave ∧ R W w') (hR : ∀ W w', Below w.heap.size w W → R W w' → Moves (fun k => k = q) W w' ∧ ∃ v', w'.heap[q]? = some (.cells #[v', .bool true, .bool false] tReader (0, 0))) :
    Calls Tryz.prog 175 #[.pointer (some ⟨q, 0, none⟩), .int .i64 0, .func (.func fn) fs cs] w fun e w' => e = .returned (.int .i64 140) ∧ Moves (fun k => k = q) w w' := by
  have hmf : ∀ (fn : Fn) (first cap : Array Value) (w : World), (Instr.makeFunc fn first cap).run Tryz.prog w = .ok (.func fn first cap) w := fun _ _ _ _ => rfl
  have H := Lib.hid h
  obtain ⟨v, row, y⟩ := h
  obtain ⟨va, vc, rfl⟩ := y.slice
  have lq := lt_of_row row
  obtain ⟨W, hW⟩ : ∃ W, (w.alloc (.cells #[.pointer (some ⟨q, 0, none⟩)] tPReader)).alloc (.cells #[.int .i64 0] tErrno) = W := ⟨_, rfl⟩
  have B : Below w.heap.size w W := by rw [← hW]; exact ((Below.refl _ _).alloc (Nat.le_refl _) _).alloc (by simp) _
  have s : W.heap.size = w.heap.size + 2 := by rw [← hW]; simp
  have r3 : W.heap[w.heap.size]? = some (.cells #[.pointer (some ⟨q, 0, none⟩)] tPReader (0, 0)) := by rw [← hW]; exact heap_past (by simp) (heap_alloc_last w _)
  have r6 : W.heap[w.heap.size + 1]? = some (.cells #[.int .i64 0] tErrno (0, 0)) := by rw [← hW]; exact heap_at (w := w.alloc _) _ (by simp)
  have c3 : W.cell? ⟨w.heap.size, 0, none⟩ = some (.pointer (some ⟨q, 0, none⟩)) := row_cell r3 rfl
  have rq := (B.block q lq).trans row
  have q0 := row_cell rq (j := 0) rfl
  have q2 := row_cell rq (j := 2) rfl
  have NC := Lib.hid (fun (X : World) (hb : Below w.heap.size w X) => rnone_c (H.out.later hb))
  have HB := Lib.hid (And.intro B (And.intro s (And.intro r6 rq)))
  have HW := Lib.hid hW
  clear row y B r3 r6 rq hW
  go_enter_defers Tryz.func175, Tryz.ntmps175
  go_upto_region 1 with fail
  rw [HW.out]
  go_wp2_with (first
    | (go_at_call 200; refine (NC.out _ HB.out.1).mono ?_; rintro e w' ⟨rfl, rfl⟩)
    | (refine (HC _ (HB.out.1.alloc HB.out.1.size _)).mono ?_; rintro e w2 ⟨rfl, r2⟩
       obtain ⟨m2, v2, rv⟩ := hR _ _ (HB.out.1.alloc HB.out.1.size _) r2
       have H2 := Lib.hid (And.intro m2 rv)
       clear m2 rv r2))
  obtain ⟨B, s, r6, rq⟩ := HB.out
  obtain ⟨m2, rv⟩ := H2.out
  have s' : (W.alloc (.cells #[.slice va l.length vc] tRest)).heap.size = w.heap.size + 3 := by simp; omega
  have k6 : w2.heap[w.heap.size + 1]? = some (.cells #[.int .i64 0] tErrno (0, 0)) := (m2.block _ (by simp only [World.size_alloc]; omega) (by omega)).trans ((Below.heap_alloc _ _ _ (by omega)).trans r6)
  have k7 : w2.heap[w.heap.size + 2]? = some (.cells #[.slice va l.length vc] tRest (0, 0)) := (m2.block _ (by simp only [World.size_alloc]; omega) (by omega)).trans (heap_at _ (by omega))
  have k3 : w2.cell? ⟨w.heap.size, 0, none⟩ = some (.pointer (some ⟨q, 0, none⟩)) := (World.cell?_of_block (m2.block w.heap.size (by simp only [World.size_alloc]; omega) (by omega))).trans ((World.cell?_of_block (Below.heap_alloc _ _ _ (by simp only; omega))).trans c3)
  refine leaves_cons (f := 201) (args := #[.pointer (some ⟨w.heap.size + 2, 0, none⟩), .pointer (some ⟨w.heap.size, 0, none⟩), .pointer (some ⟨w.heap.size + 1, 0, none⟩)]) (by simp) (by simp [go_sem]) ?_
  refine (wcatch_up (a := w.heap.size + 2) (b := w.heap.size) (c := w.heap.size + 1) (ba := #[]) [] (row_cell k7 rfl) k3 k6 rv ⟨_, _, _, rfl⟩ (by omega)).mono ?_
  rintro e u' w'' ⟨rfl, rfl, m3, h1⟩
  simp [Leaves, settle, results, Tryz.results175, go_sem, h1]
  exact ((Moves.of_below (B.alloc B.size _)).trans m2 (fun _ _ h => h)).trans m3 (fun i hi h => by rcases h with h | h; exact h; omega)

end Go.Proofs.YtgffifleflkjoaaGreat

namespace Go.Proofs.YtgffifleflkjoaaGreat
open Go.RowKit Dm

theorem Moves.low {O O' : Nat → Prop} {A B : World} (h : Moves O A B) (ho : ∀ i, i < A.heap.size → O i → O' i) : Moves O' A B := ⟨h.os, h.tape, h.output, h.size, fun i hi hn => h.block i hi (fun e => hn (ho i hi e))⟩

theorem RdAt.moves {w w' : World} {q : Nat} {l : List UInt8} {O : Nat → Prop} (h : RdAt w q l) (hm : Moves O w w') (ho : ∀ k, k ≤ q → ¬ O k) : RdAt w' q l := by
  obtain ⟨v, r, y⟩ := h
  exact ⟨v, (hm.block q (lt_of_row r) (ho q (Nat.le_refl _))).trans r, y.keeps (fun k hk hl => hm.block k hl (ho k (Nat.le_of_lt hk))) (fun _ hk _ => hk)⟩

/-- What a reader's call leaves. -/
theorem rd_end {w W X X' w5 : World} {q g x0 : Nat} {l : List UInt8} {u : Value} (B : Below w.heap.size w W) (b5 : Below W.heap.size W X) (h5 : RdAt X' q l) (m5 : Moves (fun k => k = q ∨ k = g) X X') (n5 : Moves (fun k => k = x0) X' w5)
    (hx : W.heap.size ≤ x0) (hg : w.heap.size ≤ g) (lq : q < w.heap.size) : RdAt (w5.setCell ⟨g, 0, none⟩ u) q l ∧ Moves (fun k => k = q) w (w5.setCell ⟨g, 0, none⟩ u) := by
  have ms := setCell_moves w5 g 0 u
  have sB := B.size
  refine ⟨(h5.moves n5 (fun k hk => by omega)).moves ms (fun k hk => by omega), ?_⟩
  have b := B.trans (b5.mono B.size)
  exact (((Moves.of_below b).trans m5 (fun _ _ h => h)).trans (n5.mono (O' := fun k => k = x0 ∨ k = g) (fun _ h => Or.inl h)) (fun i hi h => by rcases h with h | h; omega; exact Or.inr h) |>.trans (ms.mono (O' := fun k => k = q ∨ k = g) (fun _ h => Or.inr h)) (fun _ _ h => h)).low (fun i hi h => by rcases h with h | h; exact h; omega)

/-- And where nothing was taken. -/
theorem rd_fail {w W w5 : World} {q g : Nat} {u : Value} (B : Below w.heap.size w W) (m5 : Moves (fun k => k = q) W w5) (hg : w.heap.size ≤ g) : Moves (fun k => k = q) w (w5.setCell ⟨g, 0, none⟩ u) :=
  (((Moves.of_below B).trans m5 (fun _ _ h => h)).trans (setCell_moves w5 g 0 u) (fun i hi h => by omega))

abbrev tI64 : Nat := 2

set_option maxRecDepth 100000 in
theorem numclo_yes {w : World} {q g2 g3 g4 : Nat} {l r : List UInt8} {most n : Nat} {x : Int} (h : RdAt w q l) (hl : l.length ≤ 1000000000) (hr : Wm.rnum most l = some (n, r)) (c2 : w.cell? ⟨g2, 0, none⟩ = some (.pointer (some ⟨q, 0, none⟩))) (c3 : w.cell? ⟨g3, 0, none⟩ = some (.int .i64 most))
    (r4 : w.heap[g4]? = some (.cells #[.int .i64 x] tI64 (0, 0))) (h4 : q < g4) :
    Calls Tryz.prog 198 #[.pointer (some ⟨g2, 0, none⟩), .pointer (some ⟨g3, 0, none⟩), .pointer (some ⟨g4, 0, none⟩)] w fun e w' => e = .returned (.tuple #[]) ∧ RdAt w' q r ∧ w'.heap[g4]? = some (.cells #[.int .i64 n] tI64 (0, 0)) ∧ Moves (fun k => k = q ∨ k = g4) w w' := by
  have NC := Lib.hid (rnumber_yes h hl hr)
  have l4 := lt_of_row r4
  clear h hr
  go_enter Tryz.func198, Tryz.ntmps198
  go_wp2_with (go_at_call 199; refine NC.out.mono ?_; rintro e w1 ⟨rfl, x1, m1⟩
               have t4 := (m1.block g4 l4 (by omega)).trans r4
               have k4 := row_cell t4 (j := 0) rfl
               have z4 := row_free t4 0
               have H1 := Lib.hid (And.intro x1 (And.intro m1 t4))
               clear x1 m1 t4)
  go_end0
  obtain ⟨x1, m1, t4⟩ := H1.out
  have ms := setCell_moves w1 g4 0 (.int .i64 n)
  obtain ⟨v1, e1, y1⟩ := x1
  refine ⟨rfl, ⟨v1, (ms.block q (lt_of_row e1) (by omega)).trans e1, y1.keeps (fun k hk hkl => ms.block k hkl (by omega)) (fun _ hk _ => hk)⟩, heap_setCell_same _ _ 0 _ _ _ t4, (m1.mono (fun _ h => Or.inl h)).trans (ms.mono (fun _ h => Or.inr h)) (fun _ _ h => h)⟩

set_option maxRecDepth 100000 in
theorem numclo_no {w : World} {q g2 g3 g4 : Nat} {l : List UInt8} {most : Nat} (h : RdAt w q l) (hl : l.length ≤ 1000000000) (hr : Wm.rnum most l = none) (c2 : w.cell? ⟨g2, 0, none⟩ = some (.pointer (some ⟨q, 0, none⟩))) (c3 : w.cell? ⟨g3, 0, none⟩ = some (.int .i64 most)) :
    Calls Tryz.prog 198 #[.pointer (some ⟨g2, 0, none⟩), .pointer (some ⟨g3, 0, none⟩), .pointer (some ⟨g4, 0, none⟩)] w fun e w' => e = .panicked wGave ∧ Below w.heap.size w w' := by
  have NC := Lib.hid (rnumber_no h hl hr)
  clear h hr
  go_enter Tryz.func198, Tryz.ntmps198
  go_wp2_with (go_at_call 199; refine NC.out.mono ?_; rintro e w1 ⟨rfl, b1⟩)
  exact ⟨rfl, rfl, b1⟩

set_option maxRecDepth 100000 in
set_option maxHeartbeats 1000000 in
theorem number_yes {w : World} {q : Nat} {l r : List UInt8} {most n : Nat} (h : RdAt w q l) (hl : l.length ≤ 1000000000) (hr : Wm.rnum most l = some (n, r)) :
    Calls Tryz.prog 174 #[.pointer (some ⟨q, 0, none⟩), .int .i64 most] w fun e w' => e = .returned (.tuple #[.int .i64 n, .int .i64 0]) ∧ RdAt w' q r ∧ Moves (fun k => k = q) w w' := by
  have hmf : ∀ (fn : Fn) (first cap : Array Value) (w : World), (Instr.makeFunc fn first cap).run Tryz.prog w = .ok (.func fn first cap) w := fun _ _ _ _ => rfl
  obtain ⟨W, hW⟩ : ∃ W, ((w.alloc (.cells #[.pointer (some ⟨q, 0, none⟩)] tPReader)).alloc (.cells #[.int .i64 most] tI64)).alloc (.cells #[.int .i64 0] tI64) = W := ⟨_, rfl⟩
  have B : Below w.heap.size w W := by rw [← hW]; exact (((Below.refl _ _).alloc (Nat.le_refl _) _).alloc (by simp) _).alloc (by simp; omega) _
  have s : W.heap.size = w.heap.size + 3 := by rw [← hW]; simp
  have r2 : W.heap[w.heap.size]? = some (.cells #[.pointer (some ⟨q, 0, none⟩)] tPReader (0, 0)) := by rw [← hW]; exact heap_past (by simp; omega) (heap_past (by simp) (heap_alloc_last w _))
  have r3 : W.heap[w.heap.size + 1]? = some (.cells #[.int .i64 most] tI64 (0, 0)) := by rw [← hW]; exact heap_past (by simp) (heap_at (w := w.alloc _) _ (by simp))
  have r4 : W.heap[w.heap.size + 1 + 1]? = some (.cells #[.int .i64 0] tI64 (0, 0)) := by rw [← hW]; exact heap_at (w := (w.alloc _).alloc _) _ (by simp)
  have lq := h.lt
  have hx := h.later B
  have TC := Lib.hid (wtry_yes (w := W.drew) (q := q) (fn := 198) (fs := #[]) (cs := #[.pointer (some ⟨w.heap.size, 0, none⟩), .pointer (some ⟨w.heap.size + 1, 0, none⟩), .pointer (some ⟨w.heap.size + 1 + 1, 0, none⟩)])
    (R := fun X X' => RdAt X' q r ∧ X'.heap[w.heap.size + 1 + 1]? = some (.cells #[.int .i64 n] tI64 (0, 0)) ∧ Moves (fun k => k = q ∨ k = w.heap.size + 1 + 1) X X') (hx.later (Below.refl _ _).drew) (enters_of Tryz.func198 (by kernel_rfl) rfl)
    (fun X hb => by
      rw [Array.empty_append]
      have hb' : Below W.heap.size W X := ((Below.refl W.heap.size W).drew).trans hb
      exact numclo_yes (hx.later hb') hl hr (cell_past hb' (row_cell r2 rfl)) (cell_past hb' (row_cell r3 rfl)) ((hb'.block _ (lt_of_row r4)).trans r4) (by omega))
    (fun X X' hX => hX.2.2.mono (fun k hk => by show k < W.heap.size; omega)))
  have ne : Nonempty (Wd (Below W.heap.size W)) := ⟨⟨_, Below.refl _ _⟩⟩
  have f2 : ∀ x : Wd (Below W.heap.size W), x.world.cell? ⟨w.heap.size, 0, none⟩ = some (.pointer (some ⟨q, 0, none⟩)) := fun x => cell_past x.ok (row_cell r2 rfl)
  have f3 : ∀ x : Wd (Below W.heap.size W), x.world.cell? ⟨w.heap.size + 1, 0, none⟩ = some (.int .i64 most) := fun x => cell_past x.ok (row_cell r3 rfl)
  have HB := Lib.hid (And.intro B (And.intro s lq))
  have HW := Lib.hid hW
  clear hW r2 r3 r4 hx h B s lq
  go_enter Tryz.func174, Tryz.ntmps174
  go_upto_region 1 with fail
  rw [HW.out]
  refine wp_region_hoist (fun w' => ∃ x : Wd (Below W.heap.size W), w' = x.world) [4, 5] (by kernel_rfl) ?_
  refine wpAnyI_reads [0, 1, 3] 3 _ ⟨⟨_, (Below.refl _ _).drew⟩, rfl⟩ (by kernel_rfl) ?_
  simp only [List.filterMap_cons, List.filterMap_nil, List.getElem?_toArray, List.getElem?_cons_succ, List.getElem?_cons_zero]
  iterate 3 (with_reducible refine wpHoist_step (fun K hK => ?_); simp only [hoists, sameUpon]; go_simp; refine hK _ ?_; clear hK K)
  with_reducible refine wpHoist_nil ?_
  refine wpAnyI_one 2 2 _ _ rfl (by kernel_rfl) ?_
  refine wpList_plain rfl fun K hK => ?_
  go_simp
  go_at_call 197
  refine (wbound_c _ most).mono ?_
  rintro e w' ⟨rfl, rfl⟩
  refine hK _ _ (wpList_nil ⟨rfl, fun _ => ⟨⟨_, (Below.refl _ _).drew⟩, rfl⟩, ?_⟩)
  clear hK K
  refine wpAnyI_one 4 1 _ _ rfl (by kernel_rfl) ?_
  refine wpList_plain rfl fun K hK => ?_
  go_simp
  go_at_call 175
  refine TC.out.mono ?_
  rintro e w5 ⟨rfl, X, X', x0, b5, ⟨h5, t5, m5⟩, n5, hx0⟩
  have H5 := Lib.hid (And.intro b5 (And.intro h5 (And.intro t5 (And.intro m5 (And.intro n5 hx0)))))
  clear b5 h5 t5 m5 n5 hx0
  refine hK _ _ (wpList_nil ⟨rfl, fun h => absurd (by decide) h, ?_⟩)
  clear hK K
  refine wpAnyI_pure [5] 0 _ (by kernel_rfl) ?_
  simp only [List.filterMap_cons, List.filterMap_nil, List.getElem?_toArray, List.getElem?_cons_succ, List.getElem?_cons_zero]
  repeat (refine wpHoist_step (fun K hK => ?_); simp only [hoists, sameUpon]; go_simp; refine hK _ ?_; clear hK K)
  refine wpHoist_nil ?_
  refine ⟨by kernel_rfl, ?_⟩
  obtain ⟨b5, h5, t5, m5, n5, hx0⟩ := H5.out
  obtain ⟨B, sz, lq⟩ := HB.out
  have hx0 : W.heap.size ≤ x0 := hx0
  have t6 : w5.heap[w.heap.size + 1 + 1]? = some (.cells #[.int .i64 n] tI64 (0, 0)) := (n5.block _ (lt_of_row t5) (by omega)).trans t5
  have c6 := row_cell t6 (j := 0) rfl
  have z6 := row_free t6 0
  have c7 := row_cell (heap_setCell_same _ _ 0 _ tI64 (.int .i64 n) t6) (j := 0) rfl
  obtain ⟨k1, k2⟩ := rd_end (u := .int .i64 n) B (((Below.refl W.heap.size W).drew).trans b5) h5 m5 n5 hx0 (by omega : w.heap.size ≤ w.heap.size + 1 + 1) lq
  have HE := Lib.hid (And.intro c7 (And.intro k1 k2))
  clear b5 h5 t5 m5 n5 hx0 sz lq B t6 c7 k1 k2
  go_wp2
  exact bodyPost_ret (results_cell_tmp' (p := 4) (u := 5) rfl _ _ ⟨w.heap.size + 1 + 1, 0, none⟩ _ rfl HE.out.1 (by kernel_rfl)) rfl ⟨rfl, HE.out.2.1, HE.out.2.2⟩

set_option maxRecDepth 100000 in
set_option maxHeartbeats 1000000 in
theorem number_no {w : World} {q : Nat} {l : List UInt8} {most : Nat} (h : RdAt w q l) (hl : l.length ≤ 1000000000) (hr : Wm.rnum most l = none) :
    Calls Tryz.prog 174 #[.pointer (some ⟨q, 0, none⟩), .int .i64 most] w fun e w' => e = .returned (.tuple #[.int .i64 0, .int .i64 140]) ∧ Moves (fun k => k = q) w w' := by
  have hmf : ∀ (fn : Fn) (first cap : Array Value) (w : World), (Instr.makeFunc fn first cap).run Tryz.prog w = .ok (.func fn first cap) w := fun _ _ _ _ => rfl
  obtain ⟨W, hW⟩ : ∃ W, ((w.alloc (.cells #[.pointer (some ⟨q, 0, none⟩)] tPReader)).alloc (.cells #[.int .i64 most] tI64)).alloc (.cells #[.int .i64 0] tI64) = W := ⟨_, rfl⟩
  have B : Below w.heap.size w W := by rw [← hW]; exact (((Below.refl _ _).alloc (Nat.le_refl _) _).alloc (by simp) _).alloc (by simp; omega) _
  have s : W.heap.size = w.heap.size + 3 := by rw [← hW]; simp
  have r2 : W.heap[w.heap.size]? = some (.cells #[.pointer (some ⟨q, 0, none⟩)] tPReader (0, 0)) := by rw [← hW]; exact heap_past (by simp; omega) (heap_past (by simp) (heap_alloc_last w _))
  have r3 : W.heap[w.heap.size + 1]? = some (.cells #[.int .i64 most] tI64 (0, 0)) := by rw [← hW]; exact heap_past (by simp) (heap_at (w := w.alloc _) _ (by simp))
  have r4 : W.heap[w.heap.size + 1 + 1]? = some (.cells #[.int .i64 0] tI64 (0, 0)) := by rw [← hW]; exact heap_at (w := (w.alloc _).alloc _) _ (by simp)
  have lq := h.lt
  have hx := h.later B
  have TC := Lib.hid (wtry_no (w := W.drew) (q := q) (fn := 198) (fs := #[]) (cs := #[.pointer (some ⟨w.heap.size, 0, none⟩), .pointer (some ⟨w.heap.size + 1, 0, none⟩), .pointer (some ⟨w.heap.size + 1 + 1, 0, none⟩)])
    (R := fun X X' => Below X.heap.size X X') (hx.later (Below.refl _ _).drew) (enters_of Tryz.func198 (by kernel_rfl) rfl)
    (fun X hb => by
      rw [Array.empty_append]
      have hb' : Below W.heap.size W X := ((Below.refl W.heap.size W).drew).trans hb
      exact numclo_no (hx.later hb') hl hr (cell_past hb' (row_cell r2 rfl)) (cell_past hb' (row_cell r3 rfl)))
    (fun X X' hb hX => by
      obtain ⟨v, rq, _⟩ := hx.later (((Below.refl W.heap.size W).drew).trans hb)
      exact ⟨Moves.of_below hX, v, (hX.block q (lt_of_row rq)).trans rq⟩))
  have ne : Nonempty (Wd (Below W.heap.size W)) := ⟨⟨_, Below.refl _ _⟩⟩
  have f2 : ∀ x : Wd (Below W.heap.size W), x.world.cell? ⟨w.heap.size, 0, none⟩ = some (.pointer (some ⟨q, 0, none⟩)) := fun x => cell_past x.ok (row_cell r2 rfl)
  have f3 : ∀ x : Wd (Below W.heap.size W), x.world.cell? ⟨w.heap.size + 1, 0, none⟩ = some (.int .i64 most) := fun x => cell_past x.ok (row_cell r3 rfl)
  have HB := Lib.hid (And.intro B (And.intro s (And.intro lq r4)))
  have HW := Lib.hid hW
  clear hW r2 r3 r4 hx h B s lq
  go_enter Tryz.func174, Tryz.ntmps174
  go_upto_region 1 with fail
  rw [HW.out]
  refine wp_region_hoist (fun w' => ∃ x : Wd (Below W.heap.size W), w' = x.world) [4, 5] (by kernel_rfl) ?_
  refine wpAnyI_reads [0, 1, 3] 3 _ ⟨⟨_, (Below.refl _ _).drew⟩, rfl⟩ (by kernel_rfl) ?_
  simp only [List.filterMap_cons, List.filterMap_nil, List.getElem?_toArray, List.getElem?_cons_succ, List.getElem?_cons_zero]
  iterate 3 (with_reducible refine wpHoist_step (fun K hK => ?_); simp only [hoists, sameUpon]; go_simp; refine hK _ ?_; clear hK K)
  with_reducible refine wpHoist_nil ?_
  refine wpAnyI_one 2 2 _ _ rfl (by kernel_rfl) ?_
  refine wpList_plain rfl fun K hK => ?_
  go_simp
  go_at_call 197
  refine (wbound_c _ most).mono ?_
  rintro e w' ⟨rfl, rfl⟩
  refine hK _ _ (wpList_nil ⟨rfl, fun _ => ⟨⟨_, (Below.refl _ _).drew⟩, rfl⟩, ?_⟩)
  clear hK K
  refine wpAnyI_one 4 1 _ _ rfl (by kernel_rfl) ?_
  refine wpList_plain rfl fun K hK => ?_
  go_simp
  go_at_call 175
  refine TC.out.mono ?_
  rintro e w5 ⟨rfl, m5⟩
  have H5 := Lib.hid m5
  clear m5
  refine hK _ _ (wpList_nil ⟨rfl, fun h => absurd (by decide) h, ?_⟩)
  clear hK K
  refine wpAnyI_pure [5] 0 _ (by kernel_rfl) ?_
  simp only [List.filterMap_cons, List.filterMap_nil, List.getElem?_toArray, List.getElem?_cons_succ, List.getElem?_cons_zero]
  repeat (refine wpHoist_step (fun K hK => ?_); simp only [hoists, sameUpon]; go_simp; refine hK _ ?_; clear hK K)
  refine wpHoist_nil ?_
  refine ⟨by kernel_rfl, ?_⟩
  obtain ⟨B, sz, lq, r4⟩ := HB.out
  have m5 : Moves (fun k => k = q) W w5 := (Moves.of_below ((Below.refl W.heap.size W).drew)).trans H5.out (fun _ _ h => h)
  have t6 : w5.heap[w.heap.size + 1 + 1]? = some (.cells #[.int .i64 0] tI64 (0, 0)) := (m5.block _ (lt_of_row r4) (by omega)).trans r4
  have c6 := row_cell t6 (j := 0) rfl
  have z6 := row_free t6 0
  have c7 := row_cell (heap_setCell_same _ _ 0 _ tI64 (.int .i64 0) t6) (j := 0) rfl
  have k2 := rd_fail (u := .int .i64 0) B m5 (by omega : w.heap.size ≤ w.heap.size + 1 + 1)
  have HE := Lib.hid (And.intro c7 k2)
  clear m5 sz lq B t6 c7 k2 r4
  go_wp2
  exact bodyPost_ret (results_cell_tmp' (p := 4) (u := 5) rfl _ _ ⟨w.heap.size + 1 + 1, 0, none⟩ _ rfl HE.out.1 (by kernel_rfl)) rfl ⟨rfl, HE.out.2⟩

end Go.Proofs.YtgffifleflkjoaaGreat

namespace Go.Proofs.YtgffifleflkjoaaGreat
open Go.RowKit Dm

/-- Nothing but the reader's own row, which stands. -/
def RdGone (q : Nat) (w w' : World) : Prop := Moves (fun k => k = q) w w' ∧ ∃ v, w'.heap[q]? = some (.cells #[v, .bool true, .bool false] tReader (0, 0))

theorem RdAt.gone {w w' : World} {q : Nat} {l : List UInt8} (h : RdAt w' q l) (hm : Moves (fun k => k = q) w w') : RdGone q w w' := by
  obtain ⟨v, r, _⟩ := h
  exact ⟨hm, v, r⟩

theorem rtext_eq (most : Nat) (l : List UInt8) : Wm.rtext most l = match Wm.rnum most l with | none => none | some (n, r) => if n > r.length then none else some (r.take n, r.drop n) := rfl

theorem rnum_len {most n : Nat} {l r : List UInt8} (h : Wm.rnum most l = some (n, r)) : r.length ≤ l.length ∧ n ≤ most ∧ n ≤ 4611686018427387904 := by
  rw [rnum_eq] at h
  by_cases hq : (Wm.first l).2 ≤ 0 ∨ (Wm.first l).1 > most
  · rw [if_pos hq] at h; cases h
  · rw [if_neg hq] at h
    have := Option.some.inj h
    have e1 : (Wm.first l).1 = n := congrArg Prod.fst this
    have e2 : l.drop (Wm.first l).2.toNat = r := congrArg Prod.snd this
    have := (not_or.1 hq).2
    have := (first_bounds l).2
    refine ⟨by rw [← e2, List.length_drop]; omega, by omega, by omega⟩

set_option maxRecDepth 100000 in
set_option maxHeartbeats 1000000 in
theorem textclo_yes {w : World} {q g2 g3 g4 : Nat} {l r s : List UInt8} {most : Nat} {x : Value} (h : RdAt w q l) (hl : l.length ≤ 1000000000) (hr : Wm.rtext most l = some (s, r)) (c2 : w.cell? ⟨g2, 0, none⟩ = some (.pointer (some ⟨q, 0, none⟩))) (c3 : w.cell? ⟨g3, 0, none⟩ = some (.int .i64 most))
    (r4 : w.heap[g4]? = some (.cells #[x] 9 (0, 0))) (h2 : q < g2) (h4 : q < g4) :
    Calls Tryz.prog 202 #[.pointer (some ⟨g2, 0, none⟩), .pointer (some ⟨g3, 0, none⟩), .pointer (some ⟨g4, 0, none⟩)] w fun e w' => e = .returned (.tuple #[]) ∧ RdAt w' q r ∧ w'.heap[g4]? = some (.cells #[strOfB s] 9 (0, 0)) ∧ Moves (fun k => k = q ∨ k = g4) w w' := by
  rw [rtext_eq] at hr
  cases hn : Wm.rnum most l with
  | none => rw [hn] at hr; cases hr
  | some p =>
    obtain ⟨n, r0⟩ := p
    rw [hn] at hr
    simp only at hr
    by_cases hq : n > r0.length
    · rw [if_pos hq] at hr; cases hr
    · rw [if_neg hq] at hr
      obtain ⟨rfl, rfl⟩ : r0.take n = s ∧ r0.drop n = r := by
        have := Option.some.inj hr
        exact ⟨congrArg Prod.fst this, congrArg Prod.snd this⟩
      have NC := Lib.hid (rnumber_yes h hl hn)
      obtain ⟨k1, k2, k3⟩ := rnum_len hn
      have d1 : n ≤ r0.length := by omega
      have d2 : (n : Int) ≤ (r0.length : Int) := by omega
      have HN := Lib.hid (And.intro d1 (show r0.length ≤ 1000000000 by omega))
      have l2 := block_lt_of_cell c2
      have R4 := Lib.hid (And.intro r4 (lt_of_row r4))
      clear h hr hn hq r4 d1 k1 k2 k3
      go_enter Tryz.func202, Tryz.ntmps202
      go_wp2_with (first
        | (go_at_call 199; refine NC.out.mono ?_; rintro e w1 ⟨rfl, x1, m1⟩
           have t2 : w1.cell? ⟨g2, 0, none⟩ = some (.pointer (some ⟨q, 0, none⟩)) := (World.cell?_of_block (m1.block g2 l2 (by omega))).trans c2
           have TK := Lib.hid (take_yes x1 HN.out.1 HN.out.2)
           have H1 := Lib.hid (And.intro x1 m1)
           obtain ⟨v1, e1, y1⟩ := x1
           obtain ⟨a1, cc, rfl⟩ := y1.slice
           have c0 : w1.cell? ⟨q, 0, none⟩ = some (.slice a1 r0.length cc) := row_cell e1 rfl
           clear m1 e1 y1 c2 c3)
        | (go_at_call 177; refine (wmust_yes _).mono ?_; rintro e w' ⟨rfl, rfl⟩)
        | (go_at_call 203; refine TK.out.mono ?_; rintro e w2 ⟨v2, rfl, y2, x2, m2⟩
           have hcv := run_string_of y2
           have t4 := (m2.block g4 (by have := R4.out.2; have := H1.out.2.size; omega) (by omega)).trans ((H1.out.2.block g4 R4.out.2 (by omega)).trans R4.out.1)
           have z4 := row_free t4 0
           have k4 := row_cell t4 (j := 0) rfl
           have H2 := Lib.hid (And.intro x2 (And.intro m2 t4))
           clear y2 x2 m2 t4))
      go_end0
      obtain ⟨x2, m2, t4⟩ := H2.out
      have ms := setCell_moves w2 g4 0 (strOfB (r0.take n))
      exact ⟨rfl, x2.moves ms (fun k hk => by omega), heap_setCell_same _ _ 0 _ _ _ t4, ((H1.out.2.trans m2 (fun _ _ h => h)).mono (fun _ h => Or.inl h)).trans (ms.mono (fun _ h => Or.inr h)) (fun _ _ h => h)⟩

set_option maxRecDepth 100000 in
set_option maxHeartbeats 1000000 in
theorem textclo_no {w : World} {q g2 g3 g4 : Nat} {l : List UInt8} {most : Nat} (h : RdAt w q l) (hl : l.length ≤ 1000000000) (hr : Wm.rtext most l = none) (c2 : w.cell? ⟨g2, 0, none⟩ = some (.pointer (some ⟨q, 0, none⟩))) (c3 : w.cell? ⟨g3, 0, none⟩ = some (.int .i64 most)) (h2 : q < g2) :
    Calls Tryz.prog 202 #[.pointer (some ⟨g2, 0, none⟩), .pointer (some ⟨g3, 0, none⟩), .pointer (some ⟨g4, 0, none⟩)] w fun e w' => e = .panicked wGave ∧ RdGone q w w' := by
  rw [rtext_eq] at hr
  cases hn : Wm.rnum most l with
  | none =>
    have NC := Lib.hid (rnumber_no h hl hn)
    have H := Lib.hid h
    clear h hr hn
    go_enter Tryz.func202, Tryz.ntmps202
    go_wp2_with (go_at_call 199; refine NC.out.mono ?_; rintro e w1 ⟨rfl, b1⟩)
    exact ⟨rfl, rfl, (H.out.later b1).gone (Moves.of_below b1)⟩
  | some p =>
    obtain ⟨n, r0⟩ := p
    rw [hn] at hr
    simp only at hr
    by_cases hq : n > r0.length
    · have NC := Lib.hid (rnumber_yes h hl hn)
      have d2 : ¬ n ≤ r0.length := by omega
      have l2 := block_lt_of_cell c2
      clear h hr hn hq
      go_enter Tryz.func202, Tryz.ntmps202
      go_wp2_with (first
        | (go_at_call 199; refine NC.out.mono ?_; rintro e w1 ⟨rfl, x1, m1⟩
           have t2 : w1.cell? ⟨g2, 0, none⟩ = some (.pointer (some ⟨q, 0, none⟩)) := (World.cell?_of_block (m1.block g2 l2 (by omega))).trans c2
           have H1 := Lib.hid (And.intro x1 m1)
           obtain ⟨v1, e1, y1⟩ := x1
           obtain ⟨a1, cc, rfl⟩ := y1.slice
           have c0 : w1.cell? ⟨q, 0, none⟩ = some (.slice a1 r0.length cc) := row_cell e1 rfl
           clear m1 e1 y1 c2 c3)
        | (go_at_call 177; refine (wmust_no _).mono ?_; rintro e w' ⟨rfl, rfl⟩))
      exact ⟨rfl, rfl, H1.out.1.gone H1.out.2⟩
    · rw [if_neg hq] at hr; cases hr

set_option maxRecDepth 100000 in
theorem truthclo_yes {w : World} {q g1 g2 : Nat} {l r : List UInt8} {b : Bool} {x : Value} (h : RdAt w q l) (hl : l.length ≤ 1000000000) (hr : Wm.rtruth l = some (b, r)) (c1 : w.cell? ⟨g1, 0, none⟩ = some (.pointer (some ⟨q, 0, none⟩)))
    (r4 : w.heap[g2]? = some (.cells #[x] 4 (0, 0))) (h4 : q < g2) :
    Calls Tryz.prog 204 #[.pointer (some ⟨g1, 0, none⟩), .pointer (some ⟨g2, 0, none⟩)] w fun e w' => e = .returned (.tuple #[]) ∧ RdAt w' q r ∧ w'.heap[g2]? = some (.cells #[.bool b] 4 (0, 0)) ∧ Moves (fun k => k = q ∨ k = g2) w w' := by
  cases l with
  | nil => cases hr
  | cons c l =>
    have hr' : (if c > 1 then none else some (c == 1, l)) = some (b, r) := hr
    by_cases hc : c > 1
    · rw [if_pos hc] at hr'; cases hr'
    · rw [if_neg hc] at hr'
      obtain ⟨rfl, rfl⟩ : (c == 1) = b ∧ l = r := by
        have := Option.some.inj hr'
        exact ⟨congrArg Prod.fst this, congrArg Prod.snd this⟩
      have TK := Lib.hid (take_yes (n := 1) h (by simp) hl)
      have cN : c.toNat ≤ 1 := by
        have h1 : ¬ (1 : UInt8) < c := hc
        have := UInt8.not_lt.1 h1
        exact UInt8.le_iff_toNat_le.1 this
      have d1 : (c.toNat : Int) ≤ 1 := by omega
      have e1 : ((c.toNat : Int) == 1) = (c == 1) := by
        by_cases h1 : c = 1
        · subst h1; rfl
        · have : ¬ c.toNat = 1 := fun h2 => h1 (UInt8.toNat_inj.1 h2)
          have h3 : ¬ (c.toNat : Int) = 1 := by omega
          have a1 : ((c.toNat : Int) == 1) = false := by rw [beq_eq_false_iff_ne]; exact h3
          have a2 : (c == 1) = false := by rw [beq_eq_false_iff_ne]; exact h1
          rw [a1, a2]
      have R4 := Lib.hid (And.intro r4 (lt_of_row r4))
      clear h hr hr' hc r4
      go_enter Tryz.func204, Tryz.ntmps204
      go_wp2_with (first
        | (go_at_call 203; refine TK.out.mono ?_; rintro e w2 ⟨v2, rfl, y2, x2, m2⟩
           have t4 := (m2.block g2 R4.out.2 (by omega)).trans R4.out.1
           have z4 := row_free t4 0
           have k4 := row_cell t4 (j := 0) rfl
           have H2 := Lib.hid (And.intro x2 (And.intro m2 t4))
           obtain ⟨b0, o0, cap0, hv0, _, _, hcell⟩ : ∃ b0 o0 cap0, v2 = .slice (some ⟨b0, o0, none⟩) 1 cap0 ∧ 1 ≤ cap0 ∧ cap0 ≤ 9223372036854775807 ∧ w2.cell? ⟨b0, o0, none⟩ = some (.int .u8 c.toNat) := by
             rcases y2 with ⟨_, h⟩ | ⟨b0, o0, cap0, cs, t, fr, e0, h1, h2, _, h4, h5⟩
             · simp at h
             · exact ⟨b0, o0, cap0, e0, h1, h2, (cell_of_row _ _ _ _ _ _ h4).trans (h5 0 c rfl)⟩
           subst hv0
           clear y2 x2 m2 t4)
        | (go_at_call 177; refine (wmust_yes _).mono ?_; rintro e w' ⟨rfl, rfl⟩))
      go_end0
      obtain ⟨x2, m2, t4⟩ := H2.out
      have ms := setCell_moves w2 g2 0 (.bool (c == 1))
      exact ⟨rfl, x2.moves ms (fun k hk => by omega), heap_setCell_same _ _ 0 _ _ _ t4, (m2.mono (fun _ h => Or.inl h)).trans (ms.mono (fun _ h => Or.inr h)) (fun _ _ h => h)⟩

set_option maxRecDepth 100000 in
theorem truthclo_no {w : World} {q g1 g2 : Nat} {l : List UInt8} (h : RdAt w q l) (hl : l.length ≤ 1000000000) (hr : Wm.rtruth l = none) (c1 : w.cell? ⟨g1, 0, none⟩ = some (.pointer (some ⟨q, 0, none⟩))) :
    Calls Tryz.prog 204 #[.pointer (some ⟨g1, 0, none⟩), .pointer (some ⟨g2, 0, none⟩)] w fun e w' => e = .panicked wGave ∧ RdGone q w w' := by
  cases l with
  | nil =>
    have TK := Lib.hid (take_no (n := 1) h (by simp) (by decide))
    have H := Lib.hid h
    clear h hr
    go_enter Tryz.func204, Tryz.ntmps204
    go_wp2_with (go_at_call 203; refine TK.out.mono ?_; rintro e w2 ⟨rfl, rfl⟩)
    exact ⟨rfl, rfl, H.out.gone (Moves.refl _ _)⟩
  | cons c l =>
    have hr' : (if c > 1 then none else some (c == 1, l)) = none := hr
    by_cases hc : c > 1
    · have TK := Lib.hid (take_yes (n := 1) h (by simp) hl)
      have cN : 1 < c.toNat := UInt8.lt_iff_toNat_lt.1 hc
      have d1 : ¬ (c.toNat : Int) ≤ 1 := by omega
      have d2 : decide ((c.toNat : Int) ≤ 1) = false := by rw [decide_eq_false_iff_not]; exact d1
      have d3 : ¬ c.toNat ≤ 1 := by omega
      clear h hr hr' hc
      go_enter Tryz.func204, Tryz.ntmps204
      go_wp2_with (first
        | (go_at_call 203; refine TK.out.mono ?_; rintro e w2 ⟨v2, rfl, y2, x2, m2⟩
           have H2 := Lib.hid (And.intro x2 m2)
           obtain ⟨b0, o0, cap0, hv0, _, _, hcell⟩ : ∃ b0 o0 cap0, v2 = .slice (some ⟨b0, o0, none⟩) 1 cap0 ∧ 1 ≤ cap0 ∧ cap0 ≤ 9223372036854775807 ∧ w2.cell? ⟨b0, o0, none⟩ = some (.int .u8 c.toNat) := by
             rcases y2 with ⟨_, h⟩ | ⟨b0, o0, cap0, cs, t, fr, e0, h1, h2, _, h4, h5⟩
             · simp at h
             · exact ⟨b0, o0, cap0, e0, h1, h2, (cell_of_row _ _ _ _ _ _ h4).trans (h5 0 c rfl)⟩
           subst hv0
           clear y2 x2 m2)
        | (go_at_call 177; refine (wmust_no _).mono ?_; rintro e w' ⟨rfl, rfl⟩))
      exact ⟨rfl, rfl, H2.out.1.gone H2.out.2⟩
    · rw [if_neg hc] at hr'; cases hr'

set_option maxRecDepth 100000 in
theorem endclo_yes {w : World} {q g1 : Nat} (h : RdAt w q []) (c1 : w.cell? ⟨g1, 0, none⟩ = some (.pointer (some ⟨q, 0, none⟩))) :
    Calls Tryz.prog 176 #[.pointer (some ⟨g1, 0, none⟩)] w fun e w' => e = .returned (.tuple #[]) ∧ w = w' := by
  obtain ⟨v1, e1, y1⟩ := h
  obtain ⟨a1, cc, rfl⟩ := y1.slice
  have c0 : w.cell? ⟨q, 0, none⟩ = some (.slice a1 0 cc) := row_cell e1 rfl
  clear e1 y1
  go_enter Tryz.func176, Tryz.ntmps176
  go_wp2_with (go_at_call 177; refine (wmust_yes _).mono ?_; rintro e w' ⟨rfl, rfl⟩)
  go_end0
  exact ⟨rfl, rfl⟩

set_option maxRecDepth 100000 in
theorem endclo_no {w : World} {q g1 : Nat} {l : List UInt8} (h : RdAt w q l) (hl : l ≠ []) (c1 : w.cell? ⟨g1, 0, none⟩ = some (.pointer (some ⟨q, 0, none⟩))) :
    Calls Tryz.prog 176 #[.pointer (some ⟨g1, 0, none⟩)] w fun e w' => e = .panicked wGave ∧ w = w' := by
  obtain ⟨v1, e1, y1⟩ := h
  obtain ⟨a1, cc, rfl⟩ := y1.slice
  have c0 : w.cell? ⟨q, 0, none⟩ = some (.slice a1 l.length cc) := row_cell e1 rfl
  have d1 : ((l.length : Int) == 0) = false := by
    rw [beq_eq_false_iff_ne]
    have := List.length_pos_iff.2 hl
    omega
  clear e1 y1
  generalize l.length = L at *
  go_enter Tryz.func176, Tryz.ntmps176
  go_wp2_with (go_at_call 177; refine (wmust_no _).mono ?_; rintro e w' ⟨rfl, rfl⟩)
  exact ⟨rfl, rfl, rfl⟩

end Go.Proofs.YtgffifleflkjoaaGreat
