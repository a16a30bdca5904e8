/-
  The law's rows: do an engine's rows tell so?
  wire, plain: what is written is read back; a frame that is torn is none.
  evlog: what a tape tells, plain.
-/
import Derived.Test.YtgffifleflkjoaaGreatG11
import Derived.Test.YtgffifleflkjoaaGreatG12
import Derived.Test.YtgffifleflkjoaaGreatG25
import Derived.Test.YtgffifleflkjoaaGreatG26

namespace Go.Proofs.YtgffifleflkjoaaGreat
open Go.RowKit Dm
attribute [local go_sem] Oper.semAt_some

/-- A range over a function of two values, whose body may return. -/
theorem wpIn_rangeIter2r {α : Type} {P : Program} {g : Operand} {p q r s : Nat} {assign body : Code} {Q : Exit → Act → World → Prop} {a : Act} {w : World}
    {gf : Nat} {lb : Array Value} (hg : a.eval g = .func (.func gf) #[] lb) (eg : ∀ args w, (callFunc gf args).run P w = .ok (.enter gf args) w)
    {u v : α → Value} {xs : List α} {R : Nat → Prop} {w0 : World} (hseq : Iter P gf lb (fun x => #[u x, v x]) xs R w0) (hR : ∀ i, R i → i < w.heap.size) (hb0 : Below w0.heap.size w0 w)
    (I : Nat → (Nat → Prop) → World → Prop) (Ix : Nat → (Nat → Prop) → World → Prop) (hI : Stable I) (hIx : Stable Ix)
    (hIb : ∀ k O (r : Loop) (o : Obj) W, W.heap[w.heap.size + 1]? = some (.loop r) → I k O W → I k O (W.putObj (w.heap.size + 1) o))
    (hIxb : ∀ k O (r : Loop) (o : Obj) W, W.heap[w.heap.size + 1]? = some (.loop r) → Ix k O W → Ix k O (W.putObj (w.heap.size + 1) o))
    (h0 : ∀ W, Below w.heap.size w W → W.heap.size = w.heap.size + 2 → I 0 (fun _ => False) W)
    (hassign : ∀ (x : α) (l : Nat) (W : World), assign.wpIn (Fence.wide.inRound l) 0 P (Exit.then (fun a' W' => a' = { tmps := (((a.tmps.setIfInBounds p (u x)).setIfInBounds q (v x)).setIfInBounds r (u x)).setIfInBounds s (v x), defers := [] } ∧ W' = W) (fun _ _ _ => False))
      { tmps := (a.tmps.setIfInBounds p (u x)).setIfInBounds q (v x), defers := [] } W)
    (hbody : ∀ (k : Nat) (x : α) (O : Nat → Prop) (W : World), xs[k]? = some x → ¬ O (w.heap.size + 1) → ¬ O w.heap.size → I k O W →
      body.wpIn (Fence.wide.inRound (w.heap.size + 1)) 0 P (iterPost (fun i => O i ∨ R i ∨ i = w.heap.size + 1 ∨ i = w.heap.size) I (fun c k O W => c = .ret ∧ Ix k O W) xs k O W)
        { tmps := (((a.tmps.setIfInBounds p (u x)).setIfInBounds q (v x)).setIfInBounds r (u x)).setIfInBounds s (v x), defers := [] } W)
    (hdone : ∀ (O : Nat → Prop) (W : World), I xs.length O W → ¬ O w.heap.size → W.heap[w.heap.size]? = some (.deferred (some [])) → Q .normal { a with defers := { target := .collected w.heap.size, args := #[] } :: a.defers } W)
    (hstop : ∀ (k : Nat) (O : Nat → Prop) (W : World), k ≤ xs.length → Ix k O W → ¬ O w.heap.size → W.heap[w.heap.size]? = some (.deferred (some [])) → Code.ret.wpIn Fence.wide 0 P Q { a with defers := { target := .collected w.heap.size, args := #[] } :: a.defers } W) :
    (Code.rangeFunc g #[p, q] assign body).wpIn Fence.wide 0 P Q a w := by
  have hz : ∀ x, (#[p, q].zip #[u x, v x]).foldl (fun t (x : Nat × Value) => t.setIfInBounds x.1 x.2) a.tmps = (a.tmps.setIfInBounds p (u x)).setIfInBounds q (v x) := fun x => by simp
  refine wpIn_rangeIter hg eg hseq hR hb0 (fun _ => rfl) I (fun c k O W => c = .ret ∧ Ix k O W) hI (fun c k O O' A B h hm h1 h2 => ⟨h.1, hIx k O O' A B h.2 hm h1 h2⟩) hIb (fun c k O r o W h hx => ⟨hx.1, hIxb k O r o W h hx.2⟩) h0
    (fun x a' _ => a' = { tmps := (((a.tmps.setIfInBounds p (u x)).setIfInBounds q (v x)).setIfInBounds r (u x)).setIfInBounds s (v x), defers := [] }) (fun x a' W l r o _ h => h) ?_ ?_ ?_ ?_
  · intro k x O W hx hi _ _ _
    have := hassign x (w.heap.size + 1) W
    rw [← hz x] at this
    refine wpIn_mono this (fun e a' W' he => ?_)
    cases e with
    | normal =>
      obtain ⟨rfl, rfl⟩ := he
      exact ⟨hi, Keeps.refl _ _, by rw [hz x]⟩
    | ret => exact he
    | exit id => exact he
    | goto t => exact he
    | panic ch => exact he
    | outgrown => exact he
  · rintro k x O a' W hx _ _ h1 h2 hi rfl
    exact hbody k x O W hx h1 h2 hi
  · exact hdone
  · rintro c k O W hk ⟨rfl, hx⟩ ho hD
    exact hstop k O W hk hx ho hD

/-- Between two rounds: the result is not set, the count. -/
def RwI (W8 : World) (q4 q5 : Nat) (S : Nat → Int → Prop) (k : Nat) (O : Nat → Prop) (W : World) : Prop :=
  Moves (fun i => i = q4 ∨ i = q5) W8 W ∧ W.heap[q4]? = some (.cells #[.bool false] 4 (0, 0)) ∧ (∃ n : Int, W.heap[q5]? = some (.cells #[.int .i64 n] 3 (0, 0)) ∧ S k n) ∧ ∀ i, O i → W8.heap.size ≤ i

theorem rwI_stable {W8 : World} {q4 q5 : Nat} {S : Nat → Int → Prop} (h4 : q4 < W8.heap.size) (h5 : q5 < W8.heap.size) : Stable (RwI W8 q4 q5 S) := by
  rintro k O O' A B ⟨h1, h2, ⟨n, h3, hS⟩, ho⟩ hm ho1 ho2
  refine ⟨h1.trans hm (fun i hi h => absurd (ho i h) (by omega)), (hm.block q4 (lt_of_row h2) (fun h => absurd (ho q4 h) (by omega))).trans h2, ⟨n, (hm.block q5 (lt_of_row h3) (fun h => absurd (ho q5 h) (by omega))).trans h3, hS⟩, fun i hi => ?_⟩
  rcases ho2 i hi with h | h
  · exact ho i h
  · exact Nat.le_trans h1.size h

theorem rwI_put {W8 : World} {q4 q5 : Nat} {S : Nat → Int → Prop} (h4 : q4 < W8.heap.size) (h5 : q5 < W8.heap.size) (k : Nat) (O : Nat → Prop) (o : Obj) (W : World) (h : RwI W8 q4 q5 S k O W) : RwI W8 q4 q5 S k O (W.putObj (W8.heap.size + 1) o) := by
  obtain ⟨h1, h2, ⟨n, h3, hS⟩, ho⟩ := h
  exact ⟨h1.trans (moves_putObj (l := W8.heap.size + 1) o) (fun i hi h => by omega), (World.putObj_heap_other (by omega)).trans h2, ⟨n, (World.putObj_heap_other (by omega)).trans h3, hS⟩, ho⟩

theorem rwI_start {W8 : World} {q4 q5 : Nat} {S : Nat → Int → Prop} (r4 : W8.heap[q4]? = some (.cells #[.bool false] 4 (0, 0))) (r5 : W8.heap[q5]? = some (.cells #[.int .i64 0] 3 (0, 0))) (h0 : S 0 0) (W : World) (hb : Below W8.heap.size W8 W) : RwI W8 q4 q5 S 0 (fun _ => False) W :=
  ⟨Moves.of_below hb, (hb.block q4 (lt_of_row r4)).trans r4, ⟨0, (hb.block q5 (lt_of_row r5)).trans r5, h0⟩, fun i h => h.elim⟩

theorem RwI.row {W8 W : World} {q4 q5 k : Nat} {S : Nat → Int → Prop} {O : Nat → Prop} (h : RwI W8 q4 q5 S k O W) {b : Nat} {o : Obj} (r : W8.heap[b]? = some o) (h4 : b ≠ q4) (h5 : b ≠ q5) : W.heap[b]? = some o :=
  (h.1.block b (lt_of_row' r) (fun e => by rcases e with e | e; exact h4 e; exact h5 e)).trans r

/-- The end: what stands in the result's cell. -/
theorem rows_end {w W : World} {q4 D : Nat} {r b : Bool} {tmps : Array Value} (hb : Below w.heap.size w W) (hq : w.heap.size ≤ q4) (r4 : W.heap[q4]? = some (.cells #[.bool r] 4 (0, 0)))
    (hd : W.heap[D]? = some (.deferred (some []))) (hD : w.heap.size ≤ D) (ht : tmps.getD 4 undef = .pointer (some ⟨q4, 0, none⟩)) (hr : r = b) :
    LeavesInM Fence.wide 0 Tryz.prog Tryz.f18 tmps (fun e w' => e = .returned (.bool b) ∧ Below w.heap.size w w') [{ target := .collected D, args := #[] }] .returning W := by
  subst hr
  have hne : q4 ≠ D := fun e => by subst e; rw [r4] at hd; cases hd
  refine leaves_mark hd (results_cell_one rfl _ _ ⟨q4, 0, none⟩ (.bool r) ht ?_ (by kernel_rfl)) ⟨rfl, ?_⟩
  · exact row_cell ((World.putObj_heap_other hne).trans r4) rfl
  · exact below_of_moves hb (moves_putObj (l := D) _) (fun k hk => by omega)

set_option maxRecDepth 100000 in
set_option maxHeartbeats 4000000 in
theorem rows19_c {w : World} {pl pd md : Nat} {e : Em.E} {F G : Nat → Prop} {v : Value} {R : Em.Pairs} (x : LogAt w pl pd md e F) (h : PairsAt w G v R) (hR : R.length ≤ 100000) :
    Calls Tryz.prog 18 #[.pointer (some ⟨pl, 0, none⟩), v] w fun en w' => en = .returned (.bool (decide (Em.tell e.rows = R))) ∧ Below w.heap.size w w' := by
  obtain ⟨ra, rc, rfl⟩ := h.slice
  obtain ⟨KF, hKF, x⟩ : ∃ KF : Nat → Prop, (∀ k, KF k → k < w.heap.size) ∧ LogAt w pl pd md e KF := ⟨_, fun k h => h.2, log_clip x⟩
  generalize hN : R.length = N at *
  obtain ⟨W4, hW4⟩ : ∃ W, (((w.alloc (.cells #[.pointer (some ⟨pl, 0, none⟩)] tPLog)).alloc (.cells #[.slice ra N rc] tRowL)).alloc (.cells #[.bool false] 4)).alloc (.cells #[.int .i64 0] 3) = W := ⟨_, rfl⟩
  have B4 : Below w.heap.size w W4 := by rw [← hW4]; exact (((((Below.refl _ _).alloc (Nat.le_refl _) _).alloc (by simp) _).alloc (by simp <;> omega) _).alloc (by simp <;> omega) _)
  have s4 : W4.heap.size = w.heap.size + 4 := by rw [← hW4]; simp
  have r2 : W4.heap[w.heap.size]? = some (.cells #[.pointer (some ⟨pl, 0, none⟩)] tPLog (0, 0)) := by rw [← hW4]; exact heap_past (by simp <;> omega) (heap_past (by simp <;> omega) (heap_past (by simp) (heap_alloc_last w _)))
  have r3 : W4.heap[w.heap.size + 1]? = some (.cells #[.slice ra N rc] tRowL (0, 0)) := by rw [← hW4]; exact heap_past (by simp <;> omega) (heap_past (by simp <;> omega) (heap_at (w := w.alloc _) _ (by simp)))
  have r4 : W4.heap[w.heap.size + 2]? = some (.cells #[.bool false] 4 (0, 0)) := by rw [← hW4]; exact heap_past (by simp) (heap_at (w := (w.alloc _).alloc _) _ (by simp))
  have r5 : W4.heap[w.heap.size + 3]? = some (.cells #[.int .i64 0] 3 (0, 0)) := by rw [← hW4]; exact heap_at (w := ((w.alloc _).alloc _).alloc _) _ (by simp)
  have k2 := row_cell r2 (j := 0) rfl
  have lx := x.disk.lt
  have lp := lt_of_row x.row.choose_spec.1
  have x4 : LogAt W4 pl pd md e KF := log_off x (Moves.of_below (O := fun _ => False) B4) (fun h => h) (fun h => h) (fun h => h) (fun _ _ h => h) (fun _ h => h.elim)
  have A1 := Lib.hid (all_c' x4)
  have HX := Lib.hid (And.intro x4 (And.intro lx (And.intro lp (And.intro h (And.intro hR (And.intro hN hKF))))))
  have H4 := Lib.hid (And.intro B4 (And.intro s4 (And.intro r2 (And.intro r3 (And.intro r4 r5)))))
  have HW4 := Lib.hid hW4
  clear x x4 lx lp h hR hN hKF B4 s4 r2 r3 r4 r5 hW4
  have hfe := @eql_func_nil _ _ _ _ Tryz.underlying48
  refine (callsIn_wide (n := 0)).1 ?_
  refine callsIn_of_wp_marks Tryz.func18 rfl trivial ?_ rfl
  simp only [Tryz.ntmps18, List.size_toArray, List.length_cons, List.length_nil, Nat.reduceAdd, Nat.reduceSub, Array.replicate_succ, Array.replicate_zero, List.push_toArray, List.append_toArray, List.nil_append, List.cons_append]
  refine wpIn_wide.2 ?_
  go_upto_region 2 with fail
  rw [HW4.out]
  go_upto_region 4 with (go_at_call 15; refine A1.out.mono ?_; rintro en w5 ⟨m1, rfl, h5, _⟩)
  have B5 : Below W4.heap.size W4 w5 := by rw [← h5]; exact (Below.refl _ _).alloc (Nat.le_refl _) _
  have k2' := cell_past B5 k2
  have x5 : LogAt w5 pl pd md e KF := log_off HX.out.1 (Moves.of_below (O := fun _ => False) B5) (fun h => h) (fun h => h) (fun h => h) (fun _ _ h => h) (fun _ h => h.elim)
  have A2 := Lib.hid (all_c' x5)
  have H5 := Lib.hid (And.intro B5 x5)
  clear B5 x5 h5 k2
  go_wp2_with (go_at_call 15; refine A2.out.mono ?_; rintro en w6 ⟨m, rfl, h6, rm, hm⟩)
  have B6 : Below w5.heap.size w5 w6 := by rw [← h6]; exact (Below.refl _ _).alloc (Nat.le_refl _) _
  have g6 : w6.heap[w5.heap.size]? = some (.cells #[.map (some m)] tRows (0, 0)) := by rw [← h6]; exact heap_alloc_last _ _
  have x6 : LogAt w6 pl pd md e KF := log_off H5.out.2 (Moves.of_below (O := fun _ => False) B6) (fun h => h) (fun h => h) (fun h => h) (fun _ _ h => h) (fun _ h => h.elim)
  have b6 : Below W4.heap.size W4 w6 := H5.out.1.trans (B6.mono H5.out.1.size)
  have ok := x6.good.rows
  have IT := Lib.hid (all2_c (w := w6) (row_cell g6 rfl) (rows_below rm B6 rm.lt) x6.good.few ok)
  have LR : ∀ i, i = m ∨ i = w5.heap.size → i < w6.heap.size := by
    rintro i (rfl | rfl)
    · exact Nat.lt_of_lt_of_le rm.lt B6.size
    · exact lt_of_row g6
  obtain ⟨g, hg⟩ : ∃ g, w5.heap.size = g := ⟨_, rfl⟩
  rw [hg] at IT LR ⊢
  obtain ⟨T, hT⟩ : ∃ T, Em.tell e.rows = T := ⟨_, rfl⟩
  rw [hT] at IT
  have TL : T.length = Maps.size e.rows := by rw [← hT]; exact Em.tell_len _
  have T256 : T.length ≤ 256 := by rw [TL]; exact x6.good.few
  have s6 : w.heap.size + 4 ≤ w6.heap.size := by have := b6.size; have := H4.out.2.1; omega
  have q4 : w6.heap[w.heap.size + 2]? = _ := (b6.block _ (lt_of_row H4.out.2.2.2.2.1)).trans H4.out.2.2.2.2.1
  have q5 : w6.heap[w.heap.size + 3]? = _ := (b6.block _ (lt_of_row H4.out.2.2.2.2.2)).trans H4.out.2.2.2.2.2
  have l4 := lt_of_row q4
  have l5 := lt_of_row q5
  -- what stands through the rounds
  have KEEP := Lib.hid (show ∀ (S : Nat → Int → Prop) (k : Nat) (O : Nat → Prop) (W : World), RwI w6 (w.heap.size + 2) (w.heap.size + 3) S k O W → LogAt W pl pd md e KF ∧ Below w.heap.size w W ∧
      W.cell? ⟨w.heap.size, 0, none⟩ = some (.pointer (some ⟨pl, 0, none⟩)) ∧ W.cell? ⟨w.heap.size + 1, 0, none⟩ = some (.slice ra N rc) ∧ PairsAt W (fun k => G k ∧ k < w.heap.size) (.slice ra N rc) R from fun S k O W hi => by
    have B46 : Below w.heap.size w W := below_of_moves (H4.out.1.trans (b6.mono H4.out.1.size)) hi.1 (fun k hk => by omega)
    refine ⟨log_off x6 hi.1 (fun h => by have := HX.out.2.2.1; omega) (fun h => by have := HX.out.2.1; omega) (fun h => by have := HX.out.2.1; omega) (fun k hk h => by have := HX.out.2.2.2.2.2.2 k hk; omega) (fun k hk _ => ?_), B46, ?_, ?_, ?_⟩
    · rcases hk with rfl | rfl
      · exact ⟨_, _, _, q4⟩
      · exact ⟨_, _, _, q5⟩
    · exact row_cell (hi.row ((b6.block _ (lt_of_row H4.out.2.2.1)).trans H4.out.2.2.1) (by omega) (by omega)) rfl
    · exact row_cell (hi.row ((b6.block _ (lt_of_row H4.out.2.2.2.1)).trans H4.out.2.2.2.1) (by omega) (by omega)) rfl
    · exact (HX.out.2.2.2.1.weak (fun b hb hl => ⟨hb, hl⟩)).later B46)
  have GM := Lib.hid (show m ≠ w.heap.size + 2 ∧ g ≠ w.heap.size + 2 ∧ m ≠ w.heap.size + 3 ∧ g ≠ w.heap.size + 3 from by
    obtain ⟨es, clock, k1, _⟩ := rows_below rm B6 rm.lt
    have := H5.out.1.size
    have := H4.out.2.1
    refine ⟨fun h => ?_, by omega, fun h => ?_, by omega⟩
    · rw [h, q4] at k1; cases k1
    · rw [h, q5] at k1; cases k1)
  have H6 := Lib.hid (And.intro b6 (And.intro ok (And.intro hT (And.intro TL (And.intro q4 q5)))))
  clear B6 g6 x6 b6 ok rm hm h6 q4 q5 hg hT TL k2'
  refine (wpIn_wide (n := 0)).1 ?_
  refine wpIn_rangeIter2r (r := 6) (s := 7) (u := fun (x : Em.Bytes × Em.Bytes) => strOfB x.1) (v := fun (x : Em.Bytes × Em.Bytes) => strOfB x.2) (gf := 43) (lb := #[.pointer (some ⟨g, 0, none⟩)]) rfl (enters_of Tryz.func43 (by kernel_rfl) rfl) IT.out
    LR (Below.refl _ _) (RwI w6 (w.heap.size + 2) (w.heap.size + 3) (fun k n => n = (k : Int) ∧ Em.Alike T R k)) (RwI w6 (w.heap.size + 2) (w.heap.size + 3) (fun _ _ => T ≠ R)) (rwI_stable l4 l5) (rwI_stable l4 l5) (fun k O r o W _ h => rwI_put l4 l5 k O o W h) (fun k O r o W _ h => rwI_put l4 l5 k O o W h)
    (fun W hb _ => rwI_start H6.out.2.2.2.2.1 H6.out.2.2.2.2.2 ⟨rfl, Em.alike_zero _ _⟩ W hb) ?assign ?body ?done ?stop
  case assign =>
    intro x l W
    simp only [List.setIfInBounds_toArray, List.set_cons_succ, List.set_cons_zero]
    gi_wp2
    exact ⟨trivial, trivial⟩
  case body =>
    rintro k ⟨x1, x2⟩ O W hx ho1 ho2 hi
    simp only [List.setIfInBounds_toArray, List.set_cons_succ, List.set_cons_zero]
    obtain ⟨xW, bW, c2, c3, pW⟩ := KEEP.out _ _ _ _ hi
    obtain ⟨hm6, h4, ⟨n, h5, rfl, hal⟩, hO⟩ := hi
    have hkT : k < T.length := (List.getElem?_eq_some_iff.1 hx).1
    obtain ⟨t1, t2, t3⟩ := Em.tell_key H6.out.2.1 (x := (x1, x2)) (by rw [H6.out.2.2.1]; exact List.mem_of_getElem? hx)
    simp only at t1 t2 t3
    have GC := Lib.hid (get_c xW x1 (by omega))
    rw [t1, t2] at GC
    have c5 : W.cell? ⟨w.heap.size + 3, 0, none⟩ = some (.int .i64 (k : Int)) := row_cell h5 rfl
    have z4 := row_free h4 0
    have z5 := row_free h5 0
    have c4 := row_cell h4 (j := 0) rfl
    have ret : T ≠ R → Keeps (fun i => O i ∨ (i = m ∨ i = g) ∨ i = w6.heap.size + 1 ∨ i = w6.heap.size) W (W.setCell ⟨w.heap.size + 2, 0, none⟩ (.bool false)) ∧ Code.ret = .ret ∧ RwI w6 (w.heap.size + 2) (w.heap.size + 3) (fun _ _ => T ≠ R) (k + 1) O (W.setCell ⟨w.heap.size + 2, 0, none⟩ (.bool false)) := by
      intro hne
      have ms := setCell_moves W (w.heap.size + 2) 0 (.bool false)
      refine ⟨Keeps.of_moves ms (fun i hi' e => ?_), rfl, hm6.trans ms (fun i _ h => Or.inl h), heap_setCell_same _ _ 0 _ _ _ h4, ⟨_, (ms.block _ (lt_of_row h5) (by omega)).trans h5, hne⟩, hO⟩
      subst e
      rcases hi' with h | h | h | h
      · have := hO _ h; omega
      · rcases h with h | h
        · exact GM.out.1 h.symm
        · exact GM.out.2.1 h.symm
      · omega
      · omega
    have RET := Lib.hid ret
    have nor : Em.Alike T R (k + 1) → Keeps (fun i => O i ∨ (i = m ∨ i = g) ∨ i = w6.heap.size + 1 ∨ i = w6.heap.size) W (W.setCell ⟨w.heap.size + 3, 0, none⟩ (.int .i64 ((k + 1 : Nat) : Int))) ∧ RwI w6 (w.heap.size + 2) (w.heap.size + 3) (fun k n => n = (k : Int) ∧ Em.Alike T R k) (k + 1) O (W.setCell ⟨w.heap.size + 3, 0, none⟩ (.int .i64 ((k + 1 : Nat) : Int))) := by
      intro hal'
      have ms := setCell_moves W (w.heap.size + 3) 0 (.int .i64 ((k + 1 : Nat) : Int))
      refine ⟨Keeps.of_moves ms (fun i hi' e => ?_), hm6.trans ms (fun i _ h => Or.inr h), (ms.block _ (lt_of_row h4) (by omega)).trans h4, ⟨_, heap_setCell_same _ _ 0 _ _ _ h5, rfl, hal'⟩, hO⟩
      subst e
      rcases hi' with h | h | h | h
      · have := hO _ h; omega
      · rcases h with h | h
        · exact GM.out.2.2.1 h.symm
        · exact GM.out.2.2.2 h.symm
      · omega
      · omega
    have NOR := Lib.hid nor
    have HI := Lib.hid (And.intro hx (And.intro hal hkT))
    have hw1 : IntKind.i64.wrap ((k : Int) + 1) = ((k + 1 : Nat) : Int) := IntWalk.i64_in _ (by omega)
    have i0 : (0 : Int) ≤ (k : Int) := by omega
    by_cases hkN : N ≤ k
    · have i1 : (N : Int) ≤ (k : Int) := by omega
      have NE : T ≠ R := Em.alike_short hx (by rw [HX.out.2.2.2.2.2.1]; exact hkN)
      have FIN := Lib.hid (RET.out NE)
      clear hx hal hm6 h4 h5 hO xW bW pW ret nor NE
      gi_wp2_with (refine ⟨trivial, rfl, ?_⟩; gi_at_call 21; refine (callsIn_wide.2 GC.out).mono ?_; rintro e w' ⟨rfl, rfl⟩)
      first | exact FIN.out | exact ⟨FIN.out.1, rfl, FIN.out.2.2⟩
    · have i1 : (k : Int) < (N : Int) := by omega
      obtain ⟨⟨y1, y2⟩, hy⟩ : ∃ y, R[k]? = some y := ⟨_, List.getElem?_eq_getElem (by rw [HX.out.2.2.2.2.2.1]; omega)⟩
      obtain ⟨b, o, rfl, _, lb, rg⟩ := pW.at hy
      have y0 : W.cell? ⟨b, o + k * 2, none⟩ = some (strOfB y1) := rg 0 _ rfl
      have y1' : W.cell? ⟨b, o + k * 2 + 1, none⟩ = some (strOfB y2) := rg 1 _ rfl
      by_cases e1 : x1 = y1
      · subst e1
        by_cases e2 : x2 = y2
        · subst e2
          have FIN := Lib.hid (NOR.out (Em.alike_next hal hx hy))
          clear hx hal hm6 h4 h5 hO xW bW pW ret nor hy rg
          gi_wp2_with (refine ⟨trivial, rfl, ?_⟩; gi_at_call 21; refine (callsIn_wide.2 GC.out).mono ?_; rintro e w' ⟨rfl, rfl⟩)
          first | exact FIN.out | exact ⟨FIN.out.1, rfl, FIN.out.2.2⟩
        · have FIN := Lib.hid (RET.out (Em.alike_other hx hy (fun e => e2 (congrArg Prod.snd e))))
          have q2 : (!x2 == y2) = true := by simp [e2]
          clear hx hal hm6 h4 h5 hO xW bW pW ret nor hy rg e2
          gi_wp2_with (refine ⟨trivial, rfl, ?_⟩; gi_at_call 21; refine (callsIn_wide.2 GC.out).mono ?_; rintro e w' ⟨rfl, rfl⟩)
          first | exact FIN.out | exact ⟨FIN.out.1, rfl, FIN.out.2.2⟩
      · have FIN := Lib.hid (RET.out (Em.alike_other hx hy (fun e => e1 (congrArg Prod.fst e))))
        have q1 : (!x1 == y1) = true := by simp [e1]
        clear hx hal hm6 h4 h5 hO xW bW pW ret nor hy rg e1
        gi_wp2_with (refine ⟨trivial, rfl, ?_⟩; gi_at_call 21; refine (callsIn_wide.2 GC.out).mono ?_; rintro e w' ⟨rfl, rfl⟩)
        first | exact FIN.out | exact ⟨FIN.out.1, rfl, FIN.out.2.2⟩
  case stop =>
    rintro k O W _ hi ho hD
    obtain ⟨xW, bW, c2, c3, pW⟩ := KEEP.out _ _ _ _ hi
    obtain ⟨_, h4, ⟨n, _, hne⟩, _⟩ := hi
    have HD := Lib.hid (And.intro hD (And.intro bW (And.intro h4 hne)))
    clear hD bW h4 hne xW pW
    gi_wp2
    exact rows_end HD.out.2.1 (by omega) HD.out.2.2.1 HD.out.1 (by omega) rfl (by rw [H6.out.2.2.1]; exact (decide_eq_false HD.out.2.2.2).symm)
  case done =>
    rintro O W hi ho hD
    obtain ⟨xW, bW, c2, c3, pW⟩ := KEEP.out _ _ _ _ hi
    obtain ⟨_, h4, ⟨n, h5, rfl, hal⟩, _⟩ := hi
    have ne : Nonempty (Wd (Below W.heap.size W)) := ⟨⟨_, Below.refl _ _⟩⟩
    have f2 : ∀ y : Wd (Below W.heap.size W), y.world.cell? ⟨w.heap.size, 0, none⟩ = some (.pointer (some ⟨pl, 0, none⟩)) := fun y => cell_past y.ok c2
    have f3 : ∀ y : Wd (Below W.heap.size W), y.world.cell? ⟨w.heap.size + 1, 0, none⟩ = some (.slice ra N rc) := fun y => cell_past y.ok c3
    have f5 : ∀ y : Wd (Below W.heap.size W), y.world.cell? ⟨w.heap.size + 3, 0, none⟩ = some (.int .i64 (T.length : Int)) := fun y => cell_past y.ok (row_cell h5 rfl)
    have xD : LogAt W.drew pl pd md e KF := log_off xW (Moves.of_below (O := fun _ => False) (Below.refl _ _).drew) (fun h => h) (fun h => h) (fun h => h) (fun _ _ h => h) (fun _ h => h.elim)
    have GC := Lib.hid (get_c xW [] (Nat.zero_le _))
    rw [Em.has_none H6.out.2.1] at GC
    have LC := Lib.hid (len_c xD)
    rw [← H6.out.2.2.2.1] at LC
    have z4 : W.drew.frozen? ⟨w.heap.size + 2, 0, none⟩ = false := row_free (w := W.drew) h4 0
    have c4 : W.drew.cell? ⟨w.heap.size + 2, 0, none⟩ = some (.bool false) := row_cell (w := W.drew) h4 rfl
    have fin : ∀ r : Bool, r = decide (T = R) → Below w.heap.size w (W.drew.setCell ⟨w.heap.size + 2, 0, none⟩ (.bool r)) ∧ (W.drew.setCell ⟨w.heap.size + 2, 0, none⟩ (.bool r)).heap[w.heap.size + 2]? = some (.cells #[.bool r] 4 (0, 0)) ∧ (W.drew.setCell ⟨w.heap.size + 2, 0, none⟩ (.bool r)).heap[w6.heap.size]? = some (.deferred (some [])) := fun r _ => by
      have ms := setCell_moves W.drew (w.heap.size + 2) 0 (.bool r)
      refine ⟨below_of_moves bW.drew ms (fun k hk => by omega), heap_setCell_same W.drew _ 0 _ _ _ h4, (ms.block _ (lt_of_row' (w := W.drew) hD) (by omega)).trans hD⟩
    have FIN := Lib.hid fin
    have AL := Lib.hid (Em.alike_end hal)
    rw [HX.out.2.2.2.2.2.1] at AL
    clear hD bW h4 h5 hal xW xD pW fin
    go_upto_region 12 with (go_at_call 21; refine GC.out.mono ?_; rintro e w' ⟨rfl, rfl⟩)
    by_cases hTN : T.length = N
    · rw [decide_eq_true hTN] at AL
      have FIN := Lib.hid (FIN.out true AL.out.symm)
      obtain rfl := hTN
      refine wp_region_hoist (fun w' => ∃ x : Wd (Below W.heap.size W), w' = x.world) [14] (by kernel_rfl) ?_
      refine wpAnyI_reads [0, 1, 2, 3, 4, 5, 7] 8 _ ⟨⟨_, (Below.refl _ _).drew⟩, rfl⟩ (by kernel_rfl) ?_
      simp only [List.filterMap_cons, List.filterMap_nil, List.getElem?_toArray, List.getElem?_cons_succ, List.getElem?_cons_zero]
      iterate 7 (with_reducible refine wpHoist_step (fun K hK => ?_); simp only [hoists, sameUpon]; go_simp; refine hK _ ?_; clear hK K)
      with_reducible refine wpHoist_nil ?_
      refine wpAnyI_one 6 7 _ _ rfl (by kernel_rfl) ?_
      with_reducible refine wpList_step fun K hK => ?_
      go_simp
      refine LC.out.mono ?_
      rintro en w9 ⟨rfl, rfl⟩
      refine hK _ _ (wpList_nil ⟨rfl, fun _ => ⟨⟨_, (Below.refl _ _).drew⟩, rfl⟩, ?_⟩)
      clear hK K
      refine wpAnyI_reads [8, 9, 10, 11, 12, 13] 1 _ ⟨⟨_, (Below.refl _ _).drew⟩, rfl⟩ (by kernel_rfl) ?_
      simp only [List.filterMap_cons, List.filterMap_nil, List.getElem?_toArray, List.getElem?_cons_succ, List.getElem?_cons_zero]
      iterate 6 (with_reducible refine wpHoist_step (fun K hK => ?_); simp only [hoists, sameUpon]; go_simp; refine hK _ ?_; clear hK K)
      with_reducible refine wpHoist_nil ?_
      refine wpAnyI_one 14 0 _ _ rfl (by kernel_rfl) ?_
      refine wpList_plain rfl fun K hK => ?_
      go_simp
      refine hK _ _ (wpList_nil ⟨rfl, fun h => absurd (by decide) h, by kernel_rfl, ?_⟩)
      clear hK K
      go_wp2
      exact rows_end FIN.out.1 (by omega) FIN.out.2.1 FIN.out.2.2 (by omega) rfl (by rw [H6.out.2.2.1]; exact AL.out.symm)
    · rw [decide_eq_false hTN] at AL
      have FIN := Lib.hid (FIN.out false AL.out.symm)
      have hTN' : ¬ (T.length : Int) = (N : Int) := by omega
      generalize T.length = tl at *
      refine wp_region_hoist (fun w' => ∃ x : Wd (Below W.heap.size W), w' = x.world) [14] (by kernel_rfl) ?_
      refine wpAnyI_reads [0, 1, 2, 3, 4, 5, 7] 8 _ ⟨⟨_, (Below.refl _ _).drew⟩, rfl⟩ (by kernel_rfl) ?_
      simp only [List.filterMap_cons, List.filterMap_nil, List.getElem?_toArray, List.getElem?_cons_succ, List.getElem?_cons_zero]
      iterate 7 (with_reducible refine wpHoist_step (fun K hK => ?_); simp only [hoists, sameUpon]; go_simp; refine hK _ ?_; clear hK K)
      with_reducible refine wpHoist_nil ?_
      refine wpAnyI_one 6 7 _ _ rfl (by kernel_rfl) ?_
      with_reducible refine wpList_step fun K hK => ?_
      go_simp
      refine hK _ _ (wpList_nil ⟨rfl, fun _ => ⟨⟨_, (Below.refl _ _).drew⟩, rfl⟩, ?_⟩)
      clear hK K
      refine wpAnyI_reads [8, 9, 10, 11, 12, 13] 1 _ ⟨⟨_, (Below.refl _ _).drew⟩, rfl⟩ (by kernel_rfl) ?_
      simp only [List.filterMap_cons, List.filterMap_nil, List.getElem?_toArray, List.getElem?_cons_succ, List.getElem?_cons_zero]
      iterate 6 (with_reducible refine wpHoist_step (fun K hK => ?_); simp only [hoists, sameUpon]; go_simp; refine hK _ ?_; clear hK K)
      with_reducible refine wpHoist_nil ?_
      refine wpAnyI_one 14 0 _ _ rfl (by kernel_rfl) ?_
      refine wpList_plain rfl fun K hK => ?_
      go_simp
      refine hK _ _ (wpList_nil ⟨rfl, fun h => absurd (by decide) h, by kernel_rfl, ?_⟩)
      clear hK K
      go_wp2
      exact rows_end FIN.out.1 (by omega) FIN.out.2.1 FIN.out.2.2 (by omega) rfl (by rw [H6.out.2.2.1]; exact AL.out.symm)

end Go.Proofs.YtgffifleflkjoaaGreat

namespace Go.Proofs.YtgffifleflkjoaaGreat.Wm
open Cm

theorem hnum_from (l : Bytes) : ∀ a : Nat, l.foldl (fun n c => 256 * n + c.toNat) a = a * 256 ^ l.length + hnum l := by
  induction l with
  | nil => intro a; simp [hnum]
  | cons c l ih =>
    intro a
    unfold hnum
    rw [List.foldl_cons, List.foldl_cons, ih, ih (256 * 0 + c.toNat), List.length_cons, Nat.pow_succ, Nat.add_mul, Nat.mul_comm 256 a, Nat.mul_assoc, Nat.mul_comm 256 (256 ^ l.length), Nat.mul_zero, Nat.zero_add]
    omega

theorem hnum_cons (c : UInt8) (l : Bytes) : hnum (c :: l) = c.toNat * 256 ^ l.length + hnum l := by
  have := hnum_from l (256 * 0 + c.toNat)
  show List.foldl _ (256 * 0 + c.toNat) l = _
  rw [this, Nat.mul_zero, Nat.zero_add]

theorem high_length (n k : Nat) : (high n k).length = k := by simp [high]

theorem high_succ (n k : Nat) : high n (k + 1) = UInt8.ofNat (n / 256 ^ k % 256) :: high n k := by
  unfold high
  rw [List.range_succ_eq_map, List.map_cons, List.map_map]
  refine List.cons_eq_cons.2 ⟨by simp, List.map_congr_left fun i _ => ?_⟩
  show UInt8.ofNat (n / 256 ^ (k + 1 - 1 - (i + 1)) % 256) = _
  rw [show k + 1 - 1 - (i + 1) = k - 1 - i by omega]

theorem byte_nat (n : Nat) (h : n < 256) : (UInt8.ofNat n).toNat = n := by
  rw [UInt8.toNat_ofNat']
  omega

theorem hnum_high (n : Nat) : ∀ k : Nat, hnum (high n k) = n % 256 ^ k
  | 0 => by simp [high, hnum, Nat.mod_one]
  | k + 1 => by
    rw [high_succ, hnum_cons, high_length, hnum_high n k, byte_nat _ (Nat.mod_lt _ (by decide)), Nat.pow_succ, Nat.mod_mul]
    rw [Nat.mul_comm]
    omega

theorem first_long {c : UInt8} {k n : Nat} (hm : many c = k) (hk : k ≠ 0) (hn : n < 256 ^ k) (ht : n ≤ topN) (hl : (wnum n).length = 1 + k) (rest : Bytes) : first (c :: high n k ++ rest) = (n, 1 + (k : Int)) := by
  show first (c :: (high n k ++ rest)) = _
  unfold first
  simp only [hm]
  rw [if_neg hk, if_neg (by rw [List.length_append, high_length]; omega), List.take_append_of_le_length (by rw [high_length]; omega), List.take_of_length_le (by rw [high_length]; omega), hnum_high, Nat.mod_eq_of_lt hn]
  rw [if_neg (fun h => h.elim (fun h => by omega) (fun h => h hl))]

theorem wnum_1 {n : Nat} (h : n < 253) : wnum n = [UInt8.ofNat n] := if_pos h
theorem wnum_2 {n : Nat} (h : 253 ≤ n) (h' : n < 65536) : wnum n = 253 :: high n 2 := by unfold wnum; rw [if_neg (by omega), if_pos h']
theorem wnum_4 {n : Nat} (h : 65536 ≤ n) (h' : n < 4294967296) : wnum n = 254 :: high n 4 := by unfold wnum; rw [if_neg (by omega), if_neg (by omega), if_pos h']
theorem wnum_8 {n : Nat} (h : 4294967296 ≤ n) : wnum n = 255 :: high n 8 := by unfold wnum; rw [if_neg (by omega), if_neg (by omega), if_neg (by omega)]

theorem many_small {n : Nat} (h : n < 253) : many (UInt8.ofNat n) = 0 := by
  have ht : (UInt8.ofNat n).toNat = n := byte_nat n (by omega)
  have h1 : UInt8.ofNat n ≠ 253 := fun e => by rw [e] at ht; have : (253 : UInt8).toNat = 253 := rfl; omega
  have h2 : UInt8.ofNat n ≠ 254 := fun e => by rw [e] at ht; have : (254 : UInt8).toNat = 254 := rfl; omega
  have h3 : UInt8.ofNat n ≠ 255 := fun e => by rw [e] at ht; have : (255 : UInt8).toNat = 255 := rfl; omega
  unfold many
  rw [if_neg h1, if_neg h2, if_neg h3]

theorem first_wnum {n : Nat} (h : n ≤ topN) (rest : Bytes) : first (wnum n ++ rest) = (n, ((wnum n).length : Int)) := by
  have ht : topN = 4611686018427387904 := rfl
  by_cases h1 : n < 253
  · rw [wnum_1 h1]
    show first (UInt8.ofNat n :: rest) = _
    unfold first
    simp only [many_small h1, if_true]
    rw [byte_nat n (by omega)]
    rfl
  · by_cases h2 : n < 65536
    · have e := wnum_2 (by omega) h2
      have hl : (wnum n).length = 1 + 2 := by rw [e, List.length_cons, high_length]
      rw [hl, e, first_long (k := 2) (by decide) (by decide) (by omega) h hl]
      rfl
    · by_cases h4 : n < 4294967296
      · have e := wnum_4 (by omega) h4
        have hl : (wnum n).length = 1 + 4 := by rw [e, List.length_cons, high_length]
        rw [hl, e, first_long (k := 4) (by decide) (by decide) (by omega) h hl]
        rfl
      · have e := wnum_8 (n := n) (by omega)
        have hl : (wnum n).length = 1 + 8 := by rw [e, List.length_cons, high_length]
        rw [hl, e, first_long (k := 8) (by decide) (by decide) (by omega) h hl]
        rfl

theorem first_short {c : UInt8} {l : Bytes} (hm : many c ≠ 0) (h : l.length < many c) : first (c :: l) = (0, 0) := by
  unfold first
  simp only
  rw [if_neg hm, if_pos h]

theorem first_torn (n : Nat) {k : Nat} (h : k < (wnum n).length) : first ((wnum n).take k) = (0, 0) := by
  cases k with
  | zero => rfl
  | succ k =>
    by_cases h1 : n < 253
    · rw [wnum_1 h1] at h; simp at h
    · by_cases h2 : n < 65536
      · rw [wnum_2 (by omega) h2] at h ⊢
        rw [List.length_cons, high_length] at h
        rw [List.take_succ_cons]
        exact first_short (by decide) (by rw [List.length_take, high_length]; have : many 253 = 2 := by decide
                                          omega)
      · by_cases h4 : n < 4294967296
        · rw [wnum_4 (by omega) h4] at h ⊢
          rw [List.length_cons, high_length] at h
          rw [List.take_succ_cons]
          exact first_short (by decide) (by rw [List.length_take, high_length]; have : many 254 = 4 := by decide
                                            omega)
        · rw [wnum_8 (n := n) (by omega)] at h ⊢
          rw [List.length_cons, high_length] at h
          rw [List.take_succ_cons]
          exact first_short (by decide) (by rw [List.length_take, high_length]; have : many 255 = 8 := by decide
                                            omega)

theorem wnum_pos (n : Nat) : 0 < (wnum n).length := by
  unfold wnum
  split
  · simp
  · split
    · simp
    · split <;> simp

theorem rnum_wnum {most n : Nat} (h : n ≤ most) (ht : most ≤ topN) (rest : Bytes) : rnum most (wnum n ++ rest) = some (n, rest) := by
  have hp := wnum_pos n
  unfold rnum
  rw [first_wnum (by omega)]
  simp only
  rw [if_neg (by omega)]
  simp

theorem rtext_wtext {most : Nat} {s : Bytes} (h : s.length ≤ most) (ht : most ≤ topN) (rest : Bytes) : rtext most (wtext s ++ rest) = some (s, rest) := by
  unfold rtext wtext
  rw [List.append_assoc, rnum_wnum h ht]
  simp only
  rw [if_neg (by rw [List.length_append]; omega)]
  simp

theorem rtruth_wtruth (b : Bool) (rest : Bytes) : rtruth (wtruth b ++ rest) = some (b, rest) := by
  cases b <;> rfl

theorem sealed_length (b : Bytes) : (sealed b).length = b.length + 4 := by
  unfold sealed
  rw [List.length_append, low_length]

theorem opened_sealed (b : Bytes) : opened (sealed b) = some b := by
  have hl := sealed_length b
  unfold opened
  rw [if_neg (by omega)]
  have e : (sealed b).take ((sealed b).length - 4) = b := by
    rw [hl, show b.length + 4 - 4 = b.length by omega]
    unfold sealed
    simp
  rw [e, if_pos rfl]

theorem frame_length (b : Bytes) : (frame b).length = (wnum (b.length + 4)).length + (b.length + 4) := by
  unfold frame
  rw [List.length_append, sealed_length]

/-- A frame ahead of others is read. -/
theorem split_frame {b : Bytes} (h : b.length ≤ 8192) (rest : Bytes) : split (frame b ++ rest) = some (b, (frame b).length) := by
  have hl := sealed_length b
  have ht : topN = 4611686018427387904 := rfl
  have hp := wnum_pos (sealed b).length
  rw [frame_length]
  unfold split frame
  rw [List.append_assoc, first_wnum (by omega)]
  simp only
  rw [if_neg (by omega), if_neg (by simp only [List.length_append, hl]; omega)]
  have e : List.take (sealed b).length (List.drop ((wnum (sealed b).length).length : Int).toNat (wnum (sealed b).length ++ (sealed b ++ rest))) = sealed b := by simp
  rw [e, opened_sealed]
  simp only [hl]
  simp

/-- A frame that is torn is none. -/
theorem split_torn {b : Bytes} (h : b.length ≤ 8192) {k : Nat} (hk : k < (frame b).length) : split ((frame b).take k) = none := by
  have hl := sealed_length b
  have ht : topN = 4611686018427387904 := rfl
  have hf := frame_length b
  by_cases hw : k < (wnum (sealed b).length).length
  · have e : (frame b).take k = (wnum (sealed b).length).take k := by
      unfold frame
      rw [List.take_append_of_le_length (by omega)]
    rw [e]
    unfold split
    rw [first_torn _ hw]
    simp
  · have e : (frame b).take k = wnum (sealed b).length ++ (sealed b).take (k - (wnum (sealed b).length).length) := by
      unfold frame
      rw [List.take_append, List.take_of_length_le (by omega)]
    rw [e]
    unfold split
    rw [first_wnum (by omega)]
    simp only
    rw [hl] at hw ⊢
    split
    · rfl
    · rw [if_pos ?_]
      rw [List.length_append, List.length_take, hl]
      omega

theorem split_nil : split [] = none := rfl

theorem frame_pos (b : Bytes) : 0 < (frame b).length := by have := frame_length b; omega

end Go.Proofs.YtgffifleflkjoaaGreat.Wm

namespace Go.Proofs.YtgffifleflkjoaaGreat.Em
open Go.Maps Cm

def rchange (b : Bytes) : Option (Change × Bytes) :=
  match Wm.rtruth b with
  | none => none
  | some (g, r) =>
    match Wm.rtext 64 r with
    | none => none
    | some (k, r') =>
      if g = true then some (⟨k, [], true⟩, r')
      else match Wm.rtext 4096 r' with
        | none => none
        | some (v, r'') => some (⟨k, v, false⟩, r'')

def rchanges : Nat → Bytes → Option (List Change × Bytes)
  | 0, b => some ([], b)
  | n + 1, b =>
    match rchange b with
    | none => none
    | some (c, r) => (rchanges n r).map fun p => (c :: p.1, p.2)

/-- A record that is a Batch. -/
def rbatch (b : Bytes) : Option (List Change) :=
  match Wm.rnum 3 b with
  | none => none
  | some (k, r) =>
    if k ≠ 3 then none
    else match Wm.rnum 64 r with
      | none => none
      | some (n, r) =>
        match rchanges n r with
        | none => none
        | some (l, r) => if r = [] then some l else none

/-- A record that is a Row behind another. -/
def rrow (last b : Bytes) : Option (Bytes × Bytes) :=
  match Wm.rnum 3 b with
  | none => none
  | some (k, r) =>
    if k ≠ 2 then none
    else match Wm.rtext 64 r with
      | none => none
      | some (key, r) =>
        match Wm.rtext 4096 r with
        | none => none
        | some (v, r) => if r = [] ∧ ¬ key ≤ last then some (key, v) else none

def rrows (l : Bytes) : Nat → Nat → Bytes → Rows → Option (Rows × Nat)
  | 0, fin, _, D => some (D, fin)
  | n + 1, fin, last, D =>
    match Wm.split (l.drop fin) with
    | none => none
    | some (body, m) =>
      match rrow last body with
      | none => none
      | some (k, v) => rrows l n (fin + m) k (D.put (.string k) (.lit (.string v)))

/-- A record that is a Head. -/
def rhead (b : Bytes) : Option (Nat × Nat) :=
  match Wm.rnum 3 b with
  | none => none
  | some (k, r) =>
    if k ≠ 1 then none
    else match Wm.rnum 2147483647 r with
      | none => none
      | some (g, r) =>
        match Wm.rnum 256 r with
        | none => none
        | some (n, r) => if r = [] ∧ 0 < g then some (g, n) else none

def rbegin (l : Bytes) : Option (Nat × Rows × Nat) :=
  match Wm.split l with
  | none => none
  | some (body, m) =>
    match rhead body with
    | none => none
    | some (g, n) => (rrows l n m [] (.map [])).map fun p => (g, p.1, p.2)

def rgoes (l : Bytes) (fin : Nat) (D : Rows) : Option (Rows × Nat) :=
  match Wm.split (l.drop fin) with
  | none => none
  | some (body, m) =>
    match rbatch body with
    | none => none
    | some c => if doneErr D c = 0 then some (behind D c, fin + m) else none

def rmore (l : Bytes) : Nat → Nat → Rows → Nat → Rows × Nat × Nat
  | 0, fin, D, n => (D, n, fin)
  | f + 1, fin, D, n =>
    match rgoes l fin D with
    | none => (D, n, fin)
    | some (D', fin') => rmore l f fin' D' (n + 1)

end Go.Proofs.YtgffifleflkjoaaGreat.Em
