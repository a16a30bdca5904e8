/-
  evlog: Open, whatever the tapes tell (printed by genopenany.py).
  evlog, plain: EvlogLasts' engine, from its begin to what is left of it.
-/
import Derived.Test.YtgffifleflkjoaaGreatG11
import Derived.Test.YtgffifleflkjoaaGreatG35
import Derived.Test.YtgffifleflkjoaaGreatG36

namespace Go.Proofs.YtgffifleflkjoaaGreat
open Go.RowKit Dm Go.Shelf
attribute [local go_sem] Oper.semAt_some

/-- The engine of a tape. -/
def Em.took (d : D) (b : Nat × Em.T) : Em.E := ⟨b.1, b.2.gen, b.2.rows, b.2.batches, b.2.fin, d, false⟩
/-- What Open makes of the tape that it takes. -/
def Em.openedT (d : D) (b : Nat × Em.T) : Em.E × Int := if b.2.gen = 0 then Em.begun d else ({ Em.took d b with d := (Em.mended d b.1 b.2.fin).1 }, (Em.mended d b.1 b.2.fin).2)

set_option maxRecDepth 100000 in
set_option maxHeartbeats 4000000 in
theorem openAny_c {w : World} {pd md : Nat} {d : D} {F : Nat → Prop} {ts : Nat → Em.T} (x : DiskAt w.heap pd md d F) (hw : d.waits.length ≤ 900000000) (hF : ∀ i, F i → i < w.heap.size) (hts : ∀ k : Nat, k < 2 → ReadsC (d.stand.tp k) k (ts k)) (hg : (bestT ts 2).2.gen ≠ 0 → (Em.took d (bestT ts 2)).good) :
    Calls Tryz.prog 10 #[.pointer (some ⟨pd, 0, none⟩)] w (OpenR w pd md F (Em.openedT d (bestT ts 2))) := by
  obtain ⟨W2, hW2⟩ : ∃ W, (w.alloc (.cells #[.pointer (some ⟨w.heap.size + 1, 0, none⟩)] tPLog)).alloc (.cells (logZ pd) tLog) = W := ⟨_, rfl⟩
  have B2 : Below w.heap.size w W2 := by rw [← hW2]; exact ((Below.refl _ _).alloc (Nat.le_refl _) _).alloc (by simp) _
  have s2 : W2.heap.size = w.heap.size + 2 := by rw [← hW2]; simp
  have r0 : W2.heap[w.heap.size]? = some (.cells #[.pointer (some ⟨w.heap.size + 1, 0, none⟩)] tPLog (0, 0)) := by rw [← hW2]; exact heap_past (by simp) (heap_alloc_last w _)
  have r1 : W2.heap[w.heap.size + 1]? = some (.cells (logZ pd) tLog (0, 0)) := by rw [← hW2]; exact heap_at (w := w.alloc _) _ (by simp)
  have SC := Lib.hid (fun (c : Obj) => (callsIn_wide (n := 0)).2 (same_nil_c (x.below ((Below.refl w.heap.size w).alloc (Nat.le_refl _) c))))
  have hb : Below W2.heap.size W2 (W2.alloc (.cells #[.pointer (some ⟨pd, 0, none⟩)] 23)) := (Below.refl _ _).alloc (Nat.le_refl _) _
  have k0 : (W2.alloc (.cells #[.pointer (some ⟨pd, 0, none⟩)] 23)).cell? ⟨w.heap.size + 1 + 1, 0, none⟩ = some (.pointer (some ⟨pd, 0, none⟩)) := by
    rw [show w.heap.size + 1 + 1 = W2.heap.size by omega]
    exact row_cell (heap_alloc_last W2 (.cells #[.pointer (some ⟨pd, 0, none⟩)] 23)) rfl
  have IT := Lib.hid (tapes1_c ((x.below B2).below hb) k0 hts)
  have X := Lib.hid (And.intro x (And.intro hw (And.intro hF hg)))
  have B := Lib.hid (And.intro B2 (And.intro s2 (And.intro r0 r1)))
  have HW2 := Lib.hid hW2
  clear x hw hF hg hts B2 s2 r0 r1 hb k0 hW2
  refine (callsIn_wide (n := 0)).1 ?_
  refine callsIn_of_wp_marks Tryz.func10 rfl trivial ?_ rfl
  simp only [Tryz.ntmps10, List.size_toArray, List.length_cons, List.length_nil, Nat.reduceAdd, Nat.reduceSub, Array.replicate_succ, Array.replicate_zero, List.push_toArray, List.append_toArray, List.nil_append, List.cons_append]
  gi_wp2
  refine wpIn_scope_fwd 0 rfl ?_
  gi_wp2_with (first
    | (refine ⟨trivial, rfl, ?_⟩; gi_at_call 32; refine (SC.out _).mono ?_; rintro e w' ⟨rfl, rfl⟩)
    | (refine ⟨trivial, rfl, ?_⟩; gi_at_call 33; refine (callsIn_wide.2 (tapes_c pd _)).mono ?_; rintro e w' ⟨rfl, rfl⟩))
  rw [HW2.out]
  refine wpIn_rangeIterV (gf := 68) (lb := #[.pointer (some ⟨w.heap.size + 1 + 1, 0, none⟩)]) rfl (enters_of Tryz.func68 (by kernel_rfl) rfl) IT.out ?hR (Below.refl _ _) ?hps (OpI w pd ts) (fun _ _ _ _ => False)
    (fun k O O' A B h hm _ ho => opI_moves h hm ho) (fun _ _ _ _ _ _ h _ _ _ => h) ?hIb (fun _ _ _ _ _ _ _ h => h) ?h0
    (fun k O x a' W => ∃ (q : Nat) (mv : Value), a' = { tmps := #[.pointer (some ⟨pd, 0, none⟩), undef, .pointer (some ⟨w.heap.size, 0, none⟩), .int .i64 1, .pointer (some ⟨q, 0, none⟩), .pointer (some ⟨pd, 0, none⟩), .bool false, .pointer (some ⟨pd, 0, none⟩), .agg (logZ pd), .pointer (some ⟨w.heap.size + 1, 0, none⟩), .pointer (some ⟨pd, 0, none⟩),
        .func (.func 68) #[] #[.pointer (some ⟨w.heap.size + 1 + 1, 0, none⟩)], .agg #[.int .i64 k, .int .i64 (ts k).gen, mv, .int .i64 (ts k).batches, .int .i64 (ts k).fin],
        undef, undef, undef, undef, undef, undef, undef, undef, undef, undef, undef, undef, undef, undef, undef, undef, undef, undef, undef, undef, undef, undef, undef, undef, undef, undef], defers := [] } ∧
      W.heap[q]? = some (.cells #[.int .i64 k, .int .i64 (ts k).gen, mv, .int .i64 (ts k).batches, .int .i64 (ts k).fin] tTape (0, 0)) ∧ w.heap.size + 5 ≤ q ∧
      ((mv = .map none ∧ ts k = Em.T.none) ∨ ∃ m, mv = .map (some m) ∧ RowsIn W m (Maps.size (ts k).rows) (ts k).rows ∧ w.heap.size + 3 ≤ m) ∧ ∀ i, ¬ O i) ?hAx ?assign ?body ?done (fun _ _ _ _ _ h => h.elim)
  case hR =>
    rintro i (rfl | rfl | rfl | h)
    · have := X.out.1.lt; have := B.out.2.1; simp only [World.size_alloc]; omega
    · have := X.out.1.lt; have := B.out.2.1; simp only [World.size_alloc]; omega
    · have := B.out.2.1; simp only [World.size_alloc]; omega
    · exact h.2
  case hps =>
    rintro k x O W ⟨⟨v, rfl, _⟩, _⟩
    rfl
  case hIb =>
    intro k O r o W' hl h
    have := B.out.2.1
    exact opI_put h _ (by simp only [World.size_alloc]; omega) o _ hl (fun _ _ e => by cases e)
  case h0 =>
    intro W' hb' hs
    have s2 := B.out.2.1
    simp only [World.size_alloc] at hb' hs
    have hb0 : Below w.heap.size W2 (W2.alloc (.cells #[.pointer (some ⟨pd, 0, none⟩)] 23)) := (Below.refl _ _).alloc (by omega) _
    have hbb : Below W2.heap.size W2 W' := ((Below.refl W2.heap.size W2).alloc (Nat.le_refl _) (.cells #[.pointer (some ⟨pd, 0, none⟩)] 23)).trans (hb'.mono (by omega))
    exact ⟨B.out.1.trans (hbb.mono (by omega)), (hbb.block _ (by omega)).trans B.out.2.2.1, fun i h => h.elim, by omega, .map none, (hbb.block _ (by omega)).trans B.out.2.2.2, Or.inl ⟨rfl, rfl⟩⟩
  case hAx =>
    rintro k O x a' W l r o hl ⟨q, mv, h1, h2, h3, h4, h5⟩
    refine ⟨q, mv, h1, (World.putObj_heap_other (fun e => by rw [e, hl] at h2; cases h2)).trans h2, h3, ?_, h5⟩
    rcases h4 with h4 | ⟨m, e, h4, h6⟩
    · exact Or.inl h4
    · exact Or.inr ⟨m, e, rows_put h4 hl (fun _ _ e => by cases e), h6⟩
  case assign =>
    rintro k x O W hk ⟨⟨v, rfl, mv, rfl, hv⟩, hO⟩ hi hs ho1 ho2
    have s2 := B.out.2.1
    have sW := hi.2.2.2.1
    obtain ⟨om, rfl⟩ : ∃ om : Option Nat, mv = .map om := by
      rcases hv with ⟨h, _⟩ | ⟨m, h, _⟩
      · exact ⟨_, h⟩
      · exact ⟨_, h⟩
    simp only [World.size_alloc] at hs ho1 ho2 ⊢
    have H := Lib.hid (And.intro hi (And.intro hv (And.intro hO hs)))
    clear hi hv hO hs ho1 ho2
    gi_wp2
    obtain ⟨hi, hv, hO, hs⟩ := H.out
    have ba : ∀ c, Below W.heap.size W (W.alloc c) := fun c => (Below.refl _ _).alloc (Nat.le_refl _) c
    refine ⟨opI_moves hi (Moves.of_below (ba _)) (fun i h => Or.inl h), Keeps.of_below (ba _), W.heap.size, .map om, rfl, heap_alloc_last _ _, sW, ?_, hO⟩
    rcases hv with hv | ⟨m, e, hv, hm⟩
    · exact Or.inl hv
    · exact Or.inr ⟨m, e, rows_below hv (ba _) hv.lt, by simp only [World.size_alloc] at hm; omega⟩
  case body =>
    rintro k x O a' W hk hl hd ho1 ho2 hi ⟨q, mv, rfl, rq, hq, hv, hO⟩
    have s2 := B.out.2.1
    obtain ⟨h1, h2, h6, h7, mb, h8, h9⟩ := hi
    have e1 : ∀ x : Ext W.heap.size W, x.world.cell? ⟨q, 1, none⟩ = some (.int .i64 (ts k).gen) := fun x => cell_past x.below (row_cell rq rfl)
    have e2 : ∀ x : Ext W.heap.size W, x.world.cell? ⟨w.heap.size, 0, none⟩ = some (.pointer (some ⟨w.heap.size + 1, 0, none⟩)) := fun x => cell_past x.below (row_cell h2 rfl)
    have e3 : ∀ x : Ext W.heap.size W, x.world.cell? ⟨w.heap.size + 1, 1, none⟩ = some (.int .i64 (bestT ts k).2.gen) := fun x => cell_past x.below (row_cell h8 rfl)
    have mix : Tryz.prog.follows .mixedOrders = true := by kernel_rfl
    simp only [World.size_alloc] at hl hd ho1 ho2 ⊢
    by_cases hlt : (bestT ts k).2.gen < (ts k).gen
    · have g1 : decide (((bestT ts k).2.gen : Int) < (ts k).gen) = true := by simp; omega
      obtain ⟨om, rfl⟩ : ∃ om : Option Nat, mv = .map om := by
        rcases hv with ⟨h, _⟩ | ⟨m, h, _⟩
        · exact ⟨_, h⟩
        · exact ⟨_, h⟩
      have HH := Lib.hid (And.intro h1 (And.intro h2 (And.intro h6 (And.intro h7 (And.intro h8 (And.intro h9 (And.intro hv (And.intro hO (And.intro hlt rq)))))))))
      clear h1 h2 h6 h7 h8 h9 hv hO rq
      gi_wp2
      refine wpIn_region_ext mix (by kernel_rfl) (by kernel_rfl) ?_
      repeat (first | go_big_quiet_step (fail) | quiet_step (fail))
      refine wpQuiet_nil ?_
      rintro ⟨w2, hbd⟩
      dsimp only
      have e2' := e2 ⟨w2, hbd⟩
      have i0 : w2.cell? ⟨q, 0, none⟩ = some (.int .i64 k) := cell_past hbd (row_cell HH.out.2.2.2.2.2.2.2.2.2 rfl)
      have i1 : w2.cell? ⟨q, 1, none⟩ = some (.int .i64 (ts k).gen) := e1 ⟨w2, hbd⟩
      have j1 : w2.cell? ⟨w.heap.size + 1, 1, none⟩ = some (.int .i64 (bestT ts k).2.gen) := e3 ⟨w2, hbd⟩
      have i2 : w2.cell? ⟨q, 2, none⟩ = some (.map om) := cell_past hbd (row_cell HH.out.2.2.2.2.2.2.2.2.2 rfl)
      have i3 : w2.cell? ⟨q, 3, none⟩ = some (.int .i64 (ts k).batches) := cell_past hbd (row_cell HH.out.2.2.2.2.2.2.2.2.2 rfl)
      have i4 : w2.cell? ⟨q, 4, none⟩ = some (.int .i64 (ts k).fin) := cell_past hbd (row_cell HH.out.2.2.2.2.2.2.2.2.2 rfl)
      have j0 : w2.cell? ⟨w.heap.size + 1, 0, none⟩ = some (.int .i64 (bestT ts k).1) := cell_past hbd (row_cell HH.out.2.2.2.2.1 rfl)
      have j2 : w2.cell? ⟨w.heap.size + 1, 2, none⟩ = some mb := cell_past hbd (row_cell HH.out.2.2.2.2.1 rfl)
      have j3 : w2.cell? ⟨w.heap.size + 1, 3, none⟩ = some (.int .i64 (bestT ts k).2.batches) := cell_past hbd (row_cell HH.out.2.2.2.2.1 rfl)
      have j4 : w2.cell? ⟨w.heap.size + 1, 4, none⟩ = some (.int .i64 (bestT ts k).2.fin) := cell_past hbd (row_cell HH.out.2.2.2.2.1 rfl)
      have k8 := (hbd.block _ (lt_of_row HH.out.2.2.2.2.1)).trans HH.out.2.2.2.2.1
      have z0 := row_free k8 0
      have z1 := row_free k8 1
      have z2 := row_free k8 2
      have z3 := row_free k8 3
      have z4 := row_free k8 4
      clear e1 e2 e3
      gi_wp2
      obtain ⟨h1, h2, h6, h7, h8, h9, hv, hO, _, rq⟩ := HH.out
      have mv := setCell5_moves w2 (w.heap.size + 1) (.int .i64 k) (.int .i64 (ts k).gen) (.map om) (.int .i64 (ts k).batches) (.int .i64 (ts k).fin)
      have row5 := setCell5_row k8 k (ts k).gen (ts k).batches (ts k).fin (.map om)
      generalize (((((w2.setCell ⟨w.heap.size + 1, 0, none⟩ (.int .i64 k)).setCell ⟨w.heap.size + 1, 1, none⟩ (.int .i64 (ts k).gen)).setCell ⟨w.heap.size + 1, 2, none⟩ (.map om)).setCell ⟨w.heap.size + 1, 3, none⟩ (.int .i64 (ts k).batches)).setCell ⟨w.heap.size + 1, 4, none⟩ (.int .i64 (ts k).fin)) = W5 at mv row5 ⊢
      have eb : bestT ts (k + 1) = (k, ts k) := if_pos hlt
      have sb := hbd.size
      have lx := X.out.1.lt
      refine ⟨Keeps.trans (Keeps.of_below hbd) (Keeps.of_moves mv (fun i hi e => ?_)), ?_⟩
      · rcases hi with h | h | h | h
        · exact hO i h
        · rcases h with h | h | h | h
          · omega
          · omega
          · omega
          · have := X.out.2.2.1 i h.1; omega
        · omega
        · omega
      · unfold OpI
        rw [eb]
        have b2 : Below w.heap.size w w2 := h1.trans (hbd.mono h1.size)
        refine ⟨⟨mv.os.trans b2.os, mv.tape.trans b2.tape, mv.output.trans b2.output, Nat.le_trans b2.size mv.size, fun i hi => (mv.block i (by have := b2.size; omega) (by omega)).trans (b2.block i hi)⟩,
          (mv.block _ (by omega) (by omega)).trans ((hbd.block _ (by omega)).trans h2), h6, by have := mv.size; omega, .map om, row5, ?_⟩
        rcases hv with hv | ⟨m, e, hv, hm⟩
        · exact Or.inl hv
        · exact Or.inr ⟨m, e, rows_off (rows_below hv hbd hv.lt) mv (by omega), hm, hO m⟩
    · have g1 : decide (((bestT ts k).2.gen : Int) < (ts k).gen) = false := by simp; omega
      have HH := Lib.hid (And.intro h1 (And.intro h2 (And.intro h6 (And.intro h7 (And.intro h8 (And.intro h9 (And.intro hv (And.intro hO hlt))))))))
      clear h1 h2 h6 h7 h8 h9 hv hO
      gi_wp2
      refine wpIn_region_ext mix (by kernel_rfl) (by kernel_rfl) ?_
      repeat (first | go_big_quiet_step (fail) | quiet_step (fail))
      refine wpQuiet_nil ?_
      rintro ⟨w2, hbd⟩
      dsimp only
      gi_wp2
      obtain ⟨h1, h2, h6, h7, h8, h9, hv, hO, _⟩ := HH.out
      have eb : bestT ts (k + 1) = bestT ts k := if_neg hlt
      refine ⟨Keeps.of_below hbd, ?_⟩
      have h := opI_moves (k := k) (O' := O) (pd := pd) (ts := ts) ⟨h1, h2, h6, h7, mb, h8, h9⟩ (Moves.of_below hbd) (fun i h => Or.inl h)
      unfold OpI at h ⊢
      rw [eb]
      exact h
  case done =>
    intro O W hi ho hD
    have s2 := B.out.2.1
    obtain ⟨h1, h2, h6, h7, mb, h8, h9⟩ := hi
    simp only [World.size_alloc] at ho hD ⊢
    have lx := X.out.1.lt
    have c0 : W.cell? ⟨w.heap.size, 0, none⟩ = some (.pointer (some ⟨w.heap.size + 1, 0, none⟩)) := row_cell h2 rfl
    have c1 : W.cell? ⟨w.heap.size + 1, 1, none⟩ = some (.int .i64 (bestT ts 2).2.gen) := row_cell h8 rfl
    by_cases hq : (bestT ts 2).2.gen = 0
    · rw [hq] at c1
      have ho' : Em.openedT d (bestT ts 2) = Em.begun d := if_pos hq
      have BC := Lib.hid ((callsIn_wide (n := 0)).2 (begin_c (X.out.1.below h1) X.out.2.1 h8 (by omega) (by omega) (fun e => by have := X.out.2.2.1 _ e; omega)))
      rw [← ho'] at BC
      clear ho'
      have HH := Lib.hid (And.intro h1 (And.intro h2 (And.intro h7 hD)))
      clear h1 h2 h6 h7 h8 h9 hD ho
      obtain ⟨r, hr⟩ : ∃ r, Em.openedT d (bestT ts 2) = r := ⟨_, rfl⟩
      rw [hr] at BC ⊢
      by_cases hz : r.2 = 0
      · gi_wp2_with (refine ⟨trivial, rfl, ?_⟩; gi_at_call 34; refine BC.out.mono ?_; rintro e w3 ⟨rfl, m3, x3⟩
                     have q0 := (m3.block w.heap.size (by have := HH.out.2.2.1; omega) (fun e => by rcases e with e | e | e <;> omega)).trans HH.out.2.1
                     have k0 := row_cell q0 (j := 0) rfl
                     have z0 := row_free q0 0
                     have HL := Lib.hid (And.intro m3 (And.intro x3 q0))
                     clear m3 x3 q0 c0 c1)
        rw [Exit.fwdIn_ret]
        obtain ⟨h1, h2, h7, hD⟩ := HH.out
        obtain ⟨m3, x3, q0⟩ := HL.out
        have lm : W2.heap.size + 1 < W.heap.size := by omega
        have dD : w3.heap[W2.heap.size + 1]? = some (.deferred (some [])) := (m3.block _ lm (fun e => by rcases e with e | e | e <;> omega)).trans hD
        have e4 : ∀ u : Value, ((w3.setCell ⟨w.heap.size, 0, none⟩ u).putObj (W2.heap.size + 1) (.deferred none)).cell? ⟨w.heap.size, 0, none⟩ = some u := fun u => row_cell ((World.putObj_heap_other (by omega)).trans (heap_setCell_same _ _ 0 _ tPLog u q0)) rfl
        have m4 : ∀ u : Value, Moves (fun k => k = w.heap.size ∨ k = W2.heap.size + 1) w3 ((w3.setCell ⟨w.heap.size, 0, none⟩ u).putObj (W2.heap.size + 1) (.deferred none)) := fun u =>
          ((setCell_moves w3 w.heap.size 0 u).mono (fun _ h => Or.inl h)).trans ((moves_putObj (l := W2.heap.size + 1) (.deferred none)).mono (fun _ h => Or.inr h)) (fun _ _ h => h)
        have dE : ∀ u : Value, (w3.setCell ⟨w.heap.size, 0, none⟩ u).heap[W2.heap.size + 1]? = some (.deferred (some [])) := fun u => (heap_setCell_other _ _ _ _ (by simp only; omega)).trans dD
        obtain ⟨g1, g2⟩ := open_end X.out.1 X.out.2.2.1 h1 h7 (by omega) m3 x3 dD q0 (m4 (.pointer (some ⟨w.heap.size + 1, 0, none⟩)))
        have s3 := m3.size
        have s4 := (m4 (.pointer (some ⟨w.heap.size + 1, 0, none⟩))).size
        have fin : OpenR w pd md F r (.returned (.tuple #[.pointer (some ⟨w.heap.size + 1, 0, none⟩), .int .i64 0])) ((w3.setCell ⟨w.heap.size, 0, none⟩ (.pointer (some ⟨w.heap.size + 1, 0, none⟩))).putObj (W2.heap.size + 1) (.deferred none)) := by
          refine ⟨g1, fun _ => ⟨w.heap.size + 1, _, rfl, g2, by omega, fun k hk => ?_, fun k hk => ?_⟩, fun h => absurd hz h⟩
          · rcases hk with hk | hk
            · have := X.out.2.2.1 k hk; omega
            · omega
          · rcases hk with hk | hk
            · exact Or.inl hk
            · exact Or.inr (by omega)
        rw [← hr] at fin
        rw [← s2]
        exact leaves_mark (dE _) (results_cell_tmp' (p := 2) (u := 3) rfl _ _ ⟨w.heap.size, 0, none⟩ _ rfl (e4 _) (by kernel_rfl)) fin
      · gi_wp2_with (refine ⟨trivial, rfl, ?_⟩; gi_at_call 34; refine BC.out.mono ?_; rintro e w3 ⟨rfl, m3, x3⟩
                     have q0 := (m3.block w.heap.size (by have := HH.out.2.2.1; omega) (fun e => by rcases e with e | e | e <;> omega)).trans HH.out.2.1
                     have k0 := row_cell q0 (j := 0) rfl
                     have z0 := row_free q0 0
                     have HL := Lib.hid (And.intro m3 (And.intro x3 q0))
                     clear m3 x3 q0 c0 c1)
        refine wpIn_goto ?_
        refine Exit.fwdIn_goto ?_
        gi_wp2
        rw [Exit.noGoto_ret]
        obtain ⟨h1, h2, h7, hD⟩ := HH.out
        obtain ⟨m3, x3, q0⟩ := HL.out
        have lm : W2.heap.size + 1 < W.heap.size := by omega
        have dD : w3.heap[W2.heap.size + 1]? = some (.deferred (some [])) := (m3.block _ lm (fun e => by rcases e with e | e | e <;> omega)).trans hD
        have e4 : ∀ u : Value, ((w3.setCell ⟨w.heap.size, 0, none⟩ u).putObj (W2.heap.size + 1) (.deferred none)).cell? ⟨w.heap.size, 0, none⟩ = some u := fun u => row_cell ((World.putObj_heap_other (by omega)).trans (heap_setCell_same _ _ 0 _ tPLog u q0)) rfl
        have m4 : ∀ u : Value, Moves (fun k => k = w.heap.size ∨ k = W2.heap.size + 1) w3 ((w3.setCell ⟨w.heap.size, 0, none⟩ u).putObj (W2.heap.size + 1) (.deferred none)) := fun u =>
          ((setCell_moves w3 w.heap.size 0 u).mono (fun _ h => Or.inl h)).trans ((moves_putObj (l := W2.heap.size + 1) (.deferred none)).mono (fun _ h => Or.inr h)) (fun _ _ h => h)
        have dE : ∀ u : Value, (w3.setCell ⟨w.heap.size, 0, none⟩ u).heap[W2.heap.size + 1]? = some (.deferred (some [])) := fun u => (heap_setCell_other _ _ _ _ (by simp only; omega)).trans dD
        obtain ⟨g1, g2⟩ := open_end X.out.1 X.out.2.2.1 h1 h7 (by omega) m3 x3 dD q0 (m4 (.pointer none))
        have s3 := m3.size
        have fin : OpenR w pd md F r (.returned (.tuple #[.pointer none, .int .i64 r.2])) ((w3.setCell ⟨w.heap.size, 0, none⟩ (.pointer none)).putObj (W2.heap.size + 1) (.deferred none)) := by
          refine ⟨g1, fun h => absurd h hz, fun _ => ⟨rfl, g2.disk.weak (fun k hk hl => ?_) ?_ ?_⟩⟩
          · rcases hk with hk | hk
            · exact Or.inl hk
            · exact Or.inr ⟨by omega, hl⟩
          · intro h
            rcases h with h | h
            · exact X.out.1.lt.2.2.2.1 h
            · omega
          · intro h
            rcases h with h | h
            · exact X.out.1.lt.2.2.2.2 h
            · omega
        rw [← hr] at fin
        rw [← s2]
        exact leaves_mark (dE _) (results_cell_tmp' (p := 2) (u := 3) rfl _ _ ⟨w.heap.size, 0, none⟩ _ rfl (e4 _) (by kernel_rfl)) (by rw [← hr]; exact fin)
    · have ho' : Em.openedT d (bestT ts 2) = _ := if_neg hq
      have hq' : ¬ ((bestT ts 2).2.gen : Int) = 0 := by omega
      have la : LogAt W (w.heap.size + 1) pd md (Em.took d (bestT ts 2)) F := by
        refine ⟨X.out.2.2.2 hq, X.out.1.below h1, ?_, by omega, by omega, fun e => by have := X.out.2.2.1 _ e; omega⟩
        rcases h9 with ⟨_, h9⟩ | ⟨m, rfl, h9, h10, _⟩
        · exact absurd (congrArg Em.T.gen h9) hq
        · exact ⟨m, h8, h9, by omega, by omega, by omega⟩
      have BC := Lib.hid ((callsIn_wide (n := 0)).2 (mend_c la X.out.2.1))
      have ho2 : Em.openedT d (bestT ts 2) = ({ Em.took d (bestT ts 2) with d := (Em.mended (Em.took d (bestT ts 2)).d (Em.took d (bestT ts 2)).tp (Em.took d (bestT ts 2)).fin).1 }, (Em.mended (Em.took d (bestT ts 2)).d (Em.took d (bestT ts 2)).tp (Em.took d (bestT ts 2)).fin).2) := ho'
      rw [← ho2] at BC
      clear ho' ho2 la
      have HH := Lib.hid (And.intro h1 (And.intro h2 (And.intro h7 hD)))
      clear h1 h2 h6 h7 h8 h9 hD ho
      obtain ⟨r, hr⟩ : ∃ r, Em.openedT d (bestT ts 2) = r := ⟨_, rfl⟩
      rw [hr] at BC ⊢
      by_cases hz : r.2 = 0
      · gi_wp2_with (refine ⟨trivial, rfl, ?_⟩; gi_at_call 35; refine BC.out.mono ?_; rintro e w3 ⟨rfl, m3, x3⟩
                     have q0 := (m3.block w.heap.size (by have := HH.out.2.2.1; omega) (fun e => by rcases e with e | e | e <;> omega)).trans HH.out.2.1
                     have k0 := row_cell q0 (j := 0) rfl
                     have z0 := row_free q0 0
                     have HL := Lib.hid (And.intro m3 (And.intro x3 q0))
                     clear m3 x3 q0 c0 c1)
        rw [Exit.fwdIn_ret]
        obtain ⟨h1, h2, h7, hD⟩ := HH.out
        obtain ⟨m3, x3, q0⟩ := HL.out
        have lm : W2.heap.size + 1 < W.heap.size := by omega
        have dD : w3.heap[W2.heap.size + 1]? = some (.deferred (some [])) := (m3.block _ lm (fun e => by rcases e with e | e | e <;> omega)).trans hD
        have e4 : ∀ u : Value, ((w3.setCell ⟨w.heap.size, 0, none⟩ u).putObj (W2.heap.size + 1) (.deferred none)).cell? ⟨w.heap.size, 0, none⟩ = some u := fun u => row_cell ((World.putObj_heap_other (by omega)).trans (heap_setCell_same _ _ 0 _ tPLog u q0)) rfl
        have m4 : ∀ u : Value, Moves (fun k => k = w.heap.size ∨ k = W2.heap.size + 1) w3 ((w3.setCell ⟨w.heap.size, 0, none⟩ u).putObj (W2.heap.size + 1) (.deferred none)) := fun u =>
          ((setCell_moves w3 w.heap.size 0 u).mono (fun _ h => Or.inl h)).trans ((moves_putObj (l := W2.heap.size + 1) (.deferred none)).mono (fun _ h => Or.inr h)) (fun _ _ h => h)
        have dE : ∀ u : Value, (w3.setCell ⟨w.heap.size, 0, none⟩ u).heap[W2.heap.size + 1]? = some (.deferred (some [])) := fun u => (heap_setCell_other _ _ _ _ (by simp only; omega)).trans dD
        obtain ⟨g1, g2⟩ := open_end X.out.1 X.out.2.2.1 h1 h7 (by omega) m3 x3 dD q0 (m4 (.pointer (some ⟨w.heap.size + 1, 0, none⟩)))
        have s3 := m3.size
        have s4 := (m4 (.pointer (some ⟨w.heap.size + 1, 0, none⟩))).size
        have fin : OpenR w pd md F r (.returned (.tuple #[.pointer (some ⟨w.heap.size + 1, 0, none⟩), .int .i64 0])) ((w3.setCell ⟨w.heap.size, 0, none⟩ (.pointer (some ⟨w.heap.size + 1, 0, none⟩))).putObj (W2.heap.size + 1) (.deferred none)) := by
          refine ⟨g1, fun _ => ⟨w.heap.size + 1, _, rfl, g2, by omega, fun k hk => ?_, fun k hk => ?_⟩, fun h => absurd hz h⟩
          · rcases hk with hk | hk
            · have := X.out.2.2.1 k hk; omega
            · omega
          · rcases hk with hk | hk
            · exact Or.inl hk
            · exact Or.inr (by omega)
        rw [← hr] at fin
        rw [← s2]
        exact leaves_mark (dE _) (results_cell_tmp' (p := 2) (u := 3) rfl _ _ ⟨w.heap.size, 0, none⟩ _ rfl (e4 _) (by kernel_rfl)) fin
      · gi_wp2_with (refine ⟨trivial, rfl, ?_⟩; gi_at_call 35; refine BC.out.mono ?_; rintro e w3 ⟨rfl, m3, x3⟩
                     have q0 := (m3.block w.heap.size (by have := HH.out.2.2.1; omega) (fun e => by rcases e with e | e | e <;> omega)).trans HH.out.2.1
                     have k0 := row_cell q0 (j := 0) rfl
                     have z0 := row_free q0 0
                     have HL := Lib.hid (And.intro m3 (And.intro x3 q0))
                     clear m3 x3 q0 c0 c1)
        refine wpIn_goto ?_
        refine Exit.fwdIn_goto ?_
        gi_wp2
        rw [Exit.noGoto_ret]
        obtain ⟨h1, h2, h7, hD⟩ := HH.out
        obtain ⟨m3, x3, q0⟩ := HL.out
        have lm : W2.heap.size + 1 < W.heap.size := by omega
        have dD : w3.heap[W2.heap.size + 1]? = some (.deferred (some [])) := (m3.block _ lm (fun e => by rcases e with e | e | e <;> omega)).trans hD
        have e4 : ∀ u : Value, ((w3.setCell ⟨w.heap.size, 0, none⟩ u).putObj (W2.heap.size + 1) (.deferred none)).cell? ⟨w.heap.size, 0, none⟩ = some u := fun u => row_cell ((World.putObj_heap_other (by omega)).trans (heap_setCell_same _ _ 0 _ tPLog u q0)) rfl
        have m4 : ∀ u : Value, Moves (fun k => k = w.heap.size ∨ k = W2.heap.size + 1) w3 ((w3.setCell ⟨w.heap.size, 0, none⟩ u).putObj (W2.heap.size + 1) (.deferred none)) := fun u =>
          ((setCell_moves w3 w.heap.size 0 u).mono (fun _ h => Or.inl h)).trans ((moves_putObj (l := W2.heap.size + 1) (.deferred none)).mono (fun _ h => Or.inr h)) (fun _ _ h => h)
        have dE : ∀ u : Value, (w3.setCell ⟨w.heap.size, 0, none⟩ u).heap[W2.heap.size + 1]? = some (.deferred (some [])) := fun u => (heap_setCell_other _ _ _ _ (by simp only; omega)).trans dD
        obtain ⟨g1, g2⟩ := open_end X.out.1 X.out.2.2.1 h1 h7 (by omega) m3 x3 dD q0 (m4 (.pointer none))
        have s3 := m3.size
        have fin : OpenR w pd md F r (.returned (.tuple #[.pointer none, .int .i64 r.2])) ((w3.setCell ⟨w.heap.size, 0, none⟩ (.pointer none)).putObj (W2.heap.size + 1) (.deferred none)) := by
          refine ⟨g1, fun h => absurd h hz, fun _ => ⟨rfl, g2.disk.weak (fun k hk hl => ?_) ?_ ?_⟩⟩
          · rcases hk with hk | hk
            · exact Or.inl hk
            · exact Or.inr ⟨by omega, hl⟩
          · intro h
            rcases h with h | h
            · exact X.out.1.lt.2.2.2.1 h
            · omega
          · intro h
            rcases h with h | h
            · exact X.out.1.lt.2.2.2.2 h
            · omega
        rw [← hr] at fin
        rw [← s2]
        exact leaves_mark (dE _) (results_cell_tmp' (p := 2) (u := 3) rfl _ _ ⟨w.heap.size, 0, none⟩ _ rfl (e4 _) (by kernel_rfl)) (by rw [← hr]; exact fin)

end Go.Proofs.YtgffifleflkjoaaGreat

namespace Go.Proofs.YtgffifleflkjoaaGreat
open Dm Em Go.Maps

/-- One that has just begun. -/
theorem begun_sound {room : Nat} (hr : 100 ≤ room) : Sound (Em.begun (Dm.new 0 room)).1 := by
  obtain ⟨b1, b2, b3, b4, b5⟩ := begun_fine (s := 0) hr
  have hb : Em.begun (Dm.new 0 room) = (⟨0, 1, .map [], 0, (folded 1 (.map [])).length, (rewrote (Dm.new 0 room) 0 (folded 1 (.map []))).1, false⟩, (rewrote (Dm.new 0 room) 0 (folded 1 (.map []))).2) := rfl
  rw [hb] at b1 b5 ⊢
  have z : (rewrote (Dm.new 0 room) 0 (folded 1 (.map []))).2 = 0 := b1
  have l5 : (folded 1 (.map [])).length ≤ 100 := b5
  rcases rewrote_live (d := Dm.new 0 room) (t := 1) (o := 0) rfl (by decide) (by decide) (Or.inl rfl) (folded 1 (.map [])) with ⟨w, _⟩ | ⟨w, _⟩ | ⟨w, _⟩ | ⟨w1, w2, w3, w4, w5⟩
  · rw [z] at w; exact absurd w (by decide)
  · rw [z] at w; exact absurd w (by decide)
  · rw [z] at w; exact absurd w (by decide)
  · have r := runs_folded (D := .map []) (g := 1) rowsOk_none tidy_empty (by decide) (by decide) (by decide)
    rw [← w5] at r
    refine ⟨⟨Nat.zero_le _, (show 1 ≤ 2147483647 by decide), Nat.zero_le _, ?_, rowsOk_none, (show 0 ≤ 256 by decide)⟩, tidy_empty, rfl, w2, ⟨_, r, tell_again rowsOk_none tidy_empty⟩, ?_, ?_, Or.inl w3⟩
    · show (folded 1 (.map [])).length ≤ 2200000 + 8205 * 0
      omega
    · show (folded 1 (.map [])).length = ((rewrote (Dm.new 0 room) 0 (folded 1 (.map []))).1.lasts.tp (0 : Nat)).length
      rw [w5]
    · show (rtape ((rewrote (Dm.new 0 room) 0 (folded 1 (.map []))).1.lasts.tp (1 : Nat))).gen < 1
      rw [w4]
      exact Nat.zero_lt_one

theorem Sound.stop {e : E} (h : Sound e) {n : Int} (hn : 0 ≤ n) : e.d.stop n = ({ e.d with stops := n }, 0) ∧ Sound { e with d := { e.d with stops := n } } := by
  refine ⟨?_, ⟨mended_good h.good _, h.tidy, h.gone, h.dead, h.live, h.fin, h.old, h.waits⟩⟩
  unfold D.stop
  rw [if_neg (by omega), if_neg (by rw [h.dead]; decide)]

theorem bestT_at {ts : Nat → Em.T} (h : (bestT ts 2).2.gen ≠ 0) : ∃ k, k ≤ 1 ∧ bestT ts 2 = (k, ts k) := by
  have h1 : bestT ts 1 = if 0 < (ts 0).gen then (0, ts 0) else (0, Em.T.none) := rfl
  have h2 : bestT ts 2 = if (bestT ts 1).2.gen < (ts 1).gen then (1, ts 1) else bestT ts 1 := rfl
  by_cases q : (bestT ts 1).2.gen < (ts 1).gen
  · rw [if_pos q] at h2
    exact ⟨1, Nat.le_refl _, h2⟩
  · rw [if_neg q] at h2
    by_cases z : 0 < (ts 0).gen
    · rw [if_pos z] at h1
      exact ⟨0, Nat.zero_le _, h2.trans h1⟩
    · rw [if_neg z] at h1
      rw [h2, h1] at h
      exact absurd rfl h

theorem goesd_free {d : D} (h : d.dead = false) (h2 : d.stops = -1) : d.goes = (d, 0) := by
  unfold D.goes
  rw [if_neg (by rw [h]; decide), if_neg (by rw [h2]; decide), if_neg (by rw [h2]; decide)]

theorem mended_free {d : D} {t n : Nat} (h : d.dead = false) (h2 : d.stops = -1) (ht : t ≤ 1) (hn : n ≤ (d.stand.tp t).length) : (Em.mended d t n).2 = 0 := by
  unfold Em.mended
  by_cases q : (d.stand.tp t).length = n
  · rw [if_pos q]
  · rw [if_neg q]
    have hc : d.cut t n = ({ d with waits := d.waits ++ [⟨3, t, n, []⟩] }, 0) := by
      unfold D.cut
      rw [if_neg (by omega)]
      unfold D.step
      rw [goesd_free h h2]
      rfl
    rw [hc]
    unfold Em.next
    rw [if_pos rfl]
    unfold D.sync
    rw [goesd_free (d := { d with waits := d.waits ++ [⟨3, t, n, []⟩] }) h h2]
    rfl

/-- The engine of the tape that is taken is a good one. -/
theorem took_good {d : D} (hl : ∀ k : Nat, k ≤ 1 → (d.stand.tp k).length ≤ 1000000) (h : (bestT (fun k => rtape (d.stand.tp k)) 2).2.gen ≠ 0) : (Em.took d (bestT (fun k => rtape (d.stand.tp k)) 2)).good := by
  obtain ⟨k, hk, e⟩ := bestT_at h
  rw [e]
  obtain ⟨r1, r2, r3, r4, r5⟩ := rtape_ok (d.stand.tp k)
  have := hl k hk
  refine ⟨hk, r1, ?_, ?_, r2, r3⟩
  · show (rtape (d.stand.tp k)).batches ≤ 1000000
    omega
  · show (rtape (d.stand.tp k)).fin ≤ 2200000 + 8205 * (rtape (d.stand.tp k)).batches
    omega

/-- What Open makes of a disk that tells so. -/
theorem opened_tells {d : D} {R : Pairs} (h1 : d.dead = false) (h2 : d.stops = -1) (h : TellsSo d.stand R) :
    (Em.openedT d (bestT (fun k => rtape (d.stand.tp k)) 2)).2 = 0 ∧ tell (Em.openedT d (bestT (fun k => rtape (d.stand.tp k)) 2)).1.rows = R := by
  obtain ⟨hg, hr⟩ := h
  unfold Em.openedT
  rw [if_neg hg]
  refine ⟨?_, hr⟩
  obtain ⟨k, hk, e⟩ := bestT_at hg
  rw [e]
  exact mended_free h1 h2 hk (rtape_ok _).2.2.2.1

theorem goesd_room (d : D) : d.goes.1.room = d.room := by
  unfold D.goes
  split
  · rfl
  · split
    · rfl
    · split <;> rfl

theorem stepd_room (d : D) (s : Step) : (d.step s).1.room = d.room := by
  unfold D.step
  split
  · exact goesd_room d
  · exact goesd_room d

theorem appendd_room (d : D) (t : Int) (b : List UInt8) : (d.append t b).1.room = d.room := by
  unfold D.append
  split
  · rfl
  · split
    · rfl
    · exact stepd_room _ _

theorem cutd_room (d : D) (t n : Int) : (d.cut t n).1.room = d.room := by
  unfold D.cut
  split
  · rfl
  · exact stepd_room _ _

theorem syncd_room (d : D) : d.sync.1.room = d.room := by
  unfold D.sync
  split
  · exact goesd_room d
  · exact goesd_room d

theorem wrote_room (d : D) (t : Nat) (b : List UInt8) : (Em.wrote d t b).1.room = d.room := by
  unfold Em.wrote Em.next
  split
  · rw [syncd_room, appendd_room]
  · exact appendd_room _ _ _

theorem emptied_room (d : D) (t : Nat) : (Em.emptied d t).1.room = d.room := by
  unfold Em.emptied
  split
  · rfl
  · exact cutd_room _ _ _

theorem rewrote_room (d : D) (t : Nat) (b : List UInt8) : (Em.rewrote d t b).1.room = d.room := by
  have h : (Em.next (Em.emptied d t) fun d => d.append t b).1.room = d.room := by
    unfold Em.next
    split
    · rw [appendd_room, emptied_room]
    · exact emptied_room _ _
  unfold Em.rewrote
  rw [Em.next]
  split
  · rw [syncd_room, h]
  · exact h

theorem commit_room (e : E) (l : List Change) : (e.commit l).1.d.room = e.d.room := by
  have hp : ∀ (e : E) (D : Em.Rows) (b : List UInt8), (e.put D b).1.d.room = e.d.room := fun e D b => by
    unfold E.put
    split
    · rfl
    · exact wrote_room _ _ _
  have hf : ∀ (e : E) (D : Em.Rows), (e.fold D).1.d.room = e.d.room := fun e D => by
    unfold E.fold
    split
    · rfl
    · simp only
      split <;> exact rewrote_room _ _ _
  have hs : ∀ (e : E) (D : Em.Rows) (b : List UInt8), (e.step D b).1.d.room = e.d.room := fun e D b => by
    unfold E.step
    split
    · rw [hf, hp]
    · exact hp _ _ _
  unfold E.commit
  split
  · rfl
  · split
    · rfl
    · exact hs _ _ _

/-- Between two of the law's commits: what the document's rows may be behind a crash. -/
structure Lasts (e : E) (Rm : Pairs) : Prop where
  tidy : Tidy e.rows
  sound : e.gone = false → Sound e
  after : ∀ c, TellsSo (e.d.crash c).stand (tell e.rows) ∨ TellsSo (e.d.crash c).stand Rm

theorem Sound.lasts {e : E} (h : Sound e) (Rm : Pairs) : Lasts e Rm := ⟨h.tidy, fun _ => h, fun c => Or.inl (h.tells c)⟩

theorem lasts_step {e : E} {l : List Change} (h : Sound e) :
    ((e.commit l).2 = 0 → (rall (tell e.rows) l).2 = 0 ∧ tell (e.commit l).1.rows = (rall (tell e.rows) l).1 ∧ Lasts (e.commit l).1 (rall (tell e.rows) l).1) ∧
    ((e.commit l).2 = 281 → tell (e.commit l).1.rows = tell e.rows ∧ Lasts (e.commit l).1 (rall (tell e.rows) l).1) ∧
    ((e.commit l).2 ≠ 0 → (e.commit l).2 ≠ 281 → tell (e.commit l).1.rows = tell e.rows ∧ Lasts (e.commit l).1 (tell e.rows)) := by
  obtain ⟨c1, c2⟩ := commit_rows e l
  obtain ⟨a1, a2⟩ := commit_after (l := l) h
  have hr := rall_tell h.good.rows h.tidy l
  refine ⟨fun q => ?_, fun q => ?_, fun q q' => ?_⟩
  · rw [if_pos q] at c1
    have hd := c2 q
    rw [if_pos hd] at hr
    rw [hr, c1]
    exact ⟨rfl, rfl, (a1 (by rw [q]; decide)).lasts _⟩
  · rw [if_neg (by rw [q]; decide)] at c1
    obtain ⟨g, hd, t⟩ := a2 q
    rw [if_pos hd] at hr
    refine ⟨by rw [c1], ⟨by rw [c1]; exact h.tidy, fun g' => (by rw [g] at g'; cases g'), fun c => ?_⟩⟩
    rw [hr, c1]
    exact t c
  · rw [if_neg q] at c1
    exact ⟨by rw [c1], (a1 q').lasts _⟩

end Go.Proofs.YtgffifleflkjoaaGreat
