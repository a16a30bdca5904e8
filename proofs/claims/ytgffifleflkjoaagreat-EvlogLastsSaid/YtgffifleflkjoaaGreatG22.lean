/-
  evlog: Open.
  evlog: Get, Len, Generation, Gone; a batch that may not be.
-/
import Derived.Test.YtgffifleflkjoaaGreatG11
import Derived.Test.YtgffifleflkjoaaGreatG20
import Derived.Test.YtgffifleflkjoaaGreatG21
import Derived.Laws.ResultCell
import Derived.Sort.QuietIn

namespace Go.Proofs.YtgffifleflkjoaaGreat
open Go.RowKit Dm Go.Shelf
attribute [local go_sem] Oper.semAt_some

abbrev tPLog : Nat := 27

theorem same_nil_c {p m : Nat} {d : D} {F : Nat → Prop} {w : World} (x : DiskAt w.heap p m d F) : Calls Tryz.prog 32 #[.pointer (some ⟨p, 0, none⟩), .pointer none] w fun e w' => e = .returned (.bool false) ∧ w = w' := by
  have NO := Lib.hid (none_at p true w x.cell16.1)
  have NN := Lib.hid (none_c (w := w) (v := .pointer none) (Or.inl rfl))
  clear x
  go_enter Tryz.func32, Tryz.ntmps32
  go_wp2_with (first
    | (go_at_call 45; (with_reducible refine (NO.out).mono ?_); rintro e w' ⟨rfl, rfl⟩)
    | (go_at_call 45; (with_reducible refine (NN.out).mono ?_); rintro e w' ⟨rfl, rfl⟩))
  go_ret
  exact ⟨rfl, rfl⟩

/-- The tape that is taken, of those ahead of one. -/
def bestT (ts : Nat → Em.T) : Nat → Nat × Em.T
  | 0 => (0, Em.T.none)
  | k + 1 => if (bestT ts k).2.gen < (ts k).gen then (k, ts k) else bestT ts k

abbrev logZ (pd : Nat) : Array Value := #[.int .i64 0, .int .i64 0, .map none, .int .i64 0, .int .i64 0, .pointer (some ⟨pd, 0, none⟩), .bool false]

/-- Between two tapes. -/
def OpI (w : World) (pd : Nat) (ts : Nat → Em.T) (k : Nat) (O : Nat → Prop) (W : World) : Prop :=
  Below w.heap.size w W ∧ W.heap[w.heap.size]? = some (.cells #[.pointer (some ⟨w.heap.size + 1, 0, none⟩)] tPLog (0, 0)) ∧ (∀ i, O i → w.heap.size + 5 ≤ i) ∧ w.heap.size + 5 ≤ W.heap.size ∧
    ∃ mv, W.heap[w.heap.size + 1]? = some (.cells (logC (bestT ts k).1 (bestT ts k).2.gen mv (bestT ts k).2.batches (bestT ts k).2.fin pd false) tLog (0, 0)) ∧
      ((mv = .map none ∧ (bestT ts k).2 = Em.T.none) ∨ ∃ m, mv = .map (some m) ∧ RowsIn W m (Maps.size (bestT ts k).2.rows) (bestT ts k).2.rows ∧ w.heap.size + 3 ≤ m ∧ ¬ O m)

theorem rows_moves {A B : World} {O : Nat → Prop} {m n : Nat} {D : Em.Rows} (h : RowsIn A m n D) (hm : Moves O A B) (h1 : ¬ O m) : RowsIn B m n D := by
  have lt := h.lt
  obtain ⟨es, clock, k1, F, hs, hD⟩ := h
  exact ⟨es, clock, (hm.block m lt h1).trans k1, F, hs, hD⟩

theorem opI_moves {w A B : World} {pd : Nat} {ts : Nat → Em.T} {k : Nat} {O O' : Nat → Prop} (h : OpI w pd ts k O A) (hm : Moves O A B) (ho : ∀ i, O' i → O i ∨ A.heap.size ≤ i) : OpI w pd ts k O' B := by
  obtain ⟨h1, h2, h6, h7, mv, h8, h9⟩ := h
  refine ⟨⟨hm.os.trans h1.os, hm.tape.trans h1.tape, hm.output.trans h1.output, Nat.le_trans h1.size hm.size, fun i hi => ?_⟩, (hm.block _ (by omega) (fun e => by have := h6 _ e; omega)).trans h2, fun i hi => ?_, Nat.le_trans h7 hm.size, mv,
    (hm.block _ (by omega) (fun e => by have := h6 _ e; omega)).trans h8, ?_⟩
  · exact (hm.block i (by have := h1.size; omega) (fun e => by have := h6 i e; omega)).trans (h1.block i hi)
  · rcases ho i hi with e | e
    · exact h6 i e
    · omega
  · rcases h9 with h9 | ⟨m, e, h9, h10, h11⟩
    · exact Or.inl h9
    · refine Or.inr ⟨m, e, rows_moves h9 hm h11, h10, fun e => ?_⟩
      rcases ho m e with e | e
      · exact h11 e
      · have := h9.lt; omega

theorem rows_put {A : World} {m n d : Nat} {D : Em.Rows} {o o' : Obj} (h : RowsIn A m n D) (ho' : A.heap[d]? = some o') (hm : ∀ es clock, o' ≠ .map es clock) : RowsIn (A.putObj d o) m n D := by
  obtain ⟨es, clock, k1, kF, ks, kD⟩ := h
  have hne : m ≠ d := fun e => by rw [e, ho'] at k1; cases k1; exact hm _ _ rfl
  exact ⟨es, clock, (World.putObj_heap_other hne).trans k1, kF, ks, kD⟩

theorem opI_put {w A : World} {pd : Nat} {ts : Nat → Em.T} {k : Nat} {O : Nat → Prop} (h : OpI w pd ts k O A) (d : Nat) (hd : w.heap.size + 3 ≤ d) (o o' : Obj) (ho' : A.heap[d]? = some o') (hm : ∀ es clock, o' ≠ .map es clock) : OpI w pd ts k O (A.putObj d o) := by
  obtain ⟨h1, h2, h6, h7, mv, h8, h9⟩ := h
  refine ⟨⟨h1.os, h1.tape, h1.output, by simpa using h1.size, fun i hi => (World.putObj_heap_other (by omega)).trans (h1.block i hi)⟩, (World.putObj_heap_other (by omega)).trans h2, h6, by simpa using h7, mv, (World.putObj_heap_other (by omega)).trans h8, ?_⟩
  rcases h9 with h9 | ⟨m, e, h9, h10, h11⟩
  · exact Or.inl h9
  · exact Or.inr ⟨m, e, rows_put h9 ho' hm, h10, h11⟩

/-- What Open tells. -/
def OpenR (w : World) (pd md : Nat) (F : Nat → Prop) (r : Em.E × Int) (e : Ending) (w' : World) : Prop :=
  Moves (PM pd md) w w' ∧ (r.2 = 0 → ∃ (pl : Nat) (F' : Nat → Prop), e = .returned (.tuple #[.pointer (some ⟨pl, 0, none⟩), .int .i64 0]) ∧ LogAt w' pl pd md r.1 F' ∧ w.heap.size ≤ pl ∧ (∀ k, F' k → k < w'.heap.size) ∧ ∀ k, F' k → F k ∨ w.heap.size ≤ k) ∧
    (r.2 ≠ 0 → e = .returned (.tuple #[.pointer none, .int .i64 r.2]) ∧ DiskAt w'.heap pd md r.1.d (plus F w w'))

/-- An engine stays where two blocks apart are turned. -/
theorem open_end {w W w3 W4 : World} {pd md q : Nat} {r : Em.E} {F : Nat → Prop} {d : D} (x : DiskAt w.heap pd md d F) (hF : ∀ i, F i → i < w.heap.size) (b : Below w.heap.size w W) (s : w.heap.size + 5 ≤ W.heap.size) (hD : q = w.heap.size + 3) (m3 : Moves (PLM (w.heap.size + 1) pd md) W w3)
    (x3 : LogAt w3 (w.heap.size + 1) pd md r (plus F W w3)) {oD : Option (List Deferred)} (dD : w3.heap[q]? = some (.deferred oD)) {c : Array Value} (q0 : w3.heap[w.heap.size]? = some (.cells c tPLog (0, 0))) (m4 : Moves (fun k => k = w.heap.size ∨ k = q) w3 W4) :
    Moves (PM pd md) w W4 ∧ LogAt W4 (w.heap.size + 1) pd md r (plus F W w3) := by
  have lx := x.lt
  have s3 := m3.size
  have s4 := m4.size
  obtain ⟨m, row, rows, hne⟩ := x3.row
  have lr := lt_of_row row
  refine ⟨⟨m4.os.trans (m3.os.trans b.os), m4.tape.trans (m3.tape.trans b.tape), m4.output.trans (m3.output.trans b.output), by have := b.size; omega, fun k hk hn => ?_⟩, ⟨x3.good, ?_, ⟨m, (m4.block _ lr (by omega)).trans row, ?_, hne⟩, x3.ne⟩⟩
  · exact (m4.block k (by have := b.size; omega) (by omega)).trans ((m3.block k (by have := b.size; omega) (fun e => by rcases e with e | e | e; omega; exact hn (Or.inl e); exact hn (Or.inr e))).trans (b.block k hk))
  · refine x3.disk.keeps (m4.block pd x3.disk.lt.1 (by omega)) (m4.block md x3.disk.lt.2.1 (by omega)) (fun k hk hl => m4.block k hl ?_) (fun _ h _ => h) (fun _ h => Or.inl h)
    rcases hk with hk | hk
    · have := hF k hk; omega
    · omega
  · obtain ⟨es, clock, k1, kF, ks, kD⟩ := rows
    have n1 : m ≠ w.heap.size := fun e => by rw [e, q0] at k1; cases k1
    have n2 : m ≠ q := fun e => by rw [e, dD] at k1; cases k1
    exact ⟨es, clock, (m4.block m (Array.getElem?_eq_some_iff.1 k1).1 (fun e => by rcases e with e | e; exact n1 e; exact n2 e)).trans k1, kF, ks, kD⟩

theorem results_cell_tmp' {fn : Func} {p u : Tmp} {ty : TypeId} (h : fn.results = #[.cell p ty, .tmp u]) (tmps : Array Value) (w : World) (a : Addr) (v : Value) (hp : tmps.getD p undef = .pointer (some a)) (hc : w.cell? a = some v)
    (hi : (isAgg ty).run Tryz.prog w = .ok false w) : (results fn tmps).run Tryz.prog w = .ok (.tuple #[v, tmps.getD u undef]) w := by
  rw [results_cell_tmp h, hp]
  simp [asAddr, loadVar, hi, hc]

theorem setCell5_row {w : World} {pl pd : Nat} {tp gen batches fin : Nat} {rows : Value} {gone : Bool} (h : w.heap[pl]? = some (.cells (logC tp gen rows batches fin pd gone) tLog (0, 0))) (tp' gen' batches' fin' : Nat) (r' : Value) :
    (((((w.setCell ⟨pl, 0, none⟩ (.int .i64 tp')).setCell ⟨pl, 1, none⟩ (.int .i64 gen')).setCell ⟨pl, 2, none⟩ r').setCell ⟨pl, 3, none⟩ (.int .i64 batches')).setCell ⟨pl, 4, none⟩ (.int .i64 fin')).heap[pl]? = some (.cells (logC tp' gen' r' batches' fin' pd gone) tLog (0, 0)) := by
  have h0 := heap_setCell_same w pl 0 _ tLog (.int .i64 tp') h
  have h1 := heap_setCell_same _ pl 1 _ tLog (.int .i64 gen') h0
  have h2 := heap_setCell_same _ pl 2 _ tLog r' h1
  have h3 := heap_setCell_same _ pl 3 _ tLog (.int .i64 batches') h2
  exact heap_setCell_same _ pl 4 _ tLog (.int .i64 fin') h3

theorem setCell_moves (w : World) (pl j : Nat) (a : Value) : Moves (fun k => k = pl) w (w.setCell ⟨pl, j, none⟩ a) := ⟨rfl, rfl, rfl, by simp, fun k hk hne => heap_setCell_other _ _ _ _ hne⟩

theorem setCell5_moves (w : World) (pl : Nat) (a b c d e : Value) : Moves (fun k => k = pl) w (((((w.setCell ⟨pl, 0, none⟩ a).setCell ⟨pl, 1, none⟩ b).setCell ⟨pl, 2, none⟩ c).setCell ⟨pl, 3, none⟩ d).setCell ⟨pl, 4, none⟩ e) :=
  ((((setCell_moves w pl 0 a).trans (setCell_moves _ pl 1 b) (fun _ _ h => h)).trans (setCell_moves _ pl 2 c) (fun _ _ h => h)).trans (setCell_moves _ pl 3 d) (fun _ _ h => h)).trans (setCell_moves _ pl 4 e) (fun _ _ h => h)

set_option maxRecDepth 100000 in
set_option maxHeartbeats 4000000 in
theorem open_c {w : World} {pd md : Nat} {d : D} {F : Nat → Prop} {ts : Nat → Em.T} (x : DiskAt w.heap pd md d F) (hw : d.waits.length ≤ 900000000) (hF : ∀ i, F i → i < w.heap.size) (hts : ∀ k : Nat, k < 2 → ReadsC (d.stand.tp k) k (ts k)) (hz : (bestT ts 2).2.gen = 0) :
    Calls Tryz.prog 10 #[.pointer (some ⟨pd, 0, none⟩)] w (OpenR w pd md F (Em.begun d)) := by
  obtain ⟨W2, hW2⟩ : ∃ W, (w.alloc (.cells #[.pointer (some ⟨w.heap.size + 1, 0, none⟩)] tPLog)).alloc (.cells (logZ pd) tLog) = W := ⟨_, rfl⟩
  have B2 : Below w.heap.size w W2 := by rw [← hW2]; exact ((Below.refl _ _).alloc (Nat.le_refl _) _).alloc (by simp) _
  have s2 : W2.heap.size = w.heap.size + 2 := by rw [← hW2]; simp
  have r0 : W2.heap[w.heap.size]? = some (.cells #[.pointer (some ⟨w.heap.size + 1, 0, none⟩)] tPLog (0, 0)) := by rw [← hW2]; exact heap_past (by simp) (heap_alloc_last w _)
  have r1 : W2.heap[w.heap.size + 1]? = some (.cells (logZ pd) tLog (0, 0)) := by rw [← hW2]; exact heap_at (w := w.alloc _) _ (by simp)
  have SC := Lib.hid (fun (c : Obj) => (callsIn_wide (n := 0)).2 (same_nil_c (x.below ((Below.refl w.heap.size w).alloc (Nat.le_refl _) c))))
  have hb : Below W2.heap.size W2 (W2.alloc (.cells #[.pointer (some ⟨pd, 0, none⟩)] 23)) := (Below.refl _ _).alloc (Nat.le_refl _) _
  have k0 : (W2.alloc (.cells #[.pointer (some ⟨pd, 0, none⟩)] 23)).cell? ⟨w.heap.size + 1 + 1, 0, none⟩ = some (.pointer (some ⟨pd, 0, none⟩)) := by
    rw [show w.heap.size + 1 + 1 = W2.heap.size by omega]
    exact row_cell (heap_alloc_last W2 (.cells #[.pointer (some ⟨pd, 0, none⟩)] 23)) rfl
  have IT := Lib.hid (tapes1_c ((x.below B2).below hb) k0 hts)
  have X := Lib.hid (And.intro x (And.intro hw (And.intro hF hz)))
  have B := Lib.hid (And.intro B2 (And.intro s2 (And.intro r0 r1)))
  have HW2 := Lib.hid hW2
  clear x hw hF hz hts B2 s2 r0 r1 hb k0 hW2
  refine (callsIn_wide (n := 0)).1 ?_
  refine callsIn_of_wp_marks Tryz.func10 rfl trivial ?_ rfl
  simp only [Tryz.ntmps10, List.size_toArray, List.length_cons, List.length_nil, Nat.reduceAdd, Nat.reduceSub, Array.replicate_succ, Array.replicate_zero, List.push_toArray, List.append_toArray, List.nil_append, List.cons_append]
  gi_wp2
  refine wpIn_scope_fwd 0 rfl ?_
  gi_wp2_with (first
    | (refine ⟨trivial, rfl, ?_⟩; gi_at_call 32; refine (SC.out _).mono ?_; rintro e w' ⟨rfl, rfl⟩)
    | (refine ⟨trivial, rfl, ?_⟩; gi_at_call 33; refine (callsIn_wide.2 (tapes_c pd _)).mono ?_; rintro e w' ⟨rfl, rfl⟩))
  rw [HW2.out]
  refine wpIn_rangeIterV (gf := 68) (lb := #[.pointer (some ⟨w.heap.size + 1 + 1, 0, none⟩)]) rfl (enters_of Tryz.func68 (by kernel_rfl) rfl) IT.out ?hR (Below.refl _ _) ?hps (OpI w pd ts) (fun _ _ _ _ => False)
    (fun k O O' A B h hm _ ho => opI_moves h hm ho) (fun _ _ _ _ _ _ h _ _ _ => h) ?hIb (fun _ _ _ _ _ _ _ h => h) ?h0
    (fun k O x a' W => ∃ (q : Nat) (mv : Value), a' = { tmps := #[.pointer (some ⟨pd, 0, none⟩), undef, .pointer (some ⟨w.heap.size, 0, none⟩), .int .i64 1, .pointer (some ⟨q, 0, none⟩), .pointer (some ⟨pd, 0, none⟩), .bool false, .pointer (some ⟨pd, 0, none⟩), .agg (logZ pd), .pointer (some ⟨w.heap.size + 1, 0, none⟩), .pointer (some ⟨pd, 0, none⟩),
        .func (.func 68) #[] #[.pointer (some ⟨w.heap.size + 1 + 1, 0, none⟩)], .agg #[.int .i64 k, .int .i64 (ts k).gen, mv, .int .i64 (ts k).batches, .int .i64 (ts k).fin],
        undef, undef, undef, undef, undef, undef, undef, undef, undef, undef, undef, undef, undef, undef, undef, undef, undef, undef, undef, undef, undef, undef, undef, undef, undef, undef], defers := [] } ∧
      W.heap[q]? = some (.cells #[.int .i64 k, .int .i64 (ts k).gen, mv, .int .i64 (ts k).batches, .int .i64 (ts k).fin] tTape (0, 0)) ∧ w.heap.size + 5 ≤ q ∧
      ((mv = .map none ∧ ts k = Em.T.none) ∨ ∃ m, mv = .map (some m) ∧ RowsIn W m (Maps.size (ts k).rows) (ts k).rows ∧ w.heap.size + 3 ≤ m) ∧ ∀ i, ¬ O i) ?hAx ?assign ?body ?done (fun _ _ _ _ _ h => h.elim)
  case hR =>
    rintro i (rfl | rfl | rfl | h)
    · have := X.out.1.lt; have := B.out.2.1; simp only [World.size_alloc]; omega
    · have := X.out.1.lt; have := B.out.2.1; simp only [World.size_alloc]; omega
    · have := B.out.2.1; simp only [World.size_alloc]; omega
    · exact h.2
  case hps =>
    rintro k x O W ⟨⟨v, rfl, _⟩, _⟩
    rfl
  case hIb =>
    intro k O r o W' hl h
    have := B.out.2.1
    exact opI_put h _ (by simp only [World.size_alloc]; omega) o _ hl (fun _ _ e => by cases e)
  case h0 =>
    intro W' hb' hs
    have s2 := B.out.2.1
    simp only [World.size_alloc] at hb' hs
    have hb0 : Below w.heap.size W2 (W2.alloc (.cells #[.pointer (some ⟨pd, 0, none⟩)] 23)) := (Below.refl _ _).alloc (by omega) _
    have hbb : Below W2.heap.size W2 W' := ((Below.refl W2.heap.size W2).alloc (Nat.le_refl _) (.cells #[.pointer (some ⟨pd, 0, none⟩)] 23)).trans (hb'.mono (by omega))
    exact ⟨B.out.1.trans (hbb.mono (by omega)), (hbb.block _ (by omega)).trans B.out.2.2.1, fun i h => h.elim, by omega, .map none, (hbb.block _ (by omega)).trans B.out.2.2.2, Or.inl ⟨rfl, rfl⟩⟩
  case hAx =>
    rintro k O x a' W l r o hl ⟨q, mv, h1, h2, h3, h4, h5⟩
    refine ⟨q, mv, h1, (World.putObj_heap_other (fun e => by rw [e, hl] at h2; cases h2)).trans h2, h3, ?_, h5⟩
    rcases h4 with h4 | ⟨m, e, h4, h6⟩
    · exact Or.inl h4
    · exact Or.inr ⟨m, e, rows_put h4 hl (fun _ _ e => by cases e), h6⟩
  case assign =>
    rintro k x O W hk ⟨⟨v, rfl, mv, rfl, hv⟩, hO⟩ hi hs ho1 ho2
    have s2 := B.out.2.1
    have sW := hi.2.2.2.1
    obtain ⟨om, rfl⟩ : ∃ om : Option Nat, mv = .map om := by
      rcases hv with ⟨h, _⟩ | ⟨m, h, _⟩
      · exact ⟨_, h⟩
      · exact ⟨_, h⟩
    simp only [World.size_alloc] at hs ho1 ho2 ⊢
    have H := Lib.hid (And.intro hi (And.intro hv (And.intro hO hs)))
    clear hi hv hO hs ho1 ho2
    gi_wp2
    obtain ⟨hi, hv, hO, hs⟩ := H.out
    have ba : ∀ c, Below W.heap.size W (W.alloc c) := fun c => (Below.refl _ _).alloc (Nat.le_refl _) c
    refine ⟨opI_moves hi (Moves.of_below (ba _)) (fun i h => Or.inl h), Keeps.of_below (ba _), W.heap.size, .map om, rfl, heap_alloc_last _ _, sW, ?_, hO⟩
    rcases hv with hv | ⟨m, e, hv, hm⟩
    · exact Or.inl hv
    · exact Or.inr ⟨m, e, rows_below hv (ba _) hv.lt, by simp only [World.size_alloc] at hm; omega⟩
  case body =>
    rintro k x O a' W hk hl hd ho1 ho2 hi ⟨q, mv, rfl, rq, hq, hv, hO⟩
    have s2 := B.out.2.1
    obtain ⟨h1, h2, h6, h7, mb, h8, h9⟩ := hi
    have e1 : ∀ x : Ext W.heap.size W, x.world.cell? ⟨q, 1, none⟩ = some (.int .i64 (ts k).gen) := fun x => cell_past x.below (row_cell rq rfl)
    have e2 : ∀ x : Ext W.heap.size W, x.world.cell? ⟨w.heap.size, 0, none⟩ = some (.pointer (some ⟨w.heap.size + 1, 0, none⟩)) := fun x => cell_past x.below (row_cell h2 rfl)
    have e3 : ∀ x : Ext W.heap.size W, x.world.cell? ⟨w.heap.size + 1, 1, none⟩ = some (.int .i64 (bestT ts k).2.gen) := fun x => cell_past x.below (row_cell h8 rfl)
    have mix : Tryz.prog.follows .mixedOrders = true := by kernel_rfl
    simp only [World.size_alloc] at hl hd ho1 ho2 ⊢
    by_cases hlt : (bestT ts k).2.gen < (ts k).gen
    · have g1 : decide (((bestT ts k).2.gen : Int) < (ts k).gen) = true := by simp; omega
      obtain ⟨om, rfl⟩ : ∃ om : Option Nat, mv = .map om := by
        rcases hv with ⟨h, _⟩ | ⟨m, h, _⟩
        · exact ⟨_, h⟩
        · exact ⟨_, h⟩
      have HH := Lib.hid (And.intro h1 (And.intro h2 (And.intro h6 (And.intro h7 (And.intro h8 (And.intro h9 (And.intro hv (And.intro hO (And.intro hlt rq)))))))))
      clear h1 h2 h6 h7 h8 h9 hv hO rq
      gi_wp2
      refine wpIn_region_ext mix (by kernel_rfl) (by kernel_rfl) ?_
      repeat (first | go_big_quiet_step (fail) | quiet_step (fail))
      refine wpQuiet_nil ?_
      rintro ⟨w2, hbd⟩
      dsimp only
      have e2' := e2 ⟨w2, hbd⟩
      have i0 : w2.cell? ⟨q, 0, none⟩ = some (.int .i64 k) := cell_past hbd (row_cell HH.out.2.2.2.2.2.2.2.2.2 rfl)
      have i1 : w2.cell? ⟨q, 1, none⟩ = some (.int .i64 (ts k).gen) := e1 ⟨w2, hbd⟩
      have j1 : w2.cell? ⟨w.heap.size + 1, 1, none⟩ = some (.int .i64 (bestT ts k).2.gen) := e3 ⟨w2, hbd⟩
      have i2 : w2.cell? ⟨q, 2, none⟩ = some (.map om) := cell_past hbd (row_cell HH.out.2.2.2.2.2.2.2.2.2 rfl)
      have i3 : w2.cell? ⟨q, 3, none⟩ = some (.int .i64 (ts k).batches) := cell_past hbd (row_cell HH.out.2.2.2.2.2.2.2.2.2 rfl)
      have i4 : w2.cell? ⟨q, 4, none⟩ = some (.int .i64 (ts k).fin) := cell_past hbd (row_cell HH.out.2.2.2.2.2.2.2.2.2 rfl)
      have j0 : w2.cell? ⟨w.heap.size + 1, 0, none⟩ = some (.int .i64 (bestT ts k).1) := cell_past hbd (row_cell HH.out.2.2.2.2.1 rfl)
      have j2 : w2.cell? ⟨w.heap.size + 1, 2, none⟩ = some mb := cell_past hbd (row_cell HH.out.2.2.2.2.1 rfl)
      have j3 : w2.cell? ⟨w.heap.size + 1, 3, none⟩ = some (.int .i64 (bestT ts k).2.batches) := cell_past hbd (row_cell HH.out.2.2.2.2.1 rfl)
      have j4 : w2.cell? ⟨w.heap.size + 1, 4, none⟩ = some (.int .i64 (bestT ts k).2.fin) := cell_past hbd (row_cell HH.out.2.2.2.2.1 rfl)
      have k8 := (hbd.block _ (lt_of_row HH.out.2.2.2.2.1)).trans HH.out.2.2.2.2.1
      have z0 := row_free k8 0
      have z1 := row_free k8 1
      have z2 := row_free k8 2
      have z3 := row_free k8 3
      have z4 := row_free k8 4
      clear e1 e2 e3
      gi_wp2
      obtain ⟨h1, h2, h6, h7, h8, h9, hv, hO, _, rq⟩ := HH.out
      have mv := setCell5_moves w2 (w.heap.size + 1) (.int .i64 k) (.int .i64 (ts k).gen) (.map om) (.int .i64 (ts k).batches) (.int .i64 (ts k).fin)
      have row5 := setCell5_row k8 k (ts k).gen (ts k).batches (ts k).fin (.map om)
      generalize (((((w2.setCell ⟨w.heap.size + 1, 0, none⟩ (.int .i64 k)).setCell ⟨w.heap.size + 1, 1, none⟩ (.int .i64 (ts k).gen)).setCell ⟨w.heap.size + 1, 2, none⟩ (.map om)).setCell ⟨w.heap.size + 1, 3, none⟩ (.int .i64 (ts k).batches)).setCell ⟨w.heap.size + 1, 4, none⟩ (.int .i64 (ts k).fin)) = W5 at mv row5 ⊢
      have eb : bestT ts (k + 1) = (k, ts k) := if_pos hlt
      have sb := hbd.size
      have lx := X.out.1.lt
      refine ⟨Keeps.trans (Keeps.of_below hbd) (Keeps.of_moves mv (fun i hi e => ?_)), ?_⟩
      · rcases hi with h | h | h | h
        · exact hO i h
        · rcases h with h | h | h | h
          · omega
          · omega
          · omega
          · have := X.out.2.2.1 i h.1; omega
        · omega
        · omega
      · unfold OpI
        rw [eb]
        have b2 : Below w.heap.size w w2 := h1.trans (hbd.mono h1.size)
        refine ⟨⟨mv.os.trans b2.os, mv.tape.trans b2.tape, mv.output.trans b2.output, Nat.le_trans b2.size mv.size, fun i hi => (mv.block i (by have := b2.size; omega) (by omega)).trans (b2.block i hi)⟩,
          (mv.block _ (by omega) (by omega)).trans ((hbd.block _ (by omega)).trans h2), h6, by have := mv.size; omega, .map om, row5, ?_⟩
        rcases hv with hv | ⟨m, e, hv, hm⟩
        · exact Or.inl hv
        · exact Or.inr ⟨m, e, rows_off (rows_below hv hbd hv.lt) mv (by omega), hm, hO m⟩
    · have g1 : decide (((bestT ts k).2.gen : Int) < (ts k).gen) = false := by simp; omega
      have HH := Lib.hid (And.intro h1 (And.intro h2 (And.intro h6 (And.intro h7 (And.intro h8 (And.intro h9 (And.intro hv (And.intro hO hlt))))))))
      clear h1 h2 h6 h7 h8 h9 hv hO
      gi_wp2
      refine wpIn_region_ext mix (by kernel_rfl) (by kernel_rfl) ?_
      repeat (first | go_big_quiet_step (fail) | quiet_step (fail))
      refine wpQuiet_nil ?_
      rintro ⟨w2, hbd⟩
      dsimp only
      gi_wp2
      obtain ⟨h1, h2, h6, h7, h8, h9, hv, hO, _⟩ := HH.out
      have eb : bestT ts (k + 1) = bestT ts k := if_neg hlt
      refine ⟨Keeps.of_below hbd, ?_⟩
      have h := opI_moves (k := k) (O' := O) (pd := pd) (ts := ts) ⟨h1, h2, h6, h7, mb, h8, h9⟩ (Moves.of_below hbd) (fun i h => Or.inl h)
      unfold OpI at h ⊢
      rw [eb]
      exact h
  case done =>
    intro O W hi ho hD
    have s2 := B.out.2.1
    obtain ⟨h1, h2, h6, h7, mb, h8, h9⟩ := hi
    simp only [World.size_alloc] at ho hD ⊢
    have lx := X.out.1.lt
    have c0 : W.cell? ⟨w.heap.size, 0, none⟩ = some (.pointer (some ⟨w.heap.size + 1, 0, none⟩)) := row_cell h2 rfl
    have c1 : W.cell? ⟨w.heap.size + 1, 1, none⟩ = some (.int .i64 (bestT ts 2).2.gen) := row_cell h8 rfl
    rw [X.out.2.2.2] at c1
    have BC := Lib.hid ((callsIn_wide (n := 0)).2 (begin_c (X.out.1.below h1) X.out.2.1 h8 (by omega) (by omega) (fun e => by have := X.out.2.2.1 _ e; omega)))
    have HH := Lib.hid (And.intro h1 (And.intro h2 (And.intro h7 hD)))
    clear h1 h2 h6 h7 h8 h9 hD ho
    obtain ⟨r, hr⟩ : ∃ r, Em.begun d = r := ⟨_, rfl⟩
    rw [hr] at BC ⊢
    by_cases hz : r.2 = 0
    · gi_wp2_with (refine ⟨trivial, rfl, ?_⟩; gi_at_call 34; refine BC.out.mono ?_; rintro e w3 ⟨rfl, m3, x3⟩
                   have q0 := (m3.block w.heap.size (by have := HH.out.2.2.1; omega) (fun e => by rcases e with e | e | e <;> omega)).trans HH.out.2.1
                   have k0 := row_cell q0 (j := 0) rfl
                   have z0 := row_free q0 0
                   have HL := Lib.hid (And.intro m3 (And.intro x3 q0))
                   clear m3 x3 q0 c0 c1)
      rw [Exit.fwdIn_ret]
      obtain ⟨h1, h2, h7, hD⟩ := HH.out
      obtain ⟨m3, x3, q0⟩ := HL.out
      have lm : W2.heap.size + 1 < W.heap.size := by omega
      have dD : w3.heap[W2.heap.size + 1]? = some (.deferred (some [])) := (m3.block _ lm (fun e => by rcases e with e | e | e <;> omega)).trans hD
      have e4 : ∀ u : Value, ((w3.setCell ⟨w.heap.size, 0, none⟩ u).putObj (W2.heap.size + 1) (.deferred none)).cell? ⟨w.heap.size, 0, none⟩ = some u := fun u => row_cell ((World.putObj_heap_other (by omega)).trans (heap_setCell_same _ _ 0 _ tPLog u q0)) rfl
      have m4 : ∀ u : Value, Moves (fun k => k = w.heap.size ∨ k = W2.heap.size + 1) w3 ((w3.setCell ⟨w.heap.size, 0, none⟩ u).putObj (W2.heap.size + 1) (.deferred none)) := fun u =>
        ((setCell_moves w3 w.heap.size 0 u).mono (fun _ h => Or.inl h)).trans ((moves_putObj (l := W2.heap.size + 1) (.deferred none)).mono (fun _ h => Or.inr h)) (fun _ _ h => h)
      have dE : ∀ u : Value, (w3.setCell ⟨w.heap.size, 0, none⟩ u).heap[W2.heap.size + 1]? = some (.deferred (some [])) := fun u => (heap_setCell_other _ _ _ _ (by simp only; omega)).trans dD
      obtain ⟨g1, g2⟩ := open_end X.out.1 X.out.2.2.1 h1 h7 (by omega) m3 x3 dD q0 (m4 (.pointer (some ⟨w.heap.size + 1, 0, none⟩)))
      have s3 := m3.size
      have s4 := (m4 (.pointer (some ⟨w.heap.size + 1, 0, none⟩))).size
      have fin : OpenR w pd md F r (.returned (.tuple #[.pointer (some ⟨w.heap.size + 1, 0, none⟩), .int .i64 0])) ((w3.setCell ⟨w.heap.size, 0, none⟩ (.pointer (some ⟨w.heap.size + 1, 0, none⟩))).putObj (W2.heap.size + 1) (.deferred none)) := by
        refine ⟨g1, fun _ => ⟨w.heap.size + 1, _, rfl, g2, by omega, fun k hk => ?_, fun k hk => ?_⟩, fun h => absurd hz h⟩
        · rcases hk with hk | hk
          · have := X.out.2.2.1 k hk; omega
          · omega
        · rcases hk with hk | hk
          · exact Or.inl hk
          · exact Or.inr (by omega)
      rw [← hr] at fin
      rw [← s2]
      exact leaves_mark (dE _) (results_cell_tmp' (p := 2) (u := 3) rfl _ _ ⟨w.heap.size, 0, none⟩ _ rfl (e4 _) (by kernel_rfl)) fin
    · gi_wp2_with (refine ⟨trivial, rfl, ?_⟩; gi_at_call 34; refine BC.out.mono ?_; rintro e w3 ⟨rfl, m3, x3⟩
                   have q0 := (m3.block w.heap.size (by have := HH.out.2.2.1; omega) (fun e => by rcases e with e | e | e <;> omega)).trans HH.out.2.1
                   have k0 := row_cell q0 (j := 0) rfl
                   have z0 := row_free q0 0
                   have HL := Lib.hid (And.intro m3 (And.intro x3 q0))
                   clear m3 x3 q0 c0 c1)
      refine wpIn_goto ?_
      refine Exit.fwdIn_goto ?_
      gi_wp2
      rw [Exit.noGoto_ret]
      obtain ⟨h1, h2, h7, hD⟩ := HH.out
      obtain ⟨m3, x3, q0⟩ := HL.out
      have lm : W2.heap.size + 1 < W.heap.size := by omega
      have dD : w3.heap[W2.heap.size + 1]? = some (.deferred (some [])) := (m3.block _ lm (fun e => by rcases e with e | e | e <;> omega)).trans hD
      have e4 : ∀ u : Value, ((w3.setCell ⟨w.heap.size, 0, none⟩ u).putObj (W2.heap.size + 1) (.deferred none)).cell? ⟨w.heap.size, 0, none⟩ = some u := fun u => row_cell ((World.putObj_heap_other (by omega)).trans (heap_setCell_same _ _ 0 _ tPLog u q0)) rfl
      have m4 : ∀ u : Value, Moves (fun k => k = w.heap.size ∨ k = W2.heap.size + 1) w3 ((w3.setCell ⟨w.heap.size, 0, none⟩ u).putObj (W2.heap.size + 1) (.deferred none)) := fun u =>
        ((setCell_moves w3 w.heap.size 0 u).mono (fun _ h => Or.inl h)).trans ((moves_putObj (l := W2.heap.size + 1) (.deferred none)).mono (fun _ h => Or.inr h)) (fun _ _ h => h)
      have dE : ∀ u : Value, (w3.setCell ⟨w.heap.size, 0, none⟩ u).heap[W2.heap.size + 1]? = some (.deferred (some [])) := fun u => (heap_setCell_other _ _ _ _ (by simp only; omega)).trans dD
      obtain ⟨g1, g2⟩ := open_end X.out.1 X.out.2.2.1 h1 h7 (by omega) m3 x3 dD q0 (m4 (.pointer none))
      have s3 := m3.size
      have fin : OpenR w pd md F r (.returned (.tuple #[.pointer none, .int .i64 r.2])) ((w3.setCell ⟨w.heap.size, 0, none⟩ (.pointer none)).putObj (W2.heap.size + 1) (.deferred none)) := by
        refine ⟨g1, fun h => absurd h hz, fun _ => ⟨rfl, g2.disk.weak (fun k hk hl => ?_) ?_ ?_⟩⟩
        · rcases hk with hk | hk
          · exact Or.inl hk
          · exact Or.inr ⟨by omega, hl⟩
        · intro h
          rcases h with h | h
          · exact X.out.1.lt.2.2.2.1 h
          · omega
        · intro h
          rcases h with h | h
          · exact X.out.1.lt.2.2.2.2 h
          · omega
      rw [← hr] at fin
      rw [← s2]
      exact leaves_mark (dE _) (results_cell_tmp' (p := 2) (u := 3) rfl _ _ ⟨w.heap.size, 0, none⟩ _ rfl (e4 _) (by kernel_rfl)) (by rw [← hr]; exact fin)

end Go.Proofs.YtgffifleflkjoaaGreat

namespace Go.Proofs.YtgffifleflkjoaaGreat
open Go.RowKit Dm

theorem lookok_row {w : World} {m n : Nat} {D : Em.Rows} (h : RowsIn w m n D) (k : List UInt8) (hk : k.length ≤ 1000000) : (Instr.lookup tRows (.map (some m)) (strOfB k) true).run Tryz.prog w = .ok (.tuple #[strOfB (Em.valueOf D k), .bool (Maps.has D (.string k))]) w := by
  obtain ⟨v, ps, hrun, hv⟩ := h.look_ok rows_keyed Tryz.underlying66 (Tryz.zeroValue9 w) (elem_text [] (by simp)) (keyOf_text k (by omega))
  obtain ⟨s, rfl, h1, h2⟩ := plainElem_string_inv Tryz.underlying9 hv
  rw [hrun]
  have e : Em.valueOf D k = s.data.toList := by
    unfold Em.valueOf
    rw [show D.atKey (.string k) (.lit (.string [])) = .lit (.string s.data.toList) from congrArg Prod.fst h1]
  rw [e]

theorem get_c {w : World} {pl pd md : Nat} {e : Em.E} {F : Nat → Prop} (x : LogAt w pl pd md e F) (k : List UInt8) (hk : k.length ≤ 1000000) : Calls Tryz.prog 21 #[.pointer (some ⟨pl, 0, none⟩), strOfB k] w fun en w' =>
    en = .returned (.tuple #[strOfB (Em.valueOf e.rows k), .bool (Maps.has e.rows (.string k))]) ∧ w = w' := by
  have NC := Lib.hid x.none
  obtain ⟨m, row, rows, _⟩ := x.row
  have f2 : w.cell? ⟨pl, 2, none⟩ = some (.map (some m)) := row_cell row rfl
  have lk := lookok_row rows k hk
  clear x row rows
  go_enter Tryz.func21, Tryz.ntmps21
  go_wp2_with (go_at_call 36; refine NC.out.mono ?_; rintro en w0 ⟨rfl, rfl⟩)
  go_ret2
  exact ⟨rfl, rfl⟩

theorem len_c {w : World} {pl pd md : Nat} {e : Em.E} {F : Nat → Prop} (x : LogAt w pl pd md e F) : Calls Tryz.prog 22 #[.pointer (some ⟨pl, 0, none⟩)] w fun en w' => en = .returned (.int .i64 (Maps.size e.rows)) ∧ w = w' := by
  have NC := Lib.hid x.none
  obtain ⟨m, row, rows, _⟩ := x.row
  have f2 : w.cell? ⟨pl, 2, none⟩ = some (.map (some m)) := row_cell row rfl
  have HR := Lib.hid rows
  clear x row rows
  go_enter Tryz.func22, Tryz.ntmps22
  go_wp2_with (first
    | (go_at_call 36; refine NC.out.mono ?_; rintro en w0 ⟨rfl, rfl⟩)
    | (at_len; refine wpList_len_own _ rfl (.tmp 9) tRows rfl tStr tStr Tryz.underlying66 (plainElem Tryz.prog tStr) m _ e.rows rfl HR.out ?_))
  go_ret
  exact ⟨rfl, rfl⟩

theorem gen_c {w : World} {pl pd md : Nat} {e : Em.E} {F : Nat → Prop} (x : LogAt w pl pd md e F) : Calls Tryz.prog 23 #[.pointer (some ⟨pl, 0, none⟩)] w fun en w' => en = .returned (.int .i64 e.gen) ∧ w = w' := by
  have NC := Lib.hid x.none
  obtain ⟨m, row, rows, _⟩ := x.row
  have f2 : w.cell? ⟨pl, 1, none⟩ = some (.int .i64 e.gen) := row_cell row rfl
  clear x row rows
  go_enter Tryz.func23, Tryz.ntmps23
  go_wp2_with (go_at_call 36; refine NC.out.mono ?_; rintro en w0 ⟨rfl, rfl⟩)
  go_ret
  exact ⟨rfl, rfl⟩

theorem gone_c {w : World} {pl pd md : Nat} {e : Em.E} {F : Nat → Prop} (x : LogAt w pl pd md e F) : Calls Tryz.prog 17 #[.pointer (some ⟨pl, 0, none⟩)] w fun en w' => en = .returned (.bool e.gone) ∧ w = w' := by
  have NC := Lib.hid x.none
  obtain ⟨m, row, rows, _⟩ := x.row
  have f2 : w.cell? ⟨pl, 6, none⟩ = some (.bool e.gone) := row_cell row rfl
  clear x row rows
  go_enter Tryz.func17, Tryz.ntmps17
  go_wp2_with (go_at_call 36; refine NC.out.mono ?_; rintro en w0 ⟨rfl, rfl⟩)
  go_ret
  exact ⟨rfl, rfl⟩

theorem num19_c (w : World) (n : Int) : Calls Tryz.prog 12 #[.int .i64 n] w fun en w' => en = .returned (.int .i64 n) ∧ w = w' := by
  go_enter Tryz.func12, Tryz.ntmps12
  go_wp2
  go_ret
  exact ⟨rfl, rfl⟩

set_option maxRecDepth 100000 in
set_option maxHeartbeats 1000000 in
theorem commit_bad_c {w : World} {pl pd md : Nat} {e : Em.E} {F G : Nat → Prop} {v : Value} {l : List Em.Change} (x : LogAt w pl pd md e F) (h : ChangesAt w G v l) (hl : l.length ≤ 1000000) (hk : ∀ c ∈ l, c.key.length ≤ 1000000000 ∧ c.value.length ≤ 1000000000)
    (hd : Em.doneErr e.rows l ≠ 0) : Calls Tryz.prog 11 #[.pointer (some ⟨pl, 0, none⟩), v] w fun en w' => en = .returned (.int .i64 (Em.doneErr e.rows l)) ∧ Below w.heap.size w w' := by
  have NC := Lib.hid x.none
  obtain ⟨mr, row, rows, hne⟩ := x.row
  have DC := done_c rows (by have := x.good.few; omega) h hl hk
  have f2 : w.cell? ⟨pl, 2, none⟩ = some (.map (some mr)) := row_cell row rfl
  have DC : Calls Tryz.prog 37 #[.map (some mr), v] w fun en w' => Below w.heap.size w w' ∧ en = .returned (.tuple #[.map none, .int .i64 (Em.doneErr e.rows l)]) :=
    DC.mono fun en w' hh => ⟨hh.1, hh.2.elim (fun q => q.2) (fun q => absurd q.1 hd)⟩
  have DC := Lib.hid DC
  generalize Em.doneErr e.rows l = c at *
  clear x row rows hne h hk
  go_enter Tryz.func11, Tryz.ntmps11
  go_wp2
  refine wp_scope_fwd 0 rfl ?_
  go_wp2_with (first
    | (go_at_call 36; refine NC.out.mono ?_; rintro en w0 ⟨rfl, rfl⟩)
    | (go_at_call 37; refine DC.out.mono ?_; rintro en w1 ⟨b1, rfl⟩
       have H1 := Lib.hid b1
       clear b1))
  refine wp_goto ?_
  refine Exit.fwd_goto ?_
  go_wp2
  try go_step3
  go_wp2
  rw [Exit.noGoto_ret]
  go_ret
  exact ⟨rfl, H1.out⟩

/-- A disk's call, seen from the engine. -/
theorem log_left_disk {w w' : World} {pl pd md : Nat} {e : Em.E} {F : Nat → Prop} {r : D × Int} {en : Ending} (x : LogAt w pl pd md e F) (h : Left w pd md F r en w') : LogLeft w pl pd md F ({ e with d := r.1 }, r.2) en w' := by
  obtain ⟨h1, h2, h3⟩ := h
  obtain ⟨m, row, rows, hne⟩ := x.row
  have lp := lt_of_row row
  have hg := x.good
  refine ⟨h1, h2.mono (fun i hi => Or.inr hi), ⟨⟨hg.tp, hg.gen, hg.batches, hg.fin, hg.rows, hg.few⟩, h3, ⟨m, (h2.block pl lp (fun q => by rcases q with q | q; exact x.ne.1 q; exact x.ne.2.1 q)).trans row, rows_moved rows h2 hne.1 hne.2.1, hne⟩, x.ne.1, x.ne.2.1, ?_⟩⟩
  intro hk
  rcases hk with hk | hk
  · exact x.ne.2.2 hk
  · omega

end Go.Proofs.YtgffifleflkjoaaGreat
