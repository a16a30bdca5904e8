/-
  evlog: the log is folded.
  evlog: a batch is committed.
  A scope out of which the run jumps forward.
  evlog: Commit.
-/
import Derived.Test.YtgffifleflkjoaaGreatG01
import Derived.Test.YtgffifleflkjoaaGreatG15
import Derived.ScopeJumps
import Derived.WalkMore

namespace Go.Proofs.YtgffifleflkjoaaGreat
open Go.RowKit Dm

set_option maxRecDepth 100000 in
set_option maxHeartbeats 2000000 in
theorem fold_full_c {w : World} {pl pd : Nat} {tp gen batches fin : Nat} {rows rv : Value} {gone : Bool} (hrow : w.heap[pl]? = some (.cells (logC tp gen rows batches fin pd gone) tLog (0, 0))) (h : 2147483647 ≤ gen) :
    Calls Tryz.prog 39 #[.pointer (some ⟨pl, 0, none⟩), rv] w fun e w' => e = .returned (.int .i64 280) ∧ w = w' := by
  have f1 : w.cell? ⟨pl, 1, none⟩ = some (.int .i64 gen) := row_cell hrow rfl
  have g1 : decide ((2147483647 : Int) ≤ gen) = true := by simp; omega
  clear hrow
  go_enter Tryz.func39, Tryz.ntmps39
  go_wp2
  go_ret
  exact ⟨rfl, rfl⟩

set_option maxRecDepth 100000 in
set_option maxHeartbeats 4000000 in
theorem fold_live_c {w : World} {pl pd md m n : Nat} {e : Em.E} {F : Nat → Prop} {D : Em.Rows}
    (x : LogAt w pl pd md e F) (hw : e.d.waits.length ≤ 900000000) (hm : RowsIn w m n D) (hD : Em.RowsOk D) (hs : Maps.size D ≤ 256) (n1 : m ≠ pd) (n2 : m ≠ md) (n3 : m ≠ pl)
    (hlive : ¬ 2147483647 ≤ e.gen) :
    Calls Tryz.prog 39 #[.pointer (some ⟨pl, 0, none⟩), .map (some m)] w (LogLeft w pl pd md F (e.fold D)) := by
  have FC := Lib.hid (fun W (hb : Below w.heap.size w W) => folded_c (w := W) (v := .map (some m)) (D := D) (gen := e.gen + 1) (Or.inr ⟨m, _, rfl, rows_fit (rows_below hm hb hm.lt)⟩) hD hs (by omega))
  have fl := Em.folded_len (D := D) (e.gen + 1) hs
  have hg := Em.fold_good x.good hD hs
  obtain ⟨mr, row, hrows, m1, m2, m3⟩ := x.row
  have lpl := lt_of_row row
  have hF := x.good.fin
  have hT := x.good.tp
  have HP := Lib.hid (Em.fold_live (D := D) hlive)
  have X := Lib.hid (And.intro x (And.intro hg (And.intro row (And.intro hrows (And.intro hm (And.intro hw (And.intro (And.intro n1 (And.intro n2 n3)) (And.intro m1 (And.intro m2 m3)))))))))
  have f1 : w.cell? ⟨pl, 1, none⟩ = some (.int .i64 e.gen) := row_cell row rfl
  have g1 : decide ((2147483647 : Int) ≤ e.gen) = false := by simp; omega
  have q0 : ∀ x : Wd (Below w.heap.size w), x.world.cell? ⟨pl, 0, none⟩ = some (.int .i64 e.tp) := fun x => (x.ok.cell (p := ⟨pl, 0, none⟩) lpl).trans (row_cell row rfl)
  have q1 : ∀ x : Wd (Below w.heap.size w), x.world.cell? ⟨pl, 1, none⟩ = some (.int .i64 e.gen) := fun x => (x.ok.cell (p := ⟨pl, 1, none⟩) lpl).trans (row_cell row rfl)
  clear x hg row hrows hm hw n1 n2 n3 m1 m2 m3
  generalize hb : Em.folded (e.gen + 1) D = b at *
  have a1 : IntKind.i64.wrap ((e.gen : Int) + 1) = ((e.gen + 1 : Nat) : Int) := IntWalk.i64_in _ (by omega)
  have a0 : IntKind.i64.wrap (1 - (e.tp : Int)) = ((1 - e.tp : Nat) : Int) := by rw [IntWalk.i64_in _ (by omega)]; omega
  have ne0 : Nonempty (Wd (Below w.heap.size w)) := ⟨⟨_, Below.refl _ _⟩⟩
  go_enter Tryz.func39, Tryz.ntmps39
  go_wp2
  refine wp_region_hoist (fun w' => ∃ x : Wd (Below w.heap.size w), w' = x.world) [14, 15] (by kernel_rfl) ?_
  refine wpAnyI_reads [0, 1, 2, 3, 4, 5, 6, 7, 8, 9, 10, 11, 12] 3 _ ⟨⟨_, (Below.refl _ _).drew⟩, rfl⟩ (by kernel_rfl) ?_
  simp only [List.filterMap_cons, List.filterMap_nil, List.getElem?_toArray, List.getElem?_cons_succ, List.getElem?_cons_zero]
  repeat (refine wpHoist_step (fun K hK => ?_); simp only [hoists, sameUpon]; go_simp; refine hK _ ?_; clear hK K)
  refine wpHoist_nil ?_
  refine wpAnyI_one 13 2 _ _ rfl (by kernel_rfl) ?_
  refine wpList_plain rfl fun K hK => ?_
  go_simp
  go_at_call 70
  refine (FC.out _ (Below.refl _ _).drew).mono ?_
  rintro e' w1 ⟨v1, rfl, o1, b1⟩
  obtain ⟨va, vn, vc, rfl⟩ := o1.at.slice3
  have hvn : vn = b.length := by obtain ⟨a, c, q⟩ := o1.at.slice; injection q with _ q2 _
  have B1 : Below w.heap.size w w1 := ⟨b1.os, b1.tape, b1.output, b1.size, b1.block⟩
  have y1 : BytesAt w1.heap (fun k => w.heap.size ≤ k ∧ k < w1.heap.size) (.slice va vn vc) b := o1.at.keeps (fun k _ _ => rfl) (fun k hk hl => ⟨hk, hl⟩)
  have H1 := Lib.hid (And.intro B1 (And.intro y1 hvn))
  clear o1 b1 y1 hvn
  refine hK _ _ (wpList_nil ⟨rfl, fun _ => ⟨⟨_, B1⟩, rfl⟩, ?_⟩)
  clear hK K
  refine wpAnyI_pure [14, 15] 0 _ (by kernel_rfl) ?_
  simp only [List.filterMap_cons, List.filterMap_nil, List.getElem?_toArray, List.getElem?_cons_succ, List.getElem?_cons_zero]
  repeat (refine wpHoist_step (fun K hK => ?_); simp only [hoists, sameUpon]; go_simp; refine hK _ ?_; clear hK K)
  refine wpHoist_nil ?_
  refine ⟨by kernel_rfl, ?_⟩
  clear ne0 q0 q1 f1 g1
  have k2 := (B1.block pl lpl).trans X.out.2.2.1
  have f5 : ∀ x : Wd (Below w1.heap.size w1), x.world.cell? ⟨pl, 5, none⟩ = some (.pointer (some ⟨pd, 0, none⟩)) := fun x => (x.ok.cell (p := ⟨pl, 5, none⟩) (lt_of_row k2)).trans (row_cell k2 rfl)
  have H2 := Lib.hid k2
  clear B1 k2
  have ne : Nonempty (Wd (Below w1.heap.size w1)) := ⟨⟨_, Below.refl _ _⟩⟩
  have hmf : ∀ (fn : Fn) (first cap : Array Value) (w : World), (Instr.makeFunc fn first cap).run Tryz.prog w = .ok (.func fn first cap) w := fun _ _ _ _ => rfl
  go_wp2
  refine wp_region_hoist (fun w' => ∃ x : Wd (Below w1.heap.size w1), w' = x.world) [13, 14] (by kernel_rfl) ?_
  refine wpAnyI_reads [0, 1, 3, 4, 5, 7, 8, 9, 10, 11] 5 _ ⟨⟨_, (Below.refl _ _).drew⟩, rfl⟩ (by kernel_rfl) ?_
  simp only [List.filterMap_cons, List.filterMap_nil, List.getElem?_toArray, List.getElem?_cons_succ, List.getElem?_cons_zero]
  repeat (refine wpHoist_step (fun K hK => ?_); simp only [hoists, sameUpon]; go_simp; refine hK _ ?_; clear hK K)
  refine wpHoist_nil ?_
  refine wpAnyI_one 2 4 _ _ rfl (by kernel_rfl) ?_
  refine wpList_plain rfl fun K hK => ?_
  go_simp
  go_at_call 72
  refine (empty_c pl (1 - e.tp) w1.drew).mono ?_
  rintro e' w4 ⟨rfl, e4⟩
  have B4 : Below w1.heap.size w1 w4 := by rw [← e4]; exact ((Below.refl _ _).drew.alloc (Nat.le_refl _) _).alloc (by simp) _
  have z4 : w4.heap.size = w1.heap.size + 2 := by rw [← e4]; simp
  have a1' : w4.cell? ⟨w1.heap.size, 0, none⟩ = some (.pointer (some ⟨pl, 0, none⟩)) := by rw [← e4]; exact row_cell (heap_past (by simp) (heap_alloc_last w1.drew _)) rfl
  have a2' : w4.cell? ⟨w1.heap.size + 1, 0, none⟩ = some (.int .i64 ((1 - e.tp : Nat) : Int)) := by rw [← e4]; exact row_cell (heap_at (w := w1.drew.alloc _) _ (by simp)) rfl
  have H4 := Lib.hid (And.intro B4 (And.intro z4 (And.intro a1' a2')))
  clear e4 a1' a2'
  refine hK _ _ (wpList_nil ⟨rfl, fun _ => ⟨⟨_, B4⟩, rfl⟩, ?_⟩)
  clear hK K
  clear B4 z4
  refine wpAnyI_one 6 3 _ _ rfl (by kernel_rfl) ?_
  refine wpList_plain rfl fun K hK => ?_
  go_simp
  go_at_call 73
  refine (put_c pl (1 - e.tp) va vn vc w4).mono ?_
  rintro e' w5 ⟨rfl, e5⟩
  have B5' : Below w4.heap.size w4 w5 := by rw [← e5]; exact (((Below.refl _ _).alloc (Nat.le_refl _) _).alloc (by simp) _).alloc (by simp; omega) _
  have B5 : Below w1.heap.size w1 w5 := H4.out.1.trans (B5'.mono H4.out.1.size)
  have z5 : w5.heap.size = w4.heap.size + 3 := by rw [← e5]; simp
  have p1 : w5.cell? ⟨w4.heap.size, 0, none⟩ = some (.pointer (some ⟨pl, 0, none⟩)) := by rw [← e5]; exact row_cell (heap_past (by simp; omega) (heap_past (by simp) (heap_alloc_last w4 _))) rfl
  have p2 : w5.cell? ⟨w4.heap.size + 1, 0, none⟩ = some (.int .i64 ((1 - e.tp : Nat) : Int)) := by rw [← e5]; exact row_cell (heap_past (by simp) (heap_at (w := w4.alloc _) _ (by simp))) rfl
  have p3 : w5.cell? ⟨w4.heap.size + 1 + 1, 0, none⟩ = some (.slice va vn vc) := by rw [← e5]; exact row_cell (heap_at (w := (w4.alloc _).alloc _) _ (by simp)) rfl
  have H5 := Lib.hid (And.intro B5' (And.intro B5 (And.intro z5 (And.intro p1 (And.intro p2 p3)))))
  clear e5 p1 p2 p3 B5'
  refine hK _ _ (wpList_nil ⟨rfl, fun _ => ⟨⟨_, B5⟩, rfl⟩, ?_⟩)
  clear hK K
  clear B5 z5
  refine wpAnyI_one 12 2 _ _ rfl (by kernel_rfl) ?_
  refine wpList_plain rfl fun K hK => ?_
  go_simp
  obtain ⟨W6, hW6⟩ : ∃ W, w5.alloc (.cells #[.func (.func 120) #[] #[.pointer (some ⟨w1.heap.size, 0, none⟩), .pointer (some ⟨w1.heap.size + 1, 0, none⟩)],
      .func (.func 121) #[] #[.pointer (some ⟨w4.heap.size, 0, none⟩), .pointer (some ⟨w4.heap.size + 1, 0, none⟩), .pointer (some ⟨w4.heap.size + 1 + 1, 0, none⟩)], .func (.func 60) #[.pointer (some ⟨pd, 0, none⟩)] #[]] tSteps) = W := ⟨_, rfl⟩
  have r6 := heap_alloc_last w5 (.cells #[.func (.func 120) #[] #[.pointer (some ⟨w1.heap.size, 0, none⟩), .pointer (some ⟨w1.heap.size + 1, 0, none⟩)],
      .func (.func 121) #[] #[.pointer (some ⟨w4.heap.size, 0, none⟩), .pointer (some ⟨w4.heap.size + 1, 0, none⟩), .pointer (some ⟨w4.heap.size + 1 + 1, 0, none⟩)], .func (.func 60) #[.pointer (some ⟨pd, 0, none⟩)] #[]] tSteps)
  rw [hW6] at r6
  have B6' : Below w5.heap.size w5 W6 := by rw [← hW6]; exact (Below.refl _ _).alloc (Nat.le_refl _) _
  rw [hW6]
  have B6 : Below w1.heap.size w1 W6 := H5.out.2.1.trans (B6'.mono H5.out.2.1.size)
  have lp := X.out.1.disk.lt
  have x6 := (X.out.1.disk.below H1.out.1).below B6
  have y6 : BytesAt W6.heap (fun k => w.heap.size ≤ k ∧ k < w1.heap.size) (.slice va vn vc) b := H1.out.2.1.keeps (fun k _ hl => B6.block k hl) (fun k hk _ => hk)
  have z1 := H1.out.1.size
  have z4 := H4.out.2.1
  have z5 := H5.out.2.2.1
  have RC := Lib.hid (rewrote_c (t := 1 - e.tp) (cap := 3) x6 X.out.2.2.2.2.2.1 (by omega) (cell_past B6' (cell_past H5.out.1 H4.out.2.2.1)) (cell_past B6' (cell_past H5.out.1 H4.out.2.2.2)) (cell_past B6' H5.out.2.2.2.1) (cell_past B6' H5.out.2.2.2.2.1) (cell_past B6' H5.out.2.2.2.2.2)
    (cell_past B6 (row_cell H2.out rfl)) y6 (fun k hk => ⟨by omega, by omega⟩) (by omega)
    ⟨by omega, by omega⟩ ⟨by omega, by omega⟩ ⟨by omega, by omega⟩ ⟨by omega, by omega⟩ ⟨by omega, by omega⟩ ⟨X.out.1.ne.1, X.out.1.ne.2.1⟩ ⟨by omega, by omega⟩ r6)
  have H6 := Lib.hid (And.intro B6 lp)
  clear x6 y6 r6 B6' z1 z4 z5 lp hW6
  refine hK _ _ (wpList_nil ⟨rfl, fun _ => ⟨⟨_, B6⟩, rfl⟩, ?_⟩)
  clear hK K
  clear B6
  refine wpAnyI_one 13 1 _ _ rfl (by kernel_rfl) ?_
  refine wpList_plain rfl fun K hK => ?_
  go_simp
  go_at_call 71
  refine RC.out.mono ?_
  rintro e' w7 ⟨rfl, m7, x7⟩
  have L := Lib.hid (And.intro m7 x7)
  clear m7 x7
  refine hK _ _ (wpList_nil ⟨rfl, fun h => absurd (by decide) h, ?_⟩)
  clear hK K
  refine wpAnyI_pure [14] 0 _ (by kernel_rfl) ?_
  simp only [List.filterMap_cons, List.filterMap_nil, List.getElem?_toArray, List.getElem?_cons_succ, List.getElem?_cons_zero]
  repeat (refine wpHoist_step (fun K hK => ?_); simp only [hoists, sameUpon]; go_simp; refine hK _ ?_; clear hK K)
  refine wpHoist_nil ?_
  refine ⟨by kernel_rfl, ?_⟩
  have b6 := H6.out.1
  have s6 := b6.size
  have s2 := H1.out.1.size
  have k2 := H2.out
  have lk2 := lt_of_row k2
  have k7 : w7.heap[pl]? = some (.cells (logC e.tp e.gen (.map (some mr)) e.batches e.fin pd e.gone) tLog (0, 0)) :=
    (L.out.1.block pl (by omega) (fun q => by rcases q with q | q; exact X.out.1.ne.1 q; exact X.out.1.ne.2.1 q)).trans ((b6.block pl lk2).trans k2)
  have mv7 : Moves (PLM pl pd md) w w7 := ((Moves.of_below H1.out.1).trans (Moves.of_below b6) (fun _ _ h => h)).trans (L.out.1.mono fun i hi => Or.inr hi) (fun _ _ h => h)
  have x7 : DiskAt w7.heap pd md (Em.rewrote e.d (1 - e.tp) b).1 (plus F w w7) := wide_disk X.out.1.disk L.out.2 (by omega)
  have npl : ¬ plus F w w7 pl := fun h => by
    rcases h with h | h
    · exact X.out.1.ne.2.2 h
    · omega
  have rM : RowsIn w7 m n D := rows_moved (rows_below (rows_below X.out.2.2.2.2.1 H1.out.1 X.out.2.2.2.2.1.lt) b6 (by have := X.out.2.2.2.2.1.lt; omega)) L.out.1 X.out.2.2.2.2.2.2.1.1 X.out.2.2.2.2.2.2.1.2.1
  have rO : RowsIn w7 mr (Maps.size e.rows) e.rows := rows_moved (rows_below (rows_below X.out.2.2.2.1 H1.out.1 X.out.2.2.2.1.lt) b6 (by have := X.out.2.2.2.1.lt; omega)) L.out.1 X.out.2.2.2.2.2.2.2.1 X.out.2.2.2.2.2.2.2.2.1
  have hvn := H1.out.2.2
  by_cases hz : (Em.rewrote e.d (1 - e.tp) b).2 = 0
  · have H7 := Lib.hid (And.intro k7 (And.intro mv7 (And.intro x7 (And.intro npl rM))))
    have f1 : w7.cell? ⟨pl, 1, none⟩ = some (.int .i64 e.gen) := row_cell k7 rfl
    clear mv7 x7 npl rM rO k2 ne f5 b6 s6 s2 lk2
    rw [hz]
    go_wp2_with (
      refine wpList_store_midA rfl tTape (.tmp 57) (.tmp 55) rfl pl 0 #[.int .i64 ((1 - e.tp : Nat) : Int), .int .i64 ((e.gen : Int) + 1), .map (some m), .int .i64 0, .int .i64 b.length] rfl rfl tLog _ k7 infoTape (by simp) (tape_one _ _ _ _ _) ?_
      intro W8 HW8 HM8 HS8)
    go_ret
    rw [HP.out]
    have hg := X.out.2.1
    rw [HP.out] at hg
    simp only [hz, if_true] at hg ⊢
    obtain ⟨k7, mv7, x7, npl, rM⟩ := H7.out
    obtain ⟨⟨n1, n2, n3⟩, _⟩ := X.out.2.2.2.2.2.2
    have s8 := HM8.size
    refine ⟨rfl, mv7.trans HM8 (fun i _ hi => Or.inl hi), ⟨hg, ?_, ⟨m, HW8.out, rows_fit (rows_off rM HM8 n3), n1, n2, n3⟩, X.out.1.ne.1, X.out.1.ne.2.1, ?_⟩⟩
    · refine wide_disk' X.out.1.disk (x7.off HM8 X.out.1.ne.1 X.out.1.ne.2.1 npl) s8
    · intro h
      rcases h with h | h
      · exact X.out.1.ne.2.2 h
      · omega
  · have H7 := Lib.hid (And.intro k7 (And.intro mv7 (And.intro x7 (And.intro npl rO))))
    clear k7 mv7 x7 npl rM rO k2 ne f5 b6 s6 s2 lk2
    go_wp2
    go_ret
    rw [HP.out]
    have hg := X.out.2.1
    rw [HP.out] at hg
    simp only [hz, if_false] at hg ⊢
    obtain ⟨k7, mv7, x7, npl, rO⟩ := H7.out
    exact ⟨rfl, mv7, ⟨hg, x7, ⟨mr, k7, rO, X.out.2.2.2.2.2.2.2⟩, X.out.1.ne.1, X.out.1.ne.2.1, npl⟩⟩

end Go.Proofs.YtgffifleflkjoaaGreat

namespace Go.Proofs.YtgffifleflkjoaaGreat
open Go.RowKit Dm

theorem next_waits {r : D × Int} {f : D → D × Int} {n k : Nat} (h : r.1.waits.length ≤ n) (hf : ∀ d, (f d).1.waits.length ≤ d.waits.length + k) : (Em.next r f).1.waits.length ≤ n + k := by
  unfold Em.next
  split
  · have := hf r.1; omega
  · omega
theorem wrote_waits (d : D) (t : Nat) (b : List UInt8) : (Em.wrote d t b).1.waits.length ≤ d.waits.length + 2 := next_waits (n := d.waits.length + 1) (k := 1) (append_waits d t b) sync_waits
theorem rewrote_waits (d : D) (t : Nat) (b : List UInt8) : (Em.rewrote d t b).1.waits.length ≤ d.waits.length + 3 :=
  next_waits (n := d.waits.length + 2) (k := 1) (next_waits (n := d.waits.length + 1) (k := 1) (emptied_waits d t) (fun d => append_waits d t b)) sync_waits
theorem put_waits (e : Em.E) (D : Em.Rows) (b : List UInt8) : (e.put D b).1.d.waits.length ≤ e.d.waits.length + 2 := by
  unfold Em.E.put
  split
  · simp
  · exact wrote_waits _ _ _
theorem fold_waits (e : Em.E) (D : Em.Rows) : (e.fold D).1.d.waits.length ≤ e.d.waits.length + 3 := by
  by_cases h : 2147483647 ≤ e.gen
  · rw [Em.fold_full h]; simp
  · rw [Em.fold_live h]
    have := rewrote_waits e.d (1 - e.tp) (Em.folded (e.gen + 1) D)
    split <;> exact this
theorem commit_waits (e : Em.E) (l : List Em.Change) : (e.commit l).1.d.waits.length ≤ e.d.waits.length + 5 := by
  unfold Em.E.commit
  split
  · simp
  · split
    · simp
    · show (e.step (Em.behind e.rows l) (Em.batched l)).1.d.waits.length ≤ _
      unfold Em.E.step
      have h1 := put_waits e (Em.behind e.rows l) (Em.batched l)
      have h2 := fold_waits (e.put (Em.behind e.rows l) (Em.batched l)).1 (Em.behind e.rows l)
      split <;> omega
theorem begun_waits (d : D) : (Em.begun d).1.d.waits.length ≤ d.waits.length + 3 := rewrote_waits d 0 _

theorem log_below {w w' : World} {pl pd md : Nat} {e : Em.E} {F : Nat → Prop} (x : LogAt w pl pd md e F) (hb : Below w.heap.size w w') : LogAt w' pl pd md e (plus F w w') := by
  obtain ⟨m, row, rows, hne⟩ := x.row
  refine ⟨x.good, x.disk.plus hb, ⟨m, (hb.block pl (lt_of_row row)).trans row, rows_below rows hb rows.lt, hne⟩, x.ne.1, x.ne.2.1, ?_⟩
  intro h
  rcases h with h | h
  · exact x.ne.2.2 h
  · have := lt_of_row row
    omega

theorem log_left_below {w w' : World} {pl pd md : Nat} {e : Em.E} {F : Nat → Prop} (x : LogAt w pl pd md e F) (c : Int) (hb : Below w.heap.size w w') : LogLeft w pl pd md F (e, c) (.returned (.int .i64 c)) w' :=
  ⟨rfl, Moves.of_below hb, log_below x hb⟩

theorem log_wide {w W w' : World} {pl pd md : Nat} {e e' : Em.E} {F : Nat → Prop} (x : LogAt w pl pd md e F) (hm : Moves (PLM pl pd md) w W) (hm' : Moves (PLM pl pd md) W w') (y : LogAt w' pl pd md e' (plus (plus F w W) W w')) : LogAt w' pl pd md e' (plus F w w') := by
  obtain ⟨l1, l2, l3, l4, l5⟩ := x.disk.lt
  obtain ⟨m, row, rows, hne⟩ := x.row
  have ll := lt_of_row row
  have s1 := hm.size
  have s2 := hm'.size
  refine ⟨y.good, y.disk.weak (fun k hk hl => ?_) ?_ ?_, y.row, y.ne.1, y.ne.2.1, ?_⟩
  · rcases hk with (hk | hk) | hk
    · exact Or.inl hk
    · exact Or.inr ⟨hk.1, hl⟩
    · exact Or.inr ⟨by omega, hl⟩
  all_goals
    intro h
    rcases h with h | h
    · first | exact l4 h | exact l5 h | exact x.ne.2.2 h
    · omega

theorem log_then {w W w' : World} {pl pd md : Nat} {e : Em.E} {F : Nat → Prop} {r : Em.E × Int} {en : Ending} (x : LogAt w pl pd md e F) (hm : Moves (PLM pl pd md) w W) (h : LogLeft W pl pd md (plus F w W) r en w') : LogLeft w pl pd md F r en w' :=
  ⟨h.1, hm.trans h.2.1 (fun _ _ h => h), log_wide x hm h.2.1 h.2.2⟩

/-- A batch is appended. -/
theorem lapp_c {w : World} {pl pd md m n : Nat} {e : Em.E} {F : Nat → Prop} {b : List UInt8} {v : Value} {D : Em.Rows}
    (BC : Calls Tryz.prog 79 #[v] w (GivesB w b)) (x : LogAt w pl pd md e F) (hgone : e.gone = false) (hw : e.d.waits.length ≤ 900000000) (hb : b.length ≤ 8205) (hm : RowsIn w m n D) (n1 : m ≠ pd) (n2 : m ≠ md) (n3 : m ≠ pl) (hg : (e.put D b).1.good) :
    Calls Tryz.prog 38 #[.pointer (some ⟨pl, 0, none⟩), .map (some m), v] w (LogLeft w pl pd md F (e.put D b)) := by
  by_cases h : 32 ≤ e.batches ∨ b.length = 0 ∨ e.d.room / 2 < e.fin + b.length
  · rw [Em.put_full h]
    obtain ⟨mr, row, rows, hne⟩ := x.row
    have R0 := x.disk.ok.room0
    have R1 := x.disk.ok.room1
    have hB := x.good.batches
    have hF := x.good.fin
    rw [hgone] at row
    obtain ⟨room, hroom⟩ : ∃ n : Nat, e.d.room = (n : Int) := ⟨e.d.room.toNat, by omega⟩
    refine (lapp_full (room := room) BC row x.disk hroom (by omega) (by omega) (by omega) (by omega) (by rw [hroom] at h; omega)).mono ?_
    rintro en w' ⟨rfl, hb⟩
    exact log_left_below x 280 hb
  · exact lapp_live BC x hw hb hm n1 n2 n3 hg h

/-- The log is folded. -/
theorem fold_c {w : World} {pl pd md m n : Nat} {e : Em.E} {F : Nat → Prop} {D : Em.Rows}
    (x : LogAt w pl pd md e F) (hw : e.d.waits.length ≤ 900000000) (hm : RowsIn w m n D) (hD : Em.RowsOk D) (hs : Maps.size D ≤ 256) (n1 : m ≠ pd) (n2 : m ≠ md) (n3 : m ≠ pl) :
    Calls Tryz.prog 39 #[.pointer (some ⟨pl, 0, none⟩), .map (some m)] w (LogLeft w pl pd md F (e.fold D)) := by
  by_cases h : 2147483647 ≤ e.gen
  · rw [Em.fold_full h]
    obtain ⟨mr, row, rows, hne⟩ := x.row
    refine (fold_full_c row h).mono ?_
    rintro en w' ⟨rfl, rfl⟩
    exact log_left_below x 280 (Below.refl _ _)
  · exact fold_live_c x hw hm hD hs n1 n2 n3 h

theorem lnone_nil (w : World) : Calls Tryz.prog 36 #[.pointer none] w fun e w' => e = .returned (.bool true) ∧ w = w' := by
  go_enter Tryz.func36, Tryz.ntmps36
  go_wp2
  go_ret
  exact ⟨rfl, rfl⟩

theorem lnone_at {w : World} {pl : Nat} {p : Option Addr} (h : w.cell? ⟨pl, 5, none⟩ = some (.pointer p)) : Calls Tryz.prog 36 #[.pointer (some ⟨pl, 0, none⟩)] w fun e w' => e = .returned (.bool (p == none)) ∧ w = w' := by
  cases p
  · go_enter Tryz.func36, Tryz.ntmps36
    go_wp2
    go_ret
    exact ⟨rfl, rfl⟩
  · go_enter Tryz.func36, Tryz.ntmps36
    go_wp2
    go_ret
    exact ⟨rfl, rfl⟩

theorem LogAt.none {w : World} {pl pd md : Nat} {e : Em.E} {F : Nat → Prop} (x : LogAt w pl pd md e F) : Calls Tryz.prog 36 #[.pointer (some ⟨pl, 0, none⟩)] w fun e w' => e = .returned (.bool false) ∧ w = w' := by
  obtain ⟨m, row, _⟩ := x.row
  exact lnone_at (row_cell row rfl)

theorem setGone_row {w : World} {pl pd : Nat} {tp gen batches fin : Nat} {rows : Value} {gone : Bool} (h : w.heap[pl]? = some (.cells (logC tp gen rows batches fin pd gone) tLog (0, 0))) (g : Bool) :
    (w.setCell ⟨pl, 6, none⟩ (.bool g)).heap[pl]? = some (.cells (logC tp gen rows batches fin pd g) tLog (0, 0)) := heap_setCell_same w pl 6 _ tLog (.bool g) h

theorem setGone_log {w : World} {pl pd md : Nat} {e : Em.E} {F : Nat → Prop} (x : LogAt w pl pd md e F) (g : Bool) : LogAt (w.setCell ⟨pl, 6, none⟩ (.bool g)) pl pd md { e with gone := g } F ∧ Moves (fun k => k = pl) w (w.setCell ⟨pl, 6, none⟩ (.bool g)) := by
  have mv : Moves (fun k => k = pl) w (w.setCell ⟨pl, 6, none⟩ (.bool g)) := ⟨rfl, rfl, rfl, by simp, fun k hk hne => heap_setCell_other _ _ _ _ hne⟩
  obtain ⟨m, row, rows, hne⟩ := x.row
  have hg := x.good
  exact ⟨⟨⟨hg.tp, hg.gen, hg.batches, hg.fin, hg.rows, hg.few⟩, x.disk.off mv x.ne.1 x.ne.2.1 x.ne.2.2, ⟨m, setGone_row row g, rows_off rows mv hne.2.2, hne⟩, x.ne⟩, mv⟩

theorem log_set_gone {w W : World} {pl pd md : Nat} {e : Em.E} {F : Nat → Prop} {c : Int} {r : Em.E × Int} (h : LogLeft w pl pd md F (e, c) (.returned (.int .i64 c)) W) (g : Bool) (hr : r = ({ e with gone := g }, c)) :
    LogLeft w pl pd md F r (.returned (.int .i64 c)) (W.setCell ⟨pl, 6, none⟩ (.bool g)) := by
  subst hr
  obtain ⟨_, h2, h3⟩ := h
  obtain ⟨y, mv⟩ := setGone_log h3 g
  have s := mv.size
  refine ⟨rfl, h2.trans mv (fun i _ hi => Or.inl hi), ⟨y.good, y.disk.weak (fun k hk hl => ?_) ?_ ?_, y.row, y.ne.1, y.ne.2.1, ?_⟩⟩
  · rcases hk with hk | hk
    · exact Or.inl hk
    · exact Or.inr ⟨hk.1, hl⟩
  all_goals
    intro hk
    have l := h3.disk.lt
    have l2 := h3.ne.2.2
    obtain ⟨m, row, _⟩ := h3.row
    have lp := lt_of_row row
    have s2 : (W.setCell ⟨pl, 6, none⟩ (.bool g)).heap.size = W.heap.size := by simp
    rcases hk with hk | hk
    · first | exact l.2.2.2.1 (Or.inl hk) | exact l.2.2.2.2 (Or.inl hk) | exact l2 (Or.inl hk)
    · first | exact l.2.2.2.1 (Or.inr ⟨hk.1, by omega⟩) | exact l.2.2.2.2 (Or.inr ⟨hk.1, by omega⟩) | exact l2 (Or.inr ⟨hk.1, by omega⟩)

end Go.Proofs.YtgffifleflkjoaaGreat

namespace Go.Proofs.YtgffifleflkjoaaGreat
open Go.RowKit

/-- As Q; by a goto to label l: what stands behind the label runs on. -/
def Exit.fwd (P : Program) (l : Nat) (rest : Code) (Q : Exit → Act → World → Prop) : Exit → Act → World → Prop
  | .goto l', a, w => l' = l ∧ rest.wp P (Exit.noGoto Q) a w
  | e, a, w => Q e a w

theorem Exit.fwd_goto {P : Program} {l : Nat} {rest : Code} {Q : Exit → Act → World → Prop} {a : Act} {w : World} (h : rest.wp P (Exit.noGoto Q) a w) : Exit.fwd P l rest Q (.goto l) a w := ⟨rfl, h⟩
theorem Exit.fwd_ret {P : Program} {l : Nat} {rest : Code} {Q : Exit → Act → World → Prop} {a : Act} {w : World} : Exit.fwd P l rest Q .ret a w = Q .ret a w := rfl

theorem wp_scope_fwd {P : Program} {Q : Exit → Act → World → Prop} {a : Act} {w : World} {c rest : Code} (l : Nat) (hf : findLabel c l = some rest)
    (first : c.wp P (Exit.fwd P l rest Q) a w) : (Code.scope c).wp P Q a w := by
  intro b k cs
  have hg : gotoIn l (.inScope c :: k) = some (.code rest :: .inScope c :: k) := by simp [gotoIn, hf]
  obtain ⟨e, a₁, w₁, hq, harr⟩ := first b (.inScope c :: k) cs
  cases e with
  | normal => exact ⟨.normal, a₁, w₁, hq, .head step_scope (Steps.trans harr (.one step_inScope))⟩
  | exit id => exact ⟨.exit id, a₁, w₁, hq, fun k' hk => .head step_scope (harr k' (by simp [exitTo, hk]))⟩
  | goto l' =>
    obtain ⟨rfl, hJ⟩ := hq
    obtain ⟨e₂, a₂, w₂, hq₂, harr₂⟩ := hJ b (.inScope c :: k) cs
    cases e₂ with
    | normal => exact ⟨.normal, a₂, w₂, hq₂, .of_steps (.head step_scope (harr _ hg)) (Steps.trans harr₂ (.one step_inScope))⟩
    | exit id => exact ⟨.exit id, a₂, w₂, hq₂, fun k' hk => Steps.trans (.head step_scope (harr _ hg)) (harr₂ k' (by simp [exitTo, hk]))⟩
    | goto l'' => exact hq₂.elim
    | ret => exact ⟨_, a₂, w₂, hq₂, .of_steps (.head step_scope (harr _ hg)) harr₂⟩
    | panic ch => exact ⟨_, a₂, w₂, hq₂, .of_steps (.head step_scope (harr _ hg)) harr₂⟩
    | outgrown => exact ⟨_, a₂, w₂, hq₂, .of_steps (.head step_scope (harr _ hg)) harr₂⟩
  | ret => exact ⟨_, a₁, w₁, hq, .of_steps (.one step_scope) harr⟩
  | panic ch => exact ⟨_, a₁, w₁, hq, .of_steps (.one step_scope) harr⟩
  | outgrown => exact ⟨_, a₁, w₁, hq, .of_steps (.one step_scope) harr⟩

/-- The same, under a fence. -/
def Exit.fwdIn (F : Fence) (n : Nat) (P : Program) (l : Nat) (rest : Code) (Q : Exit → Act → World → Prop) : Exit → Act → World → Prop
  | .goto l', a, w => l' = l ∧ rest.wpIn F n P (Exit.noGoto Q) a w
  | e, a, w => Q e a w

theorem Exit.fwdIn_goto {F : Fence} {n : Nat} {P : Program} {l : Nat} {rest : Code} {Q : Exit → Act → World → Prop} {a : Act} {w : World} (h : rest.wpIn F n P (Exit.noGoto Q) a w) : Exit.fwdIn F n P l rest Q (.goto l) a w := ⟨rfl, h⟩
theorem Exit.fwdIn_ret {F : Fence} {n : Nat} {P : Program} {l : Nat} {rest : Code} {Q : Exit → Act → World → Prop} {a : Act} {w : World} : Exit.fwdIn F n P l rest Q .ret a w = Q .ret a w := rfl

theorem wpIn_scope_fwd {F : Fence} {n : Nat} {P : Program} {Q : Exit → Act → World → Prop} {a : Act} {w : World} {c rest : Code} (l : Nat) (hf : findLabel c l = some rest)
    (h : c.wpIn F n P (Exit.fwdIn F n P l rest Q) a w) : (Code.scope c).wpIn F n P Q a w := by
  intro b k cs hro hb hr
  have h0 : (lone (b.atR a (.code (.scope c) :: k)) cs w).fenced P F := fenced_calm hb hr rfl
  have hg : gotoIn l (.inScope c :: k) = some (.code rest :: .inScope c :: k) := by simp [gotoIn, hf]
  obtain ⟨e, a₁, w₁, hq, harr⟩ := h b (.inScope c :: k) cs hro hb hr
  have hx : ∀ id, exitTo id (.inScope c :: k) = exitTo id k := fun id => by simp [exitTo]
  cases e with
  | normal => exact ⟨.normal, a₁, w₁, hq, .head h0 stepR_scope (StepsIn.trans harr (.one (fenced_calm hb hr rfl) stepR_inScope))⟩
  | exit id => exact ⟨.exit id, a₁, w₁, hq, fun k' hk => .head h0 stepR_scope (harr.1 k' (by rw [hx]; exact hk)),
      fun hr' hk => let ⟨k₁, h1, h2⟩ := harr.2 hr' (by rw [hx]; exact hk); ⟨k₁, h1, .head h0 stepR_scope h2⟩⟩
  | goto l' =>
    obtain ⟨rfl, hJ⟩ := hq
    have pre := StepsIn.head h0 stepR_scope (harr.1 _ hg)
    obtain ⟨e₂, a₂, w₂, hq₂, harr₂⟩ := hJ b (.inScope c :: k) cs hro hb hr
    cases e₂ with
    | normal => exact ⟨.normal, a₂, w₂, hq₂, StepsIn.trans pre (StepsIn.trans harr₂ (.one (fenced_calm hb hr rfl) stepR_inScope))⟩
    | exit id => exact ⟨.exit id, a₂, w₂, hq₂, fun k' hk => pre.trans (harr₂.1 k' (by rw [hx]; exact hk)),
        fun hr' hk => let ⟨k₁, h1, h2⟩ := harr₂.2 hr' (by rw [hx]; exact hk); ⟨k₁, h1, pre.trans h2⟩⟩
    | goto l'' => exact hq₂.elim
    | ret => exact ⟨_, a₂, w₂, hq₂, .of_steps pre harr₂⟩
    | panic ch => exact ⟨_, a₂, w₂, hq₂, .of_steps pre harr₂⟩
    | outgrown => exact ⟨_, a₂, w₂, hq₂, .of_steps pre harr₂⟩
  | ret => exact ⟨_, a₁, w₁, hq, .of_steps (.one h0 stepR_scope) harr⟩
  | panic ch => exact ⟨_, a₁, w₁, hq, .of_steps (.one h0 stepR_scope) harr⟩
  | outgrown => exact ⟨_, a₁, w₁, hq, .of_steps (.one h0 stepR_scope) harr⟩

end Go.Proofs.YtgffifleflkjoaaGreat

namespace Go.Proofs.YtgffifleflkjoaaGreat
open Go.RowKit Dm

theorem commit_bad {e : Em.E} {l : List Em.Change} (h : Em.doneErr e.rows l ≠ 0) : e.commit l = (e, Em.doneErr e.rows l) := if_pos h
theorem commit_gone {e : Em.E} {l : List Em.Change} (h : Em.doneErr e.rows l = 0) (hg : e.gone = true) : e.commit l = (e, 290) := by
  unfold Em.E.commit; rw [if_neg (by omega), if_pos hg]
theorem commit_step {e : Em.E} {l : List Em.Change} (h : Em.doneErr e.rows l = 0) (hg : e.gone = false) : e.commit l = ({ (e.step (Em.behind e.rows l) (Em.batched l)).1 with gone := decide ((e.step (Em.behind e.rows l) (Em.batched l)).2 = 281) }, (e.step (Em.behind e.rows l) (Em.batched l)).2) := by
  unfold Em.E.commit; rw [if_neg (by omega), if_neg (by simp [hg])]

theorem rows_plm {w W : World} {pl pd md m n : Nat} {D : Em.Rows} (h : RowsIn w m n D) (hm : Moves (PLM pl pd md) w W) (h1 : m ≠ pl) (h2 : m ≠ pd) (h3 : m ≠ md) : RowsIn W m n D := by
  have lt := h.lt
  obtain ⟨es, clock, k1, F, hs, hD⟩ := h
  exact ⟨es, clock, (hm.block m lt (fun e => by rcases e with e | e | e; exact h1 e; exact h2 e; exact h3 e)).trans k1, F, hs, hD⟩

set_option maxRecDepth 100000 in
set_option maxHeartbeats 2000000 in
theorem commit_c {w : World} {pl pd md : Nat} {e : Em.E} {F G : Nat → Prop} {v : Value} {l : List Em.Change} (x : LogAt w pl pd md e F) (hw : e.d.waits.length ≤ 800000000) (h : ChangesAt w G v l) (hl : l.length ≤ 1000000) (hk : ∀ c ∈ l, c.key.length ≤ 1000000000 ∧ c.value.length ≤ 1000000000) :
    Calls Tryz.prog 11 #[.pointer (some ⟨pl, 0, none⟩), v] w (LogLeft w pl pd md F (e.commit l)) := by
  have NC := Lib.hid x.none
  obtain ⟨mr, row, rows, hne⟩ := x.row
  have DC := done_c rows (by have := x.good.few; omega) h hl hk
  have f2 : w.cell? ⟨pl, 2, none⟩ = some (.map (some mr)) := row_cell row rfl
  have f6 : w.cell? ⟨pl, 6, none⟩ = some (.bool e.gone) := row_cell row rfl
  have lpl := lt_of_row row
  by_cases hd : Em.doneErr e.rows l = 0
  · have DC : Calls Tryz.prog 37 #[.map (some mr), v] w fun en w' => Below w.heap.size w w' ∧ ∃ m, en = .returned (.tuple #[.map (some m), .int .i64 0]) ∧ w.heap.size ≤ m ∧ RowsIn w' m (Maps.size (Em.behind e.rows l)) (Em.behind e.rows l) :=
      DC.mono fun en w' hh => ⟨hh.1, hh.2.elim (fun q => absurd hd q.1) (fun q => q.2)⟩
    have DC := Lib.hid DC
    obtain ⟨hr, hs⟩ := Em.doneErr_zero hd
    by_cases hg : e.gone = true
    · have HP := Lib.hid (commit_gone hd hg)
      have X := Lib.hid x
      rw [hg] at f6
      clear x row rows hne h hd hg hk
      go_enter Tryz.func11, Tryz.ntmps11
      go_wp2
      refine wp_scope_fwd 0 rfl ?_
      go_wp2_with (first
        | (go_at_call 36; refine NC.out.mono ?_; rintro en w0 ⟨rfl, rfl⟩)
        | (go_at_call 37; refine DC.out.mono ?_; rintro en w1 ⟨b1, m, rfl, hm, r1⟩
           have g6 : w1.cell? ⟨pl, 6, none⟩ = some (.bool true) := (b1.cell (p := ⟨pl, 6, none⟩) lpl).trans f6
           have H1 := Lib.hid (And.intro b1 r1)
           clear b1 r1 f6))
      refine wp_goto ?_
      refine Exit.fwd_goto ?_
      go_wp2
      try go_step3
      go_wp2
      rw [Exit.noGoto_ret]
      go_ret
      rw [HP.out]
      exact log_left_below X.out 290 H1.out.1
    · have hg : e.gone = false := by simpa using hg
      have HP := Lib.hid (commit_step hd hg)
      have hb := Em.framed_len (Em.batchBody l)
      have hgd := Em.put_good (b := Em.batched l) x.good (Em.rowsOk_behind x.good.rows hr) hs hb
      have hrk := Em.rowsOk_behind x.good.rows hr
      have hpw := put_waits e (Em.behind e.rows l) (Em.batched l)
      have X := Lib.hid (And.intro x (And.intro h (And.intro hr (And.intro hs (And.intro hb (And.intro hgd (And.intro hrk (And.intro hg (And.intro hw hpw)))))))))
      rw [hg] at f6
      obtain ⟨e2, c2, hput⟩ : ∃ e2 c2, e.put (Em.behind e.rows l) (Em.batched l) = (e2, c2) := ⟨_, _, rfl⟩
      have HU := Lib.hid hput
      by_cases hc : c2 = 280
      · subst hc
        have HS := Lib.hid (show e.step (Em.behind e.rows l) (Em.batched l) = e2.fold (Em.behind e.rows l) by unfold Em.E.step; rw [hput]; simp)
        clear x row rows hne h hd hg hk hr hs hb hgd hrk hpw hput
        go_enter Tryz.func11, Tryz.ntmps11
        go_wp2
        refine wp_scope_fwd 0 rfl ?_
        go_wp2_with (first
          | (go_at_call 36; refine NC.out.mono ?_; rintro en w0 ⟨rfl, rfl⟩)
          | (go_at_call 37; refine DC.out.mono ?_; rintro en w1 ⟨b1, m, rfl, hm, r1⟩
             have g6 : w1.cell? ⟨pl, 6, none⟩ = some (.bool false) := (b1.cell (p := ⟨pl, 6, none⟩) lpl).trans f6
             have H1 := Lib.hid (And.intro b1 (And.intro r1 hm))
             clear b1 r1 f6)
          | (go_at_call 38
             go_loud (refine (lapp_c (batched_c (X.out.2.1.later H1.out.1) X.out.2.2.1) (log_below X.out.1 H1.out.1) X.out.2.2.2.2.2.2.2.1 (by have := X.out.2.2.2.2.2.2.2.2.1; omega) X.out.2.2.2.2.1 H1.out.2.1 (by have := X.out.1.disk.lt; omega) (by have := X.out.1.disk.lt; omega) (by omega) X.out.2.2.2.2.2.1).mono ?_)
             rw [HU.out]
             rintro en w2 ⟨rfl, m2, x2⟩
             have H2 := Lib.hid (And.intro m2 x2)
             clear m2 x2)
          | (go_at_call 39
             go_loud (have lt := X.out.1.disk.lt
                      have hpw := X.out.2.2.2.2.2.2.2.2.2
                      rw [HU.out] at hpw
                      have hw2 : e2.d.waits.length ≤ 900000000 := by have := X.out.2.2.2.2.2.2.2.2.1; simp only at hpw; omega
                      have r2 := rows_plm H1.out.2.1 H2.out.1 (by have := H1.out.2.2; omega) (by have := H1.out.2.2; omega) (by have := H1.out.2.2; omega)
                      refine (fold_c H2.out.2 hw2 r2 X.out.2.2.2.2.2.2.1 X.out.2.2.2.1 (by have := H1.out.2.2; omega) (by have := H1.out.2.2; omega) (by have := H1.out.2.2; omega)).mono ?_
                      clear hpw r2 hw2 lt
                      obtain ⟨r3, hr3⟩ : ∃ r, e2.fold (Em.behind e.rows l) = r := ⟨_, rfl⟩
                      rw [hr3] at HS ⊢
                      clear hr3
                      rintro en w3 ⟨rfl, m3, x3⟩
                      have LL := Lib.hid (log_then (r := r3) X.out.1 (Moves.of_below H1.out.1) (log_then (log_below X.out.1 H1.out.1) H2.out.1 ⟨rfl, m3, x3⟩))
                      obtain ⟨m', row3, _⟩ := x3.row
                      have k6 := row_cell row3 (j := 6) rfl
                      have z6 := row_free row3 6
                      clear m3 x3 row3)))
        go_step3
        go_wp2
        rw [Exit.fwd_ret]
        go_ret
        have hrr : e.commit l = ({ r3.1 with gone := r3.2 == 281 }, r3.2) := by rw [HP.out, HS.out]; rfl
        exact log_set_gone LL.out _ hrr
      · have HS := Lib.hid (show e.step (Em.behind e.rows l) (Em.batched l) = (e2, c2) by unfold Em.E.step; rw [hput]; exact if_neg hc)
        clear x row rows hne h hd hg hk hr hs hb hgd hrk hpw hput
        go_enter Tryz.func11, Tryz.ntmps11
        go_wp2
        refine wp_scope_fwd 0 rfl ?_
        go_wp2_with (first
          | (go_at_call 36; refine NC.out.mono ?_; rintro en w0 ⟨rfl, rfl⟩)
          | (go_at_call 37; refine DC.out.mono ?_; rintro en w1 ⟨b1, m, rfl, hm, r1⟩
             have g6 : w1.cell? ⟨pl, 6, none⟩ = some (.bool false) := (b1.cell (p := ⟨pl, 6, none⟩) lpl).trans f6
             have H1 := Lib.hid (And.intro b1 (And.intro r1 hm))
             clear b1 r1 f6)
          | (go_at_call 38
             refine (lapp_c (batched_c (X.out.2.1.later H1.out.1) X.out.2.2.1) (log_below X.out.1 H1.out.1) X.out.2.2.2.2.2.2.2.1 (by have := X.out.2.2.2.2.2.2.2.2.1; omega) X.out.2.2.2.2.1 H1.out.2.1 (by have := X.out.1.disk.lt; omega) (by have := X.out.1.disk.lt; omega) (by omega) X.out.2.2.2.2.2.1).mono ?_
             rw [HU.out]
             rintro en w2 ⟨rfl, m2, x2⟩
             have LL := Lib.hid (log_then (r := (e2, c2)) X.out.1 (Moves.of_below H1.out.1) ⟨rfl, m2, x2⟩)
             obtain ⟨m', row3, _⟩ := x2.row
             have k6 := row_cell row3 (j := 6) rfl
             have z6 := row_free row3 6
             clear m2 x2 row3))
        go_step3
        go_wp2
        rw [Exit.fwd_ret]
        go_ret
        have hrr : e.commit l = ({ e2 with gone := c2 == 281 }, c2) := by rw [HP.out, HS.out]; rfl
        exact log_set_gone LL.out _ hrr
  · have DC : Calls Tryz.prog 37 #[.map (some mr), v] w fun en w' => Below w.heap.size w w' ∧ en = .returned (.tuple #[.map none, .int .i64 (Em.doneErr e.rows l)]) :=
      DC.mono fun en w' hh => ⟨hh.1, hh.2.elim (fun q => q.2) (fun q => absurd q.1 hd)⟩
    have DC := Lib.hid DC
    have HP := Lib.hid (commit_bad hd)
    have X := Lib.hid x
    generalize Em.doneErr e.rows l = c at *
    clear x row rows hne h hk f6
    go_enter Tryz.func11, Tryz.ntmps11
    go_wp2
    refine wp_scope_fwd 0 rfl ?_
    go_wp2_with (first
      | (go_at_call 36; refine NC.out.mono ?_; rintro en w0 ⟨rfl, rfl⟩)
      | (go_at_call 37; refine DC.out.mono ?_; rintro en w1 ⟨b1, rfl⟩
         have H1 := Lib.hid b1
         clear b1))
    refine wp_goto ?_
    refine Exit.fwd_goto ?_
    go_wp2
    try go_step3
    go_wp2
    rw [Exit.noGoto_ret]
    go_ret
    rw [HP.out]
    exact log_left_below X.out c H1.out

end Go.Proofs.YtgffifleflkjoaaGreat
