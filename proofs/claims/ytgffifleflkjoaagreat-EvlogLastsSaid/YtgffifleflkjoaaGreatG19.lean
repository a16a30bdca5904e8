/-
  evlog: a batch is appended.
  evlog: the log is folded.
-/
import Derived.Test.YtgffifleflkjoaaGreatG15
import Derived.Test.YtgffifleflkjoaaGreatG16
import Derived.Test.YtgffifleflkjoaaGreatG18

namespace Go.Proofs.YtgffifleflkjoaaGreat
open Go.RowKit Dm

set_option maxRecDepth 100000 in
set_option maxHeartbeats 2000000 in
theorem lapp_full {w : World} {pl pd md : Nat} {tp gen batches fin room : Nat} {rows rv : Value} {b : List UInt8} {v : Value} {d : D} {F : Nat → Prop}
    (BC : Calls Tryz.prog 79 #[v] w (GivesB w b)) (hrow : w.heap[pl]? = some (.cells (logC tp gen rows batches fin pd false) tLog (0, 0)))
    (x : DiskAt w.heap pd md d F) (hroom : d.room = (room : Int)) (hB : batches ≤ 1000000000) (hF : fin ≤ 100000000000) (hb : b.length ≤ 1000000) (hR : room ≤ 100000000)
    (hfull : 32 ≤ batches ∨ b.length = 0 ∨ room / 2 < fin + b.length) :
    Calls Tryz.prog 38 #[.pointer (some ⟨pl, 0, none⟩), rv, v] w fun e w' => e = .returned (.int .i64 280) ∧ Below w.heap.size w w' := by
  have BC := Lib.hid BC
  have H := Lib.hid (And.intro hrow x)
  have lpl := lt_of_row hrow
  have HF := Lib.hid hfull
  clear hrow x hfull
  generalize hN : b.length = N at *
  go_enter Tryz.func38, Tryz.ntmps38
  go_upto_region 2 with (go_at_call 79; refine BC.out.mono ?_; rintro e w1 ⟨v1, rfl, o1, b1⟩; obtain ⟨va, vn, vc, rfl⟩ := o1.at.slice3; have hvn : vn = N := by obtain ⟨a, c, q⟩ := o1.at.slice; injection q with _ q2 _; omega)
  have f3 : w1.cell? ⟨pl, 3, none⟩ = some (.int .i64 batches) := row_cell ((b1.block pl lpl).trans H.out.1) rfl
  have f4 : w1.cell? ⟨pl, 4, none⟩ = some (.int .i64 fin) := row_cell ((b1.block pl lpl).trans H.out.1) rfl
  have f5 : w1.cell? ⟨pl, 5, none⟩ = some (.pointer (some ⟨pd, 0, none⟩)) := row_cell ((b1.block pl lpl).trans H.out.1) rfl
  have RC : ∀ n, Calls Tryz.prog 80 #[.pointer (some ⟨pd, 0, none⟩)] (w1.drewN n) fun e w' => e = .returned (.int .i64 room) ∧ w1.drewN n = w' := fun n => by
    have := roomAt_c (w := w1.drewN n) (H.out.2.below (below_drewN b1 n))
    rwa [hroom] at this
  have RC := Lib.hid RC
  have HB := Lib.hid b1
  subst hvn
  clear o1 b1 hN
  by_cases c1 : 32 ≤ batches
  · have g1 : decide ((32 : Int) ≤ batches) = true := by simp; omega
    go_quiet (fail)
    go_wp2
    go_ret
    exact ⟨rfl, below_drewN HB.out nq⟩
  · have g1 : decide ((32 : Int) ≤ batches) = false := by simp; omega
    by_cases c2 : vn = 0
    · subst c2
      go_quiet (fail)
      go_wp2
      go_ret
      exact ⟨rfl, below_drewN HB.out nq⟩
    · have g2 : ((vn : Int) == 0) = false := by simp; omega
      have g4 : IntKind.i64.wrap ((fin : Int) + vn) = (fin : Int) + vn := IntWalk.i64_in _ (by omega)
      have g5 : (room : Int).tdiv 2 = (room : Int) / 2 := Int.tdiv_eq_ediv_of_nonneg (by omega)
      have g6 : IntKind.i64.wrap ((room : Int) / 2) = (room : Int) / 2 := IntWalk.i64_in _ (by omega)
      have g3 : decide ((room : Int) / 2 < (fin : Int) + vn) = true := by simp; have := HF.out; omega
      go_quiet ((go_at_call 80; exact Calls.quiet_of_same ((RC.out _).mono fun e w' h => ⟨h.1, h.2.symm⟩)))
      go_wp2
      go_ret
      exact ⟨rfl, below_drewN HB.out nq⟩

theorem setCell3_row {w : World} {pl pd : Nat} {tp gen batches fin : Nat} {rows : Value} {gone : Bool} (h : w.heap[pl]? = some (.cells (logC tp gen rows batches fin pd gone) tLog (0, 0))) (r' : Value) (b' f' : Nat) :
    (((w.setCell ⟨pl, 2, none⟩ r').setCell ⟨pl, 3, none⟩ (.int .i64 b')).setCell ⟨pl, 4, none⟩ (.int .i64 f')).heap[pl]? = some (.cells (logC tp gen r' b' f' pd gone) tLog (0, 0)) := by
  have h1 := heap_setCell_same w pl 2 _ tLog r' h
  have h2 := heap_setCell_same _ pl 3 _ tLog (.int .i64 b') h1
  exact heap_setCell_same _ pl 4 _ tLog (.int .i64 f') h2

theorem World.drew_heap' (w : World) : w.drew.heap = w.heap := rfl

theorem setCell3_moves (w : World) (pl : Nat) (a b c : Value) : Moves (fun k => k = pl) w (((w.setCell ⟨pl, 2, none⟩ a).setCell ⟨pl, 3, none⟩ b).setCell ⟨pl, 4, none⟩ c).drew :=
  ⟨rfl, rfl, rfl, by simp, fun k hk hne => by rw [World.drew_heap', heap_setCell_other _ _ _ _ hne, heap_setCell_other _ _ _ _ hne, heap_setCell_other _ _ _ _ hne]⟩

/-- The worlds behind the three stores. -/
def AppJ (w : World) (pl m b : Nat) : List Bool → World → Prop
  | [true, true, true], _ => True
  | [true, true, false], w' => w' = ((w.setCell ⟨pl, 2, none⟩ (.map (some m))).setCell ⟨pl, 3, none⟩ (.int .i64 ((b + 1 : Nat) : Int))).drew
  | [true, false, _], w' => w' = (w.setCell ⟨pl, 2, none⟩ (.map (some m))).drew
  | _, w' => w' = w.drew
def AppC (w : World) (pl m : Nat) (w' : World) : Prop := w' = w.drew ∨ w' = (w.setCell ⟨pl, 2, none⟩ (.map (some m))).drew
theorem appC_of {w w' : World} {pl m b : Nat} (h : ∃ L : Array Bool, L.getD 25 false = false ∧ AppJ w pl m b (marks [21, 25, 29] L) w') : AppC w pl m w' := by
  obtain ⟨L, h1, h2⟩ := h
  simp only [marks, List.map_cons, List.map_nil, h1] at h2
  generalize L.getD 21 false = x at h2
  cases x
  · exact Or.inl h2
  · exact Or.inr h2
theorem appC_cell {w : World} {pl m j : Nat} {v : Value} (hj : j ≠ 2) (h : w.cell? ⟨pl, j, none⟩ = some v) : ∀ W, AppC w pl m W → W.cell? ⟨pl, j, none⟩ = some v := by
  intro W hW
  rcases hW with rfl | rfl
  · exact h
  · show (w.setCell ⟨pl, 2, none⟩ (.map (some m))).cell? ⟨pl, j, none⟩ = _
    rw [World.cell?_setCell_other _ _ _ _ (by simp [hj])]
    exact h

set_option maxRecDepth 100000 in
set_option maxHeartbeats 4000000 in
theorem lapp_live {w : World} {pl pd md m n : Nat} {e : Em.E} {F : Nat → Prop} {b : List UInt8} {v : Value} {D : Em.Rows}
    (BC : Calls Tryz.prog 79 #[v] w (GivesB w b)) (x : LogAt w pl pd md e F) (hw : e.d.waits.length ≤ 900000000) (hb : b.length ≤ 8205) (hm : RowsIn w m n D) (n1 : m ≠ pd) (n2 : m ≠ md) (n3 : m ≠ pl) (hg : (e.put D b).1.good)
    (hlive : ¬ (32 ≤ e.batches ∨ b.length = 0 ∨ e.d.room / 2 < e.fin + b.length)) :
    Calls Tryz.prog 38 #[.pointer (some ⟨pl, 0, none⟩), .map (some m), v] w (LogLeft w pl pd md F (e.put D b)) := by
  have BC := Lib.hid BC
  obtain ⟨mr, row, hrows, m1, m2, m3⟩ := x.row
  have lpl := lt_of_row row
  have hB := x.good.batches
  have hF := x.good.fin
  have R0 := x.disk.ok.room0
  have R1 := x.disk.ok.room1
  obtain ⟨room, hroom⟩ : ∃ n : Nat, e.d.room = (n : Int) := ⟨e.d.room.toNat, by omega⟩
  have HP := Lib.hid (Em.put_live (D := D) hlive)
  have X := Lib.hid (And.intro x (And.intro hg (And.intro row (And.intro hrows (And.intro hm (And.intro hw (And.intro (And.intro n1 (And.intro n2 n3)) (And.intro m1 (And.intro m2 m3)))))))))
  rw [hroom] at hlive R1
  clear x hg row hrows hm hw R0 n1 n2 n3 m1 m2 m3
  have c1 : ¬ 32 ≤ e.batches := fun h => hlive (Or.inl h)
  have c2 : ¬ b.length = 0 := fun h => hlive (Or.inr (Or.inl h))
  have c3 : ¬ (room : Int) / 2 < e.fin + b.length := fun h => hlive (Or.inr (Or.inr h))
  clear hlive
  generalize hN : b.length = N at *
  go_enter Tryz.func38, Tryz.ntmps38
  go_upto_region 2 with (go_at_call 79; refine BC.out.mono ?_; rintro e w1 ⟨v1, rfl, o1, b1⟩; obtain ⟨va, vn, vc, rfl⟩ := o1.at.slice3; have hvn : vn = N := by obtain ⟨a, c, q⟩ := o1.at.slice; injection q with _ q2 _; omega)
  have f3 : w1.cell? ⟨pl, 3, none⟩ = some (.int .i64 e.batches) := row_cell ((b1.block pl lpl).trans X.out.2.2.1) rfl
  have f4 : w1.cell? ⟨pl, 4, none⟩ = some (.int .i64 e.fin) := row_cell ((b1.block pl lpl).trans X.out.2.2.1) rfl
  have f5 : w1.cell? ⟨pl, 5, none⟩ = some (.pointer (some ⟨pd, 0, none⟩)) := row_cell ((b1.block pl lpl).trans X.out.2.2.1) rfl
  have RC : ∀ n, Calls Tryz.prog 80 #[.pointer (some ⟨pd, 0, none⟩)] (w1.drewN n) fun e w' => e = .returned (.int .i64 room) ∧ w1.drewN n = w' := fun n => by
    have := roomAt_c (w := w1.drewN n) (X.out.1.disk.below (below_drewN b1 n))
    rwa [hroom] at this
  have RC := Lib.hid RC
  subst hvn
  have H1 := Lib.hid (And.intro o1 (And.intro b1 hN))
  clear o1 b1 hN
  have g1 : decide ((32 : Int) ≤ e.batches) = false := by simp; omega
  have g2 : ((vn : Int) == 0) = false := by simp; omega
  have g4 : IntKind.i64.wrap ((e.fin : Int) + vn) = (e.fin : Int) + vn := IntWalk.i64_in _ (by omega)
  have g5 : (room : Int).tdiv 2 = (room : Int) / 2 := Int.tdiv_eq_ediv_of_nonneg (by omega)
  have g6 : IntKind.i64.wrap ((room : Int) / 2) = (room : Int) / 2 := IntWalk.i64_in _ (by omega)
  have g3 : decide ((room : Int) / 2 < (e.fin : Int) + vn) = false := by simp; omega
  go_quiet ((go_at_call 80; exact Calls.quiet_of_same ((RC.out _).mono fun e w' h => ⟨h.1, h.2.symm⟩)))
  clear RC f3 f4 f5
  obtain ⟨W2, hW2⟩ : ∃ W, w1.drewN nq = W := ⟨_, rfl⟩
  rw [hW2]
  have B2 : Below w.heap.size w W2 := by rw [← hW2]; exact below_drewN H1.out.2.1 nq
  have y2 : BytesAt W2.heap (fun k => w.heap.size ≤ k ∧ k < w1.heap.size) (.slice va vn vc) b := by rw [← hW2]; exact H1.out.1.at.keeps (fun k _ _ => rfl) (fun k hk hl => ⟨hk, hl⟩)
  have z2 : w1.heap.size = W2.heap.size := by rw [← hW2]; rfl
  clear hW2
  have k2 := (B2.block pl lpl).trans X.out.2.2.1
  have f5 : ∀ x : Wd (Below W2.heap.size W2), x.world.cell? ⟨pl, 5, none⟩ = some (.pointer (some ⟨pd, 0, none⟩)) := fun x => (x.ok.cell (p := ⟨pl, 5, none⟩) (lt_of_row k2)).trans (row_cell k2 rfl)
  have f0 : ∀ x : Wd (Below W2.heap.size W2), x.world.cell? ⟨pl, 0, none⟩ = some (.int .i64 e.tp) := fun x => (x.ok.cell (p := ⟨pl, 0, none⟩) (lt_of_row k2)).trans (row_cell k2 rfl)
  have H2 := Lib.hid (And.intro B2 (And.intro y2 (And.intro z2 k2)))
  clear B2 y2 z2 k2
  have ne : Nonempty (Wd (Below W2.heap.size W2)) := ⟨⟨_, Below.refl _ _⟩⟩
  have hmf : ∀ (fn : Fn) (first cap : Array Value) (w : World), (Instr.makeFunc fn first cap).run Tryz.prog w = .ok (.func fn first cap) w := fun _ _ _ _ => rfl
  go_wp2
  refine wp_region_hoist (fun w' => ∃ x : Wd (Below W2.heap.size W2), w' = x.world) [14, 15] (by kernel_rfl) ?_
  refine wpAnyI_reads [0, 1, 2, 3, 4, 5, 6, 8, 9, 10, 11, 12] 4 _ ⟨⟨_, (Below.refl _ _).drew⟩, rfl⟩ (by kernel_rfl) ?_
  simp only [List.filterMap_cons, List.filterMap_nil, List.getElem?_toArray, List.getElem?_cons_succ, List.getElem?_cons_zero]
  repeat (refine wpHoist_step (fun K hK => ?_); simp only [hoists, sameUpon]; go_simp; refine hK _ ?_; clear hK K)
  refine wpHoist_nil ?_
  refine wpAnyI_one 7 3 _ _ rfl (by kernel_rfl) ?_
  refine wpList_plain rfl fun K hK => ?_
  go_simp
  go_at_call 73
  refine (put_c pl e.tp va vn vc W2.drew).mono ?_
  rintro e' w5 ⟨rfl, e5⟩
  have B5 : Below W2.heap.size W2 w5 := by rw [← e5]; exact ((((Below.refl _ _).drew.alloc (Nat.le_refl _) _).alloc (by simp) _).alloc (by simp; omega) _)
  have z5 : w5.heap.size = W2.heap.size + 3 := by rw [← e5]; simp
  have p1 : w5.cell? ⟨W2.heap.size, 0, none⟩ = some (.pointer (some ⟨pl, 0, none⟩)) := by rw [← e5]; exact row_cell (heap_past (by simp; omega) (heap_past (by simp) (heap_alloc_last W2.drew _))) rfl
  have p2 : w5.cell? ⟨W2.heap.size + 1, 0, none⟩ = some (.int .i64 e.tp) := by rw [← e5]; exact row_cell (heap_past (by simp) (heap_at (w := W2.drew.alloc _) _ (by simp))) rfl
  have p3 : w5.cell? ⟨W2.heap.size + 1 + 1, 0, none⟩ = some (.slice va vn vc) := by rw [← e5]; exact row_cell (heap_at (w := (W2.drew.alloc _).alloc _) _ (by simp)) rfl
  have H5 := Lib.hid (And.intro B5 (And.intro z5 (And.intro p1 (And.intro p2 p3))))
  clear e5 p1 p2 p3
  refine hK _ _ (wpList_nil ⟨rfl, fun _ => ⟨⟨_, B5⟩, rfl⟩, ?_⟩)
  clear hK K
  clear B5 z5
  refine wpAnyI_one 13 2 _ _ rfl (by kernel_rfl) ?_
  refine wpList_plain rfl fun K hK => ?_
  go_simp
  obtain ⟨W6, hW6⟩ : ∃ W, w5.alloc (.cells #[.func (.func 121) #[] #[.pointer (some ⟨W2.heap.size, 0, none⟩), .pointer (some ⟨W2.heap.size + 1, 0, none⟩), .pointer (some ⟨W2.heap.size + 1 + 1, 0, none⟩)], .func (.func 60) #[.pointer (some ⟨pd, 0, none⟩)] #[]] tSteps) = W := ⟨_, rfl⟩
  have r6 := heap_alloc_last w5 (.cells #[.func (.func 121) #[] #[.pointer (some ⟨W2.heap.size, 0, none⟩), .pointer (some ⟨W2.heap.size + 1, 0, none⟩), .pointer (some ⟨W2.heap.size + 1 + 1, 0, none⟩)], .func (.func 60) #[.pointer (some ⟨pd, 0, none⟩)] #[]] tSteps)
  rw [hW6] at r6
  have B6' : Below w5.heap.size w5 W6 := by rw [← hW6]; exact (Below.refl _ _).alloc (Nat.le_refl _) _
  rw [hW6]
  have B6 : Below W2.heap.size W2 W6 := H5.out.1.trans (B6'.mono H5.out.1.size)
  have lp := X.out.1.disk.lt
  have x6 := (X.out.1.disk.below H2.out.1).below B6
  have y6 : BytesAt W6.heap (fun k => w.heap.size ≤ k ∧ k < w1.heap.size) (.slice va vn vc) b := H2.out.2.1.keeps (fun k _ hl => B6.block k hl) (fun k hk _ => hk)
  have z1 := H1.out.2.1.size
  have z2 := H2.out.2.2.1
  have z5 := H5.out.2.1
  have RC := Lib.hid (wrote_c (t := e.tp) (cap := 2) x6 X.out.2.2.2.2.2.1 (cell_past B6' H5.out.2.2.1) (cell_past B6' H5.out.2.2.2.1) (cell_past B6' H5.out.2.2.2.2)
    (cell_past B6 (row_cell H2.out.2.2.2 rfl)) y6 (fun k hk => ⟨by omega, by omega⟩) (by have := H1.out.2.2; omega)
    ⟨by omega, by omega⟩ ⟨by omega, by omega⟩ ⟨by omega, by omega⟩ ⟨X.out.1.ne.1, X.out.1.ne.2.1⟩ ⟨by omega, by omega⟩ r6)
  have H6 := Lib.hid (And.intro B6 lp)
  clear x6 y6 r6 B6' z1 z2 z5 lp hW6
  refine hK _ _ (wpList_nil ⟨rfl, fun _ => ⟨⟨_, B6⟩, rfl⟩, ?_⟩)
  clear hK K
  clear B6
  refine wpAnyI_one 14 1 _ _ rfl (by kernel_rfl) ?_
  refine wpList_plain rfl fun K hK => ?_
  go_simp
  go_at_call 71
  refine RC.out.mono ?_
  rintro e' w7 ⟨rfl, m7, x7⟩
  have L := Lib.hid (And.intro m7 x7)
  clear m7 x7
  refine hK _ _ (wpList_nil ⟨rfl, fun h => absurd (by decide) h, ?_⟩)
  clear hK K
  refine wpAnyI_pure [15] 0 _ (by kernel_rfl) ?_
  simp only [List.filterMap_cons, List.filterMap_nil, List.getElem?_toArray, List.getElem?_cons_succ, List.getElem?_cons_zero]
  repeat (refine wpHoist_step (fun K hK => ?_); simp only [hoists, sameUpon]; go_simp; refine hK _ ?_; clear hK K)
  refine wpHoist_nil ?_
  refine ⟨by kernel_rfl, ?_⟩
  have b6 := H6.out.1
  have s6 := b6.size
  have s2 := H2.out.1.size
  have k2 := H2.out.2.2.2
  have lk2 := lt_of_row k2
  have k7 : w7.heap[pl]? = some (.cells (logC e.tp e.gen (.map (some mr)) e.batches e.fin pd e.gone) tLog (0, 0)) :=
    (L.out.1.block pl (by omega) (fun q => by rcases q with q | q; exact X.out.1.ne.1 q; exact X.out.1.ne.2.1 q)).trans ((b6.block pl lk2).trans k2)
  have mv7 : Moves (PLM pl pd md) w w7 := ((Moves.of_below H2.out.1).trans (Moves.of_below b6) (fun _ _ h => h)).trans (L.out.1.mono fun i hi => Or.inr hi) (fun _ _ h => h)
  have x7 : DiskAt w7.heap pd md (Em.wrote e.d e.tp b).1 (plus F w w7) := wide_disk X.out.1.disk L.out.2 (by omega)
  have npl : ¬ plus F w w7 pl := fun h => by
    rcases h with h | h
    · exact X.out.1.ne.2.2 h
    · omega
  have rM : RowsIn w7 m n D := rows_moved (rows_below (rows_below X.out.2.2.2.2.1 H2.out.1 X.out.2.2.2.2.1.lt) b6 (by have := X.out.2.2.2.2.1.lt; omega)) L.out.1 X.out.2.2.2.2.2.2.1.1 X.out.2.2.2.2.2.2.1.2.1
  have rO : RowsIn w7 mr (Maps.size e.rows) e.rows := rows_moved (rows_below (rows_below X.out.2.2.2.1 H2.out.1 X.out.2.2.2.1.lt) b6 (by have := X.out.2.2.2.1.lt; omega)) L.out.1 X.out.2.2.2.2.2.2.2.1 X.out.2.2.2.2.2.2.2.2.1
  by_cases hz : (Em.wrote e.d e.tp b).2 = 0
  · have H7 := Lib.hid (And.intro k7 (And.intro mv7 (And.intro x7 (And.intro npl rM))))
    have j2 : w7.cell? ⟨pl, 2, none⟩ = some (.map (some mr)) := row_cell k7 rfl
    have j3 : w7.cell? ⟨pl, 3, none⟩ = some (.int .i64 e.batches) := row_cell k7 rfl
    have j4 : w7.cell? ⟨pl, 4, none⟩ = some (.int .i64 e.fin) := row_cell k7 rfl
    have z2 : w7.frozen? ⟨pl, 2, none⟩ = false := row_free k7 _
    have z3 : w7.frozen? ⟨pl, 3, none⟩ = false := row_free k7 _
    have z4 : w7.frozen? ⟨pl, 4, none⟩ = false := row_free k7 _
    have q3 : ∀ x : Wd (AppC w7 pl m), x.world.cell? ⟨pl, 3, none⟩ = some (.int .i64 e.batches) := fun x => appC_cell (j := 3) (by decide) j3 _ x.ok
    have q4 : ∀ x : Wd (AppC w7 pl m), x.world.cell? ⟨pl, 4, none⟩ = some (.int .i64 e.fin) := fun x => appC_cell (j := 4) (by decide) j4 _ x.ok
    have ne7 : Nonempty (Wd (AppC w7 pl m)) := ⟨⟨_, Or.inl rfl⟩⟩
    have g7 : IntKind.i64.wrap ((e.batches : Int) + 1) = ((e.batches + 1 : Nat) : Int) := IntWalk.i64_in _ (by omega)
    have g8 : IntKind.i64.wrap ((e.fin : Int) + vn) = ((e.fin + vn : Nat) : Int) := by rw [g4]; simp
    clear g4 k7 mv7 x7 npl rM rO k2 ne f0 f5 b6 s6 s2 lk2
    rw [hz]
    go_wp2
    refine wp_region_marks [21, 25, 29] (AppJ w7 pl m e.batches) (by kernel_rfl) ?_
    refine wpAnyK_reads (fun _ => True) [0, 1, 2, 3, 4, 5, 6, 7] 22 _ (fun _ _ _ _ => trivial) (marked_of [false, false, false] (by kernel_rfl) rfl) (by kernel_rfl) ?_
    simp only [List.filterMap_cons, List.filterMap_nil, List.getElem?_toArray, List.getElem?_cons_succ, List.getElem?_cons_zero]
    iterate 8 (with_reducible refine wpHoist_step (fun K hK => ?_); simp only [hoists, sameUpon]; go_simp; refine hK _ ?_; clear hK K)
    with_reducible refine wpHoist_nil ?_
    refine wpAnyK_reads (fun w' => ∃ x : Wd (AppC w7 pl m), w' = x.world) [8] 21 _ (one_met fun w hw => ⟨⟨_, (appC_of (b := e.batches) (hw.ahead (t := 25) (by kernel_rfl)))⟩, rfl⟩) (marked_of [false, false, false] (by kernel_rfl) rfl) (by kernel_rfl) ?_
    simp only [List.filterMap_cons, List.filterMap_nil, List.getElem?_toArray, List.getElem?_cons_succ, List.getElem?_cons_zero]
    iterate 1 (with_reducible refine wpHoist_step (fun K hK => ?_); simp only [hoists, sameUpon]; go_simp; refine hK _ ?_; clear hK K)
    with_reducible refine wpHoist_nil ?_
    refine wpAnyK_reads (fun _ => True) [9, 10, 11, 12, 13] 16 _ (fun _ _ _ _ => trivial) (marked_of [false, false, false] (by kernel_rfl) rfl) (by kernel_rfl) ?_
    simp only [List.filterMap_cons, List.filterMap_nil, List.getElem?_toArray, List.getElem?_cons_succ, List.getElem?_cons_zero]
    iterate 5 (with_reducible refine wpHoist_step (fun K hK => ?_); simp only [hoists, sameUpon]; go_simp; refine hK _ ?_; clear hK K)
    with_reducible refine wpHoist_nil ?_
    refine wpAnyK_reads (fun w' => ∃ x : Wd (AppC w7 pl m), w' = x.world) [14] 15 _ (one_met fun w hw => ⟨⟨_, (appC_of (b := e.batches) (hw.ahead (t := 25) (by kernel_rfl)))⟩, rfl⟩) (marked_of [false, false, false] (by kernel_rfl) rfl) (by kernel_rfl) ?_
    simp only [List.filterMap_cons, List.filterMap_nil, List.getElem?_toArray, List.getElem?_cons_succ, List.getElem?_cons_zero]
    iterate 1 (with_reducible refine wpHoist_step (fun K hK => ?_); simp only [hoists, sameUpon]; go_simp; refine hK _ ?_; clear hK K)
    with_reducible refine wpHoist_nil ?_
    refine wpAnyK_reads (fun _ => True) [15, 16, 17, 18, 19, 20] 9 _ (fun _ _ _ _ => trivial) (marked_of [false, false, false] (by kernel_rfl) rfl) (by kernel_rfl) ?_
    simp only [List.filterMap_cons, List.filterMap_nil, List.getElem?_toArray, List.getElem?_cons_succ, List.getElem?_cons_zero]
    iterate 6 (with_reducible refine wpHoist_step (fun K hK => ?_); simp only [hoists, sameUpon]; go_simp; refine hK _ ?_; clear hK K)
    with_reducible refine wpHoist_nil ?_
    refine wpAnyK_one 21 8 _ _ rfl (by kernel_rfl) ?_
    refine wpList_plain rfl fun K hK => ?_
    go_simp
    refine hK _ _ (wpList_nil ⟨rfl, marked_of [true, false, false] (by kernel_rfl) rfl, ?_⟩)
    clear hK K
    refine wpAnyK_reads (fun _ => True) [22, 23, 24] 5 _ (fun _ _ _ _ => trivial) (marked_of [true, false, false] (by kernel_rfl) rfl) (by kernel_rfl) ?_
    simp only [List.filterMap_cons, List.filterMap_nil, List.getElem?_toArray, List.getElem?_cons_succ, List.getElem?_cons_zero]
    iterate 3 (with_reducible refine wpHoist_step (fun K hK => ?_); simp only [hoists, sameUpon]; go_simp; refine hK _ ?_; clear hK K)
    with_reducible refine wpHoist_nil ?_
    refine wpAnyK_one 25 4 _ _ rfl (by kernel_rfl) ?_
    refine wpList_plain rfl fun K hK => ?_
    go_simp
    refine hK _ _ (wpList_nil ⟨rfl, marked_of [true, true, false] (by kernel_rfl) rfl, ?_⟩)
    clear hK K
    refine wpAnyK_reads (fun _ => True) [26, 27, 28] 1 _ (fun _ _ _ _ => trivial) (marked_of [true, true, false] (by kernel_rfl) rfl) (by kernel_rfl) ?_
    simp only [List.filterMap_cons, List.filterMap_nil, List.getElem?_toArray, List.getElem?_cons_succ, List.getElem?_cons_zero]
    iterate 3 (with_reducible refine wpHoist_step (fun K hK => ?_); simp only [hoists, sameUpon]; go_simp; refine hK _ ?_; clear hK K)
    with_reducible refine wpHoist_nil ?_
    refine wpAnyK_one 29 0 _ _ rfl (by kernel_rfl) ?_
    refine wpList_plain rfl fun K hK => ?_
    go_simp
    refine hK _ _ (wpList_nil ⟨rfl, marked_of [true, true, true] (by kernel_rfl) trivial, by kernel_rfl, ?_⟩)
    clear hK K
    go_wp2
    go_ret
    rw [HP.out]
    have hg := X.out.2.1
    rw [HP.out] at hg
    simp only [hz, if_true] at hg ⊢
    obtain ⟨k7, mv7, x7, npl, rM⟩ := H7.out
    have mv8 := setCell3_moves w7 pl (.map (some m)) (.int .i64 ((e.batches : Int) + 1)) (.int .i64 ((e.fin : Int) + vn))
    have k8 := setCell3_row k7 (.map (some m)) (e.batches + 1) (e.fin + vn)
    simp only [Int.natCast_add, Int.cast_ofNat_Int] at k8
    generalize hW8 : (((w7.setCell ⟨pl, 2, none⟩ (.map (some m))).setCell ⟨pl, 3, none⟩ (.int .i64 ((e.batches : Int) + 1))).setCell ⟨pl, 4, none⟩ (.int .i64 ((e.fin : Int) + vn))).drew = W8 at *
    have k8 : W8.heap[pl]? = some (.cells (logC e.tp e.gen (.map (some m)) (e.batches + 1) (e.fin + vn) pd e.gone) tLog (0, 0)) := by rw [← hW8]; exact k8
    obtain ⟨⟨n1, n2, n3⟩, _⟩ := X.out.2.2.2.2.2.2
    have s8 := mv8.size
    refine ⟨rfl, mv7.trans mv8 (fun i _ hi => Or.inl hi), ⟨hg, ?_, ⟨m, k8, rows_fit (rows_off rM mv8 n3), n1, n2, n3⟩, X.out.1.ne.1, X.out.1.ne.2.1, ?_⟩⟩
    · refine wide_disk' X.out.1.disk (x7.off mv8 X.out.1.ne.1 X.out.1.ne.2.1 npl) s8
    · intro h
      rcases h with h | h
      · exact X.out.1.ne.2.2 h
      · omega
  · have H7 := Lib.hid (And.intro k7 (And.intro mv7 (And.intro x7 (And.intro npl rO))))
    clear g4 k7 mv7 x7 npl rM rO k2 ne f0 f5 b6 s6 s2 lk2
    go_wp2
    go_ret
    rw [HP.out]
    have hg := X.out.2.1
    rw [HP.out] at hg
    simp only [hz, if_false] at hg ⊢
    obtain ⟨k7, mv7, x7, npl, rO⟩ := H7.out
    refine ⟨rfl, mv7, ⟨hg, x7, ⟨mr, k7, rO, X.out.2.2.2.2.2.2.2⟩, X.out.1.ne.1, X.out.1.ne.2.1, npl⟩⟩

end Go.Proofs.YtgffifleflkjoaaGreat

namespace Go.Proofs.YtgffifleflkjoaaGreat
open Go.RowKit Dm

set_option maxRecDepth 100000 in
set_option maxHeartbeats 2000000 in
theorem fold_full_c {w : World} {pl pd : Nat} {tp gen batches fin : Nat} {rows rv : Value} {gone : Bool} (hrow : w.heap[pl]? = some (.cells (logC tp gen rows batches fin pd gone) tLog (0, 0))) (h : 2147483647 ≤ gen) :
    Calls Tryz.prog 39 #[.pointer (some ⟨pl, 0, none⟩), rv] w fun e w' => e = .returned (.int .i64 280) ∧ w = w' := by
  have f1 : w.cell? ⟨pl, 1, none⟩ = some (.int .i64 gen) := row_cell hrow rfl
  have g1 : decide ((2147483647 : Int) ≤ gen) = true := by simp; omega
  clear hrow
  go_enter Tryz.func39, Tryz.ntmps39
  go_wp2
  go_ret
  exact ⟨rfl, rfl⟩

set_option maxRecDepth 100000 in
set_option maxHeartbeats 4000000 in
theorem fold_live_c {w : World} {pl pd md m n : Nat} {e : Em.E} {F : Nat → Prop} {D : Em.Rows}
    (x : LogAt w pl pd md e F) (hw : e.d.waits.length ≤ 900000000) (hm : RowsIn w m n D) (hD : Em.RowsOk D) (hs : Maps.size D ≤ 256) (n1 : m ≠ pd) (n2 : m ≠ md) (n3 : m ≠ pl)
    (hlive : ¬ 2147483647 ≤ e.gen) :
    Calls Tryz.prog 39 #[.pointer (some ⟨pl, 0, none⟩), .map (some m)] w (LogLeft w pl pd md F (e.fold D)) := by
  have FC := Lib.hid (fun W (hb : Below w.heap.size w W) => folded_c (w := W) (v := .map (some m)) (D := D) (gen := e.gen + 1) (Or.inr ⟨m, _, rfl, rows_fit (rows_below hm hb hm.lt)⟩) hD hs (by omega))
  have fl := Em.folded_len (D := D) (e.gen + 1) hs
  have hg := Em.fold_good x.good hD hs
  obtain ⟨mr, row, hrows, m1, m2, m3⟩ := x.row
  have lpl := lt_of_row row
  have hF := x.good.fin
  have hT := x.good.tp
  have HP := Lib.hid (Em.fold_live (D := D) hlive)
  have X := Lib.hid (And.intro x (And.intro hg (And.intro row (And.intro hrows (And.intro hm (And.intro hw (And.intro (And.intro n1 (And.intro n2 n3)) (And.intro m1 (And.intro m2 m3)))))))))
  have f1 : w.cell? ⟨pl, 1, none⟩ = some (.int .i64 e.gen) := row_cell row rfl
  have g1 : decide ((2147483647 : Int) ≤ e.gen) = false := by simp; omega
  have q0 : ∀ x : Wd (Below w.heap.size w), x.world.cell? ⟨pl, 0, none⟩ = some (.int .i64 e.tp) := fun x => (x.ok.cell (p := ⟨pl, 0, none⟩) lpl).trans (row_cell row rfl)
  have q1 : ∀ x : Wd (Below w.heap.size w), x.world.cell? ⟨pl, 1, none⟩ = some (.int .i64 e.gen) := fun x => (x.ok.cell (p := ⟨pl, 1, none⟩) lpl).trans (row_cell row rfl)
  clear x hg row hrows hm hw n1 n2 n3 m1 m2 m3
  generalize hb : Em.folded (e.gen + 1) D = b at *
  have a1 : IntKind.i64.wrap ((e.gen : Int) + 1) = ((e.gen + 1 : Nat) : Int) := IntWalk.i64_in _ (by omega)
  have a0 : IntKind.i64.wrap (1 - (e.tp : Int)) = ((1 - e.tp : Nat) : Int) := by rw [IntWalk.i64_in _ (by omega)]; omega
  have ne0 : Nonempty (Wd (Below w.heap.size w)) := ⟨⟨_, Below.refl _ _⟩⟩
  go_enter Tryz.func39, Tryz.ntmps39
  go_wp2
  refine wp_region_hoist (fun w' => ∃ x : Wd (Below w.heap.size w), w' = x.world) [14, 15] (by kernel_rfl) ?_
  refine wpAnyI_reads [0, 1, 2, 3, 4, 5, 6, 7, 8, 9, 10, 11, 12] 3 _ ⟨⟨_, (Below.refl _ _).drew⟩, rfl⟩ (by kernel_rfl) ?_
  simp only [List.filterMap_cons, List.filterMap_nil, List.getElem?_toArray, List.getElem?_cons_succ, List.getElem?_cons_zero]
  repeat (refine wpHoist_step (fun K hK => ?_); simp only [hoists, sameUpon]; go_simp; refine hK _ ?_; clear hK K)
  refine wpHoist_nil ?_
  refine wpAnyI_one 13 2 _ _ rfl (by kernel_rfl) ?_
  refine wpList_plain rfl fun K hK => ?_
  go_simp
  go_at_call 70
  refine (FC.out _ (Below.refl _ _).drew).mono ?_
  rintro e' w1 ⟨v1, rfl, o1, b1⟩
  obtain ⟨va, vn, vc, rfl⟩ := o1.at.slice3
  have hvn : vn = b.length := by obtain ⟨a, c, q⟩ := o1.at.slice; injection q with _ q2 _
  have B1 : Below w.heap.size w w1 := ⟨b1.os, b1.tape, b1.output, b1.size, b1.block⟩
  have y1 : BytesAt w1.heap (fun k => w.heap.size ≤ k ∧ k < w1.heap.size) (.slice va vn vc) b := o1.at.keeps (fun k _ _ => rfl) (fun k hk hl => ⟨hk, hl⟩)
  have H1 := Lib.hid (And.intro B1 (And.intro y1 hvn))
  clear o1 b1 y1 hvn
  refine hK _ _ (wpList_nil ⟨rfl, fun _ => ⟨⟨_, B1⟩, rfl⟩, ?_⟩)
  clear hK K
  refine wpAnyI_pure [14, 15] 0 _ (by kernel_rfl) ?_
  simp only [List.filterMap_cons, List.filterMap_nil, List.getElem?_toArray, List.getElem?_cons_succ, List.getElem?_cons_zero]
  repeat (refine wpHoist_step (fun K hK => ?_); simp only [hoists, sameUpon]; go_simp; refine hK _ ?_; clear hK K)
  refine wpHoist_nil ?_
  refine ⟨by kernel_rfl, ?_⟩
  clear ne0 q0 q1 f1 g1
  have k2 := (B1.block pl lpl).trans X.out.2.2.1
  have f5 : ∀ x : Wd (Below w1.heap.size w1), x.world.cell? ⟨pl, 5, none⟩ = some (.pointer (some ⟨pd, 0, none⟩)) := fun x => (x.ok.cell (p := ⟨pl, 5, none⟩) (lt_of_row k2)).trans (row_cell k2 rfl)
  have H2 := Lib.hid k2
  clear B1 k2
  have ne : Nonempty (Wd (Below w1.heap.size w1)) := ⟨⟨_, Below.refl _ _⟩⟩
  have hmf : ∀ (fn : Fn) (first cap : Array Value) (w : World), (Instr.makeFunc fn first cap).run Tryz.prog w = .ok (.func fn first cap) w := fun _ _ _ _ => rfl
  go_wp2
  refine wp_region_hoist (fun w' => ∃ x : Wd (Below w1.heap.size w1), w' = x.world) [13, 14] (by kernel_rfl) ?_
  refine wpAnyI_reads [0, 1, 3, 4, 5, 7, 8, 9, 10, 11] 5 _ ⟨⟨_, (Below.refl _ _).drew⟩, rfl⟩ (by kernel_rfl) ?_
  simp only [List.filterMap_cons, List.filterMap_nil, List.getElem?_toArray, List.getElem?_cons_succ, List.getElem?_cons_zero]
  repeat (refine wpHoist_step (fun K hK => ?_); simp only [hoists, sameUpon]; go_simp; refine hK _ ?_; clear hK K)
  refine wpHoist_nil ?_
  refine wpAnyI_one 2 4 _ _ rfl (by kernel_rfl) ?_
  refine wpList_plain rfl fun K hK => ?_
  go_simp
  go_at_call 72
  refine (empty_c pl (1 - e.tp) w1.drew).mono ?_
  rintro e' w4 ⟨rfl, e4⟩
  have B4 : Below w1.heap.size w1 w4 := by rw [← e4]; exact ((Below.refl _ _).drew.alloc (Nat.le_refl _) _).alloc (by simp) _
  have z4 : w4.heap.size = w1.heap.size + 2 := by rw [← e4]; simp
  have a1' : w4.cell? ⟨w1.heap.size, 0, none⟩ = some (.pointer (some ⟨pl, 0, none⟩)) := by rw [← e4]; exact row_cell (heap_past (by simp) (heap_alloc_last w1.drew _)) rfl
  have a2' : w4.cell? ⟨w1.heap.size + 1, 0, none⟩ = some (.int .i64 ((1 - e.tp : Nat) : Int)) := by rw [← e4]; exact row_cell (heap_at (w := w1.drew.alloc _) _ (by simp)) rfl
  have H4 := Lib.hid (And.intro B4 (And.intro z4 (And.intro a1' a2')))
  clear e4 a1' a2'
  refine hK _ _ (wpList_nil ⟨rfl, fun _ => ⟨⟨_, B4⟩, rfl⟩, ?_⟩)
  clear hK K
  clear B4 z4
  refine wpAnyI_one 6 3 _ _ rfl (by kernel_rfl) ?_
  refine wpList_plain rfl fun K hK => ?_
  go_simp
  go_at_call 73
  refine (put_c pl (1 - e.tp) va vn vc w4).mono ?_
  rintro e' w5 ⟨rfl, e5⟩
  have B5' : Below w4.heap.size w4 w5 := by rw [← e5]; exact (((Below.refl _ _).alloc (Nat.le_refl _) _).alloc (by simp) _).alloc (by simp; omega) _
  have B5 : Below w1.heap.size w1 w5 := H4.out.1.trans (B5'.mono H4.out.1.size)
  have z5 : w5.heap.size = w4.heap.size + 3 := by rw [← e5]; simp
  have p1 : w5.cell? ⟨w4.heap.size, 0, none⟩ = some (.pointer (some ⟨pl, 0, none⟩)) := by rw [← e5]; exact row_cell (heap_past (by simp; omega) (heap_past (by simp) (heap_alloc_last w4 _))) rfl
  have p2 : w5.cell? ⟨w4.heap.size + 1, 0, none⟩ = some (.int .i64 ((1 - e.tp : Nat) : Int)) := by rw [← e5]; exact row_cell (heap_past (by simp) (heap_at (w := w4.alloc _) _ (by simp))) rfl
  have p3 : w5.cell? ⟨w4.heap.size + 1 + 1, 0, none⟩ = some (.slice va vn vc) := by rw [← e5]; exact row_cell (heap_at (w := (w4.alloc _).alloc _) _ (by simp)) rfl
  have H5 := Lib.hid (And.intro B5' (And.intro B5 (And.intro z5 (And.intro p1 (And.intro p2 p3)))))
  clear e5 p1 p2 p3 B5'
  refine hK _ _ (wpList_nil ⟨rfl, fun _ => ⟨⟨_, B5⟩, rfl⟩, ?_⟩)
  clear hK K
  clear B5 z5
  refine wpAnyI_one 12 2 _ _ rfl (by kernel_rfl) ?_
  refine wpList_plain rfl fun K hK => ?_
  go_simp
  obtain ⟨W6, hW6⟩ : ∃ W, w5.alloc (.cells #[.func (.func 120) #[] #[.pointer (some ⟨w1.heap.size, 0, none⟩), .pointer (some ⟨w1.heap.size + 1, 0, none⟩)],
      .func (.func 121) #[] #[.pointer (some ⟨w4.heap.size, 0, none⟩), .pointer (some ⟨w4.heap.size + 1, 0, none⟩), .pointer (some ⟨w4.heap.size + 1 + 1, 0, none⟩)], .func (.func 60) #[.pointer (some ⟨pd, 0, none⟩)] #[]] tSteps) = W := ⟨_, rfl⟩
  have r6 := heap_alloc_last w5 (.cells #[.func (.func 120) #[] #[.pointer (some ⟨w1.heap.size, 0, none⟩), .pointer (some ⟨w1.heap.size + 1, 0, none⟩)],
      .func (.func 121) #[] #[.pointer (some ⟨w4.heap.size, 0, none⟩), .pointer (some ⟨w4.heap.size + 1, 0, none⟩), .pointer (some ⟨w4.heap.size + 1 + 1, 0, none⟩)], .func (.func 60) #[.pointer (some ⟨pd, 0, none⟩)] #[]] tSteps)
  rw [hW6] at r6
  have B6' : Below w5.heap.size w5 W6 := by rw [← hW6]; exact (Below.refl _ _).alloc (Nat.le_refl _) _
  rw [hW6]
  have B6 : Below w1.heap.size w1 W6 := H5.out.2.1.trans (B6'.mono H5.out.2.1.size)
  have lp := X.out.1.disk.lt
  have x6 := (X.out.1.disk.below H1.out.1).below B6
  have y6 : BytesAt W6.heap (fun k => w.heap.size ≤ k ∧ k < w1.heap.size) (.slice va vn vc) b := H1.out.2.1.keeps (fun k _ hl => B6.block k hl) (fun k hk _ => hk)
  have z1 := H1.out.1.size
  have z4 := H4.out.2.1
  have z5 := H5.out.2.2.1
  have RC := Lib.hid (rewrote_c (t := 1 - e.tp) (cap := 3) x6 X.out.2.2.2.2.2.1 (by omega) (cell_past B6' (cell_past H5.out.1 H4.out.2.2.1)) (cell_past B6' (cell_past H5.out.1 H4.out.2.2.2)) (cell_past B6' H5.out.2.2.2.1) (cell_past B6' H5.out.2.2.2.2.1) (cell_past B6' H5.out.2.2.2.2.2)
    (cell_past B6 (row_cell H2.out rfl)) y6 (fun k hk => ⟨by omega, by omega⟩) (by omega)
    ⟨by omega, by omega⟩ ⟨by omega, by omega⟩ ⟨by omega, by omega⟩ ⟨by omega, by omega⟩ ⟨by omega, by omega⟩ ⟨X.out.1.ne.1, X.out.1.ne.2.1⟩ ⟨by omega, by omega⟩ r6)
  have H6 := Lib.hid (And.intro B6 lp)
  clear x6 y6 r6 B6' z1 z4 z5 lp hW6
  refine hK _ _ (wpList_nil ⟨rfl, fun _ => ⟨⟨_, B6⟩, rfl⟩, ?_⟩)
  clear hK K
  clear B6
  refine wpAnyI_one 13 1 _ _ rfl (by kernel_rfl) ?_
  refine wpList_plain rfl fun K hK => ?_
  go_simp
  go_at_call 71
  refine RC.out.mono ?_
  rintro e' w7 ⟨rfl, m7, x7⟩
  have L := Lib.hid (And.intro m7 x7)
  clear m7 x7
  refine hK _ _ (wpList_nil ⟨rfl, fun h => absurd (by decide) h, ?_⟩)
  clear hK K
  refine wpAnyI_pure [14] 0 _ (by kernel_rfl) ?_
  simp only [List.filterMap_cons, List.filterMap_nil, List.getElem?_toArray, List.getElem?_cons_succ, List.getElem?_cons_zero]
  repeat (refine wpHoist_step (fun K hK => ?_); simp only [hoists, sameUpon]; go_simp; refine hK _ ?_; clear hK K)
  refine wpHoist_nil ?_
  refine ⟨by kernel_rfl, ?_⟩
  have b6 := H6.out.1
  have s6 := b6.size
  have s2 := H1.out.1.size
  have k2 := H2.out
  have lk2 := lt_of_row k2
  have k7 : w7.heap[pl]? = some (.cells (logC e.tp e.gen (.map (some mr)) e.batches e.fin pd e.gone) tLog (0, 0)) :=
    (L.out.1.block pl (by omega) (fun q => by rcases q with q | q; exact X.out.1.ne.1 q; exact X.out.1.ne.2.1 q)).trans ((b6.block pl lk2).trans k2)
  have mv7 : Moves (PLM pl pd md) w w7 := ((Moves.of_below H1.out.1).trans (Moves.of_below b6) (fun _ _ h => h)).trans (L.out.1.mono fun i hi => Or.inr hi) (fun _ _ h => h)
  have x7 : DiskAt w7.heap pd md (Em.rewrote e.d (1 - e.tp) b).1 (plus F w w7) := wide_disk X.out.1.disk L.out.2 (by omega)
  have npl : ¬ plus F w w7 pl := fun h => by
    rcases h with h | h
    · exact X.out.1.ne.2.2 h
    · omega
  have rM : RowsIn w7 m n D := rows_moved (rows_below (rows_below X.out.2.2.2.2.1 H1.out.1 X.out.2.2.2.2.1.lt) b6 (by have := X.out.2.2.2.2.1.lt; omega)) L.out.1 X.out.2.2.2.2.2.2.1.1 X.out.2.2.2.2.2.2.1.2.1
  have rO : RowsIn w7 mr (Maps.size e.rows) e.rows := rows_moved (rows_below (rows_below X.out.2.2.2.1 H1.out.1 X.out.2.2.2.1.lt) b6 (by have := X.out.2.2.2.1.lt; omega)) L.out.1 X.out.2.2.2.2.2.2.2.1 X.out.2.2.2.2.2.2.2.2.1
  have hvn := H1.out.2.2
  by_cases hz : (Em.rewrote e.d (1 - e.tp) b).2 = 0
  · have H7 := Lib.hid (And.intro k7 (And.intro mv7 (And.intro x7 (And.intro npl rM))))
    have f1 : w7.cell? ⟨pl, 1, none⟩ = some (.int .i64 e.gen) := row_cell k7 rfl
    clear mv7 x7 npl rM rO k2 ne f5 b6 s6 s2 lk2
    rw [hz]
    go_wp2_with (
      refine wpList_store_midA rfl tTape (.tmp 57) (.tmp 55) rfl pl 0 #[.int .i64 ((1 - e.tp : Nat) : Int), .int .i64 ((e.gen : Int) + 1), .map (some m), .int .i64 0, .int .i64 b.length] rfl rfl tLog _ k7 infoTape (by simp) (tape_one _ _ _ _ _) ?_
      intro W8 HW8 HM8 HS8)
    go_ret
    rw [HP.out]
    have hg := X.out.2.1
    rw [HP.out] at hg
    simp only [hz, if_true] at hg ⊢
    obtain ⟨k7, mv7, x7, npl, rM⟩ := H7.out
    obtain ⟨⟨n1, n2, n3⟩, _⟩ := X.out.2.2.2.2.2.2
    have s8 := HM8.size
    refine ⟨rfl, mv7.trans HM8 (fun i _ hi => Or.inl hi), ⟨hg, ?_, ⟨m, HW8.out, rows_fit (rows_off rM HM8 n3), n1, n2, n3⟩, X.out.1.ne.1, X.out.1.ne.2.1, ?_⟩⟩
    · refine wide_disk' X.out.1.disk (x7.off HM8 X.out.1.ne.1 X.out.1.ne.2.1 npl) s8
    · intro h
      rcases h with h | h
      · exact X.out.1.ne.2.2 h
      · omega
  · have H7 := Lib.hid (And.intro k7 (And.intro mv7 (And.intro x7 (And.intro npl rO))))
    clear k7 mv7 x7 npl rM rO k2 ne f5 b6 s6 s2 lk2
    go_wp2
    go_ret
    rw [HP.out]
    have hg := X.out.2.1
    rw [HP.out] at hg
    simp only [hz, if_false] at hg ⊢
    obtain ⟨k7, mv7, x7, npl, rO⟩ := H7.out
    exact ⟨rfl, mv7, ⟨hg, x7, ⟨mr, k7, rO, X.out.2.2.2.2.2.2.2⟩, X.out.1.ne.1, X.out.1.ne.2.1, npl⟩⟩

end Go.Proofs.YtgffifleflkjoaaGreat
