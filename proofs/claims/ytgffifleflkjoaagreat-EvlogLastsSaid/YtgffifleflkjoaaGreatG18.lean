/-
  evlog: an engine in memory; one begins.
  A region that draws its order, with stores that do not wait for all that is read: what holds hangs on which of the stores are done.
-/
import Derived.Test.YtgffifleflkjoaaGreatG11
import Derived.Test.YtgffifleflkjoaaGreatG16
import Derived.Test.YtgffifleflkjoaaGreatG17

namespace Go.Proofs.YtgffifleflkjoaaGreat
open Go.RowKit Dm

abbrev tLog : Nat := 70
abbrev tSteps : Nat := 100
abbrev tTape : Nat := 68

/-- The cells of an engine. -/
abbrev logC (tp gen : Nat) (rows : Value) (batches fin : Nat) (pd : Nat) (gone : Bool) : Array Value := #[.int .i64 tp, .int .i64 gen, rows, .int .i64 batches, .int .i64 fin, .pointer (some ⟨pd, 0, none⟩), .bool gone]

structure LogAt (w : World) (pl pd md : Nat) (e : Em.E) (F : Nat → Prop) : Prop where
  good : e.good
  disk : DiskAt w.heap pd md e.d F
  row : ∃ m, w.heap[pl]? = some (.cells (logC e.tp e.gen (.map (some m)) e.batches e.fin pd e.gone) tLog (0, 0)) ∧ RowsIn w m (Maps.size e.rows) e.rows ∧ m ≠ pd ∧ m ≠ md ∧ m ≠ pl
  ne : pl ≠ pd ∧ pl ≠ md ∧ ¬ F pl

abbrev PLM (pl pd md : Nat) : Nat → Prop := fun k => k = pl ∨ k = pd ∨ k = md

/-- A call on an engine. -/
def LogLeft (w : World) (pl pd md : Nat) (F : Nat → Prop) (r : Em.E × Int) (e : Ending) (w' : World) : Prop :=
  e = .returned (.int .i64 r.2) ∧ Moves (PLM pl pd md) w w' ∧ LogAt w' pl pd md r.1 (plus F w w')

theorem DiskAt.off {w W : World} {pl pd md : Nat} {d : D} {F : Nat → Prop} (x : DiskAt w.heap pd md d F) (hm : Moves (fun k => k = pl) w W) (h1 : pl ≠ pd) (h2 : pl ≠ md) (h3 : ¬ F pl) : DiskAt W.heap pd md d F := by
  obtain ⟨l1, l2, _, _, _⟩ := x.lt
  exact x.keeps (hm.block pd l1 (fun e => h1 e.symm)) (hm.block md l2 (fun e => h2 e.symm)) (fun k hk hl => hm.block k hl (fun e => h3 (e ▸ hk))) (fun _ h _ => h) (fun _ h => Or.inl h)

theorem cell_past {w w' : World} {a : Addr} {v : Value} (hb : Below w.heap.size w w') (h : w.cell? a = some v) : w'.cell? a = some v := (hb.cell (p := a) (block_lt_of_cell h)).trans h

theorem wide_disk {w W w' : World} {pd md : Nat} {d d' : D} {F : Nat → Prop} (x : DiskAt w.heap pd md d F) (y : DiskAt w'.heap pd md d' (plus F W w')) (hs : w.heap.size ≤ W.heap.size) : DiskAt w'.heap pd md d' (plus F w w') := by
  obtain ⟨l1, l2, l3, l4, l5⟩ := x.lt
  refine y.weak (fun k hk hl => ?_) ?_ ?_
  · rcases hk with hk | hk
    · exact Or.inl hk
    · exact Or.inr ⟨by omega, hl⟩
  · intro h
    rcases h with h | h
    · exact l4 h
    · omega
  · intro h
    rcases h with h | h
    · exact l5 h
    · omega

theorem wide_disk' {w W w' : World} {pd md : Nat} {d d' : D} {F : Nat → Prop} (x : DiskAt w.heap pd md d F) (y : DiskAt w'.heap pd md d' (plus F w W)) (hs : W.heap.size ≤ w'.heap.size) : DiskAt w'.heap pd md d' (plus F w w') := by
  obtain ⟨l1, l2, l3, l4, l5⟩ := x.lt
  refine y.weak (fun k hk hl => ?_) ?_ ?_
  · rcases hk with hk | hk
    · exact Or.inl hk
    · exact Or.inr ⟨hk.1, hl⟩
  · intro h
    rcases h with h | h
    · exact l4 h
    · omega
  · intro h
    rcases h with h | h
    · exact l5 h
    · omega

theorem rows_off {w W : World} {pl m n : Nat} {D : Em.Rows} (h : RowsIn w m n D) (hm : Moves (fun k => k = pl) w W) (h1 : m ≠ pl) : RowsIn W m n D := by
  have lt := h.lt
  obtain ⟨es, clock, k1, F, hs, hD⟩ := h
  exact ⟨es, clock, (hm.block m lt h1).trans k1, F, hs, hD⟩

theorem there_row {w : World} {g : Nat} {c : Array Value} {t : TypeId} (h : w.heap[g]? = some (.cells c t (0, 0))) (o n : Nat) (hn : o + n ≤ c.size) : w.there g o n := fun j hj =>
  ⟨by rw [cell_of_row _ _ _ _ _ _ h, Array.getElem?_eq_getElem (by omega)]; rfl, row_free h _⟩

theorem rows_moved {w W : World} {pd md m n : Nat} {D : Em.Rows} (h : RowsIn w m n D) (hm : Moves (PM pd md) w W) (h1 : m ≠ pd) (h2 : m ≠ md) : RowsIn W m n D := by
  have lt := h.lt
  obtain ⟨es, clock, k1, F, hs, hD⟩ := h
  exact ⟨es, clock, (hm.block m lt (fun e => by rcases e with e | e; exact h1 e; exact h2 e)).trans k1, F, hs, hD⟩

theorem infoTape : (Tryz.prog.info? tTape).map (·.size) = some 5 := by kernel_rfl

theorem tape_one (a b c d : Int) (m : Nat) : (#[Value.int .i64 a, .int .i64 b, .map (some m), .int .i64 c, .int .i64 d] : Array Value).all (·.oneCell') = true := by simp [Value.oneCell']

set_option maxRecDepth 100000 in
set_option maxHeartbeats 4000000 in
theorem begin_c {w : World} {pl pd md : Nat} {d : D} {F : Nat → Prop} {t0 t1 t2 t3 t4 : Value} (x : DiskAt w.heap pd md d F) (hw : d.waits.length ≤ 900000000) (hr : w.heap[pl]? = some (.cells #[t0, t1, t2, t3, t4, .pointer (some ⟨pd, 0, none⟩), .bool false] tLog (0, 0)))
    (h1 : pl ≠ pd) (h2 : pl ≠ md) (h3 : ¬ F pl) : Calls Tryz.prog 34 #[.pointer (some ⟨pl, 0, none⟩)] w (LogLeft w pl pd md F (Em.begun d)) := by
  have FC := Lib.hid (folded_c (w := w) (v := .map none) (D := .map []) (gen := 1) (Or.inl ⟨rfl, rfl⟩) Em.rowsOk_none (by decide) (by decide))
  have X := Lib.hid (And.intro x (And.intro hr (And.intro hw (And.intro h1 (And.intro h2 h3)))))
  clear x hr hw h1 h2 h3
  have hmm := @run_makeMap Tryz.prog
  have hmf : ∀ (fn : Fn) (first cap : Array Value) (w : World), (Instr.makeFunc fn first cap).run Tryz.prog w = .ok (.func fn first cap) w := fun _ _ _ _ => rfl
  go_enter Tryz.func34, Tryz.ntmps34
  go_wp2_with (first
    | (go_at_call 70; refine FC.out.mono ?_; rintro e w1 ⟨v1, rfl, o1, b1⟩
       obtain ⟨va, vc, rfl⟩ := o1.at.slice
       have H1 := Lib.hid (And.intro o1 b1)
       clear o1 b1)
    | (refine wpList_store_midA rfl tTape (.tmp 11) (.tmp 9) rfl pl 0 #[.int .i64 0, .int .i64 1, .map (some w1.heap.size), .int .i64 0, .int .i64 (Em.folded 1 (.map [])).length] rfl rfl tLog _ ((((H1.out.2).alloc H1.out.2.size _).block pl (lt_of_row X.out.2.1)).trans X.out.2.1) infoTape (by simp) (tape_one _ _ _ _ _) ?_
       intro W3 HW3 HM3 HS3))
  have hW3 : W3.heap[pl]? = some (.cells (logC 0 1 (.map (some w1.heap.size)) 0 (Em.folded 1 (.map [])).length pd false) tLog (0, 0)) := HW3.out
  have B2 : Below w.heap.size w (w1.alloc (.map #[] 0)) := H1.out.2.alloc H1.out.2.size _
  have lpl := lt_of_row X.out.2.1
  have x2 := X.out.1.below B2
  have x3 := x2.off HM3 X.out.2.2.2.1 X.out.2.2.2.2.1 X.out.2.2.2.2.2
  have r3 : RowsIn W3 w1.heap.size 0 (.map []) := by
    obtain ⟨es, clock, k1, kr⟩ := World.ownsMap_made (H := Unit) w1 Tryz.prog tStr (plainElem Tryz.prog tStr)
    exact ⟨es, clock, (HM3.block w1.heap.size (by simp) (by have := H1.out.2.size; omega)).trans k1, kr⟩
  have y3 : BytesAt W3.heap (fun k => w.heap.size ≤ k ∧ k < w1.heap.size) (.slice va (Em.folded 1 (.map [])).length vc) (Em.folded 1 (.map [])) := by
    refine H1.out.1.at.keeps (fun k hk hl => (HM3.block k (by simp; omega) (fun e => by omega)).trans (Below.heap_alloc _ _ _ hl)) (fun k hk hl => ⟨hk, hl⟩)
  have s3 : W3.heap.size = w1.heap.size + 1 := by rw [HS3]; simp
  have b3 : Moves (fun k => k = pl) w W3 := Moves.trans (Moves.of_below B2) HM3 (fun _ _ h => h)
  have z1 := H1.out.2.size
  have H3 := Lib.hid (And.intro hW3 (And.intro x3 (And.intro r3 (And.intro y3 (And.intro s3 b3)))))
  have f5 : ∀ x : Wd (Below W3.heap.size W3), x.world.cell? ⟨pl, 5, none⟩ = some (.pointer (some ⟨pd, 0, none⟩)) := fun x => (x.ok.cell (p := ⟨pl, 5, none⟩) (lt_of_row hW3)).trans (row_cell hW3 rfl)
  clear hW3 HM3 HS3 B2 x2 x3 r3 y3 b3 HW3 s3
  have ne : Nonempty (Wd (Below W3.heap.size W3)) := ⟨⟨_, Below.refl _ _⟩⟩
  clear hmm
  go_wp2
  refine wp_region_hoist (fun w' => ∃ x : Wd (Below W3.heap.size W3), w' = x.world) [11, 12] (by kernel_rfl) ?_
  refine wpAnyI_reads [0, 2, 3, 5, 6, 7, 8, 9] 5 _ ⟨⟨_, (Below.refl _ _).drew⟩, rfl⟩ (by kernel_rfl) ?_
  simp only [List.filterMap_cons, List.filterMap_nil, List.getElem?_toArray, List.getElem?_cons_succ, List.getElem?_cons_zero]
  repeat (refine wpHoist_step (fun K hK => ?_); simp only [hoists, sameUpon]; go_simp; refine hK _ ?_; clear hK K)
  refine wpHoist_nil ?_
  refine wpAnyI_one 1 4 _ _ rfl (by kernel_rfl) ?_
  refine wpList_plain rfl fun K hK => ?_
  go_simp
  go_at_call 72
  refine (empty_c pl 0 W3.drew).mono ?_
  rintro e w4 ⟨rfl, e4⟩
  have B4 : Below W3.heap.size W3 w4 := by rw [← e4]; exact ((Below.refl _ _).drew.alloc (Nat.le_refl _) _).alloc (by simp) _
  have z4 : w4.heap.size = W3.heap.size + 2 := by rw [← e4]; simp
  have a1 : w4.cell? ⟨W3.heap.size, 0, none⟩ = some (.pointer (some ⟨pl, 0, none⟩)) := by rw [← e4]; exact row_cell (heap_past (by simp) (heap_alloc_last W3.drew _)) rfl
  have a2 : w4.cell? ⟨W3.heap.size + 1, 0, none⟩ = some (.int .i64 0) := by rw [← e4]; exact row_cell (heap_at (w := W3.drew.alloc _) _ (by simp)) rfl
  have H4 := Lib.hid (And.intro B4 (And.intro z4 (And.intro a1 a2)))
  clear e4 a1 a2
  refine hK _ _ (wpList_nil ⟨rfl, fun _ => ⟨⟨_, B4⟩, rfl⟩, ?_⟩)
  clear hK K
  clear B4 z4
  refine wpAnyI_one 4 3 _ _ rfl (by kernel_rfl) ?_
  refine wpList_plain rfl fun K hK => ?_
  go_simp
  go_at_call 73
  refine (put_c pl 0 va _ vc w4).mono ?_
  rintro e w5 ⟨rfl, e5⟩
  have B5' : Below w4.heap.size w4 w5 := by rw [← e5]; exact (((Below.refl _ _).alloc (Nat.le_refl _) _).alloc (by simp) _).alloc (by simp; omega) _
  have B5 : Below W3.heap.size W3 w5 := H4.out.1.trans (B5'.mono H4.out.1.size)
  have z5 : w5.heap.size = w4.heap.size + 3 := by rw [← e5]; simp
  have p1 : w5.cell? ⟨w4.heap.size, 0, none⟩ = some (.pointer (some ⟨pl, 0, none⟩)) := by rw [← e5]; exact row_cell (heap_past (by simp; omega) (heap_past (by simp) (heap_alloc_last w4 _))) rfl
  have p2 : w5.cell? ⟨w4.heap.size + 1, 0, none⟩ = some (.int .i64 0) := by rw [← e5]; exact row_cell (heap_past (by simp) (heap_at (w := w4.alloc _) _ (by simp))) rfl
  have p3 : w5.cell? ⟨w4.heap.size + 1 + 1, 0, none⟩ = some (.slice va (Em.folded 1 (.map [])).length vc) := by rw [← e5]; exact row_cell (heap_at (w := (w4.alloc _).alloc _) _ (by simp)) rfl
  have H5 := Lib.hid (And.intro B5' (And.intro B5 (And.intro z5 (And.intro p1 (And.intro p2 p3)))))
  clear e5 p1 p2 p3 B5'
  refine hK _ _ (wpList_nil ⟨rfl, fun _ => ⟨⟨_, B5⟩, rfl⟩, ?_⟩)
  clear hK K
  clear B5 z5
  refine wpAnyI_one 10 2 _ _ rfl (by kernel_rfl) ?_
  refine wpList_plain rfl fun K hK => ?_
  go_simp
  obtain ⟨W6, hW6⟩ : ∃ W, w5.alloc (.cells #[.func (.func 120) #[] #[.pointer (some ⟨W3.heap.size, 0, none⟩), .pointer (some ⟨W3.heap.size + 1, 0, none⟩)],
      .func (.func 121) #[] #[.pointer (some ⟨w4.heap.size, 0, none⟩), .pointer (some ⟨w4.heap.size + 1, 0, none⟩), .pointer (some ⟨w4.heap.size + 1 + 1, 0, none⟩)], .func (.func 60) #[.pointer (some ⟨pd, 0, none⟩)] #[]] tSteps) = W := ⟨_, rfl⟩
  have r6 := heap_alloc_last w5 (.cells #[.func (.func 120) #[] #[.pointer (some ⟨W3.heap.size, 0, none⟩), .pointer (some ⟨W3.heap.size + 1, 0, none⟩)],
      .func (.func 121) #[] #[.pointer (some ⟨w4.heap.size, 0, none⟩), .pointer (some ⟨w4.heap.size + 1, 0, none⟩), .pointer (some ⟨w4.heap.size + 1 + 1, 0, none⟩)], .func (.func 60) #[.pointer (some ⟨pd, 0, none⟩)] #[]] tSteps)
  rw [hW6] at r6
  have B6' : Below w5.heap.size w5 W6 := by rw [← hW6]; exact (Below.refl _ _).alloc (Nat.le_refl _) _
  rw [hW6]
  have B6 : Below W3.heap.size W3 W6 := H5.out.2.1.trans (B6'.mono H5.out.2.1.size)
  have lp := X.out.1.lt
  have x6 := H3.out.2.1.below B6
  have y6 : BytesAt W6.heap (fun k => w.heap.size ≤ k ∧ k < w1.heap.size) (.slice va (Em.folded 1 (.map [])).length vc) (Em.folded 1 (.map [])) := H3.out.2.2.2.1.keeps (fun k _ hl => B6.block k hl) (fun k hk _ => hk)
  have s3 := H3.out.2.2.2.2.1
  have z1 := H1.out.2.size
  have z4 := H4.out.2.1
  have fl : (Em.folded 1 (.map [])).length ≤ 1000000000 := by have := Em.folded_len (D := .map []) 1 (by decide); omega
  have RC := Lib.hid (rewrote_c (t := 0) (cap := 3) x6 X.out.2.2.1 (by decide) (cell_past B6' (cell_past H5.out.1 H4.out.2.2.1)) (cell_past B6' (cell_past H5.out.1 H4.out.2.2.2)) (cell_past B6' H5.out.2.2.2.1) (cell_past B6' H5.out.2.2.2.2.1) (cell_past B6' H5.out.2.2.2.2.2)
    (cell_past B6 (row_cell H3.out.1 rfl)) y6 (fun k hk => ⟨by omega, by omega⟩) fl
    ⟨by omega, by omega⟩ ⟨by omega, by omega⟩ ⟨by omega, by omega⟩ ⟨by omega, by omega⟩ ⟨by omega, by omega⟩ ⟨X.out.2.2.2.1, X.out.2.2.2.2.1⟩ ⟨by have := H5.out.2.2.1; omega, by have := H5.out.2.2.1; omega⟩ r6)
  have H6 := Lib.hid (And.intro B6 lp)
  clear x6 y6 r6 B6' z1 z4 s3 lp fl hW6
  refine hK _ _ (wpList_nil ⟨rfl, fun _ => ⟨⟨_, B6⟩, rfl⟩, ?_⟩)
  clear hK K
  clear B6
  refine wpAnyI_one 11 1 _ _ rfl (by kernel_rfl) ?_
  refine wpList_plain rfl fun K hK => ?_
  go_simp
  go_at_call 71
  refine RC.out.mono ?_
  rintro e w7 ⟨rfl, m7, x7⟩
  have L := Lib.hid (And.intro m7 x7)
  clear m7 x7
  refine hK _ _ (wpList_nil ⟨rfl, fun h => absurd (by decide) h, ?_⟩)
  clear hK K
  refine wpAnyI_pure [12] 0 _ (by kernel_rfl) ?_
  simp only [List.filterMap_cons, List.filterMap_nil, List.getElem?_toArray, List.getElem?_cons_succ, List.getElem?_cons_zero]
  repeat (refine wpHoist_step (fun K hK => ?_); simp only [hoists, sameUpon]; go_simp; refine hK _ ?_; clear hK K)
  refine wpHoist_nil ?_
  refine ⟨by kernel_rfl, ?_⟩
  go_wp2
  go_ret
  obtain ⟨m7, x7⟩ := L.out
  obtain ⟨B6, lp⟩ := H6.out
  obtain ⟨k3, x3, r3, _, s3, b3⟩ := H3.out
  have z1 := H1.out.2.size
  have z6 := B6.size
  have m7' : Moves (PLM pl pd md) W6 w7 := m7.mono fun i hi => Or.inr hi
  have b3' : Moves (PLM pl pd md) w W3 := b3.mono fun i hi => Or.inl hi
  refine ⟨rfl, (b3'.trans (Moves.of_below B6) (fun _ _ h => h)).trans m7' (fun _ _ h => h), ⟨Em.begun_good d, wide_disk X.out.1 x7 (by omega), ⟨w1.heap.size, ?_, ?_, by omega, by omega, by have := lt_of_row X.out.2.1; omega⟩, X.out.2.2.2.1, X.out.2.2.2.2.1, ?_⟩⟩
  · exact (m7.block pl (by have := lt_of_row k3; omega) (fun e => by rcases e with e | e; exact X.out.2.2.2.1 e; exact X.out.2.2.2.2.1 e)).trans ((B6.block pl (lt_of_row k3)).trans k3)
  · exact rows_moved (rows_below r3 B6 (by omega)) m7 (by omega) (by omega)
  · intro h
    rcases h with h | h
    · exact X.out.2.2.2.2.2 h
    · have := lt_of_row X.out.2.1
      omega

end Go.Proofs.YtgffifleflkjoaaGreat

namespace Go.Proofs.YtgffifleflkjoaaGreat
open Go.RowKit

section
variable {P : Program} {ops : Array Oper} {md : Region.Mode} {ms : List Nat} {J : List Bool → World → Prop}

/-- Which of the marked operations are done. -/
abbrev marks (ms : List Nat) (listed : Array Bool) : List Bool := ms.map fun m => listed.getD m false

theorem marks_set {k : Nat} (hk : ms.contains k = false) (L : Array Bool) : marks ms (L.setIfInBounds k true) = marks ms L :=
  List.map_congr_left fun m hm => by
    have hne : k ≠ m := fun e => by subst e; simp at hk; exact hk hm
    exact getD_set_ne false hne

/-- Whatever order is picked; behind each operation the world is such as the marks say. -/
def wpAnyK (P : Program) (md : Region.Mode) (ops : Array Oper) (ms : List Nat) (J : List Bool → World → Prop) (Q : Act → World → Prop) : Nat → Array Bool → Act → World → Prop
  | 0, listed, a, w => Region.ready md ops listed = [] ∧ Q a w
  | f + 1, listed, a, w => (Region.ready md ops listed = [] → Q a w) ∧ ∀ i ∈ Region.ready md ops listed, wpOp P ops noExit i (fun a' w' => J (marks ms (listed.setIfInBounds i true)) w' ∧ wpAnyK P md ops ms J Q f (listed.setIfInBounds i true) a' w') a w

/-- The worlds in which an operation may be met. -/
def MetK (md : Region.Mode) (ops : Array Oper) (ms : List Nat) (J : List Bool → World → Prop) (i : Nat) (w : World) : Prop := ∃ L, Closed md ops L ∧ L.getD i true = false ∧ J (marks ms L) w

theorem wpAnyK_first {Q : Act → World → Prop} {i : Nat} {oi : Oper} {v : Value} (hi : ops[i]? = some oi) (hsel : ∀ (j : Nat) (o : Oper) cs b, ops[j]? = some o → o.op ≠ .select cs b) (hm : ms.contains i = false) :
    ∀ (fuel : Nat) (listed : Array Bool) (a : Act) (w : World), Closed md ops listed →
      (∀ j oj, ops[j]? = some oj → j ≠ i → listed.getD j true = false → (∀ e ∈ oj.after, Region.binds md e = true → e.on ≠ i) → oi.apart ops oj = true) →
      i ∈ Region.ready md ops listed → YieldsI P ops (MetK md ops ms J i) oi v a → J (marks ms listed) w →
      wpAnyK P md ops ms J Q fuel (listed.setIfInBounds i true) (a.put oi.dst v) w → wpAnyK P md ops ms J Q (fuel + 1) listed a w := by
  intro fuel
  induction fuel with
  | zero =>
    intro listed a w hcl _ hr hy hI H
    refine ⟨fun h => (by rw [h] at hr; cases hr), fun j hj => ?_⟩
    by_cases hji : j = i
    · subst hji; exact hy.wpOp hi ⟨listed, hcl, (mem_ready.1 hr).1, hI⟩ ⟨by rw [marks_set hm]; exact hI, H⟩
    · have := ready_mono hj hji
      rw [H.1] at this
      cases this
  | succ fuel ih =>
    intro listed a w hcl hfree hr hy hI H
    refine ⟨fun h => (by rw [h] at hr; cases hr), fun j hj => ?_⟩
    by_cases hji : j = i
    · subst hji; exact hy.wpOp hi ⟨listed, hcl, (mem_ready.1 hr).1, hI⟩ ⟨by rw [marks_set hm]; exact hI, H⟩
    · have h1 := H.2 j (ready_mono hj hji)
      obtain ⟨hjun, oj, hoj, hall⟩ := mem_ready.1 hj
      have hun := (mem_ready.1 hr).1
      have hnot : ∀ e ∈ oj.after, Region.binds md e = true → e.on ≠ i := fun e he hb heq => by
        have h1 := hall e he hb
        rw [heq, getD_both hun] at h1
        cases h1
      have h2 := wpOpI_put hoj (hfree j oj hoj hji hjun hnot) (fun cs b => hsel i oi cs b hi) (fun cs b => hsel j oj cs b hoj) hy h1
      have hfree' : ∀ k ok, ops[k]? = some ok → k ≠ i → (listed.setIfInBounds j true).getD k true = false →
          (∀ e ∈ ok.after, Region.binds md e = true → e.on ≠ i) → oi.apart ops ok = true := fun k ok hk hki hun hno => by
        refine hfree k ok hk hki ?_ hno
        by_cases hjk : j = k
        · subst hjk; exact hjun
        · rw [getD_set_ne true hjk] at hun; exact hun
      have hJ : ∀ w', J (marks ms ((listed.setIfInBounds i true).setIfInBounds j true)) w' → J (marks ms (listed.setIfInBounds j true)) w' := fun w' h => by
        rw [Array.setIfInBounds_comm _ _ (Ne.symm hji), marks_set hm] at h
        exact h
      refine wpOp_mono (fun a' w' h3 => ⟨hJ _ h3.2.1, ih (listed.setIfInBounds j true) a' w' (hcl.set hj) hfree' (ready_mono hr (Ne.symm hji)) h3.1 (hJ _ h3.2.1) ?_⟩) h2
      rw [Array.setIfInBounds_comm _ _ hji]
      exact h3.2.2

theorem wpAny_of_K {Q : Act → World → Prop} {Q' : Exit → Act → World → Prop} (hQ : ∀ a w, Q a w → Q' .normal a w) : ∀ (f : Nat) (listed : Array Bool) (a : Act) (w : World), wpAnyK P md ops ms J Q f listed a w → wpAny P md ops Q' f listed a w
  | 0, _, _, _, h => ⟨h.1, hQ _ _ h.2⟩
  | f + 1, _, _, _, h => ⟨fun h0 => hQ _ _ (h.1 h0), fun i hi => wpOp_out (fun a' w' h' => wpAny_of_K hQ f _ a' w' h'.2) (h.2 i hi)⟩

def markB (md : Region.Mode) (ops : Array Oper) (ms : List Nat) : List Nat → Array Bool → Bool
  | [], _ => true
  | k :: r, listed => (Region.ready md ops listed).contains k && Region.free md ops listed k && !ms.contains k && markB md ops ms r (listed.setIfInBounds k true)

theorem wpAnyK_hoist {Q : Act → World → Prop} (hs : Region.noSelect ops = true) {w : World} {C : World → Prop} : ∀ (ks : List Nat) (f : Nat) (listed : Array Bool) (a : Act), (∀ k ∈ ks, ∀ w, MetK md ops ms J k w → C w) → Closed md ops listed → J (marks ms listed) w → markB md ops ms ks listed = true →
    wpHoist P ops C (fun a' => wpAnyK P md ops ms J Q f (ks.foldl (fun l k => l.setIfInBounds k true) listed) a' w) (ks.filterMap (fun k => ops[k]?)) a → wpAnyK P md ops ms J Q (f + ks.length) listed a w
  | [], f, listed, a, _, _, _, _, h => h
  | k :: r, f, listed, a, hC, hc, hI, hB, h => by
    simp only [markB, Bool.and_eq_true] at hB
    obtain ⟨⟨⟨h1, h2⟩, h3⟩, h4⟩ := hB
    have h3 : ms.contains k = false := by simpa using h3
    have hr : k ∈ Region.ready md ops listed := by simpa using h1
    obtain ⟨_, o, ho, _⟩ := mem_ready.1 hr
    simp only [List.filterMap_cons, ho, wpHoist] at h
    have : ∃ v, YieldsI P ops (MetK md ops ms J k) o v a ∧ wpHoist P ops C (fun a' => wpAnyK P md ops ms J Q f ((k :: r).foldl (fun l k => l.setIfInBounds k true) listed) a' w) (r.filterMap (fun k => ops[k]?)) (a.put o.dst v) := by
      by_cases hw : Region.wanted o (yielded ops a.tmps) = true
      · rw [if_pos hw] at h
        obtain ⟨v, hv, hn⟩ := h
        refine ⟨v, .inl ⟨hw, fun w' hw' => ?_⟩, hn⟩
        have := hv w' (hC k (List.mem_cons_self ..) w' hw')
        generalize (execOp a.eval o).run P w' = x at this
        cases x with
        | ok n w2 =>
          cases n <;> simp only [sameUpon] at this
          case value u => rw [this.1, this.2]
        | halt x w2 => simp only [sameUpon] at this
      · rw [if_neg hw] at h
        exact ⟨undef, .inr ⟨by simpa using hw, rfl⟩, h⟩
    obtain ⟨v, hy, hn⟩ := this
    rw [show f + (k :: r).length = (f + r.length) + 1 by simp; omega]
    exact wpAnyK_first ho (Region.noSelect_spec hs) h3 _ _ _ _ hc (Region.free_spec ho h2) hr hy hI
      (wpAnyK_hoist hs r f _ _ (fun x hx => hC x (List.mem_cons_of_mem _ hx)) (hc.set hr) (by rw [marks_set h3]; exact hI) h4 hn)

/-- Operations first, at a state that is told; C: the worlds in which they may be met. -/
theorem wpAnyK_reads {Q : Act → World → Prop} {w : World} {a : Act} (C : World → Prop) (ks : List Nat) (f : Nat) (listed : Array Bool) (hC : ∀ k ∈ ks, ∀ w, MetK md ops ms J k w → C w) (hI : J (marks ms listed) w)
    (hB : (Region.noSelect ops && closedB md ops listed && markB md ops ms ks listed) = true)
    (h : wpHoist P ops C (fun a' => wpAnyK P md ops ms J Q f (ks.foldl (fun l k => l.setIfInBounds k true) listed) a' w) (ks.filterMap (fun k => ops[k]?)) a) : wpAnyK P md ops ms J Q (f + ks.length) listed a w := by
  simp only [Bool.and_eq_true] at hB
  exact wpAnyK_hoist hB.1.1 ks f listed a hC (closed_of_B hB.1.2) hI hB.2 h

/-- One operation, at a state that is told. -/
theorem wpAnyK_one {Q : Act → World → Prop} {w : World} {a : Act} (k f : Nat) (listed : Array Bool) (o : Oper) (ho : ops[k]? = some o) (hr : Region.ready md ops listed = [k])
    (h : wpList P ops (fun e a' w' => e = .normal ∧ J (marks ms (listed.setIfInBounds k true)) w' ∧ wpAnyK P md ops ms J Q f (listed.setIfInBounds k true) a' w') [o] a w) : wpAnyK P md ops ms J Q (f + 1) listed a w :=
  ⟨fun h0 => (by rw [hr] at h0; cases h0), fun i hi => by rw [hr] at hi; have e : i = k := (by simpa using hi); subst e; exact wpOp_of_list ho h⟩

theorem marked_of {listed : Array Bool} {w : World} (bs : List Bool) (h : marks ms listed = bs) (hJ : J bs w) : J (marks ms listed) w := by rw [h]; exact hJ

theorem one_met {k0 : Nat} {C : World → Prop} (h : ∀ w, MetK md ops ms J k0 w → C w) : ∀ k ∈ [k0], ∀ w, MetK md ops ms J k w → C w := fun k hk w hw => by
  simp only [List.mem_singleton] at hk
  rw [hk] at hw
  exact h w hw

/-- The region. -/
theorem wp_region_marks {id : Nat} {Q : Exit → Act → World → Prop} {a : Act} {w : World} (ms : List Nat) (J : List Bool → World → Prop) (hm : P.follows .mixedOrders = true)
    (h : wpAnyK P .any ops ms J (fun a' w' => Q .normal a' w') ops.size (Array.replicate ops.size false) a w.drew) : (Code.region id ops true).wp P Q a w :=
  wp_region_any hm (wpAny_of_K (fun _ _ h => h) _ _ _ _ h)

/-- An operation that is met ahead of one that waits for it. -/
theorem MetK.ahead {i t : Nat} {w : World} (h : MetK md ops ms J i w) (hw : waitsB md ops ops.size t i = true) : ∃ L, L.getD t false = false ∧ J (marks ms L) w := by
  obtain ⟨L, h1, h2, h3⟩ := h
  refine ⟨L, ?_, h3⟩
  cases hk : L.getD t false with
  | false => rfl
  | true => have := listed_of_waits h1 _ _ _ hw hk; rw [getD_both h2] at this; cases this

end
end Go.Proofs.YtgffifleflkjoaaGreat
