/-
  wire: Text, Truth, End.
  A region that draws its order and may be left by a panic: reads may be taken first.
  evlog: what takes parts off a record: a number, a text.
-/
import Derived.Test.YtgffifleflkjoaaGreatG03
import Derived.Test.YtgffifleflkjoaaGreatG29

namespace Go.Proofs.YtgffifleflkjoaaGreat
open Go.RowKit Dm

set_option maxRecDepth 100000 in
set_option maxHeartbeats 1000000 in
theorem text_yes {w : World} {q : Nat} {l r tx : List UInt8} {most : Nat} (h : RdAt w q l) (hl : l.length ≤ 1000000000) (hr : Wm.rtext most l = some (tx, r)) :
    Calls Tryz.prog 178 #[.pointer (some ⟨q, 0, none⟩), .int .i64 most] w fun e w' => e = .returned (.tuple #[strOfB tx, .int .i64 0]) ∧ RdAt w' q r ∧ Moves (fun k => k = q) w w' := by
  have hmf : ∀ (fn : Fn) (first cap : Array Value) (w : World), (Instr.makeFunc fn first cap).run Tryz.prog w = .ok (.func fn first cap) w := fun _ _ _ _ => rfl
  obtain ⟨W, hW⟩ : ∃ W, ((w.alloc (.cells #[.pointer (some ⟨q, 0, none⟩)] tPReader)).alloc (.cells #[.int .i64 most] 3)).alloc (.cells #[.string ⟨#[]⟩] 9) = W := ⟨_, rfl⟩
  have B : Below w.heap.size w W := by rw [← hW]; exact (((Below.refl _ _).alloc (Nat.le_refl _) _).alloc (by simp) _).alloc (by simp; omega) _
  have s : W.heap.size = w.heap.size + 3 := by rw [← hW]; simp
  have r2 : W.heap[w.heap.size]? = some (.cells #[.pointer (some ⟨q, 0, none⟩)] tPReader (0, 0)) := by rw [← hW]; exact heap_past (by simp; omega) (heap_past (by simp) (heap_alloc_last w _))
  have r3 : W.heap[w.heap.size + 1]? = some (.cells #[.int .i64 most] 3 (0, 0)) := by rw [← hW]; exact heap_past (by simp) (heap_at (w := w.alloc _) _ (by simp))
  have r4 : W.heap[w.heap.size + 1 + 1]? = some (.cells #[.string ⟨#[]⟩] 9 (0, 0)) := by rw [← hW]; exact heap_at (w := (w.alloc _).alloc _) _ (by simp)
  have lq := h.lt
  have hx := h.later B
  have TC := Lib.hid (wtry_yes (w := W.drew) (q := q) (fn := 202) (fs := #[]) (cs := #[.pointer (some ⟨w.heap.size, 0, none⟩), .pointer (some ⟨w.heap.size + 1, 0, none⟩), .pointer (some ⟨w.heap.size + 1 + 1, 0, none⟩)])
    (R := fun X X' => RdAt X' q r ∧ X'.heap[w.heap.size + 1 + 1]? = some (.cells #[strOfB tx] 9 (0, 0)) ∧ Moves (fun k => k = q ∨ k = w.heap.size + 1 + 1) X X') (hx.later (Below.refl _ _).drew) (enters_of Tryz.func202 (by kernel_rfl) rfl)
    (fun X hb => by
      rw [Array.empty_append]
      have hb' : Below W.heap.size W X := ((Below.refl W.heap.size W).drew).trans hb
      exact textclo_yes (hx.later hb') hl hr (cell_past hb' (row_cell r2 rfl)) (cell_past hb' (row_cell r3 rfl)) ((hb'.block _ (lt_of_row r4)).trans r4) (by omega) (by omega))
    (fun X X' hX => hX.2.2.mono (fun k hk => by show k < W.heap.size; omega)))
  have ne : Nonempty (Wd (Below W.heap.size W)) := ⟨⟨_, Below.refl _ _⟩⟩
  have f2 : ∀ x : Wd (Below W.heap.size W), x.world.cell? ⟨w.heap.size, 0, none⟩ = some (.pointer (some ⟨q, 0, none⟩)) := fun x => cell_past x.ok (row_cell r2 rfl)
  have f3 : ∀ x : Wd (Below W.heap.size W), x.world.cell? ⟨w.heap.size + 1, 0, none⟩ = some (.int .i64 most) := fun x => cell_past x.ok (row_cell r3 rfl)
  have HB := Lib.hid (And.intro B (And.intro s lq))
  have HW := Lib.hid hW
  clear hW r2 r3 r4 hx h B s lq
  go_enter Tryz.func178, Tryz.ntmps178
  go_upto_region 1 with fail
  rw [HW.out]
  refine wp_region_hoist (fun w' => ∃ x : Wd (Below W.heap.size W), w' = x.world) [4, 5] (by kernel_rfl) ?_
  refine wpAnyI_reads [0, 1, 3] 3 _ ⟨⟨_, (Below.refl _ _).drew⟩, rfl⟩ (by kernel_rfl) ?_
  simp only [List.filterMap_cons, List.filterMap_nil, List.getElem?_toArray, List.getElem?_cons_succ, List.getElem?_cons_zero]
  iterate 3 (with_reducible refine wpHoist_step (fun K hK => ?_); simp only [hoists, sameUpon]; go_simp; refine hK _ ?_; clear hK K)
  with_reducible refine wpHoist_nil ?_
  refine wpAnyI_one 2 2 _ _ rfl (by kernel_rfl) ?_
  refine wpList_plain rfl fun K hK => ?_
  go_simp
  go_at_call 197
  refine (wbound_c _ most).mono ?_
  rintro e w' ⟨rfl, rfl⟩
  refine hK _ _ (wpList_nil ⟨rfl, fun _ => ⟨⟨_, (Below.refl _ _).drew⟩, rfl⟩, ?_⟩)
  clear hK K
  refine wpAnyI_one 4 1 _ _ rfl (by kernel_rfl) ?_
  refine wpList_plain rfl fun K hK => ?_
  go_simp
  go_at_call 175
  refine TC.out.mono ?_
  rintro e w5 ⟨rfl, X, X', x0, b5, ⟨h5, t5, m5⟩, n5, hx0⟩
  have H5 := Lib.hid (And.intro b5 (And.intro h5 (And.intro t5 (And.intro m5 (And.intro n5 hx0)))))
  clear b5 h5 t5 m5 n5 hx0
  refine hK _ _ (wpList_nil ⟨rfl, fun h => absurd (by decide) h, ?_⟩)
  clear hK K
  refine wpAnyI_pure [5] 0 _ (by kernel_rfl) ?_
  simp only [List.filterMap_cons, List.filterMap_nil, List.getElem?_toArray, List.getElem?_cons_succ, List.getElem?_cons_zero]
  repeat (refine wpHoist_step (fun K hK => ?_); simp only [hoists, sameUpon]; go_simp; refine hK _ ?_; clear hK K)
  refine wpHoist_nil ?_
  refine ⟨by kernel_rfl, ?_⟩
  obtain ⟨b5, h5, t5, m5, n5, hx0⟩ := H5.out
  obtain ⟨B, sz, lq⟩ := HB.out
  have hx0 : W.heap.size ≤ x0 := hx0
  have t6 : w5.heap[w.heap.size + 1 + 1]? = some (.cells #[strOfB tx] 9 (0, 0)) := (n5.block _ (lt_of_row t5) (by omega)).trans t5
  have c6 := row_cell t6 (j := 0) rfl
  have z6 := row_free t6 0
  have c7 := row_cell (heap_setCell_same _ _ 0 _ 9 (strOfB tx) t6) (j := 0) rfl
  obtain ⟨k1, k2⟩ := rd_end (u := strOfB tx) B (((Below.refl W.heap.size W).drew).trans b5) h5 m5 n5 hx0 (by omega : w.heap.size ≤ w.heap.size + 1 + 1) lq
  have HE := Lib.hid (And.intro c7 (And.intro k1 k2))
  clear b5 h5 t5 m5 n5 hx0 sz lq B t6 c7 k1 k2
  go_wp2
  exact bodyPost_ret (results_cell_tmp' (p := 4) (u := 5) rfl _ _ ⟨w.heap.size + 1 + 1, 0, none⟩ _ rfl HE.out.1 (by kernel_rfl)) rfl ⟨rfl, HE.out.2.1, HE.out.2.2⟩

set_option maxRecDepth 100000 in
set_option maxHeartbeats 1000000 in
theorem text_no {w : World} {q : Nat} {l : List UInt8} {most : Nat} (h : RdAt w q l) (hl : l.length ≤ 1000000000) (hr : Wm.rtext most l = none) :
    Calls Tryz.prog 178 #[.pointer (some ⟨q, 0, none⟩), .int .i64 most] w fun e w' => e = .returned (.tuple #[.string ⟨#[]⟩, .int .i64 140]) ∧ Moves (fun k => k = q) w w' := by
  have hmf : ∀ (fn : Fn) (first cap : Array Value) (w : World), (Instr.makeFunc fn first cap).run Tryz.prog w = .ok (.func fn first cap) w := fun _ _ _ _ => rfl
  obtain ⟨W, hW⟩ : ∃ W, ((w.alloc (.cells #[.pointer (some ⟨q, 0, none⟩)] tPReader)).alloc (.cells #[.int .i64 most] 3)).alloc (.cells #[.string ⟨#[]⟩] 9) = W := ⟨_, rfl⟩
  have B : Below w.heap.size w W := by rw [← hW]; exact (((Below.refl _ _).alloc (Nat.le_refl _) _).alloc (by simp) _).alloc (by simp; omega) _
  have s : W.heap.size = w.heap.size + 3 := by rw [← hW]; simp
  have r2 : W.heap[w.heap.size]? = some (.cells #[.pointer (some ⟨q, 0, none⟩)] tPReader (0, 0)) := by rw [← hW]; exact heap_past (by simp; omega) (heap_past (by simp) (heap_alloc_last w _))
  have r3 : W.heap[w.heap.size + 1]? = some (.cells #[.int .i64 most] 3 (0, 0)) := by rw [← hW]; exact heap_past (by simp) (heap_at (w := w.alloc _) _ (by simp))
  have r4 : W.heap[w.heap.size + 1 + 1]? = some (.cells #[.string ⟨#[]⟩] 9 (0, 0)) := by rw [← hW]; exact heap_at (w := (w.alloc _).alloc _) _ (by simp)
  have lq := h.lt
  have hx := h.later B
  have TC := Lib.hid (wtry_no (w := W.drew) (q := q) (fn := 202) (fs := #[]) (cs := #[.pointer (some ⟨w.heap.size, 0, none⟩), .pointer (some ⟨w.heap.size + 1, 0, none⟩), .pointer (some ⟨w.heap.size + 1 + 1, 0, none⟩)])
    (R := fun X X' => RdGone q X X') (hx.later (Below.refl _ _).drew) (enters_of Tryz.func202 (by kernel_rfl) rfl)
    (fun X hb => by
      rw [Array.empty_append]
      have hb' : Below W.heap.size W X := ((Below.refl W.heap.size W).drew).trans hb
      exact textclo_no (hx.later hb') hl hr (cell_past hb' (row_cell r2 rfl)) (cell_past hb' (row_cell r3 rfl)) (by omega))
    (fun X X' hb hX => hX))
  have ne : Nonempty (Wd (Below W.heap.size W)) := ⟨⟨_, Below.refl _ _⟩⟩
  have f2 : ∀ x : Wd (Below W.heap.size W), x.world.cell? ⟨w.heap.size, 0, none⟩ = some (.pointer (some ⟨q, 0, none⟩)) := fun x => cell_past x.ok (row_cell r2 rfl)
  have f3 : ∀ x : Wd (Below W.heap.size W), x.world.cell? ⟨w.heap.size + 1, 0, none⟩ = some (.int .i64 most) := fun x => cell_past x.ok (row_cell r3 rfl)
  have HB := Lib.hid (And.intro B (And.intro s (And.intro lq r4)))
  have HW := Lib.hid hW
  clear hW r2 r3 r4 hx h B s lq
  go_enter Tryz.func178, Tryz.ntmps178
  go_upto_region 1 with fail
  rw [HW.out]
  refine wp_region_hoist (fun w' => ∃ x : Wd (Below W.heap.size W), w' = x.world) [4, 5] (by kernel_rfl) ?_
  refine wpAnyI_reads [0, 1, 3] 3 _ ⟨⟨_, (Below.refl _ _).drew⟩, rfl⟩ (by kernel_rfl) ?_
  simp only [List.filterMap_cons, List.filterMap_nil, List.getElem?_toArray, List.getElem?_cons_succ, List.getElem?_cons_zero]
  iterate 3 (with_reducible refine wpHoist_step (fun K hK => ?_); simp only [hoists, sameUpon]; go_simp; refine hK _ ?_; clear hK K)
  with_reducible refine wpHoist_nil ?_
  refine wpAnyI_one 2 2 _ _ rfl (by kernel_rfl) ?_
  refine wpList_plain rfl fun K hK => ?_
  go_simp
  go_at_call 197
  refine (wbound_c _ most).mono ?_
  rintro e w' ⟨rfl, rfl⟩
  refine hK _ _ (wpList_nil ⟨rfl, fun _ => ⟨⟨_, (Below.refl _ _).drew⟩, rfl⟩, ?_⟩)
  clear hK K
  refine wpAnyI_one 4 1 _ _ rfl (by kernel_rfl) ?_
  refine wpList_plain rfl fun K hK => ?_
  go_simp
  go_at_call 175
  refine TC.out.mono ?_
  rintro e w5 ⟨rfl, m5⟩
  have H5 := Lib.hid m5
  clear m5
  refine hK _ _ (wpList_nil ⟨rfl, fun h => absurd (by decide) h, ?_⟩)
  clear hK K
  refine wpAnyI_pure [5] 0 _ (by kernel_rfl) ?_
  simp only [List.filterMap_cons, List.filterMap_nil, List.getElem?_toArray, List.getElem?_cons_succ, List.getElem?_cons_zero]
  repeat (refine wpHoist_step (fun K hK => ?_); simp only [hoists, sameUpon]; go_simp; refine hK _ ?_; clear hK K)
  refine wpHoist_nil ?_
  refine ⟨by kernel_rfl, ?_⟩
  obtain ⟨B, sz, lq, r4⟩ := HB.out
  have m5 : Moves (fun k => k = q) W w5 := (Moves.of_below ((Below.refl W.heap.size W).drew)).trans H5.out (fun _ _ h => h)
  have t6 : w5.heap[w.heap.size + 1 + 1]? = some (.cells #[.string ⟨#[]⟩] 9 (0, 0)) := (m5.block _ (lt_of_row r4) (by omega)).trans r4
  have c6 := row_cell t6 (j := 0) rfl
  have z6 := row_free t6 0
  have c7 := row_cell (heap_setCell_same _ _ 0 _ 9 (.string ⟨#[]⟩) t6) (j := 0) rfl
  have k2 := rd_fail (u := .string ⟨#[]⟩) B m5 (by omega : w.heap.size ≤ w.heap.size + 1 + 1)
  have HE := Lib.hid (And.intro c7 k2)
  clear m5 sz lq B t6 c7 k2 r4
  go_wp2
  exact bodyPost_ret (results_cell_tmp' (p := 4) (u := 5) rfl _ _ ⟨w.heap.size + 1 + 1, 0, none⟩ _ rfl HE.out.1 (by kernel_rfl)) rfl ⟨rfl, HE.out.2⟩

set_option maxRecDepth 100000 in
set_option maxHeartbeats 1000000 in
theorem truth_yes {w : World} {q : Nat} {l r : List UInt8} {b : Bool} (h : RdAt w q l) (hl : l.length ≤ 1000000000) (hr : Wm.rtruth l = some (b, r)) :
    Calls Tryz.prog 179 #[.pointer (some ⟨q, 0, none⟩)] w fun e w' => e = .returned (.tuple #[.bool b, .int .i64 0]) ∧ RdAt w' q r ∧ Moves (fun k => k = q) w w' := by
  have hmf : ∀ (fn : Fn) (first cap : Array Value) (w : World), (Instr.makeFunc fn first cap).run Tryz.prog w = .ok (.func fn first cap) w := fun _ _ _ _ => rfl
  obtain ⟨W, hW⟩ : ∃ W, (w.alloc (.cells #[.pointer (some ⟨q, 0, none⟩)] tPReader)).alloc (.cells #[.bool false] 4) = W := ⟨_, rfl⟩
  have B : Below w.heap.size w W := by rw [← hW]; exact ((Below.refl _ _).alloc (Nat.le_refl _) _).alloc (by simp) _
  have s : W.heap.size = w.heap.size + 2 := by rw [← hW]; simp
  have r2 : W.heap[w.heap.size]? = some (.cells #[.pointer (some ⟨q, 0, none⟩)] tPReader (0, 0)) := by rw [← hW]; exact heap_past (by simp) (heap_alloc_last w _)
  have r4 : W.heap[w.heap.size + 1]? = some (.cells #[.bool false] 4 (0, 0)) := by rw [← hW]; exact heap_at (w := w.alloc _) _ (by simp)
  have lq := h.lt
  have hx := h.later B
  have TC := Lib.hid (wtry_yes (w := W) (q := q) (fn := 204) (fs := #[]) (cs := #[.pointer (some ⟨w.heap.size, 0, none⟩), .pointer (some ⟨w.heap.size + 1, 0, none⟩)])
    (R := fun X X' => RdAt X' q r ∧ X'.heap[w.heap.size + 1]? = some (.cells #[.bool b] 4 (0, 0)) ∧ Moves (fun k => k = q ∨ k = w.heap.size + 1) X X') hx (enters_of Tryz.func204 (by kernel_rfl) rfl)
    (fun X hb => by
      rw [Array.empty_append]
      have hb' : Below W.heap.size W X := hb
      exact truthclo_yes (hx.later hb') hl hr (cell_past hb' (row_cell r2 rfl)) ((hb'.block _ (lt_of_row r4)).trans r4) (by omega))
    (fun X X' hX => hX.2.2.mono (fun k hk => by show k < W.heap.size; omega)))
  have ne : Nonempty (Wd (Below W.heap.size W)) := ⟨⟨_, Below.refl _ _⟩⟩
  have f2 : ∀ x : Wd (Below W.heap.size W), x.world.cell? ⟨w.heap.size, 0, none⟩ = some (.pointer (some ⟨q, 0, none⟩)) := fun x => cell_past x.ok (row_cell r2 rfl)
  have HB := Lib.hid (And.intro B (And.intro s lq))
  have HW := Lib.hid hW
  clear hW r2 r4 hx h B s lq
  go_enter Tryz.func179, Tryz.ntmps179
  go_upto_region 1 with fail
  rw [HW.out]
  have f0 := f2 ⟨W, Below.refl _ _⟩
  dsimp only at f0
  clear f2 ne
  go_upto_region 2 with (go_at_call 175; refine TC.out.mono ?_; rintro e w5 ⟨rfl, X, X', x0, b5, ⟨h5, t5, m5⟩, n5, hx0⟩; have H5 := Lib.hid (And.intro b5 (And.intro h5 (And.intro t5 (And.intro m5 (And.intro n5 hx0))))); clear b5 h5 t5 m5 n5 hx0)
  obtain ⟨b5, h5, t5, m5, n5, hx0⟩ := H5.out
  obtain ⟨B, sz, lq⟩ := HB.out
  have hx0 : W.heap.size ≤ x0 := hx0
  have t6 : w5.heap[w.heap.size + 1]? = some (.cells #[.bool b] 4 (0, 0)) := (n5.block _ (lt_of_row t5) (by omega)).trans t5
  have c6 := row_cell t6 (j := 0) rfl
  have z6 := row_free t6 0
  have c7 := row_cell (heap_setCell_same _ _ 0 _ 4 (.bool b) t6) (j := 0) rfl
  obtain ⟨k1, k2⟩ := rd_end (u := .bool b) B b5 h5 m5 n5 hx0 (by omega : w.heap.size ≤ w.heap.size + 1) lq
  have HE := Lib.hid (And.intro c7 (And.intro k1 k2))
  clear b5 h5 t5 m5 n5 hx0 sz lq B t6 c7 k1 k2
  go_wp2
  exact bodyPost_ret (results_cell_tmp' (p := 2) (u := 3) rfl _ _ ⟨w.heap.size + 1, 0, none⟩ _ rfl HE.out.1 (by kernel_rfl)) rfl ⟨rfl, HE.out.2.1, HE.out.2.2⟩

set_option maxRecDepth 100000 in
set_option maxHeartbeats 1000000 in
theorem truth_no {w : World} {q : Nat} {l : List UInt8} (h : RdAt w q l) (hl : l.length ≤ 1000000000) (hr : Wm.rtruth l = none) :
    Calls Tryz.prog 179 #[.pointer (some ⟨q, 0, none⟩)] w fun e w' => e = .returned (.tuple #[.bool false, .int .i64 140]) ∧ Moves (fun k => k = q) w w' := by
  have hmf : ∀ (fn : Fn) (first cap : Array Value) (w : World), (Instr.makeFunc fn first cap).run Tryz.prog w = .ok (.func fn first cap) w := fun _ _ _ _ => rfl
  obtain ⟨W, hW⟩ : ∃ W, (w.alloc (.cells #[.pointer (some ⟨q, 0, none⟩)] tPReader)).alloc (.cells #[.bool false] 4) = W := ⟨_, rfl⟩
  have B : Below w.heap.size w W := by rw [← hW]; exact ((Below.refl _ _).alloc (Nat.le_refl _) _).alloc (by simp) _
  have s : W.heap.size = w.heap.size + 2 := by rw [← hW]; simp
  have r2 : W.heap[w.heap.size]? = some (.cells #[.pointer (some ⟨q, 0, none⟩)] tPReader (0, 0)) := by rw [← hW]; exact heap_past (by simp) (heap_alloc_last w _)
  have r4 : W.heap[w.heap.size + 1]? = some (.cells #[.bool false] 4 (0, 0)) := by rw [← hW]; exact heap_at (w := w.alloc _) _ (by simp)
  have lq := h.lt
  have hx := h.later B
  have TC := Lib.hid (wtry_no (w := W) (q := q) (fn := 204) (fs := #[]) (cs := #[.pointer (some ⟨w.heap.size, 0, none⟩), .pointer (some ⟨w.heap.size + 1, 0, none⟩)])
    (R := fun X X' => RdGone q X X') hx (enters_of Tryz.func204 (by kernel_rfl) rfl)
    (fun X hb => by
      rw [Array.empty_append]
      have hb' : Below W.heap.size W X := hb
      exact truthclo_no (hx.later hb') hl hr (cell_past hb' (row_cell r2 rfl)))
    (fun X X' hb hX => by exact hX))
  have ne : Nonempty (Wd (Below W.heap.size W)) := ⟨⟨_, Below.refl _ _⟩⟩
  have f2 : ∀ x : Wd (Below W.heap.size W), x.world.cell? ⟨w.heap.size, 0, none⟩ = some (.pointer (some ⟨q, 0, none⟩)) := fun x => cell_past x.ok (row_cell r2 rfl)
  have HB := Lib.hid (And.intro B (And.intro s (And.intro lq r4)))
  have HW := Lib.hid hW
  clear hW r2 r4 hx h B s lq
  go_enter Tryz.func179, Tryz.ntmps179
  go_upto_region 1 with fail
  rw [HW.out]
  have f0 := f2 ⟨W, Below.refl _ _⟩
  dsimp only at f0
  clear f2 ne
  go_upto_region 2 with (go_at_call 175; refine TC.out.mono ?_; rintro e w5 ⟨rfl, m5⟩; have H5 := Lib.hid m5; clear m5)
  obtain ⟨B, sz, lq, r4⟩ := HB.out
  have m5 : Moves (fun k => k = q) W w5 := H5.out
  have t6 : w5.heap[w.heap.size + 1]? = some (.cells #[.bool false] 4 (0, 0)) := (m5.block _ (lt_of_row r4) (by omega)).trans r4
  have c6 := row_cell t6 (j := 0) rfl
  have z6 := row_free t6 0
  have c7 := row_cell (heap_setCell_same _ _ 0 _ 4 (.bool false) t6) (j := 0) rfl
  have k2 := rd_fail (u := .bool false) B m5 (by omega : w.heap.size ≤ w.heap.size + 1)
  have HE := Lib.hid (And.intro c7 k2)
  clear m5 sz lq B t6 c7 k2 r4
  go_wp2
  exact bodyPost_ret (results_cell_tmp' (p := 2) (u := 3) rfl _ _ ⟨w.heap.size + 1, 0, none⟩ _ rfl HE.out.1 (by kernel_rfl)) rfl ⟨rfl, HE.out.2⟩

set_option maxRecDepth 100000 in
theorem end_yes {w : World} {q : Nat} (h : RdAt w q []) : Calls Tryz.prog 149 #[.pointer (some ⟨q, 0, none⟩)] w fun e w' => e = .returned (.int .i64 0) ∧ Below w.heap.size w w' := by
  have hmf : ∀ (fn : Fn) (first cap : Array Value) (w : World), (Instr.makeFunc fn first cap).run Tryz.prog w = .ok (.func fn first cap) w := fun _ _ _ _ => rfl
  obtain ⟨W, hW⟩ : ∃ W, w.alloc (.cells #[.pointer (some ⟨q, 0, none⟩)] tPReader) = W := ⟨_, rfl⟩
  have B : Below w.heap.size w W := by rw [← hW]; exact (Below.refl _ _).alloc (Nat.le_refl _) _
  have r2 : W.heap[w.heap.size]? = some (.cells #[.pointer (some ⟨q, 0, none⟩)] tPReader (0, 0)) := by rw [← hW]; exact heap_alloc_last w _
  have f2 := row_cell r2 (j := 0) rfl
  have hx := h.later B
  have TC := Lib.hid (wtry_yes (w := W) (q := q) (fn := 176) (fs := #[]) (cs := #[.pointer (some ⟨w.heap.size, 0, none⟩)]) (R := fun X X' => X = X') hx (enters_of Tryz.func176 (by kernel_rfl) rfl)
    (fun X hb => by rw [Array.empty_append]; exact endclo_yes (hx.later hb) (cell_past hb f2)) (fun X X' hX => by subst hX; exact Moves.refl _ _))
  have HB := Lib.hid B
  have HW := Lib.hid hW
  clear hW r2 hx h B
  go_enter Tryz.func149, Tryz.ntmps149
  go_upto_region 1 with fail
  rw [HW.out]
  go_wp2_with (go_at_call 175; refine TC.out.mono ?_; rintro e w5 ⟨rfl, X, X', x0, b5, rfl, n5, hx0⟩; have H5 := Lib.hid (And.intro b5 (And.intro n5 hx0)); clear b5 n5 hx0)
  go_ret
  obtain ⟨b5, n5, hx0⟩ := H5.out
  exact ⟨rfl, ((Moves.of_below (O := fun _ => False) (HB.out.trans (b5.mono HB.out.size))).trans n5 (fun i hi h => by have := HB.out.size; omega)).below⟩

set_option maxRecDepth 100000 in
theorem end_no {w : World} {q : Nat} {l : List UInt8} (h : RdAt w q l) (hl : l ≠ []) : Calls Tryz.prog 149 #[.pointer (some ⟨q, 0, none⟩)] w fun e w' => e = .returned (.int .i64 140) ∧ Moves (fun k => k = q) w w' := by
  have hmf : ∀ (fn : Fn) (first cap : Array Value) (w : World), (Instr.makeFunc fn first cap).run Tryz.prog w = .ok (.func fn first cap) w := fun _ _ _ _ => rfl
  obtain ⟨W, hW⟩ : ∃ W, w.alloc (.cells #[.pointer (some ⟨q, 0, none⟩)] tPReader) = W := ⟨_, rfl⟩
  have B : Below w.heap.size w W := by rw [← hW]; exact (Below.refl _ _).alloc (Nat.le_refl _) _
  have r2 : W.heap[w.heap.size]? = some (.cells #[.pointer (some ⟨q, 0, none⟩)] tPReader (0, 0)) := by rw [← hW]; exact heap_alloc_last w _
  have f2 := row_cell r2 (j := 0) rfl
  have hx := h.later B
  have TC := Lib.hid (wtry_no (w := W) (q := q) (fn := 176) (fs := #[]) (cs := #[.pointer (some ⟨w.heap.size, 0, none⟩)]) (R := fun X X' => X = X') hx (enters_of Tryz.func176 (by kernel_rfl) rfl)
    (fun X hb => by rw [Array.empty_append]; exact endclo_no (hx.later hb) hl (cell_past hb f2)) (fun X X' hb hX => by subst hX; exact (hx.later hb).gone (Moves.refl _ _)))
  have HB := Lib.hid B
  have HW := Lib.hid hW
  clear hW r2 hx h B
  go_enter Tryz.func149, Tryz.ntmps149
  go_upto_region 1 with fail
  rw [HW.out]
  go_wp2_with (go_at_call 175; refine TC.out.mono ?_; rintro e w5 ⟨rfl, m5⟩; have H5 := Lib.hid m5; clear m5)
  go_ret
  exact ⟨rfl, (Moves.of_below HB.out).trans H5.out (fun _ _ h => h)⟩

end Go.Proofs.YtgffifleflkjoaaGreat

namespace Go.Proofs.YtgffifleflkjoaaGreat
open Go.RowKit

section
variable {P : Program} {ops : Array Oper} {md : Region.Mode} {I : World → Prop} {tail : List Nat} {E : List PanicEntry → World → Prop}

/-- What may end it: a panic. -/
def exitBy (E : List PanicEntry → World → Prop) : Exit → Act → World → Prop
  | .panic c, a, w => a.defers = [] ∧ E c w
  | _, _, _ => False

theorem exitBy_put {E : List PanicEntry → World → Prop} {c : List PanicEntry} {a : Act} {d : Option Tmp} {v : Value} {w : World} (h : exitBy E (.panic c) (a.put d v) w) : exitBy E (.panic c) a w := by
  cases d <;> exact h

theorem exitBy_out {E : List PanicEntry → World → Prop} : ¬ LetsOut (exitBy E) := by
  rintro ⟨_, _, hx⟩
  exact hx

/-- Whatever order is picked. -/
def wpAnyE (P : Program) (md : Region.Mode) (ops : Array Oper) (I : World → Prop) (tail : List Nat) (E : List PanicEntry → World → Prop) (Q : Act → World → Prop) : Nat → Array Bool → Act → World → Prop
  | 0, listed, a, w => Region.ready md ops listed = [] ∧ Q a w
  | f + 1, listed, a, w => (Region.ready md ops listed = [] → Q a w) ∧ ∀ i ∈ Region.ready md ops listed, wpOp P ops (exitBy E) i (fun a' w' => (i ∉ tail → I w') ∧ wpAnyE P md ops I tail E Q f (listed.setIfInBounds i true) a' w') a w

theorem wpOpE_put {j : Nat} {oi oj : Oper} {v : Value} (hj : ops[j]? = some oj) (hap : oi.apart ops oj = true)
    (hsi : ∀ cs b, oi.op ≠ .select cs b) (hsj : ∀ cs b, oj.op ≠ .select cs b) {K : Act → World → Prop} {a : Act} {w : World}
    (hy : YieldsI P ops I oi v a) (h : wpOp P ops (exitBy E) j K (a.put oi.dst v) w) :
    wpOp P ops (exitBy E) j (fun a' w' => YieldsI P ops I oi v a' ∧ K (a'.put oi.dst v) w') a w := by
  obtain ⟨h1, h2, h3⟩ := Oper.apart_spec hap
  have keep : ∀ (a : Act), YieldsI P ops I oi v a → ∀ u, YieldsI P ops I oi v (a.put oj.dst u) := fun a hy u =>
    hy.of_same (execOp_put oi hsi a oj.dst u h3) (wanted_put oi a oj.dst u h3)
  have keepD : ∀ d, YieldsI P ops I oi v { a with defers := d :: a.defers } := fun d => hy.of_same rfl rfl
  unfold wpOp at *
  simp only [hj] at *
  rw [wanted_put oj a oi.dst v h1] at h
  split
  · rename_i hw
    simp only [hw, if_true] at h
    rcases h with h | ⟨hasks, hlets⟩
    case inr => exact .inr ⟨by unfold Oper.asks at *; rw [execOp_put oj hsj a oi.dst v h1] at hasks; exact hasks, hlets⟩
    refine .inl ?_
    unfold Oper.wp at *
    rw [execOp_put oj hsj a oi.dst v h1] at h
    generalize (execOp a.eval oj).run P w = r at *
    cases r with
    | ok n w' =>
      cases n <;> simp only [Oper.upon] at h ⊢
      case value u => exact ⟨keep a hy u, by rw [← Act.put_comm a v u h2]; exact h⟩
      case skip => exact ⟨keep a hy _, by rw [← Act.put_comm a v undef h2]; exact h⟩
      case defer d =>
        refine ⟨keep _ (keepD d) _, ?_⟩
        rw [← Act.put_comm _ v undef h2, ← Act.put_defers]
        exact h
      case enter f args =>
        refine Calls.mono h fun e w'' he => ?_
        cases e with
        | returned u => exact ⟨keep a hy u, by rw [← Act.put_comm a v u h2]; exact he⟩
        | panicked c => exact exitBy_put he
        | outgrown => exact he
      case row row args => exact Rows.mono h fun u w'' he => ⟨keep a hy u, by rw [← Act.put_comm a v u h2]; exact he⟩
    | halt x w' =>
      cases x <;> simp only [Oper.upon] at h ⊢
      case panic u => exact exitBy_put h
  · rename_i hw
    simp only [hw] at h
    exact ⟨keep a hy _, by rw [← Act.put_comm a v undef h2]; exact h⟩

theorem wpAnyE_first {Q : Act → World → Prop} {i : Nat} {oi : Oper} {v : Value} (hi : ops[i]? = some oi) (hsel : ∀ (j : Nat) (o : Oper) cs b, ops[j]? = some o → o.op ≠ .select cs b) (g : Nat) (hw : ∀ t ∈ tail, waitsB md ops g t i = true) :
    ∀ (fuel : Nat) (listed : Array Bool) (a : Act) (w : World), Closed md ops listed →
      (∀ j oj, ops[j]? = some oj → j ≠ i → listed.getD j true = false → (∀ e ∈ oj.after, Region.binds md e = true → e.on ≠ i) → oi.apart ops oj = true) →
      i ∈ Region.ready md ops listed → YieldsI P ops I oi v a → I w →
      wpAnyE P md ops I tail E Q fuel (listed.setIfInBounds i true) (a.put oi.dst v) w → wpAnyE P md ops I tail E Q (fuel + 1) listed a w := by
  intro fuel
  induction fuel with
  | zero =>
    intro listed a w _ _ hr hy hI H
    refine ⟨fun h => (by rw [h] at hr; cases hr), fun j hj => ?_⟩
    by_cases hji : j = i
    · subst hji; exact hy.wpOp hi hI ⟨fun _ => hI, H⟩
    · have := ready_mono hj hji
      rw [H.1] at this
      cases this
  | succ fuel ih =>
    intro listed a w hcl hfree hr hy hI H
    refine ⟨fun h => (by rw [h] at hr; cases hr), fun j hj => ?_⟩
    by_cases hji : j = i
    · subst hji; exact hy.wpOp hi hI ⟨fun _ => hI, H⟩
    · have h1 := H.2 j (ready_mono hj hji)
      obtain ⟨hjun, oj, hoj, hall⟩ := mem_ready.1 hj
      have hun := (mem_ready.1 hr).1
      have hjt : j ∉ tail := fun hm => not_ready_of_waits hcl (hw j hm) hun hj
      have hnot : ∀ e ∈ oj.after, Region.binds md e = true → e.on ≠ i := fun e he hb heq => by
        have h1 := hall e he hb
        rw [heq, getD_both hun] at h1
        cases h1
      have h2 := wpOpE_put hoj (hfree j oj hoj hji hjun hnot) (fun cs b => hsel i oi cs b hi) (fun cs b => hsel j oj cs b hoj) hy h1
      have hfree' : ∀ k ok, ops[k]? = some ok → k ≠ i → (listed.setIfInBounds j true).getD k true = false →
          (∀ e ∈ ok.after, Region.binds md e = true → e.on ≠ i) → oi.apart ops ok = true := fun k ok hk hki hun hno => by
        refine hfree k ok hk hki ?_ hno
        by_cases hjk : j = k
        · subst hjk; exact hjun
        · rw [getD_set_ne true hjk] at hun; exact hun
      refine wpOp_mono (fun a' w' h3 => ⟨fun _ => h3.2.1 hjt, ih (listed.setIfInBounds j true) a' w' (hcl.set hj) hfree' (ready_mono hr (Ne.symm hji)) h3.1 (h3.2.1 hjt) ?_⟩) h2
      rw [Array.setIfInBounds_comm _ _ hji]
      exact h3.2.2

theorem wpOpE_out {i : Nat} {a : Act} {w : World} {K K' : Act → World → Prop} {Q' : Exit → Act → World → Prop} (h : ∀ a w, K a w → K' a w) (hE : ∀ c a w, a.defers = [] → E c w → Q' (.panic c) a w) (hh : wpOp P ops (exitBy E) i K a w) : wpOp P ops Q' i K' a w := by
  unfold wpOp at *
  split
  · exact h _ _ (by simpa [*] using hh)
  · rename_i o ho
    simp only [ho] at hh
    split
    · rename_i hw
      simp only [hw, if_true] at hh
      rcases hh with hh | ⟨_, _, _, hx⟩
      · refine .inl ?_
        unfold Oper.wp at *
        generalize (execOp a.eval o).run P w = r at *
        cases r with
        | ok n w' =>
          cases n <;> simp only [Oper.upon] at hh ⊢
          case value u => exact h _ _ hh
          case skip => exact h _ _ hh
          case defer d => exact h _ _ hh
          case enter f args =>
            refine Calls.mono hh fun e w'' he => ?_
            cases e with
            | returned u => exact h _ _ he
            | panicked c => exact hE c _ _ he.1 he.2
            | outgrown => obtain ⟨_, _, hx⟩ := he; exact hx.elim
          case row row args => exact Rows.mono hh fun u w'' he => h _ _ he
        | halt x w' =>
          cases x <;> simp only [Oper.upon] at hh ⊢
          case panic u => exact hE _ _ _ hh.1 hh.2
      · exact hx.elim
    · rename_i hw
      simp only [hw] at hh
      exact h _ _ hh

theorem wpAny_of_E {Q : Act → World → Prop} {Q' : Exit → Act → World → Prop} (hQ : ∀ a w, Q a w → Q' .normal a w) (hE : ∀ c a w, a.defers = [] → E c w → Q' (.panic c) a w) : ∀ (f : Nat) (listed : Array Bool) (a : Act) (w : World), wpAnyE P md ops I tail E Q f listed a w → wpAny P md ops Q' f listed a w
  | 0, _, _, _, h => ⟨h.1, hQ _ _ h.2⟩
  | f + 1, _, _, _, h => ⟨fun h0 => hQ _ _ (h.1 h0), fun i hi => wpOpE_out (fun a' w' h' => wpAny_of_E hQ hE f _ a' w' h'.2) hE (h.2 i hi)⟩

theorem wpAnyE_only {Q : Act → World → Prop} {f k : Nat} {listed : Array Bool} {a : Act} {w : World} {o : Oper} (ho : ops[k]? = some o) (hr : Region.ready md ops listed = [k])
    (h : wpOp P ops (exitBy E) k (fun a' w' => (k ∉ tail → I w') ∧ wpAnyE P md ops I tail E Q f (listed.setIfInBounds k true) a' w') a w) : wpAnyE P md ops I tail E Q (f + 1) listed a w :=
  ⟨fun h0 => (by rw [hr] at h0; cases h0), fun i hi => by rw [hr] at hi; have e : i = k := (by simpa using hi); subst e; exact h⟩

theorem wpAnyE_hoist {Q : Act → World → Prop} (hs : Region.noSelect ops = true) {w : World} (hI : I w) : ∀ (ks : List Nat) (f : Nat) (listed : Array Bool) (a : Act), Closed md ops listed → hoistB md ops tail ks listed = true →
    wpHoist P ops I (fun a' => wpAnyE P md ops I tail E Q f (ks.foldl (fun l k => l.setIfInBounds k true) listed) a' w) (ks.filterMap (fun k => ops[k]?)) a → wpAnyE P md ops I tail E Q (f + ks.length) listed a w
  | [], f, listed, a, _, _, h => h
  | k :: r, f, listed, a, hc, hB, h => by
    simp only [hoistB, Bool.and_eq_true, List.all_eq_true] at hB
    obtain ⟨⟨⟨h1, h2⟩, h3⟩, h4⟩ := hB
    have hr : k ∈ Region.ready md ops listed := by simpa using h1
    obtain ⟨_, o, ho, _⟩ := mem_ready.1 hr
    simp only [List.filterMap_cons, ho, wpHoist] at h
    have : ∃ v, YieldsI P ops I o v a ∧ wpHoist P ops I (fun a' => wpAnyE P md ops I tail E Q f ((k :: r).foldl (fun l k => l.setIfInBounds k true) listed) a' w) (r.filterMap (fun k => ops[k]?)) (a.put o.dst v) := by
      by_cases hw : Region.wanted o (yielded ops a.tmps) = true
      · rw [if_pos hw] at h
        obtain ⟨v, hv, hn⟩ := h
        refine ⟨v, .inl ⟨hw, fun w' hw' => ?_⟩, hn⟩
        have := hv w' hw'
        generalize (execOp a.eval o).run P w' = x at this
        cases x with
        | ok n w2 =>
          cases n <;> simp only [sameUpon] at this
          case value u => rw [this.1, this.2]
        | halt x w2 => simp only [sameUpon] at this
      · rw [if_neg hw] at h
        exact ⟨undef, .inr ⟨by simpa using hw, rfl⟩, h⟩
    obtain ⟨v, hy, hn⟩ := this
    rw [show f + (k :: r).length = (f + r.length) + 1 by simp; omega]
    exact wpAnyE_first ho (Region.noSelect_spec hs) ops.size h3 _ _ _ _ hc (Region.free_spec ho h2) hr hy hI (wpAnyE_hoist hs hI r f _ _ (hc.set hr) h4 hn)

theorem wpAnyE_reads {Q : Act → World → Prop} {w : World} {a : Act} (ks : List Nat) (f : Nat) (listed : Array Bool) (hI : I w) (hB : (Region.noSelect ops && closedB md ops listed && hoistB md ops tail ks listed) = true)
    (h : wpHoist P ops I (fun a' => wpAnyE P md ops I tail E Q f (ks.foldl (fun l k => l.setIfInBounds k true) listed) a' w) (ks.filterMap (fun k => ops[k]?)) a) : wpAnyE P md ops I tail E Q (f + ks.length) listed a w := by
  simp only [Bool.and_eq_true] at hB
  exact wpAnyE_hoist hB.1.1 hI ks f listed a (closed_of_B hB.1.2) hB.2 h

theorem wpOpE_of_list {R : Act → World → Prop} {w : World} {a : Act} {k : Nat} {o : Oper} (ho : ops[k]? = some o)
    (h : wpList P ops (fun e a' w' => (e = .normal ∧ R a' w') ∨ ∃ c, e = .panic c ∧ a'.defers = [] ∧ E c w') [o] a w) : wpOp P ops (exitBy E) k R a w := by
  unfold wpOp
  simp only [ho]
  simp only [wpList] at h
  split
  · rename_i hw
    simp only [hw, if_true] at h
    rcases h with h | ⟨_, _, _, hx⟩
    · refine .inl ?_
      unfold Oper.wp at *
      generalize (execOp a.eval o).run P w = r at *
      cases r with
      | ok n w' =>
        cases n <;> simp only [Oper.upon] at h ⊢
        case value u => exact (h.resolve_right (fun ⟨_, h, _⟩ => by cases h)).2
        case skip => exact (h.resolve_right (fun ⟨_, h, _⟩ => by cases h)).2
        case defer d => exact (h.resolve_right (fun ⟨_, h, _⟩ => by cases h)).2
        case enter f args =>
          refine Calls.mono h fun e w'' he => ?_
          cases e with
          | returned u => exact (he.resolve_right (fun ⟨_, h, _⟩ => by cases h)).2
          | panicked c => rcases he with he | ⟨c', e', he⟩; (cases he.1); (cases e'; exact he)
          | outgrown => obtain ⟨_, _, hx⟩ := he; rcases hx with hx | ⟨_, hx, _⟩; (cases hx.1); (cases hx)
        case row row args => exact Rows.mono h fun u w'' he => (he.resolve_right (fun ⟨_, h, _⟩ => by cases h)).2
      | halt x w' =>
        cases x <;> simp only [Oper.upon] at h ⊢
        case panic u => rcases h with h | ⟨c', e', h⟩; (cases h.1); (cases e'; exact h)
    · rcases hx with hx | ⟨_, hx, _⟩; (cases hx.1); (cases hx)
  · rename_i hw
    simp only [hw] at h
    exact (h.resolve_right (fun ⟨_, h, _⟩ => by cases h)).2

theorem wpAnyE_one {Q : Act → World → Prop} {w : World} {a : Act} (k f : Nat) (listed : Array Bool) (o : Oper) (ho : ops[k]? = some o) (hr : Region.ready md ops listed = [k])
    (h : wpList P ops (fun e a' w' => (e = .normal ∧ (k ∉ tail → I w') ∧ wpAnyE P md ops I tail E Q f (listed.setIfInBounds k true) a' w') ∨ ∃ c, e = .panic c ∧ a'.defers = [] ∧ E c w') [o] a w) : wpAnyE P md ops I tail E Q (f + 1) listed a w :=
  wpAnyE_only ho hr (wpOpE_of_list ho h)

theorem wp_region_exits {id : Nat} {Q : Exit → Act → World → Prop} {a : Act} {w : World} (I : World → Prop) (tail : List Nat) (E : List PanicEntry → World → Prop) (hE : ∀ c a w, a.defers = [] → E c w → Q (.panic c) a w) (hm : P.follows .mixedOrders = true)
    (h : wpAnyE P .any ops I tail E (fun a' w' => Q .normal a' w') ops.size (Array.replicate ops.size false) a w.drew) : (Code.region id ops true).wp P Q a w :=
  wp_region_any hm (wpAny_of_E (fun _ _ h => h) hE _ _ _ _ h)

end
end Go.Proofs.YtgffifleflkjoaaGreat

namespace Go.Proofs.YtgffifleflkjoaaGreat
open Go.RowKit Dm

abbrev tERd : Nat := 214

theorem rd_box {w : World} {q : Nat} {l : List UInt8} (h : RdAt w q l) : ∃ W, w.alloc (.cells #[.pointer (some ⟨q, 0, none⟩)] tERd) = W ∧ Below w.heap.size w W ∧ RdAt W q l ∧ W.cell? ⟨w.heap.size, 0, none⟩ = some (.pointer (some ⟨q, 0, none⟩)) := by
  have B : Below w.heap.size w (w.alloc (.cells #[.pointer (some ⟨q, 0, none⟩)] tERd)) := (Below.refl _ _).alloc (Nat.le_refl _) _
  exact ⟨_, rfl, B, h.later B, row_cell (heap_alloc_last w _) rfl⟩

set_option maxRecDepth 100000 in
theorem enum_yes {w : World} {q : Nat} {l r : List UInt8} {most n : Nat} (h : RdAt w q l) (hl : l.length ≤ 1000000000) (hr : Wm.rnum most l = some (n, r)) :
    Calls Tryz.prog 148 #[.agg #[.pointer (some ⟨q, 0, none⟩)], .int .i64 most] w fun e w' => e = .returned (.int .i64 n) ∧ RdAt w' q r ∧ Moves (fun k => k = q) w w' := by
  obtain ⟨W, hW, B, hx, c0⟩ := rd_box h
  have NC := Lib.hid (number_yes hx hl hr)
  have HB := Lib.hid B
  clear h hx B
  go_enter Tryz.func148, Tryz.ntmps148
  go_wp2_with (first
    | (go_at_call 174; refine NC.out.mono ?_; rintro e w1 ⟨rfl, x1, m1⟩; have H1 := Lib.hid (And.intro x1 m1); clear x1 m1)
    | (go_at_call 109; refine (must_yes _).mono ?_; rintro e w' ⟨rfl, rfl⟩))
  go_ret
  exact ⟨rfl, H1.out.1, (Moves.of_below HB.out).trans H1.out.2 (fun _ _ h => h)⟩

set_option maxRecDepth 100000 in
theorem enum_no {w : World} {q : Nat} {l : List UInt8} {most : Nat} (h : RdAt w q l) (hl : l.length ≤ 1000000000) (hr : Wm.rnum most l = none) :
    Calls Tryz.prog 148 #[.agg #[.pointer (some ⟨q, 0, none⟩)], .int .i64 most] w fun e w' => e = .panicked gaveUp ∧ Moves (fun k => k = q) w w' := by
  obtain ⟨W, hW, B, hx, c0⟩ := rd_box h
  have NC := Lib.hid (number_no hx hl hr)
  have HB := Lib.hid B
  clear h hx B
  go_enter Tryz.func148, Tryz.ntmps148
  go_wp2_with (first
    | (go_at_call 174; refine NC.out.mono ?_; rintro e w1 ⟨rfl, m1⟩; have H1 := Lib.hid m1; clear m1)
    | (go_at_call 109; refine (must_no _).mono ?_; rintro e w' ⟨rfl, rfl⟩))
  exact ⟨rfl, rfl, (Moves.of_below HB.out).trans H1.out (fun _ _ h => h)⟩

set_option maxRecDepth 100000 in
theorem etext_yes {w : World} {q : Nat} {l r s : List UInt8} {most : Nat} (h : RdAt w q l) (hl : l.length ≤ 1000000000) (hr : Wm.rtext most l = some (s, r)) :
    Calls Tryz.prog 150 #[.agg #[.pointer (some ⟨q, 0, none⟩)], .int .i64 most] w fun e w' => e = .returned (strOfB s) ∧ RdAt w' q r ∧ Moves (fun k => k = q) w w' := by
  obtain ⟨W, hW, B, hx, c0⟩ := rd_box h
  have NC := Lib.hid (text_yes hx hl hr)
  have HB := Lib.hid B
  clear h hx B
  go_enter Tryz.func150, Tryz.ntmps150
  go_wp2_with (first
    | (go_at_call 178; refine NC.out.mono ?_; rintro e w1 ⟨rfl, x1, m1⟩; have H1 := Lib.hid (And.intro x1 m1); clear x1 m1)
    | (go_at_call 109; refine (must_yes _).mono ?_; rintro e w' ⟨rfl, rfl⟩))
  go_ret
  exact ⟨rfl, H1.out.1, (Moves.of_below HB.out).trans H1.out.2 (fun _ _ h => h)⟩

set_option maxRecDepth 100000 in
theorem etext_no {w : World} {q : Nat} {l : List UInt8} {most : Nat} (h : RdAt w q l) (hl : l.length ≤ 1000000000) (hr : Wm.rtext most l = none) :
    Calls Tryz.prog 150 #[.agg #[.pointer (some ⟨q, 0, none⟩)], .int .i64 most] w fun e w' => e = .panicked gaveUp ∧ Moves (fun k => k = q) w w' := by
  obtain ⟨W, hW, B, hx, c0⟩ := rd_box h
  have NC := Lib.hid (text_no hx hl hr)
  have HB := Lib.hid B
  clear h hx B
  go_enter Tryz.func150, Tryz.ntmps150
  go_wp2_with (first
    | (go_at_call 178; refine NC.out.mono ?_; rintro e w1 ⟨rfl, m1⟩; have H1 := Lib.hid m1; clear m1)
    | (go_at_call 109; refine (must_no _).mono ?_; rintro e w' ⟨rfl, rfl⟩))
  exact ⟨rfl, rfl, (Moves.of_below HB.out).trans H1.out (fun _ _ h => h)⟩

theorem wread_c {w : World} {F : Nat → Prop} {v : Value} {l : List UInt8} (h : BytesAt w.heap F v l) (hl : l.length ≤ 1000000000) :
    Calls Tryz.prog 173 #[v] w fun e w' => ∃ q, e = .returned (.pointer (some ⟨q, 0, none⟩)) ∧ RdAt w' q l ∧ w.heap.size ≤ q ∧ Below w.heap.size w w' := by
  have CL := Lib.hid (clone_c h (by omega))
  clear h
  go_enter Tryz.func173, Tryz.ntmps173
  go_wp2_with (go_at_call 98; refine CL.out.mono ?_; rintro e w1 hg
               obtain ⟨u, rfl, b1, y1⟩ := hg
               obtain ⟨ua, uc, rfl⟩ := y1.slice
               have H1 := Lib.hid (And.intro b1 y1)
               clear b1 y1)
  go_ret
  obtain ⟨b1, y1⟩ := H1.out
  have b2 : Below w1.heap.size w1 (w1.alloc (.cells #[.slice ua l.length uc, .bool true, .bool false] tReader)) := (Below.refl _ _).alloc (Nat.le_refl _) _
  refine ⟨w1.heap.size, rfl, ⟨_, heap_alloc_last w1 _, y1.keeps (fun k _ hl => b2.block k hl) (fun k _ hl => hl)⟩, b1.size, b1.trans (b2.mono b1.size)⟩

end Go.Proofs.YtgffifleflkjoaaGreat
