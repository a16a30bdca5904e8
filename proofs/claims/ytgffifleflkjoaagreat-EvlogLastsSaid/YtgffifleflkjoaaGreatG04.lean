/-
  Appends in part.
  A sector is written in part.
  What stands, copied.
  Go's library: a clone of steps.
  What stands, in memory, and what a step makes of it.
  What a step does, whole or in part.
-/
import Derived.Test.YtgffifleflkjoaaGreatG03
import Derived.Deep.RegionWith
import Derived.Laws.CopyOwn
import Derived.Shelf.SlMaps.Clone

namespace Go.Proofs.YtgffifleflkjoaaGreat
open Go.RowKit Dm

/-- What appends bytes to a tape is made. -/
theorem appended_c (t : Int) (a : Option Addr) (n c : Nat) (w : World) : Calls Tryz.prog 100 #[.int .i64 t, .slice a n c] w fun e w' =>
    e = .returned (.func (.func 142) #[] #[.pointer (some ⟨w.heap.size, 0, none⟩), .pointer (some ⟨w.heap.size + 1, 0, none⟩)]) ∧
      (w.alloc (.cells #[.int .i64 t] 3)).alloc (.cells #[.slice a n c] 31) = w' := by
  go_enter Tryz.func100, Tryz.ntmps100
  go_wp2
  go_ret
  exact ⟨rfl, rfl⟩

theorem pick_le (k : Int) (n : Nat) : 0 ≤ pick k (n + 1) ∧ pick k (n + 1) ≤ n := by
  unfold pick
  have h1 := Int.emod_nonneg k (b := (n : Int) + 1) (by omega)
  have h2 := Int.emod_lt_of_pos k (b := (n : Int) + 1) (by omega)
  exact ⟨h1, by omega⟩

set_option maxRecDepth 100000 in
set_option maxHeartbeats 2000000 in
theorem append1_some (q bt bx t b2 o2 len c2 : Nat) (k j : Int) (w : World) (R : World → Prop) (hk : -9223372036854775808 ≤ k) (hk' : k ≤ 9223372036854775807) (hlen : len ≤ 1048576) (hlc : len ≤ c2) (hc2 : c2 ≤ 9223372036854775807)
    (hj : pick k ((len : Int) + 1) = j) (hj0 : 0 ≤ j) (hj1 : j ≤ (len : Int))
    (hbt : w.cell? ⟨bt, 0, none⟩ = some (.int .i64 t)) (hbx : w.cell? ⟨bx, 0, none⟩ = some (.slice (some ⟨b2, o2, none⟩) len c2))
    (hR : Calls Tryz.prog 142 #[.pointer (some ⟨q, 0, none⟩), .pointer (some ⟨w.heap.size, 0, none⟩), .pointer (some ⟨w.heap.size + 1, 0, none⟩)]
      ((((w.drew).alloc (.cells #[.int .i64 t] 3)).alloc (.cells #[.slice (some ⟨b2, o2, none⟩) j.toNat c2] 31))) fun e w' => e = .returned (.tuple #[]) ∧ R w') :
    Calls Tryz.prog 101 #[.pointer (some ⟨q, 0, none⟩), .int .i64 k, .pointer (some ⟨bt, 0, none⟩), .pointer (some ⟨bx, 0, none⟩)] w fun e w' => e = .returned (.tuple #[]) ∧ R w' := by
  have HR := Lib.hid hR
  have HJ := Lib.hid hj
  clear hR hj
  have hwr : IntKind.i64.wrap ((len : Int) + 1) = (len : Int) + 1 := by simp [IntKind.wrap, IntKind.bits, IntKind.signed]; omega
  have hj2 : j ≤ (c2 : Int) := by omega
  have c1 : ∀ x : Ext w.heap.size w, x.world.cell? ⟨bt, 0, none⟩ = some (.int .i64 t) := fun x => x.cell (block_lt_of_cell hbt) hbt
  have c2' : ∀ x : Ext w.heap.size w, x.world.cell? ⟨bx, 0, none⟩ = some (.slice (some ⟨b2, o2, none⟩) len c2) := fun x => x.cell (block_lt_of_cell hbx) hbx
  go_enter Tryz.func101, Tryz.ntmps101
  go_wp2
  refine wp_region_hoist (fun w' => ∃ x : Ext w.heap.size w, w' = x.world) [10] (by kernel_rfl) ?_
  refine wpAnyI_reads [0, 1, 2, 3, 4, 5, 9] 4 _ ⟨⟨w.drew, (Below.refl _ _).drew⟩, rfl⟩ (by kernel_rfl) ?_
  simp only [List.filterMap_cons, List.filterMap_nil, List.getElem?_toArray, List.getElem?_cons_succ, List.getElem?_cons_zero]
  repeat (refine wpHoist_step (fun K hK => ?_); simp only [hoists, sameUpon]; go_simp; refine hK _ ?_; clear hK K)
  refine wpHoist_nil ?_
  refine wpAnyI_one 6 3 _ _ rfl (by kernel_rfl) ?_
  refine wpList_plain rfl fun K hK => ?_
  go_simp
  go_at_call 46
  refine (picked_c k ((len : Int) + 1) _ hk hk' (by omega) (by omega)).mono ?_
  rw [HJ.out]
  rintro e w' ⟨rfl, rfl⟩
  refine hK _ _ (wpList_nil ⟨rfl, fun _ => ⟨⟨w.drew, (Below.refl _ _).drew⟩, rfl⟩, ?_⟩)
  clear hK K
  refine wpAnyI_reads [7] 2 _ ⟨⟨w.drew, (Below.refl _ _).drew⟩, rfl⟩ (by kernel_rfl) ?_
  simp only [List.filterMap_cons, List.filterMap_nil, List.getElem?_toArray, List.getElem?_cons_succ, List.getElem?_cons_zero]
  repeat (refine wpHoist_step (fun K hK => ?_); simp only [hoists, sameUpon]; go_simp; refine hK _ ?_; clear hK K)
  refine wpHoist_nil ?_
  refine wpAnyI_one 8 1 _ _ rfl (by kernel_rfl) ?_
  refine wpList_plain rfl fun K hK => ?_
  go_simp
  go_at_call 100
  refine (appended_c _ _ _ _ _).mono ?_
  rintro e w' ⟨rfl, rfl⟩
  refine hK _ _ (wpList_nil ⟨rfl, fun _ => ⟨⟨_, (((Below.refl _ _).drew).alloc (Nat.le_refl _) _).alloc (by simp) _⟩, rfl⟩, ?_⟩)
  clear hK K
  refine wpAnyI_one 10 0 _ _ rfl (by kernel_rfl) ?_
  refine wpList_plain rfl fun K hK => ?_
  go_simp
  go_at_call 142
  refine HR.out.mono ?_
  rintro e w' ⟨rfl, hw⟩
  refine hK _ _ (wpList_nil ⟨rfl, fun h => absurd (List.mem_cons_self ..) h, by kernel_rfl, ?_⟩)
  clear hK K
  go_end0
  exact ⟨rfl, hw⟩

set_option maxRecDepth 100000 in
set_option maxHeartbeats 2000000 in
theorem append1_nil (q bt bx t : Nat) (k : Int) (w : World) (R : World → Prop) (hk : -9223372036854775808 ≤ k) (hk' : k ≤ 9223372036854775807)
    (hbt : w.cell? ⟨bt, 0, none⟩ = some (.int .i64 t)) (hbx : w.cell? ⟨bx, 0, none⟩ = some (.slice none 0 0))
    (hR : Calls Tryz.prog 142 #[.pointer (some ⟨q, 0, none⟩), .pointer (some ⟨w.heap.size, 0, none⟩), .pointer (some ⟨w.heap.size + 1, 0, none⟩)]
      ((((w.drew).alloc (.cells #[.int .i64 t] 3)).alloc (.cells #[.slice none 0 0] 31))) fun e w' => e = .returned (.tuple #[]) ∧ R w') :
    Calls Tryz.prog 101 #[.pointer (some ⟨q, 0, none⟩), .int .i64 k, .pointer (some ⟨bt, 0, none⟩), .pointer (some ⟨bx, 0, none⟩)] w fun e w' => e = .returned (.tuple #[]) ∧ R w' := by
  have HR := Lib.hid hR
  have HJ := Lib.hid (show pick k 1 = 0 by unfold pick; omega)
  clear hR
  have c1 : ∀ x : Ext w.heap.size w, x.world.cell? ⟨bt, 0, none⟩ = some (.int .i64 t) := fun x => x.cell (block_lt_of_cell hbt) hbt
  have c2' : ∀ x : Ext w.heap.size w, x.world.cell? ⟨bx, 0, none⟩ = some (.slice none 0 0) := fun x => x.cell (block_lt_of_cell hbx) hbx
  go_enter Tryz.func101, Tryz.ntmps101
  go_wp2
  refine wp_region_hoist (fun w' => ∃ x : Ext w.heap.size w, w' = x.world) [10] (by kernel_rfl) ?_
  refine wpAnyI_reads [0, 1, 2, 3, 4, 5, 9] 4 _ ⟨⟨w.drew, (Below.refl _ _).drew⟩, rfl⟩ (by kernel_rfl) ?_
  simp only [List.filterMap_cons, List.filterMap_nil, List.getElem?_toArray, List.getElem?_cons_succ, List.getElem?_cons_zero]
  repeat (refine wpHoist_step (fun K hK => ?_); simp only [hoists, sameUpon]; go_simp; refine hK _ ?_; clear hK K)
  refine wpHoist_nil ?_
  refine wpAnyI_one 6 3 _ _ rfl (by kernel_rfl) ?_
  refine wpList_plain rfl fun K hK => ?_
  go_simp
  go_at_call 46
  refine (picked_c k 1 _ hk hk' (by omega) (by omega)).mono ?_
  rw [HJ.out]
  rintro e w' ⟨rfl, rfl⟩
  refine hK _ _ (wpList_nil ⟨rfl, fun _ => ⟨⟨w.drew, (Below.refl _ _).drew⟩, rfl⟩, ?_⟩)
  clear hK K
  refine wpAnyI_reads [7] 2 _ ⟨⟨w.drew, (Below.refl _ _).drew⟩, rfl⟩ (by kernel_rfl) ?_
  simp only [List.filterMap_cons, List.filterMap_nil, List.getElem?_toArray, List.getElem?_cons_succ, List.getElem?_cons_zero]
  repeat (refine wpHoist_step (fun K hK => ?_); simp only [hoists, sameUpon]; go_simp; refine hK _ ?_; clear hK K)
  refine wpHoist_nil ?_
  refine wpAnyI_one 8 1 _ _ rfl (by kernel_rfl) ?_
  refine wpList_plain rfl fun K hK => ?_
  go_simp
  go_at_call 100
  refine (appended_c _ _ _ _ _).mono ?_
  rintro e w' ⟨rfl, rfl⟩
  refine hK _ _ (wpList_nil ⟨rfl, fun _ => ⟨⟨_, (((Below.refl _ _).drew).alloc (Nat.le_refl _) _).alloc (by simp) _⟩, rfl⟩, ?_⟩)
  clear hK K
  refine wpAnyI_one 10 0 _ _ rfl (by kernel_rfl) ?_
  refine wpList_plain rfl fun K hK => ?_
  go_simp
  go_at_call 142
  refine HR.out.mono ?_
  rintro e w' ⟨rfl, hw⟩
  refine hK _ _ (wpList_nil ⟨rfl, fun h => absurd (List.mem_cons_self ..) h, by kernel_rfl, ?_⟩)
  clear hK K
  go_end0
  exact ⟨rfl, hw⟩

/-- A beginning of bytes is appended to a tape. -/
theorem append1 (q bt bx t : Nat) (k : Int) (v v2 : Value) (l l2 : List UInt8) (F : Nat → Prop) (w : World) (ht : t < 4) (hk : -9223372036854775808 ≤ k) (hk' : k ≤ 9223372036854775807) (h1 : l.length ≤ 1048576) (h2 : l2.length ≤ 1048576)
    (hbt : w.cell? ⟨bt, 0, none⟩ = some (.int .i64 t)) (hbx : w.cell? ⟨bx, 0, none⟩ = some v2) (hq : w.cell? ⟨q, 1 + t, none⟩ = some v) (hf : w.frozen? ⟨q, 1 + t, none⟩ = false)
    (hv : BytesAt w.heap F v l) (hv2 : BytesAt w.heap F v2 l2) :
    Calls Tryz.prog 101 #[.pointer (some ⟨q, 0, none⟩), .int .i64 k, .pointer (some ⟨bt, 0, none⟩), .pointer (some ⟨bx, 0, none⟩)] w fun e w' => e = .returned (.tuple #[]) ∧ TapeIn w F q t (l ++ l2.take (pick k (l2.length + 1)).toNat) w' := by
  have lt := block_lt_of_cell hq
  obtain ⟨p0, p1⟩ := pick_le k l2.length
  have mid : ∀ (u : Value), BytesAt w.heap F u (l2.take (pick k (l2.length + 1)).toNat) →
      Calls Tryz.prog 142 #[.pointer (some ⟨q, 0, none⟩), .pointer (some ⟨w.heap.size, 0, none⟩), .pointer (some ⟨w.heap.size + 1, 0, none⟩)]
        ((w.drew.alloc (.cells #[.int .i64 t] 3)).alloc (.cells #[u] 31)) fun e w' => e = .returned (.tuple #[]) ∧ TapeIn w F q t (l ++ l2.take (pick k (l2.length + 1)).toNat) w' := by
    intro u hu
    have hb : Below w.heap.size w ((w.drew.alloc (.cells #[.int .i64 t] 3)).alloc (.cells #[u] 31)) := (((Below.refl _ _).drew).alloc (Nat.le_refl _) _).alloc (by simp) _
    have st : ∀ {x : Value} {y : List UInt8}, BytesAt w.heap F x y → BytesAt ((w.drew.alloc (.cells #[.int .i64 t] 3)).alloc (.cells #[u] 31)).heap F x y := by
      intro x y hx
      rcases hx with hx | ⟨b, o, cap, c, tt, fr, g1, g2, g3, g4, g5, g6⟩
      · exact Or.inl hx
      · exact Or.inr ⟨b, o, cap, c, tt, fr, g1, g2, g3, g4, (hb.block b (Array.getElem?_eq_some_iff.1 g5).1).trans g5, g6⟩
    refine (appended1 q w.heap.size (w.heap.size + 1) t v u l (l2.take (pick k (l2.length + 1)).toNat) F _ ht ?_ ?_ ?_ ((hb.cell lt).trans hq) ((hb.frozen lt).trans hf) (st hv) (st hu)).mono ?_
    · simp only [List.length_take]; omega
    · rw [World.cell?_alloc_past _ _ _ (by simp)]
      exact cell_of_row _ _ _ _ _ _ (heap_alloc_last w.drew (.cells #[.int .i64 t] 3))
    · have e : w.heap.size + 1 = (w.drew.alloc (.cells #[.int .i64 t] 3)).heap.size := by simp
      rw [e, cell_of_row _ _ _ _ _ _ (heap_alloc_last (w.drew.alloc (.cells #[.int .i64 t] 3)) (.cells #[u] 31))]
      rfl
    · rintro e w' ⟨rfl, v', w1, x1, x2, rfl⟩
      refine ⟨rfl, v', w1, hb.trans (x1.mono hb.size), x2.stays (fun _ _ => rfl) (fun i hi => ?_), rfl⟩
      rcases hi with hi | hi
      · exact Or.inl hi
      · exact Or.inr (Nat.le_trans hb.size hi)
  rcases hv2 with ⟨rfl, rfl⟩ | ⟨b, o, cap, c, tt, fr, rfl, g2, g3, g4, g5, g6⟩
  · refine append1_nil q bt bx t k w _ hk hk' hbt hbx (mid _ (Or.inl ⟨rfl, by simp⟩))
  · refine append1_some q bt bx t b o l2.length cap k _ w _ hk hk' h2 g2 g3 rfl p0 p1 hbt hbx (mid _ (Or.inr ⟨b, o, cap, c, tt, fr, ?_, ?_, g3, g4, g5, fun i x hi => g6 i x ?_⟩))
    · simp only [List.length_take]; congr 1; omega
    · simp only [List.length_take]; omega
    · rw [List.getElem?_take] at hi
      split at hi
      · exact hi
      · cases hi

end Go.Proofs.YtgffifleflkjoaaGreat

namespace Go.Proofs.YtgffifleflkjoaaGreat
open Go.RowKit Dm

theorem one_bvals (l : List UInt8) : ∀ v ∈ l.map bval, v.oneCell' = true := by
  intro v hv
  obtain ⟨x, _, rfl⟩ := List.mem_map.1 hv
  rfl

theorem all_bvals (l : List UInt8) : (l.map bval).toArray.all (·.oneCell') = true := by
  simp [Array.all_eq_true]
  intro i hi
  rfl

theorem pick_lt (k : Int) (n : Nat) (hn : 0 < n) : 0 ≤ pick k n ∧ pick k n < n := by
  unfold pick
  exact ⟨Int.emod_nonneg k (by omega), Int.emod_lt_of_pos k (by omega)⟩

end Go.Proofs.YtgffifleflkjoaaGreat

namespace Go.Proofs.YtgffifleflkjoaaGreat
open Go.RowKit Dm

set_option maxRecDepth 100000 in
theorem mclone (m : Nat) (es : Array MapEntry) (clock : Nat) (w : World) (hb : w.heap[m]? = some (.map es clock)) :
    Calls Tryz.prog 64 #[.map (some m)] w fun e w' => e = .returned (.map (some w.heap.size)) ∧ w' = w.alloc (.map es clock) := by
  have hq := fun w => run_eql_map_nil_sl (P := Tryz.prog) w tMap _ _ (some m) Tryz.underlying89
  go_enter Tryz.func64, Tryz.ntmps64
  go_wp2
  rw [run_callFunc_extern Tryz.func103 (by kernel_rfl) (by kernel_rfl) (by kernel_rfl) (e := Extern.MapsClone.clone) (by kernel_rfl), run_maps_clone_sl w tMap hb]
  simp only [Result.andThen]
  rw [Oper.upon_value]
  go_wp2
  rw [run_typeAssert_map_sl _ tMap 20 _ _ _ Tryz.underlying89]
  simp only [Result.andThen]
  rw [Oper.upon_value]
  go_wp2
  go_ret
  exact ⟨rfl, rfl⟩

abbrev stand0 : Array Value := #[.map none, .slice none 0 0, .slice none 0 0, .slice none 0 0, .slice none 0 0]

set_option maxRecDepth 100000 in
set_option maxHeartbeats 2000000 in
theorem copied_c (q o m : Nat) (ho : o = 0 ∨ o = 5) (t0 t1 t2 t3 : Value) (es : Array MapEntry) (clock : Nat) (w : World) (h0 : w.cell? ⟨q, o, none⟩ = some (.map (some m))) (h1 : w.cell? ⟨q, o + 1, none⟩ = some t0)
    (h2 : w.cell? ⟨q, o + 2, none⟩ = some t1) (h3 : w.cell? ⟨q, o + 3, none⟩ = some t2) (h4 : w.cell? ⟨q, o + 4, none⟩ = some t3) (hm : w.heap[m]? = some (.map es clock)) (h5 : #[t0, t1, t2, t3].all (·.oneCell') = true) :
    Calls Tryz.prog 31 #[.pointer (some ⟨q, o, none⟩)] w fun e w' => e = .returned (.agg #[.map (some (w.heap.size + 1)), t0, t1, t2, t3]) ∧ Below w.heap.size w w' ∧
      w'.heap[w.heap.size + 1]? = some (.map es clock) := by
  have HM := Lib.hid hm
  have H5 := Lib.hid h5
  clear h5
  have ltm : m < w.heap.size := (Array.getElem?_eq_some_iff.1 hm).1
  have lt := block_lt_of_cell h0
  simp only at lt
  have ne : Nonempty (Wd (Below w.heap.size w)) := ⟨⟨w, Below.refl _ _⟩⟩
  clear hm
  rcases ho with rfl | rfl
  all_goals
    have x0 : ∀ x : Wd (Below w.heap.size w), _ := fun x => (x.ok.cell (p := ⟨q, _, none⟩) lt).trans h0
    have x1 : ∀ x : Wd (Below w.heap.size w), _ := fun x => (x.ok.cell (p := ⟨q, _, none⟩) lt).trans h1
    have x2 : ∀ x : Wd (Below w.heap.size w), _ := fun x => (x.ok.cell (p := ⟨q, _, none⟩) lt).trans h2
    have x3 : ∀ x : Wd (Below w.heap.size w), _ := fun x => (x.ok.cell (p := ⟨q, _, none⟩) lt).trans h3
    have x4 : ∀ x : Wd (Below w.heap.size w), _ := fun x => (x.ok.cell (p := ⟨q, _, none⟩) lt).trans h4
    simp only [Nat.zero_add, Nat.reduceAdd] at x0 x1 x2 x3 x4
    go_enter Tryz.func31, Tryz.ntmps31
    go_wp2
    refine wp_region_hoist (fun w' => ∃ x : Wd (Below w.heap.size w), w' = x.world) [] (by kernel_rfl) ?_
    refine wpAnyI_reads [0, 1, 2, 3, 5, 6, 7, 8] 3 _ ⟨⟨_, ((Below.refl _ _).alloc (Nat.le_refl _) _).drew⟩, rfl⟩ (by kernel_rfl) ?_
    simp only [List.filterMap_cons, List.filterMap_nil, List.getElem?_toArray, List.getElem?_cons_succ, List.getElem?_cons_zero]
    repeat (refine wpHoist_step (fun K hK => ?_); simp only [hoists, sameUpon]; go_simp; refine hK _ ?_; clear hK K)
    refine wpHoist_nil ?_
    refine wpAnyI_one 4 2 _ _ rfl (by kernel_rfl) ?_
    refine wpList_plain rfl fun K hK => ?_
    go_simp
    go_at_call 64
    refine (mclone m es clock _ ?_).mono ?_
    · exact (Below.heap_alloc w _ m ltm).trans HM.out
    rintro e w' ⟨rfl, rfl⟩
    refine hK _ _ (wpList_nil ⟨rfl, fun _ => ⟨⟨_, (((Below.refl _ _).alloc (Nat.le_refl _) _).drew.alloc (by simp) _)⟩, rfl⟩, ?_⟩)
    clear hK K
    refine wpAnyI_reads [9] 1 _ ⟨⟨_, (((Below.refl _ _).alloc (Nat.le_refl _) _).drew.alloc (by simp) _)⟩, rfl⟩ (by kernel_rfl) ?_
    simp only [List.filterMap_cons, List.filterMap_nil, List.getElem?_toArray, List.getElem?_cons_succ, List.getElem?_cons_zero]
    repeat (refine wpHoist_step (fun K hK => ?_); simp only [hoists, sameUpon]; go_simp; refine hK _ ?_; clear hK K)
    refine wpHoist_nil ?_
    refine wpAnyI_one 10 0 _ _ rfl (by kernel_rfl) ?_
    have r0 : ((w.alloc (.cells stand0 91)).drew.alloc (.map es clock)).heap[w.heap.size]? = some (.cells stand0 91 (0, 0)) := (Below.heap_alloc _ _ _ (by simp)).trans (heap_alloc_last w _)
    have r1 : ((w.alloc (.cells stand0 91)).drew.alloc (.map es clock)).heap[w.heap.size + 1]? = some (.map es clock) := by
      have := heap_alloc_last (w.alloc (.cells stand0 91)).drew (.map es clock)
      simpa using this
    refine wpList_store_abs rfl 91 (.tmp 2) (.tmp 12) rfl w.heap.size #[.map (some (w.heap.size + 1)), t0, t1, t2, t3] rfl rfl 91 stand0 r0 (by kernel_rfl) (by kernel_rfl) (by have := H5.out; simp at this ⊢; exact ⟨rfl, this⟩) ?_
    intro W1 HW HM1 HS
    have HW1 := Lib.hid ((HM1.block (w.heap.size + 1) (by simp) (by omega)).trans r1)
    have HB : Below w.heap.size w W1 := (((Below.refl _ _).alloc (Nat.le_refl _) _).drew.alloc (by simp) _).trans ⟨HM1.os, HM1.tape, HM1.output, HM1.size, fun k hk => HM1.block k (by simp; omega) (by omega)⟩
    clear r0 r1
    refine wpList_nil ⟨rfl, fun _ => ⟨⟨_, HB⟩, rfl⟩, by kernel_rfl, ?_⟩
    go_wp2
    refine bodyPost_ret (results_cell_row rfl _ _ w.heap.size _ _ _ _ rfl HW.out Tryz.underlying91 rfl (by kernel_rfl)) rfl ?_
    exact ⟨rfl, HB, HW1.out⟩

end Go.Proofs.YtgffifleflkjoaaGreat

namespace Go.Proofs.YtgffifleflkjoaaGreat
open Go.RowKit Dm

abbrev step0 : Value := .agg #[.nilFunc, .nilFunc, .int .i64 0, .int .i64 0, .int .i64 0, .int .i64 0, .string ⟨#[]⟩]
theorem infoStep : (Tryz.prog.info? tStep).map (fun i => (i.zero, i.size, i.bytes)) = some (some step0, 7, 64) := by kernel_rfl

theorem clones_nil (w : World) : Calls Tryz.prog 141 #[.slice none 0 0] w fun e w' => e = .returned (.slice none 0 0) ∧ w = w' := by
  have h1 := Lib.run_eql_slice_nil (P := Tryz.prog)
  go_enter Tryz.func141, Tryz.ntmps141
  go_wp2
  go_ret
  exact ⟨rfl, rfl⟩

theorem addr_add (b o j : Nat) : (⟨b, o, none⟩ : Addr).add j = ⟨b, o + j, none⟩ := by unfold Addr.add; split <;> simp_all

set_option maxRecDepth 100000 in
theorem clones_some (b o n cap : Nat) (cs : List Value) (w : World) (hn : n ≤ 1099511627776) (hl : cs.length = n * 7) (hc : ∀ i x, cs[i]? = some x → w.cell? ⟨b, o + i, none⟩ = some x) (h1 : ∀ u ∈ cs, u.oneCell' = true) :
    Calls Tryz.prog 141 #[.slice (some ⟨b, o, none⟩) n cap] w fun e w' => ∃ v', e = .returned v' ∧ Below w.heap.size w w' ∧ w'.ownsRow w.heap.size tStep 7 v' n cs := by
  obtain ⟨i0, hi, hz0, hz1, hz2⟩ := info_parts infoStep
  have hown : (w.alloc (.cells #[] tStep)).ownsRow w.heap.size tStep 7 (.slice (some ⟨w.heap.size, 0, none⟩) 0 0) 0 [] :=
    ⟨rfl, Or.inr ⟨w.heap.size, 0, #[], rfl, Nat.le_refl _, heap_alloc_last _ _, Nat.le_refl _, Nat.zero_le _, rfl, rfl⟩⟩
  have s2 : ∀ j u, cs[j]? = some u → (w.alloc (.cells #[] tStep)).cell? ((⟨b, o, none⟩ : Addr).add j) = some u := by
    intro j u hj
    have hc := hc j u hj
    rw [addr_add, World.cell?_alloc_past _ _ _ (block_lt_of_cell hc)]
    exact hc
  have HO := Lib.hid hown
  have HI := Lib.hid (And.intro hi (And.intro hz0 (And.intro hz1 hz2)))
  have HS := Lib.hid (And.intro s2 h1)
  clear hc hown hi hz0 hz1 hz2 s2 h1
  have hnil := fun (w : World) (a : Option Addr) (n c : Nat) => Lib.run_eql_slice_nil (P := Tryz.prog) w 93 tStep a n c 0 0 Tryz.underlying93
  go_enter Tryz.func141, Tryz.ntmps141
  go_wp2_with (at_builtin; refine wpList_append_own _ rfl (.tmp 5) (.tmp 6) 93 rfl w.heap.size tStep i0 step0 7 64 Tryz.underlying93 HI.out.1 HI.out.2.1 HI.out.2.2.1 HI.out.2.2.2 rfl (by decide) _ 0 [] rfl HO.out ⟨b, o, none⟩ n cap cs rfl hl HS.out.1 HS.out.2 (by unfold maxLen; omega) (by omega) (by simp) ?_; intro v' w1 hown1 hgrow _)
  go_ret
  refine ⟨_, rfl, (((Below.refl _ _).alloc (Nat.le_refl _) _).grown hgrow (by simp) (fun k e => by cases e; exact Nat.le_refl _)), ?_⟩
  rw [List.nil_append, Nat.zero_add] at hown1
  exact hown1

end Go.Proofs.YtgffifleflkjoaaGreat

namespace Go.Proofs.YtgffifleflkjoaaGreat
open Go.RowKit Dm

theorem BytesAt.keeps {h h' : Array Obj} {F F' : Nat → Prop} {v : Value} {l : List UInt8} (x : BytesAt h F v l) (hs : ∀ k, F k → k < h.size → h'[k]? = h[k]?) (hF : ∀ k, F k → k < h.size → F' k) : BytesAt h' F' v l := by
  rcases x with x | ⟨b, o, cap, c, t, fr, h1, h2, h3, g2, g3, g4⟩
  · exact Or.inl x
  · have lt := (Array.getElem?_eq_some_iff.1 g3).1
    exact Or.inr ⟨b, o, cap, c, t, fr, h1, h2, h3, hF _ g2 lt, (hs _ g2 lt).trans g3, g4⟩

theorem lt_of_row {h : Array Obj} {b : Nat} {o : Obj} (g : h[b]? = some o) : b < h.size := (Array.getElem?_eq_some_iff.1 g).1

theorem StepAt.keeps {h h' : Array Obj} {F F' : Nat → Prop} {s : Step} {a b c d e f g : Value} (x : StepAt h F s a b c d e f g) (hs : ∀ k, F k → k < h.size → h'[k]? = h[k]?) (hF : ∀ k, F k → k < h.size → F' k) : StepAt h' F' s a b c d e f g := by
  obtain ⟨h1, h2, h3, h4, h5⟩ := x
  refine ⟨h1, h2, h3, h4, ?_⟩
  rcases h5 with ⟨g1, g2, bn, bx, f1, f2, g3, g4, g5, g6⟩ | ⟨g1, g2, bt, bx, bt', bx', v, f1, f2, f3, f4, g3, g4, g5, g6, g7, g8, g9⟩ | ⟨g1, g2, bt, bn, f1, f2, g3, g4, g5, g6⟩
  · exact Or.inl ⟨g1, g2, bn, bx, hF _ f1 (lt_of_row g5), hF _ f2 (lt_of_row g6), g3, g4, (hs _ f1 (lt_of_row g5)).trans g5, (hs _ f2 (lt_of_row g6)).trans g6⟩
  · exact Or.inr (Or.inl ⟨g1, g2, bt, bx, bt', bx', v, hF _ f1 (lt_of_row g5), hF _ f2 (lt_of_row g7), hF _ f3 (lt_of_row g6), hF _ f4 (lt_of_row g8), g3, g4, (hs _ f1 (lt_of_row g5)).trans g5, (hs _ f3 (lt_of_row g6)).trans g6, (hs _ f2 (lt_of_row g7)).trans g7, (hs _ f4 (lt_of_row g8)).trans g8, g9.keeps hs hF⟩)
  · exact Or.inr (Or.inr ⟨g1, g2, bt, bn, hF _ f1 (lt_of_row g5), hF _ f2 (lt_of_row g6), g3, g4, (hs _ f1 (lt_of_row g5)).trans g5, (hs _ f2 (lt_of_row g6)).trans g6⟩)

theorem StepsAt.keeps {h h' : Array Obj} {F F' : Nat → Prop} {v : Value} {l : List Step} (x : StepsAt h F v l) (hs : ∀ k, F k → k < h.size → h'[k]? = h[k]?) (hF : ∀ k, F k → k < h.size → F' k) : StepsAt h' F' v l := by
  rcases x with x | ⟨b, o, cap, c, t, fr, h1, h2, h3, g2, g3, g4⟩
  · exact Or.inl x
  · refine Or.inr ⟨b, o, cap, c, t, fr, h1, h2, h3, hF _ g2 (lt_of_row g3), (hs _ g2 (lt_of_row g3)).trans g3, fun i s hi => ?_⟩
    obtain ⟨d, p, tp, w0, w1, w2, st, e0, e1, e2, e3, e4, e5, e6, e7⟩ := g4 i s hi
    exact ⟨d, p, tp, w0, w1, w2, st, e0, e1, e2, e3, e4, e5, e6, e7.keeps hs hF⟩

/-- What stands, in the first five cells of a block. -/
def StandAt (h : Array Obj) (q m : Nat) (x : St) (F : Nat → Prop) (ty : TypeId) (rest : List Value) : Prop :=
  ∃ t0 t1 t2 t3, h[q]? = some (.cells (.map (some m) :: t0 :: t1 :: t2 :: t3 :: rest).toArray ty (0, 0)) ∧ SecMap h m x.sec ∧
    BytesAt h F t0 (x.tp 0) ∧ BytesAt h F t1 (x.tp 1) ∧ BytesAt h F t2 (x.tp 2) ∧ BytesAt h F t3 (x.tp 3) ∧ ¬ F m ∧ ¬ F q ∧ m ≠ q

theorem StandAt.keeps {h h' : Array Obj} {q m : Nat} {x : St} {F F' : Nat → Prop} {ty : TypeId} {rest : List Value} (s : StandAt h q m x F ty rest) (hq : h'[q]? = h[q]?) (hm : h'[m]? = h[m]?) (hs : ∀ k, F k → k < h.size → h'[k]? = h[k]?)
    (hF : ∀ k, F k → k < h.size → F' k) (hF' : ∀ k, F' k → F k ∨ h.size ≤ k) : StandAt h' q m x F' ty rest := by
  obtain ⟨t0, t1, t2, t3, c1, c2, b0, b1, b2, b3, n1, n2, n3⟩ := s
  have lq := lt_of_row c1
  have lm : m < h.size := by obtain ⟨es, cl, g, _⟩ := c2; exact lt_of_row g
  refine ⟨t0, t1, t2, t3, hq.trans c1, c2.stays hm, b0.keeps hs hF, b1.keeps hs hF, b2.keeps hs hF, b3.keeps hs hF, fun k => ?_, fun k => ?_, n3⟩
  · rcases hF' _ k with k | k
    · exact n1 k
    · omega
  · rcases hF' _ k with k | k
    · exact n2 k
    · omega

/-- The footprint has grown by blocks that were made. -/
structure Grows (F F' : Nat → Prop) (w w' : World) : Prop where
  old : ∀ k, F k → k < w.heap.size → F' k
  new : ∀ k, F' k → F k ∨ (w.heap.size ≤ k ∧ k < w'.heap.size)

/-- F, and what was made between. -/
def plus (F : Nat → Prop) (w w' : World) : Nat → Prop := fun k => F k ∨ (w.heap.size ≤ k ∧ k < w'.heap.size)
theorem grows_plus (F : Nat → Prop) (w w' : World) : Grows F (plus F w w') w w' := ⟨fun _ h _ => Or.inl h, fun _ h => h⟩

theorem Grows.refl (F : Nat → Prop) (w : World) (w' : World) : Grows F F w w' := ⟨fun _ h _ => h, fun _ h => Or.inl h⟩

theorem Grows.trans {F F' F'' : Nat → Prop} {a b c : World} (h : Grows F F' a b) (k : Grows F' F'' b c) (ha : a.heap.size ≤ b.heap.size) (hb : b.heap.size ≤ c.heap.size) : Grows F F'' a c :=
  ⟨fun i h1 h2 => k.old i (h.old i h1 h2) (by omega), fun i h1 => by
    rcases k.new i h1 with h1 | h1
    · rcases h.new i h1 with h1 | h1
      · exact Or.inl h1
      · exact Or.inr ⟨h1.1, by omega⟩
    · exact Or.inr ⟨by omega, h1.2⟩⟩

/-- What has been done to what stands at q, whose map is m. -/
structure Did (w : World) (q m : Nat) (x : St) (F : Nat → Prop) (ty : TypeId) (rest : List Value) (e : Ending) (w' : World) : Prop where
  ret : e = .returned (.tuple #[])
  moves : Moves (fun k => k = q ∨ k = m) w w'
  stand : StandAt w'.heap q m x (plus F w w') ty rest

theorem four {P : Nat → Prop} {t : Nat} (ht : t < 4) (h0 : P 0) (h1 : P 1) (h2 : P 2) (h3 : P 3) : P t := by
  obtain rfl | rfl | rfl | rfl : t = 0 ∨ t = 1 ∨ t = 2 ∨ t = 3 := by omega
  all_goals assumption

/-- One tape's cell is written. -/
theorem stand_tape {w w1 : World} {q m : Nat} {x : St} {F : Nat → Prop} {ty : TypeId} {rest : List Value} (s : StandAt w.heap q m x F ty rest) (t : Nat) (ht : t < 4) (l : List UInt8) (v : Value) (hb : Below w.heap.size w w1)
    (hv : BytesAt w1.heap (fun k => F k ∨ w.heap.size ≤ k) v l) :
    StandAt (w1.setCell ⟨q, 1 + t, none⟩ v).heap q m { x with tp := upd x.tp t l } (plus F w (w1.setCell ⟨q, 1 + t, none⟩ v)) ty rest ∧ Moves (fun k => k = q ∨ k = m) w (w1.setCell ⟨q, 1 + t, none⟩ v) := by
  have hsz : (w1.setCell ⟨q, 1 + t, none⟩ v).heap.size = w1.heap.size := by simp
  obtain ⟨t0, t1, t2, t3, c1, c2, b0, b1, b2, b3, n1, n2, n3⟩ := s
  have lq := lt_of_row c1
  have lm : m < w.heap.size := by obtain ⟨es, cl, g, _⟩ := c2; exact lt_of_row g
  have hq := heap_setCell_same w1 q (1 + t) _ ty v ((hb.block q lq).trans c1)
  have ho : ∀ k, k ≠ q → (w1.setCell ⟨q, 1 + t, none⟩ v).heap[k]? = w1.heap[k]? := fun k hk => heap_setCell_other w1 _ k v hk
  have st : ∀ {u : Value} {y : List UInt8}, BytesAt w.heap F u y → BytesAt (w1.setCell ⟨q, 1 + t, none⟩ v).heap (plus F w (w1.setCell ⟨q, 1 + t, none⟩ v)) u y := fun h =>
    h.keeps (fun k hk hl => (ho k (fun e => n2 (e ▸ hk))).trans (hb.block k hl)) (fun k hk _ => Or.inl hk)
  have sv : BytesAt (w1.setCell ⟨q, 1 + t, none⟩ v).heap (plus F w (w1.setCell ⟨q, 1 + t, none⟩ v)) v l :=
    hv.keeps (fun k hk hl => ho k (fun e => by rcases hk with hk | hk; exact n2 (e ▸ hk); omega)) (fun k hk hl => by
      rcases hk with hk | hk
      · exact Or.inl hk
      · exact Or.inr ⟨hk, by rw [hsz]; exact hl⟩)
  refine ⟨?_, ⟨hb.os, hb.tape, hb.output, by rw [hsz]; exact hb.size, fun k hk hn => (ho k (fun e => hn (Or.inl e))).trans (hb.block k hk)⟩⟩
  have nm : ¬ plus F w (w1.setCell ⟨q, 1 + t, none⟩ v) m := fun k => by rcases k with k | k; exact n1 k; omega
  have nq : ¬ plus F w (w1.setCell ⟨q, 1 + t, none⟩ v) q := fun k => by rcases k with k | k; exact n2 k; omega
  have sm : SecMap (w1.setCell ⟨q, 1 + t, none⟩ v).heap m x.sec := c2.stays ((ho m n3).trans (hb.block m lm))
  obtain rfl | rfl | rfl | rfl : t = 0 ∨ t = 1 ∨ t = 2 ∨ t = 3 := by omega
  · exact ⟨v, t1, t2, t3, hq.trans (by simp), sm, sv, st b1, st b2, st b3, nm, nq, n3⟩
  · exact ⟨t0, v, t2, t3, hq.trans (by simp), sm, st b0, sv, st b2, st b3, nm, nq, n3⟩
  · exact ⟨t0, t1, v, t3, hq.trans (by simp), sm, st b0, st b1, sv, st b3, nm, nq, n3⟩
  · exact ⟨t0, t1, t2, v, hq.trans (by simp), sm, st b0, st b1, st b2, sv, nm, nq, n3⟩

/-- A sector's entry is written. -/
theorem stand_sec {w w' : World} {q m : Nat} {x : St} {F : Nat → Prop} {ty : TypeId} {rest : List Value} (s : StandAt w.heap q m x F ty rest) (f : Int → List UInt8) (hm : SecMap w'.heap m f) (hv : Moves (fun i => i = m) w w') :
    StandAt w'.heap q m { x with sec := f } (plus F w w') ty rest ∧ Moves (fun k => k = q ∨ k = m) w w' := by
  refine ⟨?_, hv.mono (fun _ => Or.inr)⟩
  obtain ⟨t0, t1, t2, t3, c1, c2, b0, b1, b2, b3, n1, n2, n3⟩ := s
  have lq := lt_of_row c1
  have lm : m < w.heap.size := by obtain ⟨es, cl, g, _⟩ := c2; exact lt_of_row g
  have st : ∀ {u : Value} {y : List UInt8}, BytesAt w.heap F u y → BytesAt w'.heap (plus F w w') u y := fun h =>
    h.keeps (fun k hk hl => hv.block k hl (fun e => n1 (e ▸ hk))) (fun k hk _ => Or.inl hk)
  refine ⟨t0, t1, t2, t3, (hv.block q lq (fun e => n3 e.symm)).trans c1, hm, st b0, st b1, st b2, st b3, fun k => ?_, fun k => ?_, n3⟩
  · rcases k with k | k
    · exact n1 k
    · omega
  · rcases k with k | k
    · exact n2 k
    · omega

/-- The cells of what stands. -/
theorem StandAt.cell {w : World} {q m : Nat} {x : St} {F : Nat → Prop} {ty : TypeId} {rest : List Value} (s : StandAt w.heap q m x F ty rest) :
    w.cell? ⟨q, 0, none⟩ = some (.map (some m)) ∧ ∀ t : Nat, t < 4 → ∃ v, w.cell? ⟨q, 1 + t, none⟩ = some v ∧ w.frozen? ⟨q, 1 + t, none⟩ = false ∧ BytesAt w.heap F v (x.tp t) := by
  obtain ⟨t0, t1, t2, t3, c1, c2, b0, b1, b2, b3, n1, n2, n3⟩ := s
  refine ⟨by rw [cell_of_row _ _ _ _ _ _ c1]; simp, fun t ht => ?_⟩
  have hf : ∀ i, w.frozen? ⟨q, i, none⟩ = false := fun i => by simp [World.frozen?, c1]
  obtain rfl | rfl | rfl | rfl : t = 0 ∨ t = 1 ∨ t = 2 ∨ t = 3 := by omega
  · exact ⟨t0, by rw [cell_of_row _ _ _ _ _ _ c1]; simp, hf _, b0⟩
  · exact ⟨t1, by rw [cell_of_row _ _ _ _ _ _ c1]; simp, hf _, b1⟩
  · exact ⟨t2, by rw [cell_of_row _ _ _ _ _ _ c1]; simp, hf _, b2⟩
  · exact ⟨t3, by rw [cell_of_row _ _ _ _ _ _ c1]; simp, hf _, b3⟩

end Go.Proofs.YtgffifleflkjoaaGreat

namespace Go.Proofs.YtgffifleflkjoaaGreat
open Go.RowKit Dm

/-- A function's value, called. -/
def Runs (v : Value) (args : Array Value) (w : World) (R : Ending → World → Prop) : Prop :=
  ∃ fn lb, v = .func (.func fn) #[] lb ∧ (∀ args w, (callFunc fn args).run Tryz.prog w = .ok (.enter fn args) w) ∧ Calls Tryz.prog fn (args ++ lb) w R

theorem natOf {n k : Int} (h0 : 0 ≤ n) (h1 : n ≤ k) : ∃ t : Nat, n = t ∧ (t : Int) ≤ k := ⟨n.toNat, by omega, by omega⟩

theorem does_c (s : Step) (many : Int) (hs : s.ok many) (q m : Nat) (x : St) (F : Nat → Prop) (ty : TypeId) (rest : List Value) (w : World) (does part tape w0 w1 w2 str : Value) (hst : StepAt w.heap F s does part tape w0 w1 w2 str)
    (hx : ∀ t, (x.tp t).length ≤ 1048576) (h : StandAt w.heap q m x F ty rest) : Runs does #[.pointer (some ⟨q, 0, none⟩)] w (Did w q m (x.done s) F ty rest) := by
  obtain ⟨_, _, _, _, h5⟩ := hst
  obtain ⟨k0, kt⟩ := h.cell
  rcases h5 with ⟨g1, g2, bn, bx, f1, f2, g3, g4, g5, g6⟩ | ⟨g1, g2, bt, bx, bt', bx', v, f1, f2, f3, f4, g3, g4, g5, g6, g7, g8, g9⟩ | ⟨g1, g2, bt, bn, f1, f2, g3, g4, g5, g6⟩
  · have hb : s.b.length = 256 := by
      rcases hs with hs | hs | hs
      · exact hs.2.2.2.2
      · omega
      · omega
    have hm : SecMap w.heap m x.sec := by obtain ⟨t0, t1, t2, t3, c1, c2, _⟩ := h; exact c2
    exact absurd rfl g3
  · have hb : 0 ≤ s.n ∧ s.n ≤ 3 ∧ s.b.length ≤ 1048576 := by
      rcases hs with hs | hs | hs
      · omega
      · exact ⟨hs.2.1, hs.2.2.1, hs.2.2.2.2⟩
      · omega
    obtain ⟨t, et, ht⟩ := natOf hb.1 hb.2.1
    obtain ⟨u, hu1, hu2, hu3⟩ := kt t (by omega)
    have lx := hx t
    refine ⟨_, _, g3, enters_of Tryz.func142 (by kernel_rfl) rfl, (appended1 q bt' bx' t u v (x.tp t) s.b F w (by omega) (by omega) (by rw [cell_of_row _ _ _ _ _ _ g6, et]; rfl) (by rw [cell_of_row _ _ _ _ _ _ g8]; rfl) hu1 hu2 hu3 g9).mono ?_⟩
    rintro e w' ⟨rfl, v', w1, z1, z2, rfl⟩
    obtain ⟨y1, y2⟩ := stand_tape h t (by omega) _ _ z1 z2
    exact ⟨rfl, y2, by simpa [St.done, g1, et] using y1⟩
  · have hb : 0 ≤ s.n ∧ s.n ≤ 3 ∧ 0 ≤ s.many ∧ s.many ≤ 1048576 := by
      rcases hs with hs | hs | hs
      · omega
      · omega
      · exact ⟨hs.2.1, hs.2.2.1, hs.2.2.2.1, hs.2.2.2.2.1⟩
    obtain ⟨t, et, ht⟩ := natOf hb.1 hb.2.1
    obtain ⟨k, ek, hk⟩ := natOf hb.2.2.1 hb.2.2.2
    obtain ⟨u, hu1, hu2, hu3⟩ := kt t (by omega)
    have c1 : w.cell? ⟨bt, 0, none⟩ = some (.int .i64 t) := by rw [cell_of_row _ _ _ _ _ _ g5, et]; rfl
    have c2 : w.cell? ⟨bn, 0, none⟩ = some (.int .i64 k) := by rw [cell_of_row _ _ _ _ _ _ g6, ek]; rfl
    refine ⟨_, _, g3, enters_of Tryz.func122 (by kernel_rfl) rfl, ?_⟩
    have fin : ∀ v', BytesAt w.heap F v' ((x.tp t).take k) → ∀ e w', (e = .returned (.tuple #[]) ∧ (w.setCell ⟨q, 1 + t, none⟩ v').drew = w') → Did w q m (x.done s) F ty rest e w' := by
      rintro v' hv' e w' ⟨rfl, rfl⟩
      obtain ⟨y1, y2⟩ := stand_tape h t (by omega) _ v' (Below.refl _ _) (hv'.stays (fun _ _ => rfl) (fun _ => Or.inl))
      refine ⟨rfl, ⟨y2.os, y2.tape, y2.output, y2.size, y2.block⟩, ?_⟩
      have e1 : s.what ≠ 1 := by omega
      have e2 : s.what ≠ 2 := by omega
      have y3 : StandAt (w.setCell ⟨q, 1 + t, none⟩ v').heap q m (x.done s) (plus F w (w.setCell ⟨q, 1 + t, none⟩ v')) ty rest := by simpa [St.done, e1, e2, et, ek] using y1
      exact y3
    rcases hu3 with ⟨rfl, hl⟩ | ⟨b, o, cap, c, tt, fr, rfl, r2, r3, r4, r5, r6⟩
    · refine (cut1_n q bt bn t k w (by omega) (by omega) c1 c2 hu1 hu2).mono (fin _ (Or.inl ⟨rfl, by rw [hl]; simp⟩))
    · by_cases hc : (x.tp t).length < k
      · refine (cut1_a q bt bn t k b o _ cap w (by omega) r2 r3 hc (by omega) c1 c2 hu1 hu2).mono (fin _ (Or.inr ⟨b, o, cap, c, tt, fr, ?_, ?_, r3, r4, r5, fun i y hi => r6 i y ?_⟩))
        · rw [List.take_of_length_le (by omega)]
        · rw [List.take_of_length_le (by omega)]; exact r2
        · rwa [List.take_of_length_le (by omega)] at hi
      · refine (cut1_b q bt bn t k b o _ cap w (by omega) r2 r3 (by omega) (by omega) c1 c2 hu1 hu2).mono (fin _ (Or.inr ⟨b, o, cap, c, tt, fr, ?_, ?_, r3, r4, r5, fun i y hi => r6 i y ?_⟩))
        · simp only [List.length_take]; congr 1; omega
        · simp only [List.length_take]; omega
        · rw [List.getElem?_take] at hi
          split at hi
          · exact hi
          · cases hi

theorem part_c (s : Step) (many : Int) (hs : s.ok many) (q m : Nat) (x : St) (F : Nat → Prop) (ty : TypeId) (rest : List Value) (w : World) (does part tape w0 w1 w2 str : Value) (k : Int) (hk : -9223372036854775808 ≤ k) (hk' : k ≤ 9223372036854775807)
    (hst : StepAt w.heap F s does part tape w0 w1 w2 str)
    (hx : ∀ t, (x.tp t).length ≤ 1048576) (hy : ∀ n, (x.sec n).length = 256) (h : StandAt w.heap q m x F ty rest) : Runs part #[.pointer (some ⟨q, 0, none⟩), .int .i64 k] w (Did w q m (x.part s k) F ty rest) := by
  obtain ⟨_, _, _, _, h5⟩ := hst
  obtain ⟨k0, kt⟩ := h.cell
  rcases h5 with ⟨g1, g2, bn, bx, f1, f2, g3, g4, g5, g6⟩ | ⟨g1, g2, bt, bx, bt', bx', v, f1, f2, f3, f4, g3, g4, g5, g6, g7, g8, g9⟩ | ⟨g1, g2, bt, bn, f1, f2, g3, g4, g5, g6⟩
  · have hb : s.b.length = 256 := by
      rcases hs with hs | hs | hs
      · exact hs.2.2.2.2
      · omega
      · omega
    have hm : SecMap w.heap m x.sec := by obtain ⟨t0, t1, t2, t3, c1, c2, _⟩ := h; exact c2
    exact absurd rfl g3
  · have hb : 0 ≤ s.n ∧ s.n ≤ 3 ∧ s.b.length ≤ 1048576 := by
      rcases hs with hs | hs | hs
      · omega
      · exact ⟨hs.2.1, hs.2.2.1, hs.2.2.2.2⟩
      · omega
    obtain ⟨t, et, ht⟩ := natOf hb.1 hb.2.1
    obtain ⟨u, hu1, hu2, hu3⟩ := kt t (by omega)
    have lx := hx t
    refine ⟨_, _, g4, enters_of Tryz.func101 (by kernel_rfl) rfl, (append1 q bt bx t k u v (x.tp t) s.b F w (by omega) hk hk' (by omega) (by omega) (by rw [cell_of_row _ _ _ _ _ _ g5, et]; rfl) (by rw [cell_of_row _ _ _ _ _ _ g7]; rfl) hu1 hu2 hu3 g9).mono ?_⟩
    rintro e w' ⟨rfl, v', w1, z1, z2, rfl⟩
    obtain ⟨y1, y2⟩ := stand_tape h t (by omega) _ _ z1 z2
    exact ⟨rfl, y2, by simpa [St.part, St.done, g1, et] using y1⟩
  · refine ⟨_, _, g4, enters_of Tryz.func123 (by kernel_rfl) rfl, (cut2 _ k w).mono ?_⟩
    rintro e w' ⟨rfl, rfl⟩
    refine ⟨rfl, Moves.refl _ _, ?_⟩
    have e1 : s.what ≠ 1 := by omega
    have e2 : s.what ≠ 2 := by omega
    have : x.part s k = x := by simp [St.part, e1, e2]
    rw [this]
    exact h.keeps rfl rfl (fun _ _ _ => rfl) (fun _ h _ => Or.inl h) (fun k h => by rcases h with h | h; exact Or.inl h; exact Or.inr h.1)

end Go.Proofs.YtgffifleflkjoaaGreat
