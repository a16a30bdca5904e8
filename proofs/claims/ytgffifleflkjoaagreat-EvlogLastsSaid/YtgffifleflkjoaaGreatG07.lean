/-
  Append.
  Small laws on memory: cells stored in the middle of a block; cells of a block that is known whole.
  Append, Cut, Stop.
  Stop, Used.
-/
import Derived.Test.YtgffifleflkjoaaGreatG03
import Derived.Test.YtgffifleflkjoaaGreatG06
import Derived.Deep.MidRow

namespace Go.Proofs.YtgffifleflkjoaaGreat
open Go.RowKit Dm

theorem BytesAt.slice {h : Array Obj} {F : Nat → Prop} {v : Value} {l : List UInt8} (x : BytesAt h F v l) : ∃ a c, v = .slice a l.length c := by
  rcases x with ⟨rfl, rfl⟩ | ⟨b, o, cap, c, t, fr, rfl, _⟩
  · exact ⟨_, _, rfl⟩
  · exact ⟨_, _, rfl⟩

/-- Bytes are cloned. -/
theorem clone_c {w : World} {G : Nat → Prop} {v : Value} {l : List UInt8} (x : BytesAt w.heap G v l) (hl : l.length ≤ 1099511627776) : Calls Tryz.prog 98 #[v] w (GivesBytes w l) := by
  rcases x with ⟨rfl, rfl⟩ | ⟨b, o, cap, c, t, fr, rfl, h2, h3, g2, g3, g4⟩
  · refine (clone_nil w).mono ?_
    rintro e w' ⟨rfl, rfl⟩
    exact ⟨_, rfl, Below.refl _ _, Or.inl ⟨rfl, rfl⟩⟩
  · exact clone_some b o cap l w hl (fun i x hi => (cell_of_row _ _ _ _ _ _ g3).trans (g4 i x hi))

/-- How many bytes a disk's tapes have. -/
theorem used_d {p m : Nat} {d : D} {F : Nat → Prop} {w : World} (x : DiskAt w.heap p m d F) : Calls Tryz.prog 97 #[.pointer (some ⟨p, 0, none⟩)] w fun e w' => e = .returned (.int .i64 d.stand.used) ∧ Below w.heap.size w w' := by
  have hok := x.ok
  have b : ∀ t, ((d.stand.tp t).length : Int) ≤ 1048576 := fun t => Int.le_trans (by exact_mod_cast stand_tapes hok t) hok.room1
  have b0 := b 0
  have b1 := b 1
  have b2 := b 2
  have b3 := b 3
  obtain ⟨t0, t1, t2, t3, ml, l0, l1, l2, l3, wv, stops, after, c1, _, _, _, _, _, _, _, _, s0, s1, s2, s3, _⟩ := x.cells
  obtain ⟨a0, e0, rfl⟩ := s0.slice
  obtain ⟨a1, e1, rfl⟩ := s1.slice
  obtain ⟨a2, e2, rfl⟩ := s2.slice
  obtain ⟨a3, e3, rfl⟩ := s3.slice
  refine (used_c p 0 (Or.inl rfl) a0 a1 a2 a3 (d.stand.tp 0).length (d.stand.tp 1).length (d.stand.tp 2).length (d.stand.tp 3).length e0 e1 e2 e3 (by omega) w ?_ ?_ ?_ ?_).mono ?_
  · rw [cell_of_row _ _ _ _ _ _ c1]; rfl
  · rw [cell_of_row _ _ _ _ _ _ c1]; rfl
  · rw [cell_of_row _ _ _ _ _ _ c1]; rfl
  · rw [cell_of_row _ _ _ _ _ _ c1]; rfl
  · rintro e w' ⟨rfl, hb⟩
    refine ⟨?_, hb⟩
    unfold St.used
    simp

theorem append_none (v bv : Value) (n : Int) (w : World) (h : NoneD w v) : Calls Tryz.prog 59 #[v, .int .i64 n, bv] w fun e w' => e = .returned (.int .i64 1) ∧ Below w.heap.size w w' := by
  have hb : Below w.heap.size w (w.alloc (.cells #[.int .i64 n] 3)) := (Below.refl _ _).alloc (Nat.le_refl _) _
  have H := Lib.hid (h.below hb)
  clear h
  go_enter Tryz.func59, Tryz.ntmps59
  go_wp2_with (go_at_call 45; refine (none_c H.out).mono ?_; rintro e w' ⟨rfl, rfl⟩)
  go_ret
  exact ⟨rfl, hb⟩

theorem append_range (p : Nat) (bv : Value) (n : Int) (w : World) (h : w.cell? ⟨p, 16, none⟩ = some (.bool true)) (hn : n < 0 ∨ 4 ≤ n) :
    Calls Tryz.prog 59 #[.pointer (some ⟨p, 0, none⟩), .int .i64 n, bv] w fun e w' => e = .returned (.int .i64 4) ∧ Below w.heap.size w w' := by
  have hb : Below w.heap.size w (w.alloc (.cells #[.int .i64 n] 3)) := (Below.refl _ _).alloc (Nat.le_refl _) _
  have h' := (hb.cell (p := ⟨p, 16, none⟩) (block_lt_of_cell h)).trans h
  by_cases hn0 : n < 0
  all_goals
    have hn2 : ¬ n < 0 → 4 ≤ n := fun h => by omega
    simp only [hn0, not_true_eq_false, not_false_eq_true, forall_const, false_implies] at hn2
    go_enter Tryz.func59, Tryz.ntmps59
    go_wp2_with (go_at_call 45; refine (none_at p true _ h').mono ?_; rintro e w' ⟨rfl, rfl⟩)
    go_ret
    exact ⟨rfl, hb⟩

set_option maxRecDepth 100000 in
set_option maxHeartbeats 1000000 in
theorem append_full (p l c : Nat) (a : Option Addr) (n room u : Int) (w : World) (h : w.cell? ⟨p, 16, none⟩ = some (.bool true)) (h2 : w.cell? ⟨p, 12, none⟩ = some (.int .i64 room)) (hn0 : 0 ≤ n) (hn1 : n < 4) (hu0 : 0 ≤ u) (hu1 : u ≤ 4194304) (hl : l ≤ 1099511627776) (hf : u + l > room)
    (hU : ∀ W, Below w.heap.size w W → Calls Tryz.prog 97 #[.pointer (some ⟨p, 0, none⟩)] W fun e w' => e = .returned (.int .i64 u) ∧ Below W.heap.size W w') :
    Calls Tryz.prog 59 #[.pointer (some ⟨p, 0, none⟩), .int .i64 n, .slice a l c] w fun e w' => e = .returned (.int .i64 280) ∧ Below w.heap.size w w' := by
  have hb : Below w.heap.size w (w.alloc (.cells #[.int .i64 n] 3)) := (Below.refl _ _).alloc (Nat.le_refl _) _
  have lt : p < w.heap.size := block_lt_of_cell h
  have h' := (hb.cell (p := ⟨p, 16, none⟩) lt).trans h
  have hw : IntKind.i64.wrap (u + (l : Int)) = u + (l : Int) := IntWalk.i64_in _ (by omega)
  have nlt : ¬ n < 0 := by omega
  have nge : ¬ 4 ≤ n := by omega
  have gt : room < u + (l : Int) := hf
  have HU := Lib.hid hU
  clear hU hf
  have ne : Nonempty (Wd (Below w.heap.size w)) := ⟨⟨w, Below.refl _ _⟩⟩
  have x2 : ∀ x : Wd (Below w.heap.size w), x.world.cell? ⟨p, 12, none⟩ = some (.int .i64 room) := fun x => (x.ok.cell (p := ⟨p, 12, none⟩) lt).trans h2
  go_enter Tryz.func59, Tryz.ntmps59
  go_wp2_with (go_at_call 45; refine (none_at p true _ h').mono ?_; rintro e w' ⟨rfl, rfl⟩)
  refine wp_region_hoist (fun w' => ∃ x : Wd (Below w.heap.size w), w' = x.world) [] (by kernel_rfl) ?_
  refine wpAnyI_reads [0, 1, 2, 4, 5, 7, 8, 9, 10] 4 _ ⟨⟨_, hb.drew⟩, rfl⟩ (by kernel_rfl) ?_
  simp only [List.filterMap_cons, List.filterMap_nil, List.getElem?_toArray, List.getElem?_cons_succ, List.getElem?_cons_zero]
  repeat (refine wpHoist_step (fun K hK => ?_); simp only [hoists, sameUpon]; go_simp; refine hK _ ?_; clear hK K)
  refine wpHoist_nil ?_
  refine wpAnyI_one 3 3 _ _ rfl (by kernel_rfl) ?_
  refine wpList_plain rfl fun K hK => ?_
  go_simp
  go_at_call 97
  refine (HU.out _ hb.drew).mono ?_
  rintro e W1 ⟨rfl, hb1⟩
  have hb2 := hb.drew.trans (hb1.mono (by simp))
  refine hK _ _ (wpList_nil ⟨rfl, fun _ => ⟨⟨_, hb2⟩, rfl⟩, ?_⟩)
  clear hK K
  refine wpAnyI_reads [6, 11, 12] 0 _ ⟨⟨_, hb2⟩, rfl⟩ (by kernel_rfl) ?_
  simp only [List.filterMap_cons, List.filterMap_nil, List.getElem?_toArray, List.getElem?_cons_succ, List.getElem?_cons_zero]
  repeat (refine wpHoist_step (fun K hK => ?_); simp only [hoists, sameUpon]; go_simp; refine hK _ ?_; clear hK K)
  refine wpHoist_nil ?_
  refine ⟨by kernel_rfl, ?_⟩
  go_wp2
  go_ret
  exact ⟨rfl, hb2⟩

set_option maxRecDepth 100000 in
set_option maxHeartbeats 2000000 in
theorem append_live (p l c : Nat) (a : Option Addr) (n room u : Int) (bs : List UInt8) (w : World) (R : Ending → World → Prop) (h : w.cell? ⟨p, 16, none⟩ = some (.bool true)) (h2 : w.cell? ⟨p, 12, none⟩ = some (.int .i64 room)) (hn0 : 0 ≤ n) (hn1 : n < 4) (hu0 : 0 ≤ u) (hu1 : u ≤ 4194304) (hl : l ≤ 1099511627776) (hf : ¬ u + l > room)
    (hU : ∀ W, Below w.heap.size w W → Calls Tryz.prog 97 #[.pointer (some ⟨p, 0, none⟩)] W fun e w' => e = .returned (.int .i64 u) ∧ Below W.heap.size W w')
    (F : Nat → Prop) (hv : BytesAt w.heap F (.slice a l c) bs)
    (hR : ∀ W g v, Below w.heap.size w W → w.heap.size < g → W.heap[w.heap.size]? = some (.cells #[.int .i64 n] 3 (0, 0)) → W.heap[g]? = some (.cells #[v] tBytes (0, 0)) → W.heap[g + 1]? = some (.cells #[.int .i64 n] 3 (0, 0)) → W.heap[g + 2]? = some (.cells #[v] tBytes (0, 0)) → W.heap.size = g + 3 → BytesAt W.heap (fun k => w.heap.size ≤ k) v bs →
      Calls Tryz.prog 99 #[.pointer (some ⟨p, 0, none⟩), .agg #[.func (.func 142) #[] #[.pointer (some ⟨g + 1, 0, none⟩), .pointer (some ⟨g + 2, 0, none⟩)],
        .func (.func 101) #[] #[.pointer (some ⟨w.heap.size, 0, none⟩), .pointer (some ⟨g, 0, none⟩)], .int .i64 n, .int .i64 2, .int .i64 n, .int .i64 0, .string ⟨bs.toArray⟩]] W fun e w' => ∃ k, e = .returned (.int .i64 k) ∧ R e w') :
    Calls Tryz.prog 59 #[.pointer (some ⟨p, 0, none⟩), .int .i64 n, .slice a l c] w R := by
  have hb : Below w.heap.size w (w.alloc (.cells #[.int .i64 n] 3)) := (Below.refl _ _).alloc (Nat.le_refl _) _
  have lt : p < w.heap.size := block_lt_of_cell h
  have h' := (hb.cell (p := ⟨p, 16, none⟩) lt).trans h
  have r0 : (w.alloc (.cells #[.int .i64 n] 3)).heap[w.heap.size]? = some (.cells #[.int .i64 n] 3 (0, 0)) := heap_alloc_last w _
  have hw : IntKind.i64.wrap (u + (l : Int)) = u + (l : Int) := IntWalk.i64_in _ (by omega)
  have nlt : ¬ n < 0 := by omega
  have nge : ¬ 4 ≤ n := by omega
  have gt : ¬ room < u + (l : Int) := hf
  have hlen : bs.length = l := by
    rcases hv with ⟨h1, rfl⟩ | ⟨b', o', cap', cc, t, fr, h1, _⟩
    · simp only [Value.slice.injEq] at h1; simp [h1.2.1]
    · simp only [Value.slice.injEq] at h1; exact h1.2.1.symm
  have HU := Lib.hid hU
  have HV := Lib.hid hv
  have HR := Lib.hid hR
  have HB := Lib.hid (And.intro hb (And.intro r0 (And.intro hlen hl)))
  clear hU hf hv hR r0 hlen
  have ne : Nonempty (Wd (Below w.heap.size w)) := ⟨⟨w, Below.refl _ _⟩⟩
  have x2 : ∀ x : Wd (Below w.heap.size w), x.world.cell? ⟨p, 12, none⟩ = some (.int .i64 room) := fun x => (x.ok.cell (p := ⟨p, 12, none⟩) lt).trans h2
  go_enter Tryz.func59, Tryz.ntmps59
  go_wp2_with (go_at_call 45; refine (none_at p true _ h').mono ?_; rintro e w' ⟨rfl, rfl⟩)
  refine wp_region_hoist (fun w' => ∃ x : Wd (Below w.heap.size w), w' = x.world) [] (by kernel_rfl) ?_
  refine wpAnyI_reads [0, 1, 2, 4, 5, 7, 8, 9, 10] 4 _ ⟨⟨_, hb.drew⟩, rfl⟩ (by kernel_rfl) ?_
  simp only [List.filterMap_cons, List.filterMap_nil, List.getElem?_toArray, List.getElem?_cons_succ, List.getElem?_cons_zero]
  repeat (refine wpHoist_step (fun K hK => ?_); simp only [hoists, sameUpon]; go_simp; refine hK _ ?_; clear hK K)
  refine wpHoist_nil ?_
  refine wpAnyI_one 3 3 _ _ rfl (by kernel_rfl) ?_
  refine wpList_plain rfl fun K hK => ?_
  go_simp
  go_at_call 97
  refine (HU.out _ hb.drew).mono ?_
  rintro e W1 ⟨rfl, hb1⟩
  have hb2 := hb.drew.trans (hb1.mono (by simp))
  refine hK _ _ (wpList_nil ⟨rfl, fun _ => ⟨⟨_, hb2⟩, rfl⟩, ?_⟩)
  clear hK K
  refine wpAnyI_reads [6, 11, 12] 0 _ ⟨⟨_, hb2⟩, rfl⟩ (by kernel_rfl) ?_
  simp only [List.filterMap_cons, List.filterMap_nil, List.getElem?_toArray, List.getElem?_cons_succ, List.getElem?_cons_zero]
  repeat (refine wpHoist_step (fun K hK => ?_); simp only [hoists, sameUpon]; go_simp; refine hK _ ?_; clear hK K)
  refine wpHoist_nil ?_
  refine ⟨by kernel_rfl, ?_⟩
  have s1 : w.heap.size < W1.heap.size := by have := hb1.size; simp at this; omega
  have r1 : W1.heap[w.heap.size]? = some (.cells #[.int .i64 n] 3 (0, 0)) := (hb1.block w.heap.size (by simp)).trans HB.out.2.1
  have H1 := Lib.hid (And.intro hb2 (And.intro s1 r1))
  clear hb1 hb2 s1 r1 hb x2 ne h2 h'
  go_wp2_with (go_at_call 98
               refine (clone_c (HV.out.below H1.out.1) (by rw [HB.out.2.2.1]; exact HB.out.2.2.2)).mono ?_
               rintro e W2 ⟨v, rfl, hb2, hv2⟩
               obtain ⟨a2, c2, rfl⟩ := hv2.slice)
  clear gt nlt nge hw
  have hb3 : Below w.heap.size w (W2.alloc (.cells #[.slice a2 bs.length c2] tBytes)) := (H1.out.1.trans (hb2.mono (by have := H1.out.2.1; omega))).alloc (by have := H1.out.2.1; have := hb2.size; omega) _
  have s2 : w.heap.size < W2.heap.size := by have := H1.out.2.1; have := hb2.size; omega
  have r2 : W2.heap[w.heap.size]? = some (.cells #[.int .i64 n] 3 (0, 0)) := (hb2.block _ H1.out.2.1).trans H1.out.2.2
  have r3 : (W2.alloc (.cells #[.slice a2 bs.length c2] tBytes)).heap[w.heap.size]? = some (.cells #[.int .i64 n] 3 (0, 0)) := heap_past s2 r2
  have r4 : (W2.alloc (.cells #[.slice a2 bs.length c2] tBytes)).heap[W2.heap.size]? = some (.cells #[.slice a2 bs.length c2] tBytes (0, 0)) := heap_at _ rfl
  obtain ⟨W3, hW3⟩ : ∃ W3, W2.alloc (.cells #[.slice a2 bs.length c2] tBytes) = W3 := ⟨_, rfl⟩
  have s3 : W3.heap.size = W2.heap.size + 1 := by rw [← hW3]; simp
  have hv3 : BytesAt W3.heap (fun k => w.heap.size ≤ k) (.slice a2 bs.length c2) bs := by
    rw [← hW3]
    exact hv2.keeps (fun k _ hk => heap_old_own _ _ _ hk) (fun k hk _ => by have := H1.out.2.1; show w.heap.size ≤ k; have hk' : W1.heap.size ≤ k := hk; omega)
  simp only [tBytes] at hW3
  rw [hW3] at hb3 r3 r4 ⊢
  clear hW3 hv2 hb2 r2
  have x1 : ∀ x : Wd (Below W3.heap.size W3), x.world.cell? ⟨w.heap.size, 0, none⟩ = some (.int .i64 n) := fun x => (x.ok.cell (p := ⟨w.heap.size, 0, none⟩) (lt_of_row r3)).trans ((cell_of_row _ _ _ _ _ _ r3).trans rfl)
  have x2 : ∀ x : Wd (Below W3.heap.size W3), x.world.cell? ⟨W2.heap.size, 0, none⟩ = some (.slice a2 bs.length c2) := fun x => (x.ok.cell (p := ⟨W2.heap.size, 0, none⟩) (lt_of_row r4)).trans ((cell_of_row _ _ _ _ _ _ r4).trans rfl)
  have x3 : ∀ x : Wd (Below W3.heap.size W3), (convert tBytes 9 (.slice a l c)).run Tryz.prog x.world = .ok (.string ⟨bs.toArray⟩) x.world := fun x => run_string_of (HV.out.below (hb3.trans (x.ok.mono (by omega))))
  have ne : Nonempty (Wd (Below W3.heap.size W3)) := ⟨⟨W3, Below.refl _ _⟩⟩
  have H3 := Lib.hid (And.intro hb3 (And.intro r3 (And.intro r4 (And.intro hv3 s3))))
  clear hb3 r3 r4 hv3 s3
  refine wp_region_hoist (fun w' => ∃ x : Wd (Below W3.heap.size W3), w' = x.world) [11, 12] (by kernel_rfl) ?_
  refine wpAnyI_reads [0, 1, 2, 4, 5, 6, 7, 8, 9] 4 _ ⟨⟨_, (Below.refl _ _).drew⟩, rfl⟩ (by kernel_rfl) ?_
  simp only [List.filterMap_cons, List.filterMap_nil, List.getElem?_toArray, List.getElem?_cons_succ, List.getElem?_cons_zero]
  repeat (refine wpHoist_step (fun K hK => ?_); simp only [hoists, sameUpon]; go_simp; refine hK _ ?_; clear hK K)
  refine wpHoist_nil ?_
  refine wpAnyI_one 3 3 _ _ rfl (by kernel_rfl) ?_
  refine wpList_plain rfl fun K hK => ?_
  go_simp
  go_at_call 100
  refine (appended_c _ _ _ _ _).mono ?_
  rintro e w' ⟨rfl, rfl⟩
  refine hK _ _ (wpList_nil ⟨rfl, fun _ => ⟨⟨_, (((Below.refl _ _).drew).alloc (Nat.le_refl _) _).alloc (by simp) _⟩, rfl⟩, ?_⟩)
  clear hK K
  refine wpAnyI_reads [10] 2 _ ⟨⟨_, (((Below.refl _ _).drew).alloc (Nat.le_refl _) _).alloc (by simp) _⟩, rfl⟩ (by kernel_rfl) ?_
  simp only [List.filterMap_cons, List.filterMap_nil, List.getElem?_toArray, List.getElem?_cons_succ, List.getElem?_cons_zero]
  repeat (refine wpHoist_step (fun K hK => ?_); simp only [hoists, sameUpon]; go_simp; refine hK _ ?_; clear hK K)
  refine wpHoist_nil ?_
  refine wpAnyI_one 11 1 _ _ rfl (by kernel_rfl) ?_
  refine wpList_plain rfl fun K hK => ?_
  go_simp
  go_at_call 99
  have hz3 := H3.out.2.2.2.2
  rw [hz3]
  have hbb : Below W3.heap.size W3 ((W3.alloc (.cells #[.int .i64 n] 3)).alloc (.cells #[.slice a2 bs.length c2] tBytes)).drew := (((Below.refl _ _).alloc (Nat.le_refl _) _).alloc (by simp) _).drew
  refine (HR.out _ W2.heap.size (.slice a2 bs.length c2) (H3.out.1.trans (hbb.mono (by omega))) s2 ((hbb.block _ (lt_of_row H3.out.2.1)).trans H3.out.2.1) ((hbb.block _ (by omega)).trans H3.out.2.2.1) ?_ ?_ ?_ ?_).mono ?_
  · exact (heap_past (w := W3.alloc (.cells #[.int .i64 n] 3)) (by simp; omega) (heap_at (w := W3) _ hz3.symm))
  · exact heap_at (w := W3.alloc (.cells #[.int .i64 n] 3)) _ (by simp; omega)
  · show ((W3.alloc (.cells #[.int .i64 n] 3)).alloc (.cells #[.slice a2 bs.length c2] tBytes)).heap.size = _
    simp; omega
  · exact H3.out.2.2.2.1.keeps (fun k _ hk => hbb.block k hk) (fun _ h _ => h)
  rintro e w' ⟨k, rfl, hr⟩
  refine hK _ _ (wpList_nil ⟨rfl, fun h => absurd (by decide) h, ?_⟩)
  clear hK K
  refine wpAnyI_one 12 0 _ _ rfl (by kernel_rfl) ?_
  refine wpList_plain rfl fun K hK => ?_
  go_simp
  refine hK _ _ (wpList_nil ⟨rfl, fun h => absurd (by decide) h, by kernel_rfl, ?_⟩)
  clear hK K
  go_wp2
  exact hr

end Go.Proofs.YtgffifleflkjoaaGreat

namespace Go.Proofs.YtgffifleflkjoaaGreat
open Go.RowKit

/-- Cells with others from o on. -/
def spl (c : Array Value) (o : Nat) : List Value → Array Value
  | [] => c
  | v :: vs => spl (c.setIfInBounds o v) (o + 1) vs

theorem setCells_row (g : Nat) (t : TypeId) : ∀ (vs : List Value) (o : Nat) (c : Array Value) (w : World), w.heap[g]? = some (.cells c t (0, 0)) →
    (w.setCells g o vs).heap[g]? = some (.cells (spl c o vs) t (0, 0)) ∧ Moves (fun k => k = g) w (w.setCells g o vs) ∧ (w.setCells g o vs).heap.size = w.heap.size
  | [], _, _, w, h => ⟨h, Moves.refl _ _, rfl⟩
  | v :: vs, o, c, w, h => by
    obtain ⟨h1, h2, h3⟩ := setCells_row g t vs (o + 1) (c.setIfInBounds o v) (w.setCell ⟨g, o, none⟩ v) (heap_setCell_same w g o c t v h)
    refine ⟨h1, ⟨h2.os, h2.tape, h2.output, ?_, fun k hk hn => ?_⟩, h3.trans (by simp)⟩
    · rw [show w.heap.size = (w.setCell ⟨g, o, none⟩ v).heap.size by simp]; exact h2.size
    · exact (h2.block k (by simpa using hk) hn).trans (heap_setCell_other w _ k v hn)

theorem there_of_row {w : World} {g o n : Nat} {c : Array Value} {t : TypeId} (h : w.heap[g]? = some (.cells c t (0, 0))) (hl : o + n ≤ c.size) : w.there g o n := fun j hj => by
  refine ⟨?_, by simp [World.frozen?, h]⟩
  rw [cell_of_row _ _ _ _ _ _ h, Array.getElem?_eq_getElem (by omega)]
  rfl

section
variable {P : Program} {ops : Array Oper}
/-- An aggregate stored in the middle of a block: the world behind it is told by what it holds. -/
theorem wpList_store_midA {rest : List Oper} {o : Oper} {a : Act} {w : World} {Q : Exit → Act → World → Prop} (hgd : o.guard = none) (ty : TypeId) (x y : Operand) (ho : o.op = .store ty x y)
    (g off : Nat) (cells : Array Value) (hx : a.eval x = .pointer (some ⟨g, off, none⟩)) (hy : a.eval y = .agg cells)
    (t : TypeId) (c : Array Value) (hg : w.heap[g]? = some (.cells c t (0, 0))) (hi : (P.info? ty).map (·.size) = some cells.size)
    (hl : off + cells.size ≤ c.size) (h1 : cells.all (·.oneCell') = true)
    (h : ∀ W, Hid (W.heap[g]? = some (.cells (spl c off cells.toList) t (0, 0))) → Moves (fun k => k = g) w W → W.heap.size = w.heap.size → wpList P ops Q rest (a.put o.dst undef) W) : wpList P ops Q (o :: rest) a w := by
  obtain ⟨h2, h3, h4⟩ := setCells_row g t cells.toList off c w hg
  exact wpList_store_mid hgd ty x y ho g off cells hx hy (there_of_row hg (by simpa using hl)) hi h1 (h _ h2 h3 h4)
end

theorem row_cell {w : World} {g : Nat} {c : Array Value} {t : TypeId} {fr : Nat × Nat} (h : w.heap[g]? = some (.cells c t fr)) {j : Nat} {v : Value} (hj : c[j]? = some v) : w.cell? ⟨g, j, none⟩ = some v := (cell_of_row _ _ _ _ _ _ h).trans hj
theorem row_free {w : World} {g : Nat} {c : Array Value} {t : TypeId} (h : w.heap[g]? = some (.cells c t (0, 0))) (j : Nat) : w.frozen? ⟨g, j, none⟩ = false := by simp [World.frozen?, h]

theorem below_drewN {B : Nat} {w w' : World} (h : Below B w w') (n : Nat) : Below B w (w'.drewN n) := ⟨h.os, h.tape, h.output, h.size, h.block⟩

/-- Steps that leave all old blocks but g as they were, g being new: nothing old has turned. -/
theorem Moves.new {w W W' : World} {g : Nat} (hb : Below w.heap.size w W) (hm : Moves (fun k => k = g) W W') (hg : w.heap.size ≤ g) : Below w.heap.size w W' :=
  hb.trans ⟨hm.os, hm.tape, hm.output, hm.size, fun k hk => hm.block k (by have := hb.size; omega) (fun e => by omega)⟩

end Go.Proofs.YtgffifleflkjoaaGreat

namespace Go.Proofs.YtgffifleflkjoaaGreat
open Go.RowKit Dm

theorem used_nonneg (x : St) : 0 ≤ x.used := by unfold St.used; omega
theorem used_le {d : D} (h : d.ok) : d.stand.used ≤ 4194304 := by
  have b : ∀ t, ((d.stand.tp t).length : Int) ≤ 1048576 := fun t => Int.le_trans (by exact_mod_cast stand_tapes h t) h.room1
  have := b 0; have := b 1; have := b 2; have := b 3
  unfold St.used; omega

theorem tp_le_used (x : St) (t : Int) (h0 : 0 ≤ t) (h1 : t ≤ 3) : ((x.tp t).length : Int) ≤ x.used := by
  obtain rfl | rfl | rfl | rfl : t = 0 ∨ t = 1 ∨ t = 2 ∨ t = 3 := by omega
  all_goals unfold St.used; omega

theorem append_ok {d : D} (h : d.ok) (t : Int) (l : List UInt8) (h0 : 0 ≤ t) (h1 : t ≤ 3) (hu : ¬ d.stand.used + l.length > d.room) : (∀ k, ((d.stand.done ⟨2, t, 0, l⟩).tp k).length ≤ d.room) ∧ l.length ≤ 1048576 := by
  have := h.room1
  have := tp_le_used d.stand t h0 h1
  have := used_nonneg d.stand
  refine ⟨fun k => ?_, by omega⟩
  simp only [St.done]
  by_cases hk : k = t
  · subst hk
    simp [upd]
    omega
  · simp [upd, hk]
    exact stand_tapes h k

/-- Bytes are appended to a tape. -/
theorem append_c {p m : Nat} {d : D} {F G : Nat → Prop} {w : World} (x : DiskAt w.heap p m d F) (n : Int) {bv : Value} {l : List UInt8} (hv : BytesAt w.heap G bv l) (hl : l.length ≤ 1099511627776) (hn : d.waits.length ≤ 1000000000000) :
    Calls Tryz.prog 59 #[.pointer (some ⟨p, 0, none⟩), .int .i64 n, bv] w (Left w p m F (d.append n l)) := by
  obtain ⟨k16, k11, k12, _⟩ := x.cell16
  obtain ⟨a, c, rfl⟩ := hv.slice
  have lt := x.lt
  by_cases h1 : n < 0 ∨ 4 ≤ n
  · have e : d.append n l = (d, 4) := by
      unfold D.append
      rw [if_pos (by omega)]
    rw [e]
    refine (append_range p _ n w k16 h1).mono ?_
    rintro e w' ⟨rfl, hb⟩
    exact left_below x hb
  · have hU : ∀ W, Below w.heap.size w W → Calls Tryz.prog 97 #[.pointer (some ⟨p, 0, none⟩)] W fun e w' => e = .returned (.int .i64 d.stand.used) ∧ Below W.heap.size W w' := fun W hb => used_d (x.below hb)
    by_cases h2 : d.stand.used + l.length > d.room
    · have e : d.append n l = (d, 280) := by
        unfold D.append
        rw [if_neg (by omega), if_pos h2]
      rw [e]
      refine (append_full p l.length c a n d.room d.stand.used w k16 k12 (by omega) (by omega) (used_nonneg _) (used_le x.ok) hl h2 hU).mono ?_
      rintro e w' ⟨rfl, hb⟩
      exact left_below x hb
    · have e : d.append n l = d.step ⟨2, n, 0, l⟩ := by
        unfold D.append
        rw [if_neg (by omega), if_neg h2]
      rw [e]
      obtain ⟨o1, o2⟩ := append_ok x.ok n l (by omega) (by omega) h2
      refine append_live p l.length c a n d.room d.stand.used l w _ k16 k12 (by omega) (by omega) (used_nonneg _) (used_le x.ok) hl h2 hU G hv ?_
      intro W g v hb hg r0 r1 r2 r3 hz hv1
      have x1 := x.plus hb
      have hok : (⟨2, n, 0, l⟩ : Step).ok d.many := Or.inr (Or.inl ⟨rfl, by show 0 ≤ n; omega, by show n ≤ 3; omega, rfl, o2⟩)
      have st : StepAt W.heap (plus F w W) ⟨2, n, 0, l⟩ (.func (.func 142) #[] #[.pointer (some ⟨g + 1, 0, none⟩), .pointer (some ⟨g + 2, 0, none⟩)])
          (.func (.func 101) #[] #[.pointer (some ⟨w.heap.size, 0, none⟩), .pointer (some ⟨g, 0, none⟩)]) (.int .i64 n) (.int .i64 2) (.int .i64 n) (.int .i64 0) (.string ⟨l.toArray⟩) :=
        ⟨rfl, rfl, rfl, ⟨_, rfl, by simp⟩, Or.inr (Or.inl ⟨rfl, rfl, w.heap.size, g, g + 1, g + 2, v, Or.inr ⟨by omega, by omega⟩, Or.inr ⟨by omega, by omega⟩, Or.inr ⟨by omega, by omega⟩, Or.inr ⟨by omega, by omega⟩, rfl, rfl, r0, r2, r1, r3,
          hv1.keeps (fun _ _ _ => rfl) (fun k hk hl => Or.inr ⟨hk, hl⟩)⟩)⟩
      refine (step_c x1 ⟨2, n, 0, l⟩ hok hn o1 st).mono ?_
      rintro e w' h
      exact ⟨_, h.1, left_later x hb h⟩

/-! Cut. -/
abbrev cutW (w : World) (t n : Int) : World := (w.alloc (.cells #[.int .i64 t] 3)).alloc (.cells #[.int .i64 n] 3)
theorem cutW_below (w : World) (t n : Int) : Below w.heap.size w (cutW w t n) := ((Below.refl _ _).alloc (Nat.le_refl _) _).alloc (by simp) _

theorem cut_none (v : Value) (t n : Int) (w : World) (h : NoneD w v) : Calls Tryz.prog 76 #[v, .int .i64 t, .int .i64 n] w fun e w' => e = .returned (.int .i64 1) ∧ Below w.heap.size w w' := by
  have H := Lib.hid (h.below (cutW_below w t n))
  clear h
  go_enter Tryz.func76, Tryz.ntmps76
  go_wp2_with (go_at_call 45; refine (none_c H.out).mono ?_; rintro e w' ⟨rfl, rfl⟩)
  go_ret
  exact ⟨rfl, cutW_below w t n⟩

set_option maxRecDepth 100000 in
set_option maxHeartbeats 400000 in
theorem cut_bad1 (p : Nat) (t n : Int) (w : World) (h : w.cell? ⟨p, 16, none⟩ = some (.bool true)) (h1 : t < 0) :
    Calls Tryz.prog 76 #[.pointer (some ⟨p, 0, none⟩), .int .i64 t, .int .i64 n] w fun e w' => e = .returned (.int .i64 4) ∧ Below w.heap.size w w' := by
  have hb := cutW_below w t n
  have lt := block_lt_of_cell h
  have h' := (hb.cell (p := ⟨p, 16, none⟩) lt).trans h
  have k1 : (cutW w t n).cell? ⟨w.heap.size, 0, none⟩ = some (.int .i64 t) := row_cell (heap_past (by simp) (heap_alloc_last w _)) rfl
  have k2 : (cutW w t n).cell? ⟨w.heap.size + 1, 0, none⟩ = some (.int .i64 n) := row_cell (heap_at (w := w.alloc _) _ (by simp)) rfl
  have b1 : decide (t < 0) = true := by simp; omega
  go_enter Tryz.func76, Tryz.ntmps76
  go_wp2_with (go_at_call 45; refine (none_at p true _ h').mono ?_; rintro e w' ⟨rfl, rfl⟩)
  go_quiet (fail)
  go_wp2
  go_ret
  exact ⟨rfl, below_drewN hb nq⟩

set_option maxRecDepth 100000 in
set_option maxHeartbeats 400000 in
theorem cut_bad2 (p : Nat) (t n : Int) (w : World) (h : w.cell? ⟨p, 16, none⟩ = some (.bool true)) (h1 : ¬ t < 0) (h2 : 4 ≤ t) :
    Calls Tryz.prog 76 #[.pointer (some ⟨p, 0, none⟩), .int .i64 t, .int .i64 n] w fun e w' => e = .returned (.int .i64 4) ∧ Below w.heap.size w w' := by
  have hb := cutW_below w t n
  have lt := block_lt_of_cell h
  have h' := (hb.cell (p := ⟨p, 16, none⟩) lt).trans h
  have k1 : (cutW w t n).cell? ⟨w.heap.size, 0, none⟩ = some (.int .i64 t) := row_cell (heap_past (by simp) (heap_alloc_last w _)) rfl
  have k2 : (cutW w t n).cell? ⟨w.heap.size + 1, 0, none⟩ = some (.int .i64 n) := row_cell (heap_at (w := w.alloc _) _ (by simp)) rfl
  have b1 : decide (t < 0) = false := by simp; omega
  have b2 : decide (4 ≤ t) = true := by simp; omega
  go_enter Tryz.func76, Tryz.ntmps76
  go_wp2_with (go_at_call 45; refine (none_at p true _ h').mono ?_; rintro e w' ⟨rfl, rfl⟩)
  go_quiet (fail)
  go_wp2
  go_ret
  exact ⟨rfl, below_drewN hb nq⟩

set_option maxRecDepth 100000 in
set_option maxHeartbeats 400000 in
theorem cut_bad3 (p : Nat) (t n : Int) (w : World) (h : w.cell? ⟨p, 16, none⟩ = some (.bool true)) (h1 : ¬ t < 0) (h2 : ¬ 4 ≤ t) (h3 : n < 0) :
    Calls Tryz.prog 76 #[.pointer (some ⟨p, 0, none⟩), .int .i64 t, .int .i64 n] w fun e w' => e = .returned (.int .i64 4) ∧ Below w.heap.size w w' := by
  have hb := cutW_below w t n
  have lt := block_lt_of_cell h
  have h' := (hb.cell (p := ⟨p, 16, none⟩) lt).trans h
  have k1 : (cutW w t n).cell? ⟨w.heap.size, 0, none⟩ = some (.int .i64 t) := row_cell (heap_past (by simp) (heap_alloc_last w _)) rfl
  have k2 : (cutW w t n).cell? ⟨w.heap.size + 1, 0, none⟩ = some (.int .i64 n) := row_cell (heap_at (w := w.alloc _) _ (by simp)) rfl
  have b1 : decide (t < 0) = false := by simp; omega
  have b2 : decide (4 ≤ t) = false := by simp; omega
  have b3 : decide (n < 0) = true := by simp; omega
  go_enter Tryz.func76, Tryz.ntmps76
  go_wp2_with (go_at_call 45; refine (none_at p true _ h').mono ?_; rintro e w' ⟨rfl, rfl⟩)
  go_quiet (fail)
  go_wp2
  go_ret
  exact ⟨rfl, below_drewN hb nq⟩

theorem cut_bad (p : Nat) (t n : Int) (w : World) (h : w.cell? ⟨p, 16, none⟩ = some (.bool true)) (hn : t < 0 ∨ (¬ t < 0 ∧ 4 ≤ t) ∨ (¬ t < 0 ∧ ¬ 4 ≤ t ∧ n < 0)) :
    Calls Tryz.prog 76 #[.pointer (some ⟨p, 0, none⟩), .int .i64 t, .int .i64 n] w fun e w' => e = .returned (.int .i64 4) ∧ Below w.heap.size w w' := by
  rcases hn with h1 | ⟨h1, h2⟩ | ⟨h1, h2, h3⟩
  · exact cut_bad1 p t n w h h1
  · exact cut_bad2 p t n w h h1 h2
  · exact cut_bad3 p t n w h h1 h2 h3

set_option maxRecDepth 100000 in
set_option maxHeartbeats 1000000 in
theorem cut_long (p t len c : Nat) (a : Option Addr) (n : Int) (w : World) (h : w.cell? ⟨p, 16, none⟩ = some (.bool true)) (ht : t < 4) (hq : w.cell? ⟨p, 1 + t, none⟩ = some (.slice a len c)) (hn : (len : Int) < n) :
    Calls Tryz.prog 76 #[.pointer (some ⟨p, 0, none⟩), .int .i64 t, .int .i64 n] w fun e w' => e = .returned (.int .i64 4) ∧ Below w.heap.size w w' := by
  have hb := cutW_below w t n
  have lt := block_lt_of_cell h
  have h' := (hb.cell (p := ⟨p, 16, none⟩) lt).trans h
  have k1 : (cutW w t n).cell? ⟨w.heap.size, 0, none⟩ = some (.int .i64 t) := row_cell (heap_past (by simp) (heap_alloc_last w _)) rfl
  have k2 : (cutW w t n).cell? ⟨w.heap.size + 1, 0, none⟩ = some (.int .i64 n) := row_cell (heap_at (w := w.alloc _) _ (by simp)) rfl
  have k3 : (cutW w t n).cell? ⟨p, 1 + t, none⟩ = some (.slice a len c) := (hb.cell (p := ⟨p, 1 + t, none⟩) lt).trans hq
  have h1 : ¬ (t : Int) < 0 := by omega
  have h2 : ¬ 4 ≤ (t : Int) := by omega
  have h3 : ¬ n < 0 := by omega
  have h4 : (0 : Int) ≤ t := by omega
  have h5 : (t : Int) < 4 := by omega
  have h6 : ¬ 4 ≤ t := by omega
  go_enter Tryz.func76, Tryz.ntmps76
  go_wp2_with (go_at_call 45; refine (none_at p true _ h').mono ?_; rintro e w' ⟨rfl, rfl⟩)
  go_quiet (fail)
  go_wp2
  go_ret
  exact ⟨rfl, below_drewN hb nq⟩

set_option maxRecDepth 100000 in
set_option maxHeartbeats 1000000 in
theorem cut_live (p t len c n : Nat) (a : Option Addr) (w : World) (R : Ending → World → Prop) (h : w.cell? ⟨p, 16, none⟩ = some (.bool true)) (ht : t < 4) (hq : w.cell? ⟨p, 1 + t, none⟩ = some (.slice a len c)) (hn : n ≤ len)
    (hR : ∀ nq, Calls Tryz.prog 99 #[.pointer (some ⟨p, 0, none⟩), .agg #[.func (.func 122) #[] #[.pointer (some ⟨w.heap.size, 0, none⟩), .pointer (some ⟨w.heap.size + 1, 0, none⟩)],
        .func (.func 123) #[] #[], .int .i64 t, .int .i64 3, .int .i64 t, .int .i64 n, .string ⟨#[]⟩]] ((cutW w t n).drewN nq) fun e w' => ∃ k, e = .returned (.int .i64 k) ∧ R e w') :
    Calls Tryz.prog 76 #[.pointer (some ⟨p, 0, none⟩), .int .i64 t, .int .i64 n] w R := by
  have hb := cutW_below w t n
  have lt := block_lt_of_cell h
  have h' := (hb.cell (p := ⟨p, 16, none⟩) lt).trans h
  have k1 : (cutW w t n).cell? ⟨w.heap.size, 0, none⟩ = some (.int .i64 t) := row_cell (heap_past (by simp) (heap_alloc_last w _)) rfl
  have k2 : (cutW w t n).cell? ⟨w.heap.size + 1, 0, none⟩ = some (.int .i64 n) := row_cell (heap_at (w := w.alloc _) _ (by simp)) rfl
  have k3 : (cutW w t n).cell? ⟨p, 1 + t, none⟩ = some (.slice a len c) := (hb.cell (p := ⟨p, 1 + t, none⟩) lt).trans hq
  have h1 : ¬ (t : Int) < 0 := by omega
  have h2 : ¬ 4 ≤ (t : Int) := by omega
  have h3 : ¬ (n : Int) < 0 := by omega
  have h4 : (0 : Int) ≤ t := by omega
  have h5 : (t : Int) < 4 := by omega
  have h6 : ¬ 4 ≤ t := by omega
  have h7 : ¬ len < n := by omega
  have HR := Lib.hid hR
  clear hR
  go_enter Tryz.func76, Tryz.ntmps76
  go_wp2_with (go_at_call 45; refine (none_at p true _ h').mono ?_; rintro e w' ⟨rfl, rfl⟩)
  go_quiet (fail)
  go_wp2_with (go_at_call 99; refine (HR.out nq).mono ?_; rintro e w' ⟨k, rfl, hr⟩)
  exact hr

theorem cut_ok {d : D} (h : d.ok) (t n : Int) : ∀ k, ((d.stand.done ⟨3, t, n, []⟩).tp k).length ≤ d.room := by
  intro k
  have := stand_tapes h k
  by_cases hk : k = t
  · subst hk
    simp [St.done, upd]
    omega
  · simp [St.done, upd, hk]
    exact this

/-- A tape is cut. -/
theorem cut_c {p m : Nat} {d : D} {F : Nat → Prop} {w : World} (x : DiskAt w.heap p m d F) (t n : Int) (hn : d.waits.length ≤ 1000000000000) :
    Calls Tryz.prog 76 #[.pointer (some ⟨p, 0, none⟩), .int .i64 t, .int .i64 n] w (Left w p m F (d.cut t n)) := by
  obtain ⟨k16, k11, k12, _⟩ := x.cell16
  by_cases h1 : t < 0 ∨ t > 3 ∨ n < 0
  · have e : d.cut t n = (d, 4) := by
      unfold D.cut
      rw [if_pos (by omega)]
    rw [e]
    refine (cut_bad p t n w k16 (by omega)).mono ?_
    rintro e w' ⟨rfl, hb⟩
    exact left_below x hb
  · obtain ⟨t, rfl, ht⟩ := natOf (n := t) (k := 3) (by omega) (by omega)
    obtain ⟨ml, l0, l1, l2, l3, wv, stops, after, sa, ra⟩ := x.parts
    obtain ⟨v, hv, hf, bv⟩ := sa.cell.2 t (by omega)
    obtain ⟨a, c, rfl⟩ := bv.slice
    by_cases h2 : n > (d.stand.tp t).length
    · have e : d.cut t n = (d, 4) := by
        unfold D.cut
        rw [if_pos (by omega)]
      rw [e]
      refine (cut_long p t _ c a n w k16 (by omega) hv h2).mono ?_
      rintro e w' ⟨rfl, hb⟩
      exact left_below x hb
    · have e : d.cut t n = d.step ⟨3, t, n, []⟩ := by
        unfold D.cut
        rw [if_neg (by omega)]
      rw [e]
      have hl := stand_tapes x.ok t
      have hr := x.ok.room1
      obtain ⟨n, rfl, hn1⟩ := natOf (n := n) (k := 1048576) (by omega) (by omega)
      refine cut_live p t _ c n a w _ k16 (by omega) hv (by omega) ?_
      intro nq
      have hb0 := cutW_below w t n
      have hb : Below w.heap.size w ((cutW w t n).drewN nq) := below_drewN hb0 nq
      have x1 := x.plus hb
      have hok : (⟨3, t, n, []⟩ : Step).ok d.many := Or.inr (Or.inr ⟨rfl, by show (0 : Int) ≤ t; omega, by show (t : Int) ≤ 3; omega, by show (0 : Int) ≤ n; omega, by show (n : Int) ≤ 1048576; omega, rfl⟩)
      have hz : ((cutW w t n).drewN nq).heap.size = w.heap.size + 2 := by show (cutW w t n).heap.size = _; simp
      have st : StepAt ((cutW w t n).drewN nq).heap (plus F w ((cutW w t n).drewN nq)) ⟨3, t, n, []⟩ (.func (.func 122) #[] #[.pointer (some ⟨w.heap.size, 0, none⟩), .pointer (some ⟨w.heap.size + 1, 0, none⟩)])
          (.func (.func 123) #[] #[]) (.int .i64 t) (.int .i64 3) (.int .i64 t) (.int .i64 n) (.string ⟨#[]⟩) :=
        ⟨rfl, rfl, rfl, ⟨_, rfl, rfl⟩, Or.inr (Or.inr ⟨rfl, rfl, w.heap.size, w.heap.size + 1, Or.inr ⟨by omega, by omega⟩, Or.inr ⟨by omega, by omega⟩, rfl, rfl, heap_past (by simp) (heap_alloc_last w _), heap_at (w := w.alloc _) _ (by simp)⟩)⟩
      refine (step_c x1 ⟨3, t, n, []⟩ hok hn (cut_ok x.ok _ _) st).mono ?_
      rintro e w' h
      exact ⟨_, h.1, left_later x hb h⟩

end Go.Proofs.YtgffifleflkjoaaGreat

namespace Go.Proofs.YtgffifleflkjoaaGreat
open Go.RowKit Dm

/-- Only a disk's flags have turned. -/
theorem DiskAt.flags {w w' : World} {p m : Nat} {d : D} {F : Nat → Prop} (x : DiskAt w.heap p m d F) (dead' stops' : Bool) (after' : Int) (d' : D) (ed : d' = { d with dead := dead', stops := if stops' then after' else -1 }) (hok : d'.ok) (ha : stops' = true → 0 ≤ after')
    (hm : Moves (fun k => k = p) w w')
    (hc : ∀ c, w.heap[p]? = some (.cells c tDisk (0, 0)) → w'.heap[p]? = some (.cells (((c.setIfInBounds 13 (.bool dead')).setIfInBounds 14 (.bool stops')).setIfInBounds 15 (.int .i64 after')) tDisk (0, 0))) : DiskAt w'.heap p m d' F := by
  subst ed
  have lt := x.lt
  obtain ⟨ml, l0, l1, l2, l3, wv, stops, after, ⟨t0, t1, t2, t3, c1, c4, b0, b1, b2, b3, c7, c8, c9⟩, r⟩ := x.parts
  have hs : ∀ k, F k → k < w.heap.size → w'.heap[k]? = w.heap[k]? := fun k hk hl => hm.block k hl (fun e => c8 (e ▸ hk))
  have hF : ∀ k, F k → k < w.heap.size → F k := fun _ h _ => h
  refine DiskAt.of hok (ml := ml) (l0 := l0) (l1 := l1) (l2 := l2) (l3 := l3) (wv := wv) (stops := stops') (after := after') ?_ ?_
  · exact ⟨t0, t1, t2, t3, (hc _ c1).trans (by simp [diskR]), c4.stays (hm.block m lt.2.1 c9), b0.keeps hs hF, b1.keeps hs hF, b2.keeps hs hF, b3.keeps hs hF, c7, c8, c9⟩
  · have r' := r.keeps (F' := F) hs hF
    exact ⟨rfl, ha, r'.sec, r'.fml, r'.b0, r'.b1, r'.b2, r'.b3, r'.steps⟩

theorem stop_none (v : Value) (n : Int) (w : World) (h : NoneD w v) : Calls Tryz.prog 16 #[v, .int .i64 n] w fun e w' => e = .returned (.int .i64 1) ∧ w = w' := by
  have H := Lib.hid h
  clear h
  go_enter Tryz.func16, Tryz.ntmps16
  go_wp2_with (go_at_call 45; refine (none_c H.out).mono ?_; rintro e w' ⟨rfl, rfl⟩)
  go_ret
  exact ⟨rfl, rfl⟩

theorem stop_arg (p : Nat) (n : Int) (w : World) (h : w.cell? ⟨p, 16, none⟩ = some (.bool true)) (hn : n < 0) : Calls Tryz.prog 16 #[.pointer (some ⟨p, 0, none⟩), .int .i64 n] w fun e w' => e = .returned (.int .i64 2) ∧ w = w' := by
  go_enter Tryz.func16, Tryz.ntmps16
  go_wp2_with (go_at_call 45; refine (none_at p true _ h).mono ?_; rintro e w' ⟨rfl, rfl⟩)
  go_ret
  exact ⟨rfl, rfl⟩

theorem stop_dead (p : Nat) (n : Int) (w : World) (h : w.cell? ⟨p, 16, none⟩ = some (.bool true)) (h2 : w.cell? ⟨p, 13, none⟩ = some (.bool true)) (hn : ¬ n < 0) : Calls Tryz.prog 16 #[.pointer (some ⟨p, 0, none⟩), .int .i64 n] w fun e w' => e = .returned (.int .i64 281) ∧ w = w' := by
  go_enter Tryz.func16, Tryz.ntmps16
  go_wp2_with (go_at_call 45; refine (none_at p true _ h).mono ?_; rintro e w' ⟨rfl, rfl⟩)
  go_ret
  exact ⟨rfl, rfl⟩

theorem stop_live (p : Nat) (n : Int) (u v : Value) (w : World) (h : w.cell? ⟨p, 16, none⟩ = some (.bool true)) (h2 : w.cell? ⟨p, 13, none⟩ = some (.bool false)) (hn : ¬ n < 0) (h3 : w.cell? ⟨p, 14, none⟩ = some u) (h4 : w.cell? ⟨p, 15, none⟩ = some v)
    (f1 : w.frozen? ⟨p, 14, none⟩ = false) (f2 : w.frozen? ⟨p, 15, none⟩ = false) :
    Calls Tryz.prog 16 #[.pointer (some ⟨p, 0, none⟩), .int .i64 n] w fun e w' => e = .returned (.int .i64 0) ∧ (w.setCell ⟨p, 14, none⟩ (.bool true)).setCell ⟨p, 15, none⟩ (.int .i64 n) = w' := by
  go_enter Tryz.func16, Tryz.ntmps16
  go_wp2_with (go_at_call 45; refine (none_at p true _ h).mono ?_; rintro e w' ⟨rfl, rfl⟩)
  go_ret
  exact ⟨rfl, rfl⟩

theorem left_same {w : World} {p m : Nat} {d : D} {F : Nat → Prop} {c : Int} (x : DiskAt w.heap p m d F) : Left w p m F (d, c) (.returned (.int .i64 c)) w := left_below x (Below.refl _ _)

/-- It is to stop. -/
theorem stop_c {p m : Nat} {d : D} {F : Nat → Prop} {w : World} (x : DiskAt w.heap p m d F) (n : Int) (hn : n ≤ 9223372036854775807) : Calls Tryz.prog 16 #[.pointer (some ⟨p, 0, none⟩), .int .i64 n] w (Left w p m F (d.stop n)) := by
  obtain ⟨k16, k11, k12, k13⟩ := x.cell16
  by_cases h1 : n < 0
  · have e : d.stop n = (d, 2) := by unfold D.stop; rw [if_pos h1]
    rw [e]
    refine (stop_arg p n w k16 h1).mono ?_
    rintro e w' ⟨rfl, rfl⟩
    exact left_same x
  · cases hd : d.dead
    · have e : d.stop n = ({ d with stops := n }, 0) := by unfold D.stop; rw [if_neg h1, hd]; rfl
      rw [e]
      rw [hd] at k13
      have lt := x.lt
      obtain ⟨ml, l0, l1, l2, l3, wv, stops, after, ⟨t0, t1, t2, t3, c1, _⟩, r⟩ := x.parts
      refine (stop_live p n (.bool stops) (.int .i64 after) w k16 k13 h1 (by rw [cell_of_row _ _ _ _ _ _ c1]; simp [diskR]) (by rw [cell_of_row _ _ _ _ _ _ c1]; simp [diskR]) (row_free c1 _) (row_free c1 _)).mono ?_
      rintro e w' ⟨rfl, rfl⟩
      have mv : Moves (fun k => k = p) w ((w.setCell ⟨p, 14, none⟩ (.bool true)).setCell ⟨p, 15, none⟩ (.int .i64 n)) :=
        ⟨rfl, rfl, rfl, by simp, fun k hk hne => by rw [heap_setCell_other _ _ _ _ hne, heap_setCell_other _ _ _ _ hne]⟩
      have hok : ({ d with stops := n } : D).ok := by
        have h := x.ok
        exact ⟨h.many0, h.many1, h.room0, h.room1, h.sec, h.tape, h.waits, by show -1 ≤ n; omega, hn⟩
      have y := x.flags (w' := (w.setCell ⟨p, 14, none⟩ (.bool true)).setCell ⟨p, 15, none⟩ (.int .i64 n)) false true n { d with stops := n } (by rw [← hd]; simp) hok (fun _ => by omega) mv (fun c hc => by
        have e13 : c.setIfInBounds 13 (.bool false) = c := by
          rw [c1] at hc
          have : (Value.map (some m) :: t0 :: t1 :: t2 :: t3 :: diskR ml l0 l1 l2 l3 wv d.many d.room d.dead stops after).toArray = c := by simpa using hc
          rw [← this, hd]
          simp [diskR]
        have y1 := heap_setCell_same w p 14 _ tDisk (.bool true) hc
        rw [e13]
        exact heap_setCell_same _ p 15 _ tDisk (.int .i64 n) y1)
      refine ⟨rfl, mv.mono (fun _ => Or.inl), y.weak (fun _ h _ => Or.inl h) (fun h => ?_) (fun h => ?_)⟩
      · rcases h with h | h
        · exact lt.2.2.2.1 h
        · omega
      · rcases h with h | h
        · exact lt.2.2.2.2 h
        · omega
    · have e : d.stop n = (d, 281) := by unfold D.stop; rw [if_neg h1, hd]; rfl
      rw [e]
      rw [hd] at k13
      refine (stop_dead p n w k16 k13 h1).mono ?_
      rintro e w' ⟨rfl, rfl⟩
      exact left_same x

/-! The others, of no disk. -/
theorem room_none (v : Value) (w : World) (h : NoneD w v) : Calls Tryz.prog 80 #[v] w fun e w' => e = .returned (.int .i64 0) ∧ w = w' := by
  have H := Lib.hid h
  clear h
  go_enter Tryz.func80, Tryz.ntmps80
  go_wp2_with (go_at_call 45; refine (none_c H.out).mono ?_; rintro e w' ⟨rfl, rfl⟩)
  go_ret
  exact ⟨rfl, rfl⟩
theorem waits_none (v : Value) (w : World) (h : NoneD w v) : Calls Tryz.prog 62 #[v] w fun e w' => e = .returned (.int .i64 0) ∧ w = w' := by
  have H := Lib.hid h
  clear h
  go_enter Tryz.func62, Tryz.ntmps62
  go_wp2_with (go_at_call 45; refine (none_c H.out).mono ?_; rintro e w' ⟨rfl, rfl⟩)
  go_ret
  exact ⟨rfl, rfl⟩
theorem dead_none (v : Value) (w : World) (h : NoneD w v) : Calls Tryz.prog 63 #[v] w fun e w' => e = .returned (.bool false) ∧ w = w' := by
  have H := Lib.hid h
  clear h
  go_enter Tryz.func63, Tryz.ntmps63
  go_wp2_with (go_at_call 45; refine (none_c H.out).mono ?_; rintro e w' ⟨rfl, rfl⟩)
  go_ret
  exact ⟨rfl, rfl⟩
theorem copy_none (v : Value) (w : World) (h : NoneD w v) : Calls Tryz.prog 47 #[v] w fun e w' => e = .returned (.pointer none) ∧ w = w' := by
  have H := Lib.hid h
  clear h
  go_enter Tryz.func47, Tryz.ntmps47
  go_wp2_with (go_at_call 45; refine (none_c H.out).mono ?_; rintro e w' ⟨rfl, rfl⟩)
  go_ret
  exact ⟨rfl, rfl⟩
theorem sync_none (v : Value) (w : World) (h : NoneD w v) : Calls Tryz.prog 60 #[v] w fun e w' => e = .returned (.int .i64 1) ∧ w = w' := by
  have H := Lib.hid h
  clear h
  go_enter Tryz.func60, Tryz.ntmps60
  go_wp2_with (go_at_call 45; refine (none_c H.out).mono ?_; rintro e w' ⟨rfl, rfl⟩)
  go_ret
  exact ⟨rfl, rfl⟩

end Go.Proofs.YtgffifleflkjoaaGreat
