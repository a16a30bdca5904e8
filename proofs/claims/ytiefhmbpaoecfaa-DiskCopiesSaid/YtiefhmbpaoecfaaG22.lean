/-
  'act': cut.
  'act': sync.
  'act': stop.
  'act': Append.
-/
import Derived.Test.YtiefhmbpaoecfaaG20

namespace Go.Proofs.Ytiefhmbpaoecfaa
open Go.RowKit Dm

set_option maxRecDepth 100000 in
set_option maxHeartbeats 4000000 in
theorem act_cut {w : World} {p m : Nat} {F : Nat → Prop} {v : Value} {d : D} (x : DiskAt w.heap p m d F) (hr : RefAt w.heap F v d) (hn : d.waits.length ≤ 1000000000) (sec n : Int) (bv : Value) (raw : Bool) (kv : Value) (torn part : Int) :
    Calls Try.prog 13 #[.pointer (some ⟨p, 0, none⟩), v, .agg (actC 2 sec n bv raw kv torn part)] w (ActPost w p m F (d.cut n sec).1) := by
  obtain ⟨C, rfl, hin⟩ := actIn_of x hr (actC 2 sec n bv raw kv torn part)
  obtain ⟨W0, hW0⟩ : ∃ W0, actW w C (actC 2 sec n bv raw kv torn part) = W0 := ⟨_, rfl⟩
  rw [hW0] at hin
  have ok := x.ok
  have HIN := Lib.hid hin
  have k0 : W0.cell? ⟨w.heap.size + 1, 0, none⟩ = some (.int .i64 2) := row_cell hin.r1 rfl
  have k1 : W0.cell? ⟨w.heap.size + 1, 1, none⟩ = some (.int .i64 sec) := row_cell hin.r1 rfl
  have k2 : W0.cell? ⟨w.heap.size + 1, 2, none⟩ = some (.int .i64 n) := row_cell hin.r1 rfl
  have RC := Lib.hid (rcut_c (hin.at0 (Below.refl _ _)) ok (by omega) n sec)
  clear hin x hr
  go_enter Try.func13, Try.ntmps13
  go_upto_region 1 with fail
  clear hW0
  go_upto_region 25 with (first
    | (refine wpList_load_row rfl tRDisk (.tmp 4) rfl w.heap.size rfl tRDisk C (0, 0) _ HIN.out.r0 Try.underlying42 rfl (by rw [infoRD, HIN.out.csz]) ?_)
    | (go_at_call 36; refine RC.out.mono ?_; rintro e W1 ⟨v1, rfl, hb1, hr1⟩
       obtain ⟨sv1, u0, u1, u2, u3, wv1, ev, rb1, st1⟩ := id hr1
       subst ev
       have R1 := Lib.hid (And.intro hb1 (And.intro (ref_ones rb1 st1) hr1))
       clear hb1 rb1 st1 hr1)
    | (refine wpList_store_abs rfl tRDisk (.tmp 19) (.tmp 130) rfl W1.heap.size _ rfl rfl tRDisk ref0 (heap_alloc_last W1 _) infoRD rfl (R1.out.2.1 _ _ _ _) ?_
       intro W2 HW2 HM2 HS2
       have hb2 : Below W1.heap.size W1 W2 := Moves.new ((Below.refl _ _).alloc (Nat.le_refl _) _) HM2 (Nat.le_refl _)
       have R2 := Lib.hid (And.intro hb2 HW2.out)
       clear HM2 HS2 HW2 hb2))
  have hb02 : Below W0.heap.size W0 W2 := R1.out.1.trans (R2.out.1.mono R1.out.1.size)
  have a1 : W2.heap[w.heap.size + 1]? = some (.cells (actC 2 sec n bv raw kv torn part) tAct (0, 0)) := (hb02.block _ (lt_of_row HIN.out.r1)).trans HIN.out.r1
  have g2 := R2.out.2
  have CL : Hid (∀ X : World, X.heap = W2.heap → ActCls (w.heap.size + 1) W1.heap.size W2 X) := fun X hX => ⟨by rw [hX], by rw [hX]⟩
  have ne : Nonempty (Wd (ActCls (w.heap.size + 1) W1.heap.size W2)) := ⟨⟨W2, CL.out W2 rfl⟩⟩
  have x1 : ∀ x : Wd (ActCls (w.heap.size + 1) W1.heap.size W2), x.world.cell? ⟨w.heap.size + 1, 1, none⟩ = some (.int .i64 sec) := fun x => row_cell (x.ok.1.trans a1) rfl
  have x2 : ∀ x : Wd (ActCls (w.heap.size + 1) W1.heap.size W2), x.world.cell? ⟨w.heap.size + 1, 2, none⟩ = some (.int .i64 n) := fun x => row_cell (x.ok.1.trans a1) rfl
  have LD : Hid (∀ w', (∃ x : Wd (ActCls (w.heap.size + 1) W1.heap.size W2), w' = x.world) → (Instr.loadAt tRDisk (.pointer (some ⟨W1.heap.size, 0, none⟩))).run Try.prog w' = .ok (.agg (refC (d.cut n sec).1.many (d.cut n sec).1.room sv1 u0 u1 u2 u3 wv1 (d.cut n sec).1.dead (d.cut n sec).1.stops)) w') := by
    rintro w' ⟨x, rfl⟩
    exact run_loadAt_row (x.ok.2.trans g2) Try.underlying42 rfl infoRD
  have DC := Lib.hid (calls_left (cut_c (w := W2.drew) (HIN.out.disk0 hb02.drew) n sec (by omega)))
  have LT := HIN.out.disk.lt
  have zs : w.heap.size + 3 = W0.heap.size ∧ W0.heap.size ≤ W1.heap.size ∧ W1.heap.size < W2.heap.size := ⟨HIN.out.size.symm, R1.out.1.size, lt_of_row g2⟩
  clear a1 g2 k0 k1 k2 ok
  refine wp_region_hoist (fun w' => ∃ x : Wd (ActCls (w.heap.size + 1) W1.heap.size W2), w' = x.world) [] (by kernel_rfl) ?_
  refine wpAnyI_reads [0, 1, 2, 3, 4, 5, 6, 9] 6 _ ⟨⟨_, CL.out W2.drew rfl⟩, rfl⟩ (by kernel_rfl) ?_
  simp only [List.filterMap_cons, List.filterMap_nil, List.getElem?_toArray, List.getElem?_cons_succ, List.getElem?_cons_zero]
  refine wpHoist_step (fun K hK => ?_); simp only [hoists, sameUpon]; go_simp; refine hK _ ?_; clear hK K
  refine wpHoist_load_run rfl tRDisk (.tmp 19) rfl _ LD.out ?_
  repeat (refine wpHoist_step (fun K hK => ?_); simp only [hoists, sameUpon]; go_simp; refine hK _ ?_; clear hK K)
  refine wpHoist_nil ?_
  refine wpAnyI_one 7 5 _ _ rfl (by kernel_rfl) ?_
  refine wpList_plain rfl fun K hK => ?_
  go_simp
  go_at_call 23
  refine DC.out.mono ?_
  rintro e W3 ⟨rfl, hL⟩
  have cl3 : ActCls (w.heap.size + 1) W1.heap.size W2 W3 := ⟨hL.2.1.block _ (by show _ < W2.heap.size; omega) (by omega), hL.2.1.block _ (by show _ < W2.heap.size; omega) (by omega)⟩
  have t7 : W3.heap[w.heap.size + 1 + 1]? = some (.cells ref0 tRDisk (0, 0)) := by
    rw [hL.2.1.block _ (by show _ < W2.heap.size; omega) (by omega)]
    exact (hb02.block _ (by omega)).trans HIN.out.r2
  have HL := Lib.hid (And.intro hL t7)
  clear hL t7
  refine hK _ _ (wpList_nil ⟨rfl, fun _ => ⟨⟨_, cl3⟩, rfl⟩, ?_⟩)
  clear hK K
  refine wpAnyI_one 8 4 _ _ rfl (by kernel_rfl) ?_
  refine wpList_plain rfl fun K hK => ?_
  go_simp
  go_at_call 9
  refine (num_c _ _).mono ?_
  rintro e W3' ⟨rfl, rfl⟩
  refine hK _ _ (wpList_nil ⟨rfl, fun _ => ⟨⟨_, cl3⟩, rfl⟩, ?_⟩)
  clear hK K
  refine wpAnyI_reads [10, 11] 2 _ ⟨⟨_, cl3⟩, rfl⟩ (by kernel_rfl) ?_
  simp only [List.filterMap_cons, List.filterMap_nil, List.getElem?_toArray, List.getElem?_cons_succ, List.getElem?_cons_zero]
  repeat (refine wpHoist_step (fun K hK => ?_); simp only [hoists, sameUpon]; go_simp; refine hK _ ?_; clear hK K)
  refine wpHoist_nil ?_
  refine wpAnyI_one 12 1 _ _ rfl (by kernel_rfl) ?_
  refine wpList_store_abs rfl tRDisk (.tmp 7) (.tmp 133) rfl (w.heap.size + 1 + 1) _ rfl rfl tRDisk ref0 HL.out.2 infoRD rfl (R1.out.2.1 _ _ _ _) ?_
  intro W4 HW4 HM4 HS4
  have cl4 : ActCls (w.heap.size + 1) W1.heap.size W2 W4 := ⟨(HM4.block _ (by have := HL.out.1.2.1.size; have : W2.heap.size ≤ W3.heap.size := this; omega) (by omega)).trans cl3.1, (HM4.block _ (by have := HL.out.1.2.1.size; have : W2.heap.size ≤ W3.heap.size := this; omega) (by omega)).trans cl3.2⟩
  have H4 := Lib.hid HM4
  clear HM4 HS4
  refine wpList_nil ⟨rfl, fun _ => ⟨⟨_, cl4⟩, rfl⟩, ?_⟩
  refine wpAnyI_reads [13] 0 _ ⟨⟨_, cl4⟩, rfl⟩ (by kernel_rfl) ?_
  simp only [List.filterMap_cons, List.filterMap_nil, List.getElem?_toArray, List.getElem?_cons_succ, List.getElem?_cons_zero]
  repeat (refine wpHoist_step (fun K hK => ?_); simp only [hoists, sameUpon]; go_simp; refine hK _ ?_; clear hK K)
  refine wpHoist_nil ?_
  refine ⟨by kernel_rfl, ?_⟩
  go_wp2
  refine bodyPost_ret (results_three rfl _ _ (w.heap.size + 1 + 1) _ _ _ _ _ _ rfl rfl rfl HW4.out Try.underlying42 rfl infoRD) rfl ?_
  have fin := act_end HIN.out.disk HIN.out.below R1.out.1 R1.out.2.2 R2.out.1.drew HL.out.1 (H4.out.mono (fun k hk => by omega))
  simpa using fin

end Go.Proofs.Ytiefhmbpaoecfaa

namespace Go.Proofs.Ytiefhmbpaoecfaa
open Go.RowKit Dm

set_option maxRecDepth 100000 in
set_option maxHeartbeats 4000000 in
theorem act_sync {w : World} {p m : Nat} {F : Nat → Prop} {v : Value} {d : D} (x : DiskAt w.heap p m d F) (hr : RefAt w.heap F v d) (hn : d.waits.length ≤ 1000000000) (sec n : Int) (bv : Value) (raw : Bool) (kv : Value) (torn part : Int) :
    Calls Try.prog 13 #[.pointer (some ⟨p, 0, none⟩), v, .agg (actC 3 sec n bv raw kv torn part)] w (ActPost w p m F (d.sync).1) := by
  obtain ⟨C, rfl, hin⟩ := actIn_of x hr (actC 3 sec n bv raw kv torn part)
  obtain ⟨W0, hW0⟩ : ∃ W0, actW w C (actC 3 sec n bv raw kv torn part) = W0 := ⟨_, rfl⟩
  rw [hW0] at hin
  have ok := x.ok
  have HIN := Lib.hid hin
  have k0 : W0.cell? ⟨w.heap.size + 1, 0, none⟩ = some (.int .i64 3) := row_cell hin.r1 rfl
  have k1 : W0.cell? ⟨w.heap.size + 1, 1, none⟩ = some (.int .i64 sec) := row_cell hin.r1 rfl
  have k2 : W0.cell? ⟨w.heap.size + 1, 2, none⟩ = some (.int .i64 n) := row_cell hin.r1 rfl
  have RC := Lib.hid (rsync_c (hin.at0 (Below.refl _ _)) ok (by omega))
  clear hin x hr
  go_enter Try.func13, Try.ntmps13
  go_upto_region 1 with fail
  clear hW0
  go_upto_region 28 with (first
    | (refine wpList_load_row rfl tRDisk (.tmp 4) rfl w.heap.size rfl tRDisk C (0, 0) _ HIN.out.r0 Try.underlying42 rfl (by rw [infoRD, HIN.out.csz]) ?_)
    | (go_at_call 37; refine RC.out.mono ?_; rintro e W1 ⟨v1, rfl, hb1, hr1⟩
       obtain ⟨sv1, u0, u1, u2, u3, wv1, ev, rb1, st1⟩ := id hr1
       subst ev
       have R1 := Lib.hid (And.intro hb1 (And.intro (ref_ones rb1 st1) hr1))
       clear hb1 rb1 st1 hr1)
    | (refine wpList_store_abs rfl tRDisk (.tmp 21) (.tmp 148) rfl W1.heap.size _ rfl rfl tRDisk ref0 (heap_alloc_last W1 _) infoRD rfl (R1.out.2.1 _ _ _ _) ?_
       intro W2 HW2 HM2 HS2
       have hb2 : Below W1.heap.size W1 W2 := Moves.new ((Below.refl _ _).alloc (Nat.le_refl _) _) HM2 (Nat.le_refl _)
       have R2 := Lib.hid (And.intro hb2 HW2.out)
       clear HM2 HS2 HW2 hb2))
  have hb02 : Below W0.heap.size W0 W2 := R1.out.1.trans (R2.out.1.mono R1.out.1.size)
  have a1 : W2.heap[w.heap.size + 1]? = some (.cells (actC 3 sec n bv raw kv torn part) tAct (0, 0)) := (hb02.block _ (lt_of_row HIN.out.r1)).trans HIN.out.r1
  have g2 := R2.out.2
  have CL : Hid (∀ X : World, X.heap = W2.heap → ActCls (w.heap.size + 1) W1.heap.size W2 X) := fun X hX => ⟨by rw [hX], by rw [hX]⟩
  have ne : Nonempty (Wd (ActCls (w.heap.size + 1) W1.heap.size W2)) := ⟨⟨W2, CL.out W2 rfl⟩⟩
  have x1 : ∀ x : Wd (ActCls (w.heap.size + 1) W1.heap.size W2), x.world.cell? ⟨w.heap.size + 1, 1, none⟩ = some (.int .i64 sec) := fun x => row_cell (x.ok.1.trans a1) rfl
  have x2 : ∀ x : Wd (ActCls (w.heap.size + 1) W1.heap.size W2), x.world.cell? ⟨w.heap.size + 1, 2, none⟩ = some (.int .i64 n) := fun x => row_cell (x.ok.1.trans a1) rfl
  have LD : Hid (∀ w', (∃ x : Wd (ActCls (w.heap.size + 1) W1.heap.size W2), w' = x.world) → (Instr.loadAt tRDisk (.pointer (some ⟨W1.heap.size, 0, none⟩))).run Try.prog w' = .ok (.agg (refC d.sync.1.many d.sync.1.room sv1 u0 u1 u2 u3 wv1 d.sync.1.dead d.sync.1.stops)) w') := by
    rintro w' ⟨x, rfl⟩
    exact run_loadAt_row (x.ok.2.trans g2) Try.underlying42 rfl infoRD
  have DC := Lib.hid (calls_left (sync_c (w := W2.drew) (HIN.out.disk0 hb02.drew)))
  have LT := HIN.out.disk.lt
  have zs : w.heap.size + 3 = W0.heap.size ∧ W0.heap.size ≤ W1.heap.size ∧ W1.heap.size < W2.heap.size := ⟨HIN.out.size.symm, R1.out.1.size, lt_of_row g2⟩
  clear a1 g2 k0 k1 k2 ok
  refine wp_region_hoist (fun w' => ∃ x : Wd (ActCls (w.heap.size + 1) W1.heap.size W2), w' = x.world) [] (by kernel_rfl) ?_
  refine wpAnyI_reads [0, 1, 2, 5] 6 _ ⟨⟨_, CL.out W2.drew rfl⟩, rfl⟩ (by kernel_rfl) ?_
  simp only [List.filterMap_cons, List.filterMap_nil, List.getElem?_toArray, List.getElem?_cons_succ, List.getElem?_cons_zero]
  refine wpHoist_step (fun K hK => ?_); simp only [hoists, sameUpon]; go_simp; refine hK _ ?_; clear hK K
  refine wpHoist_load_run rfl tRDisk (.tmp 21) rfl _ LD.out ?_
  repeat (refine wpHoist_step (fun K hK => ?_); simp only [hoists, sameUpon]; go_simp; refine hK _ ?_; clear hK K)
  refine wpHoist_nil ?_
  refine wpAnyI_one 3 5 _ _ rfl (by kernel_rfl) ?_
  refine wpList_plain rfl fun K hK => ?_
  go_simp
  go_at_call 24
  refine DC.out.mono ?_
  rintro e W3 ⟨rfl, hL⟩
  have cl3 : ActCls (w.heap.size + 1) W1.heap.size W2 W3 := ⟨hL.2.1.block _ (by show _ < W2.heap.size; omega) (by omega), hL.2.1.block _ (by show _ < W2.heap.size; omega) (by omega)⟩
  have t7 : W3.heap[w.heap.size + 1 + 1]? = some (.cells ref0 tRDisk (0, 0)) := by
    rw [hL.2.1.block _ (by show _ < W2.heap.size; omega) (by omega)]
    exact (hb02.block _ (by omega)).trans HIN.out.r2
  have HL := Lib.hid (And.intro hL t7)
  clear hL t7
  refine hK _ _ (wpList_nil ⟨rfl, fun _ => ⟨⟨_, cl3⟩, rfl⟩, ?_⟩)
  clear hK K
  refine wpAnyI_one 4 4 _ _ rfl (by kernel_rfl) ?_
  refine wpList_plain rfl fun K hK => ?_
  go_simp
  go_at_call 9
  refine (num_c _ _).mono ?_
  rintro e W3' ⟨rfl, rfl⟩
  refine hK _ _ (wpList_nil ⟨rfl, fun _ => ⟨⟨_, cl3⟩, rfl⟩, ?_⟩)
  clear hK K
  refine wpAnyI_reads [6, 7] 2 _ ⟨⟨_, cl3⟩, rfl⟩ (by kernel_rfl) ?_
  simp only [List.filterMap_cons, List.filterMap_nil, List.getElem?_toArray, List.getElem?_cons_succ, List.getElem?_cons_zero]
  repeat (refine wpHoist_step (fun K hK => ?_); simp only [hoists, sameUpon]; go_simp; refine hK _ ?_; clear hK K)
  refine wpHoist_nil ?_
  refine wpAnyI_one 8 1 _ _ rfl (by kernel_rfl) ?_
  refine wpList_store_abs rfl tRDisk (.tmp 7) (.tmp 151) rfl (w.heap.size + 1 + 1) _ rfl rfl tRDisk ref0 HL.out.2 infoRD rfl (R1.out.2.1 _ _ _ _) ?_
  intro W4 HW4 HM4 HS4
  have cl4 : ActCls (w.heap.size + 1) W1.heap.size W2 W4 := ⟨(HM4.block _ (by have := HL.out.1.2.1.size; have : W2.heap.size ≤ W3.heap.size := this; omega) (by omega)).trans cl3.1, (HM4.block _ (by have := HL.out.1.2.1.size; have : W2.heap.size ≤ W3.heap.size := this; omega) (by omega)).trans cl3.2⟩
  have H4 := Lib.hid HM4
  clear HM4 HS4
  refine wpList_nil ⟨rfl, fun _ => ⟨⟨_, cl4⟩, rfl⟩, ?_⟩
  refine wpAnyI_reads [9] 0 _ ⟨⟨_, cl4⟩, rfl⟩ (by kernel_rfl) ?_
  simp only [List.filterMap_cons, List.filterMap_nil, List.getElem?_toArray, List.getElem?_cons_succ, List.getElem?_cons_zero]
  repeat (refine wpHoist_step (fun K hK => ?_); simp only [hoists, sameUpon]; go_simp; refine hK _ ?_; clear hK K)
  refine wpHoist_nil ?_
  refine ⟨by kernel_rfl, ?_⟩
  go_wp2
  refine bodyPost_ret (results_three rfl _ _ (w.heap.size + 1 + 1) _ _ _ _ _ _ rfl rfl rfl HW4.out Try.underlying42 rfl infoRD) rfl ?_
  have fin := act_end HIN.out.disk HIN.out.below R1.out.1 R1.out.2.2 R2.out.1.drew HL.out.1 (H4.out.mono (fun k hk => by omega))
  simpa using fin

end Go.Proofs.Ytiefhmbpaoecfaa

namespace Go.Proofs.Ytiefhmbpaoecfaa
open Go.RowKit Dm

set_option maxRecDepth 100000 in
set_option maxHeartbeats 4000000 in
theorem act_stop {w : World} {p m : Nat} {F : Nat → Prop} {v : Value} {d : D} (x : DiskAt w.heap p m d F) (hr : RefAt w.heap F v d) (hn : d.waits.length ≤ 1000000000) (sec n : Int) (hn1 : n ≤ 9223372036854775807) (bv : Value) (raw : Bool) (kv : Value) (torn part : Int) :
    Calls Try.prog 13 #[.pointer (some ⟨p, 0, none⟩), v, .agg (actC 4 sec n bv raw kv torn part)] w (ActPost w p m F (d.stop n).1) := by
  obtain ⟨C, rfl, hin⟩ := actIn_of x hr (actC 4 sec n bv raw kv torn part)
  obtain ⟨W0, hW0⟩ : ∃ W0, actW w C (actC 4 sec n bv raw kv torn part) = W0 := ⟨_, rfl⟩
  rw [hW0] at hin
  have ok := x.ok
  have HIN := Lib.hid hin
  have k0 : W0.cell? ⟨w.heap.size + 1, 0, none⟩ = some (.int .i64 4) := row_cell hin.r1 rfl
  have k1 : W0.cell? ⟨w.heap.size + 1, 1, none⟩ = some (.int .i64 sec) := row_cell hin.r1 rfl
  have k2 : W0.cell? ⟨w.heap.size + 1, 2, none⟩ = some (.int .i64 n) := row_cell hin.r1 rfl
  have RC := Lib.hid (rstop_c (hin.at0 (Below.refl _ _)) n)
  clear hin x hr
  go_enter Try.func13, Try.ntmps13
  go_upto_region 1 with fail
  clear hW0
  go_upto_region 31 with (first
    | (refine wpList_load_row rfl tRDisk (.tmp 4) rfl w.heap.size rfl tRDisk C (0, 0) _ HIN.out.r0 Try.underlying42 rfl (by rw [infoRD, HIN.out.csz]) ?_)
    | (go_at_call 38; refine RC.out.mono ?_; rintro e W1 ⟨v1, rfl, hb1, hr1⟩
       obtain ⟨sv1, u0, u1, u2, u3, wv1, ev, rb1, st1⟩ := id hr1
       subst ev
       have R1 := Lib.hid (And.intro hb1 (And.intro (ref_ones rb1 st1) hr1))
       clear hb1 rb1 st1 hr1)
    | (refine wpList_store_abs rfl tRDisk (.tmp 23) (.tmp 164) rfl W1.heap.size _ rfl rfl tRDisk ref0 (heap_alloc_last W1 _) infoRD rfl (R1.out.2.1 _ _ _ _) ?_
       intro W2 HW2 HM2 HS2
       have hb2 : Below W1.heap.size W1 W2 := Moves.new ((Below.refl _ _).alloc (Nat.le_refl _) _) HM2 (Nat.le_refl _)
       have R2 := Lib.hid (And.intro hb2 HW2.out)
       clear HM2 HS2 HW2 hb2))
  have hb02 : Below W0.heap.size W0 W2 := R1.out.1.trans (R2.out.1.mono R1.out.1.size)
  have a1 : W2.heap[w.heap.size + 1]? = some (.cells (actC 4 sec n bv raw kv torn part) tAct (0, 0)) := (hb02.block _ (lt_of_row HIN.out.r1)).trans HIN.out.r1
  have g2 := R2.out.2
  have CL : Hid (∀ X : World, X.heap = W2.heap → ActCls (w.heap.size + 1) W1.heap.size W2 X) := fun X hX => ⟨by rw [hX], by rw [hX]⟩
  have ne : Nonempty (Wd (ActCls (w.heap.size + 1) W1.heap.size W2)) := ⟨⟨W2, CL.out W2 rfl⟩⟩
  have x1 : ∀ x : Wd (ActCls (w.heap.size + 1) W1.heap.size W2), x.world.cell? ⟨w.heap.size + 1, 1, none⟩ = some (.int .i64 sec) := fun x => row_cell (x.ok.1.trans a1) rfl
  have x2 : ∀ x : Wd (ActCls (w.heap.size + 1) W1.heap.size W2), x.world.cell? ⟨w.heap.size + 1, 2, none⟩ = some (.int .i64 n) := fun x => row_cell (x.ok.1.trans a1) rfl
  have LD : Hid (∀ w', (∃ x : Wd (ActCls (w.heap.size + 1) W1.heap.size W2), w' = x.world) → (Instr.loadAt tRDisk (.pointer (some ⟨W1.heap.size, 0, none⟩))).run Try.prog w' = .ok (.agg (refC (d.stop n).1.many (d.stop n).1.room sv1 u0 u1 u2 u3 wv1 (d.stop n).1.dead (d.stop n).1.stops)) w') := by
    rintro w' ⟨x, rfl⟩
    exact run_loadAt_row (x.ok.2.trans g2) Try.underlying42 rfl infoRD
  have DC := Lib.hid (calls_left (stop_c (w := W2.drew) (HIN.out.disk0 hb02.drew) n hn1))
  have LT := HIN.out.disk.lt
  have zs : w.heap.size + 3 = W0.heap.size ∧ W0.heap.size ≤ W1.heap.size ∧ W1.heap.size < W2.heap.size := ⟨HIN.out.size.symm, R1.out.1.size, lt_of_row g2⟩
  clear a1 g2 k0 k1 k2 ok
  refine wp_region_hoist (fun w' => ∃ x : Wd (ActCls (w.heap.size + 1) W1.heap.size W2), w' = x.world) [] (by kernel_rfl) ?_
  refine wpAnyI_reads [0, 1, 2, 3, 4, 7] 6 _ ⟨⟨_, CL.out W2.drew rfl⟩, rfl⟩ (by kernel_rfl) ?_
  simp only [List.filterMap_cons, List.filterMap_nil, List.getElem?_toArray, List.getElem?_cons_succ, List.getElem?_cons_zero]
  refine wpHoist_step (fun K hK => ?_); simp only [hoists, sameUpon]; go_simp; refine hK _ ?_; clear hK K
  refine wpHoist_load_run rfl tRDisk (.tmp 23) rfl _ LD.out ?_
  repeat (refine wpHoist_step (fun K hK => ?_); simp only [hoists, sameUpon]; go_simp; refine hK _ ?_; clear hK K)
  refine wpHoist_nil ?_
  refine wpAnyI_one 5 5 _ _ rfl (by kernel_rfl) ?_
  refine wpList_plain rfl fun K hK => ?_
  go_simp
  go_at_call 25
  refine DC.out.mono ?_
  rintro e W3 ⟨rfl, hL⟩
  have cl3 : ActCls (w.heap.size + 1) W1.heap.size W2 W3 := ⟨hL.2.1.block _ (by show _ < W2.heap.size; omega) (by omega), hL.2.1.block _ (by show _ < W2.heap.size; omega) (by omega)⟩
  have t7 : W3.heap[w.heap.size + 1 + 1]? = some (.cells ref0 tRDisk (0, 0)) := by
    rw [hL.2.1.block _ (by show _ < W2.heap.size; omega) (by omega)]
    exact (hb02.block _ (by omega)).trans HIN.out.r2
  have HL := Lib.hid (And.intro hL t7)
  clear hL t7
  refine hK _ _ (wpList_nil ⟨rfl, fun _ => ⟨⟨_, cl3⟩, rfl⟩, ?_⟩)
  clear hK K
  refine wpAnyI_one 6 4 _ _ rfl (by kernel_rfl) ?_
  refine wpList_plain rfl fun K hK => ?_
  go_simp
  go_at_call 9
  refine (num_c _ _).mono ?_
  rintro e W3' ⟨rfl, rfl⟩
  refine hK _ _ (wpList_nil ⟨rfl, fun _ => ⟨⟨_, cl3⟩, rfl⟩, ?_⟩)
  clear hK K
  refine wpAnyI_reads [8, 9] 2 _ ⟨⟨_, cl3⟩, rfl⟩ (by kernel_rfl) ?_
  simp only [List.filterMap_cons, List.filterMap_nil, List.getElem?_toArray, List.getElem?_cons_succ, List.getElem?_cons_zero]
  repeat (refine wpHoist_step (fun K hK => ?_); simp only [hoists, sameUpon]; go_simp; refine hK _ ?_; clear hK K)
  refine wpHoist_nil ?_
  refine wpAnyI_one 10 1 _ _ rfl (by kernel_rfl) ?_
  refine wpList_store_abs rfl tRDisk (.tmp 7) (.tmp 167) rfl (w.heap.size + 1 + 1) _ rfl rfl tRDisk ref0 HL.out.2 infoRD rfl (R1.out.2.1 _ _ _ _) ?_
  intro W4 HW4 HM4 HS4
  have cl4 : ActCls (w.heap.size + 1) W1.heap.size W2 W4 := ⟨(HM4.block _ (by have := HL.out.1.2.1.size; have : W2.heap.size ≤ W3.heap.size := this; omega) (by omega)).trans cl3.1, (HM4.block _ (by have := HL.out.1.2.1.size; have : W2.heap.size ≤ W3.heap.size := this; omega) (by omega)).trans cl3.2⟩
  have H4 := Lib.hid HM4
  clear HM4 HS4
  refine wpList_nil ⟨rfl, fun _ => ⟨⟨_, cl4⟩, rfl⟩, ?_⟩
  refine wpAnyI_reads [11] 0 _ ⟨⟨_, cl4⟩, rfl⟩ (by kernel_rfl) ?_
  simp only [List.filterMap_cons, List.filterMap_nil, List.getElem?_toArray, List.getElem?_cons_succ, List.getElem?_cons_zero]
  repeat (refine wpHoist_step (fun K hK => ?_); simp only [hoists, sameUpon]; go_simp; refine hK _ ?_; clear hK K)
  refine wpHoist_nil ?_
  refine ⟨by kernel_rfl, ?_⟩
  go_wp2
  refine bodyPost_ret (results_three rfl _ _ (w.heap.size + 1 + 1) _ _ _ _ _ _ rfl rfl rfl HW4.out Try.underlying42 rfl infoRD) rfl ?_
  have fin := act_end HIN.out.disk HIN.out.below R1.out.1 R1.out.2.2 R2.out.1.drew HL.out.1 (H4.out.mono (fun k hk => by omega))
  simpa using fin

end Go.Proofs.Ytiefhmbpaoecfaa

namespace Go.Proofs.Ytiefhmbpaoecfaa
open Go.RowKit Dm

set_option maxRecDepth 100000 in
set_option maxHeartbeats 4000000 in
theorem act_append {w : World} {p m : Nat} {F G : Nat → Prop} {v : Value} {d : D} (x : DiskAt w.heap p m d F) (hr : RefAt w.heap F v d) (hn : d.waits.length ≤ 1000000000) (sec n : Int) {bv : Value} {l : List UInt8} (hv : BytesIn w.heap G bv l) (hl : l.length ≤ 1048576) (raw : Bool) (kv : Value) (torn part : Int) :
    Calls Try.prog 13 #[.pointer (some ⟨p, 0, none⟩), v, .agg (actC 1 sec n bv raw kv torn part)] w (ActPost w p m F (d.append n l).1) := by
  obtain ⟨C, rfl, hin⟩ := actIn_of x hr (actC 1 sec n bv raw kv torn part)
  obtain ⟨W0, hW0⟩ : ∃ W0, actW w C (actC 1 sec n bv raw kv torn part) = W0 := ⟨_, rfl⟩
  rw [hW0] at hin
  have ok := x.ok
  obtain ⟨ba, bc, eb⟩ := hv.slice
  have HIN := Lib.hid hin
  have k0 : W0.cell? ⟨w.heap.size + 1, 0, none⟩ = some (.int .i64 1) := row_cell hin.r1 rfl
  have k2 : W0.cell? ⟨w.heap.size + 1, 2, none⟩ = some (.int .i64 n) := row_cell hin.r1 rfl
  have k3 : W0.cell? ⟨w.heap.size + 1, 3, none⟩ = some bv := row_cell hin.r1 rfl
  have hbE : Below W0.heap.size W0 (W0.alloc (.cells #[] tByte)) := (Below.refl _ _).alloc (Nat.le_refl _) _
  have srcE : BytesIn (W0.alloc (.cells #[] tByte)).heap G bv l := hv.keeps (fun k _ hl => (hbE.block k (by have := hin.size; omega)).trans (hin.below.block k hl)) (fun _ h _ => h)
  have k3E : (W0.alloc (.cells #[] tByte)).cell? ⟨w.heap.size + 1, 3, none⟩ = some bv := (hbE.cell (p := ⟨w.heap.size + 1, 3, none⟩) (lt_of_row hin.r1)).trans k3
  have E := Lib.hid (And.intro hbE srcE)
  have HV := Lib.hid (And.intro hv (And.intro hl (And.intro ok hn)))
  clear hbE srcE
  clear hin x hr hv hl ok hn
  subst eb
  go_enter Try.func13, Try.ntmps13
  go_upto_region 1 with fail
  clear hW0
  go_upto_region 16 with (refine wpList_append_bytesIn rfl (.tmp 86) (.tmp 88) rfl W0.heap.size W0.heap.size W0 E.out.1 (Nat.le_refl _) _ [] rfl (own_empty W0) _ l G rfl E.out.2 (by have := HV.out.2.1; simp; omega) (by simp) ?_
                          intro vb Wb OWB hbb _
                          rw [List.nil_append] at OWB
                          obtain ⟨va, vc, evb⟩ := OWB.out.bytes.bytes.slice
                          subst evb)
  have fb := OWB.out.bytes
  have hvn : va = none → l.length = 0 := fun h => by
    rcases fb with ⟨h1, h2⟩ | ⟨b, cap, cc, t, h1, _⟩
    · rw [h2]; rfl
    · rw [h] at h1; cases h1
  have ga : ∀ g o sp, va = some ⟨g, o, sp⟩ → o = 0 ∧ sp = none := fun g o sp h => by
    rcases fb with ⟨h1, h2⟩ | ⟨b, cap, cc, t, h1, _⟩
    · rw [h] at h1; cases h1
    · rw [h] at h1; cases h1; exact ⟨rfl, rfl⟩
  have b1 : Wb.heap[w.heap.size]? = some (.cells C tRDisk (0, 0)) := (hbb.block _ (lt_of_row HIN.out.r0)).trans HIN.out.r0
  have b2 : Wb.heap[w.heap.size + 1]? = some (.cells (actC 1 sec n (.slice ba l.length bc) raw kv torn part) tAct (0, 0)) := (hbb.block _ (lt_of_row HIN.out.r1)).trans HIN.out.r1
  have b3 : Wb.heap[w.heap.size + 1 + 1]? = some (.cells ref0 tRDisk (0, 0)) := (hbb.block _ (lt_of_row HIN.out.r2)).trans HIN.out.r2
  have kb2 : Wb.cell? ⟨w.heap.size + 1, 2, none⟩ = some (.int .i64 n) := row_cell b2 rfl
  have bbw : Below w.heap.size w Wb := HIN.out.below.trans (hbb.mono HIN.out.below.size)
  have zb : w.heap.size + 3 ≤ Wb.heap.size := by have := hbb.size; have := HIN.out.size; omega
  have RC := Lib.hid (rappend_c (HIN.out.at0 hbb) HV.out.2.2.1 (by have := HV.out.2.2.2; omega) n fb.bytes HV.out.2.1)
  have BB := Lib.hid (And.intro hbb (And.intro b1 (And.intro b2 (And.intro b3 (And.intro bbw (And.intro zb fb))))))
  have GA := Lib.hid (And.intro hvn ga)
  clear k0 k2 k3 k3E hbb b1 b2 b3 bbw fb hvn ga
  generalize hll : l.length = ll at *
  have HLL := Lib.hid hll
  clear hll
  go_upto_region 17 with (first
    | (refine wpList_load_row rfl tRDisk (.tmp 4) rfl w.heap.size rfl tRDisk C (0, 0) _ BB.out.2.1 Try.underlying42 rfl (by rw [infoRD, HIN.out.csz]) ?_)
    | (go_at_call 35; refine RC.out.mono ?_; rintro e W1 ⟨v1, rfl, hb1, hr1⟩
       obtain ⟨sv1, u0, u1, u2, u3, wv1, ev, rb1, st1⟩ := id hr1
       subst ev
       have R1 := Lib.hid (And.intro hb1 (And.intro (ref_ones rb1 st1) hr1))
       clear hb1 rb1 st1 hr1)
    | (refine wpList_store_abs rfl tRDisk (.tmp 15) (.tmp 96) rfl W1.heap.size _ rfl rfl tRDisk ref0 (heap_alloc_last W1 _) infoRD rfl (R1.out.2.1 _ _ _ _) ?_
       intro W2 HW2 HM2 HS2
       have hb2 : Below W1.heap.size W1 W2 := Moves.new ((Below.refl _ _).alloc (Nat.le_refl _) _) HM2 (Nat.le_refl _)
       have R2 := Lib.hid (And.intro hb2 HW2.out)
       clear HM2 HS2 HW2 hb2))
  have hb02 : Below Wb.heap.size Wb W2 := R1.out.1.trans (R2.out.1.mono R1.out.1.size)
  have kc2 : W2.cell? ⟨w.heap.size + 1, 2, none⟩ = some (.int .i64 n) := row_cell ((hb02.block _ (lt_of_row BB.out.2.2.1)).trans BB.out.2.2.1) rfl
  have DC := Lib.hid (calls_left (append_c (HIN.out.disk0 (BB.out.1.trans (hb02.mono BB.out.1.size))) n ((BB.out.2.2.2.2.2.2.bytes).below hb02) (by have := HV.out.2.1; have := HLL.out; omega) (by have := HV.out.2.2.2; omega)))
  have LT := HIN.out.disk.lt
  have zs : W0.heap.size = w.heap.size + 3 ∧ W0.heap.size ≤ Wb.heap.size ∧ Wb.heap.size ≤ W1.heap.size ∧ W1.heap.size < W2.heap.size := ⟨HIN.out.size, BB.out.1.size, R1.out.1.size, lt_of_row R2.out.2⟩
  have HB2 := Lib.hid hb02
  clear kb2 hb02
  go_upto_region 18 with (go_at_call 22; refine DC.out.mono ?_; rintro e W3 ⟨rfl, hL⟩)
  have z3 : W2.heap.size ≤ W3.heap.size := hL.2.1.size
  have fb3 : FreshBytes W3.heap W0.heap.size (.slice va ll vc) l := by
    have f := BB.out.2.2.2.2.2.2
    rcases f with f | ⟨b, cap, cc, t, h1, h2, h3, h4, h5, h6⟩
    · exact Or.inl f
    · refine Or.inr ⟨b, cap, cc, t, h1, h2, h3, h4, ?_, h6⟩
      rw [hL.2.1.block b (by have := lt_of_row h5; omega) (by omega), HB2.out.block b (lt_of_row h5)]
      exact h5
  have rel0 : IncRel (fun k => w.heap.size ≤ k ∧ k < Wb.heap.size ∧ k ≠ w.heap.size + 1 + 1) va ll W3 W3 := by
    have r := IncRel.start (BB := fun k => W0.heap.size ≤ k ∧ k < W3.heap.size) fb3 (fun k hk => by by_cases h : k < W3.heap.size; exact Or.inl ⟨hk, h⟩; exact Or.inr (by omega))
    refine ⟨Moves.refl _ _, rfl, fun g hg => ?_⟩
    obtain ⟨_, c, t, q1, q2⟩ := r.row g hg
    refine ⟨?_, c, t, q1, q2⟩
    have f := BB.out.2.2.2.2.2.2
    rcases f with ⟨h1, _⟩ | ⟨b, cap, cc, t, h1, h2, h3, h4, h5, h6⟩
    · rw [hg] at h1; cases h1
    · rw [hg] at h1
      obtain ⟨e1, _⟩ := Value.slice.inj h1
      simp only [Option.some.injEq, Addr.mk.injEq] at e1
      have := lt_of_row h5
      omega
  have HL := Lib.hid (And.intro hL z3)
  have REL := Lib.hid rel0
  clear hL fb3 rel0 kc2 z3
  go_wp2
  go_loopg [18] ll (fun g i wr => ∃ k : Nat, i = .int .i64 (k : Int) ∧ g + k = ll ∧ IncRel (fun k => w.heap.size ≤ k ∧ k < Wb.heap.size ∧ k ≠ w.heap.size + 1 + 1) va ll W3 wr)
  case atStart => exact ⟨0, rfl, rfl, REL.out⟩
  case round =>
    obtain ⟨k, rfl, hg, rel⟩ := hrel
    have hlm : ll ≤ 1048576 := by have := HV.out.2.1; have := HLL.out; omega
    by_cases hlt : k < ll
    · obtain ⟨g, rfl⟩ : ∃ g, va = some ⟨g, 0, none⟩ := by
        cases hva : va with
        | none => have := GA.out.1 hva; omega
        | some a =>
          obtain ⟨g, o, sp⟩ := a
          obtain ⟨rfl, rfl⟩ := GA.out.2 g o sp hva
          exact ⟨g, rfl⟩
      obtain ⟨_, c, t, hc, hcy⟩ := rel.row g rfl
      obtain ⟨y, hy0, hy1, hy⟩ := hcy k hlt
      have ky : wr.cell? ⟨g, k, none⟩ = some (.int .u8 y) := row_cell hc hy
      have fy : wr.frozen? ⟨g, k, none⟩ = false := row_free hc _
      have hk0 : (0 : Int) ≤ (k : Int) := by omega
      have hk1 : (k : Int) < (ll : Int) := by omega
      have H := Lib.hid (And.intro rel hg)
      clear rel hg hc hcy hy
      go_wp2
      go_roundg (ll - (k + 1))
      case measure => have := H.out.2; omega
      case rel => exact ⟨k + 1, by go_num, by have := H.out.2; omega, H.out.1.step (u8_wrap y hy0 hy1).1 (u8_wrap y hy0 hy1).2⟩
    · obtain rfl : k = ll := by omega
      have zr : W3.heap.size = wr.heap.size := rel.size.symm
      have z3 := HL.out.2
      have g2 : wr.heap[W1.heap.size]? = some (.cells (refC (d.append n l).1.many (d.append n l).1.room sv1 u0 u1 u2 u3 wv1 (d.append n l).1.dead (d.append n l).1.stops) tRDisk (0, 0)) := by
        rw [rel.moves.block _ (by omega) (by omega), HL.out.1.2.1.block _ (by omega) (by omega)]
        exact R2.out.2
      have t7 : wr.heap[w.heap.size + 1 + 1]? = some (.cells ref0 tRDisk (0, 0)) := by
        rw [rel.moves.block _ (by omega) (by omega), HL.out.1.2.1.block _ (by omega) (by omega), HB2.out.block _ (by omega)]
        exact BB.out.2.2.2.1
      have LD : Hid (∀ w', (∃ x : Wd (ActCls W1.heap.size W1.heap.size wr), w' = x.world) → (Instr.loadAt tRDisk (.pointer (some ⟨W1.heap.size, 0, none⟩))).run Try.prog w' = .ok (.agg (refC (d.append n l).1.many (d.append n l).1.room sv1 u0 u1 u2 u3 wv1 (d.append n l).1.dead (d.append n l).1.stops)) w') := by
        rintro w' ⟨x, rfl⟩
        exact run_loadAt_row (x.ok.2.trans g2) Try.underlying42 rfl infoRD
      have ne : Nonempty (Wd (ActCls W1.heap.size W1.heap.size wr)) := ⟨⟨wr, rfl, rfl⟩⟩
      have H := Lib.hid (And.intro rel t7)
      clear rel t7 g2
      go_wp2
      refine wp_region_hoist (fun w' => ∃ x : Wd (ActCls W1.heap.size W1.heap.size wr), w' = x.world) [] (by kernel_rfl) ?_
      refine wpAnyI_reads [0, 1, 2, 4] 5 _ ⟨⟨_, (⟨rfl, rfl⟩ : ActCls W1.heap.size W1.heap.size wr wr.drew)⟩, rfl⟩ (by kernel_rfl) ?_
      simp only [List.filterMap_cons, List.filterMap_nil, List.getElem?_toArray, List.getElem?_cons_succ, List.getElem?_cons_zero]
      refine wpHoist_step (fun K hK => ?_); simp only [hoists, sameUpon]; go_simp; refine hK _ ?_; clear hK K
      refine wpHoist_load_run rfl tRDisk (.tmp 15) rfl _ LD.out ?_
      repeat (refine wpHoist_step (fun K hK => ?_); simp only [hoists, sameUpon]; go_simp; refine hK _ ?_; clear hK K)
      refine wpHoist_nil ?_
      refine wpAnyI_one 3 4 _ _ rfl (by kernel_rfl) ?_
      refine wpList_plain rfl fun K hK => ?_
      go_simp
      go_at_call 9
      refine (num_c _ _).mono ?_
      rintro e W3' ⟨rfl, rfl⟩
      refine hK _ _ (wpList_nil ⟨rfl, fun _ => ⟨⟨_, (⟨rfl, rfl⟩ : ActCls W1.heap.size W1.heap.size wr wr.drew)⟩, rfl⟩, ?_⟩)
      clear hK K
      refine wpAnyI_reads [5, 6] 2 _ ⟨⟨_, (⟨rfl, rfl⟩ : ActCls W1.heap.size W1.heap.size wr wr.drew)⟩, rfl⟩ (by kernel_rfl) ?_
      simp only [List.filterMap_cons, List.filterMap_nil, List.getElem?_toArray, List.getElem?_cons_succ, List.getElem?_cons_zero]
      repeat (refine wpHoist_step (fun K hK => ?_); simp only [hoists, sameUpon]; go_simp; refine hK _ ?_; clear hK K)
      refine wpHoist_nil ?_
      refine wpAnyI_one 7 1 _ _ rfl (by kernel_rfl) ?_
      refine wpList_store_abs rfl tRDisk (.tmp 7) (.tmp 116) rfl (w.heap.size + 1 + 1) _ rfl rfl tRDisk ref0 H.out.2 infoRD rfl (R1.out.2.1 _ _ _ _) ?_
      intro W4 HW4 HM4 HS4
      have cl4 : ActCls W1.heap.size W1.heap.size wr W4 := ⟨HM4.block _ (by show _ < wr.heap.size; omega) (by omega), HM4.block _ (by show _ < wr.heap.size; omega) (by omega)⟩
      have H4 := Lib.hid HM4
      clear HM4 HS4
      refine wpList_nil ⟨rfl, fun _ => ⟨⟨_, cl4⟩, rfl⟩, ?_⟩
      refine wpAnyI_reads [8] 0 _ ⟨⟨_, cl4⟩, rfl⟩ (by kernel_rfl) ?_
      simp only [List.filterMap_cons, List.filterMap_nil, List.getElem?_toArray, List.getElem?_cons_succ, List.getElem?_cons_zero]
      repeat (refine wpHoist_step (fun K hK => ?_); simp only [hoists, sameUpon]; go_simp; refine hK _ ?_; clear hK K)
      refine wpHoist_nil ?_
      refine ⟨by kernel_rfl, ?_⟩
      go_wp2
      refine bodyPost_ret (results_three rfl _ _ (w.heap.size + 1 + 1) _ _ _ _ _ _ rfl rfl rfl HW4.out Try.underlying42 rfl infoRD) rfl ?_
      have mv : Moves (fun k => w.heap.size ≤ k ∧ k < Wb.heap.size) W3 W4 := by
        have h1 := H.out.1.moves
        have h2 := H4.out
        refine ⟨h2.os.trans h1.os, h2.tape.trans h1.tape, h2.output.trans h1.output, Nat.le_trans h1.size h2.size, fun k hk hn => ?_⟩
        rw [h2.block k (by show _ < wr.heap.size; omega) (by omega)]
        exact h1.block k hk (fun h => hn ⟨h.1, h.2.1⟩)
      have fin := act_end HIN.out.disk BB.out.2.2.2.2.1 R1.out.1 R1.out.2.2 R2.out.1 HL.out.1 mv
      simpa using fin

end Go.Proofs.Ytiefhmbpaoecfaa
