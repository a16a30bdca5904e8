/-
  'act': a look, case 0 0.
  'act': a look, case 0 1.
  'act': a look, case 0 2.
-/
import Derived.Test.YtiefhmbpaoecfaaG23

namespace Go.Proofs.Ytiefhmbpaoecfaa
open Go.RowKit Dm

set_option maxRecDepth 100000 in
set_option maxHeartbeats 4000000 in
theorem act_look_s0t0 {w : World} {p m : Nat} {F : Nat → Prop} {v : Value} {d : D} (x : DiskAt w.heap p m d F) (hr : RefAt w.heap F v d) (hn : d.waits.length ≤ 1000000000) (what sec n : Int) (h0 : (what == 0) = false) (h1 : (what == 1) = false) (h2 : (what == 2) = false) (h3 : (what == 3) = false) (h4 : (what == 4) = false) (h5 : (what == 5) = false) (hs : sec < 0) (ht : n < 0) (bv : Value) (raw : Bool) (kv : Value) (torn part : Int) :
    Calls Try.prog 13 #[.pointer (some ⟨p, 0, none⟩), v, .agg (actC what sec n bv raw kv torn part)] w (ActPost w p m F d) := by
  obtain ⟨C, rfl, hin⟩ := actIn_of x hr (actC what sec n bv raw kv torn part)
  obtain ⟨W0, hW0⟩ : ∃ W0, actW w C (actC what sec n bv raw kv torn part) = W0 := ⟨_, rfl⟩
  rw [hW0] at hin
  have ok := x.ok
  have HIN := Lib.hid hin
  have k0 : W0.cell? ⟨w.heap.size + 1, 0, none⟩ = some (.int .i64 what) := row_cell hin.r1 rfl
  have k1 : W0.cell? ⟨w.heap.size + 1, 1, none⟩ = some (.int .i64 sec) := row_cell hin.r1 rfl
  have RD := Lib.hid (read_c (hin.disk0 (Below.refl _ _)) sec)
  have OK := Lib.hid (And.intro ok hn)
  rw [if_pos (by omega), if_pos (by omega)] at RD
  clear hin x hr ok hn
  go_enter Try.func13, Try.ntmps13
  go_upto_region 1 with fail
  clear hW0
  go_upto_region 38 with (first
    | (go_at_call 17; refine RD.out.mono ?_; rintro e X1 ⟨v1, rfl, hb1, f1⟩
       obtain ⟨ra, rc, ev⟩ := f1.bytes.slice
       subst ev
       have k2 : X1.cell? ⟨w.heap.size + 1, 2, none⟩ = some (.int .i64 n) := row_cell ((hb1.block _ (lt_of_row HIN.out.r1)).trans HIN.out.r1) rfl
       have TP := Lib.hid (tape_c (HIN.out.disk0 hb1) n)
       rw [if_pos (by omega), if_pos (by omega)] at TP
       have F1 := Lib.hid (And.intro hb1 f1)
       clear hb1 f1)
    | (go_at_call 19; refine TP.out.mono ?_; rintro e X2 ⟨v2, rfl, hb2, f2⟩
       obtain ⟨ta, tc, ev⟩ := f2.bytes.slice
       subst ev
       have F2 := Lib.hid (And.intro hb2 f2)
       clear hb2 f2))
  have hb02 : Below W0.heap.size W0 X2 := F1.out.1.trans (F2.out.1.mono F1.out.1.size)
  have r0 : X2.heap[w.heap.size]? = some (.cells C tRDisk (0, 0)) := (hb02.block _ (lt_of_row HIN.out.r0)).trans HIN.out.r0
  have r1 : X2.heap[w.heap.size + 1]? = some (.cells (actC what sec n bv raw kv torn part) tAct (0, 0)) := (hb02.block _ (lt_of_row HIN.out.r1)).trans HIN.out.r1
  have x1 : ∀ x : Wd (Below X2.heap.size X2), x.world.cell? ⟨w.heap.size + 1, 1, none⟩ = some (.int .i64 sec) := fun x => (x.ok.cell (p := ⟨w.heap.size + 1, 1, none⟩) (lt_of_row r1)).trans (row_cell r1 rfl)
  have LD : Hid (∀ w', (∃ x : Wd (Below X2.heap.size X2), w' = x.world) → (Instr.loadAt tRDisk (.pointer (some ⟨w.heap.size, 0, none⟩))).run Try.prog w' = .ok (.agg C) w') := by
    rintro w' ⟨x, rfl⟩
    exact run_loadAt_row ((x.ok.block _ (lt_of_row r0)).trans r0) Try.underlying42 rfl (by rw [infoRD, HIN.out.csz])
  have ne : Nonempty (Wd (Below X2.heap.size X2)) := ⟨⟨_, Below.refl _ _⟩⟩
  have ST := Lib.hid (stands_c (HIN.out.at0 (X := X2.drew) hb02.drew) OK.out.1 (by have := OK.out.2; omega))
  have R2 := Lib.hid (And.intro hb02 (And.intro r0 r1))
  clear k0 k1 k2 r0 r1 hb02
  refine wp_region_hoist (fun w' => ∃ x : Wd (Below X2.heap.size X2), w' = x.world) [] (by kernel_rfl) ?_
  refine wpAnyI_reads [0, 2, 3] 4 _ ⟨⟨_, (Below.refl _ _).drew⟩, rfl⟩ (by kernel_rfl) ?_
  simp only [List.filterMap_cons, List.filterMap_nil, List.getElem?_toArray, List.getElem?_cons_succ, List.getElem?_cons_zero]
  refine wpHoist_load_run rfl tRDisk (.tmp 4) rfl _ LD.out ?_
  repeat (refine wpHoist_step (fun K hK => ?_); simp only [hoists, sameUpon]; go_simp; refine hK _ ?_; clear hK K)
  refine wpHoist_nil ?_
  refine wpAnyI_one 1 3 _ _ rfl (by kernel_rfl) ?_
  refine wpList_plain rfl fun K hK => ?_
  go_simp
  go_at_call 40
  refine ST.out.mono ?_
  rintro e X3 ⟨sv, t0, t1, t2, t3, rfl, hb3, rb3⟩
  have hb3' : Below X2.heap.size X2 X3 := (Below.refl _ _).drew.trans hb3
  have RB3 := Lib.hid rb3
  clear rb3 hb3
  refine hK _ _ (wpList_nil ⟨rfl, fun _ => ⟨⟨_, hb3'⟩, rfl⟩, ?_⟩)
  clear hK K
  refine wpAnyI_one 4 2 _ _ rfl (by kernel_rfl) ?_
  refine wpList_plain rfl fun K hK => ?_
  go_simp
  go_at_call 41
  refine (rsector_c RB3.out OK.out.1.many1 sec).mono ?_
  rintro e X4 ⟨v4, rfl, hb4, f4⟩
  obtain ⟨sa, sc, ev⟩ := f4.slice
  have SL := Lib.hid (stand_secs OK.out.1 sec)
  have hb4' : Below X2.heap.size X2 X4 := hb3'.trans (hb4.mono hb3'.size)
  have F4 := Lib.hid (And.intro f4 ev)
  clear f4 hb4 hb3' ev
  refine hK _ _ (wpList_nil ⟨rfl, fun _ => ⟨⟨_, hb4'⟩, rfl⟩, ?_⟩)
  clear hK K
  refine wpAnyI_reads [5, 6] 0 _ ⟨⟨_, hb4'⟩, rfl⟩ (by kernel_rfl) ?_
  simp only [List.filterMap_cons, List.filterMap_nil, List.getElem?_toArray, List.getElem?_cons_succ, List.getElem?_cons_zero]
  repeat (refine wpHoist_step (fun K hK => ?_); simp only [hoists, sameUpon]; go_simp; refine hK _ ?_; clear hK K)
  refine wpHoist_nil ?_
  refine ⟨by kernel_rfl, ?_⟩
  have R4 := Lib.hid (And.intro (R2.out.1.trans (hb4'.mono R2.out.1.size)) (And.intro ((hb4'.block _ (lt_of_row R2.out.2.1)).trans R2.out.2.1) ((hb4'.block _ (lt_of_row R2.out.2.2)).trans R2.out.2.2)))
  have m1 : X4.cell? ⟨w.heap.size + 1, 1, none⟩ = some (.int .i64 sec) := row_cell R4.out.2.2 rfl
  have m0 : X4.cell? ⟨w.heap.size, 0, none⟩ = some (.int .i64 d.many) := row_cell R4.out.2.1 HIN.out.c0
  have m2 : X4.cell? ⟨w.heap.size + 1, 2, none⟩ = some (.int .i64 n) := row_cell R4.out.2.2 rfl
  have B4 := Lib.hid hb4'
  clear hb4' x1 ne LD ST
  go_upto_region 44 with fail
  have b34 : BytesAt X4.heap (fun _ => True) (.slice none 0 0) ([] : List UInt8) := Or.inl ⟨rfl, rfl⟩
  have hbY := B4.out
  clear m1 m2 m0
  have f27 : FreshBytes X4.heap W0.heap.size _ _ := F1.out.2.keepsF (fun k hk hl => (hbY.block k (by have := F2.out.1.size; omega)).trans (F2.out.1.block k hl))
  have f29 : FreshBytes X4.heap X1.heap.size _ _ := F2.out.2.keepsF (fun k hk hl => hbY.block k hl)
  have hc27 := run_string_of f27.bytes
  have hc29 := run_string_of f29.bytes
  have hc34 := run_string_of b34
  have hc33 := run_string_of (w := X4) (F := fun _ => True) (v := .slice none 0 0) (l := []) (Or.inl ⟨rfl, rfl⟩)
  simp only [List.length_nil] at hc27 hc29 hc33 hc34
  go_upto_region 45 with (go_at_call 9; refine (num_c _ _).mono ?_; rintro e w' ⟨rfl, rfl⟩)
  have FR := Lib.hid (And.intro (fresh_addr F1.out.2) (fresh_addr F2.out.2))
  have REL := Lib.hid (IncRel.start2 (Y := X4) F1.out.2 (fun k _ hk => (hbY.block k (by have := F2.out.1.size; omega)).trans (F2.out.1.block k hk)))
  have rel2 : ∀ wr, Moves (fun k => W0.heap.size ≤ k ∧ k < X1.heap.size) X4 wr → IncRel (fun k => X1.heap.size ≤ k ∧ k < X2.heap.size) ta _ wr wr := fun wr hm => IncRel.start2 F2.out.2 (fun k hk hl => by rw [hm.block k (by have := hbY.size; omega) (by omega)]; exact hbY.block k hl)
  have REL2 := Lib.hid rel2
  have HY := Lib.hid (And.intro hbY (R2.out.1.trans (hbY.mono R2.out.1.size)))
  have zz : W0.heap.size ≤ X1.heap.size ∧ X1.heap.size ≤ X2.heap.size ∧ X2.heap.size ≤ X4.heap.size := ⟨F1.out.1.size, F2.out.1.size, hbY.size⟩
  clear rel2 hbY f27 f29 hc27 hc29 hc33 hc34 b34
  simp only [List.length_nil] at FR REL REL2
  go_wp2
  go_loopg [36] 0 (fun g i wr => ∃ k : Nat, i = .int .i64 (k : Int) ∧ g + k = 0 ∧ IncRel (fun k => W0.heap.size ≤ k ∧ k < X1.heap.size) ra 0 X4 wr)
  case atStart => exact ⟨0, rfl, rfl, REL.out⟩
  case round =>
    obtain ⟨k, rfl, hg, rel⟩ := hrel
    obtain rfl : k = 0 := by omega
    have H1 := Lib.hid rel
    obtain ⟨wr1, ewr⟩ : ∃ wr1, wr1 = wr := ⟨_, rfl⟩
    subst ewr
    have RELB := Lib.hid (REL2.out _ rel.moves)
    clear rel hg
    go_wp2
    go_loopg [37] 0 (fun g i wr => ∃ k : Nat, i = .int .i64 (k : Int) ∧ g + k = 0 ∧ IncRel (fun k => X1.heap.size ≤ k ∧ k < X2.heap.size) ta 0 wr1 wr)
    case atStart => exact ⟨0, rfl, rfl, RELB.out⟩
    case round =>
      obtain ⟨k, rfl, hg, rel⟩ := hrel
      obtain rfl : k = 0 := by omega
      have H2 := Lib.hid rel
      clear rel
      have z1 : wr1.heap.size = X4.heap.size := H1.out.size
      have z2 : wr.heap.size = wr1.heap.size := H2.out.size
      have blk : ∀ k, k < W0.heap.size → wr.heap[k]? = W0.heap[k]? := fun k hk => by
        rw [H2.out.moves.block k (by omega) (by omega), H1.out.moves.block k (by omega) (by omega), HY.out.2.block k hk]
      have bw : Below w.heap.size w wr := HIN.out.below.trans ⟨H2.out.moves.os.trans (H1.out.moves.os.trans HY.out.2.os), H2.out.moves.tape.trans (H1.out.moves.tape.trans HY.out.2.tape), H2.out.moves.output.trans (H1.out.moves.output.trans HY.out.2.output), by have := HIN.out.below.size; omega, fun k hk => blk k (by have := HIN.out.below.size; omega)⟩
      have r0 := (blk _ (lt_of_row HIN.out.r0)).trans HIN.out.r0
      have r2 := (blk _ (lt_of_row HIN.out.r2)).trans HIN.out.r2
      have BW := Lib.hid (And.intro bw r2)
      have LD : Hid (∀ w', (∃ x : Wd (ActCls w.heap.size w.heap.size wr), w' = x.world) → (Instr.loadAt tRDisk (.pointer (some ⟨w.heap.size, 0, none⟩))).run Try.prog w' = .ok (.agg C) w') := by
        rintro w' ⟨x, rfl⟩
        exact run_loadAt_row (x.ok.2.trans r0) Try.underlying42 rfl (by rw [infoRD, HIN.out.csz])
      have ne : Nonempty (Wd (ActCls w.heap.size w.heap.size wr)) := ⟨⟨wr, rfl, rfl⟩⟩
      have lw : w.heap.size < wr.heap.size := lt_of_row r0
      clear blk bw r0 r2 z1 z2
      go_wp2
      refine wp_region_hoist (fun w' => ∃ x : Wd (ActCls w.heap.size w.heap.size wr), w' = x.world) [] (by kernel_rfl) ?_
      refine wpAnyI_reads [0, 1, 2, 3] 2 _ ⟨⟨_, (⟨rfl, rfl⟩ : ActCls w.heap.size w.heap.size wr wr.drew)⟩, rfl⟩ (by kernel_rfl) ?_
      simp only [List.filterMap_cons, List.filterMap_nil, List.getElem?_toArray, List.getElem?_cons_succ, List.getElem?_cons_zero]
      refine wpHoist_step (fun K hK => ?_); simp only [hoists, sameUpon]; go_simp; refine hK _ ?_; clear hK K
      refine wpHoist_load_run rfl tRDisk (.tmp 4) rfl _ LD.out ?_
      repeat (refine wpHoist_step (fun K hK => ?_); simp only [hoists, sameUpon]; go_simp; refine hK _ ?_; clear hK K)
      refine wpHoist_nil ?_
      refine wpAnyI_one 4 1 _ _ rfl (by kernel_rfl) ?_
      refine wpList_store_abs rfl tRDisk (.tmp 7) (.tmp 284) rfl (w.heap.size + 1 + 1) _ rfl rfl tRDisk ref0 BW.out.2 (by rw [infoRD, HIN.out.csz]) (by rw [HIN.out.csz]; rfl) (ref_all HIN.out.ref) ?_
      intro W4 HW4 HM4 HS4
      have cl4 : ActCls w.heap.size w.heap.size wr W4 := ⟨HM4.block _ lw (by omega), HM4.block _ lw (by omega)⟩
      have H4 := Lib.hid HM4
      clear HM4 HS4
      refine wpList_nil ⟨rfl, fun _ => ⟨⟨_, cl4⟩, rfl⟩, ?_⟩
      refine wpAnyI_reads [5] 0 _ ⟨⟨_, cl4⟩, rfl⟩ (by kernel_rfl) ?_
      simp only [List.filterMap_cons, List.filterMap_nil, List.getElem?_toArray, List.getElem?_cons_succ, List.getElem?_cons_zero]
      repeat (refine wpHoist_step (fun K hK => ?_); simp only [hoists, sameUpon]; go_simp; refine hK _ ?_; clear hK K)
      refine wpHoist_nil ?_
      refine ⟨by kernel_rfl, ?_⟩
      go_wp2
      refine bodyPost_ret (results_three rfl _ _ (w.heap.size + 1 + 1) _ _ _ _ _ _ rfl rfl rfl HW4.out Try.underlying42 rfl (by rw [infoRD, HIN.out.csz])) rfl ?_
      exact look_end HIN.out.disk HIN.out.ref (Moves.new BW.out.1.drew H4.out (by omega))

end Go.Proofs.Ytiefhmbpaoecfaa

namespace Go.Proofs.Ytiefhmbpaoecfaa
open Go.RowKit Dm

set_option maxRecDepth 100000 in
set_option maxHeartbeats 4000000 in
theorem act_look_s0t1 {w : World} {p m : Nat} {F : Nat → Prop} {v : Value} {d : D} (x : DiskAt w.heap p m d F) (hr : RefAt w.heap F v d) (hn : d.waits.length ≤ 1000000000) (what sec n : Int) (h0 : (what == 0) = false) (h1 : (what == 1) = false) (h2 : (what == 2) = false) (h3 : (what == 3) = false) (h4 : (what == 4) = false) (h5 : (what == 5) = false) (hs : sec < 0) (ht : ¬ n < 0) (ht2 : 3 < n) (bv : Value) (raw : Bool) (kv : Value) (torn part : Int) :
    Calls Try.prog 13 #[.pointer (some ⟨p, 0, none⟩), v, .agg (actC what sec n bv raw kv torn part)] w (ActPost w p m F d) := by
  obtain ⟨C, rfl, hin⟩ := actIn_of x hr (actC what sec n bv raw kv torn part)
  obtain ⟨W0, hW0⟩ : ∃ W0, actW w C (actC what sec n bv raw kv torn part) = W0 := ⟨_, rfl⟩
  rw [hW0] at hin
  have ok := x.ok
  have HIN := Lib.hid hin
  have k0 : W0.cell? ⟨w.heap.size + 1, 0, none⟩ = some (.int .i64 what) := row_cell hin.r1 rfl
  have k1 : W0.cell? ⟨w.heap.size + 1, 1, none⟩ = some (.int .i64 sec) := row_cell hin.r1 rfl
  have RD := Lib.hid (read_c (hin.disk0 (Below.refl _ _)) sec)
  have OK := Lib.hid (And.intro ok hn)
  rw [if_pos (by omega), if_pos (by omega)] at RD
  clear hin x hr ok hn
  go_enter Try.func13, Try.ntmps13
  go_upto_region 1 with fail
  clear hW0
  go_upto_region 38 with (first
    | (go_at_call 17; refine RD.out.mono ?_; rintro e X1 ⟨v1, rfl, hb1, f1⟩
       obtain ⟨ra, rc, ev⟩ := f1.bytes.slice
       subst ev
       have k2 : X1.cell? ⟨w.heap.size + 1, 2, none⟩ = some (.int .i64 n) := row_cell ((hb1.block _ (lt_of_row HIN.out.r1)).trans HIN.out.r1) rfl
       have TP := Lib.hid (tape_c (HIN.out.disk0 hb1) n)
       rw [if_pos (by omega), if_pos (by omega)] at TP
       have F1 := Lib.hid (And.intro hb1 f1)
       clear hb1 f1)
    | (go_at_call 19; refine TP.out.mono ?_; rintro e X2 ⟨v2, rfl, hb2, f2⟩
       obtain ⟨ta, tc, ev⟩ := f2.bytes.slice
       subst ev
       have F2 := Lib.hid (And.intro hb2 f2)
       clear hb2 f2))
  have hb02 : Below W0.heap.size W0 X2 := F1.out.1.trans (F2.out.1.mono F1.out.1.size)
  have r0 : X2.heap[w.heap.size]? = some (.cells C tRDisk (0, 0)) := (hb02.block _ (lt_of_row HIN.out.r0)).trans HIN.out.r0
  have r1 : X2.heap[w.heap.size + 1]? = some (.cells (actC what sec n bv raw kv torn part) tAct (0, 0)) := (hb02.block _ (lt_of_row HIN.out.r1)).trans HIN.out.r1
  have x1 : ∀ x : Wd (Below X2.heap.size X2), x.world.cell? ⟨w.heap.size + 1, 1, none⟩ = some (.int .i64 sec) := fun x => (x.ok.cell (p := ⟨w.heap.size + 1, 1, none⟩) (lt_of_row r1)).trans (row_cell r1 rfl)
  have LD : Hid (∀ w', (∃ x : Wd (Below X2.heap.size X2), w' = x.world) → (Instr.loadAt tRDisk (.pointer (some ⟨w.heap.size, 0, none⟩))).run Try.prog w' = .ok (.agg C) w') := by
    rintro w' ⟨x, rfl⟩
    exact run_loadAt_row ((x.ok.block _ (lt_of_row r0)).trans r0) Try.underlying42 rfl (by rw [infoRD, HIN.out.csz])
  have ne : Nonempty (Wd (Below X2.heap.size X2)) := ⟨⟨_, Below.refl _ _⟩⟩
  have ST := Lib.hid (stands_c (HIN.out.at0 (X := X2.drew) hb02.drew) OK.out.1 (by have := OK.out.2; omega))
  have R2 := Lib.hid (And.intro hb02 (And.intro r0 r1))
  clear k0 k1 k2 r0 r1 hb02
  refine wp_region_hoist (fun w' => ∃ x : Wd (Below X2.heap.size X2), w' = x.world) [] (by kernel_rfl) ?_
  refine wpAnyI_reads [0, 2, 3] 4 _ ⟨⟨_, (Below.refl _ _).drew⟩, rfl⟩ (by kernel_rfl) ?_
  simp only [List.filterMap_cons, List.filterMap_nil, List.getElem?_toArray, List.getElem?_cons_succ, List.getElem?_cons_zero]
  refine wpHoist_load_run rfl tRDisk (.tmp 4) rfl _ LD.out ?_
  repeat (refine wpHoist_step (fun K hK => ?_); simp only [hoists, sameUpon]; go_simp; refine hK _ ?_; clear hK K)
  refine wpHoist_nil ?_
  refine wpAnyI_one 1 3 _ _ rfl (by kernel_rfl) ?_
  refine wpList_plain rfl fun K hK => ?_
  go_simp
  go_at_call 40
  refine ST.out.mono ?_
  rintro e X3 ⟨sv, t0, t1, t2, t3, rfl, hb3, rb3⟩
  have hb3' : Below X2.heap.size X2 X3 := (Below.refl _ _).drew.trans hb3
  have RB3 := Lib.hid rb3
  clear rb3 hb3
  refine hK _ _ (wpList_nil ⟨rfl, fun _ => ⟨⟨_, hb3'⟩, rfl⟩, ?_⟩)
  clear hK K
  refine wpAnyI_one 4 2 _ _ rfl (by kernel_rfl) ?_
  refine wpList_plain rfl fun K hK => ?_
  go_simp
  go_at_call 41
  refine (rsector_c RB3.out OK.out.1.many1 sec).mono ?_
  rintro e X4 ⟨v4, rfl, hb4, f4⟩
  obtain ⟨sa, sc, ev⟩ := f4.slice
  have SL := Lib.hid (stand_secs OK.out.1 sec)
  have hb4' : Below X2.heap.size X2 X4 := hb3'.trans (hb4.mono hb3'.size)
  have F4 := Lib.hid (And.intro f4 ev)
  clear f4 hb4 hb3' ev
  refine hK _ _ (wpList_nil ⟨rfl, fun _ => ⟨⟨_, hb4'⟩, rfl⟩, ?_⟩)
  clear hK K
  refine wpAnyI_reads [5, 6] 0 _ ⟨⟨_, hb4'⟩, rfl⟩ (by kernel_rfl) ?_
  simp only [List.filterMap_cons, List.filterMap_nil, List.getElem?_toArray, List.getElem?_cons_succ, List.getElem?_cons_zero]
  repeat (refine wpHoist_step (fun K hK => ?_); simp only [hoists, sameUpon]; go_simp; refine hK _ ?_; clear hK K)
  refine wpHoist_nil ?_
  refine ⟨by kernel_rfl, ?_⟩
  have R4 := Lib.hid (And.intro (R2.out.1.trans (hb4'.mono R2.out.1.size)) (And.intro ((hb4'.block _ (lt_of_row R2.out.2.1)).trans R2.out.2.1) ((hb4'.block _ (lt_of_row R2.out.2.2)).trans R2.out.2.2)))
  have m1 : X4.cell? ⟨w.heap.size + 1, 1, none⟩ = some (.int .i64 sec) := row_cell R4.out.2.2 rfl
  have m0 : X4.cell? ⟨w.heap.size, 0, none⟩ = some (.int .i64 d.many) := row_cell R4.out.2.1 HIN.out.c0
  have m2 : X4.cell? ⟨w.heap.size + 1, 2, none⟩ = some (.int .i64 n) := row_cell R4.out.2.2 rfl
  have B4 := Lib.hid hb4'
  clear hb4' x1 ne LD ST
  go_upto_region 44 with fail
  have b34 : BytesAt X4.heap (fun _ => True) (.slice none 0 0) ([] : List UInt8) := Or.inl ⟨rfl, rfl⟩
  have hbY := B4.out
  clear m1 m2 m0
  have f27 : FreshBytes X4.heap W0.heap.size _ _ := F1.out.2.keepsF (fun k hk hl => (hbY.block k (by have := F2.out.1.size; omega)).trans (F2.out.1.block k hl))
  have f29 : FreshBytes X4.heap X1.heap.size _ _ := F2.out.2.keepsF (fun k hk hl => hbY.block k hl)
  have hc27 := run_string_of f27.bytes
  have hc29 := run_string_of f29.bytes
  have hc34 := run_string_of b34
  have hc33 := run_string_of (w := X4) (F := fun _ => True) (v := .slice none 0 0) (l := []) (Or.inl ⟨rfl, rfl⟩)
  simp only [List.length_nil] at hc27 hc29 hc33 hc34
  go_upto_region 45 with (go_at_call 9; refine (num_c _ _).mono ?_; rintro e w' ⟨rfl, rfl⟩)
  have FR := Lib.hid (And.intro (fresh_addr F1.out.2) (fresh_addr F2.out.2))
  have REL := Lib.hid (IncRel.start2 (Y := X4) F1.out.2 (fun k _ hk => (hbY.block k (by have := F2.out.1.size; omega)).trans (F2.out.1.block k hk)))
  have rel2 : ∀ wr, Moves (fun k => W0.heap.size ≤ k ∧ k < X1.heap.size) X4 wr → IncRel (fun k => X1.heap.size ≤ k ∧ k < X2.heap.size) ta _ wr wr := fun wr hm => IncRel.start2 F2.out.2 (fun k hk hl => by rw [hm.block k (by have := hbY.size; omega) (by omega)]; exact hbY.block k hl)
  have REL2 := Lib.hid rel2
  have HY := Lib.hid (And.intro hbY (R2.out.1.trans (hbY.mono R2.out.1.size)))
  have zz : W0.heap.size ≤ X1.heap.size ∧ X1.heap.size ≤ X2.heap.size ∧ X2.heap.size ≤ X4.heap.size := ⟨F1.out.1.size, F2.out.1.size, hbY.size⟩
  clear rel2 hbY f27 f29 hc27 hc29 hc33 hc34 b34
  simp only [List.length_nil] at FR REL REL2
  go_wp2
  go_loopg [36] 0 (fun g i wr => ∃ k : Nat, i = .int .i64 (k : Int) ∧ g + k = 0 ∧ IncRel (fun k => W0.heap.size ≤ k ∧ k < X1.heap.size) ra 0 X4 wr)
  case atStart => exact ⟨0, rfl, rfl, REL.out⟩
  case round =>
    obtain ⟨k, rfl, hg, rel⟩ := hrel
    obtain rfl : k = 0 := by omega
    have H1 := Lib.hid rel
    obtain ⟨wr1, ewr⟩ : ∃ wr1, wr1 = wr := ⟨_, rfl⟩
    subst ewr
    have RELB := Lib.hid (REL2.out _ rel.moves)
    clear rel hg
    go_wp2
    go_loopg [37] 0 (fun g i wr => ∃ k : Nat, i = .int .i64 (k : Int) ∧ g + k = 0 ∧ IncRel (fun k => X1.heap.size ≤ k ∧ k < X2.heap.size) ta 0 wr1 wr)
    case atStart => exact ⟨0, rfl, rfl, RELB.out⟩
    case round =>
      obtain ⟨k, rfl, hg, rel⟩ := hrel
      obtain rfl : k = 0 := by omega
      have H2 := Lib.hid rel
      clear rel
      have z1 : wr1.heap.size = X4.heap.size := H1.out.size
      have z2 : wr.heap.size = wr1.heap.size := H2.out.size
      have blk : ∀ k, k < W0.heap.size → wr.heap[k]? = W0.heap[k]? := fun k hk => by
        rw [H2.out.moves.block k (by omega) (by omega), H1.out.moves.block k (by omega) (by omega), HY.out.2.block k hk]
      have bw : Below w.heap.size w wr := HIN.out.below.trans ⟨H2.out.moves.os.trans (H1.out.moves.os.trans HY.out.2.os), H2.out.moves.tape.trans (H1.out.moves.tape.trans HY.out.2.tape), H2.out.moves.output.trans (H1.out.moves.output.trans HY.out.2.output), by have := HIN.out.below.size; omega, fun k hk => blk k (by have := HIN.out.below.size; omega)⟩
      have r0 := (blk _ (lt_of_row HIN.out.r0)).trans HIN.out.r0
      have r2 := (blk _ (lt_of_row HIN.out.r2)).trans HIN.out.r2
      have BW := Lib.hid (And.intro bw r2)
      have LD : Hid (∀ w', (∃ x : Wd (ActCls w.heap.size w.heap.size wr), w' = x.world) → (Instr.loadAt tRDisk (.pointer (some ⟨w.heap.size, 0, none⟩))).run Try.prog w' = .ok (.agg C) w') := by
        rintro w' ⟨x, rfl⟩
        exact run_loadAt_row (x.ok.2.trans r0) Try.underlying42 rfl (by rw [infoRD, HIN.out.csz])
      have ne : Nonempty (Wd (ActCls w.heap.size w.heap.size wr)) := ⟨⟨wr, rfl, rfl⟩⟩
      have lw : w.heap.size < wr.heap.size := lt_of_row r0
      clear blk bw r0 r2 z1 z2
      go_wp2
      refine wp_region_hoist (fun w' => ∃ x : Wd (ActCls w.heap.size w.heap.size wr), w' = x.world) [] (by kernel_rfl) ?_
      refine wpAnyI_reads [0, 1, 2, 3] 2 _ ⟨⟨_, (⟨rfl, rfl⟩ : ActCls w.heap.size w.heap.size wr wr.drew)⟩, rfl⟩ (by kernel_rfl) ?_
      simp only [List.filterMap_cons, List.filterMap_nil, List.getElem?_toArray, List.getElem?_cons_succ, List.getElem?_cons_zero]
      refine wpHoist_step (fun K hK => ?_); simp only [hoists, sameUpon]; go_simp; refine hK _ ?_; clear hK K
      refine wpHoist_load_run rfl tRDisk (.tmp 4) rfl _ LD.out ?_
      repeat (refine wpHoist_step (fun K hK => ?_); simp only [hoists, sameUpon]; go_simp; refine hK _ ?_; clear hK K)
      refine wpHoist_nil ?_
      refine wpAnyI_one 4 1 _ _ rfl (by kernel_rfl) ?_
      refine wpList_store_abs rfl tRDisk (.tmp 7) (.tmp 284) rfl (w.heap.size + 1 + 1) _ rfl rfl tRDisk ref0 BW.out.2 (by rw [infoRD, HIN.out.csz]) (by rw [HIN.out.csz]; rfl) (ref_all HIN.out.ref) ?_
      intro W4 HW4 HM4 HS4
      have cl4 : ActCls w.heap.size w.heap.size wr W4 := ⟨HM4.block _ lw (by omega), HM4.block _ lw (by omega)⟩
      have H4 := Lib.hid HM4
      clear HM4 HS4
      refine wpList_nil ⟨rfl, fun _ => ⟨⟨_, cl4⟩, rfl⟩, ?_⟩
      refine wpAnyI_reads [5] 0 _ ⟨⟨_, cl4⟩, rfl⟩ (by kernel_rfl) ?_
      simp only [List.filterMap_cons, List.filterMap_nil, List.getElem?_toArray, List.getElem?_cons_succ, List.getElem?_cons_zero]
      repeat (refine wpHoist_step (fun K hK => ?_); simp only [hoists, sameUpon]; go_simp; refine hK _ ?_; clear hK K)
      refine wpHoist_nil ?_
      refine ⟨by kernel_rfl, ?_⟩
      go_wp2
      refine bodyPost_ret (results_three rfl _ _ (w.heap.size + 1 + 1) _ _ _ _ _ _ rfl rfl rfl HW4.out Try.underlying42 rfl (by rw [infoRD, HIN.out.csz])) rfl ?_
      exact look_end HIN.out.disk HIN.out.ref (Moves.new BW.out.1.drew H4.out (by omega))

end Go.Proofs.Ytiefhmbpaoecfaa

namespace Go.Proofs.Ytiefhmbpaoecfaa
open Go.RowKit Dm

set_option maxRecDepth 100000 in
set_option maxHeartbeats 4000000 in
theorem act_look_s0t2 {w : World} {p m : Nat} {F : Nat → Prop} {v : Value} {d : D} (x : DiskAt w.heap p m d F) (hr : RefAt w.heap F v d) (hn : d.waits.length ≤ 1000000000) (what sec n : Int) (h0 : (what == 0) = false) (h1 : (what == 1) = false) (h2 : (what == 2) = false) (h3 : (what == 3) = false) (h4 : (what == 4) = false) (h5 : (what == 5) = false) (hs : sec < 0) (ht : ¬ n < 0) (ht2 : ¬ 3 < n) (bv : Value) (raw : Bool) (kv : Value) (torn part : Int) :
    Calls Try.prog 13 #[.pointer (some ⟨p, 0, none⟩), v, .agg (actC what sec n bv raw kv torn part)] w (ActPost w p m F d) := by
  obtain ⟨C, rfl, hin⟩ := actIn_of x hr (actC what sec n bv raw kv torn part)
  obtain ⟨W0, hW0⟩ : ∃ W0, actW w C (actC what sec n bv raw kv torn part) = W0 := ⟨_, rfl⟩
  rw [hW0] at hin
  have ok := x.ok
  have HIN := Lib.hid hin
  have k0 : W0.cell? ⟨w.heap.size + 1, 0, none⟩ = some (.int .i64 what) := row_cell hin.r1 rfl
  have k1 : W0.cell? ⟨w.heap.size + 1, 1, none⟩ = some (.int .i64 sec) := row_cell hin.r1 rfl
  have RD := Lib.hid (read_c (hin.disk0 (Below.refl _ _)) sec)
  have OK := Lib.hid (And.intro ok hn)
  rw [if_pos (by omega), if_pos (by omega)] at RD
  clear hin x hr ok hn
  go_enter Try.func13, Try.ntmps13
  go_upto_region 1 with fail
  clear hW0
  go_upto_region 38 with (first
    | (go_at_call 17; refine RD.out.mono ?_; rintro e X1 ⟨v1, rfl, hb1, f1⟩
       obtain ⟨ra, rc, ev⟩ := f1.bytes.slice
       subst ev
       have k2 : X1.cell? ⟨w.heap.size + 1, 2, none⟩ = some (.int .i64 n) := row_cell ((hb1.block _ (lt_of_row HIN.out.r1)).trans HIN.out.r1) rfl
       have TP := Lib.hid (tape_c (HIN.out.disk0 hb1) n)
       rw [if_neg (by omega), if_neg (by omega)] at TP
       have F1 := Lib.hid (And.intro hb1 f1)
       clear hb1 f1)
    | (go_at_call 19; refine TP.out.mono ?_; rintro e X2 ⟨v2, rfl, hb2, f2⟩
       obtain ⟨ta, tc, ev⟩ := f2.bytes.slice
       subst ev
       have F2 := Lib.hid (And.intro hb2 f2)
       clear hb2 f2))
  have hb02 : Below W0.heap.size W0 X2 := F1.out.1.trans (F2.out.1.mono F1.out.1.size)
  have r0 : X2.heap[w.heap.size]? = some (.cells C tRDisk (0, 0)) := (hb02.block _ (lt_of_row HIN.out.r0)).trans HIN.out.r0
  have r1 : X2.heap[w.heap.size + 1]? = some (.cells (actC what sec n bv raw kv torn part) tAct (0, 0)) := (hb02.block _ (lt_of_row HIN.out.r1)).trans HIN.out.r1
  have x1 : ∀ x : Wd (Below X2.heap.size X2), x.world.cell? ⟨w.heap.size + 1, 1, none⟩ = some (.int .i64 sec) := fun x => (x.ok.cell (p := ⟨w.heap.size + 1, 1, none⟩) (lt_of_row r1)).trans (row_cell r1 rfl)
  have LD : Hid (∀ w', (∃ x : Wd (Below X2.heap.size X2), w' = x.world) → (Instr.loadAt tRDisk (.pointer (some ⟨w.heap.size, 0, none⟩))).run Try.prog w' = .ok (.agg C) w') := by
    rintro w' ⟨x, rfl⟩
    exact run_loadAt_row ((x.ok.block _ (lt_of_row r0)).trans r0) Try.underlying42 rfl (by rw [infoRD, HIN.out.csz])
  have ne : Nonempty (Wd (Below X2.heap.size X2)) := ⟨⟨_, Below.refl _ _⟩⟩
  have ST := Lib.hid (stands_c (HIN.out.at0 (X := X2.drew) hb02.drew) OK.out.1 (by have := OK.out.2; omega))
  have R2 := Lib.hid (And.intro hb02 (And.intro r0 r1))
  clear k0 k1 k2 r0 r1 hb02
  refine wp_region_hoist (fun w' => ∃ x : Wd (Below X2.heap.size X2), w' = x.world) [] (by kernel_rfl) ?_
  refine wpAnyI_reads [0, 2, 3] 4 _ ⟨⟨_, (Below.refl _ _).drew⟩, rfl⟩ (by kernel_rfl) ?_
  simp only [List.filterMap_cons, List.filterMap_nil, List.getElem?_toArray, List.getElem?_cons_succ, List.getElem?_cons_zero]
  refine wpHoist_load_run rfl tRDisk (.tmp 4) rfl _ LD.out ?_
  repeat (refine wpHoist_step (fun K hK => ?_); simp only [hoists, sameUpon]; go_simp; refine hK _ ?_; clear hK K)
  refine wpHoist_nil ?_
  refine wpAnyI_one 1 3 _ _ rfl (by kernel_rfl) ?_
  refine wpList_plain rfl fun K hK => ?_
  go_simp
  go_at_call 40
  refine ST.out.mono ?_
  rintro e X3 ⟨sv, t0, t1, t2, t3, rfl, hb3, rb3⟩
  have hb3' : Below X2.heap.size X2 X3 := (Below.refl _ _).drew.trans hb3
  have RB3 := Lib.hid rb3
  clear rb3 hb3
  refine hK _ _ (wpList_nil ⟨rfl, fun _ => ⟨⟨_, hb3'⟩, rfl⟩, ?_⟩)
  clear hK K
  refine wpAnyI_one 4 2 _ _ rfl (by kernel_rfl) ?_
  refine wpList_plain rfl fun K hK => ?_
  go_simp
  go_at_call 41
  refine (rsector_c RB3.out OK.out.1.many1 sec).mono ?_
  rintro e X4 ⟨v4, rfl, hb4, f4⟩
  obtain ⟨sa, sc, ev⟩ := f4.slice
  have SL := Lib.hid (stand_secs OK.out.1 sec)
  have hb4' : Below X2.heap.size X2 X4 := hb3'.trans (hb4.mono hb3'.size)
  have F4 := Lib.hid (And.intro f4 ev)
  clear f4 hb4 hb3' ev
  refine hK _ _ (wpList_nil ⟨rfl, fun _ => ⟨⟨_, hb4'⟩, rfl⟩, ?_⟩)
  clear hK K
  refine wpAnyI_reads [5, 6] 0 _ ⟨⟨_, hb4'⟩, rfl⟩ (by kernel_rfl) ?_
  simp only [List.filterMap_cons, List.filterMap_nil, List.getElem?_toArray, List.getElem?_cons_succ, List.getElem?_cons_zero]
  repeat (refine wpHoist_step (fun K hK => ?_); simp only [hoists, sameUpon]; go_simp; refine hK _ ?_; clear hK K)
  refine wpHoist_nil ?_
  refine ⟨by kernel_rfl, ?_⟩
  have R4 := Lib.hid (And.intro (R2.out.1.trans (hb4'.mono R2.out.1.size)) (And.intro ((hb4'.block _ (lt_of_row R2.out.2.1)).trans R2.out.2.1) ((hb4'.block _ (lt_of_row R2.out.2.2)).trans R2.out.2.2)))
  have m1 : X4.cell? ⟨w.heap.size + 1, 1, none⟩ = some (.int .i64 sec) := row_cell R4.out.2.2 rfl
  have m0 : X4.cell? ⟨w.heap.size, 0, none⟩ = some (.int .i64 d.many) := row_cell R4.out.2.1 HIN.out.c0
  have m2 : X4.cell? ⟨w.heap.size + 1, 2, none⟩ = some (.int .i64 n) := row_cell R4.out.2.2 rfl
  have B4 := Lib.hid hb4'
  clear hb4' x1 ne LD ST
  go_upto_region 43 with fail
  obtain ⟨nt, ent, hnt⟩ := natOf (n := n) (k := 3) (by omega) (by omega)
  have x2 : ∀ x : Wd (Below X4.heap.size X4), x.world.cell? ⟨w.heap.size + 1, 2, none⟩ = some (.int .i64 n) := fun x => (x.ok.cell (p := ⟨w.heap.size + 1, 2, none⟩) (lt_of_row R4.out.2.2)).trans m2
  have LD : Hid (∀ w', (∃ x : Wd (Below X4.heap.size X4), w' = x.world) → (Instr.loadAt tRDisk (.pointer (some ⟨w.heap.size, 0, none⟩))).run Try.prog w' = .ok (.agg C) w') := by
    rintro w' ⟨x, rfl⟩
    exact run_loadAt_row ((x.ok.block _ (lt_of_row R4.out.2.1)).trans R4.out.2.1) Try.underlying42 rfl (by rw [infoRD, HIN.out.csz])
  have ne : Nonempty (Wd (Below X4.heap.size X4)) := ⟨⟨_, Below.refl _ _⟩⟩
  have ST := Lib.hid (stands_c (HIN.out.at0 (X := X4.drew) R4.out.1.drew) OK.out.1 (by have := OK.out.2; omega))
  have ENT := Lib.hid ent
  clear ent
  refine wp_region_hoist (fun w' => ∃ x : Wd (Below X4.heap.size X4), w' = x.world) [] (by kernel_rfl) ?_
  refine wpAnyI_reads [0, 3, 4] 4 _ ⟨⟨_, (Below.refl _ _).drew⟩, rfl⟩ (by kernel_rfl) ?_
  simp only [List.filterMap_cons, List.filterMap_nil, List.getElem?_toArray, List.getElem?_cons_succ, List.getElem?_cons_zero]
  refine wpHoist_load_run rfl tRDisk (.tmp 4) rfl _ LD.out ?_
  repeat (refine wpHoist_step (fun K hK => ?_); simp only [hoists, sameUpon]; go_simp; refine hK _ ?_; clear hK K)
  refine wpHoist_nil ?_
  refine wpAnyI_one 1 3 _ _ rfl (by kernel_rfl) ?_
  refine wpList_plain rfl fun K hK => ?_
  go_simp
  go_at_call 40
  refine ST.out.mono ?_
  rintro e X5 ⟨sv5, y0, y1, y2, y3, rfl, hb5, rb5⟩
  have hb5' : Below X4.heap.size X4 X5 := (Below.refl _ _).drew.trans hb5
  have hfd := run_field_tapes sv5 y0 y1 y2 y3
  obtain ⟨ti, ai, ci, ei, eti⟩ := rb5.idx nt (by omega)
  have hix := fun W => run_index4 y0 y1 y2 y3 nt _ ei W
  simp only [Int.ofNat_eq_natCast] at hix
  rw [← ENT.out] at hix
  obtain ⟨tv, e1, e2⟩ := rb5.tape nt (by omega)
  have RB5 := Lib.hid (And.intro ei (And.intro e1 e2))
  clear rb5 hb5 ei e1 e2 eti
  refine hK _ _ (wpList_nil ⟨rfl, fun _ => ⟨⟨_, hb5'⟩, rfl⟩, ?_⟩)
  clear hK K
  refine wpAnyI_reads [2, 5, 6] 0 _ ⟨⟨_, hb5'⟩, rfl⟩ (by kernel_rfl) ?_
  simp only [List.filterMap_cons, List.filterMap_nil, List.getElem?_toArray, List.getElem?_cons_succ, List.getElem?_cons_zero]
  repeat (refine wpHoist_step (fun K hK => ?_); simp only [hoists, sameUpon]; go_simp; refine hK _ ?_; clear hK K)
  refine wpHoist_nil ?_
  refine ⟨by kernel_rfl, ?_⟩
  have : tv = ti := by
    have h1 := RB5.out.1
    have h2 := RB5.out.2.1
    have h3 : (#[sv5, y0, y1, y2, y3] : Array Value)[1 + nt]? = #[y0, y1, y2, y3][nt]? := by
      obtain rfl | rfl | rfl | rfl : nt = 0 ∨ nt = 1 ∨ nt = 2 ∨ nt = 3 := by omega
      all_goals rfl
    rw [h3, h1] at h2
    exact (Option.some.inj h2).symm
  have b34 : BytesAt X5.heap (fun _ => True) ti (d.stand.tp n) := by rw [ENT.out, ← this]; exact RB5.out.2.2.keeps (fun _ _ _ => rfl) (fun _ _ _ => trivial)
  have hbY := B4.out.trans (hb5'.mono B4.out.size)
  clear this hfd hix m1 m2 m0
  have f27 : FreshBytes X5.heap W0.heap.size _ _ := F1.out.2.keepsF (fun k hk hl => (hbY.block k (by have := F2.out.1.size; omega)).trans (F2.out.1.block k hl))
  have f29 : FreshBytes X5.heap X1.heap.size _ _ := F2.out.2.keepsF (fun k hk hl => hbY.block k hl)
  have hc27 := run_string_of f27.bytes
  have hc29 := run_string_of f29.bytes
  have hc34 := run_string_of b34
  have hc33 := run_string_of (w := X5) (F := fun _ => True) (v := .slice none 0 0) (l := []) (Or.inl ⟨rfl, rfl⟩)
  simp only [List.length_nil] at hc27 hc29 hc33 hc34
  go_upto_region 45 with (go_at_call 9; refine (num_c _ _).mono ?_; rintro e w' ⟨rfl, rfl⟩)
  have FR := Lib.hid (And.intro (fresh_addr F1.out.2) (fresh_addr F2.out.2))
  have REL := Lib.hid (IncRel.start2 (Y := X5) F1.out.2 (fun k _ hk => (hbY.block k (by have := F2.out.1.size; omega)).trans (F2.out.1.block k hk)))
  have rel2 : ∀ wr, Moves (fun k => W0.heap.size ≤ k ∧ k < X1.heap.size) X5 wr → IncRel (fun k => X1.heap.size ≤ k ∧ k < X2.heap.size) ta _ wr wr := fun wr hm => IncRel.start2 F2.out.2 (fun k hk hl => by rw [hm.block k (by have := hbY.size; omega) (by omega)]; exact hbY.block k hl)
  have REL2 := Lib.hid rel2
  have HY := Lib.hid (And.intro hbY (R2.out.1.trans (hbY.mono R2.out.1.size)))
  have zz : W0.heap.size ≤ X1.heap.size ∧ X1.heap.size ≤ X2.heap.size ∧ X2.heap.size ≤ X5.heap.size := ⟨F1.out.1.size, F2.out.1.size, hbY.size⟩
  clear rel2 hbY f27 f29 hc27 hc29 hc33 hc34 b34
  have ltb : (d.stand.tp n).length ≤ 1048576 := stand_len OK.out.1 n
  generalize (d.stand.tp n).length = ltn at *
  simp only [List.length_nil] at FR REL REL2
  go_wp2
  go_loopg [36] 0 (fun g i wr => ∃ k : Nat, i = .int .i64 (k : Int) ∧ g + k = 0 ∧ IncRel (fun k => W0.heap.size ≤ k ∧ k < X1.heap.size) ra 0 X5 wr)
  case atStart => exact ⟨0, rfl, rfl, REL.out⟩
  case round =>
    obtain ⟨k, rfl, hg, rel⟩ := hrel
    obtain rfl : k = 0 := by omega
    have H1 := Lib.hid rel
    obtain ⟨wr1, ewr⟩ : ∃ wr1, wr1 = wr := ⟨_, rfl⟩
    subst ewr
    have RELB := Lib.hid (REL2.out _ rel.moves)
    clear rel hg
    go_wp2
    go_loopg [37] ltn (fun g i wr => ∃ k : Nat, i = .int .i64 (k : Int) ∧ g + k = ltn ∧ IncRel (fun k => X1.heap.size ≤ k ∧ k < X2.heap.size) ta ltn wr1 wr)
    case atStart => exact ⟨0, rfl, rfl, RELB.out⟩
    case round =>
      obtain ⟨k, rfl, hg, rel⟩ := hrel
      by_cases hlt : k < ltn
      · obtain ⟨g, rfl⟩ : ∃ g, ta = some ⟨g, 0, none⟩ := by
          rcases FR.out.2 with h | h
          · omega
          · exact h
        obtain ⟨_, c, t, hc, hcy⟩ := rel.row g rfl
        obtain ⟨y, hy0, hy1, hy⟩ := hcy k hlt
        have ky : wr.cell? ⟨g, k, none⟩ = some (.int .u8 y) := row_cell hc hy
        have fy : wr.frozen? ⟨g, k, none⟩ = false := row_free hc _
        have hk0 : (0 : Int) ≤ (k : Int) := by omega
        have hk1 : (k : Int) < (ltn : Int) := by omega
        have H := Lib.hid (And.intro rel hg)
        clear rel hg hc hcy hy
        go_wp2
        go_roundg (ltn - (k + 1))
        case measure => have := H.out.2; omega
        case rel => exact ⟨k + 1, by go_num, by have := H.out.2; omega, H.out.1.step (u8_wrap y hy0 hy1).1 (u8_wrap y hy0 hy1).2⟩
      · obtain rfl : k = ltn := by omega
        have H2 := Lib.hid rel
        clear rel
        have z1 : wr1.heap.size = X5.heap.size := H1.out.size
        have z2 : wr.heap.size = wr1.heap.size := H2.out.size
        have blk : ∀ k, k < W0.heap.size → wr.heap[k]? = W0.heap[k]? := fun k hk => by
          rw [H2.out.moves.block k (by omega) (by omega), H1.out.moves.block k (by omega) (by omega), HY.out.2.block k hk]
        have bw : Below w.heap.size w wr := HIN.out.below.trans ⟨H2.out.moves.os.trans (H1.out.moves.os.trans HY.out.2.os), H2.out.moves.tape.trans (H1.out.moves.tape.trans HY.out.2.tape), H2.out.moves.output.trans (H1.out.moves.output.trans HY.out.2.output), by have := HIN.out.below.size; omega, fun k hk => blk k (by have := HIN.out.below.size; omega)⟩
        have r0 := (blk _ (lt_of_row HIN.out.r0)).trans HIN.out.r0
        have r2 := (blk _ (lt_of_row HIN.out.r2)).trans HIN.out.r2
        have BW := Lib.hid (And.intro bw r2)
        have LD : Hid (∀ w', (∃ x : Wd (ActCls w.heap.size w.heap.size wr), w' = x.world) → (Instr.loadAt tRDisk (.pointer (some ⟨w.heap.size, 0, none⟩))).run Try.prog w' = .ok (.agg C) w') := by
          rintro w' ⟨x, rfl⟩
          exact run_loadAt_row (x.ok.2.trans r0) Try.underlying42 rfl (by rw [infoRD, HIN.out.csz])
        have ne : Nonempty (Wd (ActCls w.heap.size w.heap.size wr)) := ⟨⟨wr, rfl, rfl⟩⟩
        have lw : w.heap.size < wr.heap.size := lt_of_row r0
        clear blk bw r0 r2 z1 z2
        go_wp2
        refine wp_region_hoist (fun w' => ∃ x : Wd (ActCls w.heap.size w.heap.size wr), w' = x.world) [] (by kernel_rfl) ?_
        refine wpAnyI_reads [0, 1, 2, 3] 2 _ ⟨⟨_, (⟨rfl, rfl⟩ : ActCls w.heap.size w.heap.size wr wr.drew)⟩, rfl⟩ (by kernel_rfl) ?_
        simp only [List.filterMap_cons, List.filterMap_nil, List.getElem?_toArray, List.getElem?_cons_succ, List.getElem?_cons_zero]
        refine wpHoist_step (fun K hK => ?_); simp only [hoists, sameUpon]; go_simp; refine hK _ ?_; clear hK K
        refine wpHoist_load_run rfl tRDisk (.tmp 4) rfl _ LD.out ?_
        repeat (refine wpHoist_step (fun K hK => ?_); simp only [hoists, sameUpon]; go_simp; refine hK _ ?_; clear hK K)
        refine wpHoist_nil ?_
        refine wpAnyI_one 4 1 _ _ rfl (by kernel_rfl) ?_
        refine wpList_store_abs rfl tRDisk (.tmp 7) (.tmp 284) rfl (w.heap.size + 1 + 1) _ rfl rfl tRDisk ref0 BW.out.2 (by rw [infoRD, HIN.out.csz]) (by rw [HIN.out.csz]; rfl) (ref_all HIN.out.ref) ?_
        intro W4 HW4 HM4 HS4
        have cl4 : ActCls w.heap.size w.heap.size wr W4 := ⟨HM4.block _ lw (by omega), HM4.block _ lw (by omega)⟩
        have H4 := Lib.hid HM4
        clear HM4 HS4
        refine wpList_nil ⟨rfl, fun _ => ⟨⟨_, cl4⟩, rfl⟩, ?_⟩
        refine wpAnyI_reads [5] 0 _ ⟨⟨_, cl4⟩, rfl⟩ (by kernel_rfl) ?_
        simp only [List.filterMap_cons, List.filterMap_nil, List.getElem?_toArray, List.getElem?_cons_succ, List.getElem?_cons_zero]
        repeat (refine wpHoist_step (fun K hK => ?_); simp only [hoists, sameUpon]; go_simp; refine hK _ ?_; clear hK K)
        refine wpHoist_nil ?_
        refine ⟨by kernel_rfl, ?_⟩
        go_wp2
        refine bodyPost_ret (results_three rfl _ _ (w.heap.size + 1 + 1) _ _ _ _ _ _ rfl rfl rfl HW4.out Try.underlying42 rfl (by rw [infoRD, HIN.out.csz])) rfl ?_
        exact look_end HIN.out.disk HIN.out.ref (Moves.new BW.out.1.drew H4.out (by omega))

end Go.Proofs.Ytiefhmbpaoecfaa
