/-
  'act': a look, case 2 2.
  'act', whatever the call but a crash.
  holds, begins, stands.
-/
import Derived.Test.YtiefhmbpaoecfaaG09
import Derived.Test.YtiefhmbpaoecfaaG17
import Derived.Test.YtiefhmbpaoecfaaG18
import Derived.Test.YtiefhmbpaoecfaaG19
import Derived.Test.YtiefhmbpaoecfaaG20
import Derived.Test.YtiefhmbpaoecfaaG21

namespace Go.Proofs.Ytiefhmbpaoecfaa
open Go.RowKit Dm

set_option maxRecDepth 100000 in
set_option maxHeartbeats 4000000 in
theorem act_look_s2t2 {w : World} {p m : Nat} {F : Nat → Prop} {v : Value} {d : D} (x : DiskAt w.heap p m d F) (hr : RefAt w.heap F v d) (hn : d.waits.length ≤ 1000000000) (what sec n : Int) (h0 : (what == 0) = false) (h1 : (what == 1) = false) (h2 : (what == 2) = false) (h3 : (what == 3) = false) (h4 : (what == 4) = false) (h5 : (what == 5) = false) (hs : ¬ sec < 0) (hs2 : ¬ d.many ≤ sec) (ht : ¬ n < 0) (ht2 : ¬ 3 < n) (bv : Value) (raw : Bool) (kv : Value) (torn part : Int) :
    Calls Try.prog 13 #[.pointer (some ⟨p, 0, none⟩), v, .agg (actC what sec n bv raw kv torn part)] w (ActPost w p m F d) := by
  obtain ⟨C, rfl, hin⟩ := actIn_of x hr (actC what sec n bv raw kv torn part)
  obtain ⟨W0, hW0⟩ : ∃ W0, actW w C (actC what sec n bv raw kv torn part) = W0 := ⟨_, rfl⟩
  rw [hW0] at hin
  have ok := x.ok
  have HIN := Lib.hid hin
  have k0 : W0.cell? ⟨w.heap.size + 1, 0, none⟩ = some (.int .i64 what) := row_cell hin.r1 rfl
  have k1 : W0.cell? ⟨w.heap.size + 1, 1, none⟩ = some (.int .i64 sec) := row_cell hin.r1 rfl
  have RD := Lib.hid (read_c (hin.disk0 (Below.refl _ _)) sec)
  have OK := Lib.hid (And.intro ok hn)
  rw [if_neg (by omega), if_neg (by omega)] at RD
  clear hin x hr ok hn
  go_enter Try.func13, Try.ntmps13
  go_upto_region 1 with fail
  clear hW0
  go_upto_region 38 with (first
    | (go_at_call 17; refine RD.out.mono ?_; rintro e X1 ⟨v1, rfl, hb1, f1⟩
       obtain ⟨ra, rc, ev⟩ := f1.bytes.slice
       subst ev
       have k2 : X1.cell? ⟨w.heap.size + 1, 2, none⟩ = some (.int .i64 n) := row_cell ((hb1.block _ (lt_of_row HIN.out.r1)).trans HIN.out.r1) rfl
       have TP := Lib.hid (tape_c (HIN.out.disk0 hb1) n)
       rw [if_neg (by omega), if_neg (by omega)] at TP
       have F1 := Lib.hid (And.intro hb1 f1)
       clear hb1 f1)
    | (go_at_call 19; refine TP.out.mono ?_; rintro e X2 ⟨v2, rfl, hb2, f2⟩
       obtain ⟨ta, tc, ev⟩ := f2.bytes.slice
       subst ev
       have F2 := Lib.hid (And.intro hb2 f2)
       clear hb2 f2))
  have hb02 : Below W0.heap.size W0 X2 := F1.out.1.trans (F2.out.1.mono F1.out.1.size)
  have r0 : X2.heap[w.heap.size]? = some (.cells C tRDisk (0, 0)) := (hb02.block _ (lt_of_row HIN.out.r0)).trans HIN.out.r0
  have r1 : X2.heap[w.heap.size + 1]? = some (.cells (actC what sec n bv raw kv torn part) tAct (0, 0)) := (hb02.block _ (lt_of_row HIN.out.r1)).trans HIN.out.r1
  have x1 : ∀ x : Wd (Below X2.heap.size X2), x.world.cell? ⟨w.heap.size + 1, 1, none⟩ = some (.int .i64 sec) := fun x => (x.ok.cell (p := ⟨w.heap.size + 1, 1, none⟩) (lt_of_row r1)).trans (row_cell r1 rfl)
  have LD : Hid (∀ w', (∃ x : Wd (Below X2.heap.size X2), w' = x.world) → (Instr.loadAt tRDisk (.pointer (some ⟨w.heap.size, 0, none⟩))).run Try.prog w' = .ok (.agg C) w') := by
    rintro w' ⟨x, rfl⟩
    exact run_loadAt_row ((x.ok.block _ (lt_of_row r0)).trans r0) Try.underlying42 rfl (by rw [infoRD, HIN.out.csz])
  have ne : Nonempty (Wd (Below X2.heap.size X2)) := ⟨⟨_, Below.refl _ _⟩⟩
  have ST := Lib.hid (stands_c (HIN.out.at0 (X := X2.drew) hb02.drew) OK.out.1 (by have := OK.out.2; omega))
  have R2 := Lib.hid (And.intro hb02 (And.intro r0 r1))
  clear k0 k1 k2 r0 r1 hb02
  refine wp_region_hoist (fun w' => ∃ x : Wd (Below X2.heap.size X2), w' = x.world) [] (by kernel_rfl) ?_
  refine wpAnyI_reads [0, 2, 3] 4 _ ⟨⟨_, (Below.refl _ _).drew⟩, rfl⟩ (by kernel_rfl) ?_
  simp only [List.filterMap_cons, List.filterMap_nil, List.getElem?_toArray, List.getElem?_cons_succ, List.getElem?_cons_zero]
  refine wpHoist_load_run rfl tRDisk (.tmp 4) rfl _ LD.out ?_
  repeat (refine wpHoist_step (fun K hK => ?_); simp only [hoists, sameUpon]; go_simp; refine hK _ ?_; clear hK K)
  refine wpHoist_nil ?_
  refine wpAnyI_one 1 3 _ _ rfl (by kernel_rfl) ?_
  refine wpList_plain rfl fun K hK => ?_
  go_simp
  go_at_call 40
  refine ST.out.mono ?_
  rintro e X3 ⟨sv, t0, t1, t2, t3, rfl, hb3, rb3⟩
  have hb3' : Below X2.heap.size X2 X3 := (Below.refl _ _).drew.trans hb3
  have RB3 := Lib.hid rb3
  clear rb3 hb3
  refine hK _ _ (wpList_nil ⟨rfl, fun _ => ⟨⟨_, hb3'⟩, rfl⟩, ?_⟩)
  clear hK K
  refine wpAnyI_one 4 2 _ _ rfl (by kernel_rfl) ?_
  refine wpList_plain rfl fun K hK => ?_
  go_simp
  go_at_call 41
  refine (rsector_c RB3.out OK.out.1.many1 sec).mono ?_
  rintro e X4 ⟨v4, rfl, hb4, f4⟩
  obtain ⟨sa, sc, ev⟩ := f4.slice
  have SL := Lib.hid (stand_secs OK.out.1 sec)
  have hb4' : Below X2.heap.size X2 X4 := hb3'.trans (hb4.mono hb3'.size)
  have F4 := Lib.hid (And.intro f4 ev)
  clear f4 hb4 hb3' ev
  refine hK _ _ (wpList_nil ⟨rfl, fun _ => ⟨⟨_, hb4'⟩, rfl⟩, ?_⟩)
  clear hK K
  refine wpAnyI_reads [5, 6] 0 _ ⟨⟨_, hb4'⟩, rfl⟩ (by kernel_rfl) ?_
  simp only [List.filterMap_cons, List.filterMap_nil, List.getElem?_toArray, List.getElem?_cons_succ, List.getElem?_cons_zero]
  repeat (refine wpHoist_step (fun K hK => ?_); simp only [hoists, sameUpon]; go_simp; refine hK _ ?_; clear hK K)
  refine wpHoist_nil ?_
  refine ⟨by kernel_rfl, ?_⟩
  have R4 := Lib.hid (And.intro (R2.out.1.trans (hb4'.mono R2.out.1.size)) (And.intro ((hb4'.block _ (lt_of_row R2.out.2.1)).trans R2.out.2.1) ((hb4'.block _ (lt_of_row R2.out.2.2)).trans R2.out.2.2)))
  have m1 : X4.cell? ⟨w.heap.size + 1, 1, none⟩ = some (.int .i64 sec) := row_cell R4.out.2.2 rfl
  have m0 : X4.cell? ⟨w.heap.size, 0, none⟩ = some (.int .i64 d.many) := row_cell R4.out.2.1 HIN.out.c0
  have m2 : X4.cell? ⟨w.heap.size + 1, 2, none⟩ = some (.int .i64 n) := row_cell R4.out.2.2 rfl
  have B4 := Lib.hid hb4'
  clear hb4' x1 ne LD ST
  go_upto_region 43 with fail
  obtain ⟨nt, ent, hnt⟩ := natOf (n := n) (k := 3) (by omega) (by omega)
  have x2 : ∀ x : Wd (Below X4.heap.size X4), x.world.cell? ⟨w.heap.size + 1, 2, none⟩ = some (.int .i64 n) := fun x => (x.ok.cell (p := ⟨w.heap.size + 1, 2, none⟩) (lt_of_row R4.out.2.2)).trans m2
  have LD : Hid (∀ w', (∃ x : Wd (Below X4.heap.size X4), w' = x.world) → (Instr.loadAt tRDisk (.pointer (some ⟨w.heap.size, 0, none⟩))).run Try.prog w' = .ok (.agg C) w') := by
    rintro w' ⟨x, rfl⟩
    exact run_loadAt_row ((x.ok.block _ (lt_of_row R4.out.2.1)).trans R4.out.2.1) Try.underlying42 rfl (by rw [infoRD, HIN.out.csz])
  have ne : Nonempty (Wd (Below X4.heap.size X4)) := ⟨⟨_, Below.refl _ _⟩⟩
  have ST := Lib.hid (stands_c (HIN.out.at0 (X := X4.drew) R4.out.1.drew) OK.out.1 (by have := OK.out.2; omega))
  have ENT := Lib.hid ent
  clear ent
  refine wp_region_hoist (fun w' => ∃ x : Wd (Below X4.heap.size X4), w' = x.world) [] (by kernel_rfl) ?_
  refine wpAnyI_reads [0, 3, 4] 4 _ ⟨⟨_, (Below.refl _ _).drew⟩, rfl⟩ (by kernel_rfl) ?_
  simp only [List.filterMap_cons, List.filterMap_nil, List.getElem?_toArray, List.getElem?_cons_succ, List.getElem?_cons_zero]
  refine wpHoist_load_run rfl tRDisk (.tmp 4) rfl _ LD.out ?_
  repeat (refine wpHoist_step (fun K hK => ?_); simp only [hoists, sameUpon]; go_simp; refine hK _ ?_; clear hK K)
  refine wpHoist_nil ?_
  refine wpAnyI_one 1 3 _ _ rfl (by kernel_rfl) ?_
  refine wpList_plain rfl fun K hK => ?_
  go_simp
  go_at_call 40
  refine ST.out.mono ?_
  rintro e X5 ⟨sv5, y0, y1, y2, y3, rfl, hb5, rb5⟩
  have hb5' : Below X4.heap.size X4 X5 := (Below.refl _ _).drew.trans hb5
  have hfd := run_field_tapes sv5 y0 y1 y2 y3
  obtain ⟨ti, ai, ci, ei, eti⟩ := rb5.idx nt (by omega)
  have hix := fun W => run_index4 y0 y1 y2 y3 nt _ ei W
  simp only [Int.ofNat_eq_natCast] at hix
  rw [← ENT.out] at hix
  obtain ⟨tv, e1, e2⟩ := rb5.tape nt (by omega)
  have RB5 := Lib.hid (And.intro ei (And.intro e1 e2))
  clear rb5 hb5 ei e1 e2 eti
  refine hK _ _ (wpList_nil ⟨rfl, fun _ => ⟨⟨_, hb5'⟩, rfl⟩, ?_⟩)
  clear hK K
  refine wpAnyI_reads [2, 5, 6] 0 _ ⟨⟨_, hb5'⟩, rfl⟩ (by kernel_rfl) ?_
  simp only [List.filterMap_cons, List.filterMap_nil, List.getElem?_toArray, List.getElem?_cons_succ, List.getElem?_cons_zero]
  repeat (refine wpHoist_step (fun K hK => ?_); simp only [hoists, sameUpon]; go_simp; refine hK _ ?_; clear hK K)
  refine wpHoist_nil ?_
  refine ⟨by kernel_rfl, ?_⟩
  have : tv = ti := by
    have h1 := RB5.out.1
    have h2 := RB5.out.2.1
    have h3 : (#[sv5, y0, y1, y2, y3] : Array Value)[1 + nt]? = #[y0, y1, y2, y3][nt]? := by
      obtain rfl | rfl | rfl | rfl : nt = 0 ∨ nt = 1 ∨ nt = 2 ∨ nt = 3 := by omega
      all_goals rfl
    rw [h3, h1] at h2
    exact (Option.some.inj h2).symm
  have b34 : BytesAt X5.heap (fun _ => True) ti (d.stand.tp n) := by rw [ENT.out, ← this]; exact RB5.out.2.2.keeps (fun _ _ _ => rfl) (fun _ _ _ => trivial)
  have hbY := B4.out.trans (hb5'.mono B4.out.size)
  clear this hfd hix m1 m2 m0
  have f27 : FreshBytes X5.heap W0.heap.size _ _ := F1.out.2.keepsF (fun k hk hl => (hbY.block k (by have := F2.out.1.size; omega)).trans (F2.out.1.block k hl))
  have f29 : FreshBytes X5.heap X1.heap.size _ _ := F2.out.2.keepsF (fun k hk hl => hbY.block k hl)
  have hc27 := run_string_of f27.bytes
  have hc29 := run_string_of f29.bytes
  have hc34 := run_string_of b34
  have hc33 := run_string_of (F4.out.1.keeps (F' := fun _ => True) (fun k _ hl => hb5'.block k hl) (fun _ _ _ => trivial))
  try simp only [List.length_nil] at hc27 hc29 hc33 hc34
  go_upto_region 45 with (go_at_call 9; refine (num_c _ _).mono ?_; rintro e w' ⟨rfl, rfl⟩)
  have FR := Lib.hid (And.intro (fresh_addr F1.out.2) (fresh_addr F2.out.2))
  have REL := Lib.hid (IncRel.start2 (Y := X5) F1.out.2 (fun k _ hk => (hbY.block k (by have := F2.out.1.size; omega)).trans (F2.out.1.block k hk)))
  have rel2 : ∀ wr, Moves (fun k => W0.heap.size ≤ k ∧ k < X1.heap.size) X5 wr → IncRel (fun k => X1.heap.size ≤ k ∧ k < X2.heap.size) ta _ wr wr := fun wr hm => IncRel.start2 F2.out.2 (fun k hk hl => by rw [hm.block k (by have := hbY.size; omega) (by omega)]; exact hbY.block k hl)
  have REL2 := Lib.hid rel2
  have HY := Lib.hid (And.intro hbY (R2.out.1.trans (hbY.mono R2.out.1.size)))
  have zz : W0.heap.size ≤ X1.heap.size ∧ X1.heap.size ≤ X2.heap.size ∧ X2.heap.size ≤ X5.heap.size := ⟨F1.out.1.size, F2.out.1.size, hbY.size⟩
  clear rel2 hbY f27 f29 hc27 hc29 hc33 hc34 b34
  have lsb : (d.stand.sec sec).length ≤ 1048576 := by rw [SL.out]; omega
  clear F4 SL
  generalize (d.stand.sec sec).length = lsn at *
  have ltb : (d.stand.tp n).length ≤ 1048576 := stand_len OK.out.1 n
  generalize (d.stand.tp n).length = ltn at *
  try simp only [List.length_nil] at FR REL REL2
  go_wp2
  go_loopg [36] lsn (fun g i wr => ∃ k : Nat, i = .int .i64 (k : Int) ∧ g + k = lsn ∧ IncRel (fun k => W0.heap.size ≤ k ∧ k < X1.heap.size) ra lsn X5 wr)
  case atStart => exact ⟨0, rfl, rfl, REL.out⟩
  case round =>
    obtain ⟨k, rfl, hg, rel⟩ := hrel
    by_cases hlt : k < lsn
    · obtain ⟨g, rfl⟩ : ∃ g, ra = some ⟨g, 0, none⟩ := by
        rcases FR.out.1 with h | h
        · omega
        · exact h
      obtain ⟨_, c, t, hc, hcy⟩ := rel.row g rfl
      obtain ⟨y, hy0, hy1, hy⟩ := hcy k hlt
      have ky : wr.cell? ⟨g, k, none⟩ = some (.int .u8 y) := row_cell hc hy
      have fy : wr.frozen? ⟨g, k, none⟩ = false := row_free hc _
      have hk0 : (0 : Int) ≤ (k : Int) := by omega
      have hk1 : (k : Int) < (lsn : Int) := by omega
      have H := Lib.hid (And.intro rel hg)
      clear rel hg hc hcy hy
      go_wp2
      go_roundg (lsn - (k + 1))
      case measure => have := H.out.2; omega
      case rel => exact ⟨k + 1, by go_num, by have := H.out.2; omega, H.out.1.step (u8_wrap y hy0 hy1).1 (u8_wrap y hy0 hy1).2⟩
    · obtain rfl : k = lsn := by omega
      have H1 := Lib.hid rel
      obtain ⟨wr1, ewr⟩ : ∃ wr1, wr1 = wr := ⟨_, rfl⟩
      subst ewr
      have RELB := Lib.hid (REL2.out _ rel.moves)
      clear rel hg
      go_wp2
      go_loopg [37] ltn (fun g i wr => ∃ k : Nat, i = .int .i64 (k : Int) ∧ g + k = ltn ∧ IncRel (fun k => X1.heap.size ≤ k ∧ k < X2.heap.size) ta ltn wr1 wr)
      case atStart => exact ⟨0, rfl, rfl, RELB.out⟩
      case round =>
        obtain ⟨k, rfl, hg, rel⟩ := hrel
        by_cases hlt : k < ltn
        · obtain ⟨g, rfl⟩ : ∃ g, ta = some ⟨g, 0, none⟩ := by
            rcases FR.out.2 with h | h
            · omega
            · exact h
          obtain ⟨_, c, t, hc, hcy⟩ := rel.row g rfl
          obtain ⟨y, hy0, hy1, hy⟩ := hcy k hlt
          have ky : wr.cell? ⟨g, k, none⟩ = some (.int .u8 y) := row_cell hc hy
          have fy : wr.frozen? ⟨g, k, none⟩ = false := row_free hc _
          have hk0 : (0 : Int) ≤ (k : Int) := by omega
          have hk1 : (k : Int) < (ltn : Int) := by omega
          have H := Lib.hid (And.intro rel hg)
          clear rel hg hc hcy hy
          go_wp2
          go_roundg (ltn - (k + 1))
          case measure => have := H.out.2; omega
          case rel => exact ⟨k + 1, by go_num, by have := H.out.2; omega, H.out.1.step (u8_wrap y hy0 hy1).1 (u8_wrap y hy0 hy1).2⟩
        · obtain rfl : k = ltn := by omega
          have H2 := Lib.hid rel
          clear rel
          have z1 : wr1.heap.size = X5.heap.size := H1.out.size
          have z2 : wr.heap.size = wr1.heap.size := H2.out.size
          have blk : ∀ k, k < W0.heap.size → wr.heap[k]? = W0.heap[k]? := fun k hk => by
            rw [H2.out.moves.block k (by omega) (by omega), H1.out.moves.block k (by omega) (by omega), HY.out.2.block k hk]
          have bw : Below w.heap.size w wr := HIN.out.below.trans ⟨H2.out.moves.os.trans (H1.out.moves.os.trans HY.out.2.os), H2.out.moves.tape.trans (H1.out.moves.tape.trans HY.out.2.tape), H2.out.moves.output.trans (H1.out.moves.output.trans HY.out.2.output), by have := HIN.out.below.size; omega, fun k hk => blk k (by have := HIN.out.below.size; omega)⟩
          have r0 := (blk _ (lt_of_row HIN.out.r0)).trans HIN.out.r0
          have r2 := (blk _ (lt_of_row HIN.out.r2)).trans HIN.out.r2
          have BW := Lib.hid (And.intro bw r2)
          have LD : Hid (∀ w', (∃ x : Wd (ActCls w.heap.size w.heap.size wr), w' = x.world) → (Instr.loadAt tRDisk (.pointer (some ⟨w.heap.size, 0, none⟩))).run Try.prog w' = .ok (.agg C) w') := by
            rintro w' ⟨x, rfl⟩
            exact run_loadAt_row (x.ok.2.trans r0) Try.underlying42 rfl (by rw [infoRD, HIN.out.csz])
          have ne : Nonempty (Wd (ActCls w.heap.size w.heap.size wr)) := ⟨⟨wr, rfl, rfl⟩⟩
          have lw : w.heap.size < wr.heap.size := lt_of_row r0
          clear blk bw r0 r2 z1 z2
          go_wp2
          refine wp_region_hoist (fun w' => ∃ x : Wd (ActCls w.heap.size w.heap.size wr), w' = x.world) [] (by kernel_rfl) ?_
          refine wpAnyI_reads [0, 1, 2, 3] 2 _ ⟨⟨_, (⟨rfl, rfl⟩ : ActCls w.heap.size w.heap.size wr wr.drew)⟩, rfl⟩ (by kernel_rfl) ?_
          simp only [List.filterMap_cons, List.filterMap_nil, List.getElem?_toArray, List.getElem?_cons_succ, List.getElem?_cons_zero]
          refine wpHoist_step (fun K hK => ?_); simp only [hoists, sameUpon]; go_simp; refine hK _ ?_; clear hK K
          refine wpHoist_load_run rfl tRDisk (.tmp 4) rfl _ LD.out ?_
          repeat (refine wpHoist_step (fun K hK => ?_); simp only [hoists, sameUpon]; go_simp; refine hK _ ?_; clear hK K)
          refine wpHoist_nil ?_
          refine wpAnyI_one 4 1 _ _ rfl (by kernel_rfl) ?_
          refine wpList_store_abs rfl tRDisk (.tmp 7) (.tmp 284) rfl (w.heap.size + 1 + 1) _ rfl rfl tRDisk ref0 BW.out.2 (by rw [infoRD, HIN.out.csz]) (by rw [HIN.out.csz]; rfl) (ref_all HIN.out.ref) ?_
          intro W4 HW4 HM4 HS4
          have cl4 : ActCls w.heap.size w.heap.size wr W4 := ⟨HM4.block _ lw (by omega), HM4.block _ lw (by omega)⟩
          have H4 := Lib.hid HM4
          clear HM4 HS4
          refine wpList_nil ⟨rfl, fun _ => ⟨⟨_, cl4⟩, rfl⟩, ?_⟩
          refine wpAnyI_reads [5] 0 _ ⟨⟨_, cl4⟩, rfl⟩ (by kernel_rfl) ?_
          simp only [List.filterMap_cons, List.filterMap_nil, List.getElem?_toArray, List.getElem?_cons_succ, List.getElem?_cons_zero]
          repeat (refine wpHoist_step (fun K hK => ?_); simp only [hoists, sameUpon]; go_simp; refine hK _ ?_; clear hK K)
          refine wpHoist_nil ?_
          refine ⟨by kernel_rfl, ?_⟩
          go_wp2
          refine bodyPost_ret (results_three rfl _ _ (w.heap.size + 1 + 1) _ _ _ _ _ _ rfl rfl rfl HW4.out Try.underlying42 rfl (by rw [infoRD, HIN.out.csz])) rfl ?_
          exact look_end HIN.out.disk HIN.out.ref (Moves.new BW.out.1.drew H4.out (by omega))

end Go.Proofs.Ytiefhmbpaoecfaa

namespace Go.Proofs.Ytiefhmbpaoecfaa
open Go.RowKit Dm

/-- What a call makes of a disk. -/
def actD (d : D) (x : ActM) : D :=
  if x.what = 0 then (d.write x.sec (if x.raw then x.b else pad x.b)).1 else if x.what = 1 then (d.append x.n x.b).1 else if x.what = 2 then (d.cut x.n x.sec).1
  else if x.what = 3 then d.sync.1 else if x.what = 4 then (d.stop x.n).1 else d

theorem look_c {w : World} {p m : Nat} {F : Nat → Prop} {v : Value} {d : D} (x : DiskAt w.heap p m d F) (hr : RefAt w.heap F v d) (hn : d.waits.length ≤ 1000000000) (what sec n : Int) (h0 : (what == 0) = false) (h1 : (what == 1) = false) (h2 : (what == 2) = false) (h3 : (what == 3) = false) (h4 : (what == 4) = false) (h5 : (what == 5) = false) (bv : Value) (raw : Bool) (kv : Value) (torn part : Int) :
    Calls Try.prog 13 #[.pointer (some ⟨p, 0, none⟩), v, .agg (actC what sec n bv raw kv torn part)] w (ActPost w p m F d) := by
  by_cases hs : sec < 0
  · by_cases ht : n < 0
    · exact act_look_s0t0 x hr hn what sec n h0 h1 h2 h3 h4 h5 hs ht bv raw kv torn part
    · by_cases ht2 : 3 < n
      · exact act_look_s0t1 x hr hn what sec n h0 h1 h2 h3 h4 h5 hs ht ht2 bv raw kv torn part
      · exact act_look_s0t2 x hr hn what sec n h0 h1 h2 h3 h4 h5 hs ht ht2 bv raw kv torn part
  · by_cases hs2 : d.many ≤ sec
    · by_cases ht : n < 0
      · exact act_look_s1t0 x hr hn what sec n h0 h1 h2 h3 h4 h5 hs hs2 ht bv raw kv torn part
      · by_cases ht2 : 3 < n
        · exact act_look_s1t1 x hr hn what sec n h0 h1 h2 h3 h4 h5 hs hs2 ht ht2 bv raw kv torn part
        · exact act_look_s1t2 x hr hn what sec n h0 h1 h2 h3 h4 h5 hs hs2 ht ht2 bv raw kv torn part
    · by_cases ht : n < 0
      · exact act_look_s2t0 x hr hn what sec n h0 h1 h2 h3 h4 h5 hs hs2 ht bv raw kv torn part
      · by_cases ht2 : 3 < n
        · exact act_look_s2t1 x hr hn what sec n h0 h1 h2 h3 h4 h5 hs hs2 ht ht2 bv raw kv torn part
        · exact act_look_s2t2 x hr hn what sec n h0 h1 h2 h3 h4 h5 hs hs2 ht ht2 bv raw kv torn part

theorem act_c {w : World} {p m : Nat} {F G : Nat → Prop} {v : Value} {d : D} (x : DiskAt w.heap p m d F) (hr : RefAt w.heap F v d) (hn : d.waits.length ≤ 1000000000) (y : ActM) (ok : y.ok) (h5 : y.what ≠ 5) {bv : Value} (hv : BytesIn w.heap G bv y.b) (hl : y.b.length ≤ 1048576) (kv : Value) :
    Calls Try.prog 13 #[.pointer (some ⟨p, 0, none⟩), v, .agg (actC y.what y.sec y.n bv y.raw kv y.crash.torn y.crash.part)] w (ActPost w p m F (actD d y)) := by
  obtain ⟨what, sec, n, b, raw, c⟩ := y
  simp only at h5 hv hl ⊢
  by_cases e0 : what = 0
  · subst e0
    cases raw
    · exact act_write_pad x hr hn sec n hv hl kv c.torn c.part
    · exact act_write_raw x hr hn sec n hv hl kv c.torn c.part
  by_cases e1 : what = 1
  · subst e1
    exact act_append x hr hn sec n hv hl raw kv c.torn c.part
  by_cases e2 : what = 2
  · subst e2
    exact act_cut x hr hn sec n bv raw kv c.torn c.part
  by_cases e3 : what = 3
  · subst e3
    exact act_sync x hr hn sec n bv raw kv c.torn c.part
  by_cases e4 : what = 4
  · subst e4
    exact act_stop x hr hn sec n ok.n.2 bv raw kv c.torn c.part
  have e : actD d ⟨what, sec, n, b, raw, c⟩ = d := by
    unfold actD
    rw [if_neg e0, if_neg e1, if_neg e2, if_neg e3, if_neg e4]
  rw [e]
  exact look_c x hr hn what sec n (by simpa using e0) (by simpa using e1) (by simpa using e2) (by simpa using e3) (by simpa using e4) (by simpa using h5) bv raw kv c.torn c.part

end Go.Proofs.Ytiefhmbpaoecfaa

namespace Go.Proofs.Ytiefhmbpaoecfaa
open Go.RowKit Dm

set_option maxRecDepth 100000 in
theorem holds_c {p m : Nat} {d : D} {F G : Nat → Prop} {w : World} (x : DiskAt w.heap p m d F) (s : Int) (h0 : 0 ≤ s) (h1 : s < d.many) {v : Value} {l : List UInt8} (hv : BytesAt w.heap G v l) :
    Calls Try.prog 18 #[.pointer (some ⟨p, 0, none⟩), .int .i64 s, v] w fun e w' => e = .returned (.bool (d.stand.sec s == l)) ∧ Below w.heap.size w w' := by
  have RD := Lib.hid (read_c x s)
  rw [if_neg (by omega), if_neg (by omega)] at RD
  generalize d.stand.sec s = ll at *
  obtain ⟨a, c, rfl⟩ := hv.slice
  have HV := Lib.hid hv
  clear hv x
  go_enter Try.func18, Try.ntmps18
  go_upto_region 2 with (go_at_call 17; refine RD.out.mono ?_; rintro e w1 ⟨v1, rfl, hb, f1⟩)
  have c1 := run_string_of f1.bytes
  have c2 := run_string_of (HV.out.below hb)
  obtain ⟨ra, rc, rfl⟩ := f1.bytes.slice
  clear f1
  go_wp2_with (go_at_call 9; refine (num_c _ _).mono ?_; rintro e w' ⟨rfl, rfl⟩)
  go_ret
  exact ⟨by simp, hb⟩

/-- Do bytes begin so? -/
def preB (ll l : List UInt8) : Bool := decide (l.length ≤ ll.length) && (ll.take l.length == l)

theorem BytesAt.take {h : Array Obj} {F : Nat → Prop} {a : Option Addr} {n c : Nat} {l : List UInt8} (x : BytesAt h F (.slice a n c) l) (k : Nat) (hk : k ≤ n) : BytesAt h F (.slice a k c) (l.take k) := by
  rcases x with ⟨h1, rfl⟩ | ⟨b, o, cap, cc, t, fr, h1, h2, h3, g2, g3, g4⟩
  · obtain ⟨rfl, rfl, rfl⟩ := Value.slice.inj h1
    obtain rfl : k = 0 := by omega
    exact Or.inl ⟨rfl, rfl⟩
  · obtain ⟨rfl, rfl, rfl⟩ := Value.slice.inj h1
    have e : (l.take k).length = k := by simp; omega
    refine Or.inr ⟨b, o, c, cc, t, fr, by rw [e], by rw [e]; omega, h3, g2, g3, fun i y hi => ?_⟩
    rw [List.getElem?_take] at hi
    split at hi
    · exact g4 i y hi
    · cases hi

set_option maxRecDepth 100000 in
theorem begins_c {p m : Nat} {d : D} {F G : Nat → Prop} {w : World} (x : DiskAt w.heap p m d F) (s : Int) (h0 : 0 ≤ s) (h1 : s ≤ 3) {v : Value} {l : List UInt8} (hv : BytesAt w.heap G v l) (hl : l.length ≤ 1048576) :
    Calls Try.prog 20 #[.pointer (some ⟨p, 0, none⟩), .int .i64 s, v] w fun e w' => e = .returned (.bool (preB (d.stand.tp s) l)) ∧ Below w.heap.size w w' := by
  have RD := Lib.hid (tape_c x s)
  rw [if_neg (by omega), if_neg (by omega)] at RD
  have hlt : (d.stand.tp s).length ≤ 1048576 := by
    obtain ⟨n, rfl, _⟩ := natOf (n := s) (k := 3) (by omega) (by omega)
    have := stand_tapes x.ok n
    have := x.ok.room1
    omega
  generalize d.stand.tp s = ll at *
  obtain ⟨a, c, rfl⟩ := hv.slice
  have HV := Lib.hid hv
  clear hv x
  have hca : l.length ≤ c := by
    rcases HV.out with ⟨h1, h2⟩ | ⟨b, o, cap, cc, t, fr, h1, h2, h3, g2, g3, g4⟩
    · rw [h2]; exact Nat.zero_le _
    · rw [(Value.slice.inj h1).2.2]; exact h2
  go_enter Try.func20, Try.ntmps20
  go_upto_region 2 with (go_at_call 19; refine RD.out.mono ?_; rintro e w1 ⟨v1, rfl, hb, f1⟩)
  have hca1 : ∃ ra rc, v1 = .slice ra ll.length rc ∧ ll.length ≤ rc ∧ rc ≤ 9223372036854775807 := by
    rcases f1 with ⟨h1, h2⟩ | ⟨b, cap, cc, t, h1, h2, h3, h4, h5, h6⟩
    · exact ⟨none, 0, by rw [h2]; exact h1, by rw [h2]; exact Nat.le_refl _, by omega⟩
    · exact ⟨_, _, h1, h2, h3⟩
  obtain ⟨ra, rc, rfl, hrc, hrc1⟩ := hca1
  have F1 := Lib.hid (And.intro f1 hb)
  clear f1 hb
  by_cases hle : l.length ≤ ll.length
  · have c1 := fun n => run_string_of (w := w1.drewN n) (F1.out.1.bytes.take l.length hle)
    have c2 := fun n => run_string_of (w := w1.drewN n) (HV.out.below (below_drewN F1.out.2 n))
    have hle1 : (l.length : Int) ≤ (ll.length : Int) := by omega
    go_quiet ((go_at_call 9; exact Calls.quiet_of_same ((num_c _ _).mono fun e w' h => ⟨h.1, h.2.symm⟩)))
    go_wp2
    go_ret
    exact ⟨by simp [preB, hle], below_drewN F1.out.2 _⟩
  · have hle1 : (ll.length : Int) < (l.length : Int) := by omega
    have hd : decide ((l.length : Int) ≤ (ll.length : Int)) = false := by simpa using hle
    have hd2 : decide (l.length ≤ ll.length) = false := by simpa using hle
    go_quiet ((go_at_call 9; exact Calls.quiet_of_same ((num_c _ _).mono fun e w' h => ⟨h.1, h.2.symm⟩)))
    go_wp2
    go_ret
    exact ⟨by simp [preB, hle], below_drewN F1.out.2 _⟩

set_option maxRecDepth 100000 in
/-- Two disks have the same sectors and tapes. -/
theorem stands_law_c {p m q mq : Nat} {d e : D} {F G : Nat → Prop} {w : World} (x : DiskAt w.heap p m d F) (y : DiskAt w.heap q mq e G) (hm : d.many = 8) (hm2 : e.many = 8)
    (ht : ∀ n : Nat, n < 4 → d.stand.tp n = e.stand.tp n) (hs : ∀ n : Nat, n < 8 → d.stand.sec n = e.stand.sec n) :
    Calls Try.prog 15 #[.pointer (some ⟨p, 0, none⟩), .pointer (some ⟨q, 0, none⟩)] w fun e w' => e = .returned (.bool true) ∧ Below w.heap.size w w' := by
  have HX := Lib.hid (And.intro (And.intro x y) (And.intro (And.intro hm hm2) (And.intro ht hs)))
  clear x y hm hm2 ht hs
  go_enter Try.func15, Try.ntmps15
  go_wp2
  go_loopg [5] 4 (fun g i wr => ∃ k : Nat, i = .int .i64 (k : Int) ∧ g + k = 4 ∧ Below w.heap.size w wr)
  case atStart => exact ⟨0, rfl, rfl, Below.refl _ _⟩
  case round =>
    obtain ⟨k, rfl, hg, rel⟩ := hrel
    by_cases hlt : k < 4
    · have hk0 : (0 : Int) ≤ (k : Int) := by omega
      have hk1 : (k : Int) < 4 := by omega
      have T1 := Lib.hid (tape_c (HX.out.1.1.below rel) (k : Int))
      rw [if_neg (by omega), if_neg (by omega), HX.out.2.2.1 k hlt] at T1
      have T2 := Lib.hid (fun w1 (hb : Below wr.heap.size wr w1) => tape_c (HX.out.1.2.below (rel.trans (hb.mono rel.size))) (k : Int))
      rw [if_neg (by omega), if_neg (by omega)] at T2
      generalize e.stand.tp k = ll at *
      have H := Lib.hid (And.intro rel hg)
      clear rel hg
      go_upto_region 5 with (go_at_call 19; refine T1.out.mono ?_; rintro e w1 ⟨v1, rfl, hb1, f1⟩)
      have U2 := Lib.hid (T2.out w1 hb1)
      have F1 := Lib.hid (And.intro hb1 f1)
      clear hb1 f1
      go_upto_region 6 with (go_at_call 19; refine U2.out.mono ?_; rintro e w2 ⟨v2, rfl, hb2, f2⟩)
      have c1 := run_string_of (F1.out.2.bytes.below hb2)
      have c2 := run_string_of f2.bytes
      have F2 := Lib.hid hb2
      clear hb2 f2
      go_wp2_with (go_at_call 9; refine (num_c _ _).mono ?_; rintro e w' ⟨rfl, rfl⟩)
      go_roundg (4 - (k + 1))
      case measure => have := H.out.2; omega
      case rel => exact ⟨k + 1, by go_num, by have := H.out.2; omega, H.out.1.trans ((F1.out.1.trans (F2.out.mono F1.out.1.size)).mono H.out.1.size)⟩
    · obtain rfl : k = 4 := by omega
      have R1 := Lib.hid rel
      clear rel hg
      obtain ⟨wo, ewo⟩ : ∃ wo, wo = wr := ⟨_, rfl⟩
      subst ewo
      go_wp2
      go_loopg [10] 8 (fun g i wr => ∃ k : Nat, i = .int .i64 (k : Int) ∧ g + k = 8 ∧ Below w.heap.size w wr)
      case atStart => exact ⟨0, rfl, rfl, R1.out⟩
      case round =>
        obtain ⟨k, rfl, hg, rel⟩ := hrel
        by_cases hlt : k < 8
        · have hk0 : (0 : Int) ≤ (k : Int) := by omega
          have hk1 : (k : Int) < 8 := by omega
          have T1 := Lib.hid (read_c (HX.out.1.1.below rel) (k : Int))
          rw [HX.out.2.1.1, if_neg (by omega), if_neg (by omega), HX.out.2.2.2 k hlt] at T1
          have T2 := Lib.hid (fun w1 (hb : Below wr.heap.size wr w1) => read_c (HX.out.1.2.below (rel.trans (hb.mono rel.size))) (k : Int))
          rw [HX.out.2.1.2, if_neg (by omega), if_neg (by omega)] at T2
          generalize e.stand.sec k = ll at *
          have H := Lib.hid (And.intro rel hg)
          clear rel hg
          go_upto_region 12 with (go_at_call 17; refine T1.out.mono ?_; rintro e w1 ⟨v1, rfl, hb1, f1⟩)
          have U2 := Lib.hid (T2.out w1 hb1)
          have F1 := Lib.hid (And.intro hb1 f1)
          clear hb1 f1
          go_upto_region 13 with (go_at_call 17; refine U2.out.mono ?_; rintro e w2 ⟨v2, rfl, hb2, f2⟩)
          have c1 := run_string_of (F1.out.2.bytes.below hb2)
          have c2 := run_string_of f2.bytes
          have F2 := Lib.hid hb2
          clear hb2 f2
          go_wp2_with (go_at_call 9; refine (num_c _ _).mono ?_; rintro e w' ⟨rfl, rfl⟩)
          go_roundg (8 - (k + 1))
          case measure => have := H.out.2; omega
          case rel => exact ⟨k + 1, by go_num, by have := H.out.2; omega, H.out.1.trans ((F1.out.1.trans (F2.out.mono F1.out.1.size)).mono H.out.1.size)⟩
        · obtain rfl : k = 8 := by omega
          have R2 := Lib.hid rel
          clear rel hg
          go_wp2
          go_ret
          exact ⟨rfl, R2.out⟩

end Go.Proofs.Ytiefhmbpaoecfaa
