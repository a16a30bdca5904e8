/-
  'act': a look, case 2 2.
  'act', whatever the call but a crash.
  The stage's theorem of the disk, in plain Lean: what crashes leave.
-/
import Derived.Test.YtiefhmbpaoecfaaG18
import Derived.Test.YtiefhmbpaoecfaaG20
import Derived.Test.YtiefhmbpaoecfaaG22
import Derived.Test.YtiefhmbpaoecfaaG23
import Derived.Test.YtiefhmbpaoecfaaG24
import Derived.Test.YtiefhmbpaoecfaaG25
import Derived.Test.YtiefhmbpaoecfaaG26

namespace Go.Proofs.Ytiefhmbpaoecfaa
open Go.RowKit Dm

set_option maxRecDepth 100000 in
set_option maxHeartbeats 4000000 in
theorem act_look_s2t2 {w : World} {p m : Nat} {F : Nat → Prop} {v : Value} {d : D} (x : DiskAt w.heap p m d F) (hr : RefAt w.heap F v d) (hn : d.waits.length ≤ 1000000000) (what sec n : Int) (h0 : (what == 0) = false) (h1 : (what == 1) = false) (h2 : (what == 2) = false) (h3 : (what == 3) = false) (h4 : (what == 4) = false) (h5 : (what == 5) = false) (hs : ¬ sec < 0) (hs2 : ¬ d.many ≤ sec) (ht : ¬ n < 0) (ht2 : ¬ 3 < n) (bv : Value) (raw : Bool) (kv : Value) (torn part : Int) :
    Calls Try.prog 13 #[.pointer (some ⟨p, 0, none⟩), v, .agg (actC what sec n bv raw kv torn part)] w (ActPost w p m F d) := by
  obtain ⟨C, rfl, hin⟩ := actIn_of x hr (actC what sec n bv raw kv torn part)
  obtain ⟨W0, hW0⟩ : ∃ W0, actW w C (actC what sec n bv raw kv torn part) = W0 := ⟨_, rfl⟩
  rw [hW0] at hin
  have ok := x.ok
  have HIN := Lib.hid hin
  have k0 : W0.cell? ⟨w.heap.size + 1, 0, none⟩ = some (.int .i64 what) := row_cell hin.r1 rfl
  have k1 : W0.cell? ⟨w.heap.size + 1, 1, none⟩ = some (.int .i64 sec) := row_cell hin.r1 rfl
  have RD := Lib.hid (read_c (hin.disk0 (Below.refl _ _)) sec)
  have OK := Lib.hid (And.intro ok hn)
  rw [if_neg (by omega), if_neg (by omega)] at RD
  clear hin x hr ok hn
  go_enter Try.func13, Try.ntmps13
  go_upto_region 1 with fail
  clear hW0
  go_upto_region 38 with (first
    | (go_at_call 17; refine RD.out.mono ?_; rintro e X1 ⟨v1, rfl, hb1, f1⟩
       obtain ⟨ra, rc, ev⟩ := f1.bytes.slice
       subst ev
       have k2 : X1.cell? ⟨w.heap.size + 1, 2, none⟩ = some (.int .i64 n) := row_cell ((hb1.block _ (lt_of_row HIN.out.r1)).trans HIN.out.r1) rfl
       have TP := Lib.hid (tape_c (HIN.out.disk0 hb1) n)
       rw [if_neg (by omega), if_neg (by omega)] at TP
       have F1 := Lib.hid (And.intro hb1 f1)
       clear hb1 f1)
    | (go_at_call 19; refine TP.out.mono ?_; rintro e X2 ⟨v2, rfl, hb2, f2⟩
       obtain ⟨ta, tc, ev⟩ := f2.bytes.slice
       subst ev
       have F2 := Lib.hid (And.intro hb2 f2)
       clear hb2 f2))
  have hb02 : Below W0.heap.size W0 X2 := F1.out.1.trans (F2.out.1.mono F1.out.1.size)
  have r0 : X2.heap[w.heap.size]? = some (.cells C tRDisk (0, 0)) := (hb02.block _ (lt_of_row HIN.out.r0)).trans HIN.out.r0
  have r1 : X2.heap[w.heap.size + 1]? = some (.cells (actC what sec n bv raw kv torn part) tAct (0, 0)) := (hb02.block _ (lt_of_row HIN.out.r1)).trans HIN.out.r1
  have x1 : ∀ x : Wd (Below X2.heap.size X2), x.world.cell? ⟨w.heap.size + 1, 1, none⟩ = some (.int .i64 sec) := fun x => (x.ok.cell (p := ⟨w.heap.size + 1, 1, none⟩) (lt_of_row r1)).trans (row_cell r1 rfl)
  have LD : Hid (∀ w', (∃ x : Wd (Below X2.heap.size X2), w' = x.world) → (Instr.loadAt tRDisk (.pointer (some ⟨w.heap.size, 0, none⟩))).run Try.prog w' = .ok (.agg C) w') := by
    rintro w' ⟨x, rfl⟩
    exact run_loadAt_row ((x.ok.block _ (lt_of_row r0)).trans r0) Try.underlying42 rfl (by rw [infoRD, HIN.out.csz])
  have ne : Nonempty (Wd (Below X2.heap.size X2)) := ⟨⟨_, Below.refl _ _⟩⟩
  have ST := Lib.hid (stands_c (HIN.out.at0 (X := X2.drew) hb02.drew) OK.out.1 (by have := OK.out.2; omega))
  have R2 := Lib.hid (And.intro hb02 (And.intro r0 r1))
  clear k0 k1 k2 r0 r1 hb02
  refine wp_region_hoist (fun w' => ∃ x : Wd (Below X2.heap.size X2), w' = x.world) [] (by kernel_rfl) ?_
  refine wpAnyI_reads [0, 2, 3] 4 _ ⟨⟨_, (Below.refl _ _).drew⟩, rfl⟩ (by kernel_rfl) ?_
  simp only [List.filterMap_cons, List.filterMap_nil, List.getElem?_toArray, List.getElem?_cons_succ, List.getElem?_cons_zero]
  refine wpHoist_load_run rfl tRDisk (.tmp 4) rfl _ LD.out ?_
  repeat (refine wpHoist_step (fun K hK => ?_); simp only [hoists, sameUpon]; go_simp; refine hK _ ?_; clear hK K)
  refine wpHoist_nil ?_
  refine wpAnyI_one 1 3 _ _ rfl (by kernel_rfl) ?_
  refine wpList_plain rfl fun K hK => ?_
  go_simp
  go_at_call 40
  refine ST.out.mono ?_
  rintro e X3 ⟨sv, t0, t1, t2, t3, rfl, hb3, rb3⟩
  have hb3' : Below X2.heap.size X2 X3 := (Below.refl _ _).drew.trans hb3
  have RB3 := Lib.hid rb3
  clear rb3 hb3
  refine hK _ _ (wpList_nil ⟨rfl, fun _ => ⟨⟨_, hb3'⟩, rfl⟩, ?_⟩)
  clear hK K
  refine wpAnyI_one 4 2 _ _ rfl (by kernel_rfl) ?_
  refine wpList_plain rfl fun K hK => ?_
  go_simp
  go_at_call 41
  refine (rsector_c RB3.out OK.out.1.many1 sec).mono ?_
  rintro e X4 ⟨v4, rfl, hb4, f4⟩
  obtain ⟨sa, sc, ev⟩ := f4.slice
  have SL := Lib.hid (stand_secs OK.out.1 sec)
  have hb4' : Below X2.heap.size X2 X4 := hb3'.trans (hb4.mono hb3'.size)
  have F4 := Lib.hid (And.intro f4 ev)
  clear f4 hb4 hb3' ev
  refine hK _ _ (wpList_nil ⟨rfl, fun _ => ⟨⟨_, hb4'⟩, rfl⟩, ?_⟩)
  clear hK K
  refine wpAnyI_reads [5, 6] 0 _ ⟨⟨_, hb4'⟩, rfl⟩ (by kernel_rfl) ?_
  simp only [List.filterMap_cons, List.filterMap_nil, List.getElem?_toArray, List.getElem?_cons_succ, List.getElem?_cons_zero]
  repeat (refine wpHoist_step (fun K hK => ?_); simp only [hoists, sameUpon]; go_simp; refine hK _ ?_; clear hK K)
  refine wpHoist_nil ?_
  refine ⟨by kernel_rfl, ?_⟩
  have R4 := Lib.hid (And.intro (R2.out.1.trans (hb4'.mono R2.out.1.size)) (And.intro ((hb4'.block _ (lt_of_row R2.out.2.1)).trans R2.out.2.1) ((hb4'.block _ (lt_of_row R2.out.2.2)).trans R2.out.2.2)))
  have m1 : X4.cell? ⟨w.heap.size + 1, 1, none⟩ = some (.int .i64 sec) := row_cell R4.out.2.2 rfl
  have m0 : X4.cell? ⟨w.heap.size, 0, none⟩ = some (.int .i64 d.many) := row_cell R4.out.2.1 HIN.out.c0
  have m2 : X4.cell? ⟨w.heap.size + 1, 2, none⟩ = some (.int .i64 n) := row_cell R4.out.2.2 rfl
  have B4 := Lib.hid hb4'
  clear hb4' x1 ne LD ST
  go_upto_region 43 with fail
  obtain ⟨nt, ent, hnt⟩ := natOf (n := n) (k := 3) (by omega) (by omega)
  have x2 : ∀ x : Wd (Below X4.heap.size X4), x.world.cell? ⟨w.heap.size + 1, 2, none⟩ = some (.int .i64 n) := fun x => (x.ok.cell (p := ⟨w.heap.size + 1, 2, none⟩) (lt_of_row R4.out.2.2)).trans m2
  have LD : Hid (∀ w', (∃ x : Wd (Below X4.heap.size X4), w' = x.world) → (Instr.loadAt tRDisk (.pointer (some ⟨w.heap.size, 0, none⟩))).run Try.prog w' = .ok (.agg C) w') := by
    rintro w' ⟨x, rfl⟩
    exact run_loadAt_row ((x.ok.block _ (lt_of_row R4.out.2.1)).trans R4.out.2.1) Try.underlying42 rfl (by rw [infoRD, HIN.out.csz])
  have ne : Nonempty (Wd (Below X4.heap.size X4)) := ⟨⟨_, Below.refl _ _⟩⟩
  have ST := Lib.hid (stands_c (HIN.out.at0 (X := X4.drew) R4.out.1.drew) OK.out.1 (by have := OK.out.2; omega))
  have ENT := Lib.hid ent
  clear ent
  refine wp_region_hoist (fun w' => ∃ x : Wd (Below X4.heap.size X4), w' = x.world) [] (by kernel_rfl) ?_
  refine wpAnyI_reads [0, 3, 4] 4 _ ⟨⟨_, (Below.refl _ _).drew⟩, rfl⟩ (by kernel_rfl) ?_
  simp only [List.filterMap_cons, List.filterMap_nil, List.getElem?_toArray, List.getElem?_cons_succ, List.getElem?_cons_zero]
  refine wpHoist_load_run rfl tRDisk (.tmp 4) rfl _ LD.out ?_
  repeat (refine wpHoist_step (fun K hK => ?_); simp only [hoists, sameUpon]; go_simp; refine hK _ ?_; clear hK K)
  refine wpHoist_nil ?_
  refine wpAnyI_one 1 3 _ _ rfl (by kernel_rfl) ?_
  refine wpList_plain rfl fun K hK => ?_
  go_simp
  go_at_call 40
  refine ST.out.mono ?_
  rintro e X5 ⟨sv5, y0, y1, y2, y3, rfl, hb5, rb5⟩
  have hb5' : Below X4.heap.size X4 X5 := (Below.refl _ _).drew.trans hb5
  have hfd := run_field_tapes sv5 y0 y1 y2 y3
  obtain ⟨ti, ai, ci, ei, eti⟩ := rb5.idx nt (by omega)
  have hix := fun W => run_index4 y0 y1 y2 y3 nt _ ei W
  simp only [Int.ofNat_eq_natCast] at hix
  rw [← ENT.out] at hix
  obtain ⟨tv, e1, e2⟩ := rb5.tape nt (by omega)
  have RB5 := Lib.hid (And.intro ei (And.intro e1 e2))
  clear rb5 hb5 ei e1 e2 eti
  refine hK _ _ (wpList_nil ⟨rfl, fun _ => ⟨⟨_, hb5'⟩, rfl⟩, ?_⟩)
  clear hK K
  refine wpAnyI_reads [2, 5, 6] 0 _ ⟨⟨_, hb5'⟩, rfl⟩ (by kernel_rfl) ?_
  simp only [List.filterMap_cons, List.filterMap_nil, List.getElem?_toArray, List.getElem?_cons_succ, List.getElem?_cons_zero]
  repeat (refine wpHoist_step (fun K hK => ?_); simp only [hoists, sameUpon]; go_simp; refine hK _ ?_; clear hK K)
  refine wpHoist_nil ?_
  refine ⟨by kernel_rfl, ?_⟩
  have : tv = ti := by
    have h1 := RB5.out.1
    have h2 := RB5.out.2.1
    have h3 : (#[sv5, y0, y1, y2, y3] : Array Value)[1 + nt]? = #[y0, y1, y2, y3][nt]? := by
      obtain rfl | rfl | rfl | rfl : nt = 0 ∨ nt = 1 ∨ nt = 2 ∨ nt = 3 := by omega
      all_goals rfl
    rw [h3, h1] at h2
    exact (Option.some.inj h2).symm
  have b34 : BytesAt X5.heap (fun _ => True) ti (d.stand.tp n) := by rw [ENT.out, ← this]; exact RB5.out.2.2.keeps (fun _ _ _ => rfl) (fun _ _ _ => trivial)
  have hbY := B4.out.trans (hb5'.mono B4.out.size)
  clear this hfd hix m1 m2 m0
  have f27 : FreshBytes X5.heap W0.heap.size _ _ := F1.out.2.keepsF (fun k hk hl => (hbY.block k (by have := F2.out.1.size; omega)).trans (F2.out.1.block k hl))
  have f29 : FreshBytes X5.heap X1.heap.size _ _ := F2.out.2.keepsF (fun k hk hl => hbY.block k hl)
  have hc27 := run_string_of f27.bytes
  have hc29 := run_string_of f29.bytes
  have hc34 := run_string_of b34
  have hc33 := run_string_of (F4.out.1.keeps (F' := fun _ => True) (fun k _ hl => hb5'.block k hl) (fun _ _ _ => trivial))
  try simp only [List.length_nil] at hc27 hc29 hc33 hc34
  go_upto_region 45 with (go_at_call 9; refine (num_c _ _).mono ?_; rintro e w' ⟨rfl, rfl⟩)
  have FR := Lib.hid (And.intro (fresh_addr F1.out.2) (fresh_addr F2.out.2))
  have REL := Lib.hid (IncRel.start2 (Y := X5) F1.out.2 (fun k _ hk => (hbY.block k (by have := F2.out.1.size; omega)).trans (F2.out.1.block k hk)))
  have rel2 : ∀ wr, Moves (fun k => W0.heap.size ≤ k ∧ k < X1.heap.size) X5 wr → IncRel (fun k => X1.heap.size ≤ k ∧ k < X2.heap.size) ta _ wr wr := fun wr hm => IncRel.start2 F2.out.2 (fun k hk hl => by rw [hm.block k (by have := hbY.size; omega) (by omega)]; exact hbY.block k hl)
  have REL2 := Lib.hid rel2
  have HY := Lib.hid (And.intro hbY (R2.out.1.trans (hbY.mono R2.out.1.size)))
  have zz : W0.heap.size ≤ X1.heap.size ∧ X1.heap.size ≤ X2.heap.size ∧ X2.heap.size ≤ X5.heap.size := ⟨F1.out.1.size, F2.out.1.size, hbY.size⟩
  clear rel2 hbY f27 f29 hc27 hc29 hc33 hc34 b34
  have lsb : (d.stand.sec sec).length ≤ 1048576 := by rw [SL.out]; omega
  clear F4 SL
  generalize (d.stand.sec sec).length = lsn at *
  have ltb : (d.stand.tp n).length ≤ 1048576 := stand_len OK.out.1 n
  generalize (d.stand.tp n).length = ltn at *
  try simp only [List.length_nil] at FR REL REL2
  go_wp2
  go_loopg [36] lsn (fun g i wr => ∃ k : Nat, i = .int .i64 (k : Int) ∧ g + k = lsn ∧ IncRel (fun k => W0.heap.size ≤ k ∧ k < X1.heap.size) ra lsn X5 wr)
  case atStart => exact ⟨0, rfl, rfl, REL.out⟩
  case round =>
    obtain ⟨k, rfl, hg, rel⟩ := hrel
    by_cases hlt : k < lsn
    · obtain ⟨g, rfl⟩ : ∃ g, ra = some ⟨g, 0, none⟩ := by
        rcases FR.out.1 with h | h
        · omega
        · exact h
      obtain ⟨_, c, t, hc, hcy⟩ := rel.row g rfl
      obtain ⟨y, hy0, hy1, hy⟩ := hcy k hlt
      have ky : wr.cell? ⟨g, k, none⟩ = some (.int .u8 y) := row_cell hc hy
      have fy : wr.frozen? ⟨g, k, none⟩ = false := row_free hc _
      have hk0 : (0 : Int) ≤ (k : Int) := by omega
      have hk1 : (k : Int) < (lsn : Int) := by omega
      have H := Lib.hid (And.intro rel hg)
      clear rel hg hc hcy hy
      go_wp2
      go_roundg (lsn - (k + 1))
      case measure => have := H.out.2; omega
      case rel => exact ⟨k + 1, by go_num, by have := H.out.2; omega, H.out.1.step (u8_wrap y hy0 hy1).1 (u8_wrap y hy0 hy1).2⟩
    · obtain rfl : k = lsn := by omega
      have H1 := Lib.hid rel
      obtain ⟨wr1, ewr⟩ : ∃ wr1, wr1 = wr := ⟨_, rfl⟩
      subst ewr
      have RELB := Lib.hid (REL2.out _ rel.moves)
      clear rel hg
      go_wp2
      go_loopg [37] ltn (fun g i wr => ∃ k : Nat, i = .int .i64 (k : Int) ∧ g + k = ltn ∧ IncRel (fun k => X1.heap.size ≤ k ∧ k < X2.heap.size) ta ltn wr1 wr)
      case atStart => exact ⟨0, rfl, rfl, RELB.out⟩
      case round =>
        obtain ⟨k, rfl, hg, rel⟩ := hrel
        by_cases hlt : k < ltn
        · obtain ⟨g, rfl⟩ : ∃ g, ta = some ⟨g, 0, none⟩ := by
            rcases FR.out.2 with h | h
            · omega
            · exact h
          obtain ⟨_, c, t, hc, hcy⟩ := rel.row g rfl
          obtain ⟨y, hy0, hy1, hy⟩ := hcy k hlt
          have ky : wr.cell? ⟨g, k, none⟩ = some (.int .u8 y) := row_cell hc hy
          have fy : wr.frozen? ⟨g, k, none⟩ = false := row_free hc _
          have hk0 : (0 : Int) ≤ (k : Int) := by omega
          have hk1 : (k : Int) < (ltn : Int) := by omega
          have H := Lib.hid (And.intro rel hg)
          clear rel hg hc hcy hy
          go_wp2
          go_roundg (ltn - (k + 1))
          case measure => have := H.out.2; omega
          case rel => exact ⟨k + 1, by go_num, by have := H.out.2; omega, H.out.1.step (u8_wrap y hy0 hy1).1 (u8_wrap y hy0 hy1).2⟩
        · obtain rfl : k = ltn := by omega
          have H2 := Lib.hid rel
          clear rel
          have z1 : wr1.heap.size = X5.heap.size := H1.out.size
          have z2 : wr.heap.size = wr1.heap.size := H2.out.size
          have blk : ∀ k, k < W0.heap.size → wr.heap[k]? = W0.heap[k]? := fun k hk => by
            rw [H2.out.moves.block k (by omega) (by omega), H1.out.moves.block k (by omega) (by omega), HY.out.2.block k hk]
          have bw : Below w.heap.size w wr := HIN.out.below.trans ⟨H2.out.moves.os.trans (H1.out.moves.os.trans HY.out.2.os), H2.out.moves.tape.trans (H1.out.moves.tape.trans HY.out.2.tape), H2.out.moves.output.trans (H1.out.moves.output.trans HY.out.2.output), by have := HIN.out.below.size; omega, fun k hk => blk k (by have := HIN.out.below.size; omega)⟩
          have r0 := (blk _ (lt_of_row HIN.out.r0)).trans HIN.out.r0
          have r2 := (blk _ (lt_of_row HIN.out.r2)).trans HIN.out.r2
          have BW := Lib.hid (And.intro bw r2)
          have LD : Hid (∀ w', (∃ x : Wd (ActCls w.heap.size w.heap.size wr), w' = x.world) → (Instr.loadAt tRDisk (.pointer (some ⟨w.heap.size, 0, none⟩))).run Try.prog w' = .ok (.agg C) w') := by
            rintro w' ⟨x, rfl⟩
            exact run_loadAt_row (x.ok.2.trans r0) Try.underlying42 rfl (by rw [infoRD, HIN.out.csz])
          have ne : Nonempty (Wd (ActCls w.heap.size w.heap.size wr)) := ⟨⟨wr, rfl, rfl⟩⟩
          have lw : w.heap.size < wr.heap.size := lt_of_row r0
          clear blk bw r0 r2 z1 z2
          go_wp2
          refine wp_region_hoist (fun w' => ∃ x : Wd (ActCls w.heap.size w.heap.size wr), w' = x.world) [] (by kernel_rfl) ?_
          refine wpAnyI_reads [0, 1, 2, 3] 2 _ ⟨⟨_, (⟨rfl, rfl⟩ : ActCls w.heap.size w.heap.size wr wr.drew)⟩, rfl⟩ (by kernel_rfl) ?_
          simp only [List.filterMap_cons, List.filterMap_nil, List.getElem?_toArray, List.getElem?_cons_succ, List.getElem?_cons_zero]
          refine wpHoist_step (fun K hK => ?_); simp only [hoists, sameUpon]; go_simp; refine hK _ ?_; clear hK K
          refine wpHoist_load_run rfl tRDisk (.tmp 4) rfl _ LD.out ?_
          repeat (refine wpHoist_step (fun K hK => ?_); simp only [hoists, sameUpon]; go_simp; refine hK _ ?_; clear hK K)
          refine wpHoist_nil ?_
          refine wpAnyI_one 4 1 _ _ rfl (by kernel_rfl) ?_
          refine wpList_store_abs rfl tRDisk (.tmp 7) (.tmp 284) rfl (w.heap.size + 1 + 1) _ rfl rfl tRDisk ref0 BW.out.2 (by rw [infoRD, HIN.out.csz]) (by rw [HIN.out.csz]; rfl) (ref_all HIN.out.ref) ?_
          intro W4 HW4 HM4 HS4
          have cl4 : ActCls w.heap.size w.heap.size wr W4 := ⟨HM4.block _ lw (by omega), HM4.block _ lw (by omega)⟩
          have H4 := Lib.hid HM4
          clear HM4 HS4
          refine wpList_nil ⟨rfl, fun _ => ⟨⟨_, cl4⟩, rfl⟩, ?_⟩
          refine wpAnyI_reads [5] 0 _ ⟨⟨_, cl4⟩, rfl⟩ (by kernel_rfl) ?_
          simp only [List.filterMap_cons, List.filterMap_nil, List.getElem?_toArray, List.getElem?_cons_succ, List.getElem?_cons_zero]
          repeat (refine wpHoist_step (fun K hK => ?_); simp only [hoists, sameUpon]; go_simp; refine hK _ ?_; clear hK K)
          refine wpHoist_nil ?_
          refine ⟨by kernel_rfl, ?_⟩
          go_wp2
          refine bodyPost_ret (results_three rfl _ _ (w.heap.size + 1 + 1) _ _ _ _ _ _ rfl rfl rfl HW4.out Try.underlying42 rfl (by rw [infoRD, HIN.out.csz])) rfl ?_
          exact look_end HIN.out.disk HIN.out.ref (Moves.new BW.out.1.drew H4.out (by omega))

end Go.Proofs.Ytiefhmbpaoecfaa

namespace Go.Proofs.Ytiefhmbpaoecfaa
open Go.RowKit Dm

/-- What a call makes of a disk. -/
def actD (d : D) (x : ActM) : D :=
  if x.what = 0 then (d.write x.sec (if x.raw then x.b else pad x.b)).1 else if x.what = 1 then (d.append x.n x.b).1 else if x.what = 2 then (d.cut x.n x.sec).1
  else if x.what = 3 then d.sync.1 else if x.what = 4 then (d.stop x.n).1 else d

theorem look_c {w : World} {p m : Nat} {F : Nat → Prop} {v : Value} {d : D} (x : DiskAt w.heap p m d F) (hr : RefAt w.heap F v d) (hn : d.waits.length ≤ 1000000000) (what sec n : Int) (h0 : (what == 0) = false) (h1 : (what == 1) = false) (h2 : (what == 2) = false) (h3 : (what == 3) = false) (h4 : (what == 4) = false) (h5 : (what == 5) = false) (bv : Value) (raw : Bool) (kv : Value) (torn part : Int) :
    Calls Try.prog 13 #[.pointer (some ⟨p, 0, none⟩), v, .agg (actC what sec n bv raw kv torn part)] w (ActPost w p m F d) := by
  by_cases hs : sec < 0
  · by_cases ht : n < 0
    · exact act_look_s0t0 x hr hn what sec n h0 h1 h2 h3 h4 h5 hs ht bv raw kv torn part
    · by_cases ht2 : 3 < n
      · exact act_look_s0t1 x hr hn what sec n h0 h1 h2 h3 h4 h5 hs ht ht2 bv raw kv torn part
      · exact act_look_s0t2 x hr hn what sec n h0 h1 h2 h3 h4 h5 hs ht ht2 bv raw kv torn part
  · by_cases hs2 : d.many ≤ sec
    · by_cases ht : n < 0
      · exact act_look_s1t0 x hr hn what sec n h0 h1 h2 h3 h4 h5 hs hs2 ht bv raw kv torn part
      · by_cases ht2 : 3 < n
        · exact act_look_s1t1 x hr hn what sec n h0 h1 h2 h3 h4 h5 hs hs2 ht ht2 bv raw kv torn part
        · exact act_look_s1t2 x hr hn what sec n h0 h1 h2 h3 h4 h5 hs hs2 ht ht2 bv raw kv torn part
    · by_cases ht : n < 0
      · exact act_look_s2t0 x hr hn what sec n h0 h1 h2 h3 h4 h5 hs hs2 ht bv raw kv torn part
      · by_cases ht2 : 3 < n
        · exact act_look_s2t1 x hr hn what sec n h0 h1 h2 h3 h4 h5 hs hs2 ht ht2 bv raw kv torn part
        · exact act_look_s2t2 x hr hn what sec n h0 h1 h2 h3 h4 h5 hs hs2 ht ht2 bv raw kv torn part

theorem act_c {w : World} {p m : Nat} {F G : Nat → Prop} {v : Value} {d : D} (x : DiskAt w.heap p m d F) (hr : RefAt w.heap F v d) (hn : d.waits.length ≤ 1000000000) (y : ActM) (ok : y.ok) (h5 : y.what ≠ 5) {bv : Value} (hv : BytesIn w.heap G bv y.b) (hl : y.b.length ≤ 1048576) (kv : Value) :
    Calls Try.prog 13 #[.pointer (some ⟨p, 0, none⟩), v, .agg (actC y.what y.sec y.n bv y.raw kv y.crash.torn y.crash.part)] w (ActPost w p m F (actD d y)) := by
  obtain ⟨what, sec, n, b, raw, c⟩ := y
  simp only at h5 hv hl ⊢
  by_cases e0 : what = 0
  · subst e0
    cases raw
    · exact act_write_pad x hr hn sec n hv hl kv c.torn c.part
    · exact act_write_raw x hr hn sec n hv hl kv c.torn c.part
  by_cases e1 : what = 1
  · subst e1
    exact act_append x hr hn sec n hv hl raw kv c.torn c.part
  by_cases e2 : what = 2
  · subst e2
    exact act_cut x hr hn sec n bv raw kv c.torn c.part
  by_cases e3 : what = 3
  · subst e3
    exact act_sync x hr hn sec n bv raw kv c.torn c.part
  by_cases e4 : what = 4
  · subst e4
    exact act_stop x hr hn sec n ok.n.2 bv raw kv c.torn c.part
  have e : actD d ⟨what, sec, n, b, raw, c⟩ = d := by
    unfold actD
    rw [if_neg e0, if_neg e1, if_neg e2, if_neg e3, if_neg e4]
  rw [e]
  exact look_c x hr hn what sec n (by simpa using e0) (by simpa using e1) (by simpa using e2) (by simpa using e3) (by simpa using e4) (by simpa using h5) bv raw kv c.torn c.part

end Go.Proofs.Ytiefhmbpaoecfaa

namespace Go.Proofs.Ytiefhmbpaoecfaa
open Go.RowKit Dm

theorem goes_shape (d : D) : d.goes.1.many = d.many ∧ d.goes.1.waits = d.waits ∧ d.goes.1.lasts = d.lasts := by
  unfold D.goes
  split
  · exact ⟨rfl, rfl, rfl⟩
  · split
    · exact ⟨rfl, rfl, rfl⟩
    · split <;> exact ⟨rfl, rfl, rfl⟩

def Shape (d d' : D) : Prop := d'.many = d.many ∧ ((d'.waits = d.waits ∧ d'.lasts = d.lasts) ∨ (∃ s, d'.waits = d.waits ++ [s] ∧ d'.lasts = d.lasts) ∨ d'.waits = [])

theorem Shape.refl (d : D) : Shape d d := ⟨rfl, Or.inl ⟨rfl, rfl⟩⟩

theorem step_shape (d : D) (s : Step) : Shape d (d.step s).1 := by
  obtain ⟨h1, h2, h3⟩ := goes_shape d
  unfold D.step
  split
  · exact ⟨h1, Or.inr (Or.inl ⟨s, rfl, h3⟩)⟩
  · exact ⟨h1, Or.inl ⟨h2, h3⟩⟩

theorem write_shape (d : D) (n : Int) (b : List UInt8) : Shape d (d.write n b).1 := by
  unfold D.write
  split
  · exact Shape.refl d
  · split
    · exact Shape.refl d
    · exact step_shape _ _

theorem act_shape (d : D) (y : ActM) : Shape d (actD d y) := by
  unfold actD
  split
  · exact write_shape _ _ _
  split
  · unfold D.append
    split
    · exact Shape.refl d
    · split
      · exact Shape.refl d
      · exact step_shape _ _
  split
  · unfold D.cut
    split
    · exact Shape.refl d
    · exact step_shape _ _
  split
  · obtain ⟨h1, h2, h3⟩ := goes_shape d
    unfold D.sync
    split
    · exact ⟨h1, Or.inr (Or.inr rfl)⟩
    · exact ⟨h1, Or.inl ⟨h2, h3⟩⟩
  split
  · unfold D.stop
    split
    · exact Shape.refl d
    · split
      · exact Shape.refl d
      · exact ⟨rfl, Or.inl ⟨rfl, rfl⟩⟩
  · exact Shape.refl d

/-- Between two calls of the law: the disk, the one at the last sync, those behind each step since. -/
structure CS where
  d : D
  lasts : D
  was : List D

def CS.next (x : CS) (d' : D) : CS :=
  if d'.waits.length = 0 then ⟨d', d', []⟩ else if d'.waits.length > x.d.waits.length then ⟨d', x.lasts, x.was ++ [d']⟩ else ⟨d', x.lasts, x.was⟩

structure CS.Inv (x : CS) : Prop where
  many : x.d.many = 8
  lmany : x.lasts.many = 8
  wmany : ∀ e ∈ x.was, e.many = 8
  stand : x.lasts.stand = x.d.lasts
  len : x.was.length = x.d.waits.length
  each : ∀ (k : Nat) (e : D), x.was[k]? = some e → e.stand = x.d.upto (k + 1)

theorem stand_none {d : D} (h : d.waits = []) : d.stand = d.lasts := by unfold D.stand; rw [h]; rfl
theorem upto_none {d : D} (h : d.waits = []) (k : Nat) : d.upto k = d.lasts := by unfold D.upto; rw [h, List.take_nil]; rfl
theorem upto_all (d : D) : d.upto d.waits.length = d.stand := by unfold D.upto D.stand; rw [List.take_of_length_le (Nat.le_refl _)]

theorem CS.Inv.next {x : CS} (h : x.Inv) {d' : D} (hs : Shape x.d d') : (x.next d').Inv := by
  obtain ⟨h1, h2⟩ := hs
  have hm : d'.many = 8 := h1.trans h.many
  unfold CS.next
  split
  · rename_i h0
    have h0 : d'.waits = [] := List.length_eq_zero_iff.1 h0
    exact ⟨hm, hm, (fun e he => by cases he), stand_none h0, by rw [h0]; rfl, fun k e he => by simp at he⟩
  · rename_i h0
    rcases h2 with ⟨e1, e2⟩ | ⟨s, e1, e2⟩ | e1
    · rw [if_neg (by rw [e1]; omega)]
      refine ⟨hm, h.lmany, h.wmany, by rw [e2]; exact h.stand, by rw [e1]; exact h.len, fun k e he => ?_⟩
      rw [h.each k e he]
      unfold D.upto
      rw [e1, e2]
    · rw [if_pos (by rw [e1]; simp)]
      have hst : d'.stand = d'.upto d'.waits.length := (upto_all _).symm
      refine ⟨hm, h.lmany, fun e he => ?_, by rw [e2]; exact h.stand, by rw [e1]; simp [h.len], fun k e he => ?_⟩
      · rcases List.mem_append.1 he with he | he
        · exact h.wmany e he
        · obtain rfl := List.mem_singleton.1 he; exact hm
      · by_cases hk : k < x.was.length
        · have he' : x.was[k]? = some e := by
            rw [← he]; exact (List.getElem?_append_left hk).symm
          rw [h.each k e he']
          unfold D.upto
          rw [e1, e2, List.take_append_of_le_length (by rw [← h.len]; omega)]
        · have hk2 : k < (x.was ++ [d']).length := (List.getElem?_eq_some_iff.1 he).1
          simp at hk2
          obtain rfl : k = x.was.length := by omega
          have he' : e = d' := by simpa using he.symm
          rw [he', hst, e1, h.len]
          simp
    · exact absurd (by rw [e1]; rfl) h0

theorem crashGo_none (c : Crash) (h1 : ∀ n i, c.isTorn n i = false) (h2 : ∀ i, c.kept i = false) (n : Nat) : ∀ (l : List Step) (i : Nat) (x : St) (en : Int → Bool), crashGo c n l i x en = x
  | [], _, _, _ => rfl
  | s :: l, i, x, en => by
    by_cases hk : s.what ≠ 1 ∧ en s.n = true
    · rw [crashGo_skip _ _ _ _ _ _ _ hk, crashGo_none c h1 h2 n l]
    · rw [crashGo_step _ _ _ _ _ _ _ hk, crashGo_none c h1 h2 n l]
      simp [crashX, h1, h2]

theorem crashGo_all (c : Crash) (h1 : ∀ n i, c.isTorn n i = false) (h2 : ∀ i, c.kept i = true) (n : Nat) : ∀ (l : List Step) (i : Nat) (x : St) (en : Int → Bool), (∀ t, en t = false) → crashGo c n l i x en = l.foldl St.done x
  | [], _, _, _, _ => rfl
  | s :: l, i, x, en, he => by
    have hk : ¬ (s.what ≠ 1 ∧ en s.n = true) := by rw [he]; simp
    rw [crashGo_step _ _ _ _ _ _ _ hk, crashGo_all c h1 h2 n l _ _ _ ?_]
    · simp [crashX, h1, h2]
    · intro t
      unfold crashE
      split
      · simp only [upd, h1, h2]
        split
        · rfl
        · exact he t
      · exact he t

def cNone : Crash := ⟨[], 0, -1⟩
def cAll : Crash := ⟨[true], 0, -1⟩

theorem crash_stand (d : D) (c : Crash) : (d.crash c).stand = crashGo c d.waits.length d.waits 0 d.lasts (fun _ => false) := rfl

theorem crash_none_stand (d : D) : (d.crash cNone).stand = d.lasts := by
  rw [crash_stand]
  exact crashGo_none cNone (fun n i => by simp [Crash.isTorn, cNone]) (fun i => by simp [Crash.kept, cNone]) _ _ _ _ _

theorem crash_all_stand (d : D) : (d.crash cAll).stand = d.stand := by
  rw [crash_stand]
  exact crashGo_all cAll (fun n i => by simp [Crash.isTorn, cAll]) (fun i => by simp [Crash.kept, cAll, Nat.mod_one]) _ _ _ _ _ (fun _ => rfl)

theorem crash_again (d : D) (c : Crash) : ((d.crash c).crash c).stand = (d.crash c).stand := by
  rw [crash_stand (d.crash c)]
  show crashGo c _ [] 0 _ _ = _
  rfl

/-- The sector of the torn step. -/
def TornAt (c : Crash) (d : D) (s : Int) : Prop := ∃ j st, d.waits[j]? = some st ∧ c.isTorn d.waits.length j = true ∧ st.what = 1 ∧ st.n = s

theorem torn_one {c : Crash} {d : D} {s s' : Int} (h : TornAt c d s) (h' : TornAt c d s') : s = s' := by
  obtain ⟨j, st, h1, h2, _, h4⟩ := h
  obtain ⟨j', st', h1', h2', _, h4'⟩ := h'
  simp only [Crash.isTorn, Bool.and_eq_true, decide_eq_true_eq] at h2 h2'
  obtain rfl : j = j' := by omega
  rw [h1] at h1'
  obtain rfl := Option.some.inj h1'
  exact h4.symm.trans h4'

theorem crash_secs (c : Crash) (d : D) : ∀ (l : List Step) (i : Nat) (x : St) (en : Int → Bool), d.waits.drop i = l → (∀ s, TornAt c d s ∨ ∃ k, k ≤ d.waits.length ∧ x.sec s = (d.upto k).sec s) →
    ∀ s, TornAt c d s ∨ ∃ k, k ≤ d.waits.length ∧ (crashGo c d.waits.length l i x en).sec s = (d.upto k).sec s
  | [], i, x, en, hl, h, s => h s
  | st :: l, i, x, en, hl, h, s => by
    have hs : d.waits[i]? = some st := by
      have := congrArg (·[0]?) hl
      simpa using this
    have hi : i < d.waits.length := (List.getElem?_eq_some_iff.1 hs).1
    have hl' : d.waits.drop (i + 1) = l := by
      rw [← List.drop_drop, hl]; rfl
    by_cases hk : st.what ≠ 1 ∧ en st.n = true
    · rw [crashGo_skip _ _ _ _ _ _ _ hk]
      exact crash_secs c d l (i + 1) x en hl' h s
    · rw [crashGo_step _ _ _ _ _ _ _ hk]
      refine crash_secs c d l (i + 1) _ _ hl' (fun s' => ?_) s
      rcases h s' with h0 | ⟨k, hk1, hk2⟩
      · exact Or.inl h0
      · by_cases ht : c.isTorn d.waits.length i = true
        · by_cases h1 : st.what = 1
          · by_cases hn : s' = st.n
            · exact Or.inl ⟨i, st, hs, ht, h1, hn.symm⟩
            · refine Or.inr ⟨k, hk1, ?_⟩
              simp only [crashX, ht, if_true, St.part, h1, St.done, upd, if_neg hn]
              exact hk2
          · refine Or.inr ⟨k, hk1, ?_⟩
            simp only [crashX, ht, if_true, St.part, if_neg h1]
            split
            · simp only [St.done]
              exact hk2
            · exact hk2
        · have ht' : c.isTorn d.waits.length i = false := by simpa using ht
          by_cases hkp : c.kept i = true
          · simp only [crashX, ht', hkp, if_true, Bool.false_eq_true, if_false]
            by_cases h1 : st.what = 1
            · by_cases hn : s' = st.n
              · refine Or.inr ⟨i + 1, by omega, ?_⟩
                rw [upto_succ hs]
                simp [St.done, h1, upd, hn]
              · refine Or.inr ⟨k, hk1, ?_⟩
                simp only [St.done, h1, if_true, upd, if_neg hn]
                exact hk2
            · refine Or.inr ⟨k, hk1, ?_⟩
              unfold St.done
              rw [if_neg h1]
              split <;> exact hk2
          · have hkp' : c.kept i = false := by simpa using hkp
            simp only [crashX, ht', hkp', Bool.false_eq_true, if_false]
            exact Or.inr ⟨k, hk1, hk2⟩

theorem len_one {l : List Nat} (hn : l.Nodup) (h : ∀ a ∈ l, ∀ b ∈ l, a = b) : l.length ≤ 1 := by
  match l, hn, h with
  | [], _, _ => simp
  | [_], _, _ => simp
  | a :: b :: l, hn, h =>
    have e := h a (by simp) b (by simp)
    simp [e] at hn

/-- Is what a crash left in a sector known? -/
def CS.knownS (x : CS) (b : List UInt8) (s : Int) (k : Nat) : Bool := (x.lasts.stand.sec s == b) || (x.was.take k).any (fun e => e.stand.sec s == b)
def CS.knownT (x : CS) (b : List UInt8) (t : Int) (k : Nat) : Bool := preB (x.lasts.stand.tp t) b || (x.was.take k).any (fun e => preB (e.stand.tp t) b)

theorem CS.known_upto {x : CS} (h : x.Inv) {P : St → Prop} {k : Nat} (hk : k ≤ x.d.waits.length) (hp : P (x.d.upto k)) : P x.lasts.stand ∨ ∃ e ∈ x.was, P e.stand := by
  cases k with
  | zero =>
    refine Or.inl ?_
    rw [h.stand]
    simpa [D.upto] using hp
  | succ k =>
    have hlt : k < x.was.length := by rw [h.len]; omega
    refine Or.inr ⟨x.was[k], List.getElem_mem hlt, ?_⟩
    rw [h.each k _ (List.getElem?_eq_getElem hlt)]
    exact hp

theorem CS.torn_le {x : CS} (h : x.Inv) (c : Crash) (n : Nat) : ((List.range n).filter (fun s : Nat => !x.knownS ((x.d.crash c).stand.sec (s : Int)) (s : Int) x.was.length)).length ≤ 1 := by
  refine len_one (List.nodup_range.filter _) (fun a ha b hb => ?_)
  have key : ∀ s : Nat, (!x.knownS ((x.d.crash c).stand.sec (s : Int)) (s : Int) x.was.length) = true → TornAt c x.d (s : Int) := by
    intro s hs
    have := crash_secs c x.d x.d.waits 0 x.d.lasts (fun _ => false) rfl (fun s => Or.inr ⟨0, Nat.zero_le _, by simp [D.upto]⟩) (s : Int)
    rcases this with h1 | ⟨k, hk, he⟩
    · exact h1
    · exfalso
      have hk2 : x.knownS ((x.d.crash c).stand.sec (s : Int)) (s : Int) x.was.length = true := by
        unfold CS.knownS
        rw [List.take_of_length_le (Nat.le_refl _)]
        rcases CS.known_upto h (P := fun y => y.sec (s : Int) = (x.d.crash c).stand.sec (s : Int)) hk he.symm with h1 | ⟨e, he1, he2⟩
        · simp [h1]
        · rw [Bool.or_eq_true]
          exact Or.inr (List.any_eq_true.2 ⟨e, he1, by simp [he2]⟩)
      rw [hk2] at hs
      cases hs
  have h1 := key a (List.mem_filter.1 ha).2
  have h2 := key b (List.mem_filter.1 hb).2
  have := torn_one h1 h2
  omega

theorem preB_of {l ll : List UInt8} (h : l <+: ll) : preB ll l = true := by
  unfold preB
  have := h.length_le
  rw [Bool.and_eq_true]
  refine ⟨by simpa using this, ?_⟩
  rw [List.prefix_iff_eq_take] at h
  rw [← h]
  simp

theorem CS.tapes_known {x : CS} (h : x.Inv) (ok : x.d.ok) (c : Crash) (t : Int) : x.knownT ((x.d.crash c).stand.tp t) t x.was.length = true := by
  obtain ⟨en, hc⟩ := CrInv.all ok c x.d.waits.length x.d.waits 0 x.d.lasts (fun _ => false) rfl (CrInv.start ok)
  obtain ⟨k, hk, hp⟩ := hc.pre t
  unfold CS.knownT
  rw [List.take_of_length_le (Nat.le_refl _)]
  rcases CS.known_upto h (P := fun y => (x.d.crash c).stand.tp t <+: y.tp t) hk hp with h1 | ⟨e, he1, he2⟩
  · rw [preB_of h1]; rfl
  · rw [Bool.or_eq_true]
    exact Or.inr (List.any_eq_true.2 ⟨e, he1, preB_of he2⟩)

end Go.Proofs.Ytiefhmbpaoecfaa
