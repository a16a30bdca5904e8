/-
  The law's 'is': a disk stands as the document's.
  Same, where there is no disk; what stays of none; 'act', whatever the call.
  DiskCrashes: the calls.
-/
import Derived.Test.YtiefhmbpaoecfaaG16
import Derived.Test.YtiefhmbpaoecfaaG17
import Derived.Test.YtiefhmbpaoecfaaG18
import Derived.Test.YtiefhmbpaoecfaaG20
import Derived.Test.YtiefhmbpaoecfaaG28
import Derived.Deep.LoopGhost

namespace Go.Proofs.Ytiefhmbpaoecfaa
open Go.RowKit Dm

theorem sectors_c {p m : Nat} {d : D} {F : Nat → Prop} {w : World} (x : DiskAt w.heap p m d F) : Calls Try.prog 26 #[.pointer (some ⟨p, 0, none⟩)] w fun e w' => e = .returned (.int .i64 d.many) ∧ w = w' :=
  sectors_at p d.many w x.cell16.1 x.cell16.2.1
theorem room_c {p m : Nat} {d : D} {F : Nat → Prop} {w : World} (x : DiskAt w.heap p m d F) : Calls Try.prog 27 #[.pointer (some ⟨p, 0, none⟩)] w fun e w' => e = .returned (.int .i64 d.room) ∧ w = w' :=
  room_at p d.room w x.cell16.1 x.cell16.2.2.1

set_option maxRecDepth 100000 in
set_option maxHeartbeats 8000000 in
theorem is_c {w : World} {p m : Nat} {F G : Nat → Prop} {v : Value} {d : D} (x : DiskAt w.heap p m d F) (hr : RefAt w.heap G v d) (hn : d.waits.length ≤ 1000000000000) :
    Calls Try.prog 30 #[.pointer (some ⟨p, 0, none⟩), v] w fun e w' => e = .returned (.bool true) ∧ Below w.heap.size w w' := by
  have ok := x.ok
  have hr0 := hr
  obtain ⟨rsv, rt0, rt1, rt2, rt3, rwv, rfl, rrb, rst⟩ := hr
  obtain ⟨rwa, rwc, rfl, _⟩ := rst.slice
  have hb0 : Below w.heap.size w (w.alloc (.cells (refC d.many d.room rsv rt0 rt1 rt2 rt3 (.slice rwa d.waits.length rwc) d.dead d.stops) tRDisk)) := (Below.refl _ _).alloc (Nat.le_refl _) _
  have r0 := heap_alloc_last w (.cells (refC d.many d.room rsv rt0 rt1 rt2 rt3 (.slice rwa d.waits.length rwc) d.dead d.stops) tRDisk)
  obtain ⟨W0, hW0⟩ : ∃ W0, w.alloc (.cells (refC d.many d.room rsv rt0 rt1 rt2 rt3 (.slice rwa d.waits.length rwc) d.dead d.stops) tRDisk) = W0 := ⟨_, rfl⟩
  rw [hW0] at hb0 r0
  have mid : ∀ X : World, Below W0.heap.size W0 X → X.cell? ⟨w.heap.size, 0, none⟩ = some (.int .i64 d.many) ∧ X.cell? ⟨w.heap.size, 1, none⟩ = some (.int .i64 d.room) ∧ X.cell? ⟨w.heap.size, 7, none⟩ = some (.slice rwa d.waits.length rwc) ∧ X.cell? ⟨w.heap.size, 8, none⟩ = some (.bool d.dead) := fun X hb => by
    have hX := (hb.block _ (lt_of_row r0)).trans r0
    exact ⟨row_cell hX rfl, row_cell hX rfl, row_cell hX rfl, row_cell hX rfl⟩
  have MID := Lib.hid mid
  have SD := Lib.hid (stands_c (hr0.keeps (h' := W0.heap) (F' := G) (fun k _ hl => hb0.block k hl) (fun _ h _ => h)) ok hn)
  generalize hC : refC d.many d.room rsv rt0 rt1 rt2 rt3 (.slice rwa d.waits.length rwc) d.dead d.stops = C at *
  have csz : C.size = 10 := by rw [← hC]; rfl
  have H0 := Lib.hid (And.intro hb0 (And.intro r0 csz))
  have X := Lib.hid (x.below hb0)
  have OK := Lib.hid (And.intro ok hn)
  clear mid rrb rst hb0 r0 x ok hn hr0 csz hC
  go_enter Try.func30, Try.ntmps30
  go_upto_region 1 with fail
  clear hW0
  go_upto_region 2 with (first
    | (refine wpList_load_row rfl tRDisk (.tmp 3) rfl w.heap.size rfl tRDisk C (0, 0) _ H0.out.2.1 Try.underlying42 rfl (by rw [infoRD, H0.out.2.2]) ?_)
    | (go_at_call 40; refine SD.out.mono ?_; rintro e X1 ⟨sv, t0, t1, t2, t3, rfl, hb1, rb1⟩
       have R1 := Lib.hid (And.intro hb1 rb1)
       clear hb1 rb1)
    | (refine wpList_store_abs rfl tRBytes (.tmp 5) (.tmp 15) rfl X1.heap.size #[sv, t0, t1, t2, t3] rfl rfl tRBytes bytes0 (heap_alloc_last X1 _) infoRB rfl R1.out.2.ones ?_
       intro W1 HW1 HM1 HS1))
  have hb01 : Below W0.heap.size W0 W1 := R1.out.1.trans (Moves.new ((Below.refl _ _).alloc (Nat.le_refl _) _) HM1 (Nat.le_refl _) |>.mono R1.out.1.size)
  have rb1 : RB W1.heap (fun _ => True) sv t0 t1 t2 t3 d.stand d.many := R1.out.2.keeps (fun k hk hl => HM1.block k (by simp; omega) (by omega) |>.trans (heap_old_own _ _ _ hl)) (fun _ _ _ => trivial)
  obtain ⟨secs, s1, s2, _, _, _, _⟩ := id rb1
  obtain ⟨sa, sc, rfl, hsc, hsc2⟩ := s1.slice
  have SS := Lib.hid (And.intro s1 s2)
  have hsl := s2.len OK.out.1.many1
  have hsl1 : (secs.length : Int) ≤ 4096 := by omega
  clear s1 s2
  have H1 := Lib.hid (And.intro hb01 (And.intro HW1.out rb1))
  have X1d := Lib.hid (X.out.below hb01)
  clear hb01 rb1 HM1 HS1 HW1 R1 SD
  generalize X1.heap.size = xb at *
  go_wp2
  go_loopg [6] 6 (fun g s wr => ∃ i : Int, s = .int .i64 i ∧ (g : Int) = 5 - i ∧ -1 ≤ i ∧ Below W1.heap.size W1 wr)
  case atStart => exact ⟨-1, rfl, by omega, by omega, Below.refl _ _⟩
  case round =>
    obtain ⟨i, rfl, hg, hi0, rel⟩ := hrel
    by_cases hlt : i < 5
    · have T1 := Lib.hid (tape_c (X1d.out.below rel) i)
      have REL := Lib.hid (And.intro rel hg)
      clear rel hg
      by_cases h3 : i < 0 ∨ i > 3
      · rw [if_pos h3, if_pos h3] at T1
        go_upto_region 6 with (go_at_call 19; refine T1.out.mono ?_; rintro e w2 ⟨v2, rfl, hb2, f2⟩)
        obtain ⟨ra, rc, rfl⟩ := f2.bytes.slice
        have F2 := Lib.hid hb2
        clear hb2 f2
        by_cases h0 : i < 0
        · clear h3
          go_wp2_with (go_at_call 9; refine (num_c _ _).mono ?_; rintro e w' ⟨rfl, rfl⟩)
          go_roundg (4 - i).toNat
          case measure => have := REL.out.2; omega
          case rel => exact ⟨i + 1, by go_num, by omega, by omega, REL.out.1.trans (F2.out.mono REL.out.1.size)⟩
        · have h4 : 3 < i := by omega
          clear h3
          go_wp2_with (go_at_call 9; refine (num_c _ _).mono ?_; rintro e w' ⟨rfl, rfl⟩)
          go_roundg (4 - i).toNat
          case measure => have := REL.out.2; omega
          case rel => exact ⟨i + 1, by go_num, by omega, by omega, REL.out.1.trans (F2.out.mono REL.out.1.size)⟩
      · rw [if_neg h3, if_neg h3] at T1
        obtain ⟨t, rfl, ht⟩ := natOf (n := i) (k := 3) (by omega) (by omega)
        have n0 : ¬ (t : Int) < 0 := by omega
        have n3 : ¬ 3 < (t : Int) := by omega
        have n4 : (t : Int) < 4 := by omega
        have n00 : (0 : Int) ≤ (t : Int) := by omega
        obtain ⟨tv, e1, e2⟩ := H1.out.2.2.tape t (by omega)
        have E := Lib.hid (And.intro e1 e2)
        clear h3 e1 e2
        go_upto_region 9 with (go_at_call 19; refine T1.out.mono ?_; rintro e w2 ⟨v2, rfl, hb2, f2⟩)
        have hb12 : Below W1.heap.size W1 w2 := REL.out.1.trans (hb2.mono REL.out.1.size)
        have kt : ∀ n, (w2.drewN n).cell? ⟨xb, 1 + t, none⟩ = some tv := fun n => row_cell (w := w2.drewN n) ((hb12.block _ (lt_of_row H1.out.2.1)).trans H1.out.2.1) E.out.1
        have c1 := fun n => run_string_of (w := w2.drewN n) f2.bytes
        have c2 := fun n => run_string_of (w := w2.drewN n) (E.out.2.below (below_drewN hb12 n))
        obtain ⟨ra, rc, rfl⟩ := f2.bytes.slice
        obtain ⟨ta, tc, rfl⟩ := E.out.2.slice
        have F2 := Lib.hid hb12
        clear hb2 f2 hb12
        go_quiet ((go_at_call 9; exact Calls.quiet_of_same ((num_c _ _).mono fun e w' h => ⟨h.1, h.2.symm⟩)))
        go_wp2
        go_roundg (4 - (t : Int)).toNat
        case measure => have := REL.out.2; omega
        case rel => exact ⟨(t : Int) + 1, by go_num, by omega, by omega, below_drewN F2.out _⟩
    · obtain rfl : i = 5 := by omega
      obtain ⟨wo, ewo⟩ : ∃ wo, wo = wr := ⟨_, rfl⟩
      subst ewo
      have R0 := Lib.hid rel
      clear rel hg
      have kS0 : wo.cell? ⟨xb, 0, none⟩ = some (.slice sa secs.length sc) := row_cell ((R0.out.block _ (lt_of_row H1.out.2.1)).trans H1.out.2.1) rfl
      go_wp2
      go_loopg [9] secs.length (fun g s wr => ∃ k : Nat, s = .int .i64 (k : Int) ∧ g + k = secs.length ∧ Below W1.heap.size W1 wr)
      case atStart => exact ⟨0, rfl, rfl, R0.out⟩
      case round =>
        obtain ⟨k, rfl, hg, rel⟩ := hrel
        have kS : wr.cell? ⟨xb, 0, none⟩ = some (.slice sa secs.length sc) := row_cell ((rel.block _ (lt_of_row H1.out.2.1)).trans H1.out.2.1) rfl
        by_cases hlt : k < secs.length
        · obtain ⟨e, he⟩ : ∃ e, secs[k]? = some e := ⟨_, List.getElem?_eq_getElem hlt⟩
          obtain ⟨n, l⟩ := e
          obtain ⟨b, o, uk, rfl, hr2, e1, e2, e3⟩ : ∃ b o uk, sa = some ⟨b, o, none⟩ ∧ b < W1.heap.size ∧ W1.cell? ⟨b, o + k * 2, none⟩ = some (.int .i64 n) ∧ W1.cell? ⟨b, o + k * 2 + 1, none⟩ = some uk ∧ BytesAt W1.heap (fun _ => True) uk l := by
            rcases SS.out.1 with ⟨h1, h2⟩ | ⟨b, o, cap, c', tt, fr, h1, h2, h3, g2, g3, g4⟩
            · rw [h2] at hlt; simp at hlt
            · obtain ⟨uk, q1, q2, q3⟩ := g4 k n l he
              exact ⟨b, o, uk, (Value.slice.inj h1).1, lt_of_row g3, row_cell g3 q1, row_cell g3 q2, q3⟩
          have ent := SS.out.2.ent (n, l) (List.mem_of_getElem? he)
          have el : l = d.stand.sec n := ent.1
          have en0 : 0 ≤ n := ent.2.1
          have en1 : n < d.many := ent.2.2
          have k2 : wr.cell? ⟨b, o + k * 2, none⟩ = some (.int .i64 n) := (rel.cell (p := ⟨b, o + k * 2, none⟩) hr2).trans e1
          have RD := Lib.hid (read_c (X1d.out.below rel) n)
          rw [if_neg (by omega), if_neg (by omega), ← el] at RD
          have hk0 : (0 : Int) ≤ (k : Int) := by omega
          have hk1 : (k : Int) < (secs.length : Int) := by omega
          have REL := Lib.hid (And.intro rel (And.intro hg (And.intro e2 (And.intro e3 hr2))))
          clear rel hg e1 e2 e3 el ent he hr2
          go_upto_region 15 with (go_at_call 17; refine RD.out.mono ?_; rintro e w2 ⟨v2, rfl, hb2, f2⟩)
          have hb12 : Below W1.heap.size W1 w2 := REL.out.1.trans (hb2.mono REL.out.1.size)
          have kS2 : ∀ n, (w2.drewN n).cell? ⟨xb, 0, none⟩ = some (.slice (some ⟨b, o, none⟩) secs.length sc) := fun n => row_cell (w := w2.drewN n) ((hb12.block _ (lt_of_row H1.out.2.1)).trans H1.out.2.1) rfl
          have ku : ∀ n, (w2.drewN n).cell? ⟨b, o + k * 2 + 1, none⟩ = some uk := fun n => ((below_drewN hb12 n).cell (p := ⟨b, o + k * 2 + 1, none⟩) REL.out.2.2.2.2).trans REL.out.2.2.1
          have c1 := fun n => run_string_of (w := w2.drewN n) f2.bytes
          have c2 := fun n => run_string_of (w := w2.drewN n) (REL.out.2.2.2.1.below (below_drewN hb12 n))
          obtain ⟨ra, rc, rfl⟩ := f2.bytes.slice
          obtain ⟨ta, tc, rfl⟩ := REL.out.2.2.2.1.slice
          have F2 := Lib.hid hb12
          clear hb2 f2 hb12 k2 kS
          go_quiet ((go_at_call 9; exact Calls.quiet_of_same ((num_c _ _).mono fun e w' h => ⟨h.1, h.2.symm⟩)))
          go_wp2
          go_roundg (secs.length - (k + 1))
          case measure => have := REL.out.2.1; omega
          case rel => exact ⟨k + 1, by go_num, by have := REL.out.2.1; omega, below_drewN F2.out _⟩
        · obtain rfl : k = secs.length := by omega
          obtain ⟨wo, ewo⟩ : ∃ wo, wo = wr := ⟨_, rfl⟩
          subst ewo
          have RE := Lib.hid rel
          clear rel hg kS0
          have hb0o : Below W0.heap.size W0 wo := H1.out.1.trans (RE.out.mono H1.out.1.size)
          have m0 := (MID.out wo hb0o).1
          have RD := Lib.hid (read_c (X1d.out.below RE.out) d.many)
          rw [if_pos (Or.inr (by omega)), if_pos (Or.inr (by omega))] at RD
          have B0 := Lib.hid hb0o
          clear hb0o
          go_upto_region 18 with (go_at_call 17; refine RD.out.mono ?_; rintro e w2 ⟨v2, rfl, hb2, f2⟩)
          have hb12 : Below W1.heap.size W1 w2 := RE.out.trans (hb2.mono RE.out.size)
          have hb02 : Below W0.heap.size W0 w2 := B0.out.trans (hb2.mono B0.out.size)
          have XD := Lib.hid (X1d.out.below hb12)
          have x0 : ∀ x : Wd (Below w2.heap.size w2), x.world.cell? ⟨w.heap.size, 0, none⟩ = some (.int .i64 d.many) := fun x => (MID.out x.world (hb02.trans (x.ok.mono hb02.size))).1
          have x1 : ∀ x : Wd (Below w2.heap.size w2), x.world.cell? ⟨w.heap.size, 1, none⟩ = some (.int .i64 d.room) := fun x => (MID.out x.world (hb02.trans (x.ok.mono hb02.size))).2.1
          have x7 : ∀ x : Wd (Below w2.heap.size w2), x.world.cell? ⟨w.heap.size, 7, none⟩ = some (.slice rwa d.waits.length rwc) := fun x => (MID.out x.world (hb02.trans (x.ok.mono hb02.size))).2.2.1
          have x8 : ∀ x : Wd (Below w2.heap.size w2), x.world.cell? ⟨w.heap.size, 8, none⟩ = some (.bool d.dead) := fun x => (MID.out x.world (hb02.trans (x.ok.mono hb02.size))).2.2.2
          have LD : Hid (∀ w', (∃ x : Wd (Below w2.heap.size w2), w' = x.world) → (Instr.loadAt tRBytes (.pointer (some ⟨xb, 0, none⟩))).run Try.prog w' = .ok (.agg #[.slice sa secs.length sc, t0, t1, t2, t3]) w') := by
            rintro w' ⟨x, rfl⟩
            have hb1x : Below W1.heap.size W1 x.world := hb12.trans (x.ok.mono hb12.size)
            exact run_loadAt_row ((hb1x.block _ (lt_of_row H1.out.2.1)).trans H1.out.2.1) Try.underlying39 rfl infoRB
          have ne : Nonempty (Wd (Below w2.heap.size w2)) := ⟨⟨_, Below.refl _ _⟩⟩
          have B2 := Lib.hid (And.intro hb12 hb02)
          clear hb2 f2 hb12 hb02 m0
          refine wp_region_hoist (fun w' => ∃ x : Wd (Below w2.heap.size w2), w' = x.world) [] (by kernel_rfl) ?_
          refine wpAnyI_reads [0] 39 _ ⟨⟨_, (Below.refl _ _).drew⟩, rfl⟩ (by kernel_rfl) ?_
          simp only [List.filterMap_cons, List.filterMap_nil, List.getElem?_toArray, List.getElem?_cons_succ, List.getElem?_cons_zero]
          repeat (refine wpHoist_step (fun K hK => ?_); simp only [hoists, sameUpon]; go_simp; refine hK _ ?_; clear hK K)
          refine wpHoist_nil ?_
          refine wpAnyI_one 1 38 _ _ rfl (by kernel_rfl) ?_
          refine wpList_plain rfl fun K hK => ?_
          go_simp
          go_at_call 9
          refine (num_c _ _).mono ?_
          rintro e w' ⟨rfl, rfl⟩
          refine hK _ _ (wpList_nil ⟨rfl, fun _ => ⟨⟨_, (Below.refl _ _).drew⟩, rfl⟩, ?_⟩)
          clear hK K
          refine wpAnyI_reads [2, 3, 4, 6, 7] 33 _ ⟨⟨_, (Below.refl _ _).drew⟩, rfl⟩ (by kernel_rfl) ?_
          simp only [List.filterMap_cons, List.filterMap_nil, List.getElem?_toArray, List.getElem?_cons_succ, List.getElem?_cons_zero]
          repeat (refine wpHoist_step (fun K hK => ?_); simp only [hoists, sameUpon]; go_simp; refine hK _ ?_; clear hK K)
          refine wpHoist_nil ?_
          refine wpAnyI_one 5 32 _ _ rfl (by kernel_rfl) ?_
          refine wpList_step fun K hK => ?_
          go_simp
          go_at_call 26
          refine (sectors_c (w := w2.drew) XD.out).mono ?_
          rintro e w' ⟨rfl, rfl⟩
          refine hK _ _ (wpList_nil ⟨rfl, fun _ => ⟨⟨_, (Below.refl _ _).drew⟩, rfl⟩, ?_⟩)
          clear hK K
          refine wpAnyI_reads [8, 9, 10, 11, 13, 14] 26 _ ⟨⟨_, (Below.refl _ _).drew⟩, rfl⟩ (by kernel_rfl) ?_
          simp only [List.filterMap_cons, List.filterMap_nil, List.getElem?_toArray, List.getElem?_cons_succ, List.getElem?_cons_zero]
          repeat (refine wpHoist_step (fun K hK => ?_); simp only [hoists, sameUpon]; go_simp; refine hK _ ?_; clear hK K)
          refine wpHoist_nil ?_
          refine wpAnyI_one 12 25 _ _ rfl (by kernel_rfl) ?_
          refine wpList_step fun K hK => ?_
          go_simp
          go_at_call 27
          refine (room_c (w := w2.drew) XD.out).mono ?_
          rintro e w' ⟨rfl, rfl⟩
          refine hK _ _ (wpList_nil ⟨rfl, fun _ => ⟨⟨_, (Below.refl _ _).drew⟩, rfl⟩, ?_⟩)
          clear hK K
          refine wpAnyI_reads [15, 16, 17, 18, 20] 20 _ ⟨⟨_, (Below.refl _ _).drew⟩, rfl⟩ (by kernel_rfl) ?_
          simp only [List.filterMap_cons, List.filterMap_nil, List.getElem?_toArray, List.getElem?_cons_succ, List.getElem?_cons_zero]
          refine wpHoist_step (fun K hK => ?_); simp only [hoists, sameUpon]; go_simp; refine hK _ ?_; clear hK K
          refine wpHoist_step (fun K hK => ?_); simp only [hoists, sameUpon]; go_simp; refine hK _ ?_; clear hK K
          refine wpHoist_step (fun K hK => ?_); simp only [hoists, sameUpon]; go_simp; refine hK _ ?_; clear hK K
          refine wpHoist_step (fun K hK => ?_); simp only [hoists, sameUpon]; go_simp; refine hK _ ?_; clear hK K
          refine wpHoist_load_guard (by go_simp) tRBytes (.tmp 5) rfl _ LD.out ?_
          refine wpHoist_nil ?_
          refine wpAnyI_one 19 19 _ _ rfl (by kernel_rfl) ?_
          refine wpList_step fun K hK => ?_
          go_simp
          go_at_call 28
          refine (usedD_c (w := w2.drew) XD.out).mono ?_
          rintro e w3 ⟨rfl, hb3⟩
          have hb3' : Below w2.heap.size w2 w3 := (Below.refl _ _).drew.trans hb3
          refine hK _ _ (wpList_nil ⟨rfl, fun _ => ⟨⟨_, hb3'⟩, rfl⟩, ?_⟩)
          clear hK K
          refine wpAnyI_one 21 18 _ _ rfl (by kernel_rfl) ?_
          refine wpList_step fun K hK => ?_
          go_simp
          go_at_call 56
          refine (rused_c (w := w3) (H1.out.2.2.keeps (F' := fun _ => True) (fun k _ hl => (B2.out.1.trans (hb3'.mono B2.out.1.size)).block k hl) (fun _ _ _ => trivial)) (stand_len OK.out.1)).mono ?_
          rintro e w4 ⟨rfl, hb4⟩
          have hb4' : Below w2.heap.size w2 w4 := hb3'.trans (hb4.mono hb3'.size)
          refine hK _ _ (wpList_nil ⟨rfl, fun _ => ⟨⟨_, hb4'⟩, rfl⟩, ?_⟩)
          clear hK K
          clear hb3 hb4 hb3'
          refine wpAnyI_reads [22, 23, 24, 25, 27, 28, 29] 11 _ ⟨⟨_, hb4'⟩, rfl⟩ (by kernel_rfl) ?_
          simp only [List.filterMap_cons, List.filterMap_nil, List.getElem?_toArray, List.getElem?_cons_succ, List.getElem?_cons_zero]
          repeat (refine wpHoist_step (fun K hK => ?_); simp only [hoists, sameUpon]; go_simp; refine hK _ ?_; clear hK K)
          refine wpHoist_nil ?_
          refine wpAnyI_one 26 10 _ _ rfl (by kernel_rfl) ?_
          refine wpList_step fun K hK => ?_
          go_simp
          go_at_call 12
          refine (waits_c (w := w4) (XD.out.below hb4')).mono ?_
          rintro e w' ⟨rfl, rfl⟩
          refine hK _ _ (wpList_nil ⟨rfl, fun _ => ⟨⟨_, hb4'⟩, rfl⟩, ?_⟩)
          clear hK K
          refine wpAnyI_reads [30, 31, 32, 33, 35, 36] 4 _ ⟨⟨_, hb4'⟩, rfl⟩ (by kernel_rfl) ?_
          simp only [List.filterMap_cons, List.filterMap_nil, List.getElem?_toArray, List.getElem?_cons_succ, List.getElem?_cons_zero]
          repeat (refine wpHoist_step (fun K hK => ?_); simp only [hoists, sameUpon]; go_simp; refine hK _ ?_; clear hK K)
          refine wpHoist_nil ?_
          refine wpAnyI_one 34 3 _ _ rfl (by kernel_rfl) ?_
          refine wpList_step fun K hK => ?_
          go_simp
          go_at_call 16
          refine (dead_c (w := w4) (XD.out.below hb4')).mono ?_
          rintro e w' ⟨rfl, rfl⟩
          refine hK _ _ (wpList_nil ⟨rfl, fun _ => ⟨⟨_, hb4'⟩, rfl⟩, ?_⟩)
          clear hK K
          have FIN := Lib.hid (H0.out.1.trans ((B2.out.2.trans (hb4'.mono B2.out.2.size)).mono H0.out.1.size))
          refine wpAnyI_reads [37, 38, 39] 0 _ ⟨⟨_, hb4'⟩, rfl⟩ (by kernel_rfl) ?_
          simp only [List.filterMap_cons, List.filterMap_nil, List.getElem?_toArray, List.getElem?_cons_succ, List.getElem?_cons_zero]
          repeat (refine wpHoist_step (fun K hK => ?_); simp only [hoists, sameUpon]; go_simp; refine hK _ ?_; clear hK K)
          refine wpHoist_nil ?_
          refine ⟨by kernel_rfl, ?_⟩
          go_wp2
          go_ret
          exact ⟨rfl, FIN.out⟩

end Go.Proofs.Ytiefhmbpaoecfaa

namespace Go.Proofs.Ytiefhmbpaoecfaa
open Go.RowKit Dm

theorem none_live {p m : Nat} {d : D} {F : Nat → Prop} {w : World} (x : DiskAt w.heap p m d F) : Calls Try.prog 33 #[.pointer (some ⟨p, 0, none⟩)] w fun e w' => e = .returned (.bool false) ∧ w = w' :=
  none_at p true w x.cell16.1

theorem same_nones {w : World} {v v' : Value} (h : NoneD w v) (h' : NoneD w v') : Calls Try.prog 29 #[v, v'] w fun e w' => e = .returned (.bool true) ∧ w = w' := by
  have H := Lib.hid h
  have H' := Lib.hid h'
  clear h h'
  go_enter Try.func29, Try.ntmps29
  go_wp2_with (first
    | (go_at_call 33; (with_reducible refine (none_c H.out).mono ?_); rintro e w' ⟨rfl, rfl⟩)
    | (go_at_call 33; (with_reducible refine (none_c H'.out).mono ?_); rintro e w' ⟨rfl, rfl⟩))
  go_ret
  exact ⟨rfl, rfl⟩

theorem same_left {w : World} {v : Value} {p m : Nat} {d : D} {F : Nat → Prop} (h : NoneD w v) (x : DiskAt w.heap p m d F) : Calls Try.prog 29 #[v, .pointer (some ⟨p, 0, none⟩)] w fun e w' => e = .returned (.bool false) ∧ w = w' := by
  have H := Lib.hid h
  have X := Lib.hid x
  clear h x
  go_enter Try.func29, Try.ntmps29
  go_wp2_with (first
    | (go_at_call 33; (with_reducible refine (none_live X.out).mono ?_); rintro e w' ⟨rfl, rfl⟩)
    | (go_at_call 33; (with_reducible refine (none_c H.out).mono ?_); rintro e w' ⟨rfl, rfl⟩))
  go_ret
  exact ⟨rfl, rfl⟩

theorem same_right {w : World} {v : Value} {p m : Nat} {d : D} {F : Nat → Prop} (h : NoneD w v) (x : DiskAt w.heap p m d F) : Calls Try.prog 29 #[.pointer (some ⟨p, 0, none⟩), v] w fun e w' => e = .returned (.bool false) ∧ w = w' := by
  have H := Lib.hid h
  have X := Lib.hid x
  clear h x
  go_enter Try.func29, Try.ntmps29
  go_wp2_with (first
    | (go_at_call 33; (with_reducible refine (none_live X.out).mono ?_); rintro e w' ⟨rfl, rfl⟩)
    | (go_at_call 33; (with_reducible refine (none_c H.out).mono ?_); rintro e w' ⟨rfl, rfl⟩))
  go_ret
  exact ⟨rfl, rfl⟩

/-- None stays none while a disk's blocks change. -/
theorem NoneD.moves {w w' : World} {v : Value} {p m : Nat} {d : D} {F : Nat → Prop} (h : NoneD w v) (x : DiskAt w.heap p m d F) (hm : Moves (fun k => k = p ∨ k = m) w w') : NoneD w' v := by
  rcases h with h | ⟨q, h1, h2⟩
  · exact Or.inl h
  · refine Or.inr ⟨q, h1, ?_⟩
    have hq : q < w.heap.size := block_lt_of_cell h2
    have np : q ≠ p := fun e => by subst e; rw [x.cell16.1] at h2; cases h2
    have nm : q ≠ m := fun e => by
      subst e
      obtain ⟨ml, l0, l1, l2, l3, wv, stops, after, ⟨t0, t1, t2, t3, c1, c4, _⟩, _⟩ := x.parts
      obtain ⟨es, cl, g, _⟩ := c4
      unfold World.cell? at h2
      simp only [g] at h2
      cases h2
    rw [World.cell?_of_block (w := w) (a := ⟨q, 16, none⟩) (hm.block q hq (by omega))]
    exact h2

theorem NoneD.stays {w w' : World} {v : Value} {g : Nat} {C : Array Value} {t : TypeId} {fr : Nat × Nat} (h : NoneD w v) (hg : w.heap[g]? = some (.cells C t fr)) (hC : C.size ≤ 16) (hm : Moves (fun k => k = g) w w') : NoneD w' v := by
  rcases h with h | ⟨q, h1, h2⟩
  · exact Or.inl h
  · refine Or.inr ⟨q, h1, ?_⟩
    have hq : q < w.heap.size := block_lt_of_cell h2
    have np : q ≠ g := fun e => by
      subst e
      rw [cell_of_row _ _ _ _ _ _ hg, Array.getElem?_eq_none (by omega)] at h2
      cases h2
    rw [World.cell?_of_block (w := w) (a := ⟨q, 16, none⟩) (hm.block q hq np)]
    exact h2

/-- A load behind a guard that is met. -/
theorem wpList_load_wanted {P : Program} {ops : Array Oper} {rest : List Oper} {o : Oper} {a : Act} {w : World} {Q : Exit → Act → World → Prop} (hw : Region.wanted o (yielded ops a.tmps) = true) (ty : TypeId) (x : Operand) (ho : o.op = .load ty x) (v : Value)
    (hrun : (Instr.loadAt ty (a.eval x)).run P w = .ok v w) (h : wpList P ops Q rest (a.put o.dst v) w) : wpList P ops Q (o :: rest) a w :=
  wpList_step fun K hK => by
    simp only [hw, if_true]
    unfold Oper.wp execOp
    simp only [ho, Sem.run_bind, hrun, Result.andThen_ok, Sem.run_pure]
    exact hK _ _ h

/-- What a call of the law leaves. -/
def ActAny (w : World) (p m : Nat) (F : Nat → Prop) (d' : D) (e : Ending) (w' : World) : Prop :=
  ∃ p' m' v' F', e = .returned (.tuple #[.pointer (some ⟨p', 0, none⟩), v', .bool true]) ∧ Moves (fun k => k = p ∨ k = m) w w' ∧ DiskAt w'.heap p' m' d' F' ∧ RefAt w'.heap F' v' d' ∧ (∀ k, F' k → (F k ∧ k < w.heap.size) ∨ (w.heap.size ≤ k ∧ k < w'.heap.size)) ∧
    ((p' = p ∧ m' = m) ∨ (w.heap.size ≤ p' ∧ w.heap.size ≤ m'))

def dNext (d : D) (y : ActM) : D := if y.what = 5 then d.crash y.crash else actD d y

theorem act_any {w : World} {p m : Nat} {F G : Nat → Prop} {v : Value} {d : D} (x : DiskAt w.heap p m d F) (hr : RefAt w.heap F v d) (hn : d.waits.length ≤ 1000000000) (y : ActM) (ok : y.ok) {bv : Value} (hv : BytesIn w.heap G bv y.b) (hl : y.b.length ≤ 1048576) {kv : Value} (hk : BoolsAt w.heap kv y.crash.keep) (hkl : y.crash.keep.length ≤ 1000000) :
    Calls Try.prog 13 #[.pointer (some ⟨p, 0, none⟩), v, .agg (actC y.what y.sec y.n bv y.raw kv y.crash.torn y.crash.part)] w (ActAny w p m F (dNext d y)) := by
  by_cases h5 : y.what = 5
  · unfold dNext
    rw [if_pos h5, h5]
    refine (act_crash x hr hn y.sec y.n bv y.raw y.crash hk hkl ok.torn.1 ok.torn.2 ok.part.1 ok.part.2).mono ?_
    rintro e w' ⟨p', m', v', F', rfl, hb, hp, hm, x', r', hF⟩
    exact ⟨p', m', v', F', rfl, Moves.of_below hb, x', r', hF, Or.inr ⟨hp, hm⟩⟩
  · unfold dNext
    rw [if_neg h5]
    refine (act_c x hr hn y ok h5 hv hl kv).mono ?_
    rintro e w' ⟨v', F', rfl, hm, x', r', hF⟩
    exact ⟨p, m, v', F', rfl, hm, x', r', hF, Or.inl ⟨rfl, rfl⟩⟩

end Go.Proofs.Ytiefhmbpaoecfaa

namespace Go.Proofs.Ytiefhmbpaoecfaa
open Go.RowKit Dm

/-- An act's cells, to be loaded whole. -/
theorem ActsAt.row {w : World} {v : Value} {l : List ActM} (x : ActsAt w.heap v l) {i : Nat} {y : ActM} (hi : l[i]? = some y) : ∃ b o cap bv kv, v = .slice (some ⟨b, o, none⟩) l.length cap ∧ b < w.heap.size ∧
    w.rangeAt b (o + i * 8) [.int .i64 y.what, .int .i64 y.sec, .int .i64 y.n, bv, .bool y.raw, kv, .int .i64 y.crash.torn, .int .i64 y.crash.part] ∧ BytesIn w.heap (fun _ => True) bv y.b ∧ BoolsAt w.heap kv y.crash.keep ∧ y.ok := by
  rcases x with ⟨_, rfl⟩ | ⟨b, o, cap, c, t, fr, h1, h2, h3⟩
  · simp at hi
  · obtain ⟨bv, kv, e0, e1, e2, e3, e4, e5, e6, e7, e8, e9, e10⟩ := h3 i y hi
    refine ⟨b, o, cap, bv, kv, h1, lt_of_row h2, fun j u hj => ?_, e8, e9, e10⟩
    rw [cell_of_row _ _ _ _ _ _ h2]
    match j, hj with
    | 0, hj => cases hj; exact e0
    | 1, hj => cases hj; exact e1
    | 2, hj => cases hj; exact e2
    | 3, hj => cases hj; exact e3
    | 4, hj => cases hj; exact e4
    | 5, hj => cases hj; exact e5
    | 6, hj => cases hj; exact e6
    | 7, hj => cases hj; exact e7
    | n + 8, hj => cases hj

theorem infoAct : (Try.prog.info? tAct).map (·.size) = some 8 := by kernel_rfl
theorem infoPtr : (Try.prog.info? tPtr).map (fun i => (i.zero, i.size, i.bytes)) = some (some (.pointer none), 1, 8) := by kernel_rfl

theorem fewB_small {l : List ActM} {most : Int} (h : fewB l most = true) : (∀ y ∈ l, y.small = true) ∧ (l.length : Int) ≤ most := by
  simp only [fewB, Bool.and_eq_true, decide_eq_true_eq, List.all_eq_true] at h
  exact h

set_option maxRecDepth 100000 in
/-- Too many calls: only the chapter's rows. -/
theorem crashes_many {v kv : Value} {l : List ActM} {c : Crash} {w : World} (hv : ActsAt w.heap v l) (hk : BoolsAt w.heap kv c.keep) (hl : l.length ≤ 9223372036854775807) (hkl : c.keep.length ≤ 9223372036854775807) (hf : fewB l 30 = false ∨ ¬ c.keep.length ≤ 40) :
    Calls Try.prog 3 #[v, .agg #[kv, .int .i64 c.torn, .int .i64 c.part]] w fun e w' => e = .returned (.bool true) ∧ Below w.heap.size w w' := by
  obtain ⟨ka, kcap, rfl⟩ := hk.slice
  have hb0 : Below w.heap.size w (w.alloc (.cells #[.slice ka c.keep.length kcap, .int .i64 c.torn, .int .i64 c.part] tCrash)) := (Below.refl _ _).alloc (Nat.le_refl _) _
  have FW := Lib.hid (few_c (hv.keeps (fun k hl => hb0.block k hl)) 30 hl)
  have WK := Lib.hid (works_c (w.alloc (.cells #[.slice ka c.keep.length kcap, .int .i64 c.torn, .int .i64 c.part] tCrash)))
  have HB := Lib.hid hb0
  have hkl1 : (c.keep.length : Int) ≤ 9223372036854775807 := by omega
  clear hv hk hb0
  by_cases h1 : fewB l 30 = true
  · have h2 : ¬ c.keep.length ≤ 40 := by rcases hf with h | h; rw [h1] at h; cases h; exact h
    rw [h1] at FW
    generalize c.keep.length = n at *
    clear h1 hf
    have h3 : 40 < n := by omega
    go_enter Try.func3, Try.ntmps3
    go_wp2_with (first
      | (go_at_call 6; refine FW.out.mono ?_; rintro e w' ⟨rfl, rfl⟩)
      | (go_at_call 7; refine WK.out.mono ?_; rintro e w2 ⟨rfl, hb2⟩))
    go_ret
    exact ⟨rfl, HB.out.trans (hb2.mono HB.out.size)⟩
  · have h1' : fewB l 30 = false := by simpa using h1
    rw [h1'] at FW
    clear h1 h1' hf
    go_enter Try.func3, Try.ntmps3
    go_wp2_with (first
      | (go_at_call 6; refine FW.out.mono ?_; rintro e w' ⟨rfl, rfl⟩)
      | (go_at_call 7; refine WK.out.mono ?_; rintro e w2 ⟨rfl, hb2⟩))
    go_ret
    exact ⟨rfl, HB.out.trans (hb2.mono HB.out.size)⟩

end Go.Proofs.Ytiefhmbpaoecfaa
