/-
  The law's 'is': a disk stands as the document's.
  Same, where there is no disk; what stays of none; 'act', whatever the call.
  disk.Same of two disks.
-/
import Derived.Test.YtiefhmbpaoecfaaG11
import Derived.Test.YtiefhmbpaoecfaaG17
import Derived.Test.YtiefhmbpaoecfaaG18
import Derived.Test.YtiefhmbpaoecfaaG19
import Derived.Test.YtiefhmbpaoecfaaG21
import Derived.Test.YtiefhmbpaoecfaaG29
import Derived.Deep.LoopGhost

namespace Go.Proofs.Ytiefhmbpaoecfaa
open Go.RowKit Dm

theorem sectors_c {p m : Nat} {d : D} {F : Nat → Prop} {w : World} (x : DiskAt w.heap p m d F) : Calls Try.prog 26 #[.pointer (some ⟨p, 0, none⟩)] w fun e w' => e = .returned (.int .i64 d.many) ∧ w = w' :=
  sectors_at p d.many w x.cell16.1 x.cell16.2.1
theorem room_c {p m : Nat} {d : D} {F : Nat → Prop} {w : World} (x : DiskAt w.heap p m d F) : Calls Try.prog 27 #[.pointer (some ⟨p, 0, none⟩)] w fun e w' => e = .returned (.int .i64 d.room) ∧ w = w' :=
  room_at p d.room w x.cell16.1 x.cell16.2.2.1

set_option maxRecDepth 100000 in
set_option maxHeartbeats 8000000 in
theorem is_c {w : World} {p m : Nat} {F G : Nat → Prop} {v : Value} {d : D} (x : DiskAt w.heap p m d F) (hr : RefAt w.heap G v d) (hn : d.waits.length ≤ 1000000000000) :
    Calls Try.prog 30 #[.pointer (some ⟨p, 0, none⟩), v] w fun e w' => e = .returned (.bool true) ∧ Below w.heap.size w w' := by
  have ok := x.ok
  have hr0 := hr
  obtain ⟨rsv, rt0, rt1, rt2, rt3, rwv, rfl, rrb, rst⟩ := hr
  obtain ⟨rwa, rwc, rfl, _⟩ := rst.slice
  have hb0 : Below w.heap.size w (w.alloc (.cells (refC d.many d.room rsv rt0 rt1 rt2 rt3 (.slice rwa d.waits.length rwc) d.dead d.stops) tRDisk)) := (Below.refl _ _).alloc (Nat.le_refl _) _
  have r0 := heap_alloc_last w (.cells (refC d.many d.room rsv rt0 rt1 rt2 rt3 (.slice rwa d.waits.length rwc) d.dead d.stops) tRDisk)
  obtain ⟨W0, hW0⟩ : ∃ W0, w.alloc (.cells (refC d.many d.room rsv rt0 rt1 rt2 rt3 (.slice rwa d.waits.length rwc) d.dead d.stops) tRDisk) = W0 := ⟨_, rfl⟩
  rw [hW0] at hb0 r0
  have mid : ∀ X : World, Below W0.heap.size W0 X → X.cell? ⟨w.heap.size, 0, none⟩ = some (.int .i64 d.many) ∧ X.cell? ⟨w.heap.size, 1, none⟩ = some (.int .i64 d.room) ∧ X.cell? ⟨w.heap.size, 7, none⟩ = some (.slice rwa d.waits.length rwc) ∧ X.cell? ⟨w.heap.size, 8, none⟩ = some (.bool d.dead) := fun X hb => by
    have hX := (hb.block _ (lt_of_row r0)).trans r0
    exact ⟨row_cell hX rfl, row_cell hX rfl, row_cell hX rfl, row_cell hX rfl⟩
  have MID := Lib.hid mid
  have SD := Lib.hid (stands_c (hr0.keeps (h' := W0.heap) (F' := G) (fun k _ hl => hb0.block k hl) (fun _ h _ => h)) ok hn)
  generalize hC : refC d.many d.room rsv rt0 rt1 rt2 rt3 (.slice rwa d.waits.length rwc) d.dead d.stops = C at *
  have csz : C.size = 10 := by rw [← hC]; rfl
  have H0 := Lib.hid (And.intro hb0 (And.intro r0 csz))
  have X := Lib.hid (x.below hb0)
  have OK := Lib.hid (And.intro ok hn)
  clear mid rrb rst hb0 r0 x ok hn hr0 csz hC
  go_enter Try.func30, Try.ntmps30
  go_upto_region 1 with fail
  clear hW0
  go_upto_region 2 with (first
    | (refine wpList_load_row rfl tRDisk (.tmp 3) rfl w.heap.size rfl tRDisk C (0, 0) _ H0.out.2.1 Try.underlying42 rfl (by rw [infoRD, H0.out.2.2]) ?_)
    | (go_at_call 40; refine SD.out.mono ?_; rintro e X1 ⟨sv, t0, t1, t2, t3, rfl, hb1, rb1⟩
       have R1 := Lib.hid (And.intro hb1 rb1)
       clear hb1 rb1)
    | (refine wpList_store_abs rfl tRBytes (.tmp 5) (.tmp 15) rfl X1.heap.size #[sv, t0, t1, t2, t3] rfl rfl tRBytes bytes0 (heap_alloc_last X1 _) infoRB rfl R1.out.2.ones ?_
       intro W1 HW1 HM1 HS1))
  have hb01 : Below W0.heap.size W0 W1 := R1.out.1.trans (Moves.new ((Below.refl _ _).alloc (Nat.le_refl _) _) HM1 (Nat.le_refl _) |>.mono R1.out.1.size)
  have rb1 : RB W1.heap (fun _ => True) sv t0 t1 t2 t3 d.stand d.many := R1.out.2.keeps (fun k hk hl => HM1.block k (by simp; omega) (by omega) |>.trans (heap_old_own _ _ _ hl)) (fun _ _ _ => trivial)
  obtain ⟨secs, s1, s2, _, _, _, _⟩ := id rb1
  obtain ⟨sa, sc, rfl, hsc, hsc2⟩ := s1.slice
  have SS := Lib.hid (And.intro s1 s2)
  have hsl := s2.len OK.out.1.many1
  have hsl1 : (secs.length : Int) ≤ 4096 := by omega
  clear s1 s2
  have H1 := Lib.hid (And.intro hb01 (And.intro HW1.out rb1))
  have X1d := Lib.hid (X.out.below hb01)
  clear hb01 rb1 HM1 HS1 HW1 R1 SD
  generalize X1.heap.size = xb at *
  go_wp2
  go_loopg [6] 6 (fun g s wr => ∃ i : Int, s = .int .i64 i ∧ (g : Int) = 5 - i ∧ -1 ≤ i ∧ Below W1.heap.size W1 wr)
  case atStart => exact ⟨-1, rfl, by omega, by omega, Below.refl _ _⟩
  case round =>
    obtain ⟨i, rfl, hg, hi0, rel⟩ := hrel
    by_cases hlt : i < 5
    · have T1 := Lib.hid (tape_c (X1d.out.below rel) i)
      have REL := Lib.hid (And.intro rel hg)
      clear rel hg
      by_cases h3 : i < 0 ∨ i > 3
      · rw [if_pos h3, if_pos h3] at T1
        go_upto_region 6 with (go_at_call 19; refine T1.out.mono ?_; rintro e w2 ⟨v2, rfl, hb2, f2⟩)
        obtain ⟨ra, rc, rfl⟩ := f2.bytes.slice
        have F2 := Lib.hid hb2
        clear hb2 f2
        by_cases h0 : i < 0
        · clear h3
          go_wp2_with (go_at_call 9; refine (num_c _ _).mono ?_; rintro e w' ⟨rfl, rfl⟩)
          go_roundg (4 - i).toNat
          case measure => have := REL.out.2; omega
          case rel => exact ⟨i + 1, by go_num, by omega, by omega, REL.out.1.trans (F2.out.mono REL.out.1.size)⟩
        · have h4 : 3 < i := by omega
          clear h3
          go_wp2_with (go_at_call 9; refine (num_c _ _).mono ?_; rintro e w' ⟨rfl, rfl⟩)
          go_roundg (4 - i).toNat
          case measure => have := REL.out.2; omega
          case rel => exact ⟨i + 1, by go_num, by omega, by omega, REL.out.1.trans (F2.out.mono REL.out.1.size)⟩
      · rw [if_neg h3, if_neg h3] at T1
        obtain ⟨t, rfl, ht⟩ := natOf (n := i) (k := 3) (by omega) (by omega)
        have n0 : ¬ (t : Int) < 0 := by omega
        have n3 : ¬ 3 < (t : Int) := by omega
        have n4 : (t : Int) < 4 := by omega
        have n00 : (0 : Int) ≤ (t : Int) := by omega
        obtain ⟨tv, e1, e2⟩ := H1.out.2.2.tape t (by omega)
        have E := Lib.hid (And.intro e1 e2)
        clear h3 e1 e2
        go_upto_region 9 with (go_at_call 19; refine T1.out.mono ?_; rintro e w2 ⟨v2, rfl, hb2, f2⟩)
        have hb12 : Below W1.heap.size W1 w2 := REL.out.1.trans (hb2.mono REL.out.1.size)
        have kt : ∀ n, (w2.drewN n).cell? ⟨xb, 1 + t, none⟩ = some tv := fun n => row_cell (w := w2.drewN n) ((hb12.block _ (lt_of_row H1.out.2.1)).trans H1.out.2.1) E.out.1
        have c1 := fun n => run_string_of (w := w2.drewN n) f2.bytes
        have c2 := fun n => run_string_of (w := w2.drewN n) (E.out.2.below (below_drewN hb12 n))
        obtain ⟨ra, rc, rfl⟩ := f2.bytes.slice
        obtain ⟨ta, tc, rfl⟩ := E.out.2.slice
        have F2 := Lib.hid hb12
        clear hb2 f2 hb12
        go_quiet ((go_at_call 9; exact Calls.quiet_of_same ((num_c _ _).mono fun e w' h => ⟨h.1, h.2.symm⟩)))
        go_wp2
        go_roundg (4 - (t : Int)).toNat
        case measure => have := REL.out.2; omega
        case rel => exact ⟨(t : Int) + 1, by go_num, by omega, by omega, below_drewN F2.out _⟩
    · obtain rfl : i = 5 := by omega
      obtain ⟨wo, ewo⟩ : ∃ wo, wo = wr := ⟨_, rfl⟩
      subst ewo
      have R0 := Lib.hid rel
      clear rel hg
      have kS0 : wo.cell? ⟨xb, 0, none⟩ = some (.slice sa secs.length sc) := row_cell ((R0.out.block _ (lt_of_row H1.out.2.1)).trans H1.out.2.1) rfl
      go_wp2
      go_loopg [9] secs.length (fun g s wr => ∃ k : Nat, s = .int .i64 (k : Int) ∧ g + k = secs.length ∧ Below W1.heap.size W1 wr)
      case atStart => exact ⟨0, rfl, rfl, R0.out⟩
      case round =>
        obtain ⟨k, rfl, hg, rel⟩ := hrel
        have kS : wr.cell? ⟨xb, 0, none⟩ = some (.slice sa secs.length sc) := row_cell ((rel.block _ (lt_of_row H1.out.2.1)).trans H1.out.2.1) rfl
        by_cases hlt : k < secs.length
        · obtain ⟨e, he⟩ : ∃ e, secs[k]? = some e := ⟨_, List.getElem?_eq_getElem hlt⟩
          obtain ⟨n, l⟩ := e
          obtain ⟨b, o, uk, rfl, hr2, e1, e2, e3⟩ : ∃ b o uk, sa = some ⟨b, o, none⟩ ∧ b < W1.heap.size ∧ W1.cell? ⟨b, o + k * 2, none⟩ = some (.int .i64 n) ∧ W1.cell? ⟨b, o + k * 2 + 1, none⟩ = some uk ∧ BytesAt W1.heap (fun _ => True) uk l := by
            rcases SS.out.1 with ⟨h1, h2⟩ | ⟨b, o, cap, c', tt, fr, h1, h2, h3, g2, g3, g4⟩
            · rw [h2] at hlt; simp at hlt
            · obtain ⟨uk, q1, q2, q3⟩ := g4 k n l he
              exact ⟨b, o, uk, (Value.slice.inj h1).1, lt_of_row g3, row_cell g3 q1, row_cell g3 q2, q3⟩
          have ent := SS.out.2.ent (n, l) (List.mem_of_getElem? he)
          have el : l = d.stand.sec n := ent.1
          have en0 : 0 ≤ n := ent.2.1
          have en1 : n < d.many := ent.2.2
          have k2 : wr.cell? ⟨b, o + k * 2, none⟩ = some (.int .i64 n) := (rel.cell (p := ⟨b, o + k * 2, none⟩) hr2).trans e1
          have RD := Lib.hid (read_c (X1d.out.below rel) n)
          rw [if_neg (by omega), if_neg (by omega), ← el] at RD
          have hk0 : (0 : Int) ≤ (k : Int) := by omega
          have hk1 : (k : Int) < (secs.length : Int) := by omega
          have REL := Lib.hid (And.intro rel (And.intro hg (And.intro e2 (And.intro e3 hr2))))
          clear rel hg e1 e2 e3 el ent he hr2
          go_upto_region 15 with (go_at_call 17; refine RD.out.mono ?_; rintro e w2 ⟨v2, rfl, hb2, f2⟩)
          have hb12 : Below W1.heap.size W1 w2 := REL.out.1.trans (hb2.mono REL.out.1.size)
          have kS2 : ∀ n, (w2.drewN n).cell? ⟨xb, 0, none⟩ = some (.slice (some ⟨b, o, none⟩) secs.length sc) := fun n => row_cell (w := w2.drewN n) ((hb12.block _ (lt_of_row H1.out.2.1)).trans H1.out.2.1) rfl
          have ku : ∀ n, (w2.drewN n).cell? ⟨b, o + k * 2 + 1, none⟩ = some uk := fun n => ((below_drewN hb12 n).cell (p := ⟨b, o + k * 2 + 1, none⟩) REL.out.2.2.2.2).trans REL.out.2.2.1
          have c1 := fun n => run_string_of (w := w2.drewN n) f2.bytes
          have c2 := fun n => run_string_of (w := w2.drewN n) (REL.out.2.2.2.1.below (below_drewN hb12 n))
          obtain ⟨ra, rc, rfl⟩ := f2.bytes.slice
          obtain ⟨ta, tc, rfl⟩ := REL.out.2.2.2.1.slice
          have F2 := Lib.hid hb12
          clear hb2 f2 hb12 k2 kS
          go_quiet ((go_at_call 9; exact Calls.quiet_of_same ((num_c _ _).mono fun e w' h => ⟨h.1, h.2.symm⟩)))
          go_wp2
          go_roundg (secs.length - (k + 1))
          case measure => have := REL.out.2.1; omega
          case rel => exact ⟨k + 1, by go_num, by have := REL.out.2.1; omega, below_drewN F2.out _⟩
        · obtain rfl : k = secs.length := by omega
          obtain ⟨wo, ewo⟩ : ∃ wo, wo = wr := ⟨_, rfl⟩
          subst ewo
          have RE := Lib.hid rel
          clear rel hg kS0
          have hb0o : Below W0.heap.size W0 wo := H1.out.1.trans (RE.out.mono H1.out.1.size)
          have m0 := (MID.out wo hb0o).1
          have RD := Lib.hid (read_c (X1d.out.below RE.out) d.many)
          rw [if_pos (Or.inr (by omega)), if_pos (Or.inr (by omega))] at RD
          have B0 := Lib.hid hb0o
          clear hb0o
          go_upto_region 18 with (go_at_call 17; refine RD.out.mono ?_; rintro e w2 ⟨v2, rfl, hb2, f2⟩)
          have hb12 : Below W1.heap.size W1 w2 := RE.out.trans (hb2.mono RE.out.size)
          have hb02 : Below W0.heap.size W0 w2 := B0.out.trans (hb2.mono B0.out.size)
          have XD := Lib.hid (X1d.out.below hb12)
          have x0 : ∀ x : Wd (Below w2.heap.size w2), x.world.cell? ⟨w.heap.size, 0, none⟩ = some (.int .i64 d.many) := fun x => (MID.out x.world (hb02.trans (x.ok.mono hb02.size))).1
          have x1 : ∀ x : Wd (Below w2.heap.size w2), x.world.cell? ⟨w.heap.size, 1, none⟩ = some (.int .i64 d.room) := fun x => (MID.out x.world (hb02.trans (x.ok.mono hb02.size))).2.1
          have x7 : ∀ x : Wd (Below w2.heap.size w2), x.world.cell? ⟨w.heap.size, 7, none⟩ = some (.slice rwa d.waits.length rwc) := fun x => (MID.out x.world (hb02.trans (x.ok.mono hb02.size))).2.2.1
          have x8 : ∀ x : Wd (Below w2.heap.size w2), x.world.cell? ⟨w.heap.size, 8, none⟩ = some (.bool d.dead) := fun x => (MID.out x.world (hb02.trans (x.ok.mono hb02.size))).2.2.2
          have LD : Hid (∀ w', (∃ x : Wd (Below w2.heap.size w2), w' = x.world) → (Instr.loadAt tRBytes (.pointer (some ⟨xb, 0, none⟩))).run Try.prog w' = .ok (.agg #[.slice sa secs.length sc, t0, t1, t2, t3]) w') := by
            rintro w' ⟨x, rfl⟩
            have hb1x : Below W1.heap.size W1 x.world := hb12.trans (x.ok.mono hb12.size)
            exact run_loadAt_row ((hb1x.block _ (lt_of_row H1.out.2.1)).trans H1.out.2.1) Try.underlying39 rfl infoRB
          have ne : Nonempty (Wd (Below w2.heap.size w2)) := ⟨⟨_, Below.refl _ _⟩⟩
          have B2 := Lib.hid (And.intro hb12 hb02)
          clear hb2 f2 hb12 hb02 m0
          refine wp_region_hoist (fun w' => ∃ x : Wd (Below w2.heap.size w2), w' = x.world) [] (by kernel_rfl) ?_
          refine wpAnyI_reads [0] 39 _ ⟨⟨_, (Below.refl _ _).drew⟩, rfl⟩ (by kernel_rfl) ?_
          simp only [List.filterMap_cons, List.filterMap_nil, List.getElem?_toArray, List.getElem?_cons_succ, List.getElem?_cons_zero]
          repeat (refine wpHoist_step (fun K hK => ?_); simp only [hoists, sameUpon]; go_simp; refine hK _ ?_; clear hK K)
          refine wpHoist_nil ?_
          refine wpAnyI_one 1 38 _ _ rfl (by kernel_rfl) ?_
          refine wpList_plain rfl fun K hK => ?_
          go_simp
          go_at_call 9
          refine (num_c _ _).mono ?_
          rintro e w' ⟨rfl, rfl⟩
          refine hK _ _ (wpList_nil ⟨rfl, fun _ => ⟨⟨_, (Below.refl _ _).drew⟩, rfl⟩, ?_⟩)
          clear hK K
          refine wpAnyI_reads [2, 3, 4, 6, 7] 33 _ ⟨⟨_, (Below.refl _ _).drew⟩, rfl⟩ (by kernel_rfl) ?_
          simp only [List.filterMap_cons, List.filterMap_nil, List.getElem?_toArray, List.getElem?_cons_succ, List.getElem?_cons_zero]
          repeat (refine wpHoist_step (fun K hK => ?_); simp only [hoists, sameUpon]; go_simp; refine hK _ ?_; clear hK K)
          refine wpHoist_nil ?_
          refine wpAnyI_one 5 32 _ _ rfl (by kernel_rfl) ?_
          refine wpList_step fun K hK => ?_
          go_simp
          go_at_call 26
          refine (sectors_c (w := w2.drew) XD.out).mono ?_
          rintro e w' ⟨rfl, rfl⟩
          refine hK _ _ (wpList_nil ⟨rfl, fun _ => ⟨⟨_, (Below.refl _ _).drew⟩, rfl⟩, ?_⟩)
          clear hK K
          refine wpAnyI_reads [8, 9, 10, 11, 13, 14] 26 _ ⟨⟨_, (Below.refl _ _).drew⟩, rfl⟩ (by kernel_rfl) ?_
          simp only [List.filterMap_cons, List.filterMap_nil, List.getElem?_toArray, List.getElem?_cons_succ, List.getElem?_cons_zero]
          repeat (refine wpHoist_step (fun K hK => ?_); simp only [hoists, sameUpon]; go_simp; refine hK _ ?_; clear hK K)
          refine wpHoist_nil ?_
          refine wpAnyI_one 12 25 _ _ rfl (by kernel_rfl) ?_
          refine wpList_step fun K hK => ?_
          go_simp
          go_at_call 27
          refine (room_c (w := w2.drew) XD.out).mono ?_
          rintro e w' ⟨rfl, rfl⟩
          refine hK _ _ (wpList_nil ⟨rfl, fun _ => ⟨⟨_, (Below.refl _ _).drew⟩, rfl⟩, ?_⟩)
          clear hK K
          refine wpAnyI_reads [15, 16, 17, 18, 20] 20 _ ⟨⟨_, (Below.refl _ _).drew⟩, rfl⟩ (by kernel_rfl) ?_
          simp only [List.filterMap_cons, List.filterMap_nil, List.getElem?_toArray, List.getElem?_cons_succ, List.getElem?_cons_zero]
          refine wpHoist_step (fun K hK => ?_); simp only [hoists, sameUpon]; go_simp; refine hK _ ?_; clear hK K
          refine wpHoist_step (fun K hK => ?_); simp only [hoists, sameUpon]; go_simp; refine hK _ ?_; clear hK K
          refine wpHoist_step (fun K hK => ?_); simp only [hoists, sameUpon]; go_simp; refine hK _ ?_; clear hK K
          refine wpHoist_step (fun K hK => ?_); simp only [hoists, sameUpon]; go_simp; refine hK _ ?_; clear hK K
          refine wpHoist_load_guard (by go_simp) tRBytes (.tmp 5) rfl _ LD.out ?_
          refine wpHoist_nil ?_
          refine wpAnyI_one 19 19 _ _ rfl (by kernel_rfl) ?_
          refine wpList_step fun K hK => ?_
          go_simp
          go_at_call 28
          refine (usedD_c (w := w2.drew) XD.out).mono ?_
          rintro e w3 ⟨rfl, hb3⟩
          have hb3' : Below w2.heap.size w2 w3 := (Below.refl _ _).drew.trans hb3
          refine hK _ _ (wpList_nil ⟨rfl, fun _ => ⟨⟨_, hb3'⟩, rfl⟩, ?_⟩)
          clear hK K
          refine wpAnyI_one 21 18 _ _ rfl (by kernel_rfl) ?_
          refine wpList_step fun K hK => ?_
          go_simp
          go_at_call 56
          refine (rused_c (w := w3) (H1.out.2.2.keeps (F' := fun _ => True) (fun k _ hl => (B2.out.1.trans (hb3'.mono B2.out.1.size)).block k hl) (fun _ _ _ => trivial)) (stand_len OK.out.1)).mono ?_
          rintro e w4 ⟨rfl, hb4⟩
          have hb4' : Below w2.heap.size w2 w4 := hb3'.trans (hb4.mono hb3'.size)
          refine hK _ _ (wpList_nil ⟨rfl, fun _ => ⟨⟨_, hb4'⟩, rfl⟩, ?_⟩)
          clear hK K
          clear hb3 hb4 hb3'
          refine wpAnyI_reads [22, 23, 24, 25, 27, 28, 29] 11 _ ⟨⟨_, hb4'⟩, rfl⟩ (by kernel_rfl) ?_
          simp only [List.filterMap_cons, List.filterMap_nil, List.getElem?_toArray, List.getElem?_cons_succ, List.getElem?_cons_zero]
          repeat (refine wpHoist_step (fun K hK => ?_); simp only [hoists, sameUpon]; go_simp; refine hK _ ?_; clear hK K)
          refine wpHoist_nil ?_
          refine wpAnyI_one 26 10 _ _ rfl (by kernel_rfl) ?_
          refine wpList_step fun K hK => ?_
          go_simp
          go_at_call 12
          refine (waits_c (w := w4) (XD.out.below hb4')).mono ?_
          rintro e w' ⟨rfl, rfl⟩
          refine hK _ _ (wpList_nil ⟨rfl, fun _ => ⟨⟨_, hb4'⟩, rfl⟩, ?_⟩)
          clear hK K
          refine wpAnyI_reads [30, 31, 32, 33, 35, 36] 4 _ ⟨⟨_, hb4'⟩, rfl⟩ (by kernel_rfl) ?_
          simp only [List.filterMap_cons, List.filterMap_nil, List.getElem?_toArray, List.getElem?_cons_succ, List.getElem?_cons_zero]
          repeat (refine wpHoist_step (fun K hK => ?_); simp only [hoists, sameUpon]; go_simp; refine hK _ ?_; clear hK K)
          refine wpHoist_nil ?_
          refine wpAnyI_one 34 3 _ _ rfl (by kernel_rfl) ?_
          refine wpList_step fun K hK => ?_
          go_simp
          go_at_call 16
          refine (dead_c (w := w4) (XD.out.below hb4')).mono ?_
          rintro e w' ⟨rfl, rfl⟩
          refine hK _ _ (wpList_nil ⟨rfl, fun _ => ⟨⟨_, hb4'⟩, rfl⟩, ?_⟩)
          clear hK K
          have FIN := Lib.hid (H0.out.1.trans ((B2.out.2.trans (hb4'.mono B2.out.2.size)).mono H0.out.1.size))
          refine wpAnyI_reads [37, 38, 39] 0 _ ⟨⟨_, hb4'⟩, rfl⟩ (by kernel_rfl) ?_
          simp only [List.filterMap_cons, List.filterMap_nil, List.getElem?_toArray, List.getElem?_cons_succ, List.getElem?_cons_zero]
          repeat (refine wpHoist_step (fun K hK => ?_); simp only [hoists, sameUpon]; go_simp; refine hK _ ?_; clear hK K)
          refine wpHoist_nil ?_
          refine ⟨by kernel_rfl, ?_⟩
          go_wp2
          go_ret
          exact ⟨rfl, FIN.out⟩

end Go.Proofs.Ytiefhmbpaoecfaa

namespace Go.Proofs.Ytiefhmbpaoecfaa
open Go.RowKit Dm

theorem none_live {p m : Nat} {d : D} {F : Nat → Prop} {w : World} (x : DiskAt w.heap p m d F) : Calls Try.prog 33 #[.pointer (some ⟨p, 0, none⟩)] w fun e w' => e = .returned (.bool false) ∧ w = w' :=
  none_at p true w x.cell16.1

theorem same_nones {w : World} {v v' : Value} (h : NoneD w v) (h' : NoneD w v') : Calls Try.prog 29 #[v, v'] w fun e w' => e = .returned (.bool true) ∧ w = w' := by
  have H := Lib.hid h
  have H' := Lib.hid h'
  clear h h'
  go_enter Try.func29, Try.ntmps29
  go_wp2_with (first
    | (go_at_call 33; (with_reducible refine (none_c H.out).mono ?_); rintro e w' ⟨rfl, rfl⟩)
    | (go_at_call 33; (with_reducible refine (none_c H'.out).mono ?_); rintro e w' ⟨rfl, rfl⟩))
  go_ret
  exact ⟨rfl, rfl⟩

theorem same_left {w : World} {v : Value} {p m : Nat} {d : D} {F : Nat → Prop} (h : NoneD w v) (x : DiskAt w.heap p m d F) : Calls Try.prog 29 #[v, .pointer (some ⟨p, 0, none⟩)] w fun e w' => e = .returned (.bool false) ∧ w = w' := by
  have H := Lib.hid h
  have X := Lib.hid x
  clear h x
  go_enter Try.func29, Try.ntmps29
  go_wp2_with (first
    | (go_at_call 33; (with_reducible refine (none_live X.out).mono ?_); rintro e w' ⟨rfl, rfl⟩)
    | (go_at_call 33; (with_reducible refine (none_c H.out).mono ?_); rintro e w' ⟨rfl, rfl⟩))
  go_ret
  exact ⟨rfl, rfl⟩

theorem same_right {w : World} {v : Value} {p m : Nat} {d : D} {F : Nat → Prop} (h : NoneD w v) (x : DiskAt w.heap p m d F) : Calls Try.prog 29 #[.pointer (some ⟨p, 0, none⟩), v] w fun e w' => e = .returned (.bool false) ∧ w = w' := by
  have H := Lib.hid h
  have X := Lib.hid x
  clear h x
  go_enter Try.func29, Try.ntmps29
  go_wp2_with (first
    | (go_at_call 33; (with_reducible refine (none_live X.out).mono ?_); rintro e w' ⟨rfl, rfl⟩)
    | (go_at_call 33; (with_reducible refine (none_c H.out).mono ?_); rintro e w' ⟨rfl, rfl⟩))
  go_ret
  exact ⟨rfl, rfl⟩

/-- None stays none while a disk's blocks change. -/
theorem NoneD.moves {w w' : World} {v : Value} {p m : Nat} {d : D} {F : Nat → Prop} (h : NoneD w v) (x : DiskAt w.heap p m d F) (hm : Moves (fun k => k = p ∨ k = m) w w') : NoneD w' v := by
  rcases h with h | ⟨q, h1, h2⟩
  · exact Or.inl h
  · refine Or.inr ⟨q, h1, ?_⟩
    have hq : q < w.heap.size := block_lt_of_cell h2
    have np : q ≠ p := fun e => by subst e; rw [x.cell16.1] at h2; cases h2
    have nm : q ≠ m := fun e => by
      subst e
      obtain ⟨ml, l0, l1, l2, l3, wv, stops, after, ⟨t0, t1, t2, t3, c1, c4, _⟩, _⟩ := x.parts
      obtain ⟨es, cl, g, _⟩ := c4
      unfold World.cell? at h2
      simp only [g] at h2
      cases h2
    rw [World.cell?_of_block (w := w) (a := ⟨q, 16, none⟩) (hm.block q hq (by omega))]
    exact h2

theorem NoneD.stays {w w' : World} {v : Value} {g : Nat} {C : Array Value} {t : TypeId} {fr : Nat × Nat} (h : NoneD w v) (hg : w.heap[g]? = some (.cells C t fr)) (hC : C.size ≤ 16) (hm : Moves (fun k => k = g) w w') : NoneD w' v := by
  rcases h with h | ⟨q, h1, h2⟩
  · exact Or.inl h
  · refine Or.inr ⟨q, h1, ?_⟩
    have hq : q < w.heap.size := block_lt_of_cell h2
    have np : q ≠ g := fun e => by
      subst e
      rw [cell_of_row _ _ _ _ _ _ hg, Array.getElem?_eq_none (by omega)] at h2
      cases h2
    rw [World.cell?_of_block (w := w) (a := ⟨q, 16, none⟩) (hm.block q hq np)]
    exact h2

/-- A load behind a guard that is met. -/
theorem wpList_load_wanted {P : Program} {ops : Array Oper} {rest : List Oper} {o : Oper} {a : Act} {w : World} {Q : Exit → Act → World → Prop} (hw : Region.wanted o (yielded ops a.tmps) = true) (ty : TypeId) (x : Operand) (ho : o.op = .load ty x) (v : Value)
    (hrun : (Instr.loadAt ty (a.eval x)).run P w = .ok v w) (h : wpList P ops Q rest (a.put o.dst v) w) : wpList P ops Q (o :: rest) a w :=
  wpList_step fun K hK => by
    simp only [hw, if_true]
    unfold Oper.wp execOp
    simp only [ho, Sem.run_bind, hrun, Result.andThen_ok, Sem.run_pure]
    exact hK _ _ h

/-- What a call of the law leaves. -/
def ActAny (w : World) (p m : Nat) (F : Nat → Prop) (d' : D) (e : Ending) (w' : World) : Prop :=
  ∃ p' m' v' F', e = .returned (.tuple #[.pointer (some ⟨p', 0, none⟩), v', .bool true]) ∧ Moves (fun k => k = p ∨ k = m) w w' ∧ DiskAt w'.heap p' m' d' F' ∧ RefAt w'.heap F' v' d' ∧ (∀ k, F' k → (F k ∧ k < w.heap.size) ∨ (w.heap.size ≤ k ∧ k < w'.heap.size)) ∧
    ((p' = p ∧ m' = m) ∨ (w.heap.size ≤ p' ∧ w.heap.size ≤ m'))

def dNext (d : D) (y : ActM) : D := if y.what = 5 then d.crash y.crash else actD d y

theorem act_any {w : World} {p m : Nat} {F G : Nat → Prop} {v : Value} {d : D} (x : DiskAt w.heap p m d F) (hr : RefAt w.heap F v d) (hn : d.waits.length ≤ 1000000000) (y : ActM) (ok : y.ok) {bv : Value} (hv : BytesIn w.heap G bv y.b) (hl : y.b.length ≤ 1048576) {kv : Value} (hk : BoolsAt w.heap kv y.crash.keep) (hkl : y.crash.keep.length ≤ 1000000) :
    Calls Try.prog 13 #[.pointer (some ⟨p, 0, none⟩), v, .agg (actC y.what y.sec y.n bv y.raw kv y.crash.torn y.crash.part)] w (ActAny w p m F (dNext d y)) := by
  by_cases h5 : y.what = 5
  · unfold dNext
    rw [if_pos h5, h5]
    refine (act_crash x hr hn y.sec y.n bv y.raw y.crash hk hkl ok.torn.1 ok.torn.2 ok.part.1 ok.part.2).mono ?_
    rintro e w' ⟨p', m', v', F', rfl, hb, hp, hm, x', r', hF⟩
    exact ⟨p', m', v', F', rfl, Moves.of_below hb, x', r', hF, Or.inr ⟨hp, hm⟩⟩
  · unfold dNext
    rw [if_neg h5]
    refine (act_c x hr hn y ok h5 hv hl kv).mono ?_
    rintro e w' ⟨v', F', rfl, hm, x', r', hF⟩
    exact ⟨p, m, v', F', rfl, hm, x', r', hF, Or.inl ⟨rfl, rfl⟩⟩

end Go.Proofs.Ytiefhmbpaoecfaa

namespace Go.Proofs.Ytiefhmbpaoecfaa
open Go.RowKit Dm

set_option maxRecDepth 100000 in
set_option maxHeartbeats 8000000 in
theorem same_cells (p p' : Nat) (M M' R R' : Int) (dd dd' ss ss' : Bool) (af af' : Int) (wv wv' : Value) (b5 b6 : Bool) (w : World)
    (c16 : w.cell? ⟨p, 16, none⟩ = some (.bool true)) (c10 : w.cell? ⟨p, 10, none⟩ = some wv) (c11 : w.cell? ⟨p, 11, none⟩ = some (.int .i64 M)) (c12 : w.cell? ⟨p, 12, none⟩ = some (.int .i64 R)) (c13 : w.cell? ⟨p, 13, none⟩ = some (.bool dd)) (c14 : w.cell? ⟨p, 14, none⟩ = some (.bool ss)) (c15 : w.cell? ⟨p, 15, none⟩ = some (.int .i64 af))
    (k16 : w.cell? ⟨p', 16, none⟩ = some (.bool true)) (k10 : w.cell? ⟨p', 10, none⟩ = some wv') (k11 : w.cell? ⟨p', 11, none⟩ = some (.int .i64 M')) (k12 : w.cell? ⟨p', 12, none⟩ = some (.int .i64 R')) (k13 : w.cell? ⟨p', 13, none⟩ = some (.bool dd')) (k14 : w.cell? ⟨p', 14, none⟩ = some (.bool ss')) (k15 : w.cell? ⟨p', 15, none⟩ = some (.int .i64 af'))
    (HS : ∀ W', Below w.heap.size w W' → Calls Try.prog 54 #[wv, wv', .func (.func 53) #[] #[]] W' fun e w' => e = .returned (.bool b5) ∧ Below W'.heap.size W' w')
    (HT : ∀ W', Below w.heap.size w W' → Calls Try.prog 55 #[.pointer (some ⟨p, 5, none⟩), .pointer (some ⟨p', 5, none⟩)] W' fun e w' => e = .returned (.bool b6) ∧ Below W'.heap.size W' w') :
    Calls Try.prog 29 #[.pointer (some ⟨p, 0, none⟩), .pointer (some ⟨p', 0, none⟩)] w fun e w' => e = .returned (.bool ((M == M') && (R == R') && (dd == dd') && ((ss == ss') && (!ss || (af == af'))) && b5 && b6)) ∧ Below w.heap.size w w' := by
  have mix : Try.prog.follows .mixedOrders = true := by kernel_rfl
  have lp : p < w.heap.size := block_lt_of_cell c16
  have lp' : p' < w.heap.size := block_lt_of_cell k16
  have NO := Lib.hid (none_at p true w c16)
  have NO' := Lib.hid (none_at p' true w k16)
  have H := Lib.hid (And.intro HS HT)
  have C := Lib.hid (And.intro c10 (And.intro c11 (And.intro c12 (And.intro c13 (And.intro k10 (And.intro k11 (And.intro k12 k13)))))))
  clear c16 k16 HS HT c10 c11 c12 c13 k10 k11 k12 k13
  obtain ⟨sb, hsb⟩ : ∃ sb, ((ss == ss') && (!ss || (af == af'))) = sb := ⟨_, rfl⟩
  rw [hsb]
  have SB := Lib.hid hsb
  clear hsb
  go_enter Try.func29, Try.ntmps29
  go_upto_region 4 with (first
    | (go_at_call 33; (with_reducible refine (NO.out).mono ?_); rintro e w' ⟨rfl, rfl⟩)
    | (go_at_call 33; (with_reducible refine (NO'.out).mono ?_); rintro e w' ⟨rfl, rfl⟩))
  go_cut [6] (fun s6 wx => s6 = .bool sb ∧ ∃ nq, wx = w.drewN nq)
  case first =>
    cases ss <;> cases ss'
    · go_quiet (fail)
      go_wp2_with fail
      go_meet
      exact ⟨by rw [← SB.out]; rfl, _, rfl⟩
    · go_quiet (fail)
      go_wp2_with fail
      go_meet
      exact ⟨by rw [← SB.out]; rfl, _, rfl⟩
    · go_quiet (fail)
      go_wp2_with fail
      go_meet
      exact ⟨by rw [← SB.out]; rfl, _, rfl⟩
    · by_cases ha : af = af'
      · subst ha
        go_quiet (fail)
        go_wp2_with fail
        go_meet
        exact ⟨by rw [← SB.out]; simp, _, rfl⟩
      · have e : (af == af') = false := by simpa using ha
        have E := Lib.hid e
        clear ha
        go_quiet (fail)
        go_wp2_with fail
        go_meet
        exact ⟨by rw [← SB.out, E.out]; rfl, _, rfl⟩
  case rest =>
    obtain ⟨rfl, nq, rfl⟩ := hcut
    clear SB NO NO' c14 c15 k14 k15
    obtain ⟨W, hW⟩ : ∃ W, w.drewN nq = W := ⟨_, rfl⟩
    have hb : Below w.heap.size w W := by rw [← hW]; exact below_drewN (Below.refl _ _) nq
    rw [hW]
    clear hW
    have lW := hb.size
    have g : ∀ (q n : Nat) (v : Value), q < w.heap.size → w.cell? ⟨q, n, none⟩ = some v → ∀ x : Ext W.heap.size W, x.world.cell? ⟨q, n, none⟩ = some v := fun q n v hq h x => (x.below.cell (p := ⟨q, n, none⟩) (show q < W.heap.size by omega)).trans ((hb.cell (p := ⟨q, n, none⟩) hq).trans h)
    have g10 := g p 10 _ lp C.out.1
    have g11 := g p 11 _ lp C.out.2.1
    have g12 := g p 12 _ lp C.out.2.2.1
    have g13 := g p 13 _ lp C.out.2.2.2.1
    have j10 := g p' 10 _ lp' C.out.2.2.2.2.1
    have j11 := g p' 11 _ lp' C.out.2.2.2.2.2.1
    have j12 := g p' 12 _ lp' C.out.2.2.2.2.2.2.1
    have j13 := g p' 13 _ lp' C.out.2.2.2.2.2.2.2
    have HB := Lib.hid (And.intro hb (fun x : Ext W.heap.size W => hb.trans (x.below.mono lW)))
    clear g lp lp' hb C
    have fin : ∀ (v v' : Bool) (x : Ext W.heap.size W), v' = v → Ending.returned (.bool v') = .returned (.bool v) ∧ Below w.heap.size w x.world := fun v v' x h => ⟨by rw [h], HB.out.2 x⟩
    have FIN := Lib.hid fin
    clear fin lW
    go_upto_region 5 with fail
    by_cases hM : M = M'
    · subst hM
      by_cases hR : R = R'
      · subst hR
        by_cases hd : dd = dd'
        · subst hd
          cases sb
          · refine wp_region_ext mix (by kernel_rfl) ?_
            repeat (first | go_big_quiet_step (fail) | quiet_step (fail))
            refine wpQuiet_nil ?_
            intro x
            go_wp2
            go_ret
            exact FIN.out _ _ x (by simp)
          · cases b5
            · refine wp_region_ext mix (by kernel_rfl) ?_
              repeat (first | go_big_quiet_step ((go_at_call 54; exact ext_call _ (Nat.le_refl _) (H.out.1 _ (HB.out.2 _)))) | quiet_step ((go_at_call 54; exact ext_call _ (Nat.le_refl _) (H.out.1 _ (HB.out.2 _)))))
              refine wpQuiet_nil ?_
              intro x
              go_wp2
              go_ret
              exact FIN.out _ _ x (by simp)
            · refine wp_region_ext mix (by kernel_rfl) ?_
              repeat (first | go_big_quiet_step (first
                | (go_at_call 54; exact ext_call _ (Nat.le_refl _) (H.out.1 _ (HB.out.2 _)))
                | (go_at_call 55; exact ext_call _ (Nat.le_refl _) (H.out.2 _ (HB.out.2 _)))) | quiet_step (first
                | (go_at_call 54; exact ext_call _ (Nat.le_refl _) (H.out.1 _ (HB.out.2 _)))
                | (go_at_call 55; exact ext_call _ (Nat.le_refl _) (H.out.2 _ (HB.out.2 _)))))
              refine wpQuiet_nil ?_
              intro x
              go_wp2
              go_ret
              exact FIN.out _ _ x (by simp)
        · have e : (dd == dd') = false := by simpa using hd
          clear hd
          refine wp_region_ext mix (by kernel_rfl) ?_
          repeat (first | go_big_quiet_step (fail) | quiet_step (fail))
          refine wpQuiet_nil ?_
          intro x
          go_wp2
          go_ret
          exact FIN.out _ _ x (by simp [e])
      · have e : (R == R') = false := by simpa using hR
        clear hR
        refine wp_region_ext mix (by kernel_rfl) ?_
        repeat (first | go_big_quiet_step (fail) | quiet_step (fail))
        refine wpQuiet_nil ?_
        intro x
        go_wp2
        go_ret
        exact FIN.out _ _ x (by simp [e])
    · have e : (M == M') = false := by simpa using hM
      clear hM
      refine wp_region_ext mix (by kernel_rfl) ?_
      repeat (first | go_big_quiet_step (fail) | quiet_step (fail))
      refine wpQuiet_nil ?_
      intro x
      go_wp2
      go_ret
      exact FIN.out _ _ x (by simp [e])

/-- Two disks that are the same. -/
def SameD (d k : D) : Prop := d.many = k.many ∧ d.room = k.room ∧ d.dead = k.dead ∧ d.stops = k.stops ∧ d.waits = k.waits ∧ (∀ j : Nat, j < 4 → d.lasts.tp j = k.lasts.tp j) ∧ ∀ n, d.lasts.sec n = k.lasts.sec n

theorem bool_told {f : FuncId} {args : Array Value} {w : World} {X : Prop} {b : Bool} (hb : b = true ↔ X)
    (h : Calls Try.prog f args w fun e w' => ∃ r : Bool, e = .returned (.bool r) ∧ (r = true ↔ X) ∧ Below w.heap.size w w') : Calls Try.prog f args w fun e w' => e = .returned (.bool b) ∧ Below w.heap.size w w' :=
  h.mono fun e w' ⟨r, h1, h2, h3⟩ => ⟨by rw [h1]; congr 2; rw [Bool.eq_iff_iff, h2, hb], h3⟩

theorem same_live {w : World} {p m p' m' : Nat} {d k : D} {F G : Nat → Prop} (x : DiskAt w.heap p m d F) (y : DiskAt w.heap p' m' k G) :
    Calls Try.prog 29 #[.pointer (some ⟨p, 0, none⟩), .pointer (some ⟨p', 0, none⟩)] w fun e w' => ∃ r : Bool, e = .returned (.bool r) ∧ (r = true ↔ SameD d k) ∧ Below w.heap.size w w' := by
  have okx := x.ok
  have oky := y.ok
  have lx := x.lt
  have ly := y.lt
  obtain ⟨t0, t1, t2, t3, ml, l0, l1, l2, l3, wv, stops, after, c1, c2, c3, c4, c5, c6, c7, c8, c9, b0, b1, b2, b3, b4, b5, b6, b7, st⟩ := x.cells
  obtain ⟨t0', t1', t2', t3', ml', l0', l1', l2', l3', wv', stops', after', c1', c2', c3', c4', c5', c6', c7', c8', c9', b0', b1', b2', b3', b4', b5', b6', b7', st'⟩ := y.cells
  obtain ⟨r5, hr5⟩ : ∃ r5 : Bool, r5 = true ↔ d.waits = k.waits := by
    by_cases h : d.waits = k.waits
    · exact ⟨true, fun _ => h, fun _ => rfl⟩
    · exact ⟨false, fun q => (by cases q), fun q => absurd q h⟩
  obtain ⟨r6, hr6⟩ : ∃ r6 : Bool, r6 = true ↔ (∀ j : Nat, j < 4 → d.lasts.tp j = k.lasts.tp j) ∧ ∀ n, d.lasts.sec n = k.lasts.sec n := by
    by_cases h : (∀ j : Nat, j < 4 → d.lasts.tp j = k.lasts.tp j) ∧ ∀ n, d.lasts.sec n = k.lasts.sec n
    · exact ⟨true, fun _ => h, fun _ => rfl⟩
    · exact ⟨false, fun q => (by cases q), fun q => absurd q h⟩
  have hs : (((stops == stops') && (!stops || (after == after'))) = true) ↔ d.stops = k.stops := by
    rw [c2, c2']
    cases stops <;> cases stops'
    · simp
    · have := c3' rfl; simp; omega
    · have := c3 rfl; simp; omega
    · simp
  refine (same_cells p p' d.many k.many d.room k.room d.dead k.dead stops stops' after after' wv wv' r5 r6 w (row_cell c1 rfl) (row_cell c1 rfl) (row_cell c1 rfl) (row_cell c1 rfl) (row_cell c1 rfl) (row_cell c1 rfl) (row_cell c1 rfl)
    (row_cell c1' rfl) (row_cell c1' rfl) (row_cell c1' rfl) (row_cell c1' rfl) (row_cell c1' rfl) (row_cell c1' rfl) (row_cell c1' rfl) (fun W' hb => ?_) (fun W' hb => ?_)).mono ?_
  · exact bool_told hr5 (sameSteps_c (st.keeps (F' := F) (fun k _ hl => hb.block k hl) (fun _ h _ => h)) (st'.keeps (F' := G) (fun k _ hl => hb.block k hl) (fun _ h _ => h)))
  · have e := hb.block p lx.1
    have e' := hb.block p' ly.1
    refine bool_told hr6 (sameStand_c p p' ml ml' l0 l1 l2 l3 l0' l1' l2' l3' F G (fun j => d.lasts.tp j) (fun j => k.lasts.tp j) d.lasts.sec k.lasts.sec W' (row_cell (e.trans c1) rfl) (row_cell (e.trans c1) rfl) (row_cell (e.trans c1) rfl) (row_cell (e.trans c1) rfl) (row_cell (e.trans c1) rfl)
      (row_cell (e'.trans c1') rfl) (fun j hj => ?_) (b4.below hb) (b5.below hb) (b6.below hb) (b7.below hb) (c5.stays (hb.block ml ?_)) (c5'.stays (hb.block ml' ?_)) okx.sec oky.sec)
    · have kk : j = 0 ∨ j = 1 ∨ j = 2 ∨ j = 3 := by omega
      rcases kk with rfl | rfl | rfl | rfl
      · exact ⟨_, row_cell (e'.trans c1') rfl, b4'.below hb⟩
      · exact ⟨_, row_cell (e'.trans c1') rfl, b5'.below hb⟩
      · exact ⟨_, row_cell (e'.trans c1') rfl, b6'.below hb⟩
      · exact ⟨_, row_cell (e'.trans c1') rfl, b7'.below hb⟩
    · obtain ⟨_, _, h, _⟩ := c5; exact lt_of_row h
    · obtain ⟨_, _, h, _⟩ := c5'; exact lt_of_row h
  · rintro e w' ⟨rfl, hb⟩
    refine ⟨_, rfl, ?_, hb⟩
    simp only [Bool.and_eq_true, beq_iff_eq, SameD] at hs ⊢
    rw [hr5, hr6, hs]
    constructor
    · rintro ⟨⟨⟨⟨⟨h1, h2⟩, h3⟩, h4⟩, h5⟩, h6⟩
      exact ⟨h1, h2, h3, h4, h5, h6⟩
    · rintro ⟨h1, h2, h3, h4, h5, h6⟩
      exact ⟨⟨⟨⟨⟨h1, h2⟩, h3⟩, h4⟩, h5⟩, h6⟩

end Go.Proofs.Ytiefhmbpaoecfaa
