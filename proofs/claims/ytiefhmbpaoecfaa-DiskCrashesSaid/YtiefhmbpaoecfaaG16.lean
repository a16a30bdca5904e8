/-
  The document's disk: Write.
  The document's disk: Append, Cut.
  The document's disk: Cut, Sync.
  The document's disk: Sync; a sector.
-/
import Derived.Test.YtiefhmbpaoecfaaG07
import Derived.Test.YtiefhmbpaoecfaaG15

namespace Go.Proofs.Ytiefhmbpaoecfaa
open Go.RowKit Dm

theorem ref_same {w W5 : World} {F : Nat → Prop} {v : Value} {d : D} {c : Int} (hr : RefAt w.heap F v d) (hb : Below w.heap.size w W5) : GivesRef w F (d, c) (.returned (.tuple #[v, .int .i64 c])) W5 := ⟨v, rfl, hb, hr.plus hb⟩

/-- A disk that a callee gave, handed on through the result's block. -/
theorem ref_give {w W0 W4 W5 : World} {F G : Nat → Prop} {v : Value} {d : D} {c : Int} (hb0 : Below w.heap.size w W0) (z0 : W0.heap.size = w.heap.size + 2) (hb4 : Below W0.heap.size W0 W4) (hr : RefAt W4.heap G v d) (hG : ∀ k, G k → (F k ∧ k < w.heap.size) ∨ w.heap.size + 2 ≤ k) (hM : Moves (fun k => k = w.heap.size + 1) W4 W5) :
    GivesRef w F (d, c) (.returned (.tuple #[v, .int .i64 c])) W5 := by
  have z4 := hb4.size
  have z5 := hM.size
  have hb5 : Below w.heap.size w W5 := Moves.new (hb0.trans (hb4.mono (by omega))) hM (by omega)
  refine ⟨v, rfl, hb5, hr.keeps (fun k hk hl => hM.block k hl ?_) (fun k hk hl => ?_)⟩
  · rcases hG k hk with h | h
    · omega
    · omega
  · rcases hG k hk with h | h
    · exact Or.inl h.1
    · exact Or.inr ⟨by omega, by omega⟩

/-- The set-up of a call on the document's disk. -/
structure RefIn (w W0 : World) (F : Nat → Prop) (C : Array Value) (d : D) : Prop where
  below : Below w.heap.size w W0
  r0 : W0.heap[w.heap.size]? = some (.cells C tRDisk (0, 0))
  r1 : W0.heap[w.heap.size + 1]? = some (.cells ref0 tRDisk (0, 0))
  size : W0.heap.size = w.heap.size + 2
  ref : RefAt w.heap F (.agg C) d
  csz : C.size = 10
  ones : C.all (·.oneCell') = true
  c0 : C[0]? = some (.int .i64 d.many)
  c1 : C[1]? = some (.int .i64 d.room)

theorem refIn_of {w : World} {F : Nat → Prop} {v : Value} {d : D} (hr : RefAt w.heap F v d) : ∃ C, v = .agg C ∧ RefIn w (refW w C) F C d := by
  have hr0 := hr
  obtain ⟨sv, t0, t1, t2, t3, wv, rfl, rb, st⟩ := hr
  refine ⟨_, rfl, ?_⟩
  obtain ⟨b0, r0, r1, z0⟩ := refW_facts w (refC d.many d.room sv t0 t1 t2 t3 wv d.dead d.stops)
  exact ⟨b0, r0, r1, z0, hr0, rfl, ref_ones rb st _ _ _ _, rfl, rfl⟩

/-- The footprint within a call. -/
def InF (F : Nat → Prop) (w : World) : Nat → Prop := fun k => (F k ∧ k < w.heap.size) ∨ w.heap.size + 2 ≤ k

theorem RefIn.at {w W0 X : World} {F : Nat → Prop} {C : Array Value} {d : D} (h : RefIn w W0 F C d) (hb : Below W0.heap.size W0 X) : RefAt X.heap (InF F w) (.agg C) d :=
  h.ref.keeps (fun k _ hl => (hb.block k (by have := h.size; omega)).trans (h.below.block k hl)) (fun k hk hl => Or.inl ⟨hk, hl⟩)

/-- A new row of bytes, within a call. -/
theorem inF_fresh {w X : World} {F : Nat → Prop} {base : Nat} {v : Value} {l : List UInt8} (h : OwnB X base v l) (hb : w.heap.size + 2 ≤ base) : BytesAt X.heap (InF F w) v l :=
  h.bytes.bytes.keeps (fun _ _ _ => rfl) (fun k hk _ => Or.inr (by have : base ≤ k := hk; omega))

theorem plus_inF {F : Nat → Prop} {w X Y : World} (hX : w.heap.size + 2 ≤ X.heap.size) : ∀ k, plus (InF F w) X Y k → (F k ∧ k < w.heap.size) ∨ w.heap.size + 2 ≤ k := fun k hk => by
  rcases hk with hk | hk
  · exact hk
  · exact Or.inr (by omega)

set_option maxRecDepth 100000 in
set_option maxHeartbeats 2000000 in
theorem rwrite_c {w : World} {F G : Nat → Prop} {v : Value} {d : D} (hr : RefAt w.heap F v d) (ok : d.ok) (hn : d.waits.length ≤ 1000000000000) (n : Int) {bv : Value} {l : List UInt8} (hv : BytesAt w.heap G bv l) (hl : l.length ≤ 1048576) :
    Calls Try.prog 34 #[v, .int .i64 n, bv] w (GivesRef w F (d.write n l)) := by
  obtain ⟨C, rfl, hin⟩ := refIn_of hr
  obtain ⟨W0, hW0⟩ : ∃ W0, refW w C = W0 := ⟨_, rfl⟩
  rw [hW0] at hin
  obtain ⟨ba, bc, eb⟩ := hv.slice
  subst eb
  have kM : W0.cell? ⟨w.heap.size, 0, none⟩ = some (.int .i64 d.many) := row_cell hin.r0 hin.c0
  have HIN := Lib.hid hin
  have HV := Lib.hid hv
  have OK := Lib.hid (And.intro ok (And.intro hn hl))
  clear hin hv ok hn hr
  by_cases h1 : l.length = 256
  · by_cases h2 : n < 0 ∨ n ≥ d.many
    · have e : d.write n l = (d, 4) := by unfold D.write; rw [if_neg (by omega), if_pos h2]
      rw [e, h1]
      have E := Lib.hid e
      clear e
      by_cases hn0 : n < 0
      all_goals
        have hn2 : ¬ n < 0 → d.many ≤ n := fun h => by omega
        simp only [hn0, not_true_eq_false, not_false_eq_true, forall_const, false_implies] at hn2
        clear h1 h2
        go_enter Try.func34, Try.ntmps34
        go_upto_region 1 with fail
        clear hW0
        go_wp2_with (first
          | (refine wpList_load_row rfl tRDisk (.tmp 3) rfl w.heap.size rfl tRDisk _ (0, 0) _ HIN.out.r0 Try.underlying42 rfl (by rw [infoRD, HIN.out.csz]) ?_)
          | (refine wpList_store_abs rfl tRDisk (.tmp 6) (.tmp 20) rfl (w.heap.size + 1) _ rfl rfl tRDisk ref0 HIN.out.r1 (by rw [infoRD, HIN.out.csz]) (by rw [HIN.out.csz]; rfl) HIN.out.ones ?_
             intro W5 HW5 HM5 HS5))
        refine bodyPost_ret (results_cell_tmp rfl _ _ (w.heap.size + 1) _ _ _ _ _ rfl rfl HW5.out Try.underlying42 rfl (by rw [infoRD, HIN.out.csz])) rfl ?_
        exact ref_same HIN.out.ref (Moves.new HIN.out.below HM5 (by omega))
    · have e : d.write n l = d.step ⟨1, n, 0, l⟩ := by unfold D.write; rw [if_neg (by omega), if_neg h2]
      rw [e, h1]
      rw [h1] at HV
      have n1 : ¬ n < 0 := by omega
      have n2 : ¬ d.many ≤ n := by omega
      clear h1 h2 e
      have ne : Nonempty (Wd (Below W0.heap.size W0)) := ⟨⟨_, Below.refl _ _⟩⟩
      have LD : Hid (∀ w', (∃ x : Wd (Below W0.heap.size W0), w' = x.world) → (Instr.loadAt tRDisk (.pointer (some ⟨w.heap.size, 0, none⟩))).run Try.prog w' = .ok (.agg C) w') := by
        rintro w' ⟨x, rfl⟩
        exact run_loadAt_row ((x.ok.block _ (lt_of_row HIN.out.r0)).trans HIN.out.r0) Try.underlying42 rfl (by rw [infoRD, HIN.out.csz])
      go_enter Try.func34, Try.ntmps34
      go_upto_region 1 with fail
      clear hW0
      go_upto_region 5 with fail
      refine wp_region_hoist (fun w' => ∃ x : Wd (Below W0.heap.size W0), w' = x.world) [9, 10] (by kernel_rfl) ?_
      refine wpAnyI_reads [0, 1, 3] 8 _ ⟨⟨_, (Below.refl _ _).drew⟩, rfl⟩ (by kernel_rfl) ?_
      simp only [List.filterMap_cons, List.filterMap_nil, List.getElem?_toArray, List.getElem?_cons_succ, List.getElem?_cons_zero]
      refine wpHoist_load_run rfl tRDisk (.tmp 3) rfl _ LD.out ?_
      repeat (refine wpHoist_step (fun K hK => ?_); simp only [hoists, sameUpon]; go_simp; refine hK _ ?_; clear hK K)
      refine wpHoist_nil ?_
      refine wpAnyI_one 2 7 _ _ rfl (by kernel_rfl) ?_
      refine wpList_plain rfl fun K hK => ?_
      go_simp
      have hb1 : Below W0.heap.size W0 (W0.alloc (.cells #[] tByte)).drew := ((Below.refl _ _).alloc (Nat.le_refl _) _).drew
      have own1 : OwnB (W0.alloc (.cells #[] tByte)).drew W0.heap.size (.slice (some ⟨W0.heap.size, 0, none⟩) 0 0) [] := own_empty W0
      refine hK _ _ (wpList_nil ⟨rfl, fun _ => ⟨⟨_, hb1⟩, rfl⟩, ?_⟩)
      clear hK K
      have OW1 := Lib.hid own1
      clear own1
      generalize (W0.alloc (.cells #[] tByte)).drew = W1 at *
      refine wpAnyI_one 4 6 _ _ rfl (by kernel_rfl) ?_
      refine wpList_append_bytes rfl (.tmp 23) (.tmp 24) rfl W0.heap.size W0.heap.size W0 hb1 (Nat.le_refl _) _ [] rfl OW1.out _ l G rfl (HV.out.keeps (fun k _ hl => (hb1.block k (by have := HIN.out.size; omega)).trans (HIN.out.below.block k hl)) (fun _ h _ => h)) (by have := OK.out.2.2; simp; omega) hb1.size ?_
      intro v1 W2 OW2 hb2 _
      refine wpList_nil ⟨rfl, fun _ => ⟨⟨_, hb2⟩, rfl⟩, ?_⟩
      rw [List.nil_append] at OW2
      have bv2 := inF_fresh (F := F) (w := w) OW2.out (by have := HIN.out.size; omega)
      obtain ⟨a2, c2, rfl⟩ := bv2.slice
      have SC := Lib.hid (rstep_c (HIN.out.at hb2) OK.out.1 OK.out.2.1 ⟨1, n, 0, l⟩ bv2)
      clear bv2
      generalize l.length = ll at *
      refine wpAnyI_reads [5] 5 _ ⟨⟨_, hb2⟩, rfl⟩ (by kernel_rfl) ?_
      simp only [List.filterMap_cons, List.filterMap_nil, List.getElem?_toArray, List.getElem?_cons_succ, List.getElem?_cons_zero]
      repeat (refine wpHoist_step (fun K hK => ?_); simp only [hoists, sameUpon]; go_simp; refine hK _ ?_; clear hK K)
      refine wpHoist_nil ?_
      refine wpAnyI_one 6 4 _ _ rfl (by kernel_rfl) ?_
      refine wpList_plain rfl fun K hK => ?_
      go_simp
      go_at_call 59
      refine SC.out.mono ?_
      rintro e W3 ⟨v3, rfl, hb3, hr3⟩
      obtain ⟨sv, t0, t1, t2, t3, wv, ev, rb, st⟩ := id hr3
      subst ev
      have hb3' : Below W0.heap.size W0 W3 := hb2.trans (hb3.mono hb2.size)
      have R3 := Lib.hid (And.intro hr3 (ref_ones rb st))
      clear rb st hr3 hb3
      refine hK _ _ (wpList_nil ⟨rfl, fun _ => ⟨⟨_, hb3'⟩, rfl⟩, ?_⟩)
      clear hK K
      refine wpAnyI_reads [7, 8] 2 _ ⟨⟨_, hb3'⟩, rfl⟩ (by kernel_rfl) ?_
      simp only [List.filterMap_cons, List.filterMap_nil, List.getElem?_toArray, List.getElem?_cons_succ, List.getElem?_cons_zero]
      repeat (refine wpHoist_step (fun K hK => ?_); simp only [hoists, sameUpon]; go_simp; refine hK _ ?_; clear hK K)
      refine wpHoist_nil ?_
      refine wpAnyI_one 9 1 _ _ rfl (by kernel_rfl) ?_
      refine wpList_store_abs rfl tRDisk (.tmp 6) (.tmp 28) rfl (w.heap.size + 1) _ rfl rfl tRDisk ref0 ((hb3'.block _ (lt_of_row HIN.out.r1)).trans HIN.out.r1) infoRD rfl (R3.out.2 _ _ _ _) ?_
      intro W5 HW5 HM5 HS5
      refine wpList_nil ⟨rfl, fun h => absurd (by decide) h, ?_⟩
      have H5 := Lib.hid HM5
      clear HM5 HS5
      refine wpAnyI_one 10 0 _ _ rfl (by kernel_rfl) ?_
      refine wpList_plain rfl fun K hK => ?_
      go_simp
      refine hK _ _ (wpList_nil ⟨rfl, fun h => absurd (by decide) h, by kernel_rfl, ?_⟩)
      clear hK K
      go_wp2
      refine bodyPost_ret (results_cell_tmp rfl _ _ (w.heap.size + 1) _ _ _ _ _ rfl rfl HW5.out Try.underlying42 rfl infoRD) rfl ?_
      exact ref_give HIN.out.below HIN.out.size hb3' R3.out.1 (plus_inF (by have := hb2.size; have := HIN.out.size; omega)) H5.out
  · have e : d.write n l = (d, 2) := by unfold D.write; rw [if_pos h1]
    rw [e]
    have b1 : ((l.length : Int) == 256) = false := by simp; omega
    have b2 : ((l.length : Int) != 256) = true := by simp; omega
    clear h1 e
    generalize l.length = ll at *
    go_enter Try.func34, Try.ntmps34
    go_upto_region 1 with fail
    clear hW0
    go_wp2_with (first
      | (refine wpList_load_row rfl tRDisk (.tmp 3) rfl w.heap.size rfl tRDisk _ (0, 0) _ HIN.out.r0 Try.underlying42 rfl (by rw [infoRD, HIN.out.csz]) ?_)
      | (refine wpList_store_abs rfl tRDisk (.tmp 6) (.tmp 11) rfl (w.heap.size + 1) _ rfl rfl tRDisk ref0 HIN.out.r1 (by rw [infoRD, HIN.out.csz]) (by rw [HIN.out.csz]; rfl) HIN.out.ones ?_
         intro W5 HW5 HM5 HS5))
    refine bodyPost_ret (results_cell_tmp rfl _ _ (w.heap.size + 1) _ _ _ _ _ rfl rfl HW5.out Try.underlying42 rfl (by rw [infoRD, HIN.out.csz])) rfl ?_
    exact ref_same HIN.out.ref (Moves.new HIN.out.below HM5 (by omega))

end Go.Proofs.Ytiefhmbpaoecfaa

namespace Go.Proofs.Ytiefhmbpaoecfaa
open Go.RowKit Dm

theorem stand_len {d : D} (ok : d.ok) : ∀ t, (d.stand.tp t).length ≤ 1048576 := fun t => by have := stand_tapes ok t; have := ok.room1; omega

set_option maxRecDepth 100000 in
set_option maxHeartbeats 2000000 in
theorem rappend_c {w : World} {F G : Nat → Prop} {v : Value} {d : D} (hr : RefAt w.heap F v d) (ok : d.ok) (hn : d.waits.length ≤ 1000000000000) (n : Int) {bv : Value} {l : List UInt8} (hv : BytesAt w.heap G bv l) (hl : l.length ≤ 1048576) :
    Calls Try.prog 35 #[v, .int .i64 n, bv] w (GivesRef w F (d.append n l)) := by
  obtain ⟨C, rfl, hin⟩ := refIn_of hr
  obtain ⟨W0, hW0⟩ : ∃ W0, refW w C = W0 := ⟨_, rfl⟩
  rw [hW0] at hin
  obtain ⟨ba, bc, eb⟩ := hv.slice
  subst eb
  have HIN := Lib.hid hin
  have HV := Lib.hid hv
  have OK := Lib.hid (And.intro ok (And.intro hn hl))
  have u0 := used_nonneg d.stand
  have u1 := used_le ok
  have hw : IntKind.i64.wrap (d.stand.used + (l.length : Int)) = d.stand.used + (l.length : Int) := IntWalk.i64_in _ (by omega)
  clear hin hv ok hn hr
  by_cases h1 : n < 0 ∨ n > 3
  · have e : d.append n l = (d, 4) := by unfold D.append; rw [if_pos h1]
    rw [e]
    clear e
    by_cases hn0 : n < 0
    all_goals
      have hn2 : ¬ n < 0 → 3 < n := fun h => by omega
      simp only [hn0, not_true_eq_false, not_false_eq_true, forall_const, false_implies] at hn2
      clear h1 hw
      go_enter Try.func35, Try.ntmps35
      go_upto_region 1 with fail
      clear hW0
      go_wp2_with (first
        | (refine wpList_load_row rfl tRDisk (.tmp 3) rfl w.heap.size rfl tRDisk _ (0, 0) _ HIN.out.r0 Try.underlying42 rfl (by rw [infoRD, HIN.out.csz]) ?_)
        | (refine wpList_store_abs rfl tRDisk (.tmp 6) (.tmp 14) rfl (w.heap.size + 1) _ rfl rfl tRDisk ref0 HIN.out.r1 (by rw [infoRD, HIN.out.csz]) (by rw [HIN.out.csz]; rfl) HIN.out.ones ?_
           intro W5 HW5 HM5 HS5))
      refine bodyPost_ret (results_cell_tmp rfl _ _ (w.heap.size + 1) _ _ _ _ _ rfl rfl HW5.out Try.underlying42 rfl (by rw [infoRD, HIN.out.csz])) rfl ?_
      exact ref_same HIN.out.ref (Moves.new HIN.out.below HM5 (by omega))
  · have n1 : ¬ n < 0 := by omega
    have n2 : ¬ 3 < n := by omega
    have ne : Nonempty (Wd (Below W0.heap.size W0)) := ⟨⟨_, Below.refl _ _⟩⟩
    have x1 : ∀ x : Wd (Below W0.heap.size W0), x.world.cell? ⟨w.heap.size, 1, none⟩ = some (.int .i64 d.room) := fun x => (x.ok.cell (p := ⟨w.heap.size, 1, none⟩) (lt_of_row HIN.out.r0)).trans (row_cell HIN.out.r0 HIN.out.c1)
    have LD : Hid (∀ w', (∃ x : Wd (Below W0.heap.size W0), w' = x.world) → (Instr.loadAt tRDisk (.pointer (some ⟨w.heap.size, 0, none⟩))).run Try.prog w' = .ok (.agg C) w') := by
      rintro w' ⟨x, rfl⟩
      exact run_loadAt_row ((x.ok.block _ (lt_of_row HIN.out.r0)).trans HIN.out.r0) Try.underlying42 rfl (by rw [infoRD, HIN.out.csz])
    have ST := Lib.hid (stands_c (HIN.out.at (X := W0.drew) (Below.refl _ _).drew) OK.out.1 OK.out.2.1)
    have hcase : (d.append n l = (d, 280) ∧ d.room < d.stand.used + (l.length : Int)) ∨ (d.append n l = d.step ⟨2, n, 0, l⟩ ∧ ¬ d.room < d.stand.used + (l.length : Int)) := by
      unfold D.append
      rw [if_neg h1]
      by_cases h2 : d.stand.used + (l.length : Int) > d.room
      · exact Or.inl ⟨by rw [if_pos h2], h2⟩
      · exact Or.inr ⟨by rw [if_neg h2], h2⟩
    clear h1
    rcases hcase with ⟨e, h2⟩ | ⟨e, h2⟩
    all_goals
      rw [e]
      clear e
      go_enter Try.func35, Try.ntmps35
      go_upto_region 1 with fail
      clear hW0
      go_upto_region 3 with fail
      refine wp_region_hoist (fun w' => ∃ x : Wd (Below W0.heap.size W0), w' = x.world) [] (by kernel_rfl) ?_
      refine wpAnyI_reads [0, 3, 4, 6, 7] 4 _ ⟨⟨_, (Below.refl _ _).drew⟩, rfl⟩ (by kernel_rfl) ?_
      simp only [List.filterMap_cons, List.filterMap_nil, List.getElem?_toArray, List.getElem?_cons_succ, List.getElem?_cons_zero]
      refine wpHoist_load_run rfl tRDisk (.tmp 3) rfl _ LD.out ?_
      repeat (refine wpHoist_step (fun K hK => ?_); simp only [hoists, sameUpon]; go_simp; refine hK _ ?_; clear hK K)
      refine wpHoist_nil ?_
      refine wpAnyI_one 1 3 _ _ rfl (by kernel_rfl) ?_
      refine wpList_plain rfl fun K hK => ?_
      go_simp
      go_at_call 40
      refine ST.out.mono ?_
      rintro e X1 ⟨sv, t0, t1, t2, t3, rfl, hbx, rbx⟩
      have hbx' : Below W0.heap.size W0 X1 := (Below.refl _ _).drew.trans hbx
      have RX := Lib.hid rbx
      clear rbx hbx
      refine hK _ _ (wpList_nil ⟨rfl, fun _ => ⟨⟨_, hbx'⟩, rfl⟩, ?_⟩)
      clear hK K
      refine wpAnyI_one 2 2 _ _ rfl (by kernel_rfl) ?_
      refine wpList_plain rfl fun K hK => ?_
      go_simp
      go_at_call 56
      refine (rused_c RX.out (stand_len OK.out.1)).mono ?_
      rintro e Y0 ⟨rfl, hby⟩
      have hbY : Below W0.heap.size W0 Y0 := hbx'.trans (hby.mono hbx'.size)
      clear hby hbx' RX
      refine hK _ _ (wpList_nil ⟨rfl, fun _ => ⟨⟨_, hbY⟩, rfl⟩, ?_⟩)
      clear hK K
      refine wpAnyI_reads [5, 8] 0 _ ⟨⟨_, hbY⟩, rfl⟩ (by kernel_rfl) ?_
      simp only [List.filterMap_cons, List.filterMap_nil, List.getElem?_toArray, List.getElem?_cons_succ, List.getElem?_cons_zero]
      repeat (refine wpHoist_step (fun K hK => ?_); simp only [hoists, sameUpon]; go_simp; refine hK _ ?_; clear hK K)
      refine wpHoist_nil ?_
      refine ⟨by kernel_rfl, ?_⟩
    · clear hw x1
      go_wp2_with (first
        | (refine wpList_load_row rfl tRDisk (.tmp 3) rfl w.heap.size rfl tRDisk _ (0, 0) _ ((hbY.block _ (lt_of_row HIN.out.r0)).trans HIN.out.r0) Try.underlying42 rfl (by rw [infoRD, HIN.out.csz]) ?_)
        | (refine wpList_store_abs rfl tRDisk (.tmp 6) (.tmp 24) rfl (w.heap.size + 1) _ rfl rfl tRDisk ref0 ((hbY.block _ (lt_of_row HIN.out.r1)).trans HIN.out.r1) (by rw [infoRD, HIN.out.csz]) (by rw [HIN.out.csz]; rfl) HIN.out.ones ?_
           intro W5 HW5 HM5 HS5))
      refine bodyPost_ret (results_cell_tmp rfl _ _ (w.heap.size + 1) _ _ _ _ _ rfl rfl HW5.out Try.underlying42 rfl (by rw [infoRD, HIN.out.csz])) rfl ?_
      exact ref_same HIN.out.ref (Moves.new (HIN.out.below.trans (hbY.mono HIN.out.below.size)) HM5 (by omega))
    · clear hw x1
      go_upto_region 5 with fail
      refine wp_region_hoist (fun w' => ∃ x : Wd (Below W0.heap.size W0), w' = x.world) [9, 10] (by kernel_rfl) ?_
      refine wpAnyI_reads [0, 1, 3] 8 _ ⟨⟨_, hbY.drew⟩, rfl⟩ (by kernel_rfl) ?_
      simp only [List.filterMap_cons, List.filterMap_nil, List.getElem?_toArray, List.getElem?_cons_succ, List.getElem?_cons_zero]
      refine wpHoist_load_run rfl tRDisk (.tmp 3) rfl _ LD.out ?_
      repeat (refine wpHoist_step (fun K hK => ?_); simp only [hoists, sameUpon]; go_simp; refine hK _ ?_; clear hK K)
      refine wpHoist_nil ?_
      refine wpAnyI_one 2 7 _ _ rfl (by kernel_rfl) ?_
      refine wpList_plain rfl fun K hK => ?_
      go_simp
      have hb1 : Below W0.heap.size W0 (Y0.alloc (.cells #[] tByte)).drew := (hbY.alloc hbY.size _).drew
      have own1 : OwnB (Y0.alloc (.cells #[] tByte)).drew W0.heap.size (.slice (some ⟨Y0.heap.size, 0, none⟩) 0 0) [] := owns_below (own_empty Y0) (Below.refl _ _).drew hbY.size
      refine hK _ _ (wpList_nil ⟨rfl, fun _ => ⟨⟨_, hb1⟩, rfl⟩, ?_⟩)
      clear hK K
      have OW1 := Lib.hid own1
      clear own1
      generalize (Y0.alloc (.cells #[] tByte)).drew = W1 at *
      refine wpAnyI_one 4 6 _ _ rfl (by kernel_rfl) ?_
      refine wpList_append_bytes rfl (.tmp 27) (.tmp 28) rfl W0.heap.size W0.heap.size W0 hb1 (Nat.le_refl _) _ [] rfl OW1.out _ l G rfl (HV.out.keeps (fun k _ hl => (hb1.block k (by have := HIN.out.size; omega)).trans (HIN.out.below.block k hl)) (fun _ h _ => h)) (by have := OK.out.2.2; simp; omega) hb1.size ?_
      intro v1 W2 OW2 hb2 _
      refine wpList_nil ⟨rfl, fun _ => ⟨⟨_, hb2⟩, rfl⟩, ?_⟩
      rw [List.nil_append] at OW2
      have bv2 := inF_fresh (F := F) (w := w) OW2.out (by have := HIN.out.size; omega)
      obtain ⟨a2, c2, rfl⟩ := bv2.slice
      have SC := Lib.hid (rstep_c (HIN.out.at hb2) OK.out.1 OK.out.2.1 ⟨2, n, 0, l⟩ bv2)
      clear bv2
      generalize l.length = ll at *
      refine wpAnyI_reads [5] 5 _ ⟨⟨_, hb2⟩, rfl⟩ (by kernel_rfl) ?_
      simp only [List.filterMap_cons, List.filterMap_nil, List.getElem?_toArray, List.getElem?_cons_succ, List.getElem?_cons_zero]
      repeat (refine wpHoist_step (fun K hK => ?_); simp only [hoists, sameUpon]; go_simp; refine hK _ ?_; clear hK K)
      refine wpHoist_nil ?_
      refine wpAnyI_one 6 4 _ _ rfl (by kernel_rfl) ?_
      refine wpList_plain rfl fun K hK => ?_
      go_simp
      go_at_call 59
      refine SC.out.mono ?_
      rintro e W3 ⟨v3, rfl, hb3, hr3⟩
      obtain ⟨sv, t0, t1, t2, t3, wv, ev, rb, st⟩ := id hr3
      subst ev
      have hb3' : Below W0.heap.size W0 W3 := hb2.trans (hb3.mono hb2.size)
      have R3 := Lib.hid (And.intro hr3 (ref_ones rb st))
      clear rb st hr3 hb3
      refine hK _ _ (wpList_nil ⟨rfl, fun _ => ⟨⟨_, hb3'⟩, rfl⟩, ?_⟩)
      clear hK K
      refine wpAnyI_reads [7, 8] 2 _ ⟨⟨_, hb3'⟩, rfl⟩ (by kernel_rfl) ?_
      simp only [List.filterMap_cons, List.filterMap_nil, List.getElem?_toArray, List.getElem?_cons_succ, List.getElem?_cons_zero]
      repeat (refine wpHoist_step (fun K hK => ?_); simp only [hoists, sameUpon]; go_simp; refine hK _ ?_; clear hK K)
      refine wpHoist_nil ?_
      refine wpAnyI_one 9 1 _ _ rfl (by kernel_rfl) ?_
      refine wpList_store_abs rfl tRDisk (.tmp 6) (.tmp 32) rfl (w.heap.size + 1) _ rfl rfl tRDisk ref0 ((hb3'.block _ (lt_of_row HIN.out.r1)).trans HIN.out.r1) infoRD rfl (R3.out.2 _ _ _ _) ?_
      intro W5 HW5 HM5 HS5
      refine wpList_nil ⟨rfl, fun h => absurd (by decide) h, ?_⟩
      have H5 := Lib.hid HM5
      clear HM5 HS5
      refine wpAnyI_one 10 0 _ _ rfl (by kernel_rfl) ?_
      refine wpList_plain rfl fun K hK => ?_
      go_simp
      refine hK _ _ (wpList_nil ⟨rfl, fun h => absurd (by decide) h, by kernel_rfl, ?_⟩)
      clear hK K
      go_wp2
      refine bodyPost_ret (results_cell_tmp rfl _ _ (w.heap.size + 1) _ _ _ _ _ rfl rfl HW5.out Try.underlying42 rfl infoRD) rfl ?_
      exact ref_give HIN.out.below HIN.out.size hb3' R3.out.1 (plus_inF (by have := hb2.size; have := HIN.out.size; omega)) H5.out

end Go.Proofs.Ytiefhmbpaoecfaa

namespace Go.Proofs.Ytiefhmbpaoecfaa
open Go.RowKit Dm

theorem RB.idx {h : Array Obj} {F : Nat → Prop} {sv t0 t1 t2 t3 : Value} {x : St} {many : Int} (r : RB h F sv t0 t1 t2 t3 x many) (t : Nat) (ht : t < 4) : ∃ v a c, #[t0, t1, t2, t3][t]? = some v ∧ v = .slice a (x.tp t).length c := by
  obtain ⟨secs, s1, s2, b0, b1, b2, b3⟩ := r
  obtain rfl | rfl | rfl | rfl : t = 0 ∨ t = 1 ∨ t = 2 ∨ t = 3 := by omega
  · obtain ⟨a, c, e⟩ := b0.slice; exact ⟨t0, a, c, rfl, e⟩
  · obtain ⟨a, c, e⟩ := b1.slice; exact ⟨t1, a, c, rfl, e⟩
  · obtain ⟨a, c, e⟩ := b2.slice; exact ⟨t2, a, c, rfl, e⟩
  · obtain ⟨a, c, e⟩ := b3.slice; exact ⟨t3, a, c, rfl, e⟩

theorem run_field_tapes (sv t0 t1 t2 t3 : Value) (W : World) : (Instr.field tRBytes (.agg #[sv, t0, t1, t2, t3]) 1).run Try.prog W = .ok (.agg #[t0, t1, t2, t3]) W := by kernel_rfl

set_option maxRecDepth 100000 in
set_option maxHeartbeats 2000000 in
theorem rcut_bad {w : World} {F : Nat → Prop} {v : Value} {d : D} (hr : RefAt w.heap F v d) (t n : Int) (hb : t < 0 ∨ (¬ t < 0 ∧ 3 < t) ∨ (¬ t < 0 ∧ ¬ 3 < t ∧ n < 0)) : Calls Try.prog 36 #[v, .int .i64 t, .int .i64 n] w (GivesRef w F (d, 4)) := by
  obtain ⟨C, rfl, hin⟩ := refIn_of hr
  obtain ⟨W0, hW0⟩ : ∃ W0, refW w C = W0 := ⟨_, rfl⟩
  rw [hW0] at hin
  have HIN := Lib.hid hin
  clear hin hr
  rcases hb with h1 | ⟨h1, h2⟩ | ⟨h1, h2, h3⟩
  all_goals
    go_enter Try.func36, Try.ntmps36
    go_upto_region 1 with fail
    clear hW0
    go_wp2_with (first
      | (refine wpList_load_row rfl tRDisk (.tmp 3) rfl w.heap.size rfl tRDisk _ (0, 0) _ HIN.out.r0 Try.underlying42 rfl (by rw [infoRD, HIN.out.csz]) ?_)
      | (refine wpList_store_abs rfl tRDisk (.tmp 6) (.tmp 28) rfl (w.heap.size + 1) _ rfl rfl tRDisk ref0 HIN.out.r1 (by rw [infoRD, HIN.out.csz]) (by rw [HIN.out.csz]; rfl) HIN.out.ones ?_
         intro W5 HW5 HM5 HS5))
    refine bodyPost_ret (results_cell_tmp rfl _ _ (w.heap.size + 1) _ _ _ _ _ rfl rfl HW5.out Try.underlying42 rfl (by rw [infoRD, HIN.out.csz])) rfl ?_
    exact ref_same HIN.out.ref (Moves.new HIN.out.below HM5 (by omega))

/-- A load that a guard lets run. -/
theorem wpList_load_row_g {P : Program} {ops : Array Oper} {rest : List Oper} {o : Oper} {a : Act} {w : World} {Q : Exit → Act → World → Prop} (hw : Region.wanted o (yielded ops a.tmps) = true) (ty : TypeId) (x : Operand) (ho : o.op = .load ty x)
    (g : Nat) (hx : a.eval x = .pointer (some ⟨g, 0, none⟩)) (t : TypeId) (cs : Array Value) (fr : Nat × Nat) (d : TypeDesc) (hg : w.heap[g]? = some (.cells cs t fr))
    (hu : P.underlying ty = some d) (hd : (match d with | .struct _ | .array _ _ => true | _ => false) = true) (hi : (P.info? ty).map (·.size) = some cs.size)
    (h : wpList P ops Q rest (a.put o.dst (.agg cs)) w) : wpList P ops Q (o :: rest) a w := by
  simp only [wpList, hw, if_true]
  exact Or.inl (wp_load_row ty x ho g hx t cs fr d hg hu hd hi h)

set_option maxRecDepth 100000 in
set_option maxHeartbeats 2000000 in
theorem rcut_c {w : World} {F : Nat → Prop} {v : Value} {d : D} (hr : RefAt w.heap F v d) (ok : d.ok) (hn : d.waits.length ≤ 1000000000000) (t n : Int) : Calls Try.prog 36 #[v, .int .i64 t, .int .i64 n] w (GivesRef w F (d.cut t n)) := by
  by_cases h1 : t < 0 ∨ t > 3 ∨ n < 0
  · have e : d.cut t n = (d, 4) := by unfold D.cut; rw [if_pos (by omega)]
    rw [e]
    exact rcut_bad hr t n (by omega)
  · obtain ⟨t, rfl, ht⟩ := natOf (n := t) (k := 3) (by omega) (by omega)
    obtain ⟨C, rfl, hin⟩ := refIn_of hr
    obtain ⟨W0, hW0⟩ : ∃ W0, refW w C = W0 := ⟨_, rfl⟩
    rw [hW0] at hin
    have HIN := Lib.hid hin
    have OK := Lib.hid (And.intro ok hn)
    have sl := stand_len ok t
    clear hin hr ok hn
    have ST := Lib.hid (stands_c (HIN.out.at (X := W0) (Below.refl _ _)) OK.out.1 OK.out.2)
    have hcase : (d.cut t n = (d, 4) ∧ ((d.stand.tp t).length : Int) < n) ∨ (d.cut t n = d.step ⟨3, t, n, []⟩ ∧ ¬ ((d.stand.tp t).length : Int) < n) := by
      unfold D.cut
      by_cases h2 : n > (d.stand.tp t).length
      · exact Or.inl ⟨by rw [if_pos (by omega)], h2⟩
      · exact Or.inr ⟨by rw [if_neg (by omega)], h2⟩
    have c1 : ¬ (t : Int) < 0 := by omega
    have c2 : ¬ 3 < (t : Int) := by omega
    have c3 : ¬ n < 0 := by omega
    have c4 : ¬ 3 < t := by omega
    clear h1
    rcases hcase with ⟨e, h2⟩ | ⟨e, h2⟩
    · rw [e]
      clear e
      go_enter Try.func36, Try.ntmps36
      go_upto_region 1 with fail
      clear hW0
      go_wp2_with (first
        | (refine wpList_load_row_g (by rfl) tRDisk (.tmp 3) rfl w.heap.size rfl tRDisk C (0, 0) _ HIN.out.r0 Try.underlying42 rfl (by rw [infoRD, HIN.out.csz]) ?_)
        | (go_at_call 40; refine ST.out.mono ?_; rintro e X1 ⟨sv, t0, t1, t2, t3, rfl, hbx, rbx⟩
           obtain ⟨ti, ai, ci, ei, rfl⟩ := rbx.idx t (by omega)
           have hfd := run_field_tapes sv t0 t1 t2 t3
           have hix := fun W => run_index4 t0 t1 t2 t3 t _ ei W
           simp only [Int.ofNat_eq_natCast] at hix
           have HBX := Lib.hid hbx
           clear hbx rbx ei)
        | (refine wpList_load_row rfl tRDisk (.tmp 3) rfl w.heap.size rfl tRDisk C (0, 0) _ ((HBX.out.block _ (lt_of_row HIN.out.r0)).trans HIN.out.r0) Try.underlying42 rfl (by rw [infoRD, HIN.out.csz]) ?_)
        | (refine wpList_store_abs rfl tRDisk (.tmp 6) (.tmp 28) rfl (w.heap.size + 1) _ rfl rfl tRDisk ref0 ((HBX.out.block _ (lt_of_row HIN.out.r1)).trans HIN.out.r1) (by rw [infoRD, HIN.out.csz]) (by rw [HIN.out.csz]; rfl) HIN.out.ones ?_
           intro W5 HW5 HM5 HS5))
      refine bodyPost_ret (results_cell_tmp rfl _ _ (w.heap.size + 1) _ _ _ _ _ rfl rfl HW5.out Try.underlying42 rfl (by rw [infoRD, HIN.out.csz])) rfl ?_
      exact ref_same HIN.out.ref (Moves.new (HIN.out.below.trans (HBX.out.mono HIN.out.below.size)) HM5 (by omega))
    · rw [e]
      clear e
      go_enter Try.func36, Try.ntmps36
      go_upto_region 1 with fail
      clear hW0
      go_wp2_with (first
        | (refine wpList_load_row_g (by rfl) tRDisk (.tmp 3) rfl w.heap.size rfl tRDisk C (0, 0) _ HIN.out.r0 Try.underlying42 rfl (by rw [infoRD, HIN.out.csz]) ?_)
        | (go_at_call 40; refine ST.out.mono ?_; rintro e X1 ⟨sv, t0, t1, t2, t3, rfl, hbx, rbx⟩
           obtain ⟨ti, ai, ci, ei, rfl⟩ := rbx.idx t (by omega)
           have hfd := run_field_tapes sv t0 t1 t2 t3
           have hix := fun W => run_index4 t0 t1 t2 t3 t _ ei W
           simp only [Int.ofNat_eq_natCast] at hix
           have HBX := Lib.hid hbx
           clear hbx rbx ei)
        | (refine wpList_load_row rfl tRDisk (.tmp 3) rfl w.heap.size rfl tRDisk C (0, 0) _ ((HBX.out.block _ (lt_of_row HIN.out.r0)).trans HIN.out.r0) Try.underlying42 rfl (by rw [infoRD, HIN.out.csz]) ?_)
        | (go_at_call 59
           refine (rstep_c (HIN.out.at HBX.out) OK.out.1 OK.out.2 ⟨3, t, n, []⟩ (u := .slice none 0 0) (Or.inl ⟨rfl, rfl⟩)).mono ?_
           rintro e W3 ⟨v3, rfl, hb3, hr3⟩
           obtain ⟨sv3, q0, q1, q2, q3, wv3, ev, rb3, st3⟩ := id hr3
           subst ev
           have R3 := Lib.hid (And.intro hr3 (And.intro (ref_ones rb3 st3) (HBX.out.trans (hb3.mono HBX.out.size))))
           clear rb3 st3 hr3 hb3)
        | (refine wpList_store_abs rfl tRDisk (.tmp 6) (.tmp 34) rfl (w.heap.size + 1) _ rfl rfl tRDisk ref0 ((R3.out.2.2.block _ (lt_of_row HIN.out.r1)).trans HIN.out.r1) infoRD rfl (R3.out.2.1 _ _ _ _) ?_
           intro W5 HW5 HM5 HS5))
      refine bodyPost_ret (results_cell_tmp rfl _ _ (w.heap.size + 1) _ _ _ _ _ rfl rfl HW5.out Try.underlying42 rfl infoRD) rfl ?_
      exact ref_give HIN.out.below HIN.out.size R3.out.2.2 R3.out.1 (plus_inF (by have := HBX.out.size; have := HIN.out.size; omega)) HM5

end Go.Proofs.Ytiefhmbpaoecfaa

namespace Go.Proofs.Ytiefhmbpaoecfaa
open Go.RowKit Dm

theorem RefIn.at0 {w W0 X : World} {F : Nat → Prop} {C : Array Value} {d : D} (h : RefIn w W0 F C d) (hb : Below W0.heap.size W0 X) : RefAt X.heap (fun k => F k ∧ k < w.heap.size) (.agg C) d :=
  h.ref.keeps (fun k _ hl => (hb.block k (by have := h.size; omega)).trans (h.below.block k hl)) (fun k hk hl => ⟨hk, hl⟩)

set_option maxRecDepth 100000 in
set_option maxHeartbeats 2000000 in
theorem rsync_c {w : World} {F : Nat → Prop} {v : Value} {d : D} (hr : RefAt w.heap F v d) (ok : d.ok) (hn : d.waits.length ≤ 1000000000000) : Calls Try.prog 37 #[v] w (GivesRef w F d.sync) := by
  obtain ⟨C, rfl, hin⟩ := refIn_of hr
  obtain ⟨W0, hW0⟩ : ∃ W0, refW w C = W0 := ⟨_, rfl⟩
  rw [hW0] at hin
  have HIN := Lib.hid hin
  have OK := Lib.hid (And.intro ok hn)
  have GO := Lib.hid (rgoes_c (hin.at (Below.refl _ _)) ok)
  clear hin hr ok hn
  rcases goes_two d with h0 | h0
  · have GO2 := Lib.hid (GO.out.mono (R' := fun e w' => GivesRef W0 (InF F w) (d.goes.1, 0) e w') fun e w' ⟨v, h1, h2⟩ => ⟨v, by rw [h0] at h1; exact h1, h2⟩)
    have e2 : d.sync = ({ d.goes.1 with lasts := d.stand, waits := [] }, 0) := by unfold D.sync; rw [if_pos h0]
    rw [e2]
    clear GO e2 h0
    go_enter Try.func37, Try.ntmps37
    go_upto_region 1 with fail
    clear hW0
    go_upto_region 4 with (first
      | (refine wpList_load_row rfl tRDisk (.tmp 1) rfl w.heap.size rfl tRDisk C (0, 0) _ HIN.out.r0 Try.underlying42 rfl (by rw [infoRD, HIN.out.csz]) ?_)
      | (go_at_call 60; refine GO2.out.mono ?_; rintro e W1 ⟨v1, rfl, hb1, sv1, u0, u1, u2, u3, wv1, rfl, rb1, st1⟩
         have R1 := Lib.hid (And.intro hb1 (And.intro rb1 st1))
         clear hb1 rb1 st1)
      | (refine wpList_store_abs rfl tRDisk (.tmp 4) (.tmp 9) rfl W1.heap.size _ rfl rfl tRDisk ref0 (heap_alloc_last W1 _) infoRD rfl (ref_ones R1.out.2.1 R1.out.2.2 _ _ _ _) ?_
         intro W2 HW2 HM2 HS2
         have z2 : W2.heap.size = W1.heap.size + 1 := by rw [HS2]; simp
         have hb2 : Below W0.heap.size W0 W2 := Moves.new (R1.out.1.alloc R1.out.1.size _) HM2 R1.out.1.size
         have R2 := Lib.hid (And.intro hb2 (And.intro HW2.out z2))
         clear HM2 HS2 HW2 z2 hb2)
      | (refine wpList_load_row rfl tRDisk (.tmp 1) rfl w.heap.size rfl tRDisk C (0, 0) _ ((R2.out.1.block _ (lt_of_row HIN.out.r0)).trans HIN.out.r0) Try.underlying42 rfl (by rw [infoRD, HIN.out.csz]) ?_)
      | (go_at_call 40; refine (stands_c (HIN.out.at0 R2.out.1) OK.out.1 OK.out.2).mono ?_; rintro e X1 ⟨sv, t0, t1, t2, t3, rfl, hbx, rbx⟩
         have RX := Lib.hid (And.intro hbx (And.intro rbx ((hbx.block _ (lt_of_row R2.out.2.1)).trans R2.out.2.1)))
         clear hbx rbx)
      | (refine wpList_store_midA rfl tRBytes (.tmp 15) (.tmp 14) rfl W1.heap.size 2 #[sv, t0, t1, t2, t3] rfl rfl tRDisk _ RX.out.2.2 infoRB (by simp [refC]) RX.out.2.1.ones ?_
         intro W3 HW3 HM3 HS3
         have k7 : ∃ v, W3.cell? ⟨W1.heap.size, 7, none⟩ = some v := ⟨_, row_cell HW3.out rfl⟩
         have f7 : W3.frozen? ⟨W1.heap.size, 7, none⟩ = false := row_free HW3.out _
         obtain ⟨v7, k7⟩ := k7
         have R3 := Lib.hid (And.intro HM3 HS3)
         clear HM3 HS3))
    have s0 := heap_setCell_same W3 W1.heap.size 7 _ tRDisk (.slice none 0 0) HW3.out
    have S0 : Hid ((W3.setCell ⟨W1.heap.size, 7, none⟩ (.slice none 0 0)).heap[W1.heap.size]? = some (.cells (refC d.goes.1.many d.goes.1.room sv t0 t1 t2 t3 (.slice none 0 0) d.goes.1.dead d.goes.1.stops) tRDisk (0, 0))) := s0
    have z0 := HIN.out.size
    have z1 := R1.out.1.size
    have z2 := R2.out.2.2
    have z3 := RX.out.1.size
    have s1 : (W3.setCell ⟨W1.heap.size, 7, none⟩ (.slice none 0 0)).heap[w.heap.size + 1]? = some (.cells ref0 tRDisk (0, 0)) := by
      rw [heap_setCell_other _ _ _ _ (by show w.heap.size + 1 ≠ W1.heap.size; omega), R3.out.1.block _ (by omega) (by omega), RX.out.1.block _ (by omega), R2.out.1.block _ (by omega)]
      exact HIN.out.r1
    have S1 := Lib.hid s1
    have blk : ∀ k, k < X1.heap.size → k ≠ W1.heap.size → (W3.setCell ⟨W1.heap.size, 7, none⟩ (.slice none 0 0)).heap[k]? = X1.heap[k]? := fun k hk hne => by
      rw [heap_setCell_other _ _ _ _ hne, R3.out.1.block _ hk hne]
    have bw : Below w.heap.size w (W3.setCell ⟨W1.heap.size, 7, none⟩ (.slice none 0 0)) := by
      refine ⟨R3.out.1.os.trans (RX.out.1.os.trans (R2.out.1.os.trans HIN.out.below.os)), R3.out.1.tape.trans (RX.out.1.tape.trans (R2.out.1.tape.trans HIN.out.below.tape)), R3.out.1.output.trans (RX.out.1.output.trans (R2.out.1.output.trans HIN.out.below.output)), ?_, fun k hk => ?_⟩
      · have := R3.out.1.size; simp; omega
      · rw [blk k (by omega) (by omega), RX.out.1.block _ (by omega), R2.out.1.block _ (by omega)]
        exact HIN.out.below.block k hk
    have sz7 : (W3.setCell ⟨W1.heap.size, 7, none⟩ (.slice none 0 0)).heap.size = X1.heap.size := by have := R3.out.2; simp; omega
    have HB := Lib.hid (And.intro bw (And.intro blk sz7))
    clear s0 s1 blk bw sz7 k7 f7
    generalize (W3.setCell ⟨W1.heap.size, 7, none⟩ (.slice none 0 0)) = W7 at *
    go_wp2_with (first
      | (refine wpList_load_row rfl tRDisk (.tmp 4) rfl W1.heap.size rfl tRDisk _ (0, 0) _ S0.out Try.underlying42 rfl infoRD ?_)
      | (refine wpList_store_abs rfl tRDisk (.tmp 2) (.tmp 17) rfl (w.heap.size + 1) _ rfl rfl tRDisk ref0 S1.out infoRD rfl (ref_ones1 RX.out.2.1 rfl _ _ _ _) ?_
         intro W8 HW8 HM8 HS8))
    refine bodyPost_ret (results_cell_tmp rfl _ _ (w.heap.size + 1) _ _ _ _ _ rfl rfl HW8.out Try.underlying42 rfl infoRD) rfl ?_
    have z8 := HM8.size
    have z9 := HB.out.2.2
    refine ⟨_, rfl, Moves.new HB.out.1 HM8 (by omega), sv, t0, t1, t2, t3, .slice none 0 0, rfl, ?_, Or.inl ⟨rfl, rfl⟩⟩
    rw [goes_many]
    refine RX.out.2.1.keeps (fun k hk hl => ?_) (fun k hk hl => ?_)
    · rw [HM8.block k (by omega) ?_, HB.out.2.1 k hl ?_]
      · rcases hk with hk | hk <;> omega
      · rcases hk with hk | hk <;> omega
    · rcases hk with hk | hk
      · exact Or.inl hk.1
      · exact Or.inr ⟨by omega, by omega⟩
  · have GO2 := Lib.hid (GO.out.mono (R' := fun e w' => GivesRef W0 (InF F w) (d.goes.1, 281) e w') fun e w' ⟨v, h1, h2⟩ => ⟨v, by rw [h0] at h1; exact h1, h2⟩)
    have e2 : d.sync = (d.goes.1, 281) := by unfold D.sync; rw [if_neg (by omega), h0]
    rw [e2]
    clear GO e2 h0
    go_enter Try.func37, Try.ntmps37
    go_upto_region 1 with fail
    clear hW0
    go_wp2_with (first
      | (refine wpList_load_row rfl tRDisk (.tmp 1) rfl w.heap.size rfl tRDisk C (0, 0) _ HIN.out.r0 Try.underlying42 rfl (by rw [infoRD, HIN.out.csz]) ?_)
      | (go_at_call 60; refine GO2.out.mono ?_; rintro e W1 ⟨v1, rfl, hb1, hr1⟩
         obtain ⟨sv1, u0, u1, u2, u3, wv1, ev, rb1, st1⟩ := id hr1
         subst ev
         have R1 := Lib.hid (And.intro hb1 (And.intro (ref_ones rb1 st1) hr1))
         clear hb1 rb1 st1 hr1)
      | (refine wpList_store_abs rfl tRDisk (.tmp 4) (.tmp 9) rfl W1.heap.size _ rfl rfl tRDisk ref0 (heap_alloc_last W1 _) infoRD rfl (R1.out.2.1 _ _ _ _) ?_
         intro W2 HW2 HM2 HS2
         have z2 : W2.heap.size = W1.heap.size + 1 := by rw [HS2]; simp
         have hb2 : Below W1.heap.size W1 W2 := Moves.new ((Below.refl _ _).alloc (Nat.le_refl _) _) HM2 (Nat.le_refl _)
         have R2 := Lib.hid (And.intro hb2 (And.intro HW2.out z2))
         clear HM2 HS2 HW2 z2 hb2)
      | (refine wpList_load_row rfl tRDisk (.tmp 4) rfl W1.heap.size rfl tRDisk _ (0, 0) _ R2.out.2.1 Try.underlying42 rfl infoRD ?_)
      | (refine wpList_store_abs rfl tRDisk (.tmp 2) (.tmp 17) rfl (w.heap.size + 1) _ rfl rfl tRDisk ref0 ((R2.out.1.block _ (by have := R1.out.1.size; have := HIN.out.size; omega)).trans ((R1.out.1.block _ (lt_of_row HIN.out.r1)).trans HIN.out.r1)) infoRD rfl (R1.out.2.1 _ _ _ _) ?_
         intro W8 HW8 HM8 HS8))
    refine bodyPost_ret (results_cell_tmp rfl _ _ (w.heap.size + 1) _ _ _ _ _ rfl rfl HW8.out Try.underlying42 rfl infoRD) rfl ?_
    exact ref_give HIN.out.below HIN.out.size (R1.out.1.trans (R2.out.1.mono R1.out.1.size)) (R1.out.2.2.keeps (F' := plus (InF F w) W0 W1) (fun k _ hl => R2.out.1.block k hl) (fun _ h _ => h)) (plus_inF (by have := HIN.out.size; omega)) HM8

end Go.Proofs.Ytiefhmbpaoecfaa
