/-
  The document's disk: Write.
  The document's disk: Append, Cut.
  The document's disk: Cut, Sync.
  The document's disk: a sector; pick; part.
  A region that draws its order: operations that read no memory may be taken first, whatever else may come.
-/
import Derived.Test.YtiefhmbpaoecfaaG04
import Derived.Test.YtiefhmbpaoecfaaG07
import Derived.Test.YtiefhmbpaoecfaaG16

namespace Go.Proofs.Ytiefhmbpaoecfaa
open Go.RowKit Dm

theorem ref_same {w W5 : World} {F : Nat → Prop} {v : Value} {d : D} {c : Int} (hr : RefAt w.heap F v d) (hb : Below w.heap.size w W5) : GivesRef w F (d, c) (.returned (.tuple #[v, .int .i64 c])) W5 := ⟨v, rfl, hb, hr.plus hb⟩

/-- A disk that a callee gave, handed on through the result's block. -/
theorem ref_give {w W0 W4 W5 : World} {F G : Nat → Prop} {v : Value} {d : D} {c : Int} (hb0 : Below w.heap.size w W0) (z0 : W0.heap.size = w.heap.size + 2) (hb4 : Below W0.heap.size W0 W4) (hr : RefAt W4.heap G v d) (hG : ∀ k, G k → (F k ∧ k < w.heap.size) ∨ w.heap.size + 2 ≤ k) (hM : Moves (fun k => k = w.heap.size + 1) W4 W5) :
    GivesRef w F (d, c) (.returned (.tuple #[v, .int .i64 c])) W5 := by
  have z4 := hb4.size
  have z5 := hM.size
  have hb5 : Below w.heap.size w W5 := Moves.new (hb0.trans (hb4.mono (by omega))) hM (by omega)
  refine ⟨v, rfl, hb5, hr.keeps (fun k hk hl => hM.block k hl ?_) (fun k hk hl => ?_)⟩
  · rcases hG k hk with h | h
    · omega
    · omega
  · rcases hG k hk with h | h
    · exact Or.inl h.1
    · exact Or.inr ⟨by omega, by omega⟩

/-- The set-up of a call on the document's disk. -/
structure RefIn (w W0 : World) (F : Nat → Prop) (C : Array Value) (d : D) : Prop where
  below : Below w.heap.size w W0
  r0 : W0.heap[w.heap.size]? = some (.cells C tRDisk (0, 0))
  r1 : W0.heap[w.heap.size + 1]? = some (.cells ref0 tRDisk (0, 0))
  size : W0.heap.size = w.heap.size + 2
  ref : RefAt w.heap F (.agg C) d
  csz : C.size = 10
  ones : C.all (·.oneCell') = true
  c0 : C[0]? = some (.int .i64 d.many)
  c1 : C[1]? = some (.int .i64 d.room)

theorem refIn_of {w : World} {F : Nat → Prop} {v : Value} {d : D} (hr : RefAt w.heap F v d) : ∃ C, v = .agg C ∧ RefIn w (refW w C) F C d := by
  have hr0 := hr
  obtain ⟨sv, t0, t1, t2, t3, wv, rfl, rb, st⟩ := hr
  refine ⟨_, rfl, ?_⟩
  obtain ⟨b0, r0, r1, z0⟩ := refW_facts w (refC d.many d.room sv t0 t1 t2 t3 wv d.dead d.stops)
  exact ⟨b0, r0, r1, z0, hr0, rfl, ref_ones rb st _ _ _ _, rfl, rfl⟩

/-- The footprint within a call. -/
def InF (F : Nat → Prop) (w : World) : Nat → Prop := fun k => (F k ∧ k < w.heap.size) ∨ w.heap.size + 2 ≤ k

theorem RefIn.at {w W0 X : World} {F : Nat → Prop} {C : Array Value} {d : D} (h : RefIn w W0 F C d) (hb : Below W0.heap.size W0 X) : RefAt X.heap (InF F w) (.agg C) d :=
  h.ref.keeps (fun k _ hl => (hb.block k (by have := h.size; omega)).trans (h.below.block k hl)) (fun k hk hl => Or.inl ⟨hk, hl⟩)

/-- A new row of bytes, within a call. -/
theorem inF_fresh {w X : World} {F : Nat → Prop} {base : Nat} {v : Value} {l : List UInt8} (h : OwnB X base v l) (hb : w.heap.size + 2 ≤ base) : BytesAt X.heap (InF F w) v l :=
  h.bytes.bytes.keeps (fun _ _ _ => rfl) (fun k hk _ => Or.inr (by have : base ≤ k := hk; omega))

theorem plus_inF {F : Nat → Prop} {w X Y : World} (hX : w.heap.size + 2 ≤ X.heap.size) : ∀ k, plus (InF F w) X Y k → (F k ∧ k < w.heap.size) ∨ w.heap.size + 2 ≤ k := fun k hk => by
  rcases hk with hk | hk
  · exact hk
  · exact Or.inr (by omega)

set_option maxRecDepth 100000 in
set_option maxHeartbeats 2000000 in
theorem rwrite_c {w : World} {F G : Nat → Prop} {v : Value} {d : D} (hr : RefAt w.heap F v d) (ok : d.ok) (hn : d.waits.length ≤ 1000000000000) (n : Int) {bv : Value} {l : List UInt8} (hv : BytesAt w.heap G bv l) (hl : l.length ≤ 1048576) :
    Calls Try.prog 34 #[v, .int .i64 n, bv] w (GivesRef w F (d.write n l)) := by
  obtain ⟨C, rfl, hin⟩ := refIn_of hr
  obtain ⟨W0, hW0⟩ : ∃ W0, refW w C = W0 := ⟨_, rfl⟩
  rw [hW0] at hin
  obtain ⟨ba, bc, eb⟩ := hv.slice
  subst eb
  have kM : W0.cell? ⟨w.heap.size, 0, none⟩ = some (.int .i64 d.many) := row_cell hin.r0 hin.c0
  have HIN := Lib.hid hin
  have HV := Lib.hid hv
  have OK := Lib.hid (And.intro ok (And.intro hn hl))
  clear hin hv ok hn hr
  by_cases h1 : l.length = 256
  · by_cases h2 : n < 0 ∨ n ≥ d.many
    · have e : d.write n l = (d, 4) := by unfold D.write; rw [if_neg (by omega), if_pos h2]
      rw [e, h1]
      have E := Lib.hid e
      clear e
      by_cases hn0 : n < 0
      all_goals
        have hn2 : ¬ n < 0 → d.many ≤ n := fun h => by omega
        simp only [hn0, not_true_eq_false, not_false_eq_true, forall_const, false_implies] at hn2
        clear h1 h2
        go_enter Try.func34, Try.ntmps34
        go_upto_region 1 with fail
        clear hW0
        go_wp2_with (first
          | (refine wpList_load_row rfl tRDisk (.tmp 3) rfl w.heap.size rfl tRDisk _ (0, 0) _ HIN.out.r0 Try.underlying42 rfl (by rw [infoRD, HIN.out.csz]) ?_)
          | (refine wpList_store_abs rfl tRDisk (.tmp 6) (.tmp 20) rfl (w.heap.size + 1) _ rfl rfl tRDisk ref0 HIN.out.r1 (by rw [infoRD, HIN.out.csz]) (by rw [HIN.out.csz]; rfl) HIN.out.ones ?_
             intro W5 HW5 HM5 HS5))
        refine bodyPost_ret (results_cell_tmp rfl _ _ (w.heap.size + 1) _ _ _ _ _ rfl rfl HW5.out Try.underlying42 rfl (by rw [infoRD, HIN.out.csz])) rfl ?_
        exact ref_same HIN.out.ref (Moves.new HIN.out.below HM5 (by omega))
    · have e : d.write n l = d.step ⟨1, n, 0, l⟩ := by unfold D.write; rw [if_neg (by omega), if_neg h2]
      rw [e, h1]
      rw [h1] at HV
      have n1 : ¬ n < 0 := by omega
      have n2 : ¬ d.many ≤ n := by omega
      clear h1 h2 e
      have ne : Nonempty (Wd (Below W0.heap.size W0)) := ⟨⟨_, Below.refl _ _⟩⟩
      have LD : Hid (∀ w', (∃ x : Wd (Below W0.heap.size W0), w' = x.world) → (Instr.loadAt tRDisk (.pointer (some ⟨w.heap.size, 0, none⟩))).run Try.prog w' = .ok (.agg C) w') := by
        rintro w' ⟨x, rfl⟩
        exact run_loadAt_row ((x.ok.block _ (lt_of_row HIN.out.r0)).trans HIN.out.r0) Try.underlying42 rfl (by rw [infoRD, HIN.out.csz])
      go_enter Try.func34, Try.ntmps34
      go_upto_region 1 with fail
      clear hW0
      go_upto_region 5 with fail
      refine wp_region_hoist (fun w' => ∃ x : Wd (Below W0.heap.size W0), w' = x.world) [9, 10] (by kernel_rfl) ?_
      refine wpAnyI_reads [0, 1, 3] 8 _ ⟨⟨_, (Below.refl _ _).drew⟩, rfl⟩ (by kernel_rfl) ?_
      simp only [List.filterMap_cons, List.filterMap_nil, List.getElem?_toArray, List.getElem?_cons_succ, List.getElem?_cons_zero]
      refine wpHoist_load_run rfl tRDisk (.tmp 3) rfl _ LD.out ?_
      repeat (refine wpHoist_step (fun K hK => ?_); simp only [hoists, sameUpon]; go_simp; refine hK _ ?_; clear hK K)
      refine wpHoist_nil ?_
      refine wpAnyI_one 2 7 _ _ rfl (by kernel_rfl) ?_
      refine wpList_plain rfl fun K hK => ?_
      go_simp
      have hb1 : Below W0.heap.size W0 (W0.alloc (.cells #[] tByte)).drew := ((Below.refl _ _).alloc (Nat.le_refl _) _).drew
      have own1 : OwnB (W0.alloc (.cells #[] tByte)).drew W0.heap.size (.slice (some ⟨W0.heap.size, 0, none⟩) 0 0) [] := own_empty W0
      refine hK _ _ (wpList_nil ⟨rfl, fun _ => ⟨⟨_, hb1⟩, rfl⟩, ?_⟩)
      clear hK K
      have OW1 := Lib.hid own1
      clear own1
      generalize (W0.alloc (.cells #[] tByte)).drew = W1 at *
      refine wpAnyI_one 4 6 _ _ rfl (by kernel_rfl) ?_
      refine wpList_append_bytes rfl (.tmp 23) (.tmp 24) rfl W0.heap.size W0.heap.size W0 hb1 (Nat.le_refl _) _ [] rfl OW1.out _ l G rfl (HV.out.keeps (fun k _ hl => (hb1.block k (by have := HIN.out.size; omega)).trans (HIN.out.below.block k hl)) (fun _ h _ => h)) (by have := OK.out.2.2; simp; omega) hb1.size ?_
      intro v1 W2 OW2 hb2 _
      refine wpList_nil ⟨rfl, fun _ => ⟨⟨_, hb2⟩, rfl⟩, ?_⟩
      rw [List.nil_append] at OW2
      have bv2 := inF_fresh (F := F) (w := w) OW2.out (by have := HIN.out.size; omega)
      obtain ⟨a2, c2, rfl⟩ := bv2.slice
      have SC := Lib.hid (rstep_c (HIN.out.at hb2) OK.out.1 OK.out.2.1 ⟨1, n, 0, l⟩ bv2)
      clear bv2
      generalize l.length = ll at *
      refine wpAnyI_reads [5] 5 _ ⟨⟨_, hb2⟩, rfl⟩ (by kernel_rfl) ?_
      simp only [List.filterMap_cons, List.filterMap_nil, List.getElem?_toArray, List.getElem?_cons_succ, List.getElem?_cons_zero]
      repeat (refine wpHoist_step (fun K hK => ?_); simp only [hoists, sameUpon]; go_simp; refine hK _ ?_; clear hK K)
      refine wpHoist_nil ?_
      refine wpAnyI_one 6 4 _ _ rfl (by kernel_rfl) ?_
      refine wpList_plain rfl fun K hK => ?_
      go_simp
      go_at_call 59
      refine SC.out.mono ?_
      rintro e W3 ⟨v3, rfl, hb3, hr3⟩
      obtain ⟨sv, t0, t1, t2, t3, wv, ev, rb, st⟩ := id hr3
      subst ev
      have hb3' : Below W0.heap.size W0 W3 := hb2.trans (hb3.mono hb2.size)
      have R3 := Lib.hid (And.intro hr3 (ref_ones rb st))
      clear rb st hr3 hb3
      refine hK _ _ (wpList_nil ⟨rfl, fun _ => ⟨⟨_, hb3'⟩, rfl⟩, ?_⟩)
      clear hK K
      refine wpAnyI_reads [7, 8] 2 _ ⟨⟨_, hb3'⟩, rfl⟩ (by kernel_rfl) ?_
      simp only [List.filterMap_cons, List.filterMap_nil, List.getElem?_toArray, List.getElem?_cons_succ, List.getElem?_cons_zero]
      repeat (refine wpHoist_step (fun K hK => ?_); simp only [hoists, sameUpon]; go_simp; refine hK _ ?_; clear hK K)
      refine wpHoist_nil ?_
      refine wpAnyI_one 9 1 _ _ rfl (by kernel_rfl) ?_
      refine wpList_store_abs rfl tRDisk (.tmp 6) (.tmp 28) rfl (w.heap.size + 1) _ rfl rfl tRDisk ref0 ((hb3'.block _ (lt_of_row HIN.out.r1)).trans HIN.out.r1) infoRD rfl (R3.out.2 _ _ _ _) ?_
      intro W5 HW5 HM5 HS5
      refine wpList_nil ⟨rfl, fun h => absurd (by decide) h, ?_⟩
      have H5 := Lib.hid HM5
      clear HM5 HS5
      refine wpAnyI_one 10 0 _ _ rfl (by kernel_rfl) ?_
      refine wpList_plain rfl fun K hK => ?_
      go_simp
      refine hK _ _ (wpList_nil ⟨rfl, fun h => absurd (by decide) h, by kernel_rfl, ?_⟩)
      clear hK K
      go_wp2
      refine bodyPost_ret (results_cell_tmp rfl _ _ (w.heap.size + 1) _ _ _ _ _ rfl rfl HW5.out Try.underlying42 rfl infoRD) rfl ?_
      exact ref_give HIN.out.below HIN.out.size hb3' R3.out.1 (plus_inF (by have := hb2.size; have := HIN.out.size; omega)) H5.out
  · have e : d.write n l = (d, 2) := by unfold D.write; rw [if_pos h1]
    rw [e]
    have b1 : ((l.length : Int) == 256) = false := by simp; omega
    have b2 : ((l.length : Int) != 256) = true := by simp; omega
    clear h1 e
    generalize l.length = ll at *
    go_enter Try.func34, Try.ntmps34
    go_upto_region 1 with fail
    clear hW0
    go_wp2_with (first
      | (refine wpList_load_row rfl tRDisk (.tmp 3) rfl w.heap.size rfl tRDisk _ (0, 0) _ HIN.out.r0 Try.underlying42 rfl (by rw [infoRD, HIN.out.csz]) ?_)
      | (refine wpList_store_abs rfl tRDisk (.tmp 6) (.tmp 11) rfl (w.heap.size + 1) _ rfl rfl tRDisk ref0 HIN.out.r1 (by rw [infoRD, HIN.out.csz]) (by rw [HIN.out.csz]; rfl) HIN.out.ones ?_
         intro W5 HW5 HM5 HS5))
    refine bodyPost_ret (results_cell_tmp rfl _ _ (w.heap.size + 1) _ _ _ _ _ rfl rfl HW5.out Try.underlying42 rfl (by rw [infoRD, HIN.out.csz])) rfl ?_
    exact ref_same HIN.out.ref (Moves.new HIN.out.below HM5 (by omega))

end Go.Proofs.Ytiefhmbpaoecfaa

namespace Go.Proofs.Ytiefhmbpaoecfaa
open Go.RowKit Dm

theorem stand_len {d : D} (ok : d.ok) : ∀ t, (d.stand.tp t).length ≤ 1048576 := fun t => by have := stand_tapes ok t; have := ok.room1; omega

set_option maxRecDepth 100000 in
set_option maxHeartbeats 2000000 in
theorem rappend_c {w : World} {F G : Nat → Prop} {v : Value} {d : D} (hr : RefAt w.heap F v d) (ok : d.ok) (hn : d.waits.length ≤ 1000000000000) (n : Int) {bv : Value} {l : List UInt8} (hv : BytesAt w.heap G bv l) (hl : l.length ≤ 1048576) :
    Calls Try.prog 35 #[v, .int .i64 n, bv] w (GivesRef w F (d.append n l)) := by
  obtain ⟨C, rfl, hin⟩ := refIn_of hr
  obtain ⟨W0, hW0⟩ : ∃ W0, refW w C = W0 := ⟨_, rfl⟩
  rw [hW0] at hin
  obtain ⟨ba, bc, eb⟩ := hv.slice
  subst eb
  have HIN := Lib.hid hin
  have HV := Lib.hid hv
  have OK := Lib.hid (And.intro ok (And.intro hn hl))
  have u0 := used_nonneg d.stand
  have u1 := used_le ok
  have hw : IntKind.i64.wrap (d.stand.used + (l.length : Int)) = d.stand.used + (l.length : Int) := IntWalk.i64_in _ (by omega)
  clear hin hv ok hn hr
  by_cases h1 : n < 0 ∨ n > 3
  · have e : d.append n l = (d, 4) := by unfold D.append; rw [if_pos h1]
    rw [e]
    clear e
    by_cases hn0 : n < 0
    all_goals
      have hn2 : ¬ n < 0 → 3 < n := fun h => by omega
      simp only [hn0, not_true_eq_false, not_false_eq_true, forall_const, false_implies] at hn2
      clear h1 hw
      go_enter Try.func35, Try.ntmps35
      go_upto_region 1 with fail
      clear hW0
      go_wp2_with (first
        | (refine wpList_load_row rfl tRDisk (.tmp 3) rfl w.heap.size rfl tRDisk _ (0, 0) _ HIN.out.r0 Try.underlying42 rfl (by rw [infoRD, HIN.out.csz]) ?_)
        | (refine wpList_store_abs rfl tRDisk (.tmp 6) (.tmp 14) rfl (w.heap.size + 1) _ rfl rfl tRDisk ref0 HIN.out.r1 (by rw [infoRD, HIN.out.csz]) (by rw [HIN.out.csz]; rfl) HIN.out.ones ?_
           intro W5 HW5 HM5 HS5))
      refine bodyPost_ret (results_cell_tmp rfl _ _ (w.heap.size + 1) _ _ _ _ _ rfl rfl HW5.out Try.underlying42 rfl (by rw [infoRD, HIN.out.csz])) rfl ?_
      exact ref_same HIN.out.ref (Moves.new HIN.out.below HM5 (by omega))
  · have n1 : ¬ n < 0 := by omega
    have n2 : ¬ 3 < n := by omega
    have ne : Nonempty (Wd (Below W0.heap.size W0)) := ⟨⟨_, Below.refl _ _⟩⟩
    have x1 : ∀ x : Wd (Below W0.heap.size W0), x.world.cell? ⟨w.heap.size, 1, none⟩ = some (.int .i64 d.room) := fun x => (x.ok.cell (p := ⟨w.heap.size, 1, none⟩) (lt_of_row HIN.out.r0)).trans (row_cell HIN.out.r0 HIN.out.c1)
    have LD : Hid (∀ w', (∃ x : Wd (Below W0.heap.size W0), w' = x.world) → (Instr.loadAt tRDisk (.pointer (some ⟨w.heap.size, 0, none⟩))).run Try.prog w' = .ok (.agg C) w') := by
      rintro w' ⟨x, rfl⟩
      exact run_loadAt_row ((x.ok.block _ (lt_of_row HIN.out.r0)).trans HIN.out.r0) Try.underlying42 rfl (by rw [infoRD, HIN.out.csz])
    have ST := Lib.hid (stands_c (HIN.out.at (X := W0.drew) (Below.refl _ _).drew) OK.out.1 OK.out.2.1)
    have hcase : (d.append n l = (d, 280) ∧ d.room < d.stand.used + (l.length : Int)) ∨ (d.append n l = d.step ⟨2, n, 0, l⟩ ∧ ¬ d.room < d.stand.used + (l.length : Int)) := by
      unfold D.append
      rw [if_neg h1]
      by_cases h2 : d.stand.used + (l.length : Int) > d.room
      · exact Or.inl ⟨by rw [if_pos h2], h2⟩
      · exact Or.inr ⟨by rw [if_neg h2], h2⟩
    clear h1
    rcases hcase with ⟨e, h2⟩ | ⟨e, h2⟩
    all_goals
      rw [e]
      clear e
      go_enter Try.func35, Try.ntmps35
      go_upto_region 1 with fail
      clear hW0
      go_upto_region 3 with fail
      refine wp_region_hoist (fun w' => ∃ x : Wd (Below W0.heap.size W0), w' = x.world) [] (by kernel_rfl) ?_
      refine wpAnyI_reads [0, 3, 4, 6, 7] 4 _ ⟨⟨_, (Below.refl _ _).drew⟩, rfl⟩ (by kernel_rfl) ?_
      simp only [List.filterMap_cons, List.filterMap_nil, List.getElem?_toArray, List.getElem?_cons_succ, List.getElem?_cons_zero]
      refine wpHoist_load_run rfl tRDisk (.tmp 3) rfl _ LD.out ?_
      repeat (refine wpHoist_step (fun K hK => ?_); simp only [hoists, sameUpon]; go_simp; refine hK _ ?_; clear hK K)
      refine wpHoist_nil ?_
      refine wpAnyI_one 1 3 _ _ rfl (by kernel_rfl) ?_
      refine wpList_plain rfl fun K hK => ?_
      go_simp
      go_at_call 40
      refine ST.out.mono ?_
      rintro e X1 ⟨sv, t0, t1, t2, t3, rfl, hbx, rbx⟩
      have hbx' : Below W0.heap.size W0 X1 := (Below.refl _ _).drew.trans hbx
      have RX := Lib.hid rbx
      clear rbx hbx
      refine hK _ _ (wpList_nil ⟨rfl, fun _ => ⟨⟨_, hbx'⟩, rfl⟩, ?_⟩)
      clear hK K
      refine wpAnyI_one 2 2 _ _ rfl (by kernel_rfl) ?_
      refine wpList_plain rfl fun K hK => ?_
      go_simp
      go_at_call 56
      refine (rused_c RX.out (stand_len OK.out.1)).mono ?_
      rintro e Y0 ⟨rfl, hby⟩
      have hbY : Below W0.heap.size W0 Y0 := hbx'.trans (hby.mono hbx'.size)
      clear hby hbx' RX
      refine hK _ _ (wpList_nil ⟨rfl, fun _ => ⟨⟨_, hbY⟩, rfl⟩, ?_⟩)
      clear hK K
      refine wpAnyI_reads [5, 8] 0 _ ⟨⟨_, hbY⟩, rfl⟩ (by kernel_rfl) ?_
      simp only [List.filterMap_cons, List.filterMap_nil, List.getElem?_toArray, List.getElem?_cons_succ, List.getElem?_cons_zero]
      repeat (refine wpHoist_step (fun K hK => ?_); simp only [hoists, sameUpon]; go_simp; refine hK _ ?_; clear hK K)
      refine wpHoist_nil ?_
      refine ⟨by kernel_rfl, ?_⟩
    · clear hw x1
      go_wp2_with (first
        | (refine wpList_load_row rfl tRDisk (.tmp 3) rfl w.heap.size rfl tRDisk _ (0, 0) _ ((hbY.block _ (lt_of_row HIN.out.r0)).trans HIN.out.r0) Try.underlying42 rfl (by rw [infoRD, HIN.out.csz]) ?_)
        | (refine wpList_store_abs rfl tRDisk (.tmp 6) (.tmp 24) rfl (w.heap.size + 1) _ rfl rfl tRDisk ref0 ((hbY.block _ (lt_of_row HIN.out.r1)).trans HIN.out.r1) (by rw [infoRD, HIN.out.csz]) (by rw [HIN.out.csz]; rfl) HIN.out.ones ?_
           intro W5 HW5 HM5 HS5))
      refine bodyPost_ret (results_cell_tmp rfl _ _ (w.heap.size + 1) _ _ _ _ _ rfl rfl HW5.out Try.underlying42 rfl (by rw [infoRD, HIN.out.csz])) rfl ?_
      exact ref_same HIN.out.ref (Moves.new (HIN.out.below.trans (hbY.mono HIN.out.below.size)) HM5 (by omega))
    · clear hw x1
      go_upto_region 5 with fail
      refine wp_region_hoist (fun w' => ∃ x : Wd (Below W0.heap.size W0), w' = x.world) [9, 10] (by kernel_rfl) ?_
      refine wpAnyI_reads [0, 1, 3] 8 _ ⟨⟨_, hbY.drew⟩, rfl⟩ (by kernel_rfl) ?_
      simp only [List.filterMap_cons, List.filterMap_nil, List.getElem?_toArray, List.getElem?_cons_succ, List.getElem?_cons_zero]
      refine wpHoist_load_run rfl tRDisk (.tmp 3) rfl _ LD.out ?_
      repeat (refine wpHoist_step (fun K hK => ?_); simp only [hoists, sameUpon]; go_simp; refine hK _ ?_; clear hK K)
      refine wpHoist_nil ?_
      refine wpAnyI_one 2 7 _ _ rfl (by kernel_rfl) ?_
      refine wpList_plain rfl fun K hK => ?_
      go_simp
      have hb1 : Below W0.heap.size W0 (Y0.alloc (.cells #[] tByte)).drew := (hbY.alloc hbY.size _).drew
      have own1 : OwnB (Y0.alloc (.cells #[] tByte)).drew W0.heap.size (.slice (some ⟨Y0.heap.size, 0, none⟩) 0 0) [] := owns_below (own_empty Y0) (Below.refl _ _).drew hbY.size
      refine hK _ _ (wpList_nil ⟨rfl, fun _ => ⟨⟨_, hb1⟩, rfl⟩, ?_⟩)
      clear hK K
      have OW1 := Lib.hid own1
      clear own1
      generalize (Y0.alloc (.cells #[] tByte)).drew = W1 at *
      refine wpAnyI_one 4 6 _ _ rfl (by kernel_rfl) ?_
      refine wpList_append_bytes rfl (.tmp 27) (.tmp 28) rfl W0.heap.size W0.heap.size W0 hb1 (Nat.le_refl _) _ [] rfl OW1.out _ l G rfl (HV.out.keeps (fun k _ hl => (hb1.block k (by have := HIN.out.size; omega)).trans (HIN.out.below.block k hl)) (fun _ h _ => h)) (by have := OK.out.2.2; simp; omega) hb1.size ?_
      intro v1 W2 OW2 hb2 _
      refine wpList_nil ⟨rfl, fun _ => ⟨⟨_, hb2⟩, rfl⟩, ?_⟩
      rw [List.nil_append] at OW2
      have bv2 := inF_fresh (F := F) (w := w) OW2.out (by have := HIN.out.size; omega)
      obtain ⟨a2, c2, rfl⟩ := bv2.slice
      have SC := Lib.hid (rstep_c (HIN.out.at hb2) OK.out.1 OK.out.2.1 ⟨2, n, 0, l⟩ bv2)
      clear bv2
      generalize l.length = ll at *
      refine wpAnyI_reads [5] 5 _ ⟨⟨_, hb2⟩, rfl⟩ (by kernel_rfl) ?_
      simp only [List.filterMap_cons, List.filterMap_nil, List.getElem?_toArray, List.getElem?_cons_succ, List.getElem?_cons_zero]
      repeat (refine wpHoist_step (fun K hK => ?_); simp only [hoists, sameUpon]; go_simp; refine hK _ ?_; clear hK K)
      refine wpHoist_nil ?_
      refine wpAnyI_one 6 4 _ _ rfl (by kernel_rfl) ?_
      refine wpList_plain rfl fun K hK => ?_
      go_simp
      go_at_call 59
      refine SC.out.mono ?_
      rintro e W3 ⟨v3, rfl, hb3, hr3⟩
      obtain ⟨sv, t0, t1, t2, t3, wv, ev, rb, st⟩ := id hr3
      subst ev
      have hb3' : Below W0.heap.size W0 W3 := hb2.trans (hb3.mono hb2.size)
      have R3 := Lib.hid (And.intro hr3 (ref_ones rb st))
      clear rb st hr3 hb3
      refine hK _ _ (wpList_nil ⟨rfl, fun _ => ⟨⟨_, hb3'⟩, rfl⟩, ?_⟩)
      clear hK K
      refine wpAnyI_reads [7, 8] 2 _ ⟨⟨_, hb3'⟩, rfl⟩ (by kernel_rfl) ?_
      simp only [List.filterMap_cons, List.filterMap_nil, List.getElem?_toArray, List.getElem?_cons_succ, List.getElem?_cons_zero]
      repeat (refine wpHoist_step (fun K hK => ?_); simp only [hoists, sameUpon]; go_simp; refine hK _ ?_; clear hK K)
      refine wpHoist_nil ?_
      refine wpAnyI_one 9 1 _ _ rfl (by kernel_rfl) ?_
      refine wpList_store_abs rfl tRDisk (.tmp 6) (.tmp 32) rfl (w.heap.size + 1) _ rfl rfl tRDisk ref0 ((hb3'.block _ (lt_of_row HIN.out.r1)).trans HIN.out.r1) infoRD rfl (R3.out.2 _ _ _ _) ?_
      intro W5 HW5 HM5 HS5
      refine wpList_nil ⟨rfl, fun h => absurd (by decide) h, ?_⟩
      have H5 := Lib.hid HM5
      clear HM5 HS5
      refine wpAnyI_one 10 0 _ _ rfl (by kernel_rfl) ?_
      refine wpList_plain rfl fun K hK => ?_
      go_simp
      refine hK _ _ (wpList_nil ⟨rfl, fun h => absurd (by decide) h, by kernel_rfl, ?_⟩)
      clear hK K
      go_wp2
      refine bodyPost_ret (results_cell_tmp rfl _ _ (w.heap.size + 1) _ _ _ _ _ rfl rfl HW5.out Try.underlying42 rfl infoRD) rfl ?_
      exact ref_give HIN.out.below HIN.out.size hb3' R3.out.1 (plus_inF (by have := hb2.size; have := HIN.out.size; omega)) H5.out

end Go.Proofs.Ytiefhmbpaoecfaa

namespace Go.Proofs.Ytiefhmbpaoecfaa
open Go.RowKit Dm

theorem RB.idx {h : Array Obj} {F : Nat → Prop} {sv t0 t1 t2 t3 : Value} {x : St} {many : Int} (r : RB h F sv t0 t1 t2 t3 x many) (t : Nat) (ht : t < 4) : ∃ v a c, #[t0, t1, t2, t3][t]? = some v ∧ v = .slice a (x.tp t).length c := by
  obtain ⟨secs, s1, s2, b0, b1, b2, b3⟩ := r
  obtain rfl | rfl | rfl | rfl : t = 0 ∨ t = 1 ∨ t = 2 ∨ t = 3 := by omega
  · obtain ⟨a, c, e⟩ := b0.slice; exact ⟨t0, a, c, rfl, e⟩
  · obtain ⟨a, c, e⟩ := b1.slice; exact ⟨t1, a, c, rfl, e⟩
  · obtain ⟨a, c, e⟩ := b2.slice; exact ⟨t2, a, c, rfl, e⟩
  · obtain ⟨a, c, e⟩ := b3.slice; exact ⟨t3, a, c, rfl, e⟩

theorem run_field_tapes (sv t0 t1 t2 t3 : Value) (W : World) : (Instr.field tRBytes (.agg #[sv, t0, t1, t2, t3]) 1).run Try.prog W = .ok (.agg #[t0, t1, t2, t3]) W := by kernel_rfl

set_option maxRecDepth 100000 in
set_option maxHeartbeats 2000000 in
theorem rcut_bad {w : World} {F : Nat → Prop} {v : Value} {d : D} (hr : RefAt w.heap F v d) (t n : Int) (hb : t < 0 ∨ (¬ t < 0 ∧ 3 < t) ∨ (¬ t < 0 ∧ ¬ 3 < t ∧ n < 0)) : Calls Try.prog 36 #[v, .int .i64 t, .int .i64 n] w (GivesRef w F (d, 4)) := by
  obtain ⟨C, rfl, hin⟩ := refIn_of hr
  obtain ⟨W0, hW0⟩ : ∃ W0, refW w C = W0 := ⟨_, rfl⟩
  rw [hW0] at hin
  have HIN := Lib.hid hin
  clear hin hr
  rcases hb with h1 | ⟨h1, h2⟩ | ⟨h1, h2, h3⟩
  all_goals
    go_enter Try.func36, Try.ntmps36
    go_upto_region 1 with fail
    clear hW0
    go_wp2_with (first
      | (refine wpList_load_row rfl tRDisk (.tmp 3) rfl w.heap.size rfl tRDisk _ (0, 0) _ HIN.out.r0 Try.underlying42 rfl (by rw [infoRD, HIN.out.csz]) ?_)
      | (refine wpList_store_abs rfl tRDisk (.tmp 6) (.tmp 28) rfl (w.heap.size + 1) _ rfl rfl tRDisk ref0 HIN.out.r1 (by rw [infoRD, HIN.out.csz]) (by rw [HIN.out.csz]; rfl) HIN.out.ones ?_
         intro W5 HW5 HM5 HS5))
    refine bodyPost_ret (results_cell_tmp rfl _ _ (w.heap.size + 1) _ _ _ _ _ rfl rfl HW5.out Try.underlying42 rfl (by rw [infoRD, HIN.out.csz])) rfl ?_
    exact ref_same HIN.out.ref (Moves.new HIN.out.below HM5 (by omega))

/-- A load that a guard lets run. -/
theorem wpList_load_row_g {P : Program} {ops : Array Oper} {rest : List Oper} {o : Oper} {a : Act} {w : World} {Q : Exit → Act → World → Prop} (hw : Region.wanted o (yielded ops a.tmps) = true) (ty : TypeId) (x : Operand) (ho : o.op = .load ty x)
    (g : Nat) (hx : a.eval x = .pointer (some ⟨g, 0, none⟩)) (t : TypeId) (cs : Array Value) (fr : Nat × Nat) (d : TypeDesc) (hg : w.heap[g]? = some (.cells cs t fr))
    (hu : P.underlying ty = some d) (hd : (match d with | .struct _ | .array _ _ => true | _ => false) = true) (hi : (P.info? ty).map (·.size) = some cs.size)
    (h : wpList P ops Q rest (a.put o.dst (.agg cs)) w) : wpList P ops Q (o :: rest) a w := by
  simp only [wpList, hw, if_true]
  exact Or.inl (wp_load_row ty x ho g hx t cs fr d hg hu hd hi h)

set_option maxRecDepth 100000 in
set_option maxHeartbeats 2000000 in
theorem rcut_c {w : World} {F : Nat → Prop} {v : Value} {d : D} (hr : RefAt w.heap F v d) (ok : d.ok) (hn : d.waits.length ≤ 1000000000000) (t n : Int) : Calls Try.prog 36 #[v, .int .i64 t, .int .i64 n] w (GivesRef w F (d.cut t n)) := by
  by_cases h1 : t < 0 ∨ t > 3 ∨ n < 0
  · have e : d.cut t n = (d, 4) := by unfold D.cut; rw [if_pos (by omega)]
    rw [e]
    exact rcut_bad hr t n (by omega)
  · obtain ⟨t, rfl, ht⟩ := natOf (n := t) (k := 3) (by omega) (by omega)
    obtain ⟨C, rfl, hin⟩ := refIn_of hr
    obtain ⟨W0, hW0⟩ : ∃ W0, refW w C = W0 := ⟨_, rfl⟩
    rw [hW0] at hin
    have HIN := Lib.hid hin
    have OK := Lib.hid (And.intro ok hn)
    have sl := stand_len ok t
    clear hin hr ok hn
    have ST := Lib.hid (stands_c (HIN.out.at (X := W0) (Below.refl _ _)) OK.out.1 OK.out.2)
    have hcase : (d.cut t n = (d, 4) ∧ ((d.stand.tp t).length : Int) < n) ∨ (d.cut t n = d.step ⟨3, t, n, []⟩ ∧ ¬ ((d.stand.tp t).length : Int) < n) := by
      unfold D.cut
      by_cases h2 : n > (d.stand.tp t).length
      · exact Or.inl ⟨by rw [if_pos (by omega)], h2⟩
      · exact Or.inr ⟨by rw [if_neg (by omega)], h2⟩
    have c1 : ¬ (t : Int) < 0 := by omega
    have c2 : ¬ 3 < (t : Int) := by omega
    have c3 : ¬ n < 0 := by omega
    have c4 : ¬ 3 < t := by omega
    clear h1
    rcases hcase with ⟨e, h2⟩ | ⟨e, h2⟩
    · rw [e]
      clear e
      go_enter Try.func36, Try.ntmps36
      go_upto_region 1 with fail
      clear hW0
      go_wp2_with (first
        | (refine wpList_load_row_g (by rfl) tRDisk (.tmp 3) rfl w.heap.size rfl tRDisk C (0, 0) _ HIN.out.r0 Try.underlying42 rfl (by rw [infoRD, HIN.out.csz]) ?_)
        | (go_at_call 40; refine ST.out.mono ?_; rintro e X1 ⟨sv, t0, t1, t2, t3, rfl, hbx, rbx⟩
           obtain ⟨ti, ai, ci, ei, rfl⟩ := rbx.idx t (by omega)
           have hfd := run_field_tapes sv t0 t1 t2 t3
           have hix := fun W => run_index4 t0 t1 t2 t3 t _ ei W
           simp only [Int.ofNat_eq_natCast] at hix
           have HBX := Lib.hid hbx
           clear hbx rbx ei)
        | (refine wpList_load_row rfl tRDisk (.tmp 3) rfl w.heap.size rfl tRDisk C (0, 0) _ ((HBX.out.block _ (lt_of_row HIN.out.r0)).trans HIN.out.r0) Try.underlying42 rfl (by rw [infoRD, HIN.out.csz]) ?_)
        | (refine wpList_store_abs rfl tRDisk (.tmp 6) (.tmp 28) rfl (w.heap.size + 1) _ rfl rfl tRDisk ref0 ((HBX.out.block _ (lt_of_row HIN.out.r1)).trans HIN.out.r1) (by rw [infoRD, HIN.out.csz]) (by rw [HIN.out.csz]; rfl) HIN.out.ones ?_
           intro W5 HW5 HM5 HS5))
      refine bodyPost_ret (results_cell_tmp rfl _ _ (w.heap.size + 1) _ _ _ _ _ rfl rfl HW5.out Try.underlying42 rfl (by rw [infoRD, HIN.out.csz])) rfl ?_
      exact ref_same HIN.out.ref (Moves.new (HIN.out.below.trans (HBX.out.mono HIN.out.below.size)) HM5 (by omega))
    · rw [e]
      clear e
      go_enter Try.func36, Try.ntmps36
      go_upto_region 1 with fail
      clear hW0
      go_wp2_with (first
        | (refine wpList_load_row_g (by rfl) tRDisk (.tmp 3) rfl w.heap.size rfl tRDisk C (0, 0) _ HIN.out.r0 Try.underlying42 rfl (by rw [infoRD, HIN.out.csz]) ?_)
        | (go_at_call 40; refine ST.out.mono ?_; rintro e X1 ⟨sv, t0, t1, t2, t3, rfl, hbx, rbx⟩
           obtain ⟨ti, ai, ci, ei, rfl⟩ := rbx.idx t (by omega)
           have hfd := run_field_tapes sv t0 t1 t2 t3
           have hix := fun W => run_index4 t0 t1 t2 t3 t _ ei W
           simp only [Int.ofNat_eq_natCast] at hix
           have HBX := Lib.hid hbx
           clear hbx rbx ei)
        | (refine wpList_load_row rfl tRDisk (.tmp 3) rfl w.heap.size rfl tRDisk C (0, 0) _ ((HBX.out.block _ (lt_of_row HIN.out.r0)).trans HIN.out.r0) Try.underlying42 rfl (by rw [infoRD, HIN.out.csz]) ?_)
        | (go_at_call 59
           refine (rstep_c (HIN.out.at HBX.out) OK.out.1 OK.out.2 ⟨3, t, n, []⟩ (u := .slice none 0 0) (Or.inl ⟨rfl, rfl⟩)).mono ?_
           rintro e W3 ⟨v3, rfl, hb3, hr3⟩
           obtain ⟨sv3, q0, q1, q2, q3, wv3, ev, rb3, st3⟩ := id hr3
           subst ev
           have R3 := Lib.hid (And.intro hr3 (And.intro (ref_ones rb3 st3) (HBX.out.trans (hb3.mono HBX.out.size))))
           clear rb3 st3 hr3 hb3)
        | (refine wpList_store_abs rfl tRDisk (.tmp 6) (.tmp 34) rfl (w.heap.size + 1) _ rfl rfl tRDisk ref0 ((R3.out.2.2.block _ (lt_of_row HIN.out.r1)).trans HIN.out.r1) infoRD rfl (R3.out.2.1 _ _ _ _) ?_
           intro W5 HW5 HM5 HS5))
      refine bodyPost_ret (results_cell_tmp rfl _ _ (w.heap.size + 1) _ _ _ _ _ rfl rfl HW5.out Try.underlying42 rfl infoRD) rfl ?_
      exact ref_give HIN.out.below HIN.out.size R3.out.2.2 R3.out.1 (plus_inF (by have := HBX.out.size; have := HIN.out.size; omega)) HM5

end Go.Proofs.Ytiefhmbpaoecfaa

namespace Go.Proofs.Ytiefhmbpaoecfaa
open Go.RowKit Dm

theorem rpick_c (k n : Int) (w : World) (hk : -9223372036854775808 ≤ k) (hk' : k ≤ 9223372036854775807) (h1 : 1 ≤ n) (h2 : n ≤ 1152921504606846976) :
    Calls Try.prog 61 #[.int .i64 k, .int .i64 n] w fun e w' => e = .returned (.int .i64 (pick k n)) ∧ w = w' := by
  have b1 : -n < k.tmod n := Int.lt_tmod_of_pos _ (by omega)
  have b2 : k.tmod n < n := Int.tmod_lt_of_pos _ (by omega)
  go_enter Try.func61, Try.ntmps61
  go_wp2
  go_ret
  exact ⟨by rw [← pick_go]; rfl, rfl⟩

/-- A call that hands back bytes, old or new. -/
def GivesOld (w : World) (F : Nat → Prop) (l : List UInt8) (e : Ending) (w' : World) : Prop := ∃ v', e = .returned v' ∧ Below w.heap.size w w' ∧ BytesAt w'.heap (plus F w w') v' l

theorem mk256 (W : World) : (Instr.makeSlice tBytes (.int .i64 256) (.int .i64 256)).run Try.prog W = .ok (.slice (some ⟨W.heap.size, 0, none⟩) 256 256) (W.alloc (.cells (Array.replicate 256 (.int .u8 0)) tByte)) := by kernel_rfl

set_option maxRecDepth 100000 in
set_option maxHeartbeats 2000000 in
theorem rsector_c {w : World} {F : Nat → Prop} {sv t0 t1 t2 t3 : Value} {x : St} {many : Int} (r : RB w.heap F sv t0 t1 t2 t3 x many) (hm : many ≤ 4096) (n : Int) : Calls Try.prog 41 #[.agg #[sv, t0, t1, t2, t3], .int .i64 n] w (GivesOld w F (x.sec n)) := by
  obtain ⟨secs, s1, s2, b0, b1, b2, b3⟩ := r
  have hlen := s2.len hm
  obtain ⟨sa, sc, rfl, hsc, hsc2⟩ := s1.slice
  have hb0 : Below w.heap.size w (w.alloc (.cells #[.slice sa secs.length sc, t0, t1, t2, t3] tRBytes)) := (Below.refl _ _).alloc (Nat.le_refl _) _
  have r0 := heap_alloc_last w (.cells #[.slice sa secs.length sc, t0, t1, t2, t3] tRBytes)
  obtain ⟨W0, hW0⟩ : ∃ W0, w.alloc (.cells #[.slice sa secs.length sc, t0, t1, t2, t3] tRBytes) = W0 := ⟨_, rfl⟩
  rw [hW0] at hb0 r0
  have k0 : W0.cell? ⟨w.heap.size, 0, none⟩ = some (.slice sa secs.length sc) := row_cell r0 rfl
  have HD := Lib.hid (And.intro s1 (And.intro s2 hb0))
  clear s1 s2 b0 b1 b2 b3 r0 hb0
  have hmk := mk256
  go_enter Try.func41, Try.ntmps41
  go_upto_region 1 with fail
  clear hW0
  go_wp2
  go_loop [5] (fun i => ∃ k : Nat, i = .int .i64 (k : Int) ∧ k ≤ secs.length ∧ ∀ (j : Nat) m l, j < k → secs[j]? = some (m, l) → m ≠ n) (fun i => secs.length - (intOf i).toNat)
  case atStart => exact ⟨0, rfl, Nat.zero_le _, fun j m l hj => by omega⟩
  case round =>
    obtain ⟨k, rfl, hk, hno⟩ := hrel
    by_cases hlt : k < secs.length
    · obtain ⟨e, he⟩ : ∃ e, secs[k]? = some e := ⟨_, List.getElem?_eq_getElem hlt⟩
      obtain ⟨m, ml⟩ := e
      obtain ⟨b, o, uk, rfl, e1, e2, e3⟩ : ∃ b o uk, sa = some ⟨b, o, none⟩ ∧ W0.cell? ⟨b, o + k * 2, none⟩ = some (.int .i64 m) ∧ W0.cell? ⟨b, o + k * 2 + 1, none⟩ = some uk ∧ BytesAt w.heap F uk ml := by
        rcases HD.out.1 with ⟨h1, h2⟩ | ⟨b, o, cap, c', tt, fr, h1, h2, h3, g2, g3, g4⟩
        · rw [h2] at hlt; simp at hlt
        · obtain ⟨uk, q1, q2, q3⟩ := g4 k m ml he
          have g3' : W0.heap[b]? = some (.cells c' tt fr) := (HD.out.2.2.block _ (lt_of_row g3)).trans g3
          exact ⟨b, o, uk, (Value.slice.inj h1).1, row_cell g3' q1, row_cell g3' q2, q3⟩
      have hmk2 := HD.out.2.1.ent (m, ml) (List.mem_of_getElem? he)
      have hk0 : (0 : Int) ≤ (k : Int) := by omega
      have hk1 : (k : Int) < (secs.length : Int) := by omega
      have H := Lib.hid (And.intro he (And.intro e3 (And.intro hmk2 hno)))
      clear he e3 hmk2 hno
      by_cases heq : m = n
      · have b1 : (m == n) = true := by simpa using heq
        have HE := Lib.hid heq
        clear heq
        go_wp2
        go_ret
        refine ⟨uk, rfl, HD.out.2.2, ?_⟩
        have := H.out.2.1
        rw [H.out.2.2.1.1, HE.out] at this
        exact this.plus HD.out.2.2
      · have b1 : (m == n) = false := by simpa using heq
        have HE := Lib.hid heq
        clear heq
        go_wp2
        go_round
        case rel =>
          refine ⟨k + 1, by go_num, by omega, fun j m' l' hj hs => ?_⟩
          by_cases hjk : j = k
          · subst hjk
            rw [H.out.1] at hs
            cases hs
            exact HE.out
          · exact H.out.2.2.2 j m' l' (by omega) hs
        case measure => simp [intOf]; omega
    · obtain rfl : k = secs.length := by omega
      have hz : x.sec n = zeros := HD.out.2.1.no n (fun e he hen => by
        obtain ⟨j, hj⟩ := List.mem_iff_getElem?.1 he
        exact hno j e.1 e.2 (List.getElem?_eq_some_iff.1 hj).1 hj hen)
      have HZ := Lib.hid hz
      clear hz hno
      go_wp2
      go_ret
      refine ⟨_, rfl, HD.out.2.2.alloc HD.out.2.2.size _, ?_⟩
      rw [HZ.out]
      refine Or.inr ⟨W0.heap.size, 0, 256, _, tByte, (0, 0), by simp [zeros], by simp [zeros], by decide, Or.inr ⟨HD.out.2.2.size, by simp⟩, heap_alloc_last _ _, fun i y hi => ?_⟩
      have hi2 := List.getElem?_eq_some_iff.1 hi
      have hlt2 : i < 256 := by have := hi2.1; rw [zeros, List.length_replicate] at this; exact this
      have hy : y = 0 := by have := hi2.2; simp only [zeros, List.getElem_replicate] at this; exact this.symm
      subst hy
      simp [hlt2]
      rfl

end Go.Proofs.Ytiefhmbpaoecfaa

namespace Go.Proofs.Ytiefhmbpaoecfaa
open Go.RowKit

section
variable {P : Program} {ops : Array Oper} {md : Region.Mode} {I : World → Prop} {tail : List Nat}

theorem wpAnyI_firstP {Q : Act → World → Prop} {i : Nat} {oi : Oper} {v : Value} (hi : ops[i]? = some oi) (hsel : ∀ (j : Nat) (o : Oper) cs b, ops[j]? = some o → o.op ≠ .select cs b) (hit : i ∈ tail) :
    ∀ (fuel : Nat) (listed : Array Bool) (a : Act) (w : World),
      (∀ j oj, ops[j]? = some oj → j ≠ i → listed.getD j true = false → (∀ e ∈ oj.after, Region.binds md e = true → e.on ≠ i) → oi.apart ops oj = true) →
      i ∈ Region.ready md ops listed → YieldsI P ops (fun _ => True) oi v a →
      wpAnyI P md ops I tail Q fuel (listed.setIfInBounds i true) (a.put oi.dst v) w → wpAnyI P md ops I tail Q (fuel + 1) listed a w := by
  intro fuel
  induction fuel with
  | zero =>
    intro listed a w _ hr hy H
    refine ⟨fun h => (by rw [h] at hr; cases hr), fun j hj => ?_⟩
    by_cases hji : j = i
    · subst hji; exact hy.wpOp hi trivial ⟨fun h => absurd hit h, H⟩
    · have := ready_mono hj hji
      rw [H.1] at this
      cases this
  | succ fuel ih =>
    intro listed a w hfree hr hy H
    refine ⟨fun h => (by rw [h] at hr; cases hr), fun j hj => ?_⟩
    by_cases hji : j = i
    · subst hji; exact hy.wpOp hi trivial ⟨fun h => absurd hit h, H⟩
    · have h1 := H.2 j (ready_mono hj hji)
      obtain ⟨hjun, oj, hoj, hall⟩ := mem_ready.1 hj
      have hun := (mem_ready.1 hr).1
      have hnot : ∀ e ∈ oj.after, Region.binds md e = true → e.on ≠ i := fun e he hb heq => by
        have h1 := hall e he hb
        rw [heq, getD_both hun] at h1
        cases h1
      have h2 := wpOpI_put hoj (hfree j oj hoj hji hjun hnot) (fun cs b => hsel i oi cs b hi) (fun cs b => hsel j oj cs b hoj) hy h1
      have hfree' : ∀ k ok, ops[k]? = some ok → k ≠ i → (listed.setIfInBounds j true).getD k true = false →
          (∀ e ∈ ok.after, Region.binds md e = true → e.on ≠ i) → oi.apart ops ok = true := fun k ok hk hki hun hno => by
        refine hfree k ok hk hki ?_ hno
        by_cases hjk : j = k
        · subst hjk; exact hjun
        · rw [getD_set_ne true hjk] at hun; exact hun
      refine wpOp_mono (fun a' w' h3 => ⟨fun h => h3.2.1 h, ih (listed.setIfInBounds j true) a' w' hfree' (ready_mono hr (Ne.symm hji)) h3.1 ?_⟩) h2
      rw [Array.setIfInBounds_comm _ _ hji]
      exact h3.2.2

def pureB (md : Region.Mode) (ops : Array Oper) (tail : List Nat) : List Nat → Array Bool → Bool
  | [], _ => true
  | k :: r, listed => (Region.ready md ops listed).contains k && Region.free md ops listed k && tail.contains k && pureB md ops tail r (listed.setIfInBounds k true)

theorem wpAnyI_pures {Q : Act → World → Prop} (hs : Region.noSelect ops = true) {w : World} : ∀ (ks : List Nat) (f : Nat) (listed : Array Bool) (a : Act), pureB md ops tail ks listed = true →
    wpHoist P ops (fun _ => True) (fun a' => wpAnyI P md ops I tail Q f (ks.foldl (fun l k => l.setIfInBounds k true) listed) a' w) (ks.filterMap (fun k => ops[k]?)) a → wpAnyI P md ops I tail Q (f + ks.length) listed a w
  | [], f, listed, a, _, h => h
  | k :: r, f, listed, a, hB, h => by
    simp only [pureB, Bool.and_eq_true] at hB
    obtain ⟨⟨⟨h1, h2⟩, h3⟩, h4⟩ := hB
    have hr : k ∈ Region.ready md ops listed := by simpa using h1
    have ht : k ∈ tail := by simpa using h3
    obtain ⟨_, o, ho, _⟩ := mem_ready.1 hr
    simp only [List.filterMap_cons, ho, wpHoist] at h
    have : ∃ v, YieldsI P ops (fun _ => True) o v a ∧ wpHoist P ops (fun _ => True) (fun a' => wpAnyI P md ops I tail Q f ((k :: r).foldl (fun l k => l.setIfInBounds k true) listed) a' w) (r.filterMap (fun k => ops[k]?)) (a.put o.dst v) := by
      by_cases hw : Region.wanted o (yielded ops a.tmps) = true
      · rw [if_pos hw] at h
        obtain ⟨v, hv, hn⟩ := h
        refine ⟨v, .inl ⟨hw, fun w' hw' => ?_⟩, hn⟩
        have := hv w' hw'
        generalize (execOp a.eval o).run P w' = x at this
        cases x with
        | ok n w2 =>
          cases n <;> simp only [sameUpon] at this
          case value u => rw [this.1, this.2]
        | halt x w2 => simp only [sameUpon] at this
      · rw [if_neg hw] at h
        exact ⟨undef, .inr ⟨by simpa using hw, rfl⟩, h⟩
    obtain ⟨v, hy, hn⟩ := this
    rw [show f + (k :: r).length = (f + r.length) + 1 by simp; omega]
    exact wpAnyI_firstP ho (Region.noSelect_spec hs) ht _ _ _ _ (Region.free_spec ho h2) hr hy (wpAnyI_pures hs r f _ _ h4 hn)

/-- Operations that read no memory. -/
theorem wpAnyI_pure {Q : Act → World → Prop} {w : World} {a : Act} (ks : List Nat) (f : Nat) (listed : Array Bool) (hB : (Region.noSelect ops && pureB md ops tail ks listed) = true)
    (h : wpHoist P ops (fun _ => True) (fun a' => wpAnyI P md ops I tail Q f (ks.foldl (fun l k => l.setIfInBounds k true) listed) a' w) (ks.filterMap (fun k => ops[k]?)) a) : wpAnyI P md ops I tail Q (f + ks.length) listed a w := by
  simp only [Bool.and_eq_true] at hB
  exact wpAnyI_pures hB.1 ks f listed a hB.2 h

theorem wpHoist_load_guard {Q : Act → Prop} {a : Act} {o : Oper} {rest : List Oper} (hgd : Region.wanted o (yielded ops a.tmps) = true) (ty : TypeId) (x : Operand) (ho : o.op = .load ty x) (v : Value)
    (hrun : ∀ w, I w → (Instr.loadAt ty (a.eval x)).run P w = .ok v w) (h : wpHoist P ops I Q rest (a.put o.dst v)) : wpHoist P ops I Q (o :: rest) a :=
  wpHoist_step fun K hK => by
    simp only [hgd, if_true]
    refine ⟨v, fun w hw => ?_, hK _ h⟩
    unfold execOp
    simp only [ho, Sem.run_bind, hrun w hw, Result.andThen_ok, Sem.run_pure, sameUpon, and_self]

end
end Go.Proofs.Ytiefhmbpaoecfaa
