/-
  'act': Write.
  'act': Write.
  'act': a look: what it needs.
-/
import Derived.Test.YtiefhmbpaoecfaaG20

namespace Go.Proofs.Ytiefhmbpaoecfaa
open Go.RowKit Dm

set_option maxRecDepth 100000 in
set_option maxHeartbeats 1200000 in
theorem act_write_pad {w : World} {p m : Nat} {F G : Nat → Prop} {v : Value} {d : D} (x : DiskAt w.heap p m d F) (hr : RefAt w.heap F v d) (hn : d.waits.length ≤ 1000000000) (sec n : Int) {bv : Value} {l : List UInt8} (hv : BytesIn w.heap G bv l) (hl : l.length ≤ 1048576) (kv : Value) (torn part : Int) :
    Calls Try.prog 13 #[.pointer (some ⟨p, 0, none⟩), v, .agg (actC 0 sec n bv false kv torn part)] w (ActPost w p m F (d.write sec (pad l)).1) := by
  obtain ⟨C, rfl, hin⟩ := actIn_of x hr (actC 0 sec n bv false kv torn part)
  obtain ⟨W0, hW0⟩ : ∃ W0, actW w C (actC 0 sec n bv false kv torn part) = W0 := ⟨_, rfl⟩
  rw [hW0] at hin
  have ok := x.ok
  obtain ⟨ba, bc, eb⟩ := hv.slice
  have HIN := Lib.hid hin
  have hbE : Below W0.heap.size W0 (W0.alloc (.cells (Array.replicate 256 (.int .u8 0)) tByte)) := (Below.refl _ _).alloc (Nat.le_refl _) _
  have k0 : W0.cell? ⟨w.heap.size + 1, 0, none⟩ = some (.int .i64 0) := row_cell hin.r1 rfl
  have k3 : (W0.alloc (.cells (Array.replicate 256 (.int .u8 0)) tByte)).cell? ⟨w.heap.size + 1, 3, none⟩ = some bv := (hbE.cell (p := ⟨w.heap.size + 1, 3, none⟩) (lt_of_row hin.r1)).trans (row_cell hin.r1 rfl)
  have srcE : BytesIn (W0.alloc (.cells (Array.replicate 256 (.int .u8 0)) tByte)).heap G bv l := hv.keeps (fun k _ hl => (hbE.block k (by have := hin.size; omega)).trans (hin.below.block k hl)) (fun _ h _ => h)
  have rowE : (W0.alloc (.cells (Array.replicate 256 (.int .u8 0)) tByte)).heap[W0.heap.size]? = some (.cells (zeros.map bval).toArray tByte (0, 0)) := by rw [zeros_cells]; exact heap_alloc_last _ _
  subst eb
  have hpos : 0 < ((l.take 256).map bval).length → (some ⟨W0.heap.size, 0, none⟩ : Option Addr) = some ⟨W0.heap.size, 0, none⟩ ∧ ∃ ad, ba = some ad ∧ ∀ (j : Nat) u, ((l.take 256).map bval)[j]? = some u → (W0.alloc (.cells (Array.replicate 256 (.int .u8 0)) tByte)).cell? (ad.add j) = some u := fun h0 => by
    refine ⟨rfl, ?_⟩
    rcases srcE with ⟨h1, h2⟩ | ⟨h1, h2⟩ | ⟨b, o, cap, c, t, fr, h1, h2, h3, g2, g3, g4⟩
    · rw [h2] at h0; simp at h0
    · rw [h2] at h0; simp at h0
    · obtain ⟨e1, _, _⟩ := Value.slice.inj h1
      refine ⟨_, e1, fun j u hj => ?_⟩
      obtain ⟨y, hy, rfl⟩ : ∃ y, (l.take 256)[j]? = some y ∧ bval y = u := by rw [List.getElem?_map] at hj; exact Option.map_eq_some_iff.1 hj
      rw [addr_add, cell_of_row _ _ _ _ _ _ g3]
      refine g4 j y ?_
      rw [List.getElem?_take] at hy
      split at hy
      · exact hy
      · cases hy
  have E := Lib.hid (And.intro hbE (And.intro rowE hpos))
  have HV := Lib.hid (And.intro hv (And.intro hl (And.intro ok hn)))
  clear hin x hr hv hl ok hn hbE srcE rowE hpos
  have hmk := mk256
  have k1 : True := trivial
  go_enter Try.func13, Try.ntmps13
  go_upto_region 1 with fail
  clear hW0
  go_upto_region 5 with (refine wpList_copy_splice rfl (.tmp 43) (.tmp 45) tBytes tBytes rfl tByte Try.underlying36 infoByte1 (some ⟨W0.heap.size, 0, none⟩) ba 256 256 l.length bc rfl rfl W0.heap.size 0 (zeros.map bval) tByte E.out.2.1 ((l.take 256).map bval) (by simp [Nat.min_comm]) E.out.2.2 (by simp [zeros]; omega) (fun u hu => by obtain ⟨x, _, rfl⟩ := List.mem_map.1 hu; rfl) W0.heap.size W0 E.out.1 (Nat.le_refl _) ?_
                         intro Wb HWc hbc)
  have k4 : Wb.cell? ⟨w.heap.size + 1, 4, none⟩ = some (.bool false) := row_cell ((hbc.block _ (lt_of_row HIN.out.r1)).trans HIN.out.r1) rfl
  have rowc : Wb.heap[W0.heap.size]? = some (.cells ((pad l).map bval).toArray tByte (0, 0)) := by rw [pad_map]; exact HWc.out
  have hbb := hbc
  have fb : FreshBytes Wb.heap W0.heap.size (.slice (some ⟨W0.heap.size, 0, none⟩) 256 256) (pad l) := Or.inr ⟨W0.heap.size, 256, _, tByte, by rw [pad_len], by rw [pad_len]; exact Nat.le_refl _, by decide, Nat.le_refl _, rowc, fun i y hi => by simp [hi]⟩
  have HP := Lib.hid (pad_len l)
  clear rowc HWc hbc
  generalize pad l = L at *
  go_upto_region 7 with fail
  have b1 : Wb.heap[w.heap.size]? = some (.cells C tRDisk (0, 0)) := (hbb.block _ (lt_of_row HIN.out.r0)).trans HIN.out.r0
  have b2 : Wb.heap[w.heap.size + 1]? = some (.cells (actC 0 sec n (.slice ba l.length bc) false kv torn part) tAct (0, 0)) := (hbb.block _ (lt_of_row HIN.out.r1)).trans HIN.out.r1
  have b3 : Wb.heap[w.heap.size + 1 + 1]? = some (.cells ref0 tRDisk (0, 0)) := (hbb.block _ (lt_of_row HIN.out.r2)).trans HIN.out.r2
  have kb2 : Wb.cell? ⟨w.heap.size + 1, 1, none⟩ = some (.int .i64 sec) := row_cell b2 rfl
  have bbw : Below w.heap.size w Wb := HIN.out.below.trans (hbb.mono HIN.out.below.size)
  have zb : w.heap.size + 3 ≤ Wb.heap.size := by have := hbb.size; have := HIN.out.size; omega
  have RC := Lib.hid (rwrite_c (HIN.out.at0 hbb) HV.out.2.2.1 (by have := HV.out.2.2.2; omega) sec fb.bytes (by rw [HP.out]; omega))
  have BB := Lib.hid (And.intro hbb (And.intro b1 (And.intro b2 (And.intro b3 (And.intro bbw (And.intro zb fb))))))
  clear k0 k1 k3 k4 hbb b1 b2 b3 bbw fb
  have HLL := HP
  go_upto_region 8 with (first
    | (refine wpList_load_row rfl tRDisk (.tmp 4) rfl w.heap.size rfl tRDisk C (0, 0) _ BB.out.2.1 Try.underlying42 rfl (by rw [infoRD, HIN.out.csz]) ?_)
    | (go_at_call 34; refine RC.out.mono ?_; rintro e W1 ⟨v1, rfl, hb1, hr1⟩
       obtain ⟨sv1, u0, u1, u2, u3, wv1, ev, rb1, st1⟩ := id hr1
       subst ev
       have R1 := Lib.hid (And.intro hb1 (And.intro (ref_ones rb1 st1) hr1))
       clear hb1 rb1 st1 hr1)
    | (refine wpList_store_abs rfl tRDisk (.tmp 10) (.tmp 59) rfl W1.heap.size _ rfl rfl tRDisk ref0 (heap_alloc_last W1 _) infoRD rfl (R1.out.2.1 _ _ _ _) ?_
       intro W2 HW2 HM2 HS2
       have hb2 : Below W1.heap.size W1 W2 := Moves.new ((Below.refl _ _).alloc (Nat.le_refl _) _) HM2 (Nat.le_refl _)
       have R2 := Lib.hid (And.intro hb2 HW2.out)
       clear HM2 HS2 HW2 hb2))
  have hb02 : Below Wb.heap.size Wb W2 := R1.out.1.trans (R2.out.1.mono R1.out.1.size)
  have kc2 : W2.cell? ⟨w.heap.size + 1, 1, none⟩ = some (.int .i64 sec) := row_cell ((hb02.block _ (lt_of_row BB.out.2.2.1)).trans BB.out.2.2.1) rfl
  have DC := Lib.hid (calls_left (write_c (HIN.out.disk0 (BB.out.1.trans (hb02.mono BB.out.1.size))) sec ((BB.out.2.2.2.2.2.2.bytes).below hb02) (by have := HV.out.2.2.2; omega)))
  have LT := HIN.out.disk.lt
  have zs : w.heap.size + 3 ≤ W0.heap.size ∧ W0.heap.size ≤ w.heap.size + 3 ∧ W0.heap.size ≤ Wb.heap.size ∧ Wb.heap.size ≤ W1.heap.size ∧ W1.heap.size < W2.heap.size := ⟨by have := HIN.out.size; omega, by have := HIN.out.size; omega, BB.out.1.size, R1.out.1.size, lt_of_row R2.out.2⟩
  have HB2 := Lib.hid hb02
  clear kb2 hb02
  go_upto_region 9 with (go_at_call 21; refine DC.out.mono ?_; rintro e W3 ⟨rfl, hL⟩)
  have z3 : W2.heap.size ≤ W3.heap.size := hL.2.1.size
  have fb3 : FreshBytes W3.heap W0.heap.size (.slice (some ⟨W0.heap.size, 0, none⟩) 256 256) L := by
    have f := BB.out.2.2.2.2.2.2
    rcases f with f | ⟨b, cap, cc, t, h1, h2, h3, h4, h5, h6⟩
    · exact Or.inl f
    · refine Or.inr ⟨b, cap, cc, t, h1, h2, h3, h4, ?_, h6⟩
      rw [hL.2.1.block b (by have := lt_of_row h5; omega) (by omega), HB2.out.block b (lt_of_row h5)]
      exact h5
  have rel0 : IncRel (fun k => w.heap.size ≤ k ∧ k < Wb.heap.size ∧ k ≠ w.heap.size + 1 + 1) (some ⟨W0.heap.size, 0, none⟩) 256 W3 W3 := by
    have r := IncRel.start (BB := fun k => W0.heap.size ≤ k ∧ k < W3.heap.size) fb3 (fun k hk => by by_cases h : k < W3.heap.size; exact Or.inl ⟨hk, h⟩; exact Or.inr (by omega))
    refine ⟨Moves.refl _ _, rfl, fun g hg => ?_⟩
    obtain ⟨_, c, t, q1, q2⟩ := r.row g hg
    refine ⟨?_, c, t, q1, q2⟩
    have f := BB.out.2.2.2.2.2.2
    rcases f with ⟨h1, _⟩ | ⟨b, cap, cc, t, h1, h2, h3, h4, h5, h6⟩
    · rw [hg] at h1; cases h1
    · rw [hg] at h1
      obtain ⟨e1, _⟩ := Value.slice.inj h1
      simp only [Option.some.injEq, Addr.mk.injEq] at e1
      have := lt_of_row h5
      omega
  have HL := Lib.hid (And.intro hL z3)
  have REL := Lib.hid rel0
  clear hL fb3 rel0 kc2 z3
  go_wp2
  go_loopg [13] 256 (fun g i wr => ∃ k : Nat, i = .int .i64 (k : Int) ∧ g + k = 256 ∧ IncRel (fun k => w.heap.size ≤ k ∧ k < Wb.heap.size ∧ k ≠ w.heap.size + 1 + 1) (some ⟨W0.heap.size, 0, none⟩) 256 W3 wr)
  case atStart => exact ⟨0, rfl, rfl, REL.out⟩
  case round =>
    obtain ⟨k, rfl, hg, rel⟩ := hrel
    have hlm : (256 : Nat) ≤ 1048576 := by omega
    by_cases hlt : k < 256
    · obtain ⟨_, c, t, hc, hcy⟩ := rel.row W0.heap.size rfl
      obtain ⟨y, hy0, hy1, hy⟩ := hcy k hlt
      have ky : wr.cell? ⟨W0.heap.size, k, none⟩ = some (.int .u8 y) := row_cell hc hy
      have fy : wr.frozen? ⟨W0.heap.size, k, none⟩ = false := row_free hc _
      have hk0 : (0 : Int) ≤ (k : Int) := by omega
      have hk1 : (k : Int) < 256 := by omega
      have H := Lib.hid (And.intro rel hg)
      clear rel hg hc hcy hy
      go_wp2
      go_roundg (256 - (k + 1))
      case measure => have := H.out.2; omega
      case rel => exact ⟨k + 1, by go_num, by have := H.out.2; omega, H.out.1.step (u8_wrap y hy0 hy1).1 (u8_wrap y hy0 hy1).2⟩
    · obtain rfl : k = 256 := by omega
      have zr : W3.heap.size = wr.heap.size := rel.size.symm
      have z3 := HL.out.2
      have g2 : wr.heap[W1.heap.size]? = some (.cells (refC (d.write sec L).1.many (d.write sec L).1.room sv1 u0 u1 u2 u3 wv1 (d.write sec L).1.dead (d.write sec L).1.stops) tRDisk (0, 0)) := by
        rw [rel.moves.block _ (by omega) (by omega), HL.out.1.2.1.block _ (by omega) (by omega)]
        exact R2.out.2
      have t7 : wr.heap[w.heap.size + 1 + 1]? = some (.cells ref0 tRDisk (0, 0)) := by
        rw [rel.moves.block _ (by omega) (by omega), HL.out.1.2.1.block _ (by omega) (by omega), HB2.out.block _ (by omega)]
        exact BB.out.2.2.2.1
      have LD : Hid (∀ w', (∃ x : Wd (ActCls W1.heap.size W1.heap.size wr), w' = x.world) → (Instr.loadAt tRDisk (.pointer (some ⟨W1.heap.size, 0, none⟩))).run Try.prog w' = .ok (.agg (refC (d.write sec L).1.many (d.write sec L).1.room sv1 u0 u1 u2 u3 wv1 (d.write sec L).1.dead (d.write sec L).1.stops)) w') := by
        rintro w' ⟨x, rfl⟩
        exact run_loadAt_row (x.ok.2.trans g2) Try.underlying42 rfl infoRD
      have ne : Nonempty (Wd (ActCls W1.heap.size W1.heap.size wr)) := ⟨⟨wr, rfl, rfl⟩⟩
      have H := Lib.hid (And.intro rel t7)
      clear rel t7 g2
      go_wp2
      refine wp_region_hoist (fun w' => ∃ x : Wd (ActCls W1.heap.size W1.heap.size wr), w' = x.world) [] (by kernel_rfl) ?_
      refine wpAnyI_reads [0, 1, 2, 4] 5 _ ⟨⟨_, (⟨rfl, rfl⟩ : ActCls W1.heap.size W1.heap.size wr wr.drew)⟩, rfl⟩ (by kernel_rfl) ?_
      simp only [List.filterMap_cons, List.filterMap_nil, List.getElem?_toArray, List.getElem?_cons_succ, List.getElem?_cons_zero]
      refine wpHoist_step (fun K hK => ?_); simp only [hoists, sameUpon]; go_simp; refine hK _ ?_; clear hK K
      refine wpHoist_load_run rfl tRDisk (.tmp 10) rfl _ LD.out ?_
      repeat (refine wpHoist_step (fun K hK => ?_); simp only [hoists, sameUpon]; go_simp; refine hK _ ?_; clear hK K)
      refine wpHoist_nil ?_
      refine wpAnyI_one 3 4 _ _ rfl (by kernel_rfl) ?_
      refine wpList_plain rfl fun K hK => ?_
      go_simp
      go_at_call 9
      refine (num_c _ _).mono ?_
      rintro e W3' ⟨rfl, rfl⟩
      refine hK _ _ (wpList_nil ⟨rfl, fun _ => ⟨⟨_, (⟨rfl, rfl⟩ : ActCls W1.heap.size W1.heap.size wr wr.drew)⟩, rfl⟩, ?_⟩)
      clear hK K
      refine wpAnyI_reads [5, 6] 2 _ ⟨⟨_, (⟨rfl, rfl⟩ : ActCls W1.heap.size W1.heap.size wr wr.drew)⟩, rfl⟩ (by kernel_rfl) ?_
      simp only [List.filterMap_cons, List.filterMap_nil, List.getElem?_toArray, List.getElem?_cons_succ, List.getElem?_cons_zero]
      repeat (refine wpHoist_step (fun K hK => ?_); simp only [hoists, sameUpon]; go_simp; refine hK _ ?_; clear hK K)
      refine wpHoist_nil ?_
      refine wpAnyI_one 7 1 _ _ rfl (by kernel_rfl) ?_
      refine wpList_store_abs rfl tRDisk (.tmp 7) (.tmp 79) rfl (w.heap.size + 1 + 1) _ rfl rfl tRDisk ref0 H.out.2 infoRD rfl (R1.out.2.1 _ _ _ _) ?_
      intro W4 HW4 HM4 HS4
      have cl4 : ActCls W1.heap.size W1.heap.size wr W4 := ⟨HM4.block _ (by show _ < wr.heap.size; omega) (by omega), HM4.block _ (by show _ < wr.heap.size; omega) (by omega)⟩
      have H4 := Lib.hid HM4
      clear HM4 HS4
      refine wpList_nil ⟨rfl, fun _ => ⟨⟨_, cl4⟩, rfl⟩, ?_⟩
      refine wpAnyI_reads [8] 0 _ ⟨⟨_, cl4⟩, rfl⟩ (by kernel_rfl) ?_
      simp only [List.filterMap_cons, List.filterMap_nil, List.getElem?_toArray, List.getElem?_cons_succ, List.getElem?_cons_zero]
      repeat (refine wpHoist_step (fun K hK => ?_); simp only [hoists, sameUpon]; go_simp; refine hK _ ?_; clear hK K)
      refine wpHoist_nil ?_
      refine ⟨by kernel_rfl, ?_⟩
      go_wp2
      refine bodyPost_ret (results_three rfl _ _ (w.heap.size + 1 + 1) _ _ _ _ _ _ rfl rfl rfl HW4.out Try.underlying42 rfl infoRD) rfl ?_
      have mv : Moves (fun k => w.heap.size ≤ k ∧ k < Wb.heap.size) W3 W4 := by
        have h1 := H.out.1.moves
        have h2 := H4.out
        refine ⟨h2.os.trans h1.os, h2.tape.trans h1.tape, h2.output.trans h1.output, Nat.le_trans h1.size h2.size, fun k hk hn => ?_⟩
        rw [h2.block k (by show _ < wr.heap.size; omega) (by omega)]
        exact h1.block k hk (fun h => hn ⟨h.1, h.2.1⟩)
      have fin := act_end HIN.out.disk BB.out.2.2.2.2.1 R1.out.1 R1.out.2.2 R2.out.1 HL.out.1 mv
      simpa using fin

end Go.Proofs.Ytiefhmbpaoecfaa

namespace Go.Proofs.Ytiefhmbpaoecfaa
open Go.RowKit Dm

set_option maxRecDepth 100000 in
set_option maxHeartbeats 1200000 in
theorem act_write_raw {w : World} {p m : Nat} {F G : Nat → Prop} {v : Value} {d : D} (x : DiskAt w.heap p m d F) (hr : RefAt w.heap F v d) (hn : d.waits.length ≤ 1000000000) (sec n : Int) {bv : Value} {l : List UInt8} (hv : BytesIn w.heap G bv l) (hl : l.length ≤ 1048576) (kv : Value) (torn part : Int) :
    Calls Try.prog 13 #[.pointer (some ⟨p, 0, none⟩), v, .agg (actC 0 sec n bv true kv torn part)] w (ActPost w p m F (d.write sec l).1) := by
  obtain ⟨C, rfl, hin⟩ := actIn_of x hr (actC 0 sec n bv true kv torn part)
  obtain ⟨W0, hW0⟩ : ∃ W0, actW w C (actC 0 sec n bv true kv torn part) = W0 := ⟨_, rfl⟩
  rw [hW0] at hin
  have ok := x.ok
  obtain ⟨ba, bc, eb⟩ := hv.slice
  have HIN := Lib.hid hin
  have hbE : Below W0.heap.size W0 (W0.alloc (.cells (Array.replicate 256 (.int .u8 0)) tByte)) := (Below.refl _ _).alloc (Nat.le_refl _) _
  have k0 : W0.cell? ⟨w.heap.size + 1, 0, none⟩ = some (.int .i64 0) := row_cell hin.r1 rfl
  have k3 : (W0.alloc (.cells (Array.replicate 256 (.int .u8 0)) tByte)).cell? ⟨w.heap.size + 1, 3, none⟩ = some bv := (hbE.cell (p := ⟨w.heap.size + 1, 3, none⟩) (lt_of_row hin.r1)).trans (row_cell hin.r1 rfl)
  have srcE : BytesIn (W0.alloc (.cells (Array.replicate 256 (.int .u8 0)) tByte)).heap G bv l := hv.keeps (fun k _ hl => (hbE.block k (by have := hin.size; omega)).trans (hin.below.block k hl)) (fun _ h _ => h)
  have rowE : (W0.alloc (.cells (Array.replicate 256 (.int .u8 0)) tByte)).heap[W0.heap.size]? = some (.cells (zeros.map bval).toArray tByte (0, 0)) := by rw [zeros_cells]; exact heap_alloc_last _ _
  subst eb
  have hpos : 0 < ((l.take 256).map bval).length → (some ⟨W0.heap.size, 0, none⟩ : Option Addr) = some ⟨W0.heap.size, 0, none⟩ ∧ ∃ ad, ba = some ad ∧ ∀ (j : Nat) u, ((l.take 256).map bval)[j]? = some u → (W0.alloc (.cells (Array.replicate 256 (.int .u8 0)) tByte)).cell? (ad.add j) = some u := fun h0 => by
    refine ⟨rfl, ?_⟩
    rcases srcE with ⟨h1, h2⟩ | ⟨h1, h2⟩ | ⟨b, o, cap, c, t, fr, h1, h2, h3, g2, g3, g4⟩
    · rw [h2] at h0; simp at h0
    · rw [h2] at h0; simp at h0
    · obtain ⟨e1, _, _⟩ := Value.slice.inj h1
      refine ⟨_, e1, fun j u hj => ?_⟩
      obtain ⟨y, hy, rfl⟩ : ∃ y, (l.take 256)[j]? = some y ∧ bval y = u := by rw [List.getElem?_map] at hj; exact Option.map_eq_some_iff.1 hj
      rw [addr_add, cell_of_row _ _ _ _ _ _ g3]
      refine g4 j y ?_
      rw [List.getElem?_take] at hy
      split at hy
      · exact hy
      · cases hy
  have E := Lib.hid (And.intro hbE (And.intro rowE hpos))
  have HV := Lib.hid (And.intro hv (And.intro hl (And.intro ok hn)))
  clear hin x hr hv hl ok hn hbE srcE rowE hpos
  have hmk := mk256
  have k1 : True := trivial
  go_enter Try.func13, Try.ntmps13
  go_upto_region 1 with fail
  clear hW0
  go_upto_region 5 with (refine wpList_copy_splice rfl (.tmp 43) (.tmp 45) tBytes tBytes rfl tByte Try.underlying36 infoByte1 (some ⟨W0.heap.size, 0, none⟩) ba 256 256 l.length bc rfl rfl W0.heap.size 0 (zeros.map bval) tByte E.out.2.1 ((l.take 256).map bval) (by simp [Nat.min_comm]) E.out.2.2 (by simp [zeros]; omega) (fun u hu => by obtain ⟨x, _, rfl⟩ := List.mem_map.1 hu; rfl) W0.heap.size W0 E.out.1 (Nat.le_refl _) ?_
                         intro Wc HWc hbc)
  have k4 : Wc.cell? ⟨w.heap.size + 1, 4, none⟩ = some (.bool true) := row_cell ((hbc.block _ (lt_of_row HIN.out.r1)).trans HIN.out.r1) rfl
  have rowc : Wc.heap[W0.heap.size]? = some (.cells ((pad l).map bval).toArray tByte (0, 0)) := by rw [pad_map]; exact HWc.out
  have hbX : Below W0.heap.size W0 (Wc.alloc (.cells #[] tByte)) := hbc.alloc hbc.size _
  have k5 : (Wc.alloc (.cells #[] tByte)).cell? ⟨w.heap.size + 1, 3, none⟩ = some (.slice ba l.length bc) := row_cell ((hbX.block _ (lt_of_row HIN.out.r1)).trans HIN.out.r1) rfl
  have srcX : BytesIn (Wc.alloc (.cells #[] tByte)).heap G (.slice ba l.length bc) l := HV.out.1.keeps (fun k _ hl => (hbX.block k (by have := HIN.out.size; omega)).trans (HIN.out.below.block k hl)) (fun _ h _ => h)
  have ownX := owns_below (own_empty Wc) (Below.refl _ _) hbc.size
  have EX := Lib.hid (And.intro hbX (And.intro srcX (And.intro ownX hbc.size)))
  clear hbX srcX ownX rowc HWc hbc k3
  have k3 : True := trivial
  go_upto_region 7 with (refine wpList_append_bytesIn rfl (.tmp 49) (.tmp 51) rfl W0.heap.size W0.heap.size W0 EX.out.1 (Nat.le_refl _) _ [] rfl EX.out.2.2.1 _ l G rfl EX.out.2.1 (by have := HV.out.2.1; simp; omega) (by have := EX.out.2.2.2; simp; omega) ?_
                         intro vb Wb OWB hbb _
                         rw [List.nil_append] at OWB
                         obtain ⟨va, vc, evb⟩ := OWB.out.bytes.bytes.slice
                         subst evb)
  clear k5
  have fb := OWB.out.bytes
  have hvn : va = none → l.length = 0 := fun h => by
    rcases fb with ⟨h1, h2⟩ | ⟨b, cap, cc, t, h1, _⟩
    · rw [h2]; rfl
    · rw [h] at h1; cases h1
  have ga : ∀ g o sp, va = some ⟨g, o, sp⟩ → o = 0 ∧ sp = none := fun g o sp h => by
    rcases fb with ⟨h1, h2⟩ | ⟨b, cap, cc, t, h1, _⟩
    · rw [h] at h1; cases h1
    · rw [h] at h1; cases h1; exact ⟨rfl, rfl⟩
  have b1 : Wb.heap[w.heap.size]? = some (.cells C tRDisk (0, 0)) := (hbb.block _ (lt_of_row HIN.out.r0)).trans HIN.out.r0
  have b2 : Wb.heap[w.heap.size + 1]? = some (.cells (actC 0 sec n (.slice ba l.length bc) true kv torn part) tAct (0, 0)) := (hbb.block _ (lt_of_row HIN.out.r1)).trans HIN.out.r1
  have b3 : Wb.heap[w.heap.size + 1 + 1]? = some (.cells ref0 tRDisk (0, 0)) := (hbb.block _ (lt_of_row HIN.out.r2)).trans HIN.out.r2
  have kb2 : Wb.cell? ⟨w.heap.size + 1, 1, none⟩ = some (.int .i64 sec) := row_cell b2 rfl
  have bbw : Below w.heap.size w Wb := HIN.out.below.trans (hbb.mono HIN.out.below.size)
  have zb : w.heap.size + 3 ≤ Wb.heap.size := by have := hbb.size; have := HIN.out.size; omega
  have RC := Lib.hid (rwrite_c (HIN.out.at0 hbb) HV.out.2.2.1 (by have := HV.out.2.2.2; omega) sec fb.bytes HV.out.2.1)
  have BB := Lib.hid (And.intro hbb (And.intro b1 (And.intro b2 (And.intro b3 (And.intro bbw (And.intro zb fb))))))
  have GA := Lib.hid (And.intro hvn ga)
  clear k0 k1 k3 k4 hbb b1 b2 b3 bbw fb hvn ga
  generalize hll : l.length = ll at *
  have HLL := Lib.hid hll
  clear hll
  go_upto_region 8 with (first
    | (refine wpList_load_row rfl tRDisk (.tmp 4) rfl w.heap.size rfl tRDisk C (0, 0) _ BB.out.2.1 Try.underlying42 rfl (by rw [infoRD, HIN.out.csz]) ?_)
    | (go_at_call 34; refine RC.out.mono ?_; rintro e W1 ⟨v1, rfl, hb1, hr1⟩
       obtain ⟨sv1, u0, u1, u2, u3, wv1, ev, rb1, st1⟩ := id hr1
       subst ev
       have R1 := Lib.hid (And.intro hb1 (And.intro (ref_ones rb1 st1) hr1))
       clear hb1 rb1 st1 hr1)
    | (refine wpList_store_abs rfl tRDisk (.tmp 10) (.tmp 59) rfl W1.heap.size _ rfl rfl tRDisk ref0 (heap_alloc_last W1 _) infoRD rfl (R1.out.2.1 _ _ _ _) ?_
       intro W2 HW2 HM2 HS2
       have hb2 : Below W1.heap.size W1 W2 := Moves.new ((Below.refl _ _).alloc (Nat.le_refl _) _) HM2 (Nat.le_refl _)
       have R2 := Lib.hid (And.intro hb2 HW2.out)
       clear HM2 HS2 HW2 hb2))
  have hb02 : Below Wb.heap.size Wb W2 := R1.out.1.trans (R2.out.1.mono R1.out.1.size)
  have kc2 : W2.cell? ⟨w.heap.size + 1, 1, none⟩ = some (.int .i64 sec) := row_cell ((hb02.block _ (lt_of_row BB.out.2.2.1)).trans BB.out.2.2.1) rfl
  have DC := Lib.hid (calls_left (write_c (HIN.out.disk0 (BB.out.1.trans (hb02.mono BB.out.1.size))) sec ((BB.out.2.2.2.2.2.2.bytes).below hb02) (by have := HV.out.2.2.2; omega)))
  have LT := HIN.out.disk.lt
  have zs : W0.heap.size = w.heap.size + 3 ∧ W0.heap.size ≤ Wb.heap.size ∧ Wb.heap.size ≤ W1.heap.size ∧ W1.heap.size < W2.heap.size := ⟨HIN.out.size, BB.out.1.size, R1.out.1.size, lt_of_row R2.out.2⟩
  have HB2 := Lib.hid hb02
  clear kb2 hb02
  go_upto_region 9 with (go_at_call 21; refine DC.out.mono ?_; rintro e W3 ⟨rfl, hL⟩)
  have z3 : W2.heap.size ≤ W3.heap.size := hL.2.1.size
  have fb3 : FreshBytes W3.heap W0.heap.size (.slice va ll vc) l := by
    have f := BB.out.2.2.2.2.2.2
    rcases f with f | ⟨b, cap, cc, t, h1, h2, h3, h4, h5, h6⟩
    · exact Or.inl f
    · refine Or.inr ⟨b, cap, cc, t, h1, h2, h3, h4, ?_, h6⟩
      rw [hL.2.1.block b (by have := lt_of_row h5; omega) (by omega), HB2.out.block b (lt_of_row h5)]
      exact h5
  have rel0 : IncRel (fun k => w.heap.size ≤ k ∧ k < Wb.heap.size ∧ k ≠ w.heap.size + 1 + 1) va ll W3 W3 := by
    have r := IncRel.start (BB := fun k => W0.heap.size ≤ k ∧ k < W3.heap.size) fb3 (fun k hk => by by_cases h : k < W3.heap.size; exact Or.inl ⟨hk, h⟩; exact Or.inr (by omega))
    refine ⟨Moves.refl _ _, rfl, fun g hg => ?_⟩
    obtain ⟨_, c, t, q1, q2⟩ := r.row g hg
    refine ⟨?_, c, t, q1, q2⟩
    have f := BB.out.2.2.2.2.2.2
    rcases f with ⟨h1, _⟩ | ⟨b, cap, cc, t, h1, h2, h3, h4, h5, h6⟩
    · rw [hg] at h1; cases h1
    · rw [hg] at h1
      obtain ⟨e1, _⟩ := Value.slice.inj h1
      simp only [Option.some.injEq, Addr.mk.injEq] at e1
      have := lt_of_row h5
      omega
  have HL := Lib.hid (And.intro hL z3)
  have REL := Lib.hid rel0
  clear hL fb3 rel0 kc2 z3
  go_wp2
  go_loopg [13] ll (fun g i wr => ∃ k : Nat, i = .int .i64 (k : Int) ∧ g + k = ll ∧ IncRel (fun k => w.heap.size ≤ k ∧ k < Wb.heap.size ∧ k ≠ w.heap.size + 1 + 1) va ll W3 wr)
  case atStart => exact ⟨0, rfl, rfl, REL.out⟩
  case round =>
    obtain ⟨k, rfl, hg, rel⟩ := hrel
    have hlm : ll ≤ 1048576 := by have := HV.out.2.1; have := HLL.out; omega
    by_cases hlt : k < ll
    · obtain ⟨g, rfl⟩ : ∃ g, va = some ⟨g, 0, none⟩ := by
        cases hva : va with
        | none => have := GA.out.1 hva; omega
        | some a =>
          obtain ⟨g, o, sp⟩ := a
          obtain ⟨rfl, rfl⟩ := GA.out.2 g o sp hva
          exact ⟨g, rfl⟩
      obtain ⟨_, c, t, hc, hcy⟩ := rel.row g rfl
      obtain ⟨y, hy0, hy1, hy⟩ := hcy k hlt
      have ky : wr.cell? ⟨g, k, none⟩ = some (.int .u8 y) := row_cell hc hy
      have fy : wr.frozen? ⟨g, k, none⟩ = false := row_free hc _
      have hk0 : (0 : Int) ≤ (k : Int) := by omega
      have hk1 : (k : Int) < (ll : Int) := by omega
      have H := Lib.hid (And.intro rel hg)
      clear rel hg hc hcy hy
      go_wp2
      go_roundg (ll - (k + 1))
      case measure => have := H.out.2; omega
      case rel => exact ⟨k + 1, by go_num, by have := H.out.2; omega, H.out.1.step (u8_wrap y hy0 hy1).1 (u8_wrap y hy0 hy1).2⟩
    · obtain rfl : k = ll := by omega
      have zr : W3.heap.size = wr.heap.size := rel.size.symm
      have z3 := HL.out.2
      have g2 : wr.heap[W1.heap.size]? = some (.cells (refC (d.write sec l).1.many (d.write sec l).1.room sv1 u0 u1 u2 u3 wv1 (d.write sec l).1.dead (d.write sec l).1.stops) tRDisk (0, 0)) := by
        rw [rel.moves.block _ (by omega) (by omega), HL.out.1.2.1.block _ (by omega) (by omega)]
        exact R2.out.2
      have t7 : wr.heap[w.heap.size + 1 + 1]? = some (.cells ref0 tRDisk (0, 0)) := by
        rw [rel.moves.block _ (by omega) (by omega), HL.out.1.2.1.block _ (by omega) (by omega), HB2.out.block _ (by omega)]
        exact BB.out.2.2.2.1
      have LD : Hid (∀ w', (∃ x : Wd (ActCls W1.heap.size W1.heap.size wr), w' = x.world) → (Instr.loadAt tRDisk (.pointer (some ⟨W1.heap.size, 0, none⟩))).run Try.prog w' = .ok (.agg (refC (d.write sec l).1.many (d.write sec l).1.room sv1 u0 u1 u2 u3 wv1 (d.write sec l).1.dead (d.write sec l).1.stops)) w') := by
        rintro w' ⟨x, rfl⟩
        exact run_loadAt_row (x.ok.2.trans g2) Try.underlying42 rfl infoRD
      have ne : Nonempty (Wd (ActCls W1.heap.size W1.heap.size wr)) := ⟨⟨wr, rfl, rfl⟩⟩
      have H := Lib.hid (And.intro rel t7)
      clear rel t7 g2
      go_wp2
      refine wp_region_hoist (fun w' => ∃ x : Wd (ActCls W1.heap.size W1.heap.size wr), w' = x.world) [] (by kernel_rfl) ?_
      refine wpAnyI_reads [0, 1, 2, 4] 5 _ ⟨⟨_, (⟨rfl, rfl⟩ : ActCls W1.heap.size W1.heap.size wr wr.drew)⟩, rfl⟩ (by kernel_rfl) ?_
      simp only [List.filterMap_cons, List.filterMap_nil, List.getElem?_toArray, List.getElem?_cons_succ, List.getElem?_cons_zero]
      refine wpHoist_step (fun K hK => ?_); simp only [hoists, sameUpon]; go_simp; refine hK _ ?_; clear hK K
      refine wpHoist_load_run rfl tRDisk (.tmp 10) rfl _ LD.out ?_
      repeat (refine wpHoist_step (fun K hK => ?_); simp only [hoists, sameUpon]; go_simp; refine hK _ ?_; clear hK K)
      refine wpHoist_nil ?_
      refine wpAnyI_one 3 4 _ _ rfl (by kernel_rfl) ?_
      refine wpList_plain rfl fun K hK => ?_
      go_simp
      go_at_call 9
      refine (num_c _ _).mono ?_
      rintro e W3' ⟨rfl, rfl⟩
      refine hK _ _ (wpList_nil ⟨rfl, fun _ => ⟨⟨_, (⟨rfl, rfl⟩ : ActCls W1.heap.size W1.heap.size wr wr.drew)⟩, rfl⟩, ?_⟩)
      clear hK K
      refine wpAnyI_reads [5, 6] 2 _ ⟨⟨_, (⟨rfl, rfl⟩ : ActCls W1.heap.size W1.heap.size wr wr.drew)⟩, rfl⟩ (by kernel_rfl) ?_
      simp only [List.filterMap_cons, List.filterMap_nil, List.getElem?_toArray, List.getElem?_cons_succ, List.getElem?_cons_zero]
      repeat (refine wpHoist_step (fun K hK => ?_); simp only [hoists, sameUpon]; go_simp; refine hK _ ?_; clear hK K)
      refine wpHoist_nil ?_
      refine wpAnyI_one 7 1 _ _ rfl (by kernel_rfl) ?_
      refine wpList_store_abs rfl tRDisk (.tmp 7) (.tmp 79) rfl (w.heap.size + 1 + 1) _ rfl rfl tRDisk ref0 H.out.2 infoRD rfl (R1.out.2.1 _ _ _ _) ?_
      intro W4 HW4 HM4 HS4
      have cl4 : ActCls W1.heap.size W1.heap.size wr W4 := ⟨HM4.block _ (by show _ < wr.heap.size; omega) (by omega), HM4.block _ (by show _ < wr.heap.size; omega) (by omega)⟩
      have H4 := Lib.hid HM4
      clear HM4 HS4
      refine wpList_nil ⟨rfl, fun _ => ⟨⟨_, cl4⟩, rfl⟩, ?_⟩
      refine wpAnyI_reads [8] 0 _ ⟨⟨_, cl4⟩, rfl⟩ (by kernel_rfl) ?_
      simp only [List.filterMap_cons, List.filterMap_nil, List.getElem?_toArray, List.getElem?_cons_succ, List.getElem?_cons_zero]
      repeat (refine wpHoist_step (fun K hK => ?_); simp only [hoists, sameUpon]; go_simp; refine hK _ ?_; clear hK K)
      refine wpHoist_nil ?_
      refine ⟨by kernel_rfl, ?_⟩
      go_wp2
      refine bodyPost_ret (results_three rfl _ _ (w.heap.size + 1 + 1) _ _ _ _ _ _ rfl rfl rfl HW4.out Try.underlying42 rfl infoRD) rfl ?_
      have mv : Moves (fun k => w.heap.size ≤ k ∧ k < Wb.heap.size) W3 W4 := by
        have h1 := H.out.1.moves
        have h2 := H4.out
        refine ⟨h2.os.trans h1.os, h2.tape.trans h1.tape, h2.output.trans h1.output, Nat.le_trans h1.size h2.size, fun k hk hn => ?_⟩
        rw [h2.block k (by show _ < wr.heap.size; omega) (by omega)]
        exact h1.block k hk (fun h => hn ⟨h.1, h.2.1⟩)
      have fin := act_end HIN.out.disk BB.out.2.2.2.2.1 R1.out.1 R1.out.2.2 R2.out.1 HL.out.1 mv
      simpa using fin

end Go.Proofs.Ytiefhmbpaoecfaa

namespace Go.Proofs.Ytiefhmbpaoecfaa
open Go.RowKit Dm

theorem fresh_addr {h : Array Obj} {base n c : Nat} {va : Option Addr} {l : List UInt8} (x : FreshBytes h base (.slice va n c) l) : n = 0 ∨ ∃ g, va = some ⟨g, 0, none⟩ := by
  rcases x with ⟨h1, _⟩ | ⟨b, cap, cc, t, h1, _⟩
  · exact Or.inl (Value.slice.inj h1).2.1
  · exact Or.inr ⟨b, (Value.slice.inj h1).1⟩

theorem IncRel.start2 {X1 Y : World} {va : Option Addr} {n c : Nat} {l : List UInt8} {base : Nat} (h : FreshBytes X1.heap base (.slice va n c) l) (hk : ∀ k, base ≤ k → k < X1.heap.size → Y.heap[k]? = X1.heap[k]?) : IncRel (fun k => base ≤ k ∧ k < X1.heap.size) va n Y Y := by
  have r := IncRel.start (BB := fun k => base ≤ k ∧ k < X1.heap.size) h (fun k hk => by by_cases h : k < X1.heap.size; exact Or.inl ⟨hk, h⟩; exact Or.inr (by omega))
  refine ⟨Moves.refl _ _, rfl, fun g hg => ?_⟩
  obtain ⟨q0, c, t, q1, q2⟩ := r.row g hg
  exact ⟨q0, c, t, (hk g q0.1 q0.2).trans q1, q2⟩

theorem ref_all {w : World} {F : Nat → Prop} {C : Array Value} {d : D} (hr : RefAt w.heap F (.agg C) d) : C.all (·.oneCell') = true := by
  obtain ⟨sv, t0, t1, t2, t3, wv, e, rb, st⟩ := hr
  cases e
  exact ref_ones rb st _ _ _ _

theorem look_end {w W4 : World} {p m : Nat} {F : Nat → Prop} {d : D} {v : Value} (x : DiskAt w.heap p m d F) (hr : RefAt w.heap F v d) (hb : Below w.heap.size w W4) : ActPost w p m F d (.returned (.tuple #[.pointer (some ⟨p, 0, none⟩), v, .bool true])) W4 := by
  obtain ⟨lp, lm, hne, np, nm⟩ := x.lt
  refine ⟨v, fun k => F k ∧ k < w.heap.size, rfl, Moves.of_below hb, (x.weak (fun k hk hl => (⟨hk, hl⟩ : F k ∧ k < w.heap.size)) (fun h => np h.1) (fun h => nm h.1)).below hb, hr.keeps (fun k _ hl => hb.block k hl) (fun k hk hl => ⟨hk, hl⟩), fun k hk => Or.inl hk⟩

theorem FreshBytes.keepsF {h h' : Array Obj} {base : Nat} {v : Value} {l : List UInt8} (x : FreshBytes h base v l) (hk : ∀ k, base ≤ k → k < h.size → h'[k]? = h[k]?) : FreshBytes h' base v l := by
  rcases x with x | ⟨b, cap, c, t, h1, h2, h3, h4, h5, h6⟩
  · exact Or.inl x
  · exact Or.inr ⟨b, cap, c, t, h1, h2, h3, h4, (hk b h4 (lt_of_row h5)).trans h5, h6⟩

end Go.Proofs.Ytiefhmbpaoecfaa
