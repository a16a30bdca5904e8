/-
  The document's 'done'; what stands.
  The document's disk: Used, Sector, New, goes, Stop.
-/
import Derived.Test.YtiefhmbpaoecfaaG13

namespace Go.Proofs.Ytiefhmbpaoecfaa
open Go.RowKit Dm

def GivesRB (w : World) (F : Nat → Prop) (x : St) (many : Int) (e : Ending) (w' : World) : Prop :=
  ∃ sv t0 t1 t2 t3, e = .returned (.agg #[sv, t0, t1, t2, t3]) ∧ Below w.heap.size w w' ∧ RB w'.heap (plus F w w') sv t0 t1 t2 t3 x many

theorem SecsAt.one {h : Array Obj} {F : Nat → Prop} {v : Value} {l : List (Int × List UInt8)} (x : SecsAt h F v l) : v.oneCell' = true := by
  obtain ⟨a, c, rfl, _⟩ := x.slice
  rfl

theorem RB.ones {h : Array Obj} {F : Nat → Prop} {sv t0 t1 t2 t3 : Value} {x : St} {many : Int} (r : RB h F sv t0 t1 t2 t3 x many) : (#[sv, t0, t1, t2, t3] : Array Value).all (·.oneCell') = true := by
  obtain ⟨secs, s1, s2, b0, b1, b2, b3⟩ := r
  simp [s1.one, b0.one, b1.one, b2.one, b3.one]

theorem rdone_c {w : World} {F : Nat → Prop} {sv t0 t1 t2 t3 : Value} {x : St} {many : Int} (r : RB w.heap F sv t0 t1 t2 t3 x many) (hm : many ≤ 4096) {s : Step} (hs : s.ok many) {u : Value} (hu : BytesAt w.heap F u s.b) (hx : ∀ t, (x.tp t).length ≤ 1048576) :
    Calls Try.prog 63 #[.agg #[sv, t0, t1, t2, t3], .agg #[.int .i64 s.what, .int .i64 s.n, .int .i64 s.many, u]] w (GivesRB w F (x.done s) many) := by
  have ones := r.ones
  rcases hs with ⟨h1, h2, h3, h4, h5⟩ | ⟨h1, h2, h3, h4, h5⟩ | ⟨h1, h2, h3, h4, h5, h6⟩
  · obtain ⟨secs, s1, s2, b0, b1, b2, b3⟩ := r
    rw [h1, h4]
    refine (rdone_sec sv t0 t1 t2 t3 u s.n many s.b F x.sec secs w s1 s2 hm hu h2 h3 ones).mono ?_
    rintro e w' ⟨v', secs', rfl, hb, g1, g2⟩
    refine ⟨v', t0, t1, t2, t3, rfl, hb, secs', g1, ?_, ?_, ?_, ?_, ?_⟩
    · simpa [St.done, h1] using g2
    all_goals
      simp only [St.done, h1, if_true]
      first | exact b0.plus hb | exact b1.plus hb | exact b2.plus hb | exact b3.plus hb
  · obtain ⟨t, et, ht⟩ := natOf h2 h3
    obtain ⟨ti, g1, g2⟩ := r.tape t (by omega)
    have lx := hx t
    rw [h1, et]
    refine (done_app sv t0 t1 t2 t3 ti u t s.many (x.tp t) s.b F w (by omega) g1 g2 hu (by omega) ones).mono ?_
    rintro e w' ⟨v', rfl, hb, bv⟩
    obtain ⟨u0, u1, u2, u3, e1, e2⟩ := (r.plus hb).setTape t (by omega) (v := v') (l := x.tp t ++ s.b) (bv.keeps (fun _ _ _ => rfl) (fun k hk hl => by
      rcases hk with hk | hk
      · exact Or.inl hk
      · exact Or.inr ⟨hk, hl⟩))
    refine ⟨sv, u0, u1, u2, u3, by rw [e1], hb, ?_⟩
    simpa [St.done, h1, et] using e2
  · obtain ⟨t, et, ht⟩ := natOf h2 h3
    obtain ⟨m, em, hmm⟩ := natOf h4 h5
    obtain ⟨ti, g1, g2⟩ := r.tape t (by omega)
    rw [h1, et, em]
    have fin : ∀ (e : Ending) (w' : World), (e = .returned (.agg (#[sv, t0, t1, t2, t3].setIfInBounds (1 + t) (cutV ti m))) ∧ Below w.heap.size w w') → GivesRB w F (x.done s) many e w' := by
      rintro e w' ⟨rfl, hb⟩
      obtain ⟨u0, u1, u2, u3, e1, e2⟩ := (r.plus hb).setTape t (by omega) (v := cutV ti m) (l := (x.tp t).take m) ((cutV_bytes g2 m).plus hb)
      refine ⟨sv, u0, u1, u2, u3, by rw [e1], hb, ?_⟩
      have q1 : ¬ (3 : Int) = 1 := by omega
      simpa [St.done, h1, et, em] using e2
    rcases g2 with ⟨rfl, hl⟩ | ⟨b, o, cap, c, tt, fr, rfl, r2, r3, r4, r5, r6⟩
    · refine (done_cut_none sv t0 t1 t2 t3 u t m w (by omega) (by omega) g1 ones).mono ?_
      rintro e w' ⟨rfl, hb⟩
      exact fin _ _ ⟨by simp [cutV], hb⟩
    · refine (done_cut_some sv t0 t1 t2 t3 u b o _ cap t m w (by omega) r2 r3 (by omega) g1 ones).mono ?_
      rintro e w' ⟨rfl, hb⟩
      exact fin _ _ ⟨rfl, hb⟩

/-- The cells of the i-th step. -/
theorem RStepsAt.at {w : World} {F : Nat → Prop} {a : Option Addr} {n c : Nat} {l : List Step} (x : RStepsAt w.heap F (.slice a n c) l) {i : Nat} {s : Step} (hi : l[i]? = some s) :
    n = l.length ∧ ∃ b o u, a = some ⟨b, o, none⟩ ∧ b < w.heap.size ∧ BytesAt w.heap F u s.b ∧ w.rangeAt b (o + i * 4) [.int .i64 s.what, .int .i64 s.n, .int .i64 s.many, u] := by
  rcases x with ⟨_, rfl⟩ | ⟨b, o, cap, c', t, fr, h1, h2, h3, g2, g3, g4⟩
  · cases hi
  · obtain ⟨w0, w1, w2, u, e0, e1, e2, e3, ⟨rfl, rfl, rfl, e4⟩⟩ := g4 i s hi
    obtain ⟨h4, h5, h6⟩ := Value.slice.inj h1
    refine ⟨h5, b, o, u, h4, lt_of_row g3, e4, fun j v hj => ?_⟩
    rw [cell_of_row _ _ _ _ _ _ g3]
    match j, hj with
    | 0, hj => cases hj; exact e0
    | 1, hj => cases hj; exact e1
    | 2, hj => cases hj; exact e2
    | 3, hj => cases hj; exact e3
    | n + 4, hj => cases hj

theorem RStepsAt.slice {h : Array Obj} {F : Nat → Prop} {v : Value} {l : List Step} (x : RStepsAt h F v l) : ∃ a c, v = .slice a l.length c ∧ l.length ≤ c ∧ c ≤ 9223372036854775807 := by
  rcases x with ⟨rfl, rfl⟩ | ⟨b, o, cap, c, t, fr, rfl, h, h2, _⟩
  · exact ⟨_, _, rfl, Nat.le_refl _, by simp⟩
  · exact ⟨_, _, rfl, h, h2⟩
theorem RStepsAt.one {h : Array Obj} {F : Nat → Prop} {v : Value} {l : List Step} (x : RStepsAt h F v l) : v.oneCell' = true := by
  obtain ⟨a, c, rfl, _⟩ := x.slice
  rfl

/-- Blocks that the walk of 'Stands' leaves alone. -/
def StF (F : Nat → Prop) (w : World) : Nat → Prop := fun k => (F k ∧ k < w.heap.size) ∨ w.heap.size + 3 ≤ k

structure StRel (w : World) (F : Nat → Prop) (d : D) (C : Array Value) (k : Nat) (wr : World) : Prop where
  below : Below w.heap.size w wr
  r0 : wr.heap[w.heap.size]? = some (.cells C tRDisk (0, 0))
  r1 : wr.heap[w.heap.size + 1]? = some (.cells bytes0 tRBytes (0, 0))
  rb : ∃ sv t0 t1 t2 t3, wr.heap[w.heap.size + 1 + 1]? = some (.cells #[sv, t0, t1, t2, t3] tRBytes (0, 0)) ∧ RB wr.heap (StF F w) sv t0 t1 t2 t3 (d.upto k) d.many

theorem StRel.step {w wr W1 W2 : World} {F : Nat → Prop} {d : D} {C : Array Value} {k : Nat} {s : Step} (h : StRel w F d C k wr) (hs : d.waits[k]? = some s) {sv t0 t1 t2 t3 : Value} (hb : Below wr.heap.size wr W1) (hr : RB W1.heap (plus (StF F w) wr W1) sv t0 t1 t2 t3 ((d.upto k).done s) d.many)
    (hm : Moves (fun i => i = w.heap.size + 1 + 1) W1 W2) (hw : W2.heap[w.heap.size + 1 + 1]? = some (.cells #[sv, t0, t1, t2, t3] tRBytes (0, 0))) : StRel w F d C (k + 1) W2 := by
  have z := lt_of_row h.r1
  obtain ⟨_, _, _, _, _, r2, _⟩ := h.rb
  have z2 := lt_of_row r2
  have hz := h.below.size
  have hz1 := hb.size
  refine ⟨Moves.new (h.below.trans (hb.mono hz)) hm (by omega), ?_, ?_, sv, t0, t1, t2, t3, hw, ?_⟩
  · rw [hm.block _ (by omega) (by omega), hb.block _ (by omega)]; exact h.r0
  · rw [hm.block _ (by omega) (by omega), hb.block _ (by omega)]; exact h.r1
  · rw [upto_succ hs]
    refine hr.keeps (fun i hi hl => hm.block i hl ?_) (fun i hi _ => ?_)
    · intro e
      subst e
      rcases hi with (hi | hi) | hi
      · omega
      · omega
      · omega
    · rcases hi with hi | hi
      · exact hi
      · exact Or.inr (by omega)

theorem infoRStep1 : (Try.prog.info? tRStep).map (·.size) = some 4 := by kernel_rfl

set_option maxRecDepth 100000 in
set_option maxHeartbeats 4000000 in
theorem stands_c {w : World} {F : Nat → Prop} {d : D} {v : Value} (hr : RefAt w.heap F v d) (ok : d.ok) (hn : d.waits.length ≤ 1000000000000) : Calls Try.prog 40 #[v] w (GivesRB w F d.stand d.many) := by
  obtain ⟨sv, t0, t1, t2, t3, wv, rfl, rb, st⟩ := hr
  obtain ⟨wa, wc, rfl, hwc, hwc2⟩ := st.slice
  have ones := rb.ones
  generalize hC : refC d.many d.room sv t0 t1 t2 t3 (.slice wa d.waits.length wc) d.dead d.stops = C
  have mid : ∀ X : World, X.heap[w.heap.size]? = some (.cells C tRDisk (0, 0)) → X.rangeAt w.heap.size 2 [sv, t0, t1, t2, t3] ∧ X.cell? ⟨w.heap.size, 7, none⟩ = some (.slice wa d.waits.length wc) := fun X hX => by
    rw [← hC] at hX
    refine ⟨fun j u hj => ?_, row_cell hX rfl⟩
    rw [cell_of_row _ _ _ _ _ _ hX]
    match j, hj with
    | 0, hj => cases hj; rfl
    | 1, hj => cases hj; rfl
    | 2, hj => cases hj; rfl
    | 3, hj => cases hj; rfl
    | 4, hj => cases hj; rfl
    | n + 5, hj => cases hj
  have HD := Lib.hid (And.intro rb (And.intro st (And.intro ones (And.intro mid ok))))
  clear rb st ones mid ok hC
  have hb0 : Below w.heap.size w ((w.alloc (.cells C tRDisk)).alloc (.cells bytes0 tRBytes)) := ((Below.refl _ _).alloc (Nat.le_refl _) _).alloc (by simp) _
  have q0 : ((w.alloc (.cells C tRDisk)).alloc (.cells bytes0 tRBytes)).heap[w.heap.size]? = some (.cells C tRDisk (0, 0)) := heap_past (by simp) (heap_alloc_last w _)
  have q1 : ((w.alloc (.cells C tRDisk)).alloc (.cells bytes0 tRBytes)).heap[w.heap.size + 1]? = some (.cells bytes0 tRBytes (0, 0)) := heap_at (w := w.alloc _) _ (by simp)
  have Q := Lib.hid (And.intro hb0 (And.intro q0 q1))
  clear hb0 q0 q1
  go_enter Try.func40, Try.ntmps40
  go_upto_region 2 with (first
    | (refine wpList_load_mid rfl tRBytes (.tmp 5) rfl w.heap.size 2 rfl [sv, t0, t1, t2, t3] _ (HD.out.2.2.2.1 _ Q.out.2.1).1 Try.underlying39 rfl infoRB ?_)
    | (refine wpList_store_abs rfl tRBytes (.tmp 3) (.tmp 6) rfl (w.heap.size + 1 + 1) #[sv, t0, t1, t2, t3] rfl rfl tRBytes bytes0 (heap_at (w := (w.alloc (.cells C tRDisk)).alloc (.cells bytes0 tRBytes)) _ (by simp)) infoRB rfl HD.out.2.2.1 ?_
       intro W1 HW1 HM1 HS1))
  have z1 : W1.heap.size = w.heap.size + 3 := by rw [HS1]; simp
  have rel0 : StRel w F d C 0 W1 := by
    have b1 : Below w.heap.size w W1 := Moves.new (Q.out.1.alloc (by simp <;> omega) _) HM1 (by omega)
    refine ⟨b1, ?_, ?_, sv, t0, t1, t2, t3, HW1.out, ?_⟩
    · rw [HM1.block _ (by simp <;> omega) (by omega)]; exact heap_past (by simp <;> omega) Q.out.2.1
    · rw [HM1.block _ (by simp <;> omega) (by omega)]; exact heap_past (by simp) Q.out.2.2
    · have : d.upto 0 = d.lasts := by simp [D.upto]
      rw [this]
      exact HD.out.1.keeps (fun k _ hl => b1.block k hl) (fun k h hl => Or.inl ⟨h, hl⟩)
  have REL := Lib.hid rel0
  clear rel0 HM1 HS1 HW1 z1 Q
  go_wp2
  go_loopg [4] d.waits.length (fun g i wr => ∃ k : Nat, i = .int .i64 (k : Int) ∧ g + k = d.waits.length ∧ StRel w F d C k wr)
  case atStart => exact ⟨0, rfl, rfl, REL.out⟩
  case round =>
    obtain ⟨k, rfl, hg, rel⟩ := hrel
    have c7 := (HD.out.2.2.2.1 _ rel.r0).2
    by_cases hlt : k < d.waits.length
    · obtain ⟨s, hs⟩ : ∃ s, d.waits[k]? = some s := ⟨_, List.getElem?_eq_getElem hlt⟩
      have stp : RStepsAt wr.heap (StF F w) (.slice wa d.waits.length wc) d.waits := HD.out.2.1.keeps (fun k _ hl => rel.below.block k hl) (fun k h hl => Or.inl ⟨h, hl⟩)
      obtain ⟨_, b, o, u, rfl, lb, bu, rng⟩ := stp.at hs
      obtain ⟨sv', t0', t1', t2', t3', r2, rb'⟩ := rel.rb
      have ok := HD.out.2.2.2.2
      have sok : s.ok d.many := ok.waits s (List.mem_of_getElem? hs)
      have hx : ∀ t, ((d.upto k).tp t).length ≤ 1048576 := fun t => by have := ok.tape k t; have := ok.room1; omega
      have DC := Lib.hid (rdone_c (w := wr.drew) rb' ok.many1 sok bu hx)
      have l0 : w.heap.size < wr.heap.size := lt_of_row rel.r0
      have x7 : ∀ x : Wd (Below wr.heap.size wr), x.world.cell? ⟨w.heap.size, 7, none⟩ = some (.slice (some ⟨b, o, none⟩) d.waits.length wc) := fun x => (x.ok.cell (p := ⟨w.heap.size, 7, none⟩) l0).trans c7
      have LD0 : Hid (∀ w', (∃ x : Wd (Below wr.heap.size wr), w' = x.world) → (Instr.loadAt tRBytes (.pointer (some ⟨w.heap.size + 1 + 1, 0, none⟩))).run Try.prog w' = .ok (.agg #[sv', t0', t1', t2', t3']) w') := by
        rintro w' ⟨x, rfl⟩
        exact run_loadAt_row ((x.ok.block _ (lt_of_row r2)).trans r2) Try.underlying39 rfl infoRB
      have LD5 : Hid (∀ w', (∃ x : Wd (Below wr.heap.size wr), w' = x.world) → (Instr.loadAt tRStep (.pointer (some ⟨b, o + k * 4, none⟩))).run Try.prog w' = .ok (.agg #[.int .i64 s.what, .int .i64 s.n, .int .i64 s.many, u]) w') := by
        rintro w' ⟨x, rfl⟩
        exact run_loadAt_mid x.world b (o + k * 4) tRStep [.int .i64 s.what, .int .i64 s.n, .int .i64 s.many, u] _ (fun j v hj => (x.ok.cell (p := ⟨b, o + k * 4 + j, none⟩) lb).trans (rng j v hj)) Try.underlying97 rfl infoRStep1
      have H := Lib.hid (And.intro rel (And.intro hs (And.intro hg (And.intro r2 rb'))))
      have hk0 : (0 : Int) ≤ (k : Int) := by omega
      have hk1 : (k : Int) < (d.waits.length : Int) := by omega
      clear rel hs hg r2 rb' bu rng stp hx sok ok
      have ne : Nonempty (Wd (Below wr.heap.size wr)) := ⟨⟨_, Below.refl _ _⟩⟩
      go_upto_region 5 with fail
      refine wp_region_hoist (fun w' => ∃ x : Wd (Below wr.heap.size wr), w' = x.world) [7] (by kernel_rfl) ?_
      refine wpAnyI_reads [0, 1, 2, 3, 4, 5] 2 _ ⟨⟨_, (Below.refl _ _).drew⟩, rfl⟩ (by kernel_rfl) ?_
      simp only [List.filterMap_cons, List.filterMap_nil, List.getElem?_toArray, List.getElem?_cons_succ, List.getElem?_cons_zero]
      refine wpHoist_load_run rfl tRBytes (.tmp 3) rfl _ LD0.out ?_
      refine wpHoist_step (fun K hK => ?_); simp only [hoists, sameUpon]; go_simp; refine hK _ ?_; clear hK K
      refine wpHoist_step (fun K hK => ?_); simp only [hoists, sameUpon]; go_simp; refine hK _ ?_; clear hK K
      refine wpHoist_step (fun K hK => ?_); simp only [hoists, sameUpon]; go_simp; refine hK _ ?_; clear hK K
      refine wpHoist_step (fun K hK => ?_); simp only [hoists, sameUpon]; go_simp; refine hK _ ?_; clear hK K
      refine wpHoist_load_run rfl tRStep (.tmp 18) rfl _ LD5.out ?_
      refine wpHoist_nil ?_
      refine wpAnyI_one 6 1 _ _ rfl (by kernel_rfl) ?_
      refine wpList_plain rfl fun K hK => ?_
      go_simp
      go_at_call 63
      refine DC.out.mono ?_
      rintro e W1 ⟨sv1, u0, u1, u2, u3, rfl, hb1, rb1⟩
      have hb1' : Below wr.heap.size wr W1 := (Below.refl _ _).drew.trans hb1
      refine hK _ _ (wpList_nil ⟨rfl, fun _ => ⟨⟨_, hb1'⟩, rfl⟩, ?_⟩)
      clear hK K
      have R1 := Lib.hid (And.intro hb1' rb1)
      clear rb1 hb1
      refine wpAnyI_one 7 0 _ _ rfl (by kernel_rfl) ?_
      refine wpList_store_abs rfl tRBytes (.tmp 3) (.tmp 20) rfl (w.heap.size + 1 + 1) #[sv1, u0, u1, u2, u3] rfl rfl tRBytes _ ((hb1'.block _ (lt_of_row H.out.2.2.2.1)).trans H.out.2.2.2.1) infoRB rfl R1.out.2.ones ?_
      intro W2 HW2 HM2 HS2
      refine wpList_nil ⟨rfl, fun h => absurd (by decide) h, by kernel_rfl, ?_⟩
      have H2 := Lib.hid (And.intro HM2 HW2.out)
      clear HM2 HS2 HW2
      go_wp2_with fail
      go_roundg (d.waits.length - (k + 1))
      case measure => have := H.out.2.2.1; omega
      case rel => exact ⟨k + 1, by go_num, by have := H.out.2.2.1; omega, H.out.1.step H.out.2.1 R1.out.1 R1.out.2 H2.out.1 H2.out.2⟩
    · obtain rfl : k = d.waits.length := by omega
      obtain ⟨sv', t0', t1', t2', t3', r2, rb'⟩ := rel.rb
      have H := Lib.hid (And.intro rel (And.intro r2 rb'))
      clear rel r2 rb'
      go_wp2_with (first
        | (refine wpList_load_row rfl tRBytes (.tmp 3) rfl (w.heap.size + 1 + 1) rfl tRBytes _ (0, 0) _ H.out.2.1 Try.underlying39 rfl infoRB ?_)
        | (refine wpList_store_abs rfl tRBytes (.tmp 2) (.tmp 21) rfl (w.heap.size + 1) #[sv', t0', t1', t2', t3'] rfl rfl tRBytes bytes0 H.out.1.r1 infoRB rfl H.out.2.2.ones ?_
           intro W5 HW5 HM5 HS5))
      refine bodyPost_ret (results_cell_row rfl _ _ (w.heap.size + 1) _ _ _ _ rfl HW5.out Try.underlying39 rfl infoRB) rfl ?_
      have hz := H.out.1.below.size
      refine ⟨sv', t0', t1', t2', t3', rfl, Moves.new H.out.1.below HM5 (by omega), ?_⟩
      have e : d.upto d.waits.length = d.stand := by unfold D.upto D.stand; rw [List.take_of_length_le (Nat.le_refl _)]
      have rb := H.out.2.2
      rw [e] at rb
      refine rb.keeps (fun i hi hl => HM5.block i hl ?_) (fun i hi hl => ?_)
      · intro ei
        subst ei
        rcases hi with hi | hi
        · omega
        · omega
      · rcases hi with hi | hi
        · exact Or.inl hi.1
        · exact Or.inr ⟨by omega, by rw [HS5]; exact hl⟩

end Go.Proofs.Ytiefhmbpaoecfaa

namespace Go.Proofs.Ytiefhmbpaoecfaa
open Go.RowKit Dm

theorem rused_c {w : World} {F : Nat → Prop} {sv t0 t1 t2 t3 : Value} {x : St} {many : Int} (r : RB w.heap F sv t0 t1 t2 t3 x many) (hx : ∀ t, (x.tp t).length ≤ 1048576) :
    Calls Try.prog 56 #[.agg #[sv, t0, t1, t2, t3]] w fun e w' => e = .returned (.int .i64 x.used) ∧ Below w.heap.size w w' := by
  obtain ⟨secs, s1, s2, b0, b1, b2, b3⟩ := r
  obtain ⟨a0, c0, rfl⟩ := b0.slice
  obtain ⟨a1, c1, rfl⟩ := b1.slice
  obtain ⟨a2, c2, rfl⟩ := b2.slice
  obtain ⟨a3, c3, rfl⟩ := b3.slice
  have h0 := hx 0
  have h1 := hx 1
  have h2 := hx 2
  have h3 := hx 3
  have hu : x.used = ((x.tp 0).length : Int) + (x.tp 1).length + (x.tp 2).length + (x.tp 3).length := rfl
  rw [hu]
  clear hu hx b0 b1 b2 b3 s1 s2
  generalize (x.tp 0).length = n0 at *
  generalize (x.tp 1).length = n1 at *
  generalize (x.tp 2).length = n2 at *
  generalize (x.tp 3).length = n3 at *
  go_enter Try.func56, Try.ntmps56
  go_wp2
  go_ret
  exact ⟨rfl, (Below.refl _ _).alloc (Nat.le_refl _) _⟩

theorem results_cell_tmp {P : Program} {fn : Func} {p q : Tmp} {ty : TypeId} (h : fn.results = #[.cell p ty, .tmp q]) (tmps : Array Value) (w : World) (g : Nat) (t : TypeId) (cs : Array Value) (fr : Nat × Nat) (d : TypeDesc) (v : Value)
    (hp : tmps.getD p undef = .pointer (some ⟨g, 0, none⟩)) (hq : tmps.getD q undef = v) (hg : w.heap[g]? = some (.cells cs t fr))
    (hu : P.underlying ty = some d) (hd : (match d with | .struct _ | .array _ _ => true | _ => false) = true) (hi : (P.info? ty).map (·.size) = some cs.size) :
    (results fn tmps).run P w = .ok (.tuple #[.agg cs, v]) w := by
  have hp' : tmps[p]?.getD undef = .pointer (some ⟨g, 0, none⟩) := by simpa using hp
  have hq' : tmps[q]?.getD undef = v := by simpa using hq
  simp [results, h, hp', hq', asAddr, run_loadVar_row w g t ty cs fr d hg hu hd hi]

theorem infoRD : (Try.prog.info? tRDisk).map (·.size) = some 10 := by kernel_rfl

/-- What a call hands back that gives the document's disk and a number. -/
def GivesRef (w : World) (F : Nat → Prop) (r : D × Int) (e : Ending) (w' : World) : Prop :=
  ∃ v, e = .returned (.tuple #[v, .int .i64 r.2]) ∧ Below w.heap.size w w' ∧ RefAt w'.heap (plus F w w') v r.1

abbrev ref0 : Array Value := #[.int .i64 0, .int .i64 0, .slice none 0 0, .slice none 0 0, .slice none 0 0, .slice none 0 0, .slice none 0 0, .slice none 0 0, .bool false, .int .i64 0]

theorem secOk_nil (many : Int) : SecOk [] (fun _ => zeros) many := ⟨(fun e he => by cases he), (fun _ _ => rfl), by simp⟩

theorem rnew_c (s b : Int) (w : World) (F : Nat → Prop) (h : newErr s b = 0) : Calls Try.prog 11 #[.int .i64 s, .int .i64 b] w (GivesRef w F (Dm.new s b, 0)) := by
  have hh : ¬ (s < 0 ∨ s > 4096 ∨ b < 0 ∨ b > 1048576) := by
    intro hh
    unfold newErr at h
    rw [if_pos hh] at h
    cases h
  have h1 : ¬ s < 0 := by omega
  have h2 : ¬ 4096 < s := by omega
  have h3 : ¬ b < 0 := by omega
  have h4 : ¬ 1048576 < b := by omega
  clear hh h
  go_enter Try.func11, Try.ntmps11
  go_wp2_with (refine wpList_store_abs rfl tRDisk (.tmp 4) (.tmp 23) rfl w.heap.size (refC s b (.slice none 0 0) (.slice none 0 0) (.slice none 0 0) (.slice none 0 0) (.slice none 0 0) (.slice none 0 0) false (-1)) rfl rfl tRDisk ref0 (heap_alloc_last w _) infoRD rfl (by kernel_rfl) ?_
               intro W1 HW1 HM1 HS1)
  refine bodyPost_ret (results_cell_tmp rfl _ _ w.heap.size _ _ _ _ (.int .i64 0) rfl rfl HW1.out Try.underlying42 rfl infoRD) rfl ?_
  refine ⟨_, rfl, Moves.new ((Below.refl _ _).alloc (Nat.le_refl _) _) HM1 (Nat.le_refl _), .slice none 0 0, .slice none 0 0, .slice none 0 0, .slice none 0 0, .slice none 0 0, .slice none 0 0, rfl, ⟨[], Or.inl ⟨rfl, rfl⟩, secOk_nil _, Or.inl ⟨rfl, rfl⟩, Or.inl ⟨rfl, rfl⟩, Or.inl ⟨rfl, rfl⟩, Or.inl ⟨rfl, rfl⟩⟩, Or.inl ⟨rfl, rfl⟩⟩

theorem rnew_err (s b : Int) (w : World) (h : newErr s b ≠ 0) : Calls Try.prog 11 #[.int .i64 s, .int .i64 b] w fun e w' => e = .returned (.tuple #[.agg ref0, .int .i64 2]) ∧ Below w.heap.size w w' := by
  have hh : s < 0 ∨ (¬ s < 0 ∧ 4096 < s) ∨ (¬ s < 0 ∧ ¬ 4096 < s ∧ b < 0) ∨ (¬ s < 0 ∧ ¬ 4096 < s ∧ ¬ b < 0 ∧ 1048576 < b) := by
    have hh : s < 0 ∨ s > 4096 ∨ b < 0 ∨ b > 1048576 := by
      refine Classical.byContradiction fun hh => h ?_
      unfold newErr
      rw [if_neg hh]
    omega
  clear h
  rcases hh with h | ⟨h1, h2⟩ | ⟨h1, h2, h3⟩ | ⟨h1, h2, h3, h4⟩
  all_goals
    go_enter Try.func11, Try.ntmps11
    go_wp2_with (refine wpList_store_abs rfl tRDisk (.tmp 4) (.tmp 20) rfl w.heap.size ref0 rfl rfl tRDisk ref0 (heap_alloc_last w _) infoRD rfl (by kernel_rfl) ?_
                 intro W1 HW1 HM1 HS1)
    refine bodyPost_ret (results_cell_tmp rfl _ _ w.heap.size _ _ _ _ (.int .i64 2) rfl rfl HW1.out Try.underlying42 rfl infoRD) rfl ?_
    exact ⟨rfl, Moves.new ((Below.refl _ _).alloc (Nat.le_refl _) _) HM1 (Nat.le_refl _)⟩

theorem ref_ones {h : Array Obj} {F : Nat → Prop} {sv t0 t1 t2 t3 wv : Value} {x : St} {many : Int} {l : List Step} (r : RB h F sv t0 t1 t2 t3 x many) (st : RStepsAt h F wv l) (m' room : Int) (dead : Bool) (stops : Int) : (refC m' room sv t0 t1 t2 t3 wv dead stops).all (·.oneCell') = true := by
  obtain ⟨secs, s1, s2, b0, b1, b2, b3⟩ := r
  simp [refC, s1.one, b0.one, b1.one, b2.one, b3.one, st.one]
  simp [Value.oneCell']

abbrev refW (w : World) (C : Array Value) : World := (w.alloc (.cells C tRDisk)).alloc (.cells ref0 tRDisk)
theorem refW_facts (w : World) (C : Array Value) : Below w.heap.size w (refW w C) ∧ (refW w C).heap[w.heap.size]? = some (.cells C tRDisk (0, 0)) ∧ (refW w C).heap[w.heap.size + 1]? = some (.cells ref0 tRDisk (0, 0)) ∧ (refW w C).heap.size = w.heap.size + 2 :=
  ⟨((Below.refl _ _).alloc (Nat.le_refl _) _).alloc (by simp) _, heap_past (by simp) (heap_alloc_last w _), heap_at (w := w.alloc _) _ (by simp), by simp⟩

/-- The same, with other flags. -/
theorem ref_flags {w w' : World} {F : Nat → Prop} {d : D} {sv t0 t1 t2 t3 wv : Value} (rb : RB w.heap F sv t0 t1 t2 t3 d.lasts d.many) (st : RStepsAt w.heap F wv d.waits) (hb : Below w.heap.size w w') (dead : Bool) (stops : Int) (d' : D) (ed : d' = { d with dead := dead, stops := stops }) : RefAt w'.heap (plus F w w') (.agg (refC d.many d.room sv t0 t1 t2 t3 wv dead stops)) d' := by
  subst ed
  exact ⟨sv, t0, t1, t2, t3, wv, rfl, rb.plus hb, st.plus hb⟩

set_option maxRecDepth 100000 in
set_option maxHeartbeats 1000000 in
/-- The two calls that change flags alone: the walk's end is one. -/
theorem rgoes_c {w : World} {F : Nat → Prop} {v : Value} {d : D} (hr : RefAt w.heap F v d) (ok : d.ok) : Calls Try.prog 60 #[v] w (GivesRef w F d.goes) := by
  obtain ⟨sv, t0, t1, t2, t3, wv, rfl, rb, st⟩ := hr
  have ones := ref_ones rb st d.many d.room
  obtain ⟨b0, r0, r1, z0⟩ := refW_facts w (refC d.many d.room sv t0 t1 t2 t3 wv d.dead d.stops)
  have HD := Lib.hid (And.intro rb (And.intro st (And.intro ones (And.intro b0 (And.intro r0 (And.intro r1 z0))))))
  have s0 := ok.stops
  have s1 := ok.stops1
  clear rb st ones ok
  have k8 : (refW w (refC d.many d.room sv t0 t1 t2 t3 wv d.dead d.stops)).cell? ⟨w.heap.size, 8, none⟩ = some (.bool d.dead) := row_cell r0 rfl
  have k9 : (refW w (refC d.many d.room sv t0 t1 t2 t3 wv d.dead d.stops)).cell? ⟨w.heap.size, 9, none⟩ = some (.int .i64 d.stops) := row_cell r0 rfl
  obtain ⟨C, hC⟩ : ∃ C, refC d.many d.room sv t0 t1 t2 t3 wv d.dead d.stops = C := ⟨_, rfl⟩
  have f8 := row_free r0 8
  have f9 := row_free r0 9
  rw [hC] at HD k8 k9 f8 f9
  rw [hC]
  have HC := Lib.hid hC
  clear hC
  obtain ⟨W0, hW0⟩ : ∃ W0, refW w C = W0 := ⟨_, rfl⟩
  rw [hW0] at HD k8 k9 f8 f9
  clear b0 r0 r1 z0
  have fin : ∀ (dead : Bool) (stops : Int) (c : Int) (W : World), Moves (fun k => k = w.heap.size) W0 W → W.heap[w.heap.size]? = some (.cells (refC d.many d.room sv t0 t1 t2 t3 wv dead stops) tRDisk (0, 0)) → W.heap[w.heap.size + 1]? = some (.cells ref0 tRDisk (0, 0)) ∧
      ∀ W5, Moves (fun k => k = w.heap.size + 1) W W5 → d.goes = ({ d with dead := dead, stops := stops }, c) → GivesRef w F d.goes (.returned (.tuple #[.agg (refC d.many d.room sv t0 t1 t2 t3 wv dead stops), .int .i64 c])) W5 := by
    intro dead stops c W hm hrow
    have hbW : Below w.heap.size w W := Moves.new HD.out.2.2.2.1 hm (Nat.le_refl _)
    refine ⟨?_, fun W5 h5 he => ?_⟩
    · rw [hm.block _ (by rw [HD.out.2.2.2.2.2.2]; omega) (by omega)]; exact HD.out.2.2.2.2.2.1
    · have hb5 : Below w.heap.size w W5 := Moves.new hbW h5 (by omega)
      rw [he]
      exact ⟨_, rfl, hb5, ref_flags HD.out.1 HD.out.2.1 hb5 dead stops _ rfl⟩
  have FIN := Lib.hid fin
  clear fin
  cases hd : d.dead
  · rw [hd] at k8
    by_cases h0 : d.stops = 0
    · have hg : d.goes = ({ d with dead := true, stops := -1 }, 281) := by simp [D.goes, hd, h0]
      have b0 : (d.stops == 0) = true := by simpa using h0
      have y0 := HD.out.2.2.2.2.1
      rw [← HC.out] at y0
      have y1 := heap_setCell_same W0 w.heap.size 8 _ tRDisk (.bool true) y0
      have y2 := heap_setCell_same _ w.heap.size 9 _ tRDisk (.int .i64 (-1)) y1
      have mv : Moves (fun k => k = w.heap.size) W0 ((W0.setCell ⟨w.heap.size, 8, none⟩ (.bool true)).setCell ⟨w.heap.size, 9, none⟩ (.int .i64 (-1))) := ⟨rfl, rfl, rfl, by simp, fun k hk hn => by rw [heap_setCell_other _ _ _ _ hn, heap_setCell_other _ _ _ _ hn]⟩
      have F1 := Lib.hid (FIN.out true (-1) 281 _ mv y2)
      have Y2 : Hid (((W0.setCell ⟨w.heap.size, 8, none⟩ (.bool true)).setCell ⟨w.heap.size, 9, none⟩ (.int .i64 (-1))).heap[w.heap.size]? = some (.cells (refC d.many d.room sv t0 t1 t2 t3 wv true (-1)) tRDisk (0, 0))) := y2
      have HG := Lib.hid hg
      clear y0 y1 y2 mv hg h0
      go_enter Try.func60, Try.ntmps60
      go_upto_region 1 with fail
      clear hW0
      go_wp2_with (first
        | (refine wpList_load_row rfl tRDisk (.tmp 1) rfl w.heap.size rfl tRDisk _ (0, 0) _ Y2.out Try.underlying42 rfl infoRD ?_)
        | (refine wpList_store_abs rfl tRDisk (.tmp 2) (.tmp 12) rfl (w.heap.size + 1) _ rfl rfl tRDisk ref0 F1.out.1 infoRD rfl (HD.out.2.2.1 _ _) ?_
           intro W5 HW5 HM5 HS5))
      refine bodyPost_ret (results_cell_tmp rfl _ _ (w.heap.size + 1) _ _ _ _ _ rfl rfl HW5.out Try.underlying42 rfl infoRD) rfl ?_
      exact F1.out.2 W5 HM5 HG.out
    · have b0 : (d.stops == 0) = false := by simpa using h0
      by_cases h1 : d.stops > 0
      · have hg : d.goes = ({ d with dead := false, stops := d.stops - 1 }, 0) := by simp [D.goes, hd, h0, h1]
        have b1 : decide (0 < d.stops) = true := by simpa using h1
        have y0 := HD.out.2.2.2.2.1
        rw [← HC.out] at y0
        have y1 := heap_setCell_same W0 w.heap.size 9 _ tRDisk (.int .i64 (d.stops - 1)) y0
        have mv : Moves (fun k => k = w.heap.size) W0 (W0.setCell ⟨w.heap.size, 9, none⟩ (.int .i64 (d.stops - 1))) := ⟨rfl, rfl, rfl, by simp, fun k hk hn => by rw [heap_setCell_other _ _ _ _ hn]⟩
        rw [hd] at y1
        have F1 := Lib.hid (FIN.out false (d.stops - 1) 0 _ mv y1)
        have Y2 : Hid ((W0.setCell ⟨w.heap.size, 9, none⟩ (.int .i64 (d.stops - 1))).heap[w.heap.size]? = some (.cells (refC d.many d.room sv t0 t1 t2 t3 wv false (d.stops - 1)) tRDisk (0, 0))) := y1
        have HG := Lib.hid hg
        clear y0 y1 mv hg h0
        go_enter Try.func60, Try.ntmps60
        go_upto_region 1 with fail
        clear hW0
        go_wp2_with (first
          | (refine wpList_load_row rfl tRDisk (.tmp 1) rfl w.heap.size rfl tRDisk _ (0, 0) _ Y2.out Try.underlying42 rfl infoRD ?_)
          | (refine wpList_store_abs rfl tRDisk (.tmp 2) (.tmp 20) rfl (w.heap.size + 1) _ rfl rfl tRDisk ref0 F1.out.1 infoRD rfl (HD.out.2.2.1 _ _) ?_
             intro W5 HW5 HM5 HS5))
        refine bodyPost_ret (results_cell_tmp rfl _ _ (w.heap.size + 1) _ _ _ _ _ rfl rfl HW5.out Try.underlying42 rfl infoRD) rfl ?_
        exact F1.out.2 W5 HM5 HG.out
      · have hg : d.goes = ({ d with dead := false, stops := d.stops }, 0) := by
          have e : ({ d with dead := false, stops := d.stops } : D) = d := by rw [← hd]
          rw [e]
          simp [D.goes, hd, h0, h1]
        have b1 : decide (0 < d.stops) = false := by simpa using h1
        have y1 := HD.out.2.2.2.2.1
        rw [← HC.out, hd] at y1
        have F1 := Lib.hid (FIN.out false d.stops 0 _ (Moves.refl _ _) y1)
        have Y2 := Lib.hid y1
        have HG := Lib.hid hg
        clear y1 hg h0
        go_enter Try.func60, Try.ntmps60
        go_upto_region 1 with fail
        clear hW0
        go_wp2_with (first
          | (refine wpList_load_row rfl tRDisk (.tmp 1) rfl w.heap.size rfl tRDisk _ (0, 0) _ Y2.out Try.underlying42 rfl infoRD ?_)
          | (refine wpList_store_abs rfl tRDisk (.tmp 2) (.tmp 20) rfl (w.heap.size + 1) _ rfl rfl tRDisk ref0 F1.out.1 infoRD rfl (HD.out.2.2.1 _ _) ?_
             intro W5 HW5 HM5 HS5))
        refine bodyPost_ret (results_cell_tmp rfl _ _ (w.heap.size + 1) _ _ _ _ _ rfl rfl HW5.out Try.underlying42 rfl infoRD) rfl ?_
        exact F1.out.2 W5 HM5 HG.out
  · have hg : d.goes = ({ d with dead := true, stops := d.stops }, 281) := by
      have e : ({ d with dead := true, stops := d.stops } : D) = d := by rw [← hd]
      rw [e]
      simp [D.goes, hd]
    rw [hd] at k8
    have y1 := HD.out.2.2.2.2.1
    rw [← HC.out, hd] at y1
    have F1 := Lib.hid (FIN.out true d.stops 281 _ (Moves.refl _ _) y1)
    have Y2 := Lib.hid y1
    have HG := Lib.hid hg
    clear y1 hg
    go_enter Try.func60, Try.ntmps60
    go_upto_region 1 with fail
    clear hW0
    go_wp2_with (first
      | (refine wpList_load_row rfl tRDisk (.tmp 1) rfl w.heap.size rfl tRDisk _ (0, 0) _ Y2.out Try.underlying42 rfl infoRD ?_)
      | (refine wpList_store_abs rfl tRDisk (.tmp 2) (.tmp 6) rfl (w.heap.size + 1) _ rfl rfl tRDisk ref0 F1.out.1 infoRD rfl (HD.out.2.2.1 _ _) ?_
         intro W5 HW5 HM5 HS5))
    refine bodyPost_ret (results_cell_tmp rfl _ _ (w.heap.size + 1) _ _ _ _ _ rfl rfl HW5.out Try.underlying42 rfl infoRD) rfl ?_
    exact F1.out.2 W5 HM5 HG.out

end Go.Proofs.Ytiefhmbpaoecfaa
