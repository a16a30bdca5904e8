/-
  EvlogLeaves: the walk.
-/
import Derived.Test.YtgffifleflkjoaaGreatG24
import Derived.Test.YtgffifleflkjoaaGreatG26

namespace Go.Proofs.YtgffifleflkjoaaGreat
open Go.RowKit Dm
attribute [local go_sem] Oper.semAt_some

set_option maxRecDepth 100000 in
set_option maxHeartbeats 4000000 in
theorem leaves_go {w : World} {av mv : Value} {Q : List ActQ} {ml : List Em.Change} (hv : ActsIn w av Q) (hq : (Q.length + 1) * 80 ≤ 140737488355328) (hm : ChangesAt w (fun _ => True) mv ml) (hml : ml.length ≤ 9223372036854775807) (many : Int) (hmany : i64' many) :
    Calls Tryz.prog 4 #[av, .int .i64 many, mv] w fun e w' => e = .returned (.bool true) ∧ Below w.heap.size w w' := by
  obtain ⟨va, vc, rfl⟩ := hv.slice
  obtain ⟨ma, mc, rfl⟩ := hm.slice
  obtain ⟨W1, hW1⟩ : ∃ W, (w.alloc (.cells #[.int .i64 many] 3)).alloc (.cells #[.bool false] 4) = W := ⟨_, rfl⟩
  have B1 : Below w.heap.size w W1 := by rw [← hW1]; exact ((Below.refl _ _).alloc (Nat.le_refl _) _).alloc (by simp) _
  have s1 : W1.heap.size = w.heap.size + 2 := by rw [← hW1]; simp
  have r4 : W1.heap[w.heap.size]? = some (.cells #[.int .i64 many] 3 (0, 0)) := by rw [← hW1]; exact heap_past (by simp) (heap_alloc_last w _)
  have r6 : W1.heap[w.heap.size + 1]? = some (.cells #[.bool false] 4 (0, 0)) := by rw [← hW1]; exact heap_at (w := w.alloc _) _ (by simp)
  obtain ⟨qm, hqm⟩ : ∃ qm : ActQ, qm = (⟨0, ml, 0, ⟨[], 0, 0⟩⟩, .slice ma ml.length mc, .slice none 0 0) := ⟨_, rfl⟩
  have isq : ∀ W, Below w.heap.size w W → ActIs W qm := by
    intro W hb
    subst hqm
    exact ⟨hm.later hb, Or.inl ⟨⟨_, _, rfl⟩, rfl⟩, by simp [i64'], by simp [i64'], by simp [i64'], by simp [i64'], hml, Nat.zero_le _⟩
  have H0 := Lib.hid (And.intro hv (And.intro hm (And.intro isq (And.intro hq hqm))))
  have H1 := Lib.hid (And.intro B1 (And.intro s1 (And.intro r4 r6)))
  have HW1 := Lib.hid hW1
  clear hv hm isq hq hqm B1 s1 r4 r6 hW1
  obtain ⟨bb, hbb⟩ : ∃ bb, Em.fewE ((Q ++ [qm]).map (·.1)) 11 = bb := ⟨_, rfl⟩
  have HF := Lib.hid hbb
  clear hbb
  generalize hqn : Q.length = n at *
  generalize hmn : ml.length = k at *
  have HN := Lib.hid (And.intro hqn hmn)
  clear hqn hmn
  refine (callsIn_wide (n := 0)).1 ?_
  refine callsIn_of_wp_marks Tryz.func4 rfl trivial ?_ rfl
  simp only [Tryz.ntmps4, List.size_toArray, List.length_cons, List.length_nil, Nat.reduceAdd, Nat.reduceSub, Array.replicate_succ, Array.replicate_zero, List.push_toArray, List.append_toArray, List.nil_append, List.cons_append]
  refine wpIn_wide.2 ?_
  go_upto_region 1 with fail
  rw [HW1.out]
  go_upto_if 26 with (first
    | (at_builtin; refine wpList_append_acts rfl (.tmp 18) (.tmp 19) rfl W1.heap.size W1.heap.size W1 ((Below.refl _ _).alloc (Nat.le_refl _) _) (Nat.le_refl _) _ [] rfl (own_noacts W1) _ Q rfl ((H0.out.1.later (H1.out.1.alloc H1.out.1.size _)).src) (by simpa using (show Q.length * 80 ≤ 140737488355328 by have := H0.out.2.2.2.1; rw [HN.out.1]; omega)) (by simp) ?_; intro v1 w1 o1 b1)
    | (at_builtin; refine wpList_append_acts rfl (.tmp 20) (.tmp 23) rfl W1.heap.size W1.heap.size W1 (b1.out.alloc b1.out.size _) (Nat.le_refl _) _ Q rfl (o1.out.alloc _) _ [qm] rfl (act_src (by rw [H0.out.2.2.2.2]; exact heap_alloc_last w1 _) (actCells_one (H0.out.2.2.1 w (Below.refl _ _)))) (by have := H0.out.2.2.2.1; rw [HN.out.1]; exact this) (by have := b1.out.size; simp; omega) ?_; intro v2 w2 o2 b2
       have FW := Lib.hid (few19_c (OwnA.acts o2.out (fun q hq => by
         rcases List.mem_append.1 hq with h | h
         · exact (H0.out.1.all q h).later (H1.out.1.trans (b2.out.mono H1.out.1.size))
         · rw [List.mem_singleton.1 h]; exact H0.out.2.2.1 _ (H1.out.1.trans (b2.out.mono H1.out.1.size)))) 11 (by have := H0.out.2.2.2.1; rw [List.length_append, HN.out.1, List.length_singleton]; omega))
       rw [HF.out] at FW)
    | (go_at_call 13; refine FW.out.mono ?_; rintro e w' ⟨rfl, rfl⟩))
  have B2 := Lib.hid (H1.out.1.trans (b2.out.mono H1.out.1.size))
  have R2 := Lib.hid (And.intro ((b2.out.block _ (lt_of_row H1.out.2.2.1)).trans H1.out.2.2.1) ((b2.out.block _ (lt_of_row H1.out.2.2.2)).trans H1.out.2.2.2))
  clear o1 b1 o2 FW
  cases bb
  · have WC := Lib.hid (works19_c w2)
    go_wp2_with (go_at_call 8; refine WC.out.mono ?_; rintro e w3 ⟨rfl, b3⟩
                 have r6 := (b3.block _ (lt_of_row R2.out.2)).trans R2.out.2
                 have z6 := row_free r6 0
                 have k6 := row_cell r6 (j := 0) rfl
                 have B3 := Lib.hid (And.intro b3 r6)
                 clear b3 r6)
    exact leaves_end (ds := []) (B2.out.trans (B3.out.1.mono B2.out.size)) (by omega) B3.out.2 List.nodup_nil (fun D hD => by cases hD) rfl
  · have NW := Lib.hid (new_c 0 20000 w2 rfl)
    go_upto_region 4 with (go_at_call 9; refine NW.out.mono ?_; rintro e w3 ⟨pd, md, rfl, hb3, hp, hm, x3⟩)
    have lx := x3.lt
    have x3 : DiskAt w3.heap pd md (Dm.new 0 20000) (fun k => k < w3.heap.size ∧ k ≠ pd ∧ k ≠ md) := x3.weak (fun k hk hl => ⟨hl, hk.2⟩) (fun h => h.2.1 rfl) (fun h => h.2.2 rfl)
    obtain ⟨q1, q2, q3, q4, q5⟩ := Em.begun_fine (s := 0) (room := 20000) (by decide)
    have OC := Lib.hid (open_c (ts := fun _ => Em.T.none) x3 (by show 0 ≤ _; decide) (fun i h => h.1) (fun k _ => reads_nil k) rfl)
    have H3 := Lib.hid (And.intro hb3 (And.intro hp hm))
    clear hb3 hp hm x3 lx NW
    go_upto_region 5 with (go_at_call 10; refine OC.out.mono ?_; rintro e w4 ⟨m4, o4, _⟩; obtain ⟨pl, F4, rfl, x4, hpl, hF4, _⟩ := o4 q1)
    have s3 := H3.out.1.size
    have s2 := B2.out.size
    have s1 := H1.out.2.1
    have D4 : Below w2.heap.size w2 w4 := below_pm H3.out.1 m4 H3.out.2.1 H3.out.2.2
    have H4 := Lib.hid (And.intro D4 (And.intro (show w2.heap.size ≤ pl by omega) (And.intro hF4 x4)))
    clear m4 o4 hpl hF4 OC D4 x4
    obtain ⟨E0, hE0⟩ : ∃ E0, (Em.begun (Dm.new 0 20000)).1 = E0 := ⟨_, rfl⟩
    rw [show ((20000 : Nat) : Int) = 20000 from rfl] at q2 q3 q4 q5
    rw [hE0] at H4 q2 q3 q4 q5
    have HE := Lib.hid (And.intro q2 q3)
    clear hE0 q1 q2 q3 q4 q5
    go_upto_region 8 with (go_at_call 12; refine (num19_c _ _).mono ?_; rintro e w' ⟨rfl, rfl⟩)
    obtain ⟨W5, hW5⟩ : ∃ W, w4.alloc (.cells #[.slice none 0 0] tRowL) = W := ⟨_, rfl⟩
    have B5 : Below w4.heap.size w4 W5 := by rw [← hW5]; exact (Below.refl _ _).alloc (Nat.le_refl _) _
    have r5 : W5.heap[w4.heap.size]? = some (.cells #[.slice none 0 0] tRowL (0, 0)) := by rw [← hW5]; exact heap_alloc_last _ _
    have D5 : Below w2.heap.size w2 W5 := H4.out.1.trans (B5.mono H4.out.1.size)
    have lx := H4.out.2.2.2.disk.lt
    have lp := lt_of_row H4.out.2.2.2.row.choose_spec.1
    have ST := Lib.hid (show LvRel w2 pl pd md w4.heap.size 0 W5 E0 F4 (.slice none 0 0) from
      ⟨log_off H4.out.2.2.2 (Moves.of_below (O := fun _ => False) B5) (fun h => h) (fun h => h) (fun h => h) (fun _ _ h => h) (fun _ h => h.elim), by rw [HE.out.1.disk.waits]; decide, by rw [HE.out.2]; exact Maps.tidy_empty, r5,
        by rw [HE.out.2]; exact Or.inl ⟨rfl, Em.tell_none⟩, fun h => by have := H4.out.2.2.1 _ h; omega, ⟨by omega, by omega, by omega⟩, D5, ⟨H4.out.2.1, H3.out.2.1, H3.out.2.2, H4.out.1.size⟩⟩)
    rw [hW5]
    have HW5 := Lib.hid (And.intro B5.size lp)
    clear B5 r5 D5 lx lp hW5 s1 s2 s3
    obtain ⟨qw, hqw⟩ : ∃ qw, qw = w4.heap.size := ⟨_, rfl⟩
    rw [← hqw] at ST ⊢
    have HQW := Lib.hid hqw
    clear hqw
    have SM := Lib.hid (Em.fewE_small HF.out)
    have SMQ := Lib.hid (show ∀ q ∈ Q, q.1.l.length ≤ 70 ∧ q.1.crash.keep.length ≤ 40 ∧ ∀ c ∈ q.1.l, c.key.length ≤ 70 ∧ c.value.length ≤ 200 from fun q hq => Em.ActE.small_of (SM.out.1 _ (List.mem_map.2 ⟨q, List.mem_append_left _ hq, rfl⟩)))
    have SMM := Lib.hid (show ml.length ≤ 70 ∧ ∀ c ∈ ml, c.key.length ≤ 70 ∧ c.value.length ≤ 200 by
      have := Em.ActE.small_of (SM.out.1 qm.1 (List.mem_map.2 ⟨qm, List.mem_append_right _ (List.mem_singleton.2 rfl), rfl⟩))
      rw [H0.out.2.2.2.2] at this
      exact ⟨this.1, this.2.2⟩)
    have n10 : n ≤ 10 := by
      have h := SM.out.2
      rw [List.length_map, List.length_append, HN.out.1, List.length_singleton] at h
      omega
    go_wp2
    go_loopw [12] (fun s wr => ∃ (i : Nat) (e : Em.E) (F : Nat → Prop) (v : Value), i ≤ n ∧ s = .int .i64 (i : Int) ∧ LvRel w2 pl pd md qw i wr e F v) (fun s _ => n - (intOf s).toNat)
    case atStart => exact ⟨0, _, _, _, Nat.zero_le _, rfl, ST.out⟩
    case round =>
      obtain ⟨i, e, F, v, hi, rfl, hrel⟩ := hrel
      by_cases hlt : i < n
      · have i0 : (0 : Int) ≤ (i : Int) := by omega
        have i1 : (i : Int) < (n : Int) := by omega
        obtain ⟨⟨x, lv, kv⟩, hqi⟩ : ∃ q, Q[i]? = some q := ⟨_, List.getElem?_eq_getElem (by rw [HN.out.1]; exact hlt)⟩
        obtain ⟨b, o, rfl, lb, rg, is⟩ := H0.out.1.at hqi
        obtain ⟨la, lc, e1⟩ := is.l.slice
        simp only at e1
        subst e1
        have BW : Below w.heap.size w wr := B2.out.trans (hrel.below.mono B2.out.size)
        have k1 : wr.cell? ⟨b, o + i * 6 + 1, none⟩ = some (.slice la x.l.length lc) := (BW.cell (p := ⟨b, o + i * 6 + 1, none⟩) lb).trans (rg 1 _ rfl)
        have isl : ChangesAt w (fun _ => True) (.slice la x.l.length lc) x.l := is.l
        obtain ⟨g1, _, g3⟩ := SMQ.out _ (List.mem_of_getElem? hqi)
        simp only at g1 g3
        have CC := Lib.hid (commit_c hrel.log (by have := hrel.waits; omega) (isl.later BW) (by omega) (fun c hc => by have := g3 c hc; omega))
        have HR := Lib.hid hrel
        have HX := Lib.hid (And.intro isl (And.intro BW (And.intro lb (And.intro g1 (rg 1 _ rfl)))))
        clear hrel isl BW rg is hqi g3
        obtain ⟨xl, hxl⟩ : ∃ xl, x.l.length = xl := ⟨_, rfl⟩
        rw [hxl] at k1 CC
        have HXL := Lib.hid hxl
        clear hxl
        obtain ⟨R1, hR1⟩ : ∃ R1, e.commit x.l = R1 := ⟨_, rfl⟩
        have HC := Lib.hid hR1
        rw [hR1] at CC
        clear hR1
        by_cases hc : R1.2 = 0
        · have HZ := Lib.hid hc
          go_wp2_with (first
            | (go_at_call 11; refine CC.out.mono ?_; rintro en w5 ⟨rfl, m5, x5⟩; have H5 := Lib.hid (And.intro m5 x5); clear m5 x5)
            | (go_at_call 12; refine (num19_c _ _).mono ?_; rintro e w' ⟨rfl, rfl⟩))
          have rq5 := (H5.out.1.block qw (lt_of_row HR.out.row) (fun e => by have := HR.out.ne; rcases e with e | e | e <;> omega)).trans HR.out.row
          have B5w : Below w2.heap.size w2 w5 := below_of_moves HR.out.below H5.out.1 (fun k hk => by have := HR.out.new; rcases hk with e | e | e <;> omega)
          have BW5 : Below w.heap.size w w5 := B2.out.trans (B5w.mono B2.out.size)
          have c1 : ∀ x : Wd (Below w5.heap.size w5), x.world.cell? ⟨qw, 0, none⟩ = some v := fun x => cell_past x.ok (row_cell rq5 rfl)
          have c2 : ∀ x : Wd (Below w5.heap.size w5), x.world.cell? ⟨b, o + i * 6 + 1, none⟩ = some (.slice la xl lc) := fun x => cell_past (BW5.trans (x.ok.mono BW5.size)) (by rw [← HXL.out]; exact HX.out.2.2.2.2)
          have ne : Nonempty (Wd (Below w5.heap.size w5)) := ⟨⟨_, Below.refl _ _⟩⟩
          have AC := Lib.hid (rall_c (w := w5.drew) ((HR.out.pairs.moves H5.out.1 (fun b hb _ e => by rcases e with e | e | e <;> omega)).later ((Below.refl _ _).drew)) (by have := HR.out.tell; omega) (HX.out.1.later (BW5.drew)) (by have := HX.out.2.2.2.1; omega))
          have HB5 := Lib.hid (And.intro rq5 (And.intro B5w BW5))
          clear rq5 B5w BW5
          refine wp_region_hoist (fun w' => ∃ x : Wd (Below w5.heap.size w5), w' = x.world) [6, 7, 8, 9, 10] (by kernel_rfl) ?_
          refine wpAnyI_reads [0, 1, 2, 3, 4, 5] 5 _ ⟨⟨_, (Below.refl _ _).drew⟩, rfl⟩ (by kernel_rfl) ?_
          simp only [List.filterMap_cons, List.filterMap_nil, List.getElem?_toArray, List.getElem?_cons_succ, List.getElem?_cons_zero]
          iterate 6 (with_reducible refine wpHoist_step (fun K hK => ?_); simp only [hoists, sameUpon]; go_simp; refine hK _ ?_; clear hK K)
          with_reducible refine wpHoist_nil ?_
          refine wpAnyI_one 6 4 _ _ rfl (by kernel_rfl) ?_
          refine wpList_plain rfl fun K hK => ?_
          go_simp
          rw [HXL.out] at AC
          go_at_call 14
          refine AC.out.mono ?_
          rintro e' w6 ⟨v', rfl, p6, b6⟩
          obtain ⟨wa, wc, rfl⟩ := p6.slice
          generalize (Em.rall (Em.tell e.rows) x.l).1.length = wn at p6 ⊢
          have B6 : Below w5.heap.size w5 w6 := ((Below.refl w5.heap.size w5).drew).trans b6
          have rq6 := (B6.block qw (lt_of_row HB5.out.1)).trans HB5.out.1
          have k6 := row_cell rq6 (j := 0) rfl
          have z6 := row_free rq6 0
          have H6 := Lib.hid (And.intro p6 B6)
          clear p6 b6 rq6 c1 c2 AC
          refine hK _ _ (wpList_nil ⟨rfl, fun h => absurd (by decide) h, ?_⟩)
          clear hK K
          refine wpAnyI_pure [7, 8, 9] 1 _ (by kernel_rfl) ?_
          simp only [List.filterMap_cons, List.filterMap_nil, List.getElem?_toArray, List.getElem?_cons_succ, List.getElem?_cons_zero]
          repeat (refine wpHoist_step (fun K hK => ?_); simp only [hoists, sameUpon]; go_simp; refine hK _ ?_; clear hK K)
          refine wpHoist_nil ?_
          refine wpAnyI_one 10 0 _ _ rfl (by kernel_rfl) ?_
          refine wpList_plain rfl fun K hK => ?_
          go_simp
          refine hK _ _ (wpList_nil ⟨rfl, fun h => absurd (by decide) h, by kernel_rfl, ?_⟩)
          clear hK K
          go_wp2
          go_roundw
          case rel => exact ⟨i + 1, R1.1, _, _, by omega, by go_num, HR.out.next H5.out.1 H5.out.2 (by rw [HC.out]) (by rw [HC.out]; exact HZ.out) H6.out.2 H6.out.1⟩
          case measure => simp [intOf]; omega
        · have HZ := Lib.hid hc
          go_wp2_with (first
            | (go_at_call 11; refine CC.out.mono ?_; rintro en w5 ⟨rfl, m5, x5⟩; have H5 := Lib.hid (And.intro m5 x5); clear m5 x5)
            | (go_at_call 12; refine (num19_c _ _).mono ?_; rintro e w' ⟨rfl, rfl⟩))
          go_roundw
          case rel => exact ⟨i + 1, R1.1, _, v, by omega, by go_num, HR.out.stay (l := x.l) H5.out.1 H5.out.2 (by rw [HC.out]) (by rw [HC.out]; exact HZ.out)⟩
          case measure => simp [intOf]; omega
      · obtain rfl : i = n := by omega
        have AC := Lib.hid (all_c' hrel.log)
        have HR := Lib.hid hrel
        clear hrel
        go_upto_region 14 with (go_at_call 15; refine AC.out.mono ?_; rintro en w5 ⟨m, rfl, h5, rm, hm1, hm2, hm3⟩)
        have b5 : Below wr.heap.size wr w5 := by rw [← h5]; exact (Below.refl _ _).alloc (Nat.le_refl _) _
        have g5 : w5.heap[wr.heap.size]? = some (.cells #[.map (some m)] tRows (0, 0)) := by rw [← h5]; exact heap_alloc_last _ _
        have x5 := log_off HR.out.log (Moves.of_below (O := fun _ => False) b5) (fun h => h) (fun h => h) (fun h => h) (fun _ _ h => h) (fun _ h => h.elim)
        have BW5 : Below w.heap.size w w5 := B2.out.trans ((HR.out.below.trans (b5.mono HR.out.below.size)).mono B2.out.size)
        have CC := Lib.hid (commit_c x5 (by have := HR.out.waits; omega) (H0.out.2.1.later BW5) (by have := SMM.out.1; omega) (fun c hc => by have := SMM.out.2 c hc; omega))
        have lx := HR.out.log.disk.lt
        have lp := lt_of_row HR.out.log.row.choose_spec.1
        have H5 := Lib.hid (And.intro b5 (And.intro g5 (And.intro rm (And.intro hm1 (And.intro hm2 (And.intro hm3 (And.intro lx lp)))))))
        clear b5 g5 x5 BW5 rm hm1 hm2 hm3 lx lp h5 AC
        generalize hr1 : Em.E.commit e ml = R1 at *
        clear hr1
        go_upto_region 15 with (go_at_call 11; refine CC.out.mono ?_; rintro en w6 ⟨rfl, m6, _⟩)
        have T6 := Lib.hid (show TurnW w w6 qw wr.heap.size m many e.rows v by
          obtain ⟨b5, g5, rm, hm1, hm2, hm3, lx, lp⟩ := H5.out
          obtain ⟨ne1, ne2, ne3⟩ := HR.out.ne
          obtain ⟨z1, z2, z3, z4⟩ := HR.out.new
          have s2 := B2.out.size
          have D5 : Below w2.heap.size w2 w5 := HR.out.below.trans (b5.mono HR.out.below.size)
          have D6 : Below w2.heap.size w2 w6 := below_of_moves D5 m6 (fun k hk => by rcases hk with h | h | h <;> omega)
          have l4 := lt_of_row R2.out.1
          have l6 := lt_of_row R2.out.2
          have lq := lt_of_row HR.out.row
          have lg := lt_of_row g5
          have lm := rm.lt
          have p5 : PairsAt w5 (fun b => b ≠ pl ∧ b ≠ pd ∧ b ≠ md ∧ b ≠ qw) v (Em.tell e.rows) := HR.out.pairs.later b5
          refine ⟨B2.out.trans (D6.mono s2), (D6.block _ l4).trans R2.out.1, (D6.block _ l6).trans R2.out.2, (m6.block qw (by have := b5.size; omega) (fun h => by rcases h with h | h | h <;> omega)).trans ((b5.block qw lq).trans HR.out.row),
            (m6.block _ lg (fun h => by rcases h with h | h | h <;> omega)).trans g5, rows_moves (rows_below rm b5 lm) m6 (fun h => by rcases h with h | h | h <;> omega), (p5.moves m6 (fun b hb _ h => by rcases h with h | h | h <;> omega)).weak (fun _ _ _ => trivial)⟩)
        have HD := Lib.hid (And.intro HR.out.log.good.rows HR.out.log.good.few)
        clear m6 H5 HR CC R2 B2 H3 H4 HE ST HW5 HQW SM SMQ SMM
        obtain ⟨ra, rc, rfl⟩ := T6.out.pairs.slice
        have N256 : (Em.tell e.rows).length ≤ 256 := by rw [Em.tell_len]; exact HD.out.2
        generalize hN2 : (Em.tell e.rows).length = N at *
        have HN2 := Lib.hid hN2
        clear hN2
        obtain ⟨g, hg⟩ : ∃ g, wr.heap.size = g := ⟨_, rfl⟩
        rw [hg] at T6 ⊢
        clear hg
        go_wp2
        refine wp_loop_rounds 3 ?_
        obtain ⟨A0, hA0⟩ : ∃ W, w6.alloc (.cells #[.int .i64 0] 3) = W := ⟨_, rfl⟩
        have b7 : Below w6.heap.size w6 A0 := by rw [← hA0]; exact (Below.refl _ _).alloc (Nat.le_refl _) _
        have r7 : A0.heap[w6.heap.size]? = some (.cells #[.int .i64 0] 3 (0, 0)) := by rw [← hA0]; exact heap_alloc_last _ _
        have T0 := Lib.hid (And.intro (T6.out.later b7) (And.intro r7 b7.size))
        rw [hA0]
        clear b7 r7 hA0
        obtain ⟨s0, hs0⟩ : ∃ s0, w6.heap.size = s0 := ⟨_, rfl⟩
        rw [hs0] at T0 ⊢
        clear hs0 T6
        have hfe := @eql_func_nil _ _ _ _ Tryz.underlying48
        rw [rounds_succ]
        -- TURNS
        have k0 : A0.cell? ⟨s0, 0, none⟩ = some (.int .i64 0) := row_cell T0.out.2.1 rfl
        go_wp2
        obtain ⟨B0, hB0⟩ : ∃ W, A0.alloc (.cells #[.int .i64 0] 3) = W := ⟨_, rfl⟩
        have b0 : Below A0.heap.size A0 B0 := by rw [← hB0]; exact (Below.refl _ _).alloc (Nat.le_refl _) _
        have r0 : B0.heap[A0.heap.size]? = some (.cells #[.int .i64 0] 3 (0, 0)) := by rw [← hB0]; exact heap_alloc_last _ _
        rw [hB0]
        obtain ⟨q0, hq0⟩ : ∃ q, A0.heap.size = q := ⟨_, rfl⟩
        have U0 := Lib.hid (And.intro b0 (And.intro r0 hq0))
        rw [hq0] at r0 ⊢
        have lq0 := lt_of_row r0
        have IT0 := Lib.hid (all2_c (w := B0) (row_cell (T0.out.1.later b0).rg rfl) (T0.out.1.later b0).rows HD.out.2 HD.out.1)
        have LR0 : ∀ i, i = m ∨ i = g → i < q0 := by
          rintro i (rfl | rfl)
          · rw [← hq0]; exact T0.out.1.rows.lt
          · rw [← hq0]; exact lt_of_row T0.out.1.rg
        have KEEP0 := Lib.hid (show ∀ (C : Nat → Prop) (k : Nat) (O : Nat → Prop) (W : World), LvI B0 q0 C k O W → Below A0.heap.size A0 W from fun C k O W h =>
          below_of_moves (w0 := A0) b0 h.1 (fun i hi => by omega))
        clear b0 r0 hB0 hq0 k0
        refine (wpIn_wide (n := 0)).1 ?_
        refine wpIn_rangeIter2 (r := 16) (s := 17) (u := fun (x : Em.Bytes × Em.Bytes) => strOfB x.1) (v := fun (x : Em.Bytes × Em.Bytes) => strOfB x.2) (gf := 43) (lb := #[.pointer (some ⟨g, 0, none⟩)]) rfl (enters_of Tryz.func43 (by kernel_rfl) rfl) IT0.out
          (fun i hi => Nat.lt_trans (LR0 i hi) lq0) (Below.refl _ _) (LvI B0 q0 (fun k => k = 0 ∨ (k : Int) < many)) (LvI B0 q0 (fun k => (k : Int) = max 1 many)) (lvI_stable lq0) (lvI_stable lq0) (fun k O r o W _ h => lvI_put lq0 k O o W h) (fun k O r o W _ h => lvI_put lq0 k O o W h)
          (fun W hb _ => lvI_start (by rw [← U0.out.2.2]; exact U0.out.2.1) (Or.inl rfl) W hb) ?assign ?body ?fin
        case assign =>
          intro x l W
          simp only [List.setIfInBounds_toArray, List.set_cons_succ, List.set_cons_zero]
          gi_wp2
          exact ⟨trivial, trivial⟩
        case body =>
          rintro k ⟨x1, x2⟩ O W hx ho1 ho2 hi
          simp only [List.setIfInBounds_toArray, List.set_cons_succ, List.set_cons_zero]
          have BW := KEEP0.out _ _ _ _ hi
          have tw := T0.out.1.later BW
          obtain ⟨b, o, rfl, _, lb, rg⟩ := tw.pairs.at hx
          have y0 : W.cell? ⟨b, o + k * 2, none⟩ = some (strOfB x1) := rg 0 _ rfl
          have y1 : W.cell? ⟨b, o + k * 2 + 1, none⟩ = some (strOfB x2) := rg 1 _ rfl
          have c15 : W.cell? ⟨q0, 0, none⟩ = some (.int .i64 (k : Int)) := row_cell hi.2.1 rfl
          have z15 := row_free hi.2.1 0
          have cq : W.cell? ⟨qw, 0, none⟩ = some (.slice (some ⟨b, o, none⟩) N rc) := row_cell tw.rq rfl
          have c14 : W.cell? ⟨s0, 0, none⟩ = some (.int .i64 0) := row_cell ((BW.block _ (lt_of_row T0.out.2.1)).trans T0.out.2.1) rfl
          have c4 : W.cell? ⟨w.heap.size, 0, none⟩ = some (.int .i64 many) := row_cell tw.r4 rfl
          have hkN : k < N := by have := (List.getElem?_eq_some_iff.1 hx).1; have := HN2.out; omega
          have i0 : (0 : Int) ≤ (k : Int) := by omega
          have i1 : (k : Int) < (N : Int) := by omega
          have n256 : N ≤ 256 := N256
          have hw1 : IntKind.i64.wrap ((k : Int) + 1) = ((k + 1 : Nat) : Int) := IntWalk.i64_in _ (by omega)
          have e15 : (q0 : Nat) ≠ s0 := fun e => by have := lt_of_row T0.out.2.1; have := U0.out.2.2; omega
          have e4 : (q0 : Nat) ≠ w.heap.size := fun e => by have := lt_of_row T0.out.1.r4; have := U0.out.2.2; omega
          have HI := Lib.hid (And.intro hi (And.intro hx (And.intro ho1 ho2)))
          have fin : ∀ (C' : Nat → Prop), C' (k + 1) → Keeps (fun i => O i ∨ (i = m ∨ i = g) ∨ i = B0.heap.size + 1 ∨ i = B0.heap.size) W (W.setCell ⟨q0, 0, none⟩ (.int .i64 ((k + 1 : Nat) : Int))) ∧ LvI B0 q0 C' (k + 1) O (W.setCell ⟨q0, 0, none⟩ (.int .i64 ((k + 1 : Nat) : Int))) := by
            intro C' hC
            have ms := setCell_moves W q0 0 (.int .i64 ((k + 1 : Nat) : Int))
            refine ⟨Keeps.of_moves ms (fun i hi' e => ?_), hi.1.trans ms (fun i _ h => h), heap_setCell_same _ _ 0 _ _ _ hi.2.1, hi.2.2.1, hC⟩
            subst e
            rcases hi' with h | h | h | h
            · have := hi.2.2.1 _ h; omega
            · have := LR0 _ h; omega
            · omega
            · omega
          have FIN := Lib.hid fin
          clear hi hx ho1 ho2 rg tw BW fin lb
          by_cases hm1 : many ≤ ((k + 1 : Nat) : Int)
          · have HM := Lib.hid (show ((k + 1 : Nat) : Int) = max 1 many by have := HI.out.1.2.2.2; omega)
            gi_wp2
            exact ⟨(FIN.out (fun k => (k : Int) = max 1 many) HM.out).1, rfl, (FIN.out (fun k => (k : Int) = max 1 many) HM.out).2⟩
          · have HM := Lib.hid (show ((k + 1 : Nat) : Int) < many by omega)
            gi_wp2
            exact FIN.out (fun k => k = 0 ∨ (k : Int) < many) (Or.inr HM.out)
        case fin =>
          intro k O W hk hor ho hD
          have hi : LvI B0 q0 (fun k => (k : Int) = min (N : Int) (max 1 many)) k O W := by
            have hN := HN2.out
            rcases hor with ⟨e, h⟩ | h
            · exact ⟨h.1, h.2.1, h.2.2.1, by have h4 := h.2.2.2; omega⟩
            · exact ⟨h.1, h.2.1, h.2.2.1, by have h4 := h.2.2.2; omega⟩
          have BW := KEEP0.out _ _ _ _ hi
          have tw := T0.out.1.later BW
          have c15 : W.cell? ⟨q0, 0, none⟩ = some (.int .i64 (k : Int)) := row_cell hi.2.1 rfl
          have cq : W.cell? ⟨qw, 0, none⟩ = some (.slice ra N rc) := row_cell tw.rq rfl
          have rs := (BW.block _ (lt_of_row T0.out.2.1)).trans T0.out.2.1
          have c14 : W.cell? ⟨s0, 0, none⟩ = some (.int .i64 0) := row_cell rs rfl
          have c4 : W.cell? ⟨w.heap.size, 0, none⟩ = some (.int .i64 many) := row_cell tw.r4 rfl
          have hkm := hi.2.2.2
          have HI := Lib.hid (And.intro hi (And.intro BW (And.intro tw (And.intro ho hD))))
          clear hi BW tw ho hD hor rs hk
          go_wp2
          obtain ⟨A1, hA1⟩ : ∃ X, W.alloc (.cells #[.int .i64 1] 3) = X := ⟨_, rfl⟩
          have bA : Below W.heap.size W A1 := by rw [← hA1]; exact (Below.refl _ _).alloc (Nat.le_refl _) _
          have rA : A1.heap[W.heap.size]? = some (.cells #[.int .i64 1] 3 (0, 0)) := by rw [← hA1]; exact heap_alloc_last _ _
          have T1 := Lib.hid (And.intro (HI.out.2.2.1.later bA) (And.intro rA bA.size))
          have Z1 := Lib.hid (show ∀ D ∈ [B0.heap.size], A1.heap[D]? = some (.deferred (some [])) ∧ w.heap.size ≤ D from fun D hD => by
            obtain rfl := List.mem_singleton.1 hD
            · exact ⟨(bA.block _ (lt_of_row' HI.out.2.2.2.2)).trans HI.out.2.2.2.2, by have := T0.out.1.below.size; have := U0.out.1.size; omega⟩)
          rw [hA1]
          obtain ⟨s1, hs1⟩ : ∃ s, W.heap.size = s := ⟨_, rfl⟩
          rw [hs1] at T1 ⊢
          clear bA rA hA1 hs1 HI c15 cq c14 c4 hkm
          rw [rounds_succ]
          have k1 : A1.cell? ⟨s1, 0, none⟩ = some (.int .i64 1) := row_cell T1.out.2.1 rfl
          go_wp2
          obtain ⟨B1, hB1⟩ : ∃ W, A1.alloc (.cells #[.int .i64 0] 3) = W := ⟨_, rfl⟩
          have b1 : Below A1.heap.size A1 B1 := by rw [← hB1]; exact (Below.refl _ _).alloc (Nat.le_refl _) _
          have r1 : B1.heap[A1.heap.size]? = some (.cells #[.int .i64 0] 3 (0, 0)) := by rw [← hB1]; exact heap_alloc_last _ _
          rw [hB1]
          obtain ⟨q1, hq1⟩ : ∃ q, A1.heap.size = q := ⟨_, rfl⟩
          have U1 := Lib.hid (And.intro b1 (And.intro r1 hq1))
          rw [hq1] at r1 ⊢
          have lq1 := lt_of_row r1
          have IT1 := Lib.hid (all2_c (w := B1) (row_cell (T1.out.1.later b1).rg rfl) (T1.out.1.later b1).rows HD.out.2 HD.out.1)
          have LR1 : ∀ i, i = m ∨ i = g → i < q1 := by
            rintro i (rfl | rfl)
            · rw [← hq1]; exact T1.out.1.rows.lt
            · rw [← hq1]; exact lt_of_row T1.out.1.rg
          have KEEP1 := Lib.hid (show ∀ (C : Nat → Prop) (k : Nat) (O : Nat → Prop) (W : World), LvI B1 q1 C k O W → Below A1.heap.size A1 W from fun C k O W h =>
            below_of_moves (w0 := A1) b1 h.1 (fun i hi => by omega))
          clear b1 r1 hB1 hq1 k1
          refine (wpIn_wide (n := 0)).1 ?_
          refine wpIn_rangeIter2 (r := 16) (s := 17) (u := fun (x : Em.Bytes × Em.Bytes) => strOfB x.1) (v := fun (x : Em.Bytes × Em.Bytes) => strOfB x.2) (gf := 43) (lb := #[.pointer (some ⟨g, 0, none⟩)]) rfl (enters_of Tryz.func43 (by kernel_rfl) rfl) IT1.out
            (fun i hi => Nat.lt_trans (LR1 i hi) lq1) (Below.refl _ _) (LvI B1 q1 (fun _ => True)) (LvI B1 q1 (fun _ => False)) (lvI_stable lq1) (lvI_stable lq1) (fun k O r o W _ h => lvI_put lq1 k O o W h) (fun k O r o W _ h => lvI_put lq1 k O o W h)
            (fun W hb _ => lvI_start (by rw [← U1.out.2.2]; exact U1.out.2.1) (trivial) W hb) ?assign ?body ?fin
          case assign =>
            intro x l W
            simp only [List.setIfInBounds_toArray, List.set_cons_succ, List.set_cons_zero]
            gi_wp2
            exact ⟨trivial, trivial⟩
          case body =>
            rintro k ⟨x1, x2⟩ O W hx ho1 ho2 hi
            simp only [List.setIfInBounds_toArray, List.set_cons_succ, List.set_cons_zero]
            have BW := KEEP1.out _ _ _ _ hi
            have tw := T1.out.1.later BW
            obtain ⟨b, o, rfl, _, lb, rg⟩ := tw.pairs.at hx
            have y0 : W.cell? ⟨b, o + k * 2, none⟩ = some (strOfB x1) := rg 0 _ rfl
            have y1 : W.cell? ⟨b, o + k * 2 + 1, none⟩ = some (strOfB x2) := rg 1 _ rfl
            have c15 : W.cell? ⟨q1, 0, none⟩ = some (.int .i64 (k : Int)) := row_cell hi.2.1 rfl
            have z15 := row_free hi.2.1 0
            have cq : W.cell? ⟨qw, 0, none⟩ = some (.slice (some ⟨b, o, none⟩) N rc) := row_cell tw.rq rfl
            have c14 : W.cell? ⟨s1, 0, none⟩ = some (.int .i64 1) := row_cell ((BW.block _ (lt_of_row T1.out.2.1)).trans T1.out.2.1) rfl
            have c4 : W.cell? ⟨w.heap.size, 0, none⟩ = some (.int .i64 many) := row_cell tw.r4 rfl
            have hkN : k < N := by have := (List.getElem?_eq_some_iff.1 hx).1; have := HN2.out; omega
            have i0 : (0 : Int) ≤ (k : Int) := by omega
            have i1 : (k : Int) < (N : Int) := by omega
            have n256 : N ≤ 256 := N256
            have hw1 : IntKind.i64.wrap ((k : Int) + 1) = ((k + 1 : Nat) : Int) := IntWalk.i64_in _ (by omega)
            have e15 : (q1 : Nat) ≠ s1 := fun e => by have := lt_of_row T1.out.2.1; have := U1.out.2.2; omega
            have e4 : (q1 : Nat) ≠ w.heap.size := fun e => by have := lt_of_row T1.out.1.r4; have := U1.out.2.2; omega
            have HI := Lib.hid (And.intro hi (And.intro hx (And.intro ho1 ho2)))
            have fin : ∀ (C' : Nat → Prop), C' (k + 1) → Keeps (fun i => O i ∨ (i = m ∨ i = g) ∨ i = B1.heap.size + 1 ∨ i = B1.heap.size) W (W.setCell ⟨q1, 0, none⟩ (.int .i64 ((k + 1 : Nat) : Int))) ∧ LvI B1 q1 C' (k + 1) O (W.setCell ⟨q1, 0, none⟩ (.int .i64 ((k + 1 : Nat) : Int))) := by
              intro C' hC
              have ms := setCell_moves W q1 0 (.int .i64 ((k + 1 : Nat) : Int))
              refine ⟨Keeps.of_moves ms (fun i hi' e => ?_), hi.1.trans ms (fun i _ h => h), heap_setCell_same _ _ 0 _ _ _ hi.2.1, hi.2.2.1, hC⟩
              subst e
              rcases hi' with h | h | h | h
              · have := hi.2.2.1 _ h; omega
              · have := LR1 _ h; omega
              · omega
              · omega
            have FIN := Lib.hid fin
            clear hi hx ho1 ho2 rg tw BW fin lb
            gi_wp2
            exact FIN.out (fun _ => True) trivial
          case fin =>
            intro k O W hk hor ho hD
            have hi : LvI B1 q1 (fun k => k = N) k O W := by
              have hN := HN2.out
              rcases hor with ⟨e, h⟩ | h
              · exact ⟨h.1, h.2.1, h.2.2.1, by have h4 := h.2.2.2; omega⟩
              · exact h.2.2.2.elim
            have BW := KEEP1.out _ _ _ _ hi
            have tw := T1.out.1.later BW
            have c15 : W.cell? ⟨q1, 0, none⟩ = some (.int .i64 (k : Int)) := row_cell hi.2.1 rfl
            have cq : W.cell? ⟨qw, 0, none⟩ = some (.slice ra N rc) := row_cell tw.rq rfl
            have rs := (BW.block _ (lt_of_row T1.out.2.1)).trans T1.out.2.1
            have c14 : W.cell? ⟨s1, 0, none⟩ = some (.int .i64 1) := row_cell rs rfl
            have c4 : W.cell? ⟨w.heap.size, 0, none⟩ = some (.int .i64 many) := row_cell tw.r4 rfl
            have hkm := hi.2.2.2
            have HI := Lib.hid (And.intro hi (And.intro BW (And.intro tw (And.intro ho hD))))
            clear hi BW tw ho hD hor rs hk
            go_wp2
            obtain ⟨A2, hA2⟩ : ∃ X, W.alloc (.cells #[.int .i64 2] 3) = X := ⟨_, rfl⟩
            have bA : Below W.heap.size W A2 := by rw [← hA2]; exact (Below.refl _ _).alloc (Nat.le_refl _) _
            have rA : A2.heap[W.heap.size]? = some (.cells #[.int .i64 2] 3 (0, 0)) := by rw [← hA2]; exact heap_alloc_last _ _
            have T2 := Lib.hid (And.intro (HI.out.2.2.1.later bA) (And.intro rA bA.size))
            have Z2 := Lib.hid (show ∀ D ∈ [B1.heap.size, B0.heap.size], A2.heap[D]? = some (.deferred (some [])) ∧ w.heap.size ≤ D from fun D hD => by
              rcases List.mem_cons.1 hD with rfl | hD
              · exact ⟨(bA.block _ (lt_of_row' HI.out.2.2.2.2)).trans HI.out.2.2.2.2, by have := T1.out.1.below.size; have := U1.out.1.size; omega⟩
              · obtain ⟨h1, h2⟩ := Z1.out D hD
                exact ⟨(bA.block _ (Nat.lt_of_lt_of_le (lt_of_row' h1) HI.out.2.1.size)).trans ((HI.out.2.1.block _ (lt_of_row' h1)).trans h1), h2⟩)
            rw [hA2]
            obtain ⟨s2, hs2⟩ : ∃ s, W.heap.size = s := ⟨_, rfl⟩
            rw [hs2] at T2 ⊢
            clear bA rA hA2 hs2 HI c15 cq c14 c4 hkm
            rw [rounds_succ]
            have k2 : A2.cell? ⟨s2, 0, none⟩ = some (.int .i64 2) := row_cell T2.out.2.1 rfl
            have WC := Lib.hid (works19_c A2)
            go_wp2_with (go_at_call 8; refine WC.out.mono ?_; rintro en w9 ⟨rfl, b9⟩
                         have r9 := (b9.block _ (lt_of_row T2.out.1.r6)).trans T2.out.1.r6
                         have z9 := row_free r9 0
                         have c9 := row_cell r9 (j := 0) rfl
                         have H9 := Lib.hid (And.intro b9 r9)
                         clear b9 r9)
            exact leaves_end (ds := [B1.heap.size, B0.heap.size]) (T2.out.1.below.trans (H9.out.1.mono T2.out.1.below.size)) (by omega) H9.out.2
              (by have := Z1.out B0.heap.size (List.mem_singleton.2 rfl); have := lt_of_row' this.1; have := U1.out.1.size; simp; omega)
              (fun D hD => ⟨(H9.out.1.block _ (lt_of_row' (Z2.out D hD).1)).trans (Z2.out D hD).1, (Z2.out D hD).2⟩) rfl

end Go.Proofs.YtgffifleflkjoaaGreat
