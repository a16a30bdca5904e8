/-
  evlog: a Head and its Rows of a tape.
  evlog: no Head of a tape.
-/
import Derived.Test.YtgffifleflkjoaaGreatG25
import Derived.Test.YtgffifleflkjoaaGreatG32

namespace Go.Proofs.YtgffifleflkjoaaGreat
open Go.RowKit Dm

theorem rhead_inv {b : List UInt8} {g n : Nat} (h : Em.rhead b = some (g, n)) : ∃ ra rb, Wm.rnum 3 b = some (1, ra) ∧ Wm.rnum 2147483647 ra = some (g, rb) ∧ Wm.rnum 256 rb = some (n, []) ∧ 0 < g := by
  unfold Em.rhead at h
  cases hk : Wm.rnum 3 b with
  | none => rw [hk] at h; cases h
  | some p =>
    obtain ⟨k, ra⟩ := p
    rw [hk] at h
    simp only at h
    by_cases hk1 : k ≠ 1
    · rw [if_pos hk1] at h; cases h
    · rw [if_neg hk1] at h
      have hk1 : k = 1 := by omega
      subst hk1
      cases hg : Wm.rnum 2147483647 ra with
      | none => rw [hg] at h; cases h
      | some p =>
        obtain ⟨g', rb⟩ := p
        rw [hg] at h
        simp only at h
        cases hn : Wm.rnum 256 rb with
        | none => rw [hn] at h; cases h
        | some p =>
          obtain ⟨n', rc⟩ := p
          rw [hn] at h
          simp only at h
          by_cases hc : rc = [] ∧ 0 < g'
          · rw [if_pos hc] at h
            have e := Option.some.inj h
            have e1 : g' = g := congrArg Prod.fst e
            have e2 : n' = n := congrArg Prod.snd e
            subst e1; subst e2
            obtain ⟨rfl, hc⟩ := hc
            exact ⟨ra, rb, rfl, hg, hn, hc⟩
          · rw [if_neg hc] at h; cases h

theorem rrow_inv {last b k v : List UInt8} (h : Em.rrow last b = some (k, v)) : ∃ ra rb, Wm.rnum 3 b = some (2, ra) ∧ Wm.rtext 64 ra = some (k, rb) ∧ Wm.rtext 4096 rb = some (v, []) ∧ ¬ k ≤ last := by
  unfold Em.rrow at h
  cases hk : Wm.rnum 3 b with
  | none => rw [hk] at h; cases h
  | some p =>
    obtain ⟨kd, ra⟩ := p
    rw [hk] at h
    simp only at h
    by_cases hk1 : kd ≠ 2
    · rw [if_pos hk1] at h; cases h
    · rw [if_neg hk1] at h
      have hk1 : kd = 2 := by omega
      subst hk1
      cases hg : Wm.rtext 64 ra with
      | none => rw [hg] at h; cases h
      | some p =>
        obtain ⟨k', rb⟩ := p
        rw [hg] at h
        simp only at h
        cases hn : Wm.rtext 4096 rb with
        | none => rw [hn] at h; cases h
        | some p =>
          obtain ⟨v', rc⟩ := p
          rw [hn] at h
          simp only at h
          by_cases hc : rc = [] ∧ ¬ k' ≤ last
          · rw [if_pos hc] at h
            have e := Option.some.inj h
            have e1 : k' = k := congrArg Prod.fst e
            have e2 : v' = v := congrArg Prod.snd e
            subst e1; subst e2
            obtain ⟨rfl, hc⟩ := hc
            exact ⟨ra, rb, rfl, hg, hn, hc⟩
          · rw [if_neg hc] at h; cases h

/-- Between two rows that are read. -/
structure BegRel (w : World) (g1 g2 M N m0 : Nat) (l : List UInt8) (i : Nat) (last : List UInt8) (wr : World) (D : Em.Rows) (fin : Nat) : Prop where
  next : NextAt wr g1 g2 l fin
  rows : RowsIn wr M i D
  eqn : Em.rrows l N m0 [] (.map []) = Em.rrows l (N - i) fin last D
  mv : Moves (fun k => k = g2 ∨ w.heap.size ≤ k) w wr

theorem str_lt (a b : List UInt8) (h : ¬ a ≤ b) : Op.bytesLess a b = false := by
  rw [bytes_less, decide_eq_false_iff_not]
  exact fun h2 => h (List.le_of_lt h2)

theorem str_ne (a b : List UInt8) (h : ¬ a ≤ b) : (a == b) = false := by
  rw [beq_eq_false_iff_ne]
  rintro rfl
  exact h (List.le_refl _)

set_option maxRecDepth 100000 in
set_option maxHeartbeats 4000000 in
theorem begins_yes {w : World} {T g1 g2 gen fin : Nat} {at' : Int} {rv : Value} {b0 e0 g0 : Nat} {l : List UInt8} {D : Em.Rows} (h : NextAt w g1 g2 l 0) (hl : l.length ≤ 1000000000)
    (hT : w.heap[T]? = some (.cells (tapeC at' g0 rv b0 e0) tTape (0, 0))) (h1 : g1 < T) (h2 : T < g2) (hr : Em.rbegin l = some (gen, D, fin)) :
    Calls Tryz.prog 112 #[.pointer (some ⟨T, 0, none⟩), .func (.func 107) #[] #[.pointer (some ⟨g1, 0, none⟩), .pointer (some ⟨g2, 0, none⟩)]] w fun e w' =>
      e = .returned (.tuple #[]) ∧ NextAt w' g1 g2 l fin ∧ (∃ m', w'.heap[T]? = some (.cells (tapeC at' gen (.map (some m')) b0 e0) tTape (0, 0)) ∧ RowsIn w' m' (Maps.size D) D ∧ w.heap.size ≤ m') ∧ Moves (fun k => k = T ∨ k = g2) w w' := by
  have eg := enters_of Tryz.func107 (by kernel_rfl) rfl
  unfold Em.rbegin at hr
  cases hsp : Wm.split l with
  | none => rw [hsp] at hr; cases hr
  | some p =>
    obtain ⟨body, m0⟩ := p
    rw [hsp] at hr
    simp only at hr
    cases hh : Em.rhead body with
    | none => rw [hh] at hr; cases hr
    | some p =>
      obtain ⟨g, N⟩ := p
      rw [hh] at hr
      simp only at hr
      obtain ⟨ra, rb, hk, hg, hn, g0'⟩ := rhead_inv hh
      cases hrw : Em.rrows l N m0 [] (.map []) with
      | none => rw [hrw] at hr; cases hr
      | some p =>
        obtain ⟨D', fin'⟩ := p
        rw [hrw] at hr
        obtain ⟨rfl, rfl, rfl⟩ : g = gen ∧ D' = D ∧ fin' = fin := by
          have e := Option.some.inj hr
          exact ⟨congrArg Prod.fst e, congrArg (fun p => p.2.1) e, congrArg (fun p => p.2.2) e⟩
        obtain ⟨_, _, lbody⟩ := split_pos hsp
        have la := rnum_len hk
        have lbb := rnum_len hg
        have lnn := rnum_len hn
        have N256 : N ≤ 256 := lnn.2.1
        have NX := Lib.hid (next_yes h hl (by simpa using hsp))
        have RC := Lib.hid (fun (X : World) (F : Nat → Prop) (v : Value) (hv : BytesAt X.heap F v body) => record_yes hv (by omega) hk)
        have GC := Lib.hid (fun (X : World) (q : Nat) (hx : RdAt X q ra) => enum_yes hx (by omega) hg)
        have MC := Lib.hid (fun (X : World) (q : Nat) (hx : RdAt X q rb) => enum_yes hx (by omega) hn)
        have HH := Lib.hid (And.intro h (And.intro hT (And.intro hrw (And.intro hl (And.intro h1 h2)))))
        have gpos : (0 : Int) < (g : Int) := by omega
        have gpos' : 0 < g := g0'
        clear h hT hrw hr hh hk hg hn hsp la lbb lnn lbody hl g0'
        go_enter Tryz.func112, Tryz.ntmps112
        go_upto_region 1 with (first
          | (with_reducible refine NX.out.mono ?_; rintro e w1 ⟨v1, rfl, y1, x1, m1⟩; have H1 := Lib.hid (And.intro y1 (And.intro x1 m1)); clear y1 x1 m1)
          | (go_at_call 147; refine (RC.out _ _ _ H1.out.1).mono ?_; rintro e w2 ⟨q, rfl, x2, hq, b2⟩; have H2 := Lib.hid (And.intro x2 (And.intro hq b2)); clear x2 hq b2))
        obtain ⟨W2, hW2⟩ : ∃ W, w2.alloc (.cells #[.pointer (some ⟨q, 0, none⟩)] tERd) = W := ⟨_, rfl⟩
        have B2 : Below w2.heap.size w2 W2 := by rw [← hW2]; exact (Below.refl _ _).alloc (Nat.le_refl _) _
        have r4 : W2.heap[w2.heap.size]? = some (.cells #[.pointer (some ⟨q, 0, none⟩)] tERd (0, 0)) := by rw [← hW2]; exact heap_alloc_last w2 _
        have lq := H2.out.1.lt
        rw [hW2]
        obtain ⟨g4, hg4⟩ : ∃ g, w2.heap.size = g := ⟨_, rfl⟩
        have X2 := Lib.hid (H2.out.1.later B2)
        rw [hg4] at r4 lq ⊢
        have f4 : ∀ x : Wd (Moves (fun k => k = q) W2), x.world.cell? ⟨g4, 0, none⟩ = some (.pointer (some ⟨q, 0, none⟩)) := fun x => (World.cell?_of_block (x.ok.block g4 (lt_of_row r4) (by omega))).trans (row_cell r4 rfl)
        have ne : Nonempty (Wd (Moves (fun k => k = q) W2)) := ⟨⟨_, Moves.refl _ _⟩⟩
        have HB := Lib.hid (And.intro B2 (And.intro r4 (And.intro lq hg4)))
        clear B2 r4 lq hW2 hg4
        refine wp_region_hoist (fun w' => ∃ x : Wd (Moves (fun k => k = q) W2), w' = x.world) [3, 4, 5, 6] (by kernel_rfl) ?_
        refine wpAnyI_reads [0, 2] 5 _ ⟨⟨_, Moves.of_below (Below.refl _ _).drew⟩, rfl⟩ (by kernel_rfl) ?_
        simp only [List.filterMap_cons, List.filterMap_nil, List.getElem?_toArray, List.getElem?_cons_succ, List.getElem?_cons_zero]
        iterate 2 (with_reducible refine wpHoist_step (fun K hK => ?_); simp only [hoists, sameUpon]; go_simp; refine hK _ ?_; clear hK K)
        with_reducible refine wpHoist_nil ?_
        refine wpAnyI_one 1 4 _ _ rfl (by kernel_rfl) ?_
        refine wpList_plain rfl fun K hK => ?_
        go_simp
        go_at_call 148
        refine (GC.out W2.drew q (X2.out.later (Below.refl _ _).drew)).mono ?_
        rintro e w3 ⟨rfl, x3, m3⟩
        have M3 : Moves (fun k => k = q) W2 w3 := (Moves.of_below (Below.refl W2.heap.size W2).drew).trans m3 (fun _ _ h => h)
        have H3 := Lib.hid (And.intro x3 M3)
        clear x3 m3
        refine hK _ _ (wpList_nil ⟨rfl, fun _ => ⟨⟨_, M3⟩, rfl⟩, ?_⟩)
        clear hK K
        clear M3
        refine wpAnyI_one 3 3 _ _ rfl (by kernel_rfl) ?_
        refine wpList_plain rfl fun K hK => ?_
        go_simp
        go_at_call 148
        refine (MC.out w3 q H3.out.1).mono ?_
        rintro e w4 ⟨rfl, x4, m4⟩
        have H4 := Lib.hid (And.intro x4 (H3.out.2.trans m4 (fun _ _ h => h)))
        clear x4 m4 f4 ne
        refine hK _ _ (wpList_nil ⟨rfl, fun h => absurd (by decide) h, ?_⟩)
        clear hK K
        refine wpAnyI_pure [4, 5, 6] 0 _ (by kernel_rfl) ?_
        simp only [List.filterMap_cons, List.filterMap_nil, List.getElem?_toArray, List.getElem?_cons_succ, List.getElem?_cons_zero]
        repeat (refine wpHoist_step (fun K hK => ?_); simp only [hoists, sameUpon]; go_simp; refine hK _ ?_; clear hK K)
        refine wpHoist_nil ?_
        refine ⟨by kernel_rfl, ?_⟩
        have c4 : w4.cell? ⟨g4, 0, none⟩ = some (.pointer (some ⟨q, 0, none⟩)) := (World.cell?_of_block (H4.out.2.block g4 (lt_of_row HB.out.2.1) (by have := HB.out.2.2.1; omega))).trans (row_cell HB.out.2.1 rfl)
        have EC := Lib.hid (end_yes H4.out.1)
        have hmm := @run_makeMap Tryz.prog
        go_wp2_with (first
          | (go_at_call 149; refine EC.out.mono ?_; rintro e w5 ⟨rfl, b5⟩; have H5 := Lib.hid b5; clear b5 c4)
          | (go_at_call 109; refine (must_yes _).mono ?_; rintro e w' ⟨rfl, rfl⟩))
        obtain ⟨W5, hW5⟩ : ∃ W, w5.alloc (.map #[] 0) = W := ⟨_, rfl⟩
        have b5 : Below w5.heap.size w5 W5 := by rw [← hW5]; exact (Below.refl _ _).alloc (Nat.le_refl _) _
        have rM : RowsIn W5 w5.heap.size 0 (.map []) := by rw [← hW5]; exact World.ownsMap_made (H := Unit) w5 Tryz.prog tStr (plainElem Tryz.prog tStr)
        have BW : Below w1.heap.size w1 W5 := (((Moves.of_below (O := fun k => w1.heap.size ≤ k) (H2.out.2.2)).trans (Moves.of_below (O := fun k => w1.heap.size ≤ k) HB.out.1) (fun _ _ h => h)).trans ((H4.out.2.mono (O' := fun k => w1.heap.size ≤ k) (fun k hk => by have := H2.out.2.1; omega)).trans (Moves.of_below (O := fun k => w1.heap.size ≤ k) (H5.out.trans (b5.mono H5.out.size))) (fun _ _ h => h)) (fun _ _ h => h)).low (O' := fun _ => False) (fun i hi h => by omega) |>.below
        have lM : w1.heap.size ≤ w5.heap.size := by have := H2.out.2.2.size; have := HB.out.1.size; have := H4.out.2.size; have := H5.out.size; omega
        rw [hW5]
        obtain ⟨M, hM⟩ : ∃ M, w5.heap.size = M := ⟨_, rfl⟩
        rw [hM] at rM lM ⊢
        have ST := Lib.hid (show BegRel w g1 g2 M N m0 l 0 [] W5 (.map []) m0 from ⟨by have := H1.out.2.1.later BW; rwa [Nat.zero_add] at this, rM, rfl, (H1.out.2.2.mono (O' := fun k => k = g2 ∨ w.heap.size ≤ k) (fun _ h => Or.inl h)).trans (Moves.of_below (O := fun k => k = g2 ∨ w.heap.size ≤ k) BW) (fun _ _ h => h)⟩)
        have HM := Lib.hid (show w.heap.size ≤ M by have := H1.out.2.2.size; omega)
        clear hW5 b5 rM BW lM hM H1 H2 H3 H4 H5 HB X2 EC NX RC GC MC
        go_loopw [7, 30] (fun s7 s wr => ∃ (i : Nat) (last : List UInt8) (D : Em.Rows) (fin : Nat), i ≤ N ∧ s = .int .i64 (i : Int) ∧ s7 = strOfB last ∧ BegRel w g1 g2 M N m0 l i last wr D fin) (fun _ s _ => N - (intOf s).toNat)
        case atStart => exact ⟨0, [], _, _, Nat.zero_le _, rfl, rfl, ST.out⟩
        case round =>
          obtain ⟨i, last, Di, fi, hi, rfl, rfl, hrel⟩ := hrel
          by_cases hlt : i < N
          · have i0 : (0 : Int) ≤ (i : Int) := by omega
            have i1 : (i : Int) < (N : Int) := by omega
            obtain ⟨j, hj⟩ : ∃ j, N - i = j + 1 := ⟨N - i - 1, by omega⟩
            have heq := hrel.eqn
            rw [hj, Em.rrows, HH.out.2.2.1] at heq
            cases hsp : Wm.split (l.drop fi) with
            | none => rw [hsp] at heq; cases heq
            | some p =>
              obtain ⟨body', m'⟩ := p
              rw [hsp] at heq
              simp only at heq
              cases hrr : Em.rrow last body' with
              | none => rw [hrr] at heq; cases heq
              | some p =>
                obtain ⟨k, vv⟩ := p
                rw [hrr] at heq
                simp only at heq
                obtain ⟨ra', rb', hk, ht, hv, hlast⟩ := rrow_inv hrr
                obtain ⟨_, _, lbody⟩ := split_pos hsp
                have la := rnum_len hk
                have lk := rtext_len ht
                have lv := rtext_len hv
                have ldr : (l.drop fi).length ≤ l.length := by rw [List.length_drop]; omega
                have lll := HH.out.2.2.2.1
                have NX := Lib.hid (next_yes hrel.next lll hsp)
                have RC := Lib.hid (fun (X : World) (F : Nat → Prop) (v : Value) (hv : BytesAt X.heap F v body') => record_yes hv (by omega) hk)
                have KC := Lib.hid (fun (X : World) (q : Nat) (hx : RdAt X q ra') => etext_yes hx (by omega) ht)
                have VC := Lib.hid (fun (X : World) (q : Nat) (hx : RdAt X q rb') => etext_yes hx (by omega) hv)
                have q1 : Op.bytesLess k last = false := str_lt _ _ hlast
                have q2 : (k == last) = false := str_ne _ _ hlast
                have HR := Lib.hid (And.intro hrel (And.intro heq (And.intro lk.2 lv.2)))
                have HRR := Lib.hid (And.intro hsp hrr)
                clear hrel heq hsp hrr hk ht hv hlast lbody la lk lv ldr lll
                go_upto_region 7 with (first
                  | (with_reducible refine NX.out.mono ?_; rintro e w1 ⟨v1, rfl, y1, x1, m1⟩; have H1 := Lib.hid (And.intro y1 (And.intro x1 m1)); clear y1 x1 m1)
                  | (go_at_call 147; refine (RC.out _ _ _ H1.out.1).mono ?_; rintro e w2 ⟨q, rfl, x2, hq, b2⟩; have H2 := Lib.hid (And.intro x2 (And.intro hq b2)); clear x2 hq b2))
                obtain ⟨W2, hW2⟩ : ∃ W, w2.alloc (.cells #[.pointer (some ⟨q, 0, none⟩)] tERd) = W := ⟨_, rfl⟩
                have B2 : Below w2.heap.size w2 W2 := by rw [← hW2]; exact (Below.refl _ _).alloc (Nat.le_refl _) _
                have r4 : W2.heap[w2.heap.size]? = some (.cells #[.pointer (some ⟨q, 0, none⟩)] tERd (0, 0)) := by rw [← hW2]; exact heap_alloc_last w2 _
                have lq := H2.out.1.lt
                rw [hW2]
                obtain ⟨g4, hg4⟩ : ∃ g, w2.heap.size = g := ⟨_, rfl⟩
                have X2 := Lib.hid (H2.out.1.later B2)
                rw [hg4] at r4 lq ⊢
                have f4 : ∀ x : Wd (Moves (fun k => k = q) W2), x.world.cell? ⟨g4, 0, none⟩ = some (.pointer (some ⟨q, 0, none⟩)) := fun x => (World.cell?_of_block (x.ok.block g4 (lt_of_row r4) (by omega))).trans (row_cell r4 rfl)
                have ne : Nonempty (Wd (Moves (fun k => k = q) W2)) := ⟨⟨_, Moves.refl _ _⟩⟩
                have HB := Lib.hid (And.intro B2 (And.intro r4 (And.intro lq hg4)))
                clear B2 r4 lq hW2 hg4
                refine wp_region_hoist (fun w' => ∃ x : Wd (Moves (fun k => k = q) W2), w' = x.world) [3, 4, 5] (by kernel_rfl) ?_
                refine wpAnyI_reads [0, 2] 4 _ ⟨⟨_, Moves.of_below (Below.refl _ _).drew⟩, rfl⟩ (by kernel_rfl) ?_
                simp only [List.filterMap_cons, List.filterMap_nil, List.getElem?_toArray, List.getElem?_cons_succ, List.getElem?_cons_zero]
                iterate 2 (with_reducible refine wpHoist_step (fun K hK => ?_); simp only [hoists, sameUpon]; go_simp; refine hK _ ?_; clear hK K)
                with_reducible refine wpHoist_nil ?_
                refine wpAnyI_one 1 3 _ _ rfl (by kernel_rfl) ?_
                refine wpList_plain rfl fun K hK => ?_
                go_simp
                go_at_call 150
                refine (KC.out W2.drew q (X2.out.later (Below.refl _ _).drew)).mono ?_
                rintro e w3 ⟨rfl, x3, m3⟩
                have M3 : Moves (fun k => k = q) W2 w3 := (Moves.of_below (Below.refl W2.heap.size W2).drew).trans m3 (fun _ _ h => h)
                have H3 := Lib.hid (And.intro x3 M3)
                clear x3 m3
                refine hK _ _ (wpList_nil ⟨rfl, fun _ => ⟨⟨_, M3⟩, rfl⟩, ?_⟩)
                clear hK K
                clear M3
                refine wpAnyI_one 3 2 _ _ rfl (by kernel_rfl) ?_
                refine wpList_plain rfl fun K hK => ?_
                go_simp
                go_at_call 150
                refine (VC.out w3 q H3.out.1).mono ?_
                rintro e w4 ⟨rfl, x4, m4⟩
                have H4 := Lib.hid (And.intro x4 (H3.out.2.trans m4 (fun _ _ h => h)))
                clear x4 m4 f4 ne
                refine hK _ _ (wpList_nil ⟨rfl, fun h => absurd (by decide) h, ?_⟩)
                clear hK K
                refine wpAnyI_pure [4, 5] 0 _ (by kernel_rfl) ?_
                simp only [List.filterMap_cons, List.filterMap_nil, List.getElem?_toArray, List.getElem?_cons_succ, List.getElem?_cons_zero]
                repeat (refine wpHoist_step (fun K hK => ?_); simp only [hoists, sameUpon]; go_simp; refine hK _ ?_; clear hK K)
                refine wpHoist_nil ?_
                refine ⟨by kernel_rfl, ?_⟩
                have c4 : w4.cell? ⟨g4, 0, none⟩ = some (.pointer (some ⟨q, 0, none⟩)) := (World.cell?_of_block (H4.out.2.block g4 (lt_of_row HB.out.2.1) (by have := HB.out.2.2.1; omega))).trans (row_cell HB.out.2.1 rfl)
                have EC := Lib.hid (end_yes H4.out.1)
                go_upto_region 9 with (first
                  | (go_at_call 149; refine EC.out.mono ?_; rintro e w5 ⟨rfl, b5⟩; have H5 := Lib.hid b5; clear b5 c4)
                  | (go_at_call 109; refine (must_yes _).mono ?_; rintro e w' ⟨rfl, rfl⟩))
                have BW : Below w1.heap.size w1 w5 := (((Moves.of_below (O := fun k => w1.heap.size ≤ k) (H2.out.2.2)).trans (Moves.of_below (O := fun k => w1.heap.size ≤ k) HB.out.1) (fun _ _ h => h)).trans ((H4.out.2.mono (O' := fun k => w1.heap.size ≤ k) (fun k hk => by have := H2.out.2.1; omega)).trans (Moves.of_below (O := fun k => w1.heap.size ≤ k) H5.out) (fun _ _ h => h)) (fun _ _ h => h)).low (O' := fun _ => False) (fun i hi h => by omega) |>.below
                have lg2 := lt_of_row HH.out.1.far
                have lM := HR.out.1.rows.lt
                have s1 := H1.out.2.2.size
                have rM := rows_below (rows_off HR.out.1.rows H1.out.2.2 (by have := HM.out; omega)) BW (by omega)
                have RM := Lib.hid (And.intro BW (And.intro rM (And.intro lg2 lM)))
                clear BW rM lg2 lM s1
                go_wp2_with (at_mapUpdate; refine wpList_mapUpdate_in _ rfl (.tmp 49) (.tmp 50) (.tmp 51) tRows rfl tStr tStr rows_keyed Tryz.underlying66 (plainElem Tryz.prog tStr) M i Di rfl RM.out.2.1 (by unfold maxLen; omega) (strOfB k) (strOfB vv) _ rfl rfl (keyOf_text k (by have := HR.out.2.2.1; omega)) _ [] (elem_text vv (by have := HR.out.2.2.2; omega)) ?_
                             intro w6 own6 turn6
                             have H6 := Lib.hid (And.intro own6 (below_turned turn6 (Nat.le_refl M) (by have := RM.out.2.1.lt; omega)))
                             clear own6 turn6)
                go_roundw
                case rel =>
                  obtain ⟨BW, rM, lg2, lM⟩ := RM.out
                  have bm := below_base H6.out.2 (by have := rM.lt; omega)
                  have hm0 := HM.out
                  refine ⟨i + 1, k, _, fi + m', by omega, by go_num, rfl, (H1.out.2.1.later BW).moves bm (fun x hx => by have := H1.out.2.1.lt; omega), H6.out.1, ?_, ?_⟩
                  · rw [HR.out.1.eqn, hj, Em.rrows, HRR.out.1]
                    simp only
                    rw [HRR.out.2, show N - (i + 1) = j by omega]
                  · exact ((HR.out.1.mv.trans (H1.out.2.2.mono (O' := fun k => k = g2 ∨ w.heap.size ≤ k) (fun _ h => Or.inl h)) (fun _ _ h => h)).trans (Moves.of_below (O := fun k => k = g2 ∨ w.heap.size ≤ k) BW) (fun _ _ h => h)).trans (bm.mono (fun x hx => Or.inr (by omega))) (fun _ _ h => h)
                case measure => simp [intOf]; omega
          · obtain rfl : i = N := by omega
            have heq := hrel.eqn
            rw [Nat.sub_self, HH.out.2.2.1, Em.rrows] at heq
            obtain ⟨e1, e2⟩ : D' = Di ∧ fin' = fi := by
              have e := Option.some.inj heq
              exact ⟨congrArg Prod.fst e, congrArg Prod.snd e⟩
            subst e1
            subst e2
            have rT := (hrel.mv.block T (lt_of_row HH.out.2.1) (by have := lt_of_row HH.out.2.1; have := HH.out.2.2.2.2.2; omega)).trans HH.out.2.1
            have u1 := row_cell rT (j := 1) rfl
            have u2 := row_cell rT (j := 2) rfl
            have z1 := row_free rT 1
            have z2 := row_free rT 2
            have HE := Lib.hid (And.intro rT hrel)
            clear rT hrel heq
            go_wp2
            go_end0
            obtain ⟨rT, hrel⟩ := HE.out
            obtain ⟨V1, e1, y1, n1⟩ := set_row rT 1 (.int .i64 (g : Int))
            obtain ⟨V2, e2, y2, n2⟩ := set_row y1 2 (.map (some M))
            rw [e1, e2]
            have n12 := n1.trans n2 (fun _ _ h => h)
            have lT := lt_of_row HH.out.2.1
            have lg := lt_of_row HH.out.1.far
            have hm0 := HM.out
            obtain ⟨_, _, _, _, hh1, hh2⟩ := HH.out
            refine ⟨rfl, hrel.next.moves n12 (fun k hk => by omega), ⟨M, y2, rows_fit (rows_off hrel.rows n12 (by omega)), hm0⟩, ?_⟩
            exact (hrel.mv.low (O' := fun k => k = T ∨ k = g2) (fun k hk h => by rcases h with h | h; exact Or.inr h; omega)).trans (n12.mono (fun _ h => Or.inl h)) (fun _ _ h => h)

end Go.Proofs.YtgffifleflkjoaaGreat

namespace Go.Proofs.YtgffifleflkjoaaGreat
open Go.RowKit Dm

theorem end_any {w : World} {q : Nat} {l : List UInt8} (h : RdAt w q l) : Calls Tryz.prog 149 #[.pointer (some ⟨q, 0, none⟩)] w fun e w' => e = .returned (.int .i64 (if l = [] then 0 else 140)) ∧ Moves (fun k => k = q) w w' := by
  by_cases hl : l = []
  · subst hl
    rw [if_pos rfl]
    exact (end_yes h).mono (by rintro e w' ⟨rfl, hb⟩; exact ⟨rfl, Moves.of_below hb⟩)
  · rw [if_neg hl]
    exact end_no h hl

set_option maxRecDepth 100000 in
set_option maxHeartbeats 4000000 in
theorem head_no {w : World} {T g1 g2 : Nat} {l : List UInt8} (h : NextAt w g1 g2 l 0) (hl : l.length ≤ 1000000000) (hr : ∀ body m0, Wm.split l = some (body, m0) → Em.rhead body = none) :
    Calls Tryz.prog 112 #[.pointer (some ⟨T, 0, none⟩), .func (.func 107) #[] #[.pointer (some ⟨g1, 0, none⟩), .pointer (some ⟨g2, 0, none⟩)]] w fun e w' => e = .panicked gaveUp ∧ Moves (fun k => k = g2) w w' := by
  have eg := enters_of Tryz.func107 (by kernel_rfl) rfl
  cases hsp : Wm.split l with
  | none =>
    have NX := Lib.hid (next_no h hl (by simpa using hsp))
    clear h hr hsp
    go_enter Tryz.func112, Tryz.ntmps112
    go_wp2_with (with_reducible refine NX.out.mono ?_; rintro e w1 ⟨rfl, b1⟩)
    exact ⟨rfl, rfl, Moves.of_below b1⟩
  | some p =>
    obtain ⟨body, m0⟩ := p
    have hh := hr body m0 hsp
    obtain ⟨_, _, lbody⟩ := split_pos hsp
    have lb : body.length ≤ 1000000000 := by omega
    have NX := Lib.hid (next_yes h hl (by simpa using hsp))
    by_cases hk : ∃ ra, Wm.rnum 3 body = some (1, ra)
    · obtain ⟨ra, hk⟩ := hk
      have la := rnum_len hk
      have RC := Lib.hid (fun (X : World) (F : Nat → Prop) (v : Value) (hv : BytesAt X.heap F v body) => record_yes hv lb hk)
      cases hg : Wm.rnum 2147483647 ra with
      | none =>
        have GC := Lib.hid (fun (X : World) (q : Nat) (hx : RdAt X q ra) => enum_no hx (by omega) hg)
        clear h hr hsp hh hk hg la lb lbody hl
        go_enter Tryz.func112, Tryz.ntmps112
        go_upto_region 1 with (first
          | (with_reducible refine NX.out.mono ?_; rintro e w1 ⟨v1, rfl, y1, x1, m1⟩; have H1 := Lib.hid (And.intro y1 (And.intro x1 m1)); clear y1 x1 m1)
          | (go_at_call 147; refine (RC.out _ _ _ H1.out.1).mono ?_; rintro e w2 ⟨q, rfl, x2, hq, b2⟩; have H2 := Lib.hid (And.intro x2 (And.intro hq b2)); clear x2 hq b2))
        obtain ⟨W2, hW2⟩ : ∃ W, w2.alloc (.cells #[.pointer (some ⟨q, 0, none⟩)] tERd) = W := ⟨_, rfl⟩
        have B2 : Below w2.heap.size w2 W2 := by rw [← hW2]; exact (Below.refl _ _).alloc (Nat.le_refl _) _
        have r4 : W2.heap[w2.heap.size]? = some (.cells #[.pointer (some ⟨q, 0, none⟩)] tERd (0, 0)) := by rw [← hW2]; exact heap_alloc_last w2 _
        have lq := H2.out.1.lt
        rw [hW2]
        obtain ⟨g4, hg4⟩ : ∃ g, w2.heap.size = g := ⟨_, rfl⟩
        have X2 := Lib.hid (H2.out.1.later B2)
        rw [hg4] at r4 lq ⊢
        have f4 : ∀ x : Wd (Moves (fun k => k = q) W2), x.world.cell? ⟨g4, 0, none⟩ = some (.pointer (some ⟨q, 0, none⟩)) := fun x => (World.cell?_of_block (x.ok.block g4 (lt_of_row r4) (by omega))).trans (row_cell r4 rfl)
        have ne : Nonempty (Wd (Moves (fun k => k = q) W2)) := ⟨⟨_, Moves.refl _ _⟩⟩
        have HB := Lib.hid (And.intro B2 (And.intro r4 (And.intro lq hg4)))
        clear B2 r4 lq hW2 hg4
        refine wp_region_exits (fun w' => ∃ x : Wd (Moves (fun k => k = q) W2), w' = x.world) [3, 4, 5, 6] (fun c w' => c = gaveUp ∧ Moves (fun k => k = q) W2 w') ?_ (by kernel_rfl) ?_
        · rintro c a w' hd ⟨rfl, hmv⟩
          exact ⟨hd, rfl, only_far H1.out.2.2 (((Moves.of_below (O := fun k => w1.heap.size ≤ k) H2.out.2.2).trans (Moves.of_below (O := fun k => w1.heap.size ≤ k) HB.out.1) (fun _ _ h => h)).trans (hmv.mono (O' := fun k => w1.heap.size ≤ k) (fun k hk => by have := H2.out.2.1; omega)) (fun _ _ h => h)) (fun _ h => h)⟩
        · refine wpAnyE_reads [0, 2] 5 _ ⟨⟨_, Moves.of_below (Below.refl _ _).drew⟩, rfl⟩ (by kernel_rfl) ?_
          simp only [List.filterMap_cons, List.filterMap_nil, List.getElem?_toArray, List.getElem?_cons_succ, List.getElem?_cons_zero]
          iterate 2 (with_reducible refine wpHoist_step (fun K hK => ?_); simp only [hoists, sameUpon]; go_simp; refine hK _ ?_; clear hK K)
          with_reducible refine wpHoist_nil ?_
          refine wpAnyE_one 1 4 _ _ rfl (by kernel_rfl) ?_
          refine wpList_plain rfl fun K hK => ?_
          go_simp
          go_at_call 148
          refine (GC.out W2.drew q (X2.out.later (Below.refl _ _).drew)).mono ?_
          rintro e w3 ⟨rfl, m3⟩
          have M3 : Moves (fun k => k = q) W2 w3 := (Moves.of_below (Below.refl W2.heap.size W2).drew).trans m3 (fun _ _ h => h)
          first | exact Or.inr ⟨gaveUp, rfl, rfl, rfl, M3⟩ | exact ⟨rfl, rfl, M3⟩ | exact ⟨rfl, M3⟩ | exact M3
      | some p =>
        obtain ⟨g, rb⟩ := p
        have lbb := rnum_len hg
        have GC := Lib.hid (fun (X : World) (q : Nat) (hx : RdAt X q ra) => enum_yes hx (by omega) hg)
        cases hn : Wm.rnum 256 rb with
        | none =>
          have MC := Lib.hid (fun (X : World) (q : Nat) (hx : RdAt X q rb) => enum_no hx (by omega) hn)
          clear h hr hsp hh hk hg hn la lbb lb lbody hl
          go_enter Tryz.func112, Tryz.ntmps112
          go_upto_region 1 with (first
            | (with_reducible refine NX.out.mono ?_; rintro e w1 ⟨v1, rfl, y1, x1, m1⟩; have H1 := Lib.hid (And.intro y1 (And.intro x1 m1)); clear y1 x1 m1)
            | (go_at_call 147; refine (RC.out _ _ _ H1.out.1).mono ?_; rintro e w2 ⟨q, rfl, x2, hq, b2⟩; have H2 := Lib.hid (And.intro x2 (And.intro hq b2)); clear x2 hq b2))
          obtain ⟨W2, hW2⟩ : ∃ W, w2.alloc (.cells #[.pointer (some ⟨q, 0, none⟩)] tERd) = W := ⟨_, rfl⟩
          have B2 : Below w2.heap.size w2 W2 := by rw [← hW2]; exact (Below.refl _ _).alloc (Nat.le_refl _) _
          have r4 : W2.heap[w2.heap.size]? = some (.cells #[.pointer (some ⟨q, 0, none⟩)] tERd (0, 0)) := by rw [← hW2]; exact heap_alloc_last w2 _
          have lq := H2.out.1.lt
          rw [hW2]
          obtain ⟨g4, hg4⟩ : ∃ g, w2.heap.size = g := ⟨_, rfl⟩
          have X2 := Lib.hid (H2.out.1.later B2)
          rw [hg4] at r4 lq ⊢
          have f4 : ∀ x : Wd (Moves (fun k => k = q) W2), x.world.cell? ⟨g4, 0, none⟩ = some (.pointer (some ⟨q, 0, none⟩)) := fun x => (World.cell?_of_block (x.ok.block g4 (lt_of_row r4) (by omega))).trans (row_cell r4 rfl)
          have ne : Nonempty (Wd (Moves (fun k => k = q) W2)) := ⟨⟨_, Moves.refl _ _⟩⟩
          have HB := Lib.hid (And.intro B2 (And.intro r4 (And.intro lq hg4)))
          clear B2 r4 lq hW2 hg4
          refine wp_region_exits (fun w' => ∃ x : Wd (Moves (fun k => k = q) W2), w' = x.world) [3, 4, 5, 6] (fun c w' => c = gaveUp ∧ Moves (fun k => k = q) W2 w') ?_ (by kernel_rfl) ?_
          · rintro c a w' hd ⟨rfl, hmv⟩
            exact ⟨hd, rfl, only_far H1.out.2.2 (((Moves.of_below (O := fun k => w1.heap.size ≤ k) H2.out.2.2).trans (Moves.of_below (O := fun k => w1.heap.size ≤ k) HB.out.1) (fun _ _ h => h)).trans (hmv.mono (O' := fun k => w1.heap.size ≤ k) (fun k hk => by have := H2.out.2.1; omega)) (fun _ _ h => h)) (fun _ h => h)⟩
          · refine wpAnyE_reads [0, 2] 5 _ ⟨⟨_, Moves.of_below (Below.refl _ _).drew⟩, rfl⟩ (by kernel_rfl) ?_
            simp only [List.filterMap_cons, List.filterMap_nil, List.getElem?_toArray, List.getElem?_cons_succ, List.getElem?_cons_zero]
            iterate 2 (with_reducible refine wpHoist_step (fun K hK => ?_); simp only [hoists, sameUpon]; go_simp; refine hK _ ?_; clear hK K)
            with_reducible refine wpHoist_nil ?_
            refine wpAnyE_one 1 4 _ _ rfl (by kernel_rfl) ?_
            refine wpList_plain rfl fun K hK => ?_
            go_simp
            go_at_call 148
            refine (GC.out W2.drew q (X2.out.later (Below.refl _ _).drew)).mono ?_
            rintro e w3 ⟨rfl, x3, m3⟩
            have M3 : Moves (fun k => k = q) W2 w3 := (Moves.of_below (Below.refl W2.heap.size W2).drew).trans m3 (fun _ _ h => h)
            have H3 := Lib.hid (And.intro x3 M3)
            clear x3 m3
            refine hK _ _ (wpList_nil (Or.inl ⟨rfl, fun _ => ⟨⟨_, M3⟩, rfl⟩, ?_⟩))
            clear hK K
            clear M3
            refine wpAnyE_one 3 3 _ _ rfl (by kernel_rfl) ?_
            refine wpList_plain rfl fun K hK => ?_
            go_simp
            go_at_call 148
            refine (MC.out w3 q H3.out.1).mono ?_
            rintro e w4 ⟨rfl, m4⟩
            have M4 : Moves (fun k => k = q) W2 w4 := H3.out.2.trans m4 (fun _ _ h => h)
            first | exact Or.inr ⟨gaveUp, rfl, rfl, rfl, M4⟩ | exact ⟨rfl, rfl, M4⟩ | exact ⟨rfl, M4⟩ | exact M4
        | some p =>
          obtain ⟨N, rc⟩ := p
          have MC := Lib.hid (fun (X : World) (q : Nat) (hx : RdAt X q rb) => enum_yes hx (by omega) hn)
          have hbad : ¬ (rc = [] ∧ 0 < g) := by
            intro hc
            unfold Em.rhead at hh
            rw [hk] at hh
            simp only [ne_eq, not_true, if_false] at hh
            rw [hg] at hh
            simp only at hh
            rw [hn] at hh
            simp only at hh
            rw [if_pos hc] at hh
            cases hh
          clear h hr hsp hh hk hg hn la lbb lb lbody hl
          go_enter Tryz.func112, Tryz.ntmps112
          go_upto_region 1 with (first
            | (with_reducible refine NX.out.mono ?_; rintro e w1 ⟨v1, rfl, y1, x1, m1⟩; have H1 := Lib.hid (And.intro y1 (And.intro x1 m1)); clear y1 x1 m1)
            | (go_at_call 147; refine (RC.out _ _ _ H1.out.1).mono ?_; rintro e w2 ⟨q, rfl, x2, hq, b2⟩; have H2 := Lib.hid (And.intro x2 (And.intro hq b2)); clear x2 hq b2))
          obtain ⟨W2, hW2⟩ : ∃ W, w2.alloc (.cells #[.pointer (some ⟨q, 0, none⟩)] tERd) = W := ⟨_, rfl⟩
          have B2 : Below w2.heap.size w2 W2 := by rw [← hW2]; exact (Below.refl _ _).alloc (Nat.le_refl _) _
          have r4 : W2.heap[w2.heap.size]? = some (.cells #[.pointer (some ⟨q, 0, none⟩)] tERd (0, 0)) := by rw [← hW2]; exact heap_alloc_last w2 _
          have lq := H2.out.1.lt
          rw [hW2]
          obtain ⟨g4, hg4⟩ : ∃ g, w2.heap.size = g := ⟨_, rfl⟩
          have X2 := Lib.hid (H2.out.1.later B2)
          rw [hg4] at r4 lq ⊢
          have f4 : ∀ x : Wd (Moves (fun k => k = q) W2), x.world.cell? ⟨g4, 0, none⟩ = some (.pointer (some ⟨q, 0, none⟩)) := fun x => (World.cell?_of_block (x.ok.block g4 (lt_of_row r4) (by omega))).trans (row_cell r4 rfl)
          have ne : Nonempty (Wd (Moves (fun k => k = q) W2)) := ⟨⟨_, Moves.refl _ _⟩⟩
          have HB := Lib.hid (And.intro B2 (And.intro r4 (And.intro lq hg4)))
          clear B2 r4 lq hW2 hg4
          refine wp_region_hoist (fun w' => ∃ x : Wd (Moves (fun k => k = q) W2), w' = x.world) [3, 4, 5, 6] (by kernel_rfl) ?_
          refine wpAnyI_reads [0, 2] 5 _ ⟨⟨_, Moves.of_below (Below.refl _ _).drew⟩, rfl⟩ (by kernel_rfl) ?_
          simp only [List.filterMap_cons, List.filterMap_nil, List.getElem?_toArray, List.getElem?_cons_succ, List.getElem?_cons_zero]
          iterate 2 (with_reducible refine wpHoist_step (fun K hK => ?_); simp only [hoists, sameUpon]; go_simp; refine hK _ ?_; clear hK K)
          with_reducible refine wpHoist_nil ?_
          refine wpAnyI_one 1 4 _ _ rfl (by kernel_rfl) ?_
          refine wpList_plain rfl fun K hK => ?_
          go_simp
          go_at_call 148
          refine (GC.out W2.drew q (X2.out.later (Below.refl _ _).drew)).mono ?_
          rintro e w3 ⟨rfl, x3, m3⟩
          have M3 : Moves (fun k => k = q) W2 w3 := (Moves.of_below (Below.refl W2.heap.size W2).drew).trans m3 (fun _ _ h => h)
          have H3 := Lib.hid (And.intro x3 M3)
          clear x3 m3
          refine hK _ _ (wpList_nil ⟨rfl, fun _ => ⟨⟨_, M3⟩, rfl⟩, ?_⟩)
          clear hK K
          clear M3
          refine wpAnyI_one 3 3 _ _ rfl (by kernel_rfl) ?_
          refine wpList_plain rfl fun K hK => ?_
          go_simp
          go_at_call 148
          refine (MC.out w3 q H3.out.1).mono ?_
          rintro e w4 ⟨rfl, x4, m4⟩
          have H4 := Lib.hid (And.intro x4 (H3.out.2.trans m4 (fun _ _ h => h)))
          clear x4 m4 f4 ne
          refine hK _ _ (wpList_nil ⟨rfl, fun h => absurd (by decide) h, ?_⟩)
          clear hK K
          refine wpAnyI_pure [4, 5, 6] 0 _ (by kernel_rfl) ?_
          simp only [List.filterMap_cons, List.filterMap_nil, List.getElem?_toArray, List.getElem?_cons_succ, List.getElem?_cons_zero]
          repeat (refine wpHoist_step (fun K hK => ?_); simp only [hoists, sameUpon]; go_simp; refine hK _ ?_; clear hK K)
          refine wpHoist_nil ?_
          refine ⟨by kernel_rfl, ?_⟩
          have c4 : w4.cell? ⟨g4, 0, none⟩ = some (.pointer (some ⟨q, 0, none⟩)) := (World.cell?_of_block (H4.out.2.block g4 (lt_of_row HB.out.2.1) (by have := HB.out.2.2.1; omega))).trans (row_cell HB.out.2.1 rfl)
          have EC := Lib.hid (end_any H4.out.1)
          by_cases hre : rc = []
          · have g0 : ¬ 0 < g := fun h => hbad ⟨hre, h⟩
            rw [if_pos hre] at EC
            clear hbad hre
            go_wp2_with (first
              | (go_at_call 149; refine EC.out.mono ?_; rintro e w5 ⟨rfl, m5⟩; have H5 := Lib.hid m5; clear m5 c4)
              | (go_at_call 109; refine (must_no _).mono ?_; rintro e w' ⟨rfl, rfl⟩))
            exact ⟨rfl, rfl, only_far H1.out.2.2 (((Moves.of_below (O := fun k => w1.heap.size ≤ k) H2.out.2.2).trans (Moves.of_below (O := fun k => w1.heap.size ≤ k) HB.out.1) (fun _ _ h => h)).trans ((H4.out.2.trans H5.out (fun _ _ h => h)).mono (O' := fun k => w1.heap.size ≤ k) (fun k hk => by have := H2.out.2.1; omega)) (fun _ _ h => h)) (fun _ h => h)⟩
          · rw [if_neg hre] at EC
            clear hbad hre
            go_wp2_with (first
              | (go_at_call 149; refine EC.out.mono ?_; rintro e w5 ⟨rfl, m5⟩; have H5 := Lib.hid m5; clear m5 c4)
              | (go_at_call 109; refine (must_no _).mono ?_; rintro e w' ⟨rfl, rfl⟩))
            exact ⟨rfl, rfl, only_far H1.out.2.2 (((Moves.of_below (O := fun k => w1.heap.size ≤ k) H2.out.2.2).trans (Moves.of_below (O := fun k => w1.heap.size ≤ k) HB.out.1) (fun _ _ h => h)).trans ((H4.out.2.trans H5.out (fun _ _ h => h)).mono (O' := fun k => w1.heap.size ≤ k) (fun k hk => by have := H2.out.2.1; omega)) (fun _ _ h => h)) (fun _ h => h)⟩
    · have RC := Lib.hid (fun (X : World) (F : Nat → Prop) (v : Value) (hv : BytesAt X.heap F v body) => record_no (kind := 1) hv lb (fun r e => hk ⟨r, e⟩))
      clear h hr hsp hh hk lb hl lbody
      go_enter Tryz.func112, Tryz.ntmps112
      go_wp2_with (first
        | (with_reducible refine NX.out.mono ?_; rintro e w1 ⟨v1, rfl, y1, x1, m1⟩; have H1 := Lib.hid (And.intro y1 (And.intro x1 m1)); clear y1 x1 m1)
        | (go_at_call 147; refine (RC.out _ _ _ H1.out.1).mono ?_; rintro e w2 ⟨rfl, b2⟩))
      exact ⟨rfl, rfl, H1.out.2.2.trans (Moves.of_below b2) (fun _ _ h => h)⟩

end Go.Proofs.YtgffifleflkjoaaGreat
