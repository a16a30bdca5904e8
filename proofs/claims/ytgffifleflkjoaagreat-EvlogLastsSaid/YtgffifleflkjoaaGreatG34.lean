/-
  evlog: a Head of a tape without its Rows.
  evlog: what a tape tells: that it may be, plain.
-/
import Derived.Test.YtgffifleflkjoaaGreatG33

namespace Go.Proofs.YtgffifleflkjoaaGreat
open Go.RowKit Dm

set_option maxRecDepth 100000 in
set_option maxHeartbeats 4000000 in
theorem rows_no {w : World} {T g1 g2 g N m0 : Nat} {at' : Int} {rv : Value} {b0 e0 g0 : Nat} {l body : List UInt8} (h : NextAt w g1 g2 l 0) (hl : l.length ≤ 1000000000)
    (hT : w.heap[T]? = some (.cells (tapeC at' g0 rv b0 e0) tTape (0, 0))) (h1 : g1 < T) (h2 : T < g2) (hsp : Wm.split l = some (body, m0)) (hh : Em.rhead body = some (g, N)) (hrw : Em.rrows l N m0 [] (.map []) = none) :
    Calls Tryz.prog 112 #[.pointer (some ⟨T, 0, none⟩), .func (.func 107) #[] #[.pointer (some ⟨g1, 0, none⟩), .pointer (some ⟨g2, 0, none⟩)]] w fun e w' => e = .panicked gaveUp ∧ Moves (fun k => k = g2) w w' := by
  have eg := enters_of Tryz.func107 (by kernel_rfl) rfl
  obtain ⟨ra, rb, hk, hg, hn, g0'⟩ := rhead_inv hh
  obtain ⟨_, _, lbody⟩ := split_pos hsp
  have la := rnum_len hk
  have lbb := rnum_len hg
  have lnn := rnum_len hn
  have N256 : N ≤ 256 := lnn.2.1
  have NX := Lib.hid (next_yes h hl (by simpa using hsp))
  have RC := Lib.hid (fun (X : World) (F : Nat → Prop) (v : Value) (hv : BytesAt X.heap F v body) => record_yes hv (by omega) hk)
  have GC := Lib.hid (fun (X : World) (q : Nat) (hx : RdAt X q ra) => enum_yes hx (by omega) hg)
  have MC := Lib.hid (fun (X : World) (q : Nat) (hx : RdAt X q rb) => enum_yes hx (by omega) hn)
  have HH := Lib.hid (And.intro h (And.intro hT (And.intro hrw (And.intro hl (And.intro h1 h2)))))
  have gpos : (0 : Int) < (g : Int) := by omega
  have gpos' : 0 < g := g0'
  clear h hT hrw hh hk hg hn hsp la lbb lnn lbody hl g0'
  go_enter Tryz.func112, Tryz.ntmps112
  go_upto_region 1 with (first
    | (with_reducible refine NX.out.mono ?_; rintro e w1 ⟨v1, rfl, y1, x1, m1⟩; have H1 := Lib.hid (And.intro y1 (And.intro x1 m1)); clear y1 x1 m1)
    | (go_at_call 147; refine (RC.out _ _ _ H1.out.1).mono ?_; rintro e w2 ⟨q, rfl, x2, hq, b2⟩; have H2 := Lib.hid (And.intro x2 (And.intro hq b2)); clear x2 hq b2))
  obtain ⟨W2, hW2⟩ : ∃ W, w2.alloc (.cells #[.pointer (some ⟨q, 0, none⟩)] tERd) = W := ⟨_, rfl⟩
  have B2 : Below w2.heap.size w2 W2 := by rw [← hW2]; exact (Below.refl _ _).alloc (Nat.le_refl _) _
  have r4 : W2.heap[w2.heap.size]? = some (.cells #[.pointer (some ⟨q, 0, none⟩)] tERd (0, 0)) := by rw [← hW2]; exact heap_alloc_last w2 _
  have lq := H2.out.1.lt
  rw [hW2]
  obtain ⟨g4, hg4⟩ : ∃ g, w2.heap.size = g := ⟨_, rfl⟩
  have X2 := Lib.hid (H2.out.1.later B2)
  rw [hg4] at r4 lq ⊢
  have f4 : ∀ x : Wd (Moves (fun k => k = q) W2), x.world.cell? ⟨g4, 0, none⟩ = some (.pointer (some ⟨q, 0, none⟩)) := fun x => (World.cell?_of_block (x.ok.block g4 (lt_of_row r4) (by omega))).trans (row_cell r4 rfl)
  have ne : Nonempty (Wd (Moves (fun k => k = q) W2)) := ⟨⟨_, Moves.refl _ _⟩⟩
  have HB := Lib.hid (And.intro B2 (And.intro r4 (And.intro lq hg4)))
  clear B2 r4 lq hW2 hg4
  refine wp_region_hoist (fun w' => ∃ x : Wd (Moves (fun k => k = q) W2), w' = x.world) [3, 4, 5, 6] (by kernel_rfl) ?_
  refine wpAnyI_reads [0, 2] 5 _ ⟨⟨_, Moves.of_below (Below.refl _ _).drew⟩, rfl⟩ (by kernel_rfl) ?_
  simp only [List.filterMap_cons, List.filterMap_nil, List.getElem?_toArray, List.getElem?_cons_succ, List.getElem?_cons_zero]
  iterate 2 (with_reducible refine wpHoist_step (fun K hK => ?_); simp only [hoists, sameUpon]; go_simp; refine hK _ ?_; clear hK K)
  with_reducible refine wpHoist_nil ?_
  refine wpAnyI_one 1 4 _ _ rfl (by kernel_rfl) ?_
  refine wpList_plain rfl fun K hK => ?_
  go_simp
  go_at_call 148
  refine (GC.out W2.drew q (X2.out.later (Below.refl _ _).drew)).mono ?_
  rintro e w3 ⟨rfl, x3, m3⟩
  have M3 : Moves (fun k => k = q) W2 w3 := (Moves.of_below (Below.refl W2.heap.size W2).drew).trans m3 (fun _ _ h => h)
  have H3 := Lib.hid (And.intro x3 M3)
  clear x3 m3
  refine hK _ _ (wpList_nil ⟨rfl, fun _ => ⟨⟨_, M3⟩, rfl⟩, ?_⟩)
  clear hK K
  clear M3
  refine wpAnyI_one 3 3 _ _ rfl (by kernel_rfl) ?_
  refine wpList_plain rfl fun K hK => ?_
  go_simp
  go_at_call 148
  refine (MC.out w3 q H3.out.1).mono ?_
  rintro e w4 ⟨rfl, x4, m4⟩
  have H4 := Lib.hid (And.intro x4 (H3.out.2.trans m4 (fun _ _ h => h)))
  clear x4 m4 f4 ne
  refine hK _ _ (wpList_nil ⟨rfl, fun h => absurd (by decide) h, ?_⟩)
  clear hK K
  refine wpAnyI_pure [4, 5, 6] 0 _ (by kernel_rfl) ?_
  simp only [List.filterMap_cons, List.filterMap_nil, List.getElem?_toArray, List.getElem?_cons_succ, List.getElem?_cons_zero]
  repeat (refine wpHoist_step (fun K hK => ?_); simp only [hoists, sameUpon]; go_simp; refine hK _ ?_; clear hK K)
  refine wpHoist_nil ?_
  refine ⟨by kernel_rfl, ?_⟩
  have c4 : w4.cell? ⟨g4, 0, none⟩ = some (.pointer (some ⟨q, 0, none⟩)) := (World.cell?_of_block (H4.out.2.block g4 (lt_of_row HB.out.2.1) (by have := HB.out.2.2.1; omega))).trans (row_cell HB.out.2.1 rfl)
  have EC := Lib.hid (end_yes H4.out.1)
  have hmm := @run_makeMap Tryz.prog
  go_wp2_with (first
    | (go_at_call 149; refine EC.out.mono ?_; rintro e w5 ⟨rfl, b5⟩; have H5 := Lib.hid b5; clear b5 c4)
    | (go_at_call 109; refine (must_yes _).mono ?_; rintro e w' ⟨rfl, rfl⟩))
  obtain ⟨W5, hW5⟩ : ∃ W, w5.alloc (.map #[] 0) = W := ⟨_, rfl⟩
  have b5 : Below w5.heap.size w5 W5 := by rw [← hW5]; exact (Below.refl _ _).alloc (Nat.le_refl _) _
  have rM : RowsIn W5 w5.heap.size 0 (.map []) := by rw [← hW5]; exact World.ownsMap_made (H := Unit) w5 Tryz.prog tStr (plainElem Tryz.prog tStr)
  have BW : Below w1.heap.size w1 W5 := (((Moves.of_below (O := fun k => w1.heap.size ≤ k) (H2.out.2.2)).trans (Moves.of_below (O := fun k => w1.heap.size ≤ k) HB.out.1) (fun _ _ h => h)).trans ((H4.out.2.mono (O' := fun k => w1.heap.size ≤ k) (fun k hk => by have := H2.out.2.1; omega)).trans (Moves.of_below (O := fun k => w1.heap.size ≤ k) (H5.out.trans (b5.mono H5.out.size))) (fun _ _ h => h)) (fun _ _ h => h)).low (O' := fun _ => False) (fun i hi h => by omega) |>.below
  have lM : w1.heap.size ≤ w5.heap.size := by have := H2.out.2.2.size; have := HB.out.1.size; have := H4.out.2.size; have := H5.out.size; omega
  rw [hW5]
  obtain ⟨M, hM⟩ : ∃ M, w5.heap.size = M := ⟨_, rfl⟩
  rw [hM] at rM lM ⊢
  have ST := Lib.hid (show BegRel w g1 g2 M N m0 l 0 [] W5 (.map []) m0 from ⟨by have := H1.out.2.1.later BW; rwa [Nat.zero_add] at this, rM, rfl, (H1.out.2.2.mono (O' := fun k => k = g2 ∨ w.heap.size ≤ k) (fun _ h => Or.inl h)).trans (Moves.of_below (O := fun k => k = g2 ∨ w.heap.size ≤ k) BW) (fun _ _ h => h)⟩)
  have HM := Lib.hid (show w.heap.size ≤ M by have := H1.out.2.2.size; omega)
  clear hW5 b5 rM BW lM hM H1 H2 H3 H4 H5 HB X2 EC NX RC GC MC
  go_loopw [7, 30] (fun s7 s wr => ∃ (i : Nat) (last : List UInt8) (D : Em.Rows) (fin : Nat), i ≤ N ∧ s = .int .i64 (i : Int) ∧ s7 = strOfB last ∧ BegRel w g1 g2 M N m0 l i last wr D fin) (fun _ s _ => N - (intOf s).toNat)
  case atStart => exact ⟨0, [], _, _, Nat.zero_le _, rfl, rfl, ST.out⟩
  case round =>
    obtain ⟨i, last, Di, fi, hi, rfl, rfl, hrel⟩ := hrel
    have heq := hrel.eqn
    have FL := Lib.hid (show ∀ wX, Moves (fun k => k = g2) wr wX → Moves (fun k => k = g2) w wX from fun wX hx => (hrel.mv.trans (hx.mono (O' := fun k => k = g2 ∨ w.heap.size ≤ k) (fun _ h => Or.inl h)) (fun _ _ h => h)).low (fun i hi h => by rcases h with h | h; exact h; omega))
    by_cases hlt : i < N
    · have i0 : (0 : Int) ≤ (i : Int) := by omega
      have i1 : (i : Int) < (N : Int) := by omega
      obtain ⟨j, hj⟩ : ∃ j, N - i = j + 1 := ⟨N - i - 1, by omega⟩
      have lll := HH.out.2.2.2.1
      have ldr : (l.drop fi).length ≤ l.length := by rw [List.length_drop]; omega
      cases hsp : Wm.split (l.drop fi) with
      | none =>
        have NX := Lib.hid (next_no hrel.next lll hsp)
        clear hrel heq hsp lll ldr
        go_wp2_with (with_reducible refine NX.out.mono ?_; rintro e w1 ⟨rfl, b1⟩)
        exact ⟨rfl, rfl, FL.out _ (Moves.of_below b1)⟩
      | some p =>
        obtain ⟨body', m'⟩ := p
        obtain ⟨_, _, lbody⟩ := split_pos hsp
        cases hrr : Em.rrow last body' with
        | none =>
          have NX := Lib.hid (next_yes hrel.next lll hsp)
          by_cases hk : ∃ ra', Wm.rnum 3 body' = some (2, ra')
          · obtain ⟨ra', hk⟩ := hk
            have la := rnum_len hk
            have RC := Lib.hid (fun (X : World) (F : Nat → Prop) (v : Value) (hv : BytesAt X.heap F v body') => record_yes hv (by omega) hk)
            cases ht : Wm.rtext 64 ra' with
            | none =>
              have KC := Lib.hid (fun (X : World) (q : Nat) (hx : RdAt X q ra') => etext_no hx (by omega) ht)
              clear hrel heq hsp hrr hk ht lbody la ldr lll
              go_upto_region 7 with (first
                | (with_reducible refine NX.out.mono ?_; rintro e w1 ⟨v1, rfl, y1, x1, m1⟩; have H1 := Lib.hid (And.intro y1 (And.intro x1 m1)); clear y1 x1 m1)
                | (go_at_call 147; refine (RC.out _ _ _ H1.out.1).mono ?_; rintro e w2 ⟨q, rfl, x2, hq, b2⟩; have H2 := Lib.hid (And.intro x2 (And.intro hq b2)); clear x2 hq b2))
              obtain ⟨W2, hW2⟩ : ∃ W, w2.alloc (.cells #[.pointer (some ⟨q, 0, none⟩)] tERd) = W := ⟨_, rfl⟩
              have B2 : Below w2.heap.size w2 W2 := by rw [← hW2]; exact (Below.refl _ _).alloc (Nat.le_refl _) _
              have r4 : W2.heap[w2.heap.size]? = some (.cells #[.pointer (some ⟨q, 0, none⟩)] tERd (0, 0)) := by rw [← hW2]; exact heap_alloc_last w2 _
              have lq := H2.out.1.lt
              rw [hW2]
              obtain ⟨g4, hg4⟩ : ∃ g, w2.heap.size = g := ⟨_, rfl⟩
              have X2 := Lib.hid (H2.out.1.later B2)
              rw [hg4] at r4 lq ⊢
              have f4 : ∀ x : Wd (Moves (fun k => k = q) W2), x.world.cell? ⟨g4, 0, none⟩ = some (.pointer (some ⟨q, 0, none⟩)) := fun x => (World.cell?_of_block (x.ok.block g4 (lt_of_row r4) (by omega))).trans (row_cell r4 rfl)
              have ne : Nonempty (Wd (Moves (fun k => k = q) W2)) := ⟨⟨_, Moves.refl _ _⟩⟩
              have HB := Lib.hid (And.intro B2 (And.intro r4 (And.intro lq hg4)))
              clear B2 r4 lq hW2 hg4
              refine wp_region_exits (fun w' => ∃ x : Wd (Moves (fun k => k = q) W2), w' = x.world) [3, 4, 5] (fun c w' => c = gaveUp ∧ Moves (fun k => k = q) W2 w') ?_ (by kernel_rfl) ?_
              · rintro c a w' hd ⟨rfl, hmv⟩
                exact ⟨hd, rfl, FL.out _ (only_far H1.out.2.2 (((Moves.of_below (O := fun k => w1.heap.size ≤ k) H2.out.2.2).trans (Moves.of_below (O := fun k => w1.heap.size ≤ k) HB.out.1) (fun _ _ h => h)).trans (hmv.mono (O' := fun k => w1.heap.size ≤ k) (fun k hk => by have := H2.out.2.1; omega)) (fun _ _ h => h)) (fun _ h => h))⟩
              · refine wpAnyE_reads [0, 2] 4 _ ⟨⟨_, Moves.of_below (Below.refl _ _).drew⟩, rfl⟩ (by kernel_rfl) ?_
                simp only [List.filterMap_cons, List.filterMap_nil, List.getElem?_toArray, List.getElem?_cons_succ, List.getElem?_cons_zero]
                iterate 2 (with_reducible refine wpHoist_step (fun K hK => ?_); simp only [hoists, sameUpon]; go_simp; refine hK _ ?_; clear hK K)
                with_reducible refine wpHoist_nil ?_
                refine wpAnyE_one 1 3 _ _ rfl (by kernel_rfl) ?_
                refine wpList_plain rfl fun K hK => ?_
                go_simp
                go_at_call 150
                refine (KC.out W2.drew q (X2.out.later (Below.refl _ _).drew)).mono ?_
                rintro e w3 ⟨rfl, m3⟩
                have M3 : Moves (fun k => k = q) W2 w3 := (Moves.of_below (Below.refl W2.heap.size W2).drew).trans m3 (fun _ _ h => h)
                first | exact Or.inr ⟨gaveUp, rfl, rfl, rfl, M3⟩ | exact ⟨rfl, rfl, M3⟩ | exact ⟨rfl, M3⟩ | exact M3
            | some p =>
              obtain ⟨k, rb'⟩ := p
              have lk := rtext_len ht
              have KC := Lib.hid (fun (X : World) (q : Nat) (hx : RdAt X q ra') => etext_yes hx (by omega) ht)
              cases hv : Wm.rtext 4096 rb' with
              | none =>
                have VC := Lib.hid (fun (X : World) (q : Nat) (hx : RdAt X q rb') => etext_no hx (by omega) hv)
                clear hrel heq hsp hrr hk ht hv lbody la lk ldr lll
                go_upto_region 7 with (first
                  | (with_reducible refine NX.out.mono ?_; rintro e w1 ⟨v1, rfl, y1, x1, m1⟩; have H1 := Lib.hid (And.intro y1 (And.intro x1 m1)); clear y1 x1 m1)
                  | (go_at_call 147; refine (RC.out _ _ _ H1.out.1).mono ?_; rintro e w2 ⟨q, rfl, x2, hq, b2⟩; have H2 := Lib.hid (And.intro x2 (And.intro hq b2)); clear x2 hq b2))
                obtain ⟨W2, hW2⟩ : ∃ W, w2.alloc (.cells #[.pointer (some ⟨q, 0, none⟩)] tERd) = W := ⟨_, rfl⟩
                have B2 : Below w2.heap.size w2 W2 := by rw [← hW2]; exact (Below.refl _ _).alloc (Nat.le_refl _) _
                have r4 : W2.heap[w2.heap.size]? = some (.cells #[.pointer (some ⟨q, 0, none⟩)] tERd (0, 0)) := by rw [← hW2]; exact heap_alloc_last w2 _
                have lq := H2.out.1.lt
                rw [hW2]
                obtain ⟨g4, hg4⟩ : ∃ g, w2.heap.size = g := ⟨_, rfl⟩
                have X2 := Lib.hid (H2.out.1.later B2)
                rw [hg4] at r4 lq ⊢
                have f4 : ∀ x : Wd (Moves (fun k => k = q) W2), x.world.cell? ⟨g4, 0, none⟩ = some (.pointer (some ⟨q, 0, none⟩)) := fun x => (World.cell?_of_block (x.ok.block g4 (lt_of_row r4) (by omega))).trans (row_cell r4 rfl)
                have ne : Nonempty (Wd (Moves (fun k => k = q) W2)) := ⟨⟨_, Moves.refl _ _⟩⟩
                have HB := Lib.hid (And.intro B2 (And.intro r4 (And.intro lq hg4)))
                clear B2 r4 lq hW2 hg4
                refine wp_region_exits (fun w' => ∃ x : Wd (Moves (fun k => k = q) W2), w' = x.world) [3, 4, 5] (fun c w' => c = gaveUp ∧ Moves (fun k => k = q) W2 w') ?_ (by kernel_rfl) ?_
                · rintro c a w' hd ⟨rfl, hmv⟩
                  exact ⟨hd, rfl, FL.out _ (only_far H1.out.2.2 (((Moves.of_below (O := fun k => w1.heap.size ≤ k) H2.out.2.2).trans (Moves.of_below (O := fun k => w1.heap.size ≤ k) HB.out.1) (fun _ _ h => h)).trans (hmv.mono (O' := fun k => w1.heap.size ≤ k) (fun k hk => by have := H2.out.2.1; omega)) (fun _ _ h => h)) (fun _ h => h))⟩
                · refine wpAnyE_reads [0, 2] 4 _ ⟨⟨_, Moves.of_below (Below.refl _ _).drew⟩, rfl⟩ (by kernel_rfl) ?_
                  simp only [List.filterMap_cons, List.filterMap_nil, List.getElem?_toArray, List.getElem?_cons_succ, List.getElem?_cons_zero]
                  iterate 2 (with_reducible refine wpHoist_step (fun K hK => ?_); simp only [hoists, sameUpon]; go_simp; refine hK _ ?_; clear hK K)
                  with_reducible refine wpHoist_nil ?_
                  refine wpAnyE_one 1 3 _ _ rfl (by kernel_rfl) ?_
                  refine wpList_plain rfl fun K hK => ?_
                  go_simp
                  go_at_call 150
                  refine (KC.out W2.drew q (X2.out.later (Below.refl _ _).drew)).mono ?_
                  rintro e w3 ⟨rfl, x3, m3⟩
                  have M3 : Moves (fun k => k = q) W2 w3 := (Moves.of_below (Below.refl W2.heap.size W2).drew).trans m3 (fun _ _ h => h)
                  have H3 := Lib.hid (And.intro x3 M3)
                  clear x3 m3
                  refine hK _ _ (wpList_nil (Or.inl ⟨rfl, fun _ => ⟨⟨_, M3⟩, rfl⟩, ?_⟩))
                  clear hK K
                  clear M3
                  refine wpAnyE_one 3 2 _ _ rfl (by kernel_rfl) ?_
                  refine wpList_plain rfl fun K hK => ?_
                  go_simp
                  go_at_call 150
                  refine (VC.out w3 q H3.out.1).mono ?_
                  rintro e w4 ⟨rfl, m4⟩
                  have M4 : Moves (fun k => k = q) W2 w4 := H3.out.2.trans m4 (fun _ _ h => h)
                  first | exact Or.inr ⟨gaveUp, rfl, rfl, rfl, M4⟩ | exact ⟨rfl, rfl, M4⟩ | exact ⟨rfl, M4⟩ | exact M4
              | some p =>
                obtain ⟨vv, rc⟩ := p
                have VC := Lib.hid (fun (X : World) (q : Nat) (hx : RdAt X q rb') => etext_yes hx (by omega) hv)
                have hbad : rc = [] → k ≤ last := by
                  intro hc
                  refine Decidable.byContradiction fun hn => ?_
                  unfold Em.rrow at hrr
                  rw [hk] at hrr
                  simp only [ne_eq, not_true, if_false] at hrr
                  rw [ht] at hrr
                  simp only at hrr
                  rw [hv] at hrr
                  simp only at hrr
                  rw [if_pos ⟨hc, hn⟩] at hrr
                  cases hrr
                clear hrel heq hsp hrr hk ht hv lbody la lk ldr lll
                go_upto_region 7 with (first
                  | (with_reducible refine NX.out.mono ?_; rintro e w1 ⟨v1, rfl, y1, x1, m1⟩; have H1 := Lib.hid (And.intro y1 (And.intro x1 m1)); clear y1 x1 m1)
                  | (go_at_call 147; refine (RC.out _ _ _ H1.out.1).mono ?_; rintro e w2 ⟨q, rfl, x2, hq, b2⟩; have H2 := Lib.hid (And.intro x2 (And.intro hq b2)); clear x2 hq b2))
                obtain ⟨W2, hW2⟩ : ∃ W, w2.alloc (.cells #[.pointer (some ⟨q, 0, none⟩)] tERd) = W := ⟨_, rfl⟩
                have B2 : Below w2.heap.size w2 W2 := by rw [← hW2]; exact (Below.refl _ _).alloc (Nat.le_refl _) _
                have r4 : W2.heap[w2.heap.size]? = some (.cells #[.pointer (some ⟨q, 0, none⟩)] tERd (0, 0)) := by rw [← hW2]; exact heap_alloc_last w2 _
                have lq := H2.out.1.lt
                rw [hW2]
                obtain ⟨g4, hg4⟩ : ∃ g, w2.heap.size = g := ⟨_, rfl⟩
                have X2 := Lib.hid (H2.out.1.later B2)
                rw [hg4] at r4 lq ⊢
                have f4 : ∀ x : Wd (Moves (fun k => k = q) W2), x.world.cell? ⟨g4, 0, none⟩ = some (.pointer (some ⟨q, 0, none⟩)) := fun x => (World.cell?_of_block (x.ok.block g4 (lt_of_row r4) (by omega))).trans (row_cell r4 rfl)
                have ne : Nonempty (Wd (Moves (fun k => k = q) W2)) := ⟨⟨_, Moves.refl _ _⟩⟩
                have HB := Lib.hid (And.intro B2 (And.intro r4 (And.intro lq hg4)))
                clear B2 r4 lq hW2 hg4
                refine wp_region_hoist (fun w' => ∃ x : Wd (Moves (fun k => k = q) W2), w' = x.world) [3, 4, 5] (by kernel_rfl) ?_
                refine wpAnyI_reads [0, 2] 4 _ ⟨⟨_, Moves.of_below (Below.refl _ _).drew⟩, rfl⟩ (by kernel_rfl) ?_
                simp only [List.filterMap_cons, List.filterMap_nil, List.getElem?_toArray, List.getElem?_cons_succ, List.getElem?_cons_zero]
                iterate 2 (with_reducible refine wpHoist_step (fun K hK => ?_); simp only [hoists, sameUpon]; go_simp; refine hK _ ?_; clear hK K)
                with_reducible refine wpHoist_nil ?_
                refine wpAnyI_one 1 3 _ _ rfl (by kernel_rfl) ?_
                refine wpList_plain rfl fun K hK => ?_
                go_simp
                go_at_call 150
                refine (KC.out W2.drew q (X2.out.later (Below.refl _ _).drew)).mono ?_
                rintro e w3 ⟨rfl, x3, m3⟩
                have M3 : Moves (fun k => k = q) W2 w3 := (Moves.of_below (Below.refl W2.heap.size W2).drew).trans m3 (fun _ _ h => h)
                have H3 := Lib.hid (And.intro x3 M3)
                clear x3 m3
                refine hK _ _ (wpList_nil ⟨rfl, fun _ => ⟨⟨_, M3⟩, rfl⟩, ?_⟩)
                clear hK K
                clear M3
                refine wpAnyI_one 3 2 _ _ rfl (by kernel_rfl) ?_
                refine wpList_plain rfl fun K hK => ?_
                go_simp
                go_at_call 150
                refine (VC.out w3 q H3.out.1).mono ?_
                rintro e w4 ⟨rfl, x4, m4⟩
                have H4 := Lib.hid (And.intro x4 (H3.out.2.trans m4 (fun _ _ h => h)))
                clear x4 m4 f4 ne
                refine hK _ _ (wpList_nil ⟨rfl, fun h => absurd (by decide) h, ?_⟩)
                clear hK K
                refine wpAnyI_pure [4, 5] 0 _ (by kernel_rfl) ?_
                simp only [List.filterMap_cons, List.filterMap_nil, List.getElem?_toArray, List.getElem?_cons_succ, List.getElem?_cons_zero]
                repeat (refine wpHoist_step (fun K hK => ?_); simp only [hoists, sameUpon]; go_simp; refine hK _ ?_; clear hK K)
                refine wpHoist_nil ?_
                refine ⟨by kernel_rfl, ?_⟩
                have c4 : w4.cell? ⟨g4, 0, none⟩ = some (.pointer (some ⟨q, 0, none⟩)) := (World.cell?_of_block (H4.out.2.block g4 (lt_of_row HB.out.2.1) (by have := HB.out.2.2.1; omega))).trans (row_cell HB.out.2.1 rfl)
                have EC := Lib.hid (end_any H4.out.1)
                by_cases hre : rc = []
                · have hkl := hbad hre
                  rw [if_pos hre] at EC
                  clear hbad hre
                  by_cases hkq : k = last
                  · have q1 : Op.bytesLess k last = false := by rw [bytes_less, decide_eq_false_iff_not, hkq]; exact List.lt_irrefl _
                    have q2 : (k == last) = true := by rw [beq_iff_eq]; exact hkq
                    clear hkl hkq
                    go_wp2_with (first
                      | (go_at_call 149; refine EC.out.mono ?_; rintro e w5 ⟨rfl, m5⟩; have H5 := Lib.hid m5; clear m5 c4)
                      | (go_at_call 109; refine (must_no _).mono ?_; rintro e w' ⟨rfl, rfl⟩))
                    exact ⟨rfl, rfl, FL.out _ (only_far H1.out.2.2 (((Moves.of_below (O := fun k => w1.heap.size ≤ k) H2.out.2.2).trans (Moves.of_below (O := fun k => w1.heap.size ≤ k) HB.out.1) (fun _ _ h => h)).trans ((H4.out.2.trans H5.out (fun _ _ h => h)).mono (O' := fun k => w1.heap.size ≤ k) (fun k hk => by have := H2.out.2.1; omega)) (fun _ _ h => h)) (fun _ h => h))⟩
                  · have q1 : Op.bytesLess k last = true := by rw [bytes_less, decide_eq_true_iff]; exact List.not_le.1 (fun h => hkq (List.le_antisymm hkl h))
                    clear hkl hkq
                    go_wp2_with (first
                      | (go_at_call 149; refine EC.out.mono ?_; rintro e w5 ⟨rfl, m5⟩; have H5 := Lib.hid m5; clear m5 c4)
                      | (go_at_call 109; refine (must_no _).mono ?_; rintro e w' ⟨rfl, rfl⟩))
                    exact ⟨rfl, rfl, FL.out _ (only_far H1.out.2.2 (((Moves.of_below (O := fun k => w1.heap.size ≤ k) H2.out.2.2).trans (Moves.of_below (O := fun k => w1.heap.size ≤ k) HB.out.1) (fun _ _ h => h)).trans ((H4.out.2.trans H5.out (fun _ _ h => h)).mono (O' := fun k => w1.heap.size ≤ k) (fun k hk => by have := H2.out.2.1; omega)) (fun _ _ h => h)) (fun _ h => h))⟩
                · rw [if_neg hre] at EC
                  clear hbad hre
                  go_wp2_with (first
                    | (go_at_call 149; refine EC.out.mono ?_; rintro e w5 ⟨rfl, m5⟩; have H5 := Lib.hid m5; clear m5 c4)
                    | (go_at_call 109; refine (must_no _).mono ?_; rintro e w' ⟨rfl, rfl⟩))
                  exact ⟨rfl, rfl, FL.out _ (only_far H1.out.2.2 (((Moves.of_below (O := fun k => w1.heap.size ≤ k) H2.out.2.2).trans (Moves.of_below (O := fun k => w1.heap.size ≤ k) HB.out.1) (fun _ _ h => h)).trans ((H4.out.2.trans H5.out (fun _ _ h => h)).mono (O' := fun k => w1.heap.size ≤ k) (fun k hk => by have := H2.out.2.1; omega)) (fun _ _ h => h)) (fun _ h => h))⟩
          · have RC := Lib.hid (fun (X : World) (F : Nat → Prop) (v : Value) (hv : BytesAt X.heap F v body') => record_no (kind := 2) hv (by omega) (fun r e => hk ⟨r, e⟩))
            clear hrel heq hsp hrr hk lbody ldr lll
            go_wp2_with (first
              | (with_reducible refine NX.out.mono ?_; rintro e w1 ⟨v1, rfl, y1, x1, m1⟩; have H1 := Lib.hid (And.intro y1 (And.intro x1 m1)); clear y1 x1 m1)
              | (go_at_call 147; refine (RC.out _ _ _ H1.out.1).mono ?_; rintro e w2 ⟨rfl, b2⟩))
            exact ⟨rfl, rfl, FL.out _ (H1.out.2.2.trans (Moves.of_below b2) (fun _ _ h => h))⟩
        | some p =>
          obtain ⟨k, vv⟩ := p
          clear heq ldr lll lbody
          obtain ⟨ra', rb', hk, ht, hv, hlast⟩ := rrow_inv hrr
          obtain ⟨_, _, lbody⟩ := split_pos hsp
          have la := rnum_len hk
          have lk := rtext_len ht
          have lv := rtext_len hv
          have ldr : (l.drop fi).length ≤ l.length := by rw [List.length_drop]; omega
          have lll := HH.out.2.2.2.1
          have NX := Lib.hid (next_yes hrel.next lll hsp)
          have RC := Lib.hid (fun (X : World) (F : Nat → Prop) (v : Value) (hv : BytesAt X.heap F v body') => record_yes hv (by omega) hk)
          have KC := Lib.hid (fun (X : World) (q : Nat) (hx : RdAt X q ra') => etext_yes hx (by omega) ht)
          have VC := Lib.hid (fun (X : World) (q : Nat) (hx : RdAt X q rb') => etext_yes hx (by omega) hv)
          have q1 : Op.bytesLess k last = false := str_lt _ _ hlast
          have q2 : (k == last) = false := str_ne _ _ hlast
          have HR := Lib.hid (And.intro hrel (And.intro trivial (And.intro lk.2 lv.2)))
          have HRR := Lib.hid (And.intro hsp hrr)
          clear hrel hsp hrr hk ht hv hlast lbody la lk lv ldr lll
          go_upto_region 7 with (first
            | (with_reducible refine NX.out.mono ?_; rintro e w1 ⟨v1, rfl, y1, x1, m1⟩; have H1 := Lib.hid (And.intro y1 (And.intro x1 m1)); clear y1 x1 m1)
            | (go_at_call 147; refine (RC.out _ _ _ H1.out.1).mono ?_; rintro e w2 ⟨q, rfl, x2, hq, b2⟩; have H2 := Lib.hid (And.intro x2 (And.intro hq b2)); clear x2 hq b2))
          obtain ⟨W2, hW2⟩ : ∃ W, w2.alloc (.cells #[.pointer (some ⟨q, 0, none⟩)] tERd) = W := ⟨_, rfl⟩
          have B2 : Below w2.heap.size w2 W2 := by rw [← hW2]; exact (Below.refl _ _).alloc (Nat.le_refl _) _
          have r4 : W2.heap[w2.heap.size]? = some (.cells #[.pointer (some ⟨q, 0, none⟩)] tERd (0, 0)) := by rw [← hW2]; exact heap_alloc_last w2 _
          have lq := H2.out.1.lt
          rw [hW2]
          obtain ⟨g4, hg4⟩ : ∃ g, w2.heap.size = g := ⟨_, rfl⟩
          have X2 := Lib.hid (H2.out.1.later B2)
          rw [hg4] at r4 lq ⊢
          have f4 : ∀ x : Wd (Moves (fun k => k = q) W2), x.world.cell? ⟨g4, 0, none⟩ = some (.pointer (some ⟨q, 0, none⟩)) := fun x => (World.cell?_of_block (x.ok.block g4 (lt_of_row r4) (by omega))).trans (row_cell r4 rfl)
          have ne : Nonempty (Wd (Moves (fun k => k = q) W2)) := ⟨⟨_, Moves.refl _ _⟩⟩
          have HB := Lib.hid (And.intro B2 (And.intro r4 (And.intro lq hg4)))
          clear B2 r4 lq hW2 hg4
          refine wp_region_hoist (fun w' => ∃ x : Wd (Moves (fun k => k = q) W2), w' = x.world) [3, 4, 5] (by kernel_rfl) ?_
          refine wpAnyI_reads [0, 2] 4 _ ⟨⟨_, Moves.of_below (Below.refl _ _).drew⟩, rfl⟩ (by kernel_rfl) ?_
          simp only [List.filterMap_cons, List.filterMap_nil, List.getElem?_toArray, List.getElem?_cons_succ, List.getElem?_cons_zero]
          iterate 2 (with_reducible refine wpHoist_step (fun K hK => ?_); simp only [hoists, sameUpon]; go_simp; refine hK _ ?_; clear hK K)
          with_reducible refine wpHoist_nil ?_
          refine wpAnyI_one 1 3 _ _ rfl (by kernel_rfl) ?_
          refine wpList_plain rfl fun K hK => ?_
          go_simp
          go_at_call 150
          refine (KC.out W2.drew q (X2.out.later (Below.refl _ _).drew)).mono ?_
          rintro e w3 ⟨rfl, x3, m3⟩
          have M3 : Moves (fun k => k = q) W2 w3 := (Moves.of_below (Below.refl W2.heap.size W2).drew).trans m3 (fun _ _ h => h)
          have H3 := Lib.hid (And.intro x3 M3)
          clear x3 m3
          refine hK _ _ (wpList_nil ⟨rfl, fun _ => ⟨⟨_, M3⟩, rfl⟩, ?_⟩)
          clear hK K
          clear M3
          refine wpAnyI_one 3 2 _ _ rfl (by kernel_rfl) ?_
          refine wpList_plain rfl fun K hK => ?_
          go_simp
          go_at_call 150
          refine (VC.out w3 q H3.out.1).mono ?_
          rintro e w4 ⟨rfl, x4, m4⟩
          have H4 := Lib.hid (And.intro x4 (H3.out.2.trans m4 (fun _ _ h => h)))
          clear x4 m4 f4 ne
          refine hK _ _ (wpList_nil ⟨rfl, fun h => absurd (by decide) h, ?_⟩)
          clear hK K
          refine wpAnyI_pure [4, 5] 0 _ (by kernel_rfl) ?_
          simp only [List.filterMap_cons, List.filterMap_nil, List.getElem?_toArray, List.getElem?_cons_succ, List.getElem?_cons_zero]
          repeat (refine wpHoist_step (fun K hK => ?_); simp only [hoists, sameUpon]; go_simp; refine hK _ ?_; clear hK K)
          refine wpHoist_nil ?_
          refine ⟨by kernel_rfl, ?_⟩
          have c4 : w4.cell? ⟨g4, 0, none⟩ = some (.pointer (some ⟨q, 0, none⟩)) := (World.cell?_of_block (H4.out.2.block g4 (lt_of_row HB.out.2.1) (by have := HB.out.2.2.1; omega))).trans (row_cell HB.out.2.1 rfl)
          have EC := Lib.hid (end_yes H4.out.1)
          go_upto_region 9 with (first
            | (go_at_call 149; refine EC.out.mono ?_; rintro e w5 ⟨rfl, b5⟩; have H5 := Lib.hid b5; clear b5 c4)
            | (go_at_call 109; refine (must_yes _).mono ?_; rintro e w' ⟨rfl, rfl⟩))
          have BW : Below w1.heap.size w1 w5 := (((Moves.of_below (O := fun k => w1.heap.size ≤ k) (H2.out.2.2)).trans (Moves.of_below (O := fun k => w1.heap.size ≤ k) HB.out.1) (fun _ _ h => h)).trans ((H4.out.2.mono (O' := fun k => w1.heap.size ≤ k) (fun k hk => by have := H2.out.2.1; omega)).trans (Moves.of_below (O := fun k => w1.heap.size ≤ k) H5.out) (fun _ _ h => h)) (fun _ _ h => h)).low (O' := fun _ => False) (fun i hi h => by omega) |>.below
          have lg2 := lt_of_row HH.out.1.far
          have lM := HR.out.1.rows.lt
          have s1 := H1.out.2.2.size
          have rM := rows_below (rows_off HR.out.1.rows H1.out.2.2 (by have := HM.out; omega)) BW (by omega)
          have RM := Lib.hid (And.intro BW (And.intro rM (And.intro lg2 lM)))
          clear BW rM lg2 lM s1
          go_wp2_with (at_mapUpdate; refine wpList_mapUpdate_in _ rfl (.tmp 49) (.tmp 50) (.tmp 51) tRows rfl tStr tStr rows_keyed Tryz.underlying66 (plainElem Tryz.prog tStr) M i Di rfl RM.out.2.1 (by unfold maxLen; omega) (strOfB k) (strOfB vv) _ rfl rfl (keyOf_text k (by have := HR.out.2.2.1; omega)) _ [] (elem_text vv (by have := HR.out.2.2.2; omega)) ?_
                       intro w6 own6 turn6
                       have H6 := Lib.hid (And.intro own6 (below_turned turn6 (Nat.le_refl M) (by have := RM.out.2.1.lt; omega)))
                       clear own6 turn6)
          go_roundw
          case rel =>
            obtain ⟨BW, rM, lg2, lM⟩ := RM.out
            have bm := below_base H6.out.2 (by have := rM.lt; omega)
            have hm0 := HM.out
            refine ⟨i + 1, k, _, fi + m', by omega, by go_num, rfl, (H1.out.2.1.later BW).moves bm (fun x hx => by have := H1.out.2.1.lt; omega), H6.out.1, ?_, ?_⟩
            · rw [HR.out.1.eqn, hj, Em.rrows, HRR.out.1]
              simp only
              rw [HRR.out.2, show N - (i + 1) = j by omega]
            · exact ((HR.out.1.mv.trans (H1.out.2.2.mono (O' := fun k => k = g2 ∨ w.heap.size ≤ k) (fun _ h => Or.inl h)) (fun _ _ h => h)).trans (Moves.of_below (O := fun k => k = g2 ∨ w.heap.size ≤ k) BW) (fun _ _ h => h)).trans (bm.mono (fun x hx => Or.inr (by omega))) (fun _ _ h => h)
          case measure => simp [intOf]; omega
    · obtain rfl : i = N := by omega
      rw [Nat.sub_self, HH.out.2.2.1, Em.rrows] at heq
      cases heq

theorem begins_no {w : World} {T g1 g2 : Nat} {at' : Int} {rv : Value} {b0 e0 g0 : Nat} {l : List UInt8} (h : NextAt w g1 g2 l 0) (hl : l.length ≤ 1000000000)
    (hT : w.heap[T]? = some (.cells (tapeC at' g0 rv b0 e0) tTape (0, 0))) (h1 : g1 < T) (h2 : T < g2) (hr : Em.rbegin l = none) :
    Calls Tryz.prog 112 #[.pointer (some ⟨T, 0, none⟩), .func (.func 107) #[] #[.pointer (some ⟨g1, 0, none⟩), .pointer (some ⟨g2, 0, none⟩)]] w fun e w' => e = .panicked gaveUp ∧ Moves (fun k => k = g2) w w' := by
  by_cases hz : ∀ body m0, Wm.split l = some (body, m0) → Em.rhead body = none
  · exact head_no h hl hz
  · obtain ⟨body, hz⟩ := Classical.not_forall.1 hz
    obtain ⟨m0, hz⟩ := Classical.not_forall.1 hz
    obtain ⟨hsp, hz⟩ := Classical.not_imp.1 hz
    cases hh : Em.rhead body with
    | none => exact absurd hh hz
    | some p =>
      obtain ⟨g, N⟩ := p
      refine rows_no h hl hT h1 h2 hsp hh ?_
      unfold Em.rbegin at hr
      rw [hsp] at hr
      simp only at hr
      rw [hh] at hr
      simp only at hr
      cases hrw : Em.rrows l N m0 [] (.map []) with
      | none => rfl
      | some p => rw [hrw] at hr; cases hr

end Go.Proofs.YtgffifleflkjoaaGreat

namespace Go.Proofs.YtgffifleflkjoaaGreat
open Go.RowKit Dm

theorem rrow_ok {last b k v : List UInt8} (h : Em.rrow last b = some (k, v)) : k ≠ [] ∧ k.length ≤ 64 ∧ v.length ≤ 4096 := by
  obtain ⟨ra, rb, hk, ht, hv, hl⟩ := rrow_inv h
  exact ⟨fun e => hl (by rw [e]; exact List.nil_le _), (rtext_len ht).2, (rtext_len hv).2⟩

theorem put_ok {D : Em.Rows} {k v : List UInt8} (h : Em.RowsOk D) (ht : Maps.Tidy D) (h1 : k ≠ []) (h2 : k.length ≤ 64) (h3 : v.length ≤ 4096) :
    Em.RowsOk (D.put (.string k) (.lit (.string v))) ∧ Maps.Tidy (D.put (.string k) (.lit (.string v))) ∧ Maps.size (D.put (.string k) (.lit (.string v))) ≤ Maps.size D + 1 := by
  have e : Em.one D ⟨k, v, false⟩ = D.put (.string k) (.lit (.string v)) := by unfold Em.one; rw [if_neg (by simp)]
  refine ⟨?_, ht.put (show WideAt.IsKeyLit (.string k) from trivial) _, ?_⟩
  · rw [← e]
    refine Em.rowsOk_one h ?_ ?_
    · cases k with
      | nil => exact absurd rfl h1
      | cons a k => rfl
    · unfold Em.Change.long
      simp
      omega
  · rw [Maps.size_put ht]
    split <;> omega

theorem rrows_ok {l : List UInt8} : ∀ {n fin : Nat} {last : List UInt8} {D D' : Em.Rows} {f' : Nat}, Em.rrows l n fin last D = some (D', f') → Em.RowsOk D → Maps.Tidy D → Em.RowsOk D' ∧ Maps.Tidy D' ∧ Maps.size D' ≤ Maps.size D + n
  | 0, fin, last, D, D', f', h, ho, ht => by
    have e : D = D' := congrArg Prod.fst (Option.some.inj h)
    subst e
    exact ⟨ho, ht, Nat.le_refl _⟩
  | n + 1, fin, last, D, D', f', h, ho, ht => by
    rw [Em.rrows] at h
    cases hs : Wm.split (l.drop fin) with
    | none => rw [hs] at h; cases h
    | some p =>
      obtain ⟨body, m⟩ := p
      rw [hs] at h
      simp only at h
      cases hr : Em.rrow last body with
      | none => rw [hr] at h; cases h
      | some p =>
        obtain ⟨k, v⟩ := p
        rw [hr] at h
        simp only at h
        obtain ⟨k1, k2, k3⟩ := rrow_ok hr
        obtain ⟨p1, p2, p3⟩ := put_ok ho ht k1 k2 k3
        obtain ⟨q1, q2, q3⟩ := rrows_ok h p1 p2
        exact ⟨q1, q2, by omega⟩

theorem rbegin_ok {l : List UInt8} {g fin : Nat} {D : Em.Rows} (h : Em.rbegin l = some (g, D, fin)) : Em.RowsOk D ∧ Maps.Tidy D ∧ Maps.size D ≤ 256 ∧ 0 < g ∧ g ≤ 2147483647 := by
  unfold Em.rbegin at h
  cases hs : Wm.split l with
  | none => rw [hs] at h; cases h
  | some p =>
    obtain ⟨body, m⟩ := p
    rw [hs] at h
    simp only at h
    cases hh : Em.rhead body with
    | none => rw [hh] at h; cases h
    | some p =>
      obtain ⟨g', n⟩ := p
      rw [hh] at h
      simp only at h
      cases hr : Em.rrows l n m [] (.map []) with
      | none => rw [hr] at h; cases h
      | some p =>
        obtain ⟨D', f'⟩ := p
        rw [hr] at h
        have e := Option.some.inj h
        have e1 : g' = g := congrArg Prod.fst e
        have e2 : D' = D := congrArg (fun p => p.2.1) e
        subst e1; subst e2
        obtain ⟨ra, rb, hk, hg, hn, hpos⟩ := rhead_inv hh
        obtain ⟨q1, q2, q3⟩ := rrows_ok hr Em.rowsOk_none Maps.tidy_empty
        have := (rnum_len hn).2.1
        have e0 : Maps.size (.map [] : Em.Rows) = 0 := rfl
        exact ⟨q1, q2, by omega, hpos, (rnum_len hg).2.1⟩

theorem rgoes_ok {l : List UInt8} {fin fin' : Nat} {D D' : Em.Rows} (h : Em.rgoes l fin D = some (D', fin')) (ho : Em.RowsOk D) : Em.RowsOk D' ∧ Maps.size D' ≤ 256 ∧ fin < fin' := by
  unfold Em.rgoes at h
  cases hs : Wm.split (l.drop fin) with
  | none => rw [hs] at h; cases h
  | some p =>
    obtain ⟨body, m⟩ := p
    rw [hs] at h
    simp only at h
    cases hb : Em.rbatch body with
    | none => rw [hb] at h; cases h
    | some c =>
      rw [hb] at h
      simp only at h
      by_cases hd : Em.doneErr D c = 0
      · rw [if_pos hd] at h
        have e := Option.some.inj h
        have e1 : Em.behind D c = D' := congrArg Prod.fst e
        have e2 : fin + m = fin' := congrArg Prod.snd e
        subst e1; subst e2
        obtain ⟨k1, k2⟩ := Em.doneErr_zero hd
        exact ⟨Em.rowsOk_behind ho k1, k2, by have := (split_pos hs).1; omega⟩
      · rw [if_neg hd] at h; cases h

/-- What a tape tells. -/
def rtape (l : List UInt8) : Em.T :=
  match Em.rbegin l with
  | none => Em.T.none
  | some (g, D, fin) => ⟨g, (Em.rmore l (l.length + 1) fin D 0).1, (Em.rmore l (l.length + 1) fin D 0).2.1, (Em.rmore l (l.length + 1) fin D 0).2.2⟩

end Go.Proofs.YtgffifleflkjoaaGreat
