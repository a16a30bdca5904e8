/-
  The document's Same.
  DiskCrashes: the calls.
-/
import Derived.Test.YtiefhmbpaoecfaaG29
import Derived.Test.YtiefhmbpaoecfaaG31

namespace Go.Proofs.Ytiefhmbpaoecfaa
open Go.RowKit Dm

/-- Two steps in blocks of their own. -/
def TwoSteps (wr : World) (s t : Step) (s6 s7 : Value) (wx : World) : Prop := ∃ a b : Nat, ∃ u v : Value, s6 = .pointer (some ⟨a, 0, none⟩) ∧ s7 = .pointer (some ⟨b, 0, none⟩) ∧ wx.heap[a]? = some (.cells #[.int .i64 s.what, .int .i64 s.n, .int .i64 s.many, u] tRStep (0, 0)) ∧
  wx.heap[b]? = some (.cells #[.int .i64 t.what, .int .i64 t.n, .int .i64 t.many, v] tRStep (0, 0)) ∧ BytesAt wx.heap (fun _ => True) u s.b ∧ BytesAt wx.heap (fun _ => True) v t.b ∧ Below wr.heap.size wr wx

theorem Below.moves_new {w W W' : World} {a b : Nat} (hb : Below w.heap.size w W) (hm : Moves (fun k => k = a ∨ k = b) W W') (ha : w.heap.size ≤ a) (hb' : w.heap.size ≤ b) : Below w.heap.size w W' :=
  hb.trans ⟨hm.os, hm.tape, hm.output, hm.size, fun k hk => hm.block k (by have := hb.size; omega) (by omega)⟩

/-- A step of the document's, in a row of steps. -/
theorem RStepsAt.spot {w : World} {F : Nat → Prop} {a : Option Addr} {n c : Nat} {l : List Step} (x : RStepsAt w.heap F (.slice a n c) l) {k : Nat} {s : Step} (hs : l[k]? = some s) :
    ∃ b o u, a = some ⟨b, o, none⟩ ∧ b < w.heap.size ∧ w.cell? ⟨b, o + k * 4, none⟩ = some (.int .i64 s.what) ∧ w.cell? ⟨b, o + k * 4 + 1, none⟩ = some (.int .i64 s.n) ∧ w.cell? ⟨b, o + k * 4 + 2, none⟩ = some (.int .i64 s.many) ∧ w.cell? ⟨b, o + k * 4 + 3, none⟩ = some u ∧ BytesAt w.heap (fun _ => True) u s.b := by
  rcases x with ⟨h1, h2⟩ | ⟨b, o, cap, c', tt, fr, h1, h2, h3, g2, g3, g4⟩
  · rw [h2] at hs; simp at hs
  · obtain ⟨w0, w1, w2, u, e0, e1, e2, e3, rfl, rfl, rfl, e4⟩ := g4 k s hs
    exact ⟨b, o, u, (Value.slice.inj h1).1, lt_of_row g3, row_cell g3 e0, row_cell g3 e1, row_cell g3 e2, row_cell g3 e3, e4.keeps (fun _ _ _ => rfl) (fun _ _ _ => trivial)⟩

theorem RStepsAt.len {h : Array Obj} {F : Nat → Prop} {v : Value} {l : List Step} (x : RStepsAt h F v l) : l.length ≤ 9223372036854775807 := by
  rcases x with ⟨_, rfl⟩ | ⟨b, o, cap, c, t, fr, _, h1, h2, _⟩
  · simp
  · omega

abbrev rstep0 : Array Value := #[.int .i64 0, .int .i64 0, .int .i64 0, .slice none 0 0]


set_option maxRecDepth 100000 in
set_option maxHeartbeats 8000000 in
theorem rsame_c {w : World} {F G : Nat → Prop} {v v' : Value} {d k : D} (r : RefAt w.heap F v d) (r' : RefAt w.heap G v' k) (hm : d.many ≤ 4096) (hm' : k.many ≤ 4096) :
    Calls Try.prog 31 #[v, v'] w fun e w' => ∃ b : Bool, e = .returned (.bool b) ∧ (b = true ↔ SameD d k) ∧ Below w.heap.size w w' := by
  obtain ⟨sv, t0, t1, t2, t3, wv, rfl, rb, st⟩ := r
  obtain ⟨su, u0, u1, u2, u3, wu, rfl, rb', st'⟩ := r'
  obtain ⟨wa, wcp, rfl, _, _⟩ := st.slice
  obtain ⟨wb, wd, rfl, _, _⟩ := st'.slice
  have hlen := st.len
  obtain ⟨nx, hnx⟩ : ∃ n, d.waits.length = n := ⟨_, rfl⟩
  obtain ⟨ny, hny⟩ : ∃ n, k.waits.length = n := ⟨_, rfl⟩
  rw [hnx] at st hlen ⊢
  rw [hny] at st' ⊢
  have hb0 : Below w.heap.size w ((w.alloc (.cells (refC d.many d.room sv t0 t1 t2 t3 (.slice wa nx wcp) d.dead d.stops) tRDisk)).alloc (.cells (refC k.many k.room su u0 u1 u2 u3 (.slice wb ny wd) k.dead k.stops) tRDisk)) := ((Below.refl _ _).alloc (Nat.le_refl _) _).alloc (by simp) _
  have q0 : ((w.alloc (.cells (refC d.many d.room sv t0 t1 t2 t3 (.slice wa nx wcp) d.dead d.stops) tRDisk)).alloc (.cells (refC k.many k.room su u0 u1 u2 u3 (.slice wb ny wd) k.dead k.stops) tRDisk)).heap[w.heap.size]? = some (.cells (refC d.many d.room sv t0 t1 t2 t3 (.slice wa nx wcp) d.dead d.stops) tRDisk (0, 0)) := (Below.heap_alloc _ _ _ (by simp)).trans (heap_alloc_last w _)
  have q1 : ((w.alloc (.cells (refC d.many d.room sv t0 t1 t2 t3 (.slice wa nx wcp) d.dead d.stops) tRDisk)).alloc (.cells (refC k.many k.room su u0 u1 u2 u3 (.slice wb ny wd) k.dead k.stops) tRDisk)).heap[w.heap.size + 1]? = some (.cells (refC k.many k.room su u0 u1 u2 u3 (.slice wb ny wd) k.dead k.stops) tRDisk (0, 0)) := heap_at (w := w.alloc _) _ (by simp)
  obtain ⟨W0, hW0⟩ : ∃ W0, (w.alloc (.cells (refC d.many d.room sv t0 t1 t2 t3 (.slice wa nx wcp) d.dead d.stops) tRDisk)).alloc (.cells (refC k.many k.room su u0 u1 u2 u3 (.slice wb ny wd) k.dead k.stops) tRDisk) = W0 := ⟨_, rfl⟩
  rw [hW0] at hb0 q0 q1
  have a0 : W0.cell? ⟨w.heap.size, 0, none⟩ = some (.int .i64 d.many) := row_cell q0 rfl
  have a1 : W0.cell? ⟨w.heap.size, 1, none⟩ = some (.int .i64 d.room) := row_cell q0 rfl
  have a2 : W0.cell? ⟨w.heap.size, 2, none⟩ = some sv := row_cell q0 rfl
  have a3 : W0.cell? ⟨w.heap.size, 3, none⟩ = some t0 := row_cell q0 rfl
  have a4 : W0.cell? ⟨w.heap.size, 4, none⟩ = some t1 := row_cell q0 rfl
  have a5 : W0.cell? ⟨w.heap.size, 5, none⟩ = some t2 := row_cell q0 rfl
  have a6 : W0.cell? ⟨w.heap.size, 6, none⟩ = some t3 := row_cell q0 rfl
  have a7 : W0.cell? ⟨w.heap.size, 7, none⟩ = some (.slice wa nx wcp) := row_cell q0 rfl
  have a8 : W0.cell? ⟨w.heap.size, 8, none⟩ = some (.bool d.dead) := row_cell q0 rfl
  have a9 : W0.cell? ⟨w.heap.size, 9, none⟩ = some (.int .i64 d.stops) := row_cell q0 rfl
  have b0 : W0.cell? ⟨w.heap.size + 1, 0, none⟩ = some (.int .i64 k.many) := row_cell q1 rfl
  have b1 : W0.cell? ⟨w.heap.size + 1, 1, none⟩ = some (.int .i64 k.room) := row_cell q1 rfl
  have b2 : W0.cell? ⟨w.heap.size + 1, 2, none⟩ = some su := row_cell q1 rfl
  have b3 : W0.cell? ⟨w.heap.size + 1, 3, none⟩ = some u0 := row_cell q1 rfl
  have b4 : W0.cell? ⟨w.heap.size + 1, 4, none⟩ = some u1 := row_cell q1 rfl
  have b5 : W0.cell? ⟨w.heap.size + 1, 5, none⟩ = some u2 := row_cell q1 rfl
  have b6 : W0.cell? ⟨w.heap.size + 1, 6, none⟩ = some u3 := row_cell q1 rfl
  have b7 : W0.cell? ⟨w.heap.size + 1, 7, none⟩ = some (.slice wb ny wd) := row_cell q1 rfl
  have b8 : W0.cell? ⟨w.heap.size + 1, 8, none⟩ = some (.bool k.dead) := row_cell q1 rfl
  have b9 : W0.cell? ⟨w.heap.size + 1, 9, none⟩ = some (.int .i64 k.stops) := row_cell q1 rfl
  have SB := Lib.hid (sameBytes_c (w := W0) (rb.keeps (F' := fun _ => True) (fun k _ hl => hb0.block k hl) (fun _ _ _ => trivial)) (rb'.keeps (F' := fun _ => True) (fun k _ hl => hb0.block k hl) (fun _ _ _ => trivial)) hm hm')
  have ST := Lib.hid (And.intro (st.keeps (F' := F) (h' := W0.heap) (fun k _ hl => hb0.block k hl) (fun _ h _ => h)) (st'.keeps (F' := G) (h' := W0.heap) (fun k _ hl => hb0.block k hl) (fun _ h _ => h)))
  have Q := Lib.hid (And.intro hb0 (And.intro q0 (And.intro q1 (And.intro hnx hny))))
  clear rb rb' st st' hb0 q0 q1 hnx hny hm hm'
  have no : ∀ W' : World, Below w.heap.size w W' → ¬ SameD d k → ∃ b : Bool, Ending.returned (.bool false) = .returned (.bool b) ∧ (b = true ↔ SameD d k) ∧ Below w.heap.size w W' := fun W' hb h => ⟨false, rfl, ⟨fun q => (by cases q), fun q => absurd q h⟩, hb⟩
  have NO := Lib.hid no
  clear no
  by_cases h1 : d.many = k.many
  · have N1 := Lib.hid h1
    have e1 : (d.many != k.many) = false := by simpa using h1
    clear h1
    by_cases h2 : d.room = k.room
    · have N2 := Lib.hid h2
      have e2 : (d.room != k.room) = false := by simpa using h2
      clear h2
      by_cases h3 : d.dead = k.dead
      · have N3 := Lib.hid h3
        have e3 : (d.dead != k.dead) = false := by simpa using h3
        clear h3
        by_cases h4 : d.stops = k.stops
        · have N4 := Lib.hid h4
          have e4 : (d.stops != k.stops) = false := by simpa using h4
          clear h4
          by_cases h5 : nx = ny
          · subst h5
            go_enter Try.func31, Try.ntmps31
            go_upto_region 1 with fail
            clear hW0
            go_upto_region 3 with (go_at_call 57; refine SB.out.mono ?_; rintro e W1 ⟨rs, rfl, hrs, hb1⟩; have R1 := Lib.hid (And.intro hrs hb1); clear hrs hb1; cases rs)
            · go_ret
              exact NO.out _ (Q.out.1.trans (R1.out.2.mono Q.out.1.size)) (fun h => by have := R1.out.1.2 ⟨h.2.2.2.2.2.1, h.2.2.2.2.2.2⟩; cases this)
            · clear a0 a1 a2 a3 a4 a5 a6 a7 a8 a9 b0 b1 b2 b3 b4 b5 b6 b7 b8 b9 e1 e2 e3 e4 SB
              go_wp2
              go_loopg [5, 6, 7] nx (fun g s5 s6 s7 wr => ∃ i : Nat, s5 = .int .i64 (i : Int) ∧ g + i = nx ∧ Below W0.heap.size W0 wr ∧ ∀ j : Nat, j < i → d.waits[j]? = k.waits[j]?)
              case atStart => exact ⟨0, rfl, rfl, R1.out.2, fun j h => absurd h (by omega)⟩
              case round =>
                obtain ⟨i, rfl, hg, rel, hall⟩ := hrel
                have kS : wr.cell? ⟨w.heap.size, 7, none⟩ = some (.slice wa nx wcp) := row_cell ((rel.block _ (lt_of_row Q.out.2.1)).trans Q.out.2.1) rfl
                by_cases hlt : i < nx
                · have hi0 : (0 : Int) ≤ (i : Int) := by omega
                  have hi1 : (i : Int) < (nx : Int) := by omega
                  obtain ⟨s, hs⟩ : ∃ s, d.waits[i]? = some s := ⟨_, List.getElem?_eq_getElem (by rw [Q.out.2.2.2.1]; exact hlt)⟩
                  obtain ⟨t, ht⟩ : ∃ t, k.waits[i]? = some t := ⟨_, List.getElem?_eq_getElem (by rw [Q.out.2.2.2.2]; exact hlt)⟩
                  obtain ⟨b, o, u, rfl, hbl, c0, c1, c2, c3, bu⟩ := ST.out.1.spot hs
                  obtain ⟨b', o', u', rfl, hbl', c0', c1', c2', c3', bu'⟩ := ST.out.2.spot ht
                  have kT : wr.cell? ⟨w.heap.size + 1, 7, none⟩ = some (.slice (some ⟨b', o', none⟩) nx wd) := row_cell ((rel.block _ (lt_of_row Q.out.2.2.1)).trans Q.out.2.2.1) rfl
                  have ne : Nonempty (Wd (Below wr.heap.size wr)) := ⟨⟨wr, Below.refl _ _⟩⟩
                  have g : ∀ (q n : Nat) (v : Value), q < W0.heap.size → W0.cell? ⟨q, n, none⟩ = some v → ∀ x : Wd (Below wr.heap.size wr), x.world.cell? ⟨q, n, none⟩ = some v := fun q n v hq h x => (x.ok.cell (p := ⟨q, n, none⟩) (show q < wr.heap.size by have := rel.size; omega)).trans ((rel.cell (p := ⟨q, n, none⟩) hq).trans h)
                  have x0 := g b _ _ hbl c0
                  have x1 := g b _ _ hbl c1
                  have x2 := g b _ _ hbl c2
                  have x3 := g b _ _ hbl c3
                  have y0 := g b' _ _ hbl' c0'
                  have y1 := g b' _ _ hbl' c1'
                  have y2 := g b' _ _ hbl' c2'
                  have y3 := g b' _ _ hbl' c3'
                  have z0 : ∀ x : Wd (Below wr.heap.size wr), x.world.cell? ⟨w.heap.size, 7, none⟩ = some (.slice (some ⟨b, o, none⟩) nx wcp) := fun x => (x.ok.cell (p := ⟨w.heap.size, 7, none⟩) (show w.heap.size < wr.heap.size by have := lt_of_row Q.out.2.1; have := rel.size; omega)).trans kS
                  have z1 : ∀ x : Wd (Below wr.heap.size wr), x.world.cell? ⟨w.heap.size + 1, 7, none⟩ = some (.slice (some ⟨b', o', none⟩) nx wd) := fun x => (x.ok.cell (p := ⟨w.heap.size + 1, 7, none⟩) (show w.heap.size + 1 < wr.heap.size by have := lt_of_row Q.out.2.2.1; have := rel.size; omega)).trans kT
                  obtain ⟨va, vc, rfl⟩ := bu.slice
                  obtain ⟨va', vc', rfl⟩ := bu'.slice
                  have BY := Lib.hid (And.intro bu bu')
                  have XS : Hid ((Value.slice va s.b.length vc).oneCell' = true ∧ (Value.slice va' t.b.length vc').oneCell' = true) := Lib.hid ⟨rfl, rfl⟩
                  have H := Lib.hid (And.intro hg (And.intro hall (And.intro (And.intro hs ht) rel)))
                  clear g c0 c1 c2 c3 c0' c1' c2' c3' hbl hbl' bu bu' hs ht hg rel hall kT
                  go_upto_region 6 with fail
                  clear kS
                  go_cut [6, 7] (fun s6 s7 wx => TwoSteps wr s t s6 s7 wx)
                  case first =>
                    refine wp_region_hoist (fun w' => ∃ x : Wd (Below wr.heap.size wr), w' = x.world) [13] (by kernel_rfl) ?_
                    refine wpAnyI_reads [0, 1, 2, 3, 4, 5, 6, 7, 8, 9] 4 _ ⟨⟨_, (Below.refl _ _).drew⟩, rfl⟩ (by kernel_rfl) ?_
                    simp only [List.filterMap_cons, List.filterMap_nil, List.getElem?_toArray, List.getElem?_cons_succ, List.getElem?_cons_zero]
                    iterate 10 (with_reducible refine wpHoist_step (fun K hK => ?_); simp only [hoists, sameUpon]; go_simp; refine hK _ ?_; clear hK K)
                    with_reducible refine wpHoist_nil ?_
                    refine wpAnyI_two 10 11 3 _ _ _ rfl rfl (by kernel_rfl) ?_ ?_
                    · refine wpList_plain rfl fun K hK => ?_
                      go_simp
                      refine hK _ _ (wpList_nil ⟨rfl, fun _ => ⟨⟨_, ((Below.refl wr.heap.size wr).drew.alloc (Nat.le_refl _) (.cells #[.int .i64 0, .int .i64 0, .int .i64 0, .slice none 0 0] tRStep))⟩, rfl⟩, ?_⟩)
                      clear hK K
                      refine wpAnyI_one 11 2 _ _ rfl (by kernel_rfl) ?_
                      refine wpList_plain rfl fun K hK => ?_
                      go_simp
                      have hbA : Below wr.heap.size wr (((wr.alloc (.cells #[.int .i64 0, .int .i64 0, .int .i64 0, .slice none 0 0] 97)).alloc (.cells #[.int .i64 0, .int .i64 0, .int .i64 0, .slice none 0 0] 97)).drew) := (((Below.refl wr.heap.size wr).alloc (Nat.le_refl _) _).alloc (by simp) _).drew
                      have ra : (((wr.alloc (.cells #[.int .i64 0, .int .i64 0, .int .i64 0, .slice none 0 0] 97)).alloc (.cells #[.int .i64 0, .int .i64 0, .int .i64 0, .slice none 0 0] 97)).drew).heap[wr.heap.size]? = some (.cells #[.int .i64 0, .int .i64 0, .int .i64 0, .slice none 0 0] tRStep (0, 0)) := (Below.heap_alloc _ _ _ (by simp)).trans (heap_alloc_last wr _)
                      have rb : (((wr.alloc (.cells #[.int .i64 0, .int .i64 0, .int .i64 0, .slice none 0 0] 97)).alloc (.cells #[.int .i64 0, .int .i64 0, .int .i64 0, .slice none 0 0] 97)).drew).heap[wr.heap.size + 1]? = some (.cells #[.int .i64 0, .int .i64 0, .int .i64 0, .slice none 0 0] tRStep (0, 0)) := heap_at (w := wr.alloc (.cells #[.int .i64 0, .int .i64 0, .int .i64 0, .slice none 0 0] 97)) _ (by simp)
                      refine hK _ _ (wpList_nil ⟨rfl, fun _ => ⟨⟨_, hbA⟩, rfl⟩, ?_⟩)
                      clear hK K
                      obtain ⟨WA, hWA⟩ : ∃ WA, ((wr.alloc (.cells #[.int .i64 0, .int .i64 0, .int .i64 0, .slice none 0 0] 97)).alloc (.cells #[.int .i64 0, .int .i64 0, .int .i64 0, .slice none 0 0] 97)).drew = WA := ⟨_, rfl⟩
                      try simp only [World.size_alloc]
                      rw [hWA] at ra rb hbA ⊢
                      clear hWA
                      refine wpAnyI_one 12 1 _ _ rfl (by kernel_rfl) ?_
                      refine wpList_store_abs rfl tRStep (.tmp 6) (.tmp 62) rfl (wr.heap.size) _ rfl rfl tRStep #[.int .i64 0, .int .i64 0, .int .i64 0, .slice none 0 0] ra (by kernel_rfl) rfl (by simp [Value.oneCell', XS.out.1, XS.out.2]) ?_
                      intro WB HWB HMB HSB
                      have rb2 := (HMB.block _ (lt_of_row rb) (by omega)).trans rb
                      have hbB := Moves.new hbA HMB (by omega)
                      refine wpList_nil ⟨rfl, fun _ => ⟨⟨_, hbB⟩, rfl⟩, ?_⟩
                      refine wpAnyI_one 13 0 _ _ rfl (by kernel_rfl) ?_
                      refine wpList_store_abs rfl tRStep (.tmp 7) (.tmp 67) rfl (wr.heap.size + 1) _ rfl rfl tRStep #[.int .i64 0, .int .i64 0, .int .i64 0, .slice none 0 0] rb2 (by kernel_rfl) rfl (by simp [Value.oneCell', XS.out.1, XS.out.2]) ?_
                      intro WC HWC HMC HSC
                      have fin : TwoSteps wr s t (.pointer (some ⟨wr.heap.size, 0, none⟩)) (.pointer (some ⟨wr.heap.size + 1, 0, none⟩)) WC := by
                        have hm : Moves (fun k => k = wr.heap.size ∨ k = wr.heap.size + 1) WA WC := (HMB.mono (fun k h => Or.inl h)).trans (HMC.mono (fun k h => Or.inr h)) (fun _ _ h => h)
                        have hbC := Below.moves_new hbA hm (by omega) (by omega)
                        exact ⟨_, _, _, _, rfl, rfl, (HMC.block _ (lt_of_row HWB.out) (by omega)).trans HWB.out, HWC.out, (BY.out.1.below H.out.2.2.2).below hbC, (BY.out.2.below H.out.2.2.2).below hbC, hbC⟩
                      have FIN := Lib.hid fin
                      clear fin HWB HMB HSB HWC HMC HSC rb2 ra rb hbA hbB
                      refine wpList_nil ⟨rfl, fun h => absurd (by decide) h, by kernel_rfl, ?_⟩
                      go_wp2
                      go_meet
                      exact FIN.out
                    · refine wpList_plain rfl fun K hK => ?_
                      go_simp
                      refine hK _ _ (wpList_nil ⟨rfl, fun _ => ⟨⟨_, ((Below.refl wr.heap.size wr).drew.alloc (Nat.le_refl _) (.cells #[.int .i64 0, .int .i64 0, .int .i64 0, .slice none 0 0] tRStep))⟩, rfl⟩, ?_⟩)
                      clear hK K
                      refine wpAnyI_one 10 2 _ _ rfl (by kernel_rfl) ?_
                      refine wpList_plain rfl fun K hK => ?_
                      go_simp
                      have hbA : Below wr.heap.size wr (((wr.alloc (.cells #[.int .i64 0, .int .i64 0, .int .i64 0, .slice none 0 0] 97)).alloc (.cells #[.int .i64 0, .int .i64 0, .int .i64 0, .slice none 0 0] 97)).drew) := (((Below.refl wr.heap.size wr).alloc (Nat.le_refl _) _).alloc (by simp) _).drew
                      have ra : (((wr.alloc (.cells #[.int .i64 0, .int .i64 0, .int .i64 0, .slice none 0 0] 97)).alloc (.cells #[.int .i64 0, .int .i64 0, .int .i64 0, .slice none 0 0] 97)).drew).heap[wr.heap.size + 1]? = some (.cells #[.int .i64 0, .int .i64 0, .int .i64 0, .slice none 0 0] tRStep (0, 0)) := heap_at (w := wr.alloc (.cells #[.int .i64 0, .int .i64 0, .int .i64 0, .slice none 0 0] 97)) _ (by simp)
                      have rb : (((wr.alloc (.cells #[.int .i64 0, .int .i64 0, .int .i64 0, .slice none 0 0] 97)).alloc (.cells #[.int .i64 0, .int .i64 0, .int .i64 0, .slice none 0 0] 97)).drew).heap[wr.heap.size]? = some (.cells #[.int .i64 0, .int .i64 0, .int .i64 0, .slice none 0 0] tRStep (0, 0)) := (Below.heap_alloc _ _ _ (by simp)).trans (heap_alloc_last wr _)
                      refine hK _ _ (wpList_nil ⟨rfl, fun _ => ⟨⟨_, hbA⟩, rfl⟩, ?_⟩)
                      clear hK K
                      obtain ⟨WA, hWA⟩ : ∃ WA, ((wr.alloc (.cells #[.int .i64 0, .int .i64 0, .int .i64 0, .slice none 0 0] 97)).alloc (.cells #[.int .i64 0, .int .i64 0, .int .i64 0, .slice none 0 0] 97)).drew = WA := ⟨_, rfl⟩
                      try simp only [World.size_alloc]
                      rw [hWA] at ra rb hbA ⊢
                      clear hWA
                      refine wpAnyI_one 12 1 _ _ rfl (by kernel_rfl) ?_
                      refine wpList_store_abs rfl tRStep (.tmp 6) (.tmp 62) rfl (wr.heap.size + 1) _ rfl rfl tRStep #[.int .i64 0, .int .i64 0, .int .i64 0, .slice none 0 0] ra (by kernel_rfl) rfl (by simp [Value.oneCell', XS.out.1, XS.out.2]) ?_
                      intro WB HWB HMB HSB
                      have rb2 := (HMB.block _ (lt_of_row rb) (by omega)).trans rb
                      have hbB := Moves.new hbA HMB (by omega)
                      refine wpList_nil ⟨rfl, fun _ => ⟨⟨_, hbB⟩, rfl⟩, ?_⟩
                      refine wpAnyI_one 13 0 _ _ rfl (by kernel_rfl) ?_
                      refine wpList_store_abs rfl tRStep (.tmp 7) (.tmp 67) rfl (wr.heap.size) _ rfl rfl tRStep #[.int .i64 0, .int .i64 0, .int .i64 0, .slice none 0 0] rb2 (by kernel_rfl) rfl (by simp [Value.oneCell', XS.out.1, XS.out.2]) ?_
                      intro WC HWC HMC HSC
                      have fin : TwoSteps wr s t (.pointer (some ⟨wr.heap.size + 1, 0, none⟩)) (.pointer (some ⟨wr.heap.size, 0, none⟩)) WC := by
                        have hm : Moves (fun k => k = wr.heap.size + 1 ∨ k = wr.heap.size) WA WC := (HMB.mono (fun k h => Or.inl h)).trans (HMC.mono (fun k h => Or.inr h)) (fun _ _ h => h)
                        have hbC := Below.moves_new hbA hm (by omega) (by omega)
                        exact ⟨_, _, _, _, rfl, rfl, (HMC.block _ (lt_of_row HWB.out) (by omega)).trans HWB.out, HWC.out, (BY.out.1.below H.out.2.2.2).below hbC, (BY.out.2.below H.out.2.2.2).below hbC, hbC⟩
                      have FIN := Lib.hid fin
                      clear fin HWB HMB HSB HWC HMC HSC rb2 ra rb hbA hbB
                      refine wpList_nil ⟨rfl, fun h => absurd (by decide) h, by kernel_rfl, ?_⟩
                      go_wp2
                      go_meet
                      exact FIN.out
                  case rest =>
                    clear x0 x1 x2 x3 y0 y1 y2 y3 z0 z1 ne
                    obtain ⟨a1, a2, v1, v2, rfl, rfl, r1, r2, w1, w2, hbc⟩ := hcut
                    have p0 : wc.cell? ⟨a1, 0, none⟩ = some (.int .i64 s.what) := row_cell r1 rfl
                    have p1 : wc.cell? ⟨a1, 1, none⟩ = some (.int .i64 s.n) := row_cell r1 rfl
                    have p2 : wc.cell? ⟨a1, 2, none⟩ = some (.int .i64 s.many) := row_cell r1 rfl
                    have p3 : wc.cell? ⟨a1, 3, none⟩ = some v1 := row_cell r1 rfl
                    have q0 : wc.cell? ⟨a2, 0, none⟩ = some (.int .i64 t.what) := row_cell r2 rfl
                    have q1 : wc.cell? ⟨a2, 1, none⟩ = some (.int .i64 t.n) := row_cell r2 rfl
                    have q2 : wc.cell? ⟨a2, 2, none⟩ = some (.int .i64 t.many) := row_cell r2 rfl
                    have q3 : wc.cell? ⟨a2, 3, none⟩ = some v2 := row_cell r2 rfl
                    have c1 := run_string_of w1
                    have c2 := run_string_of w2
                    obtain ⟨sl1, sc1, rfl⟩ := w1.slice
                    obtain ⟨sl2, sc2, rfl⟩ := w2.slice
                    generalize s.b.length = sn at *
                    generalize t.b.length = tn at *
                    have hbw : Below w.heap.size w wc := Q.out.1.trans ((H.out.2.2.2.trans (hbc.mono H.out.2.2.2.size)).mono Q.out.1.size)
                    have HB := Lib.hid (And.intro hbw (H.out.2.2.2.trans (hbc.mono H.out.2.2.2.size)))
                    have DIFF : Hid (¬ s = t → ¬ SameD d k) := Lib.hid (fun hne hsame => hne (by
                      have e1 := H.out.2.2.1.1
                      rw [hsame.2.2.2.2.1, H.out.2.2.1.2] at e1
                      exact (Option.some.inj e1).symm))
                    clear hbc hbw w1 w2 r1 r2
                    by_cases g1 : s.what = t.what
                    · by_cases g2 : s.n = t.n
                      · by_cases g3 : s.many = t.many
                        · by_cases g4 : s.b = t.b
                          · have E := Lib.hid ((Step.same_iff s t).2 ⟨⟨g1, g2, g3⟩, g4⟩)
                            rw [g4] at c1
                            have g1' : (s.what != t.what) = false := by simpa using g1
                            have g2' : (s.n != t.n) = false := by simpa using g2
                            have g3' : (s.many != t.many) = false := by simpa using g3
                            clear g1 g2 g3 g4
                            go_wp2
                            go_roundg (nx - (i + 1))
                            case measure => have := H.out.1; omega
                            case rel => exact ⟨i + 1, by go_num, by have := H.out.1; omega, HB.out.2, fun j hj => by
                              by_cases hji : j < i
                              · exact H.out.2.1 j hji
                              · obtain rfl : j = i := by omega
                                rw [H.out.2.2.1.1, H.out.2.2.1.2, E.out]⟩
                          · have E := Lib.hid (DIFF.out (fun e => g4 (by rw [e])))
                            have g1' : (s.what != t.what) = false := by simpa using g1
                            have g2' : (s.n != t.n) = false := by simpa using g2
                            have g3' : (s.many != t.many) = false := by simpa using g3
                            have g4' : (s.b == t.b) = false := by simpa using g4
                            have g4'' : (s.b != t.b) = true := by simpa using g4
                            clear g1 g2 g3 g4
                            go_wp2
                            go_ret
                            exact NO.out _ HB.out.1 E.out
                        · have E := Lib.hid (DIFF.out (fun e => g3 (by rw [e])))
                          have g1' : (s.what != t.what) = false := by simpa using g1
                          have g2' : (s.n != t.n) = false := by simpa using g2
                          have g3' : (s.many != t.many) = true := by simpa using g3
                          clear g1 g2 g3
                          go_wp2
                          go_ret
                          exact NO.out _ HB.out.1 E.out
                      · have E := Lib.hid (DIFF.out (fun e => g2 (by rw [e])))
                        have g1' : (s.what != t.what) = false := by simpa using g1
                        have g2' : (s.n != t.n) = true := by simpa using g2
                        clear g1 g2
                        go_wp2
                        go_ret
                        exact NO.out _ HB.out.1 E.out
                    · have E := Lib.hid (DIFF.out (fun e => g1 (by rw [e])))
                      have g1' : (s.what != t.what) = true := by simpa using g1
                      clear g1
                      go_wp2
                      go_ret
                      exact NO.out _ HB.out.1 E.out
                · obtain rfl : i = nx := by omega
                  have FN := Lib.hid (And.intro rel hall)
                  clear rel hall hg
                  go_wp2
                  go_ret
                  refine ⟨true, rfl, ⟨fun _ => ⟨N1.out, N2.out, N3.out, N4.out, List.ext_getElem? (fun j => ?_), R1.out.1.1 trivial⟩, fun _ => rfl⟩, Q.out.1.trans (FN.out.1.mono Q.out.1.size)⟩
                  by_cases hj : j < i
                  · exact FN.out.2 j hj
                  · rw [List.getElem?_eq_none (by rw [Q.out.2.2.2.1]; omega), List.getElem?_eq_none (by rw [Q.out.2.2.2.2]; omega)]
          · have e5 : ((nx : Int) != (ny : Int)) = true := by rw [bne_iff_ne]; omega
            have N5 := Lib.hid h5
            clear h5
            go_enter Try.func31, Try.ntmps31
            go_upto_region 1 with fail
            clear hW0
            go_wp2
            go_ret
            exact NO.out _ Q.out.1 (fun h => N5.out (by rw [← Q.out.2.2.2.1, ← Q.out.2.2.2.2, h.2.2.2.2.1]))
        · have e4 : (d.stops != k.stops) = true := by simpa using h4
          have N4 := Lib.hid h4
          clear h4
          go_enter Try.func31, Try.ntmps31
          go_upto_region 1 with fail
          clear hW0
          go_wp2
          go_ret
          exact NO.out _ Q.out.1 (fun h => N4.out h.2.2.2.1)
      · have e3 : (d.dead != k.dead) = true := by simpa using h3
        have N3 := Lib.hid h3
        clear h3
        go_enter Try.func31, Try.ntmps31
        go_upto_region 1 with fail
        clear hW0
        go_wp2
        go_ret
        exact NO.out _ Q.out.1 (fun h => N3.out h.2.2.1)
    · have e2 : (d.room != k.room) = true := by simpa using h2
      have N2 := Lib.hid h2
      clear h2
      go_enter Try.func31, Try.ntmps31
      go_upto_region 1 with fail
      clear hW0
      go_wp2
      go_ret
      exact NO.out _ Q.out.1 (fun h => N2.out h.2.1)
  · have e1 : (d.many != k.many) = true := by simpa using h1
    have N1 := Lib.hid h1
    clear h1
    go_enter Try.func31, Try.ntmps31
    go_upto_region 1 with fail
    clear hW0
    go_wp2
    go_ret
    exact NO.out _ Q.out.1 (fun h => N1.out h.1)

end Go.Proofs.Ytiefhmbpaoecfaa

namespace Go.Proofs.Ytiefhmbpaoecfaa
open Go.RowKit Dm

/-- An act's cells, to be loaded whole. -/
theorem ActsAt.row {w : World} {v : Value} {l : List ActM} (x : ActsAt w.heap v l) {i : Nat} {y : ActM} (hi : l[i]? = some y) : ∃ b o cap bv kv, v = .slice (some ⟨b, o, none⟩) l.length cap ∧ b < w.heap.size ∧
    w.rangeAt b (o + i * 8) [.int .i64 y.what, .int .i64 y.sec, .int .i64 y.n, bv, .bool y.raw, kv, .int .i64 y.crash.torn, .int .i64 y.crash.part] ∧ BytesIn w.heap (fun _ => True) bv y.b ∧ BoolsAt w.heap kv y.crash.keep ∧ y.ok := by
  rcases x with ⟨_, rfl⟩ | ⟨b, o, cap, c, t, fr, h1, h2, h3⟩
  · simp at hi
  · obtain ⟨bv, kv, e0, e1, e2, e3, e4, e5, e6, e7, e8, e9, e10⟩ := h3 i y hi
    refine ⟨b, o, cap, bv, kv, h1, lt_of_row h2, fun j u hj => ?_, e8, e9, e10⟩
    rw [cell_of_row _ _ _ _ _ _ h2]
    match j, hj with
    | 0, hj => cases hj; exact e0
    | 1, hj => cases hj; exact e1
    | 2, hj => cases hj; exact e2
    | 3, hj => cases hj; exact e3
    | 4, hj => cases hj; exact e4
    | 5, hj => cases hj; exact e5
    | 6, hj => cases hj; exact e6
    | 7, hj => cases hj; exact e7
    | n + 8, hj => cases hj

theorem infoAct : (Try.prog.info? tAct).map (·.size) = some 8 := by kernel_rfl
theorem infoPtr : (Try.prog.info? tPtr).map (fun i => (i.zero, i.size, i.bytes)) = some (some (.pointer none), 1, 8) := by kernel_rfl

theorem fewB_small {l : List ActM} {most : Int} (h : fewB l most = true) : (∀ y ∈ l, y.small = true) ∧ (l.length : Int) ≤ most := by
  simp only [fewB, Bool.and_eq_true, decide_eq_true_eq, List.all_eq_true] at h
  exact h

set_option maxRecDepth 100000 in
/-- Too many calls: only the chapter's rows. -/
theorem crashes_many {v kv : Value} {l : List ActM} {c : Crash} {w : World} (hv : ActsAt w.heap v l) (hk : BoolsAt w.heap kv c.keep) (hl : l.length ≤ 9223372036854775807) (hkl : c.keep.length ≤ 9223372036854775807) (hf : fewB l 30 = false ∨ ¬ c.keep.length ≤ 40) :
    Calls Try.prog 3 #[v, .agg #[kv, .int .i64 c.torn, .int .i64 c.part]] w fun e w' => e = .returned (.bool true) ∧ Below w.heap.size w w' := by
  obtain ⟨ka, kcap, rfl⟩ := hk.slice
  have hb0 : Below w.heap.size w (w.alloc (.cells #[.slice ka c.keep.length kcap, .int .i64 c.torn, .int .i64 c.part] tCrash)) := (Below.refl _ _).alloc (Nat.le_refl _) _
  have FW := Lib.hid (few_c (hv.keeps (fun k hl => hb0.block k hl)) 30 hl)
  have WK := Lib.hid (works_c (w.alloc (.cells #[.slice ka c.keep.length kcap, .int .i64 c.torn, .int .i64 c.part] tCrash)))
  have HB := Lib.hid hb0
  have hkl1 : (c.keep.length : Int) ≤ 9223372036854775807 := by omega
  clear hv hk hb0
  by_cases h1 : fewB l 30 = true
  · have h2 : ¬ c.keep.length ≤ 40 := by rcases hf with h | h; rw [h1] at h; cases h; exact h
    rw [h1] at FW
    generalize c.keep.length = n at *
    clear h1 hf
    have h3 : 40 < n := by omega
    go_enter Try.func3, Try.ntmps3
    go_wp2_with (first
      | (go_at_call 6; refine FW.out.mono ?_; rintro e w' ⟨rfl, rfl⟩)
      | (go_at_call 7; refine WK.out.mono ?_; rintro e w2 ⟨rfl, hb2⟩))
    go_ret
    exact ⟨rfl, HB.out.trans (hb2.mono HB.out.size)⟩
  · have h1' : fewB l 30 = false := by simpa using h1
    rw [h1'] at FW
    clear h1 h1' hf
    go_enter Try.func3, Try.ntmps3
    go_wp2_with (first
      | (go_at_call 6; refine FW.out.mono ?_; rintro e w' ⟨rfl, rfl⟩)
      | (go_at_call 7; refine WK.out.mono ?_; rintro e w2 ⟨rfl, hb2⟩))
    go_ret
    exact ⟨rfl, HB.out.trans (hb2.mono HB.out.size)⟩

end Go.Proofs.Ytiefhmbpaoecfaa
