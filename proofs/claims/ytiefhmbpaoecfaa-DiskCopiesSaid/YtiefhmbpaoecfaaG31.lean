/-
  The document's Same: what stands.
-/
import Derived.Test.YtiefhmbpaoecfaaG17
import Derived.Test.YtiefhmbpaoecfaaG30

namespace Go.Proofs.Ytiefhmbpaoecfaa
open Go.RowKit Dm

theorem SecsAt.at {w : World} {F : Nat → Prop} {sa : Option Addr} {n c : Nat} {secs : List (Int × List UInt8)} (x : SecsAt w.heap F (.slice sa n c) secs) {k : Nat} {m : Int} {l : List UInt8} (he : secs[k]? = some (m, l)) :
    ∃ b o uk, sa = some ⟨b, o, none⟩ ∧ b < w.heap.size ∧ w.cell? ⟨b, o + k * 2, none⟩ = some (.int .i64 m) ∧ w.cell? ⟨b, o + k * 2 + 1, none⟩ = some uk ∧ BytesAt w.heap F uk l := by
  rcases x with ⟨h1, h2⟩ | ⟨b, o, cap, c', tt, fr, h1, h2, h3, g2, g3, g4⟩
  · rw [h2] at he; simp at he
  · obtain ⟨uk, q1, q2, q3⟩ := g4 k m l he
    exact ⟨b, o, uk, (Value.slice.inj h1).1, lt_of_row g3, row_cell g3 q1, row_cell g3 q2, q3⟩

theorem secs_same {secs secs' : List (Int × List UInt8)} {f g : Int → List UInt8} {many many' : Int} (h : SecOk secs f many) (h' : SecOk secs' g many') (h1 : ∀ (j : Nat) n l, secs[j]? = some (n, l) → g n = l) (h2 : ∀ (j : Nat) n l, secs'[j]? = some (n, l) → f n = l) (n : Int) : f n = g n := by
  by_cases hn : ∀ e ∈ secs, e.1 ≠ n
  · by_cases hn' : ∀ e ∈ secs', e.1 ≠ n
    · rw [h.no n hn, h'.no n hn']
    · simp only [Classical.not_forall, ne_eq, Classical.not_not] at hn'
      obtain ⟨e, he, rfl⟩ := hn'
      obtain ⟨j, hj⟩ := List.mem_iff_getElem?.1 he
      rw [h2 j e.1 e.2 hj, (h'.ent e he).1]
  · simp only [Classical.not_forall, ne_eq, Classical.not_not] at hn
    obtain ⟨e, he, rfl⟩ := hn
    obtain ⟨j, hj⟩ := List.mem_iff_getElem?.1 he
    rw [h1 j e.1 e.2 hj, (h.ent e he).1]

set_option maxRecDepth 100000 in
set_option maxHeartbeats 8000000 in
theorem sameBytes_c {w : World} {F G : Nat → Prop} {sv t0 t1 t2 t3 su u0 u1 u2 u3 : Value} {x y : St} {many many' : Int} (r : RB w.heap F sv t0 t1 t2 t3 x many) (r' : RB w.heap G su u0 u1 u2 u3 y many') (hm : many ≤ 4096) (hm' : many' ≤ 4096) :
    Calls Try.prog 57 #[.agg #[sv, t0, t1, t2, t3], .agg #[su, u0, u1, u2, u3]] w fun e w' => ∃ b : Bool, e = .returned (.bool b) ∧ (b = true ↔ (∀ j : Nat, j < 4 → x.tp j = y.tp j) ∧ ∀ n, x.sec n = y.sec n) ∧ Below w.heap.size w w' := by
  obtain ⟨secs, s1, s2, _, _, _, _⟩ := id r
  obtain ⟨secs', s1', s2', _, _, _, _⟩ := id r'
  have hlen := s2.len hm
  have hlen' := s2'.len hm'
  obtain ⟨sa, sc, rfl, hsc, hsc2⟩ := s1.slice
  obtain ⟨sb, sd, rfl, hsd, hsd2⟩ := s1'.slice
  have on := r.ones
  have on' := r'.ones
  have hb0 : Below w.heap.size w ((w.alloc (.cells #[.slice sa secs.length sc, t0, t1, t2, t3] tRBytes)).alloc (.cells #[.slice sb secs'.length sd, u0, u1, u2, u3] tRBytes)) := ((Below.refl _ _).alloc (Nat.le_refl _) _).alloc (by simp) _
  have q0 : ((w.alloc (.cells #[.slice sa secs.length sc, t0, t1, t2, t3] tRBytes)).alloc (.cells #[.slice sb secs'.length sd, u0, u1, u2, u3] tRBytes)).heap[w.heap.size]? = some (.cells #[.slice sa secs.length sc, t0, t1, t2, t3] tRBytes (0, 0)) := (Below.heap_alloc _ _ _ (by simp)).trans (heap_alloc_last w _)
  have q1 : ((w.alloc (.cells #[.slice sa secs.length sc, t0, t1, t2, t3] tRBytes)).alloc (.cells #[.slice sb secs'.length sd, u0, u1, u2, u3] tRBytes)).heap[w.heap.size + 1]? = some (.cells #[.slice sb secs'.length sd, u0, u1, u2, u3] tRBytes (0, 0)) := heap_at (w := w.alloc _) _ (by simp)
  obtain ⟨W0, hW0⟩ : ∃ W0, (w.alloc (.cells #[.slice sa secs.length sc, t0, t1, t2, t3] tRBytes)).alloc (.cells #[.slice sb secs'.length sd, u0, u1, u2, u3] tRBytes) = W0 := ⟨_, rfl⟩
  rw [hW0] at hb0 q0 q1
  have R := Lib.hid (And.intro r r')
  have S := Lib.hid (And.intro (And.intro s1 s2) (And.intro s1' s2'))
  have Q := Lib.hid (And.intro hb0 (And.intro q0 q1))
  have M := Lib.hid (And.intro hm hm')
  clear r r' s1 s2 s1' s2' hb0 q0 q1 on on' hm hm'
  go_enter Try.func57, Try.ntmps57
  go_upto_region 1 with fail
  clear hW0
  go_wp2
  go_loopg [5] 4 (fun g s wr => ∃ k : Nat, s = .int .i64 (k : Int) ∧ g + k = 4 ∧ Below W0.heap.size W0 wr ∧ ∀ j : Nat, j < k → x.tp j = y.tp j)
  case atStart => exact ⟨0, rfl, rfl, Below.refl _ _, fun j hj => absurd hj (by omega)⟩
  case round =>
    obtain ⟨k, rfl, hg, rel, hall⟩ := hrel
    have hk0 : (0 : Int) ≤ (k : Int) := by omega
    by_cases hlt : k < 4
    · have hk1 : (k : Int) < 4 := by omega
      obtain ⟨tv, e1, e2⟩ := R.out.1.tape k hlt
      obtain ⟨uv, f1, f2⟩ := R.out.2.tape k hlt
      have hbw : Below w.heap.size w wr := Q.out.1.trans (rel.mono Q.out.1.size)
      have kt : ∀ n, (wr.drewN n).cell? ⟨w.heap.size, 1 + k, none⟩ = some tv := fun n => row_cell (w := wr.drewN n) ((rel.block _ (lt_of_row Q.out.2.1)).trans Q.out.2.1) e1
      have ku : ∀ n, (wr.drewN n).cell? ⟨w.heap.size + 1, 1 + k, none⟩ = some uv := fun n => row_cell (w := wr.drewN n) ((rel.block _ (lt_of_row Q.out.2.2)).trans Q.out.2.2) f1
      have c1 := fun n => run_string_of (w := wr.drewN n) (e2.below (below_drewN hbw n))
      have c2 := fun n => run_string_of (w := wr.drewN n) (f2.below (below_drewN hbw n))
      obtain ⟨ta, tc, rfl⟩ := e2.slice
      obtain ⟨ua, uc, rfl⟩ := f2.slice
      have H := Lib.hid (And.intro rel (And.intro hg (And.intro hall hbw)))
      clear rel hg hall hbw e1 e2 f1 f2
      by_cases ht : x.tp k = y.tp k
      · rw [ht] at c1 kt
        have HT := Lib.hid ht
        clear ht
        go_upto_region 4 with fail
        go_quiet (fail)
        go_wp2
        go_roundg (4 - (k + 1))
        case measure => have := H.out.2.1; omega
        case rel => exact ⟨k + 1, by go_num, by have := H.out.2.1; omega, below_drewN H.out.1 _, fun j hj => by
          by_cases hjk : j < k
          · exact H.out.2.2.1 j hjk
          · obtain rfl : j = k := by omega
            exact HT.out⟩
      · have hne : (x.tp k == y.tp k) = false := by simpa using ht
        have hne2 : (x.tp k != y.tp k) = true := by simpa using ht
        have HT := Lib.hid ht
        clear ht
        go_upto_region 4 with fail
        go_quiet (fail)
        go_wp2
        go_ret
        exact ⟨false, rfl, ⟨fun h => (by cases h), fun h => absurd (h.1 k hlt) HT.out⟩, below_drewN H.out.2.2.2 _⟩
    · obtain rfl : k = 4 := by omega
      obtain ⟨wo, ewo⟩ : ∃ wo, wo = wr := ⟨_, rfl⟩
      subst ewo
      have T := Lib.hid (And.intro rel hall)
      clear rel hg hall
      have kS0 : wo.cell? ⟨w.heap.size, 0, none⟩ = some (.slice sa secs.length sc) := row_cell ((T.out.1.block _ (lt_of_row Q.out.2.1)).trans Q.out.2.1) rfl
      go_wp2
      go_loopg [6] secs.length (fun g s wr => ∃ k : Nat, s = .int .i64 (k : Int) ∧ g + k = secs.length ∧ Below W0.heap.size W0 wr ∧ ∀ (j : Nat) n l, j < k → secs[j]? = some (n, l) → y.sec n = l)
      case atStart => exact ⟨0, rfl, rfl, T.out.1, fun j n l hj => absurd hj (by omega)⟩
      case round =>
        obtain ⟨k, rfl, hg, rel, hall⟩ := hrel
        have hk0 : (0 : Int) ≤ (k : Int) := by omega
        have kS : wr.cell? ⟨w.heap.size, 0, none⟩ = some (.slice sa secs.length sc) := row_cell ((rel.block _ (lt_of_row Q.out.2.1)).trans Q.out.2.1) rfl
        by_cases hlt : k < secs.length
        · have hk1 : (k : Int) < (secs.length : Int) := by omega
          obtain ⟨⟨n, l⟩, he⟩ : ∃ e, secs[k]? = some e := ⟨_, List.getElem?_eq_getElem hlt⟩
          obtain ⟨b, o, uk, rfl, hbl, e1, e2, e3⟩ := S.out.1.1.at he
          have hbw : Below w.heap.size w wr := Q.out.1.trans (rel.mono Q.out.1.size)
          obtain ⟨ua, uc, rfl⟩ := e3.slice
          have ent := S.out.1.2.ent (n, l) (List.mem_of_getElem? he)
          have hbl2 : b < wr.heap.size := by have := hbw.size; omega
          have hbx : w.heap.size < wr.heap.size := by have := lt_of_row Q.out.2.1; have := rel.size; omega
          have hby : w.heap.size + 1 < wr.heap.size := by have := lt_of_row Q.out.2.2; have := rel.size; omega
          have ne : Nonempty (Wd (Below wr.heap.size wr)) := ⟨⟨wr, Below.refl _ _⟩⟩
          have x1 : ∀ x : Wd (Below wr.heap.size wr), x.world.cell? ⟨w.heap.size, 0, none⟩ = some (.slice (some ⟨b, o, none⟩) secs.length sc) := fun x => (x.ok.cell (p := ⟨_, 0, none⟩) hbx).trans kS
          have x2 : ∀ x : Wd (Below wr.heap.size wr), x.world.cell? ⟨b, o + k * 2, none⟩ = some (.int .i64 n) := fun x => (x.ok.cell (p := ⟨b, _, none⟩) hbl2).trans ((hbw.cell (p := ⟨b, _, none⟩) hbl).trans e1)
          have x3 : ∀ x : Wd (Below wr.heap.size wr), x.world.cell? ⟨b, o + k * 2 + 1, none⟩ = some (.slice ua l.length uc) := fun x => (x.ok.cell (p := ⟨b, _, none⟩) hbl2).trans ((hbw.cell (p := ⟨b, _, none⟩) hbl).trans e2)
          have x4 : ∀ x : Wd (Below wr.heap.size wr), (convert tBytes 9 (.slice ua l.length uc)).run Try.prog x.world = .ok (.string ⟨l.toArray⟩) x.world := fun x => run_string_of (e3.below (hbw.trans (x.ok.mono hbw.size)))
          have LD : Hid (∀ w', (∃ x : Wd (Below wr.heap.size wr), w' = x.world) → (Instr.loadAt tRBytes (.pointer (some ⟨w.heap.size + 1, 0, none⟩))).run Try.prog w' = .ok (.agg #[.slice sb secs'.length sd, u0, u1, u2, u3]) w') := by
            rintro w' ⟨x, rfl⟩
            exact run_loadAt_row ((x.ok.block _ hby).trans ((rel.block _ (lt_of_row Q.out.2.2)).trans Q.out.2.2)) Try.underlying39 rfl infoRB
          have SCC := Lib.hid (rsector_c (w := wr.drew) (R.out.2.keeps (F' := fun _ => True) (fun k _ hl => hbw.block k hl) (fun _ _ _ => trivial)) M.out.2 n)
          have H := Lib.hid (And.intro rel (And.intro hg (And.intro hall (And.intro hbw (And.intro he ent)))))
          clear rel hg hall hbw e1 e2 e3 he ent hbl hbl2 hbx hby
          go_upto_region 9 with fail
          clear kS
          refine wp_region_hoist (fun w' => ∃ x : Wd (Below wr.heap.size wr), w' = x.world) [16] (by kernel_rfl) ?_
          refine wpAnyI_reads [0, 1, 2, 3, 4, 5, 6, 9, 10, 11, 12, 13, 14, 15] 3 _ ⟨⟨_, (Below.refl _ _).drew⟩, rfl⟩ (by kernel_rfl) ?_
          simp only [List.filterMap_cons, List.filterMap_nil, List.getElem?_toArray, List.getElem?_cons_succ, List.getElem?_cons_zero]
          refine wpHoist_load_run rfl tRBytes (.tmp 3) rfl _ LD.out ?_
          iterate 13 (refine wpHoist_step (fun K hK => ?_); simp only [hoists, sameUpon]; go_simp; refine hK _ ?_; clear hK K)
          refine wpHoist_nil ?_
          refine wpAnyI_one 7 2 _ _ rfl (by kernel_rfl) ?_
          refine wpList_plain rfl fun K hK => ?_
          go_simp
          go_at_call 41
          refine SCC.out.mono ?_
          rintro e W1 ⟨v1, rfl, hb1, by1⟩
          have hb1' : Below wr.heap.size wr W1 := (Below.refl _ _).drew.trans hb1
          refine hK _ _ (wpList_nil ⟨rfl, fun _ => ⟨⟨_, hb1'⟩, rfl⟩, ?_⟩)
          clear hK K
          have c8 := run_string_of by1
          obtain ⟨va, vc, rfl⟩ := by1.slice
          have HB1 := Lib.hid hb1'
          clear hb1 by1 hb1'
          generalize (y.sec n).length = qn at c8 ⊢
          by_cases hs : y.sec n = l
          · rw [hs] at c8
            have HS := Lib.hid hs
            clear hs
            refine wpAnyI_one 8 1 _ _ rfl (by kernel_rfl) ?_
            refine wpList_plain rfl fun K hK => ?_
            go_simp
            refine hK _ _ (wpList_nil ⟨rfl, fun _ => ⟨⟨_, HB1.out⟩, rfl⟩, ?_⟩)
            clear hK K
            refine wpAnyI_one 16 0 _ _ rfl (by kernel_rfl) ?_
            refine wpList_plain rfl fun K hK => ?_
            go_simp
            refine hK _ _ (wpList_nil ⟨rfl, fun h => absurd (by decide) h, by kernel_rfl, ?_⟩)
            clear hK K
            go_wp2
            go_roundg (secs.length - (k + 1))
            case measure => have := H.out.2.1; omega
            case rel => exact ⟨k + 1, by go_num, by have := H.out.2.1; omega, H.out.1.trans (HB1.out.mono H.out.1.size), fun j n' l' hj hjs => by
              by_cases hjk : j < k
              · exact H.out.2.2.1 j n' l' hjk hjs
              · obtain rfl : j = k := by omega
                rw [H.out.2.2.2.2.1] at hjs
                cases hjs
                exact HS.out⟩
          · have hne : (y.sec n == l) = false := by simpa using hs
            have hne2 : (y.sec n != l) = true := by simpa using hs
            have HS := Lib.hid hs
            clear hs
            refine wpAnyI_one 8 1 _ _ rfl (by kernel_rfl) ?_
            refine wpList_plain rfl fun K hK => ?_
            go_simp
            refine hK _ _ (wpList_nil ⟨rfl, fun _ => ⟨⟨_, HB1.out⟩, rfl⟩, ?_⟩)
            clear hK K
            refine wpAnyI_one 16 0 _ _ rfl (by kernel_rfl) ?_
            refine wpList_plain rfl fun K hK => ?_
            go_simp
            refine hK _ _ (wpList_nil ⟨rfl, fun h => absurd (by decide) h, by kernel_rfl, ?_⟩)
            clear hK K
            go_wp2
            go_ret
            refine ⟨false, rfl, ⟨fun h => (by cases h), fun h => absurd ?_ HS.out⟩, H.out.2.2.2.1.trans (HB1.out.mono H.out.2.2.2.1.size)⟩
            rw [← h.2 n]
            exact H.out.2.2.2.2.2.1.symm
        · obtain rfl : k = secs.length := by omega
          obtain ⟨wo, ewo⟩ : ∃ wo, wo = wr := ⟨_, rfl⟩
          subst ewo
          have TA := Lib.hid (And.intro rel hall)
          clear rel hg hall
          go_wp2
          go_loopg [7] secs'.length (fun g s wr => ∃ k : Nat, s = .int .i64 (k : Int) ∧ g + k = secs'.length ∧ Below W0.heap.size W0 wr ∧ ∀ (j : Nat) n l, j < k → secs'[j]? = some (n, l) → x.sec n = l)
          case atStart => exact ⟨0, rfl, rfl, TA.out.1, fun j n l hj => absurd hj (by omega)⟩
          case round =>
            obtain ⟨k, rfl, hg, rel, hall⟩ := hrel
            have hk0 : (0 : Int) ≤ (k : Int) := by omega
            have kS : wr.cell? ⟨w.heap.size + 1, 0, none⟩ = some (.slice sb secs'.length sd) := row_cell ((rel.block _ (lt_of_row Q.out.2.2)).trans Q.out.2.2) rfl
            by_cases hlt : k < secs'.length
            · have hk1 : (k : Int) < (secs'.length : Int) := by omega
              obtain ⟨⟨n, l⟩, he⟩ : ∃ e, secs'[k]? = some e := ⟨_, List.getElem?_eq_getElem hlt⟩
              obtain ⟨b, o, uk, rfl, hbl, e1, e2, e3⟩ := S.out.2.1.at he
              have hbw : Below w.heap.size w wr := Q.out.1.trans (rel.mono Q.out.1.size)
              obtain ⟨ua, uc, rfl⟩ := e3.slice
              have ent := S.out.2.2.ent (n, l) (List.mem_of_getElem? he)
              have hbl2 : b < wr.heap.size := by have := hbw.size; omega
              have hbx : w.heap.size + 1 < wr.heap.size := by have := lt_of_row Q.out.2.2; have := rel.size; omega
              have hby : w.heap.size < wr.heap.size := by have := lt_of_row Q.out.2.1; have := rel.size; omega
              have ne : Nonempty (Wd (Below wr.heap.size wr)) := ⟨⟨wr, Below.refl _ _⟩⟩
              have x1 : ∀ x : Wd (Below wr.heap.size wr), x.world.cell? ⟨w.heap.size + 1, 0, none⟩ = some (.slice (some ⟨b, o, none⟩) secs'.length sd) := fun x => (x.ok.cell (p := ⟨_, 0, none⟩) hbx).trans kS
              have x2 : ∀ x : Wd (Below wr.heap.size wr), x.world.cell? ⟨b, o + k * 2, none⟩ = some (.int .i64 n) := fun x => (x.ok.cell (p := ⟨b, _, none⟩) hbl2).trans ((hbw.cell (p := ⟨b, _, none⟩) hbl).trans e1)
              have x3 : ∀ x : Wd (Below wr.heap.size wr), x.world.cell? ⟨b, o + k * 2 + 1, none⟩ = some (.slice ua l.length uc) := fun x => (x.ok.cell (p := ⟨b, _, none⟩) hbl2).trans ((hbw.cell (p := ⟨b, _, none⟩) hbl).trans e2)
              have x4 : ∀ x : Wd (Below wr.heap.size wr), (convert tBytes 9 (.slice ua l.length uc)).run Try.prog x.world = .ok (.string ⟨l.toArray⟩) x.world := fun x => run_string_of (e3.below (hbw.trans (x.ok.mono hbw.size)))
              have LD : Hid (∀ w', (∃ x : Wd (Below wr.heap.size wr), w' = x.world) → (Instr.loadAt tRBytes (.pointer (some ⟨w.heap.size, 0, none⟩))).run Try.prog w' = .ok (.agg #[.slice sa secs.length sc, t0, t1, t2, t3]) w') := by
                rintro w' ⟨x, rfl⟩
                exact run_loadAt_row ((x.ok.block _ hby).trans ((rel.block _ (lt_of_row Q.out.2.1)).trans Q.out.2.1)) Try.underlying39 rfl infoRB
              have SCC := Lib.hid (rsector_c (w := wr.drew) (R.out.1.keeps (F' := fun _ => True) (fun k _ hl => hbw.block k hl) (fun _ _ _ => trivial)) M.out.1 n)
              have H := Lib.hid (And.intro rel (And.intro hg (And.intro hall (And.intro hbw (And.intro he ent)))))
              clear rel hg hall hbw e1 e2 e3 he ent hbl hbl2 hbx hby
              go_upto_region 14 with fail
              clear kS
              refine wp_region_hoist (fun w' => ∃ x : Wd (Below wr.heap.size wr), w' = x.world) [16] (by kernel_rfl) ?_
              refine wpAnyI_reads [0, 1, 2, 3, 4, 5, 6, 9, 10, 11, 12, 13, 14, 15] 3 _ ⟨⟨_, (Below.refl _ _).drew⟩, rfl⟩ (by kernel_rfl) ?_
              simp only [List.filterMap_cons, List.filterMap_nil, List.getElem?_toArray, List.getElem?_cons_succ, List.getElem?_cons_zero]
              refine wpHoist_load_run rfl tRBytes (.tmp 2) rfl _ LD.out ?_
              iterate 13 (refine wpHoist_step (fun K hK => ?_); simp only [hoists, sameUpon]; go_simp; refine hK _ ?_; clear hK K)
              refine wpHoist_nil ?_
              refine wpAnyI_one 7 2 _ _ rfl (by kernel_rfl) ?_
              refine wpList_plain rfl fun K hK => ?_
              go_simp
              go_at_call 41
              refine SCC.out.mono ?_
              rintro e W1 ⟨v1, rfl, hb1, by1⟩
              have hb1' : Below wr.heap.size wr W1 := (Below.refl _ _).drew.trans hb1
              refine hK _ _ (wpList_nil ⟨rfl, fun _ => ⟨⟨_, hb1'⟩, rfl⟩, ?_⟩)
              clear hK K
              have c8 := run_string_of by1
              obtain ⟨va, vc, rfl⟩ := by1.slice
              have HB1 := Lib.hid hb1'
              clear hb1 by1 hb1'
              generalize (x.sec n).length = qn at c8 ⊢
              by_cases hs : x.sec n = l
              · rw [hs] at c8
                have HS := Lib.hid hs
                clear hs
                refine wpAnyI_one 8 1 _ _ rfl (by kernel_rfl) ?_
                refine wpList_plain rfl fun K hK => ?_
                go_simp
                refine hK _ _ (wpList_nil ⟨rfl, fun _ => ⟨⟨_, HB1.out⟩, rfl⟩, ?_⟩)
                clear hK K
                refine wpAnyI_one 16 0 _ _ rfl (by kernel_rfl) ?_
                refine wpList_plain rfl fun K hK => ?_
                go_simp
                refine hK _ _ (wpList_nil ⟨rfl, fun h => absurd (by decide) h, by kernel_rfl, ?_⟩)
                clear hK K
                go_wp2
                go_roundg (secs'.length - (k + 1))
                case measure => have := H.out.2.1; omega
                case rel => exact ⟨k + 1, by go_num, by have := H.out.2.1; omega, H.out.1.trans (HB1.out.mono H.out.1.size), fun j n' l' hj hjs => by
                  by_cases hjk : j < k
                  · exact H.out.2.2.1 j n' l' hjk hjs
                  · obtain rfl : j = k := by omega
                    rw [H.out.2.2.2.2.1] at hjs
                    cases hjs
                    exact HS.out⟩
              · have hne : (x.sec n == l) = false := by simpa using hs
                have hne2 : (x.sec n != l) = true := by simpa using hs
                have HS := Lib.hid hs
                clear hs
                refine wpAnyI_one 8 1 _ _ rfl (by kernel_rfl) ?_
                refine wpList_plain rfl fun K hK => ?_
                go_simp
                refine hK _ _ (wpList_nil ⟨rfl, fun _ => ⟨⟨_, HB1.out⟩, rfl⟩, ?_⟩)
                clear hK K
                refine wpAnyI_one 16 0 _ _ rfl (by kernel_rfl) ?_
                refine wpList_plain rfl fun K hK => ?_
                go_simp
                refine hK _ _ (wpList_nil ⟨rfl, fun h => absurd (by decide) h, by kernel_rfl, ?_⟩)
                clear hK K
                go_wp2
                go_ret
                refine ⟨false, rfl, ⟨fun h => (by cases h), fun h => absurd ?_ HS.out⟩, H.out.2.2.2.1.trans (HB1.out.mono H.out.2.2.2.1.size)⟩
                rw [h.2 n]
                exact H.out.2.2.2.2.2.1.symm
            · obtain rfl : k = secs'.length := by omega
              obtain ⟨wo, ewo⟩ : ∃ wo, wo = wr := ⟨_, rfl⟩
              subst ewo
              have TB := Lib.hid (And.intro rel hall)
              clear rel hg hall
              go_wp2
              go_ret
              exact ⟨true, rfl, ⟨fun _ => ⟨T.out.2, secs_same S.out.1.2 S.out.2.2 (fun j n l hj => TA.out.2 j n l (List.getElem?_eq_some_iff.1 hj).1 hj) (fun j n l hj => TB.out.2 j n l (List.getElem?_eq_some_iff.1 hj).1 hj)⟩, fun _ => rfl⟩, Q.out.1.trans (TB.out.1.mono Q.out.1.size)⟩

end Go.Proofs.Ytiefhmbpaoecfaa
