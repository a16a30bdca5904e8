/-
  How many bytes the tapes have.
  Append.
  disk.Same: its small functions.
  Append, Cut, Stop.
-/
import Derived.Test.YtiefhmbpaoecfaaG07

namespace Go.Proofs.Ytiefhmbpaoecfaa
open Go.RowKit Dm Go.Shelf
attribute [local go_sem] Oper.semAt_some

/-- A result that lies in a cell. -/
theorem results_cell_one {fn : Func} {p : Tmp} {ty : TypeId} (h : fn.results = #[.cell p ty]) (tmps : Array Value) (w : World) (a : Addr) (v : Value) (hp : tmps.getD p undef = .pointer (some a)) (hc : w.cell? a = some v)
    (hi : (isAgg ty).run Try.prog w = .ok false w) : (results fn tmps).run Try.prog w = .ok v w := by
  have hp' : tmps[p]?.getD undef = .pointer (some a) := by simpa using hp
  simp [results, h, hp', asAddr, loadVar, hi, hc]

/-- Between two rounds of the loop that counts. -/
def UsI (w : World) (ns : List Nat) (k : Nat) (O : Nat → Prop) (W' : World) : Prop :=
  Below w.heap.size w W' ∧ W'.heap[w.heap.size]? = some (.cells #[.int .i64 ((ns.take k).sum : Nat)] 3 (0, 0)) ∧ (∀ i, O i → w.heap.size + 4 ≤ i) ∧ w.heap.size + 4 ≤ W'.heap.size

theorem usI_moves {w A B : World} {ns : List Nat} {k : Nat} {O O' : Nat → Prop} (h : UsI w ns k O A) (hm : Moves O A B) (ho : ∀ i, O' i → O i ∨ A.heap.size ≤ i) : UsI w ns k O' B := by
  obtain ⟨h1, h2, h6, h7⟩ := h
  refine ⟨⟨hm.os.trans h1.os, hm.tape.trans h1.tape, hm.output.trans h1.output, Nat.le_trans h1.size hm.size, fun i hi => ?_⟩, (hm.block _ (by omega) (fun e => by have := h6 _ e; omega)).trans h2, fun i hi => ?_, Nat.le_trans h7 hm.size⟩
  · exact (hm.block i (by have := h1.size; omega) (fun e => by have := h6 i e; omega)).trans (h1.block i hi)
  · rcases ho i hi with e | e
    · exact h6 i e
    · omega

theorem usI_put {w A : World} {ns : List Nat} {k : Nat} {O : Nat → Prop} (h : UsI w ns k O A) (d : Nat) (hd : w.heap.size + 1 ≤ d) (o : Obj) : UsI w ns k O (A.putObj d o) := by
  obtain ⟨h1, h2, h6, h7⟩ := h
  exact ⟨⟨h1.os, h1.tape, h1.output, by simpa using h1.size, fun i hi => (World.putObj_heap_other (by omega)).trans (h1.block i hi)⟩, (World.putObj_heap_other (by omega)).trans h2, h6, by simpa using h7⟩

set_option maxRecDepth 100000 in
set_option maxHeartbeats 2000000 in
theorem used_c (q o : Nat) (ho : o = 0 ∨ o = 5) (a0 a1 a2 a3 : Option Addr) (n0 n1 n2 n3 c0 c1 c2 c3 : Nat) (hn : n0 + n1 + n2 + n3 ≤ 9223372036854775807) (w : World) (h1 : w.cell? ⟨q, o + 1, none⟩ = some (.slice a0 n0 c0)) (h2 : w.cell? ⟨q, o + 2, none⟩ = some (.slice a1 n1 c1))
    (h3 : w.cell? ⟨q, o + 3, none⟩ = some (.slice a2 n2 c2)) (h4 : w.cell? ⟨q, o + 4, none⟩ = some (.slice a3 n3 c3)) :
    Calls Try.prog 47 #[.pointer (some ⟨q, o, none⟩)] w fun e w' => e = .returned (.int .i64 ((n0 + n1 + n2 + n3 : Nat) : Int)) ∧ Below w.heap.size w w' := by
  have lt : q < w.heap.size := block_lt_of_cell h1
  have hb0 : Below w.heap.size w (w.alloc (.cells #[.int .i64 0] 3)) := (Below.refl _ _).alloc (Nat.le_refl _) _
  have hb : Below w.heap.size w ((w.alloc (.cells #[.int .i64 0] 3)).alloc (.cells #[.pointer (some ⟨q, o, none⟩)] 84)) := hb0.alloc (by simp) _
  have r0 : ((w.alloc (.cells #[.int .i64 0] 3)).alloc (.cells #[.pointer (some ⟨q, o, none⟩)] 84)).heap[w.heap.size]? = some (.cells #[.int .i64 0] 3 (0, 0)) := (Below.heap_alloc _ _ _ (by simp)).trans (heap_alloc_last w _)
  have k0 : ((w.alloc (.cells #[.int .i64 0] 3)).alloc (.cells #[.pointer (some ⟨q, o, none⟩)] 84)).cell? ⟨w.heap.size + 1, 0, none⟩ = some (.pointer (some ⟨q, o, none⟩)) := (cell_of_row _ _ _ _ _ _ (heap_at (w := w.alloc (.cells #[.int .i64 0] 3)) _ (by simp))).trans rfl
  have IT := Lib.hid (all1_c (w.heap.size + 1) q o ho _ _ _ _ _ k0 ((hb.cell (p := ⟨q, _, none⟩) lt).trans h1) ((hb.cell (p := ⟨q, _, none⟩) lt).trans h2) ((hb.cell (p := ⟨q, _, none⟩) lt).trans h3) ((hb.cell (p := ⟨q, _, none⟩) lt).trans h4))
  have R0 := Lib.hid r0
  clear h1 h2 h3 h4 r0 k0
  refine (callsIn_wide (n := 0)).1 ?_
  refine callsIn_of_wp_marks Try.func47 rfl trivial ?_ rfl
  simp only [Try.ntmps47, List.size_toArray, List.length_cons, List.length_nil, Nat.reduceAdd, Nat.reduceSub, Array.replicate_succ, Array.replicate_zero, List.push_toArray, List.append_toArray, List.nil_append, List.cons_append]
  gi_wp2_with (refine ⟨trivial, rfl, ?_⟩; gi_at_call 65; refine (callsIn_wide.2 (all_c q o _)).mono ?_; rintro e w' ⟨rfl, rfl⟩)
  refine wpIn_rangeIter (gf := 70) (lb := #[.pointer (some ⟨w.heap.size + 1, 0, none⟩)]) (encs := encT) (xs := tapesL (.slice a0 n0 c0) (.slice a1 n1 c1) (.slice a2 n2 c2) (.slice a3 n3 c3)) (R := fun _ => False) rfl (enters_of Try.func70 (by kernel_rfl) rfl) IT.out (fun _ h => h.elim)
    (Below.refl _ _) (fun _ => rfl) (UsI w [n0, n1, n2, n3]) (fun _ _ _ _ => False) (fun k O O' A B h hm _ ho => usI_moves h hm ho) (fun _ _ _ _ _ _ h _ _ _ => h) ?hIb (fun _ _ _ _ _ _ _ h => h) ?h0
    (fun x a' _ => a' = { tmps := #[.pointer (some ⟨q, o, none⟩), undef, .pointer (some ⟨w.heap.size, 0, none⟩), undef, x.2, .pointer (some ⟨q, o, none⟩), .func (.func 70) #[] #[.pointer (some ⟨w.heap.size + 1, 0, none⟩)], .int .i64 x.1, x.2, undef, undef, undef, undef, undef], defers := [] }) (fun _ _ _ _ _ _ _ h => h) ?assign ?body ?done ?stop
  case hIb =>
    intro k O r o W' _ h
    exact usI_put h _ (by simp only [World.size_alloc]; omega) o
  case h0 =>
    intro W' hb' hs
    simp only [World.size_alloc] at hb' hs
    refine ⟨hb.trans (hb'.mono (by omega)), (hb'.block _ (by omega)).trans R0.out, fun i h => h.elim, by omega⟩
  case assign =>
    rintro k ⟨x1, x2⟩ O W' hx hi _ _ _
    simp only [encT]
    gi_wp2
    exact ⟨hi, Keeps.refl _ _, trivial⟩
  case body =>
    rintro k x O a' W' hx hl hd hol hod hi rfl
    clear hl hd
    simp only [World.size_alloc] at hol hod ⊢
    have hk : k < 4 := by
      have := (List.getElem?_eq_some_iff.1 hx).1
      simpa [tapesL] using this
    obtain ⟨h1, h2, h6, h7⟩ := hi
    obtain ⟨a, n, c, hx2, hs⟩ : ∃ a n c, x.2 = .slice a n c ∧ ([n0, n1, n2, n3].take (k + 1)).sum = ([n0, n1, n2, n3].take k).sum + n ∧ ([n0, n1, n2, n3].take k).sum + n ≤ 9223372036854775807 := by
      have kk : k = 0 ∨ k = 1 ∨ k = 2 ∨ k = 3 := by omega
      rcases kk with rfl | rfl | rfl | rfl <;> (simp only [tapesL, List.getElem?_cons_zero, List.getElem?_cons_succ, Option.some.injEq] at hx; subst hx; refine ⟨_, _, _, rfl, ?_, ?_⟩ <;> simp [List.take] <;> omega)
    rw [hx2]
    have e1 : IntKind.i64.wrap ((([n0, n1, n2, n3].take k).sum : Nat) + (n : Int)) = (([n0, n1, n2, n3].take (k + 1)).sum : Nat) := by
      rw [hs.1]
      exact IntWalk.i64_in _ (by omega)
    have c1 : W'.cell? ⟨w.heap.size, 0, none⟩ = some (.int .i64 (([n0, n1, n2, n3].take k).sum : Nat)) := (cell_of_row _ _ _ _ _ _ h2).trans rfl
    have z1 : W'.frozen? ⟨w.heap.size, 0, none⟩ = false := by simp [World.frozen?, h2]
    have HH := Lib.hid (And.intro h1 (And.intro h2 (And.intro h6 (And.intro h7 hs))))
    generalize (([n0, n1, n2, n3].take k).sum : Nat) = s0 at *
    generalize hs1 : (([n0, n1, n2, n3].take (k + 1)).sum : Nat) = s1 at *
    clear h1 h2 h6 h7 hs
    gi_wp2
    obtain ⟨h1, h2, h6, h7, hs⟩ := HH.out
    have other : ∀ i, i ≠ w.heap.size → (W'.setCell ⟨w.heap.size, 0, none⟩ (.int .i64 (s1 : Int))).heap[i]? = W'.heap[i]? := fun i hi => heap_setCell_other W' _ i _ hi
    refine ⟨⟨by simp, fun i hi _ => other i ?_⟩, ⟨h1.os, h1.tape, h1.output, by simpa using h1.size, fun i hi => (other i (by omega)).trans (h1.block i hi)⟩, ?_, h6, by simpa using h7⟩
    · rcases hi with h | h | h | h
      · have := h6 i h; omega
      · exact h.elim
      · omega
      · omega
    · have := heap_setCell_same W' w.heap.size 0 _ _ (.int .i64 (s1 : Int)) h2
      rw [hs1]; exact this
  case done =>
    intro O W2 hi _ hD
    simp only [World.size_alloc] at hD
    obtain ⟨h1, h2, h6, h7⟩ := hi
    have e4 : ((List.take (tapesL (.slice a0 n0 c0) (.slice a1 n1 c1) (.slice a2 n2 c2) (.slice a3 n3 c3)).length [n0, n1, n2, n3]).sum : Nat) = n0 + n1 + n2 + n3 := by simp [tapesL]; omega
    rw [e4] at h2
    generalize hnn : n0 + n1 + n2 + n3 = n at *
    have k1 : W2.cell? ⟨w.heap.size, 0, none⟩ = some (.int .i64 (n : Int)) := (cell_of_row _ _ _ _ _ _ h2).trans rfl
    have z1 : W2.frozen? ⟨w.heap.size, 0, none⟩ = false := by simp [World.frozen?, h2]
    have other : ∀ i, i ≠ w.heap.size → (W2.setCell ⟨w.heap.size, 0, none⟩ (.int .i64 (n : Int))).heap[i]? = W2.heap[i]? := fun i hi => heap_setCell_other W2 _ i _ hi
    have hD' := (other (w.heap.size + 1 + 1) (by omega)).trans hD
    have hr : (W2.setCell ⟨w.heap.size, 0, none⟩ (.int .i64 (n : Int))).heap[w.heap.size]? = some (.cells #[.int .i64 (n : Int)] 3 (0, 0)) := heap_setCell_same W2 w.heap.size 0 _ _ (.int .i64 (n : Int)) h2
    have hr' : ((W2.setCell ⟨w.heap.size, 0, none⟩ (.int .i64 (n : Int))).putObj (w.heap.size + 1 + 1) (.deferred none)).heap[w.heap.size]? = some (.cells #[.int .i64 (n : Int)] 3 (0, 0)) := (World.putObj_heap_other (by omega)).trans hr
    have hbb : Below w.heap.size w ((W2.setCell ⟨w.heap.size, 0, none⟩ (.int .i64 (n : Int))).putObj (w.heap.size + 1 + 1) (.deferred none)) :=
      ⟨h1.os, h1.tape, h1.output, by simpa using h1.size, fun i hi => (World.putObj_heap_other (by omega)).trans ((other i (by omega)).trans (h1.block i hi))⟩
    have HI := Lib.hid (And.intro hr' (And.intro hbb hD'))
    clear h1 h2 h6 h7 other hD' hr hr' hbb hD
    gi_wp2
    simp only [World.size_alloc]
    exact leaves_mark HI.out.2.2 (results_cell_one rfl _ _ ⟨w.heap.size, 0, none⟩ _ rfl ((cell_of_row _ _ _ _ _ _ HI.out.1).trans rfl) (by kernel_rfl)) ⟨by rw [hnn]; rfl, HI.out.2.1⟩
  case stop =>
    intro c k O W' hkx h
    exact h.elim

end Go.Proofs.Ytiefhmbpaoecfaa

namespace Go.Proofs.Ytiefhmbpaoecfaa
open Go.RowKit Dm

theorem BytesAt.slice {h : Array Obj} {F : Nat → Prop} {v : Value} {l : List UInt8} (x : BytesAt h F v l) : ∃ a c, v = .slice a l.length c := by
  rcases x with ⟨rfl, rfl⟩ | ⟨b, o, cap, c, t, fr, rfl, _⟩
  · exact ⟨_, _, rfl⟩
  · exact ⟨_, _, rfl⟩

/-- Bytes are cloned. -/
theorem clone_c {w : World} {G : Nat → Prop} {v : Value} {l : List UInt8} (x : BytesAt w.heap G v l) (hl : l.length ≤ 1099511627776) : Calls Try.prog 43 #[v] w (GivesBytes w l) := by
  rcases x with ⟨rfl, rfl⟩ | ⟨b, o, cap, c, t, fr, rfl, h2, h3, g2, g3, g4⟩
  · refine (clone_nil w).mono ?_
    rintro e w' ⟨rfl, rfl⟩
    exact ⟨_, rfl, Below.refl _ _, Or.inl ⟨rfl, rfl⟩⟩
  · exact clone_some b o cap l w hl (fun i x hi => (cell_of_row _ _ _ _ _ _ g3).trans (g4 i x hi))

/-- How many bytes a disk's tapes have. -/
theorem used_d {p m : Nat} {d : D} {F : Nat → Prop} {w : World} (x : DiskAt w.heap p m d F) : Calls Try.prog 47 #[.pointer (some ⟨p, 0, none⟩)] w fun e w' => e = .returned (.int .i64 d.stand.used) ∧ Below w.heap.size w w' := by
  have hok := x.ok
  have b : ∀ t, ((d.stand.tp t).length : Int) ≤ 1048576 := fun t => Int.le_trans (by exact_mod_cast stand_tapes hok t) hok.room1
  have b0 := b 0
  have b1 := b 1
  have b2 := b 2
  have b3 := b 3
  obtain ⟨t0, t1, t2, t3, ml, l0, l1, l2, l3, wv, stops, after, c1, _, _, _, _, _, _, _, _, s0, s1, s2, s3, _⟩ := x.cells
  obtain ⟨a0, e0, rfl⟩ := s0.slice
  obtain ⟨a1, e1, rfl⟩ := s1.slice
  obtain ⟨a2, e2, rfl⟩ := s2.slice
  obtain ⟨a3, e3, rfl⟩ := s3.slice
  refine (used_c p 0 (Or.inl rfl) a0 a1 a2 a3 (d.stand.tp 0).length (d.stand.tp 1).length (d.stand.tp 2).length (d.stand.tp 3).length e0 e1 e2 e3 (by omega) w ?_ ?_ ?_ ?_).mono ?_
  · rw [cell_of_row _ _ _ _ _ _ c1]; rfl
  · rw [cell_of_row _ _ _ _ _ _ c1]; rfl
  · rw [cell_of_row _ _ _ _ _ _ c1]; rfl
  · rw [cell_of_row _ _ _ _ _ _ c1]; rfl
  · rintro e w' ⟨rfl, hb⟩
    refine ⟨?_, hb⟩
    unfold St.used
    simp

theorem append_none (v bv : Value) (n : Int) (w : World) (h : NoneD w v) : Calls Try.prog 22 #[v, .int .i64 n, bv] w fun e w' => e = .returned (.int .i64 1) ∧ Below w.heap.size w w' := by
  have hb : Below w.heap.size w (w.alloc (.cells #[.int .i64 n] 3)) := (Below.refl _ _).alloc (Nat.le_refl _) _
  have H := Lib.hid (h.below hb)
  clear h
  go_enter Try.func22, Try.ntmps22
  go_wp2_with (go_at_call 33; refine (none_c H.out).mono ?_; rintro e w' ⟨rfl, rfl⟩)
  go_ret
  exact ⟨rfl, hb⟩

theorem append_range (p : Nat) (bv : Value) (n : Int) (w : World) (h : w.cell? ⟨p, 16, none⟩ = some (.bool true)) (hn : n < 0 ∨ 4 ≤ n) :
    Calls Try.prog 22 #[.pointer (some ⟨p, 0, none⟩), .int .i64 n, bv] w fun e w' => e = .returned (.int .i64 4) ∧ Below w.heap.size w w' := by
  have hb : Below w.heap.size w (w.alloc (.cells #[.int .i64 n] 3)) := (Below.refl _ _).alloc (Nat.le_refl _) _
  have h' := (hb.cell (p := ⟨p, 16, none⟩) (block_lt_of_cell h)).trans h
  by_cases hn0 : n < 0
  all_goals
    have hn2 : ¬ n < 0 → 4 ≤ n := fun h => by omega
    simp only [hn0, not_true_eq_false, not_false_eq_true, forall_const, false_implies] at hn2
    go_enter Try.func22, Try.ntmps22
    go_wp2_with (go_at_call 33; refine (none_at p true _ h').mono ?_; rintro e w' ⟨rfl, rfl⟩)
    go_ret
    exact ⟨rfl, hb⟩

set_option maxRecDepth 100000 in
set_option maxHeartbeats 1000000 in
theorem append_full (p l c : Nat) (a : Option Addr) (n room u : Int) (w : World) (h : w.cell? ⟨p, 16, none⟩ = some (.bool true)) (h2 : w.cell? ⟨p, 12, none⟩ = some (.int .i64 room)) (hn0 : 0 ≤ n) (hn1 : n < 4) (hu0 : 0 ≤ u) (hu1 : u ≤ 4194304) (hl : l ≤ 1099511627776) (hf : u + l > room)
    (hU : ∀ W, Below w.heap.size w W → Calls Try.prog 47 #[.pointer (some ⟨p, 0, none⟩)] W fun e w' => e = .returned (.int .i64 u) ∧ Below W.heap.size W w') :
    Calls Try.prog 22 #[.pointer (some ⟨p, 0, none⟩), .int .i64 n, .slice a l c] w fun e w' => e = .returned (.int .i64 280) ∧ Below w.heap.size w w' := by
  have hb : Below w.heap.size w (w.alloc (.cells #[.int .i64 n] 3)) := (Below.refl _ _).alloc (Nat.le_refl _) _
  have lt : p < w.heap.size := block_lt_of_cell h
  have h' := (hb.cell (p := ⟨p, 16, none⟩) lt).trans h
  have hw : IntKind.i64.wrap (u + (l : Int)) = u + (l : Int) := IntWalk.i64_in _ (by omega)
  have nlt : ¬ n < 0 := by omega
  have nge : ¬ 4 ≤ n := by omega
  have gt : room < u + (l : Int) := hf
  have HU := Lib.hid hU
  clear hU hf
  have ne : Nonempty (Wd (Below w.heap.size w)) := ⟨⟨w, Below.refl _ _⟩⟩
  have x2 : ∀ x : Wd (Below w.heap.size w), x.world.cell? ⟨p, 12, none⟩ = some (.int .i64 room) := fun x => (x.ok.cell (p := ⟨p, 12, none⟩) lt).trans h2
  go_enter Try.func22, Try.ntmps22
  go_wp2_with (go_at_call 33; refine (none_at p true _ h').mono ?_; rintro e w' ⟨rfl, rfl⟩)
  refine wp_region_hoist (fun w' => ∃ x : Wd (Below w.heap.size w), w' = x.world) [] (by kernel_rfl) ?_
  refine wpAnyI_reads [0, 1, 2, 4, 5, 7, 8, 9, 10] 4 _ ⟨⟨_, hb.drew⟩, rfl⟩ (by kernel_rfl) ?_
  simp only [List.filterMap_cons, List.filterMap_nil, List.getElem?_toArray, List.getElem?_cons_succ, List.getElem?_cons_zero]
  repeat (refine wpHoist_step (fun K hK => ?_); simp only [hoists, sameUpon]; go_simp; refine hK _ ?_; clear hK K)
  refine wpHoist_nil ?_
  refine wpAnyI_one 3 3 _ _ rfl (by kernel_rfl) ?_
  refine wpList_plain rfl fun K hK => ?_
  go_simp
  go_at_call 47
  refine (HU.out _ hb.drew).mono ?_
  rintro e W1 ⟨rfl, hb1⟩
  have hb2 := hb.drew.trans (hb1.mono (by simp))
  refine hK _ _ (wpList_nil ⟨rfl, fun _ => ⟨⟨_, hb2⟩, rfl⟩, ?_⟩)
  clear hK K
  refine wpAnyI_reads [6, 11, 12] 0 _ ⟨⟨_, hb2⟩, rfl⟩ (by kernel_rfl) ?_
  simp only [List.filterMap_cons, List.filterMap_nil, List.getElem?_toArray, List.getElem?_cons_succ, List.getElem?_cons_zero]
  repeat (refine wpHoist_step (fun K hK => ?_); simp only [hoists, sameUpon]; go_simp; refine hK _ ?_; clear hK K)
  refine wpHoist_nil ?_
  refine ⟨by kernel_rfl, ?_⟩
  go_wp2
  go_ret
  exact ⟨rfl, hb2⟩

set_option maxRecDepth 100000 in
set_option maxHeartbeats 2000000 in
theorem append_live (p l c : Nat) (a : Option Addr) (n room u : Int) (bs : List UInt8) (w : World) (R : Ending → World → Prop) (h : w.cell? ⟨p, 16, none⟩ = some (.bool true)) (h2 : w.cell? ⟨p, 12, none⟩ = some (.int .i64 room)) (hn0 : 0 ≤ n) (hn1 : n < 4) (hu0 : 0 ≤ u) (hu1 : u ≤ 4194304) (hl : l ≤ 1099511627776) (hf : ¬ u + l > room)
    (hU : ∀ W, Below w.heap.size w W → Calls Try.prog 47 #[.pointer (some ⟨p, 0, none⟩)] W fun e w' => e = .returned (.int .i64 u) ∧ Below W.heap.size W w')
    (F : Nat → Prop) (hv : BytesAt w.heap F (.slice a l c) bs)
    (hR : ∀ W g v, Below w.heap.size w W → w.heap.size < g → W.heap[w.heap.size]? = some (.cells #[.int .i64 n] 3 (0, 0)) → W.heap[g]? = some (.cells #[v] tBytes (0, 0)) → W.heap[g + 1]? = some (.cells #[.int .i64 n] 3 (0, 0)) → W.heap[g + 2]? = some (.cells #[v] tBytes (0, 0)) → W.heap.size = g + 3 → BytesAt W.heap (fun k => w.heap.size ≤ k) v bs →
      Calls Try.prog 44 #[.pointer (some ⟨p, 0, none⟩), .agg #[.func (.func 66) #[] #[.pointer (some ⟨g + 1, 0, none⟩), .pointer (some ⟨g + 2, 0, none⟩)],
        .func (.func 49) #[] #[.pointer (some ⟨w.heap.size, 0, none⟩), .pointer (some ⟨g, 0, none⟩)], .int .i64 n, .int .i64 2, .int .i64 n, .int .i64 0, .string ⟨bs.toArray⟩]] W fun e w' => ∃ k, e = .returned (.int .i64 k) ∧ R e w') :
    Calls Try.prog 22 #[.pointer (some ⟨p, 0, none⟩), .int .i64 n, .slice a l c] w R := by
  have hb : Below w.heap.size w (w.alloc (.cells #[.int .i64 n] 3)) := (Below.refl _ _).alloc (Nat.le_refl _) _
  have lt : p < w.heap.size := block_lt_of_cell h
  have h' := (hb.cell (p := ⟨p, 16, none⟩) lt).trans h
  have r0 : (w.alloc (.cells #[.int .i64 n] 3)).heap[w.heap.size]? = some (.cells #[.int .i64 n] 3 (0, 0)) := heap_alloc_last w _
  have hw : IntKind.i64.wrap (u + (l : Int)) = u + (l : Int) := IntWalk.i64_in _ (by omega)
  have nlt : ¬ n < 0 := by omega
  have nge : ¬ 4 ≤ n := by omega
  have gt : ¬ room < u + (l : Int) := hf
  have hlen : bs.length = l := by
    rcases hv with ⟨h1, rfl⟩ | ⟨b', o', cap', cc, t, fr, h1, _⟩
    · simp only [Value.slice.injEq] at h1; simp [h1.2.1]
    · simp only [Value.slice.injEq] at h1; exact h1.2.1.symm
  have HU := Lib.hid hU
  have HV := Lib.hid hv
  have HR := Lib.hid hR
  have HB := Lib.hid (And.intro hb (And.intro r0 (And.intro hlen hl)))
  clear hU hf hv hR r0 hlen
  have ne : Nonempty (Wd (Below w.heap.size w)) := ⟨⟨w, Below.refl _ _⟩⟩
  have x2 : ∀ x : Wd (Below w.heap.size w), x.world.cell? ⟨p, 12, none⟩ = some (.int .i64 room) := fun x => (x.ok.cell (p := ⟨p, 12, none⟩) lt).trans h2
  go_enter Try.func22, Try.ntmps22
  go_wp2_with (go_at_call 33; refine (none_at p true _ h').mono ?_; rintro e w' ⟨rfl, rfl⟩)
  refine wp_region_hoist (fun w' => ∃ x : Wd (Below w.heap.size w), w' = x.world) [] (by kernel_rfl) ?_
  refine wpAnyI_reads [0, 1, 2, 4, 5, 7, 8, 9, 10] 4 _ ⟨⟨_, hb.drew⟩, rfl⟩ (by kernel_rfl) ?_
  simp only [List.filterMap_cons, List.filterMap_nil, List.getElem?_toArray, List.getElem?_cons_succ, List.getElem?_cons_zero]
  repeat (refine wpHoist_step (fun K hK => ?_); simp only [hoists, sameUpon]; go_simp; refine hK _ ?_; clear hK K)
  refine wpHoist_nil ?_
  refine wpAnyI_one 3 3 _ _ rfl (by kernel_rfl) ?_
  refine wpList_plain rfl fun K hK => ?_
  go_simp
  go_at_call 47
  refine (HU.out _ hb.drew).mono ?_
  rintro e W1 ⟨rfl, hb1⟩
  have hb2 := hb.drew.trans (hb1.mono (by simp))
  refine hK _ _ (wpList_nil ⟨rfl, fun _ => ⟨⟨_, hb2⟩, rfl⟩, ?_⟩)
  clear hK K
  refine wpAnyI_reads [6, 11, 12] 0 _ ⟨⟨_, hb2⟩, rfl⟩ (by kernel_rfl) ?_
  simp only [List.filterMap_cons, List.filterMap_nil, List.getElem?_toArray, List.getElem?_cons_succ, List.getElem?_cons_zero]
  repeat (refine wpHoist_step (fun K hK => ?_); simp only [hoists, sameUpon]; go_simp; refine hK _ ?_; clear hK K)
  refine wpHoist_nil ?_
  refine ⟨by kernel_rfl, ?_⟩
  have s1 : w.heap.size < W1.heap.size := by have := hb1.size; simp at this; omega
  have r1 : W1.heap[w.heap.size]? = some (.cells #[.int .i64 n] 3 (0, 0)) := (hb1.block w.heap.size (by simp)).trans HB.out.2.1
  have H1 := Lib.hid (And.intro hb2 (And.intro s1 r1))
  clear hb1 hb2 s1 r1 hb x2 ne h2 h'
  go_wp2_with (go_at_call 43
               refine (clone_c (HV.out.below H1.out.1) (by rw [HB.out.2.2.1]; exact HB.out.2.2.2)).mono ?_
               rintro e W2 ⟨v, rfl, hb2, hv2⟩
               obtain ⟨a2, c2, rfl⟩ := hv2.slice)
  clear gt nlt nge hw
  have hb3 : Below w.heap.size w (W2.alloc (.cells #[.slice a2 bs.length c2] tBytes)) := (H1.out.1.trans (hb2.mono (by have := H1.out.2.1; omega))).alloc (by have := H1.out.2.1; have := hb2.size; omega) _
  have s2 : w.heap.size < W2.heap.size := by have := H1.out.2.1; have := hb2.size; omega
  have r2 : W2.heap[w.heap.size]? = some (.cells #[.int .i64 n] 3 (0, 0)) := (hb2.block _ H1.out.2.1).trans H1.out.2.2
  have r3 : (W2.alloc (.cells #[.slice a2 bs.length c2] tBytes)).heap[w.heap.size]? = some (.cells #[.int .i64 n] 3 (0, 0)) := heap_past s2 r2
  have r4 : (W2.alloc (.cells #[.slice a2 bs.length c2] tBytes)).heap[W2.heap.size]? = some (.cells #[.slice a2 bs.length c2] tBytes (0, 0)) := heap_at _ rfl
  obtain ⟨W3, hW3⟩ : ∃ W3, W2.alloc (.cells #[.slice a2 bs.length c2] tBytes) = W3 := ⟨_, rfl⟩
  have s3 : W3.heap.size = W2.heap.size + 1 := by rw [← hW3]; simp
  have hv3 : BytesAt W3.heap (fun k => w.heap.size ≤ k) (.slice a2 bs.length c2) bs := by
    rw [← hW3]
    exact hv2.keeps (fun k _ hk => heap_old_own _ _ _ hk) (fun k hk _ => by have := H1.out.2.1; show w.heap.size ≤ k; have hk' : W1.heap.size ≤ k := hk; omega)
  simp only [tBytes] at hW3
  rw [hW3] at hb3 r3 r4 ⊢
  clear hW3 hv2 hb2 r2
  have x1 : ∀ x : Wd (Below W3.heap.size W3), x.world.cell? ⟨w.heap.size, 0, none⟩ = some (.int .i64 n) := fun x => (x.ok.cell (p := ⟨w.heap.size, 0, none⟩) (lt_of_row r3)).trans ((cell_of_row _ _ _ _ _ _ r3).trans rfl)
  have x2 : ∀ x : Wd (Below W3.heap.size W3), x.world.cell? ⟨W2.heap.size, 0, none⟩ = some (.slice a2 bs.length c2) := fun x => (x.ok.cell (p := ⟨W2.heap.size, 0, none⟩) (lt_of_row r4)).trans ((cell_of_row _ _ _ _ _ _ r4).trans rfl)
  have x3 : ∀ x : Wd (Below W3.heap.size W3), (convert tBytes 9 (.slice a l c)).run Try.prog x.world = .ok (.string ⟨bs.toArray⟩) x.world := fun x => run_string_of (HV.out.below (hb3.trans (x.ok.mono (by omega))))
  have ne : Nonempty (Wd (Below W3.heap.size W3)) := ⟨⟨W3, Below.refl _ _⟩⟩
  have H3 := Lib.hid (And.intro hb3 (And.intro r3 (And.intro r4 (And.intro hv3 s3))))
  clear hb3 r3 r4 hv3 s3
  refine wp_region_hoist (fun w' => ∃ x : Wd (Below W3.heap.size W3), w' = x.world) [11, 12] (by kernel_rfl) ?_
  refine wpAnyI_reads [0, 1, 2, 4, 5, 6, 7, 8, 9] 4 _ ⟨⟨_, (Below.refl _ _).drew⟩, rfl⟩ (by kernel_rfl) ?_
  simp only [List.filterMap_cons, List.filterMap_nil, List.getElem?_toArray, List.getElem?_cons_succ, List.getElem?_cons_zero]
  repeat (refine wpHoist_step (fun K hK => ?_); simp only [hoists, sameUpon]; go_simp; refine hK _ ?_; clear hK K)
  refine wpHoist_nil ?_
  refine wpAnyI_one 3 3 _ _ rfl (by kernel_rfl) ?_
  refine wpList_plain rfl fun K hK => ?_
  go_simp
  go_at_call 48
  refine (appended_c _ _ _ _ _).mono ?_
  rintro e w' ⟨rfl, rfl⟩
  refine hK _ _ (wpList_nil ⟨rfl, fun _ => ⟨⟨_, (((Below.refl _ _).drew).alloc (Nat.le_refl _) _).alloc (by simp) _⟩, rfl⟩, ?_⟩)
  clear hK K
  refine wpAnyI_reads [10] 2 _ ⟨⟨_, (((Below.refl _ _).drew).alloc (Nat.le_refl _) _).alloc (by simp) _⟩, rfl⟩ (by kernel_rfl) ?_
  simp only [List.filterMap_cons, List.filterMap_nil, List.getElem?_toArray, List.getElem?_cons_succ, List.getElem?_cons_zero]
  repeat (refine wpHoist_step (fun K hK => ?_); simp only [hoists, sameUpon]; go_simp; refine hK _ ?_; clear hK K)
  refine wpHoist_nil ?_
  refine wpAnyI_one 11 1 _ _ rfl (by kernel_rfl) ?_
  refine wpList_plain rfl fun K hK => ?_
  go_simp
  go_at_call 44
  have hz3 := H3.out.2.2.2.2
  rw [hz3]
  have hbb : Below W3.heap.size W3 ((W3.alloc (.cells #[.int .i64 n] 3)).alloc (.cells #[.slice a2 bs.length c2] tBytes)).drew := (((Below.refl _ _).alloc (Nat.le_refl _) _).alloc (by simp) _).drew
  refine (HR.out _ W2.heap.size (.slice a2 bs.length c2) (H3.out.1.trans (hbb.mono (by omega))) s2 ((hbb.block _ (lt_of_row H3.out.2.1)).trans H3.out.2.1) ((hbb.block _ (by omega)).trans H3.out.2.2.1) ?_ ?_ ?_ ?_).mono ?_
  · exact (heap_past (w := W3.alloc (.cells #[.int .i64 n] 3)) (by simp; omega) (heap_at (w := W3) _ hz3.symm))
  · exact heap_at (w := W3.alloc (.cells #[.int .i64 n] 3)) _ (by simp; omega)
  · show ((W3.alloc (.cells #[.int .i64 n] 3)).alloc (.cells #[.slice a2 bs.length c2] tBytes)).heap.size = _
    simp; omega
  · exact H3.out.2.2.2.1.keeps (fun k _ hk => hbb.block k hk) (fun _ h _ => h)
  rintro e w' ⟨k, rfl, hr⟩
  refine hK _ _ (wpList_nil ⟨rfl, fun h => absurd (by decide) h, ?_⟩)
  clear hK K
  refine wpAnyI_one 12 0 _ _ rfl (by kernel_rfl) ?_
  refine wpList_plain rfl fun K hK => ?_
  go_simp
  refine hK _ _ (wpList_nil ⟨rfl, fun h => absurd (by decide) h, by kernel_rfl, ?_⟩)
  clear hK K
  go_wp2
  exact hr

end Go.Proofs.Ytiefhmbpaoecfaa

namespace Go.Proofs.Ytiefhmbpaoecfaa
open Go.RowKit Dm

set_option maxRecDepth 100000 in
theorem bytesEqual_c {w : World} {F G : Nat → Prop} {u v : Value} {l k : List UInt8} (h1 : BytesAt w.heap F u l) (h2 : BytesAt w.heap G v k) :
    Calls Try.prog 67 #[u, v] w fun e w' => e = .returned (.bool (decide (l = k))) ∧ w = w' := by
  have c1 := run_string_of h1
  have c2 := run_string_of h2
  obtain ⟨a, c, rfl⟩ := h1.slice
  obtain ⟨a', c', rfl⟩ := h2.slice
  go_enter Try.func67, Try.ntmps67
  go_wp2
  go_ret
  refine ⟨?_, rfl⟩
  congr 2
  by_cases h : l = k <;> simp [h]

set_option maxRecDepth 100000 in
theorem same1_c (w : World) (d1 p1 t1 d2 p2 t2 : Value) (a1 a2 a3 b1 b2 b3 : Int) (x y : ByteArray) :
    Calls Try.prog 53 #[.agg #[d1, p1, t1, .int .i64 a1, .int .i64 a2, .int .i64 a3, .string x], .agg #[d2, p2, t2, .int .i64 b1, .int .i64 b2, .int .i64 b3, .string y]] w fun e w' =>
      e = .returned (.bool (decide ((a1 = b1 ∧ a2 = b2 ∧ a3 = b3) ∧ x = y))) ∧ Below w.heap.size w w' := by
  have hb : Below w.heap.size w ((w.alloc (.cells #[d1, p1, t1, .int .i64 a1, .int .i64 a2, .int .i64 a3, .string x] tStep)).alloc (.cells #[d2, p2, t2, .int .i64 b1, .int .i64 b2, .int .i64 b3, .string y] tStep)) := ((Below.refl _ _).alloc (Nat.le_refl _) _).alloc (by simp) _
  have B := Lib.hid hb
  clear hb
  have E := fun w => eqWhat a1 a2 a3 b1 b2 b3 w
  by_cases h : a1 = b1 ∧ a2 = b2 ∧ a3 = b3
  all_goals
    simp only [h, decide_true, decide_false, and_true, true_and, false_and, and_false, and_self] at E ⊢
    go_enter Try.func53, Try.ntmps53
    go_wp2
    go_ret
  · refine ⟨?_, by have := B.out; rw [h.1, h.2.1, h.2.2] at this; exact this⟩
    congr 2
    rw [ByteArray.toList_eq, ByteArray.toList_eq]
    obtain ⟨⟨x⟩⟩ := x
    obtain ⟨⟨y⟩⟩ := y
    by_cases h : x = y <;> simp [h]
  · exact ⟨rfl, B.out⟩

end Go.Proofs.Ytiefhmbpaoecfaa

namespace Go.Proofs.Ytiefhmbpaoecfaa
open Go.RowKit Dm

theorem used_nonneg (x : St) : 0 ≤ x.used := by unfold St.used; omega
theorem used_le {d : D} (h : d.ok) : d.stand.used ≤ 4194304 := by
  have b : ∀ t, ((d.stand.tp t).length : Int) ≤ 1048576 := fun t => Int.le_trans (by exact_mod_cast stand_tapes h t) h.room1
  have := b 0; have := b 1; have := b 2; have := b 3
  unfold St.used; omega

theorem tp_le_used (x : St) (t : Int) (h0 : 0 ≤ t) (h1 : t ≤ 3) : ((x.tp t).length : Int) ≤ x.used := by
  obtain rfl | rfl | rfl | rfl : t = 0 ∨ t = 1 ∨ t = 2 ∨ t = 3 := by omega
  all_goals unfold St.used; omega

theorem append_ok {d : D} (h : d.ok) (t : Int) (l : List UInt8) (h0 : 0 ≤ t) (h1 : t ≤ 3) (hu : ¬ d.stand.used + l.length > d.room) : (∀ k, ((d.stand.done ⟨2, t, 0, l⟩).tp k).length ≤ d.room) ∧ l.length ≤ 1048576 := by
  have := h.room1
  have := tp_le_used d.stand t h0 h1
  have := used_nonneg d.stand
  refine ⟨fun k => ?_, by omega⟩
  simp only [St.done]
  by_cases hk : k = t
  · subst hk
    simp [upd]
    omega
  · simp [upd, hk]
    exact stand_tapes h k

/-- Bytes are appended to a tape. -/
theorem append_c {p m : Nat} {d : D} {F G : Nat → Prop} {w : World} (x : DiskAt w.heap p m d F) (n : Int) {bv : Value} {l : List UInt8} (hv : BytesAt w.heap G bv l) (hl : l.length ≤ 1099511627776) (hn : d.waits.length ≤ 1000000000000) :
    Calls Try.prog 22 #[.pointer (some ⟨p, 0, none⟩), .int .i64 n, bv] w (Left w p m F (d.append n l)) := by
  obtain ⟨k16, k11, k12, _⟩ := x.cell16
  obtain ⟨a, c, rfl⟩ := hv.slice
  have lt := x.lt
  by_cases h1 : n < 0 ∨ 4 ≤ n
  · have e : d.append n l = (d, 4) := by
      unfold D.append
      rw [if_pos (by omega)]
    rw [e]
    refine (append_range p _ n w k16 h1).mono ?_
    rintro e w' ⟨rfl, hb⟩
    exact left_below x hb
  · have hU : ∀ W, Below w.heap.size w W → Calls Try.prog 47 #[.pointer (some ⟨p, 0, none⟩)] W fun e w' => e = .returned (.int .i64 d.stand.used) ∧ Below W.heap.size W w' := fun W hb => used_d (x.below hb)
    by_cases h2 : d.stand.used + l.length > d.room
    · have e : d.append n l = (d, 280) := by
        unfold D.append
        rw [if_neg (by omega), if_pos h2]
      rw [e]
      refine (append_full p l.length c a n d.room d.stand.used w k16 k12 (by omega) (by omega) (used_nonneg _) (used_le x.ok) hl h2 hU).mono ?_
      rintro e w' ⟨rfl, hb⟩
      exact left_below x hb
    · have e : d.append n l = d.step ⟨2, n, 0, l⟩ := by
        unfold D.append
        rw [if_neg (by omega), if_neg h2]
      rw [e]
      obtain ⟨o1, o2⟩ := append_ok x.ok n l (by omega) (by omega) h2
      refine append_live p l.length c a n d.room d.stand.used l w _ k16 k12 (by omega) (by omega) (used_nonneg _) (used_le x.ok) hl h2 hU G hv ?_
      intro W g v hb hg r0 r1 r2 r3 hz hv1
      have x1 := x.plus hb
      have hok : (⟨2, n, 0, l⟩ : Step).ok d.many := Or.inr (Or.inl ⟨rfl, by show 0 ≤ n; omega, by show n ≤ 3; omega, rfl, o2⟩)
      have st : StepAt W.heap (plus F w W) ⟨2, n, 0, l⟩ (.func (.func 66) #[] #[.pointer (some ⟨g + 1, 0, none⟩), .pointer (some ⟨g + 2, 0, none⟩)])
          (.func (.func 49) #[] #[.pointer (some ⟨w.heap.size, 0, none⟩), .pointer (some ⟨g, 0, none⟩)]) (.int .i64 n) (.int .i64 2) (.int .i64 n) (.int .i64 0) (.string ⟨l.toArray⟩) :=
        ⟨rfl, rfl, rfl, ⟨_, rfl, by simp⟩, Or.inr (Or.inl ⟨rfl, rfl, w.heap.size, g, g + 1, g + 2, v, Or.inr ⟨by omega, by omega⟩, Or.inr ⟨by omega, by omega⟩, Or.inr ⟨by omega, by omega⟩, Or.inr ⟨by omega, by omega⟩, rfl, rfl, r0, r2, r1, r3,
          hv1.keeps (fun _ _ _ => rfl) (fun k hk hl => Or.inr ⟨hk, hl⟩)⟩)⟩
      refine (step_c x1 ⟨2, n, 0, l⟩ hok hn o1 st).mono ?_
      rintro e w' h
      exact ⟨_, h.1, left_later x hb h⟩

/-! Cut. -/
abbrev cutW (w : World) (t n : Int) : World := (w.alloc (.cells #[.int .i64 t] 3)).alloc (.cells #[.int .i64 n] 3)
theorem cutW_below (w : World) (t n : Int) : Below w.heap.size w (cutW w t n) := ((Below.refl _ _).alloc (Nat.le_refl _) _).alloc (by simp) _

theorem cut_none (v : Value) (t n : Int) (w : World) (h : NoneD w v) : Calls Try.prog 23 #[v, .int .i64 t, .int .i64 n] w fun e w' => e = .returned (.int .i64 1) ∧ Below w.heap.size w w' := by
  have H := Lib.hid (h.below (cutW_below w t n))
  clear h
  go_enter Try.func23, Try.ntmps23
  go_wp2_with (go_at_call 33; refine (none_c H.out).mono ?_; rintro e w' ⟨rfl, rfl⟩)
  go_ret
  exact ⟨rfl, cutW_below w t n⟩

set_option maxRecDepth 100000 in
set_option maxHeartbeats 400000 in
theorem cut_bad1 (p : Nat) (t n : Int) (w : World) (h : w.cell? ⟨p, 16, none⟩ = some (.bool true)) (h1 : t < 0) :
    Calls Try.prog 23 #[.pointer (some ⟨p, 0, none⟩), .int .i64 t, .int .i64 n] w fun e w' => e = .returned (.int .i64 4) ∧ Below w.heap.size w w' := by
  have hb := cutW_below w t n
  have lt := block_lt_of_cell h
  have h' := (hb.cell (p := ⟨p, 16, none⟩) lt).trans h
  have k1 : (cutW w t n).cell? ⟨w.heap.size, 0, none⟩ = some (.int .i64 t) := row_cell (heap_past (by simp) (heap_alloc_last w _)) rfl
  have k2 : (cutW w t n).cell? ⟨w.heap.size + 1, 0, none⟩ = some (.int .i64 n) := row_cell (heap_at (w := w.alloc _) _ (by simp)) rfl
  have b1 : decide (t < 0) = true := by simp; omega
  go_enter Try.func23, Try.ntmps23
  go_wp2_with (go_at_call 33; refine (none_at p true _ h').mono ?_; rintro e w' ⟨rfl, rfl⟩)
  go_quiet (fail)
  go_wp2
  go_ret
  exact ⟨rfl, below_drewN hb nq⟩

set_option maxRecDepth 100000 in
set_option maxHeartbeats 400000 in
theorem cut_bad2 (p : Nat) (t n : Int) (w : World) (h : w.cell? ⟨p, 16, none⟩ = some (.bool true)) (h1 : ¬ t < 0) (h2 : 4 ≤ t) :
    Calls Try.prog 23 #[.pointer (some ⟨p, 0, none⟩), .int .i64 t, .int .i64 n] w fun e w' => e = .returned (.int .i64 4) ∧ Below w.heap.size w w' := by
  have hb := cutW_below w t n
  have lt := block_lt_of_cell h
  have h' := (hb.cell (p := ⟨p, 16, none⟩) lt).trans h
  have k1 : (cutW w t n).cell? ⟨w.heap.size, 0, none⟩ = some (.int .i64 t) := row_cell (heap_past (by simp) (heap_alloc_last w _)) rfl
  have k2 : (cutW w t n).cell? ⟨w.heap.size + 1, 0, none⟩ = some (.int .i64 n) := row_cell (heap_at (w := w.alloc _) _ (by simp)) rfl
  have b1 : decide (t < 0) = false := by simp; omega
  have b2 : decide (4 ≤ t) = true := by simp; omega
  go_enter Try.func23, Try.ntmps23
  go_wp2_with (go_at_call 33; refine (none_at p true _ h').mono ?_; rintro e w' ⟨rfl, rfl⟩)
  go_quiet (fail)
  go_wp2
  go_ret
  exact ⟨rfl, below_drewN hb nq⟩

set_option maxRecDepth 100000 in
set_option maxHeartbeats 400000 in
theorem cut_bad3 (p : Nat) (t n : Int) (w : World) (h : w.cell? ⟨p, 16, none⟩ = some (.bool true)) (h1 : ¬ t < 0) (h2 : ¬ 4 ≤ t) (h3 : n < 0) :
    Calls Try.prog 23 #[.pointer (some ⟨p, 0, none⟩), .int .i64 t, .int .i64 n] w fun e w' => e = .returned (.int .i64 4) ∧ Below w.heap.size w w' := by
  have hb := cutW_below w t n
  have lt := block_lt_of_cell h
  have h' := (hb.cell (p := ⟨p, 16, none⟩) lt).trans h
  have k1 : (cutW w t n).cell? ⟨w.heap.size, 0, none⟩ = some (.int .i64 t) := row_cell (heap_past (by simp) (heap_alloc_last w _)) rfl
  have k2 : (cutW w t n).cell? ⟨w.heap.size + 1, 0, none⟩ = some (.int .i64 n) := row_cell (heap_at (w := w.alloc _) _ (by simp)) rfl
  have b1 : decide (t < 0) = false := by simp; omega
  have b2 : decide (4 ≤ t) = false := by simp; omega
  have b3 : decide (n < 0) = true := by simp; omega
  go_enter Try.func23, Try.ntmps23
  go_wp2_with (go_at_call 33; refine (none_at p true _ h').mono ?_; rintro e w' ⟨rfl, rfl⟩)
  go_quiet (fail)
  go_wp2
  go_ret
  exact ⟨rfl, below_drewN hb nq⟩

theorem cut_bad (p : Nat) (t n : Int) (w : World) (h : w.cell? ⟨p, 16, none⟩ = some (.bool true)) (hn : t < 0 ∨ (¬ t < 0 ∧ 4 ≤ t) ∨ (¬ t < 0 ∧ ¬ 4 ≤ t ∧ n < 0)) :
    Calls Try.prog 23 #[.pointer (some ⟨p, 0, none⟩), .int .i64 t, .int .i64 n] w fun e w' => e = .returned (.int .i64 4) ∧ Below w.heap.size w w' := by
  rcases hn with h1 | ⟨h1, h2⟩ | ⟨h1, h2, h3⟩
  · exact cut_bad1 p t n w h h1
  · exact cut_bad2 p t n w h h1 h2
  · exact cut_bad3 p t n w h h1 h2 h3

set_option maxRecDepth 100000 in
set_option maxHeartbeats 1000000 in
theorem cut_long (p t len c : Nat) (a : Option Addr) (n : Int) (w : World) (h : w.cell? ⟨p, 16, none⟩ = some (.bool true)) (ht : t < 4) (hq : w.cell? ⟨p, 1 + t, none⟩ = some (.slice a len c)) (hn : (len : Int) < n) :
    Calls Try.prog 23 #[.pointer (some ⟨p, 0, none⟩), .int .i64 t, .int .i64 n] w fun e w' => e = .returned (.int .i64 4) ∧ Below w.heap.size w w' := by
  have hb := cutW_below w t n
  have lt := block_lt_of_cell h
  have h' := (hb.cell (p := ⟨p, 16, none⟩) lt).trans h
  have k1 : (cutW w t n).cell? ⟨w.heap.size, 0, none⟩ = some (.int .i64 t) := row_cell (heap_past (by simp) (heap_alloc_last w _)) rfl
  have k2 : (cutW w t n).cell? ⟨w.heap.size + 1, 0, none⟩ = some (.int .i64 n) := row_cell (heap_at (w := w.alloc _) _ (by simp)) rfl
  have k3 : (cutW w t n).cell? ⟨p, 1 + t, none⟩ = some (.slice a len c) := (hb.cell (p := ⟨p, 1 + t, none⟩) lt).trans hq
  have h1 : ¬ (t : Int) < 0 := by omega
  have h2 : ¬ 4 ≤ (t : Int) := by omega
  have h3 : ¬ n < 0 := by omega
  have h4 : (0 : Int) ≤ t := by omega
  have h5 : (t : Int) < 4 := by omega
  have h6 : ¬ 4 ≤ t := by omega
  go_enter Try.func23, Try.ntmps23
  go_wp2_with (go_at_call 33; refine (none_at p true _ h').mono ?_; rintro e w' ⟨rfl, rfl⟩)
  go_quiet (fail)
  go_wp2
  go_ret
  exact ⟨rfl, below_drewN hb nq⟩

set_option maxRecDepth 100000 in
set_option maxHeartbeats 1000000 in
theorem cut_live (p t len c n : Nat) (a : Option Addr) (w : World) (R : Ending → World → Prop) (h : w.cell? ⟨p, 16, none⟩ = some (.bool true)) (ht : t < 4) (hq : w.cell? ⟨p, 1 + t, none⟩ = some (.slice a len c)) (hn : n ≤ len)
    (hR : ∀ nq, Calls Try.prog 44 #[.pointer (some ⟨p, 0, none⟩), .agg #[.func (.func 50) #[] #[.pointer (some ⟨w.heap.size, 0, none⟩), .pointer (some ⟨w.heap.size + 1, 0, none⟩)],
        .func (.func 51) #[] #[], .int .i64 t, .int .i64 3, .int .i64 t, .int .i64 n, .string ⟨#[]⟩]] ((cutW w t n).drewN nq) fun e w' => ∃ k, e = .returned (.int .i64 k) ∧ R e w') :
    Calls Try.prog 23 #[.pointer (some ⟨p, 0, none⟩), .int .i64 t, .int .i64 n] w R := by
  have hb := cutW_below w t n
  have lt := block_lt_of_cell h
  have h' := (hb.cell (p := ⟨p, 16, none⟩) lt).trans h
  have k1 : (cutW w t n).cell? ⟨w.heap.size, 0, none⟩ = some (.int .i64 t) := row_cell (heap_past (by simp) (heap_alloc_last w _)) rfl
  have k2 : (cutW w t n).cell? ⟨w.heap.size + 1, 0, none⟩ = some (.int .i64 n) := row_cell (heap_at (w := w.alloc _) _ (by simp)) rfl
  have k3 : (cutW w t n).cell? ⟨p, 1 + t, none⟩ = some (.slice a len c) := (hb.cell (p := ⟨p, 1 + t, none⟩) lt).trans hq
  have h1 : ¬ (t : Int) < 0 := by omega
  have h2 : ¬ 4 ≤ (t : Int) := by omega
  have h3 : ¬ (n : Int) < 0 := by omega
  have h4 : (0 : Int) ≤ t := by omega
  have h5 : (t : Int) < 4 := by omega
  have h6 : ¬ 4 ≤ t := by omega
  have h7 : ¬ len < n := by omega
  have HR := Lib.hid hR
  clear hR
  go_enter Try.func23, Try.ntmps23
  go_wp2_with (go_at_call 33; refine (none_at p true _ h').mono ?_; rintro e w' ⟨rfl, rfl⟩)
  go_quiet (fail)
  go_wp2_with (go_at_call 44; refine (HR.out nq).mono ?_; rintro e w' ⟨k, rfl, hr⟩)
  exact hr

theorem cut_ok {d : D} (h : d.ok) (t n : Int) : ∀ k, ((d.stand.done ⟨3, t, n, []⟩).tp k).length ≤ d.room := by
  intro k
  have := stand_tapes h k
  by_cases hk : k = t
  · subst hk
    simp [St.done, upd]
    omega
  · simp [St.done, upd, hk]
    exact this

/-- A tape is cut. -/
theorem cut_c {p m : Nat} {d : D} {F : Nat → Prop} {w : World} (x : DiskAt w.heap p m d F) (t n : Int) (hn : d.waits.length ≤ 1000000000000) :
    Calls Try.prog 23 #[.pointer (some ⟨p, 0, none⟩), .int .i64 t, .int .i64 n] w (Left w p m F (d.cut t n)) := by
  obtain ⟨k16, k11, k12, _⟩ := x.cell16
  by_cases h1 : t < 0 ∨ t > 3 ∨ n < 0
  · have e : d.cut t n = (d, 4) := by
      unfold D.cut
      rw [if_pos (by omega)]
    rw [e]
    refine (cut_bad p t n w k16 (by omega)).mono ?_
    rintro e w' ⟨rfl, hb⟩
    exact left_below x hb
  · obtain ⟨t, rfl, ht⟩ := natOf (n := t) (k := 3) (by omega) (by omega)
    obtain ⟨ml, l0, l1, l2, l3, wv, stops, after, sa, ra⟩ := x.parts
    obtain ⟨v, hv, hf, bv⟩ := sa.cell.2 t (by omega)
    obtain ⟨a, c, rfl⟩ := bv.slice
    by_cases h2 : n > (d.stand.tp t).length
    · have e : d.cut t n = (d, 4) := by
        unfold D.cut
        rw [if_pos (by omega)]
      rw [e]
      refine (cut_long p t _ c a n w k16 (by omega) hv h2).mono ?_
      rintro e w' ⟨rfl, hb⟩
      exact left_below x hb
    · have e : d.cut t n = d.step ⟨3, t, n, []⟩ := by
        unfold D.cut
        rw [if_neg (by omega)]
      rw [e]
      have hl := stand_tapes x.ok t
      have hr := x.ok.room1
      obtain ⟨n, rfl, hn1⟩ := natOf (n := n) (k := 1048576) (by omega) (by omega)
      refine cut_live p t _ c n a w _ k16 (by omega) hv (by omega) ?_
      intro nq
      have hb0 := cutW_below w t n
      have hb : Below w.heap.size w ((cutW w t n).drewN nq) := below_drewN hb0 nq
      have x1 := x.plus hb
      have hok : (⟨3, t, n, []⟩ : Step).ok d.many := Or.inr (Or.inr ⟨rfl, by show (0 : Int) ≤ t; omega, by show (t : Int) ≤ 3; omega, by show (0 : Int) ≤ n; omega, by show (n : Int) ≤ 1048576; omega, rfl⟩)
      have hz : ((cutW w t n).drewN nq).heap.size = w.heap.size + 2 := by show (cutW w t n).heap.size = _; simp
      have st : StepAt ((cutW w t n).drewN nq).heap (plus F w ((cutW w t n).drewN nq)) ⟨3, t, n, []⟩ (.func (.func 50) #[] #[.pointer (some ⟨w.heap.size, 0, none⟩), .pointer (some ⟨w.heap.size + 1, 0, none⟩)])
          (.func (.func 51) #[] #[]) (.int .i64 t) (.int .i64 3) (.int .i64 t) (.int .i64 n) (.string ⟨#[]⟩) :=
        ⟨rfl, rfl, rfl, ⟨_, rfl, rfl⟩, Or.inr (Or.inr ⟨rfl, rfl, w.heap.size, w.heap.size + 1, Or.inr ⟨by omega, by omega⟩, Or.inr ⟨by omega, by omega⟩, rfl, rfl, heap_past (by simp) (heap_alloc_last w _), heap_at (w := w.alloc _) _ (by simp)⟩)⟩
      refine (step_c x1 ⟨3, t, n, []⟩ hok hn (cut_ok x.ok _ _) st).mono ?_
      rintro e w' h
      exact ⟨_, h.1, left_later x hb h⟩

end Go.Proofs.Ytiefhmbpaoecfaa
