/-
  How many bytes the tapes have.
  CRC-32C: the table; bytes taken.
  Append.
  CRC-32C: bytes taken; the sum of parts.
  CRC-32C: the sum of one part; its bytes.
-/
import Derived.Test.YtgffifleflkjoaaGreatG03
import Derived.Test.YtgffifleflkjoaaGreatG06
import Derived.Laws.Rows
import Derived.Laws.Tables

namespace Go.Proofs.YtgffifleflkjoaaGreat
open Go.RowKit Dm Go.Shelf
attribute [local go_sem] Oper.semAt_some

/-- A result that lies in a cell. -/
theorem results_cell_one {fn : Func} {p : Tmp} {ty : TypeId} (h : fn.results = #[.cell p ty]) (tmps : Array Value) (w : World) (a : Addr) (v : Value) (hp : tmps.getD p undef = .pointer (some a)) (hc : w.cell? a = some v)
    (hi : (isAgg ty).run Tryz.prog w = .ok false w) : (results fn tmps).run Tryz.prog w = .ok v w := by
  have hp' : tmps[p]?.getD undef = .pointer (some a) := by simpa using hp
  simp [results, h, hp', asAddr, loadVar, hi, hc]

/-- Between two rounds of the loop that counts. -/
def UsI (w : World) (ns : List Nat) (k : Nat) (O : Nat → Prop) (W' : World) : Prop :=
  Below w.heap.size w W' ∧ W'.heap[w.heap.size]? = some (.cells #[.int .i64 ((ns.take k).sum : Nat)] 3 (0, 0)) ∧ (∀ i, O i → w.heap.size + 4 ≤ i) ∧ w.heap.size + 4 ≤ W'.heap.size

theorem usI_moves {w A B : World} {ns : List Nat} {k : Nat} {O O' : Nat → Prop} (h : UsI w ns k O A) (hm : Moves O A B) (ho : ∀ i, O' i → O i ∨ A.heap.size ≤ i) : UsI w ns k O' B := by
  obtain ⟨h1, h2, h6, h7⟩ := h
  refine ⟨⟨hm.os.trans h1.os, hm.tape.trans h1.tape, hm.output.trans h1.output, Nat.le_trans h1.size hm.size, fun i hi => ?_⟩, (hm.block _ (by omega) (fun e => by have := h6 _ e; omega)).trans h2, fun i hi => ?_, Nat.le_trans h7 hm.size⟩
  · exact (hm.block i (by have := h1.size; omega) (fun e => by have := h6 i e; omega)).trans (h1.block i hi)
  · rcases ho i hi with e | e
    · exact h6 i e
    · omega

theorem usI_put {w A : World} {ns : List Nat} {k : Nat} {O : Nat → Prop} (h : UsI w ns k O A) (d : Nat) (hd : w.heap.size + 1 ≤ d) (o : Obj) : UsI w ns k O (A.putObj d o) := by
  obtain ⟨h1, h2, h6, h7⟩ := h
  exact ⟨⟨h1.os, h1.tape, h1.output, by simpa using h1.size, fun i hi => (World.putObj_heap_other (by omega)).trans (h1.block i hi)⟩, (World.putObj_heap_other (by omega)).trans h2, h6, by simpa using h7⟩

set_option maxRecDepth 100000 in
set_option maxHeartbeats 2000000 in
theorem used_c (q o : Nat) (ho : o = 0 ∨ o = 5) (a0 a1 a2 a3 : Option Addr) (n0 n1 n2 n3 c0 c1 c2 c3 : Nat) (hn : n0 + n1 + n2 + n3 ≤ 9223372036854775807) (w : World) (h1 : w.cell? ⟨q, o + 1, none⟩ = some (.slice a0 n0 c0)) (h2 : w.cell? ⟨q, o + 2, none⟩ = some (.slice a1 n1 c1))
    (h3 : w.cell? ⟨q, o + 3, none⟩ = some (.slice a2 n2 c2)) (h4 : w.cell? ⟨q, o + 4, none⟩ = some (.slice a3 n3 c3)) :
    Calls Tryz.prog 97 #[.pointer (some ⟨q, o, none⟩)] w fun e w' => e = .returned (.int .i64 ((n0 + n1 + n2 + n3 : Nat) : Int)) ∧ Below w.heap.size w w' := by
  have lt : q < w.heap.size := block_lt_of_cell h1
  have hb0 : Below w.heap.size w (w.alloc (.cells #[.int .i64 0] 3)) := (Below.refl _ _).alloc (Nat.le_refl _) _
  have hb : Below w.heap.size w ((w.alloc (.cells #[.int .i64 0] 3)).alloc (.cells #[.pointer (some ⟨q, o, none⟩)] 117)) := hb0.alloc (by simp) _
  have r0 : ((w.alloc (.cells #[.int .i64 0] 3)).alloc (.cells #[.pointer (some ⟨q, o, none⟩)] 117)).heap[w.heap.size]? = some (.cells #[.int .i64 0] 3 (0, 0)) := (Below.heap_alloc _ _ _ (by simp)).trans (heap_alloc_last w _)
  have k0 : ((w.alloc (.cells #[.int .i64 0] 3)).alloc (.cells #[.pointer (some ⟨q, o, none⟩)] 117)).cell? ⟨w.heap.size + 1, 0, none⟩ = some (.pointer (some ⟨q, o, none⟩)) := (cell_of_row _ _ _ _ _ _ (heap_at (w := w.alloc (.cells #[.int .i64 0] 3)) _ (by simp))).trans rfl
  have IT := Lib.hid (all1_c (w.heap.size + 1) q o ho _ _ _ _ _ k0 ((hb.cell (p := ⟨q, _, none⟩) lt).trans h1) ((hb.cell (p := ⟨q, _, none⟩) lt).trans h2) ((hb.cell (p := ⟨q, _, none⟩) lt).trans h3) ((hb.cell (p := ⟨q, _, none⟩) lt).trans h4))
  have R0 := Lib.hid r0
  clear h1 h2 h3 h4 r0 k0
  refine (callsIn_wide (n := 0)).1 ?_
  refine callsIn_of_wp_marks Tryz.func97 rfl trivial ?_ rfl
  simp only [Tryz.ntmps97, List.size_toArray, List.length_cons, List.length_nil, Nat.reduceAdd, Nat.reduceSub, Array.replicate_succ, Array.replicate_zero, List.push_toArray, List.append_toArray, List.nil_append, List.cons_append]
  gi_wp2_with (refine ⟨trivial, rfl, ?_⟩; gi_at_call 104; refine (callsIn_wide.2 (all_c q o _)).mono ?_; rintro e w' ⟨rfl, rfl⟩)
  refine wpIn_rangeIter (gf := 143) (lb := #[.pointer (some ⟨w.heap.size + 1, 0, none⟩)]) (encs := encT) (xs := tapesL (.slice a0 n0 c0) (.slice a1 n1 c1) (.slice a2 n2 c2) (.slice a3 n3 c3)) (R := fun _ => False) rfl (enters_of Tryz.func143 (by kernel_rfl) rfl) IT.out (fun _ h => h.elim)
    (Below.refl _ _) (fun _ => rfl) (UsI w [n0, n1, n2, n3]) (fun _ _ _ _ => False) (fun k O O' A B h hm _ ho => usI_moves h hm ho) (fun _ _ _ _ _ _ h _ _ _ => h) ?hIb (fun _ _ _ _ _ _ _ h => h) ?h0
    (fun x a' _ => a' = { tmps := #[.pointer (some ⟨q, o, none⟩), undef, .pointer (some ⟨w.heap.size, 0, none⟩), undef, x.2, .pointer (some ⟨q, o, none⟩), .func (.func 143) #[] #[.pointer (some ⟨w.heap.size + 1, 0, none⟩)], .int .i64 x.1, x.2, undef, undef, undef, undef, undef], defers := [] }) (fun _ _ _ _ _ _ _ h => h) ?assign ?body ?done ?stop
  case hIb =>
    intro k O r o W' _ h
    exact usI_put h _ (by simp only [World.size_alloc]; omega) o
  case h0 =>
    intro W' hb' hs
    simp only [World.size_alloc] at hb' hs
    refine ⟨hb.trans (hb'.mono (by omega)), (hb'.block _ (by omega)).trans R0.out, fun i h => h.elim, by omega⟩
  case assign =>
    rintro k ⟨x1, x2⟩ O W' hx hi _ _ _
    simp only [encT]
    gi_wp2
    exact ⟨hi, Keeps.refl _ _, trivial⟩
  case body =>
    rintro k x O a' W' hx hl hd hol hod hi rfl
    clear hl hd
    simp only [World.size_alloc] at hol hod ⊢
    have hk : k < 4 := by
      have := (List.getElem?_eq_some_iff.1 hx).1
      simpa [tapesL] using this
    obtain ⟨h1, h2, h6, h7⟩ := hi
    obtain ⟨a, n, c, hx2, hs⟩ : ∃ a n c, x.2 = .slice a n c ∧ ([n0, n1, n2, n3].take (k + 1)).sum = ([n0, n1, n2, n3].take k).sum + n ∧ ([n0, n1, n2, n3].take k).sum + n ≤ 9223372036854775807 := by
      have kk : k = 0 ∨ k = 1 ∨ k = 2 ∨ k = 3 := by omega
      rcases kk with rfl | rfl | rfl | rfl <;> (simp only [tapesL, List.getElem?_cons_zero, List.getElem?_cons_succ, Option.some.injEq] at hx; subst hx; refine ⟨_, _, _, rfl, ?_, ?_⟩ <;> simp [List.take] <;> omega)
    rw [hx2]
    have e1 : IntKind.i64.wrap ((([n0, n1, n2, n3].take k).sum : Nat) + (n : Int)) = (([n0, n1, n2, n3].take (k + 1)).sum : Nat) := by
      rw [hs.1]
      exact IntWalk.i64_in _ (by omega)
    have c1 : W'.cell? ⟨w.heap.size, 0, none⟩ = some (.int .i64 (([n0, n1, n2, n3].take k).sum : Nat)) := (cell_of_row _ _ _ _ _ _ h2).trans rfl
    have z1 : W'.frozen? ⟨w.heap.size, 0, none⟩ = false := by simp [World.frozen?, h2]
    have HH := Lib.hid (And.intro h1 (And.intro h2 (And.intro h6 (And.intro h7 hs))))
    generalize (([n0, n1, n2, n3].take k).sum : Nat) = s0 at *
    generalize hs1 : (([n0, n1, n2, n3].take (k + 1)).sum : Nat) = s1 at *
    clear h1 h2 h6 h7 hs
    gi_wp2
    obtain ⟨h1, h2, h6, h7, hs⟩ := HH.out
    have other : ∀ i, i ≠ w.heap.size → (W'.setCell ⟨w.heap.size, 0, none⟩ (.int .i64 (s1 : Int))).heap[i]? = W'.heap[i]? := fun i hi => heap_setCell_other W' _ i _ hi
    refine ⟨⟨by simp, fun i hi _ => other i ?_⟩, ⟨h1.os, h1.tape, h1.output, by simpa using h1.size, fun i hi => (other i (by omega)).trans (h1.block i hi)⟩, ?_, h6, by simpa using h7⟩
    · rcases hi with h | h | h | h
      · have := h6 i h; omega
      · exact h.elim
      · omega
      · omega
    · have := heap_setCell_same W' w.heap.size 0 _ _ (.int .i64 (s1 : Int)) h2
      rw [hs1]; exact this
  case done =>
    intro O W2 hi _ hD
    simp only [World.size_alloc] at hD
    obtain ⟨h1, h2, h6, h7⟩ := hi
    have e4 : ((List.take (tapesL (.slice a0 n0 c0) (.slice a1 n1 c1) (.slice a2 n2 c2) (.slice a3 n3 c3)).length [n0, n1, n2, n3]).sum : Nat) = n0 + n1 + n2 + n3 := by simp [tapesL]; omega
    rw [e4] at h2
    generalize hnn : n0 + n1 + n2 + n3 = n at *
    have k1 : W2.cell? ⟨w.heap.size, 0, none⟩ = some (.int .i64 (n : Int)) := (cell_of_row _ _ _ _ _ _ h2).trans rfl
    have z1 : W2.frozen? ⟨w.heap.size, 0, none⟩ = false := by simp [World.frozen?, h2]
    have other : ∀ i, i ≠ w.heap.size → (W2.setCell ⟨w.heap.size, 0, none⟩ (.int .i64 (n : Int))).heap[i]? = W2.heap[i]? := fun i hi => heap_setCell_other W2 _ i _ hi
    have hD' := (other (w.heap.size + 1 + 1) (by omega)).trans hD
    have hr : (W2.setCell ⟨w.heap.size, 0, none⟩ (.int .i64 (n : Int))).heap[w.heap.size]? = some (.cells #[.int .i64 (n : Int)] 3 (0, 0)) := heap_setCell_same W2 w.heap.size 0 _ _ (.int .i64 (n : Int)) h2
    have hr' : ((W2.setCell ⟨w.heap.size, 0, none⟩ (.int .i64 (n : Int))).putObj (w.heap.size + 1 + 1) (.deferred none)).heap[w.heap.size]? = some (.cells #[.int .i64 (n : Int)] 3 (0, 0)) := (World.putObj_heap_other (by omega)).trans hr
    have hbb : Below w.heap.size w ((W2.setCell ⟨w.heap.size, 0, none⟩ (.int .i64 (n : Int))).putObj (w.heap.size + 1 + 1) (.deferred none)) :=
      ⟨h1.os, h1.tape, h1.output, by simpa using h1.size, fun i hi => (World.putObj_heap_other (by omega)).trans ((other i (by omega)).trans (h1.block i hi))⟩
    have HI := Lib.hid (And.intro hr' (And.intro hbb hD'))
    clear h1 h2 h6 h7 other hD' hr hr' hbb hD
    gi_wp2
    simp only [World.size_alloc]
    exact leaves_mark HI.out.2.2 (results_cell_one rfl _ _ ⟨w.heap.size, 0, none⟩ _ rfl ((cell_of_row _ _ _ _ _ _ HI.out.1).trans rfl) (by kernel_rfl)) ⟨by rw [hnn]; rfl, HI.out.2.1⟩
  case stop =>
    intro c k O W' hkx h
    exact h.elim

end Go.Proofs.YtgffifleflkjoaaGreat

namespace Go.Proofs.YtgffifleflkjoaaGreat
open Go.RowKit

abbrev tTab : Nat := 288
theorem infoTab : (Tryz.prog.info? tTab).map (·.size) = some 256 := by kernel_rfl

/-- The table up to its k-th word. -/
def tabC (k : Nat) : Array Value := ((List.range 256).map fun j => if j < k then w32 (Cm.tab j) else w32 0).toArray

theorem tabC_size (k : Nat) : (tabC k).size = 256 := by simp [tabC]
theorem tabC_zero : tabC 0 = Tryz.zeroCells288 := by kernel_rfl
theorem tabC_set (k : Nat) (h : k < 256) : (tabC k).setIfInBounds k (w32 (Cm.tab k)) = tabC (k + 1) := by
  apply Array.ext_getElem?
  intro j
  rw [Array.getElem?_setIfInBounds]
  by_cases hj : k = j
  · subst hj
    simp [tabC, h]
  · rw [if_neg hj]
    by_cases hl : j < 256
    · simp only [tabC, List.getElem?_toArray, List.getElem?_map, List.getElem?_range hl, Option.map_some]
      congr 1
      by_cases h1 : j < k
      · rw [if_pos h1, if_pos (by omega)]
      · rw [if_neg h1, if_neg (by omega)]
    · rw [Array.getElem?_eq_none (by rw [tabC_size]; omega), Array.getElem?_eq_none (by rw [tabC_size]; omega)]
theorem tabC_at (k : Nat) (h : k < 256) : (tabC k)[k]? = some (w32 0) := by
  simp only [tabC, List.getElem?_toArray, List.getElem?_map, List.getElem?_range h, Option.map_some]
  rw [if_neg (by omega)]
theorem tabC_one (k : Nat) : (tabC k).all (·.oneCell') = true := by
  rw [Array.all_eq_true_iff_forall_mem]
  intro x hx
  simp only [tabC, List.mem_toArray, List.mem_map] at hx
  obtain ⟨j, _, rfl⟩ := hx
  split <;> rfl

set_option maxRecDepth 100000 in
set_option maxHeartbeats 4000000 in
theorem crcTable_c (w : World) : Calls Tryz.prog 213 #[] w fun e w' => e = .returned (.agg (tabC 256)) ∧ Below w.heap.size w w' := by
  have hb0 : Below w.heap.size w (w.alloc (.cells (tabC 0) tTab)) := (Below.refl _ _).alloc (Nat.le_refl _) _
  have r0 : (w.alloc (.cells (tabC 0) tTab)).heap[w.heap.size]? = some (.cells (tabC 0) tTab (0, 0)) := heap_alloc_last w _
  rw [tabC_zero] at hb0 r0
  obtain ⟨W0, hW0⟩ : ∃ W0, w.alloc (.cells Tryz.zeroCells288 288) = W0 := ⟨_, rfl⟩
  rw [hW0] at hb0 r0
  rw [← tabC_zero] at r0
  have H0 := Lib.hid (And.intro hb0 r0)
  clear hb0 r0
  go_enter Tryz.func213, Tryz.ntmps213
  go_upto_region 1 with fail
  clear hW0
  go_wp2
  go_loopw [2, 3] (fun _ s wr => ∃ k : Nat, k ≤ 256 ∧ s = .int .i64 (k : Int) ∧ wr.heap[w.heap.size]? = some (.cells (tabC k) tTab (0, 0)) ∧ Below w.heap.size w wr) (fun _ s _ => 256 - (intOf s).toNat)
  case atStart => exact ⟨0, by omega, rfl, H0.out.2, H0.out.1⟩
  case round =>
    obtain ⟨k, hk, rfl, hrow, hb⟩ := hrel
    by_cases hlt : k < 256
    · have h0 : (0 : Int) ≤ (k : Int) := by omega
      have h1 : (k : Int) < 256 := by omega
      have CT := Lib.hid (crcTab_c k wr hlt)
      have HR := Lib.hid (And.intro hrow hb)
      clear hrow hb
      go_wp2_with fail
      refine CT.out.mono ?_
      rintro e w2 ⟨rfl, hb2⟩
      have hr2 := (hb2.block _ (lt_of_row HR.out.1)).trans HR.out.1
      have kc : w2.cell? ⟨w.heap.size, k, none⟩ = some (w32 0) := (cell_of_row _ _ _ _ _ _ hr2).trans (tabC_at k hlt)
      have zc : w2.frozen? ⟨w.heap.size, k, none⟩ = false := by simp [World.frozen?, hr2]
      have H2 := Lib.hid (And.intro hb2 hr2)
      clear hb2 hr2
      go_wp2
      go_roundw
      case rel =>
        have m : Moves (fun j => j = w.heap.size) w2 (w2.setCell ⟨w.heap.size, k, none⟩ (w32 (Cm.tab k))) := ⟨rfl, rfl, rfl, by simp, fun j _ hn => heap_setCell_other w2 _ j _ hn⟩
        refine ⟨k + 1, by omega, by go_num, ?_, Moves.new (HR.out.2.trans (H2.out.1.mono HR.out.2.size)) m (Nat.le_refl _)⟩
        rw [← tabC_set k hlt]
        exact heap_setCell_same w2 w.heap.size k (tabC k) tTab (w32 (Cm.tab k)) H2.out.2
      case measure => simp [intOf]; omega
    · obtain rfl : k = 256 := by omega
      have HR := Lib.hid (And.intro hrow hb)
      clear hrow hb
      go_wp2_with (first
        | (refine wpList_load_row rfl tTab (.tmp 0) rfl w.heap.size rfl tTab (tabC 256) (0, 0) _ HR.out.1 Tryz.underlying288 rfl infoTab ?_)
        | (refine wpList_store_abs rfl tTab (.tmp 0) (.tmp 12) rfl w.heap.size (tabC 256) rfl rfl tTab (tabC 256) HR.out.1 (by rw [infoTab, tabC_size]) rfl (tabC_one _) ?_; intro W1 HW1 HM1 HS1))
      refine bodyPost_ret (results_cell_row rfl _ _ w.heap.size tTab (tabC 256) (0, 0) _ rfl HW1.out Tryz.underlying288 rfl infoTab) rfl ⟨rfl, Moves.new HR.out.2 HM1 (Nat.le_refl _)⟩

end Go.Proofs.YtgffifleflkjoaaGreat

namespace Go.Proofs.YtgffifleflkjoaaGreat
open Go.RowKit Dm

theorem BytesAt.slice {h : Array Obj} {F : Nat → Prop} {v : Value} {l : List UInt8} (x : BytesAt h F v l) : ∃ a c, v = .slice a l.length c := by
  rcases x with ⟨rfl, rfl⟩ | ⟨b, o, cap, c, t, fr, rfl, _⟩
  · exact ⟨_, _, rfl⟩
  · exact ⟨_, _, rfl⟩

/-- Bytes are cloned. -/
theorem clone_c {w : World} {G : Nat → Prop} {v : Value} {l : List UInt8} (x : BytesAt w.heap G v l) (hl : l.length ≤ 1099511627776) : Calls Tryz.prog 98 #[v] w (GivesBytes w l) := by
  rcases x with ⟨rfl, rfl⟩ | ⟨b, o, cap, c, t, fr, rfl, h2, h3, g2, g3, g4⟩
  · refine (clone_nil w).mono ?_
    rintro e w' ⟨rfl, rfl⟩
    exact ⟨_, rfl, Below.refl _ _, Or.inl ⟨rfl, rfl⟩⟩
  · exact clone_some b o cap l w hl (fun i x hi => (cell_of_row _ _ _ _ _ _ g3).trans (g4 i x hi))

/-- How many bytes a disk's tapes have. -/
theorem used_d {p m : Nat} {d : D} {F : Nat → Prop} {w : World} (x : DiskAt w.heap p m d F) : Calls Tryz.prog 97 #[.pointer (some ⟨p, 0, none⟩)] w fun e w' => e = .returned (.int .i64 d.stand.used) ∧ Below w.heap.size w w' := by
  have hok := x.ok
  have b : ∀ t, ((d.stand.tp t).length : Int) ≤ 1048576 := fun t => Int.le_trans (by exact_mod_cast stand_tapes hok t) hok.room1
  have b0 := b 0
  have b1 := b 1
  have b2 := b 2
  have b3 := b 3
  obtain ⟨t0, t1, t2, t3, ml, l0, l1, l2, l3, wv, stops, after, c1, _, _, _, _, _, _, _, _, s0, s1, s2, s3, _⟩ := x.cells
  obtain ⟨a0, e0, rfl⟩ := s0.slice
  obtain ⟨a1, e1, rfl⟩ := s1.slice
  obtain ⟨a2, e2, rfl⟩ := s2.slice
  obtain ⟨a3, e3, rfl⟩ := s3.slice
  refine (used_c p 0 (Or.inl rfl) a0 a1 a2 a3 (d.stand.tp 0).length (d.stand.tp 1).length (d.stand.tp 2).length (d.stand.tp 3).length e0 e1 e2 e3 (by omega) w ?_ ?_ ?_ ?_).mono ?_
  · rw [cell_of_row _ _ _ _ _ _ c1]; rfl
  · rw [cell_of_row _ _ _ _ _ _ c1]; rfl
  · rw [cell_of_row _ _ _ _ _ _ c1]; rfl
  · rw [cell_of_row _ _ _ _ _ _ c1]; rfl
  · rintro e w' ⟨rfl, hb⟩
    refine ⟨?_, hb⟩
    unfold St.used
    simp

theorem append_none (v bv : Value) (n : Int) (w : World) (h : NoneD w v) : Calls Tryz.prog 59 #[v, .int .i64 n, bv] w fun e w' => e = .returned (.int .i64 1) ∧ Below w.heap.size w w' := by
  have hb : Below w.heap.size w (w.alloc (.cells #[.int .i64 n] 3)) := (Below.refl _ _).alloc (Nat.le_refl _) _
  have H := Lib.hid (h.below hb)
  clear h
  go_enter Tryz.func59, Tryz.ntmps59
  go_wp2_with (go_at_call 45; refine (none_c H.out).mono ?_; rintro e w' ⟨rfl, rfl⟩)
  go_ret
  exact ⟨rfl, hb⟩

theorem append_range (p : Nat) (bv : Value) (n : Int) (w : World) (h : w.cell? ⟨p, 16, none⟩ = some (.bool true)) (hn : n < 0 ∨ 4 ≤ n) :
    Calls Tryz.prog 59 #[.pointer (some ⟨p, 0, none⟩), .int .i64 n, bv] w fun e w' => e = .returned (.int .i64 4) ∧ Below w.heap.size w w' := by
  have hb : Below w.heap.size w (w.alloc (.cells #[.int .i64 n] 3)) := (Below.refl _ _).alloc (Nat.le_refl _) _
  have h' := (hb.cell (p := ⟨p, 16, none⟩) (block_lt_of_cell h)).trans h
  by_cases hn0 : n < 0
  all_goals
    have hn2 : ¬ n < 0 → 4 ≤ n := fun h => by omega
    simp only [hn0, not_true_eq_false, not_false_eq_true, forall_const, false_implies] at hn2
    go_enter Tryz.func59, Tryz.ntmps59
    go_wp2_with (go_at_call 45; refine (none_at p true _ h').mono ?_; rintro e w' ⟨rfl, rfl⟩)
    go_ret
    exact ⟨rfl, hb⟩

set_option maxRecDepth 100000 in
set_option maxHeartbeats 1000000 in
theorem append_full (p l c : Nat) (a : Option Addr) (n room u : Int) (w : World) (h : w.cell? ⟨p, 16, none⟩ = some (.bool true)) (h2 : w.cell? ⟨p, 12, none⟩ = some (.int .i64 room)) (hn0 : 0 ≤ n) (hn1 : n < 4) (hu0 : 0 ≤ u) (hu1 : u ≤ 4194304) (hl : l ≤ 1099511627776) (hf : u + l > room)
    (hU : ∀ W, Below w.heap.size w W → Calls Tryz.prog 97 #[.pointer (some ⟨p, 0, none⟩)] W fun e w' => e = .returned (.int .i64 u) ∧ Below W.heap.size W w') :
    Calls Tryz.prog 59 #[.pointer (some ⟨p, 0, none⟩), .int .i64 n, .slice a l c] w fun e w' => e = .returned (.int .i64 280) ∧ Below w.heap.size w w' := by
  have hb : Below w.heap.size w (w.alloc (.cells #[.int .i64 n] 3)) := (Below.refl _ _).alloc (Nat.le_refl _) _
  have lt : p < w.heap.size := block_lt_of_cell h
  have h' := (hb.cell (p := ⟨p, 16, none⟩) lt).trans h
  have hw : IntKind.i64.wrap (u + (l : Int)) = u + (l : Int) := IntWalk.i64_in _ (by omega)
  have nlt : ¬ n < 0 := by omega
  have nge : ¬ 4 ≤ n := by omega
  have gt : room < u + (l : Int) := hf
  have HU := Lib.hid hU
  clear hU hf
  have ne : Nonempty (Wd (Below w.heap.size w)) := ⟨⟨w, Below.refl _ _⟩⟩
  have x2 : ∀ x : Wd (Below w.heap.size w), x.world.cell? ⟨p, 12, none⟩ = some (.int .i64 room) := fun x => (x.ok.cell (p := ⟨p, 12, none⟩) lt).trans h2
  go_enter Tryz.func59, Tryz.ntmps59
  go_wp2_with (go_at_call 45; refine (none_at p true _ h').mono ?_; rintro e w' ⟨rfl, rfl⟩)
  refine wp_region_hoist (fun w' => ∃ x : Wd (Below w.heap.size w), w' = x.world) [] (by kernel_rfl) ?_
  refine wpAnyI_reads [0, 1, 2, 4, 5, 7, 8, 9, 10] 4 _ ⟨⟨_, hb.drew⟩, rfl⟩ (by kernel_rfl) ?_
  simp only [List.filterMap_cons, List.filterMap_nil, List.getElem?_toArray, List.getElem?_cons_succ, List.getElem?_cons_zero]
  repeat (refine wpHoist_step (fun K hK => ?_); simp only [hoists, sameUpon]; go_simp; refine hK _ ?_; clear hK K)
  refine wpHoist_nil ?_
  refine wpAnyI_one 3 3 _ _ rfl (by kernel_rfl) ?_
  refine wpList_plain rfl fun K hK => ?_
  go_simp
  go_at_call 97
  refine (HU.out _ hb.drew).mono ?_
  rintro e W1 ⟨rfl, hb1⟩
  have hb2 := hb.drew.trans (hb1.mono (by simp))
  refine hK _ _ (wpList_nil ⟨rfl, fun _ => ⟨⟨_, hb2⟩, rfl⟩, ?_⟩)
  clear hK K
  refine wpAnyI_reads [6, 11, 12] 0 _ ⟨⟨_, hb2⟩, rfl⟩ (by kernel_rfl) ?_
  simp only [List.filterMap_cons, List.filterMap_nil, List.getElem?_toArray, List.getElem?_cons_succ, List.getElem?_cons_zero]
  repeat (refine wpHoist_step (fun K hK => ?_); simp only [hoists, sameUpon]; go_simp; refine hK _ ?_; clear hK K)
  refine wpHoist_nil ?_
  refine ⟨by kernel_rfl, ?_⟩
  go_wp2
  go_ret
  exact ⟨rfl, hb2⟩

set_option maxRecDepth 100000 in
set_option maxHeartbeats 2000000 in
theorem append_live (p l c : Nat) (a : Option Addr) (n room u : Int) (bs : List UInt8) (w : World) (R : Ending → World → Prop) (h : w.cell? ⟨p, 16, none⟩ = some (.bool true)) (h2 : w.cell? ⟨p, 12, none⟩ = some (.int .i64 room)) (hn0 : 0 ≤ n) (hn1 : n < 4) (hu0 : 0 ≤ u) (hu1 : u ≤ 4194304) (hl : l ≤ 1099511627776) (hf : ¬ u + l > room)
    (hU : ∀ W, Below w.heap.size w W → Calls Tryz.prog 97 #[.pointer (some ⟨p, 0, none⟩)] W fun e w' => e = .returned (.int .i64 u) ∧ Below W.heap.size W w')
    (F : Nat → Prop) (hv : BytesAt w.heap F (.slice a l c) bs)
    (hR : ∀ W g v, Below w.heap.size w W → w.heap.size < g → W.heap[w.heap.size]? = some (.cells #[.int .i64 n] 3 (0, 0)) → W.heap[g]? = some (.cells #[v] tBytes (0, 0)) → W.heap[g + 1]? = some (.cells #[.int .i64 n] 3 (0, 0)) → W.heap[g + 2]? = some (.cells #[v] tBytes (0, 0)) → W.heap.size = g + 3 → BytesAt W.heap (fun k => w.heap.size ≤ k) v bs →
      Calls Tryz.prog 99 #[.pointer (some ⟨p, 0, none⟩), .agg #[.func (.func 142) #[] #[.pointer (some ⟨g + 1, 0, none⟩), .pointer (some ⟨g + 2, 0, none⟩)],
        .func (.func 101) #[] #[.pointer (some ⟨w.heap.size, 0, none⟩), .pointer (some ⟨g, 0, none⟩)], .int .i64 n, .int .i64 2, .int .i64 n, .int .i64 0, .string ⟨bs.toArray⟩]] W fun e w' => ∃ k, e = .returned (.int .i64 k) ∧ R e w') :
    Calls Tryz.prog 59 #[.pointer (some ⟨p, 0, none⟩), .int .i64 n, .slice a l c] w R := by
  have hb : Below w.heap.size w (w.alloc (.cells #[.int .i64 n] 3)) := (Below.refl _ _).alloc (Nat.le_refl _) _
  have lt : p < w.heap.size := block_lt_of_cell h
  have h' := (hb.cell (p := ⟨p, 16, none⟩) lt).trans h
  have r0 : (w.alloc (.cells #[.int .i64 n] 3)).heap[w.heap.size]? = some (.cells #[.int .i64 n] 3 (0, 0)) := heap_alloc_last w _
  have hw : IntKind.i64.wrap (u + (l : Int)) = u + (l : Int) := IntWalk.i64_in _ (by omega)
  have nlt : ¬ n < 0 := by omega
  have nge : ¬ 4 ≤ n := by omega
  have gt : ¬ room < u + (l : Int) := hf
  have hlen : bs.length = l := by
    rcases hv with ⟨h1, rfl⟩ | ⟨b', o', cap', cc, t, fr, h1, _⟩
    · simp only [Value.slice.injEq] at h1; simp [h1.2.1]
    · simp only [Value.slice.injEq] at h1; exact h1.2.1.symm
  have HU := Lib.hid hU
  have HV := Lib.hid hv
  have HR := Lib.hid hR
  have HB := Lib.hid (And.intro hb (And.intro r0 (And.intro hlen hl)))
  clear hU hf hv hR r0 hlen
  have ne : Nonempty (Wd (Below w.heap.size w)) := ⟨⟨w, Below.refl _ _⟩⟩
  have x2 : ∀ x : Wd (Below w.heap.size w), x.world.cell? ⟨p, 12, none⟩ = some (.int .i64 room) := fun x => (x.ok.cell (p := ⟨p, 12, none⟩) lt).trans h2
  go_enter Tryz.func59, Tryz.ntmps59
  go_wp2_with (go_at_call 45; refine (none_at p true _ h').mono ?_; rintro e w' ⟨rfl, rfl⟩)
  refine wp_region_hoist (fun w' => ∃ x : Wd (Below w.heap.size w), w' = x.world) [] (by kernel_rfl) ?_
  refine wpAnyI_reads [0, 1, 2, 4, 5, 7, 8, 9, 10] 4 _ ⟨⟨_, hb.drew⟩, rfl⟩ (by kernel_rfl) ?_
  simp only [List.filterMap_cons, List.filterMap_nil, List.getElem?_toArray, List.getElem?_cons_succ, List.getElem?_cons_zero]
  repeat (refine wpHoist_step (fun K hK => ?_); simp only [hoists, sameUpon]; go_simp; refine hK _ ?_; clear hK K)
  refine wpHoist_nil ?_
  refine wpAnyI_one 3 3 _ _ rfl (by kernel_rfl) ?_
  refine wpList_plain rfl fun K hK => ?_
  go_simp
  go_at_call 97
  refine (HU.out _ hb.drew).mono ?_
  rintro e W1 ⟨rfl, hb1⟩
  have hb2 := hb.drew.trans (hb1.mono (by simp))
  refine hK _ _ (wpList_nil ⟨rfl, fun _ => ⟨⟨_, hb2⟩, rfl⟩, ?_⟩)
  clear hK K
  refine wpAnyI_reads [6, 11, 12] 0 _ ⟨⟨_, hb2⟩, rfl⟩ (by kernel_rfl) ?_
  simp only [List.filterMap_cons, List.filterMap_nil, List.getElem?_toArray, List.getElem?_cons_succ, List.getElem?_cons_zero]
  repeat (refine wpHoist_step (fun K hK => ?_); simp only [hoists, sameUpon]; go_simp; refine hK _ ?_; clear hK K)
  refine wpHoist_nil ?_
  refine ⟨by kernel_rfl, ?_⟩
  have s1 : w.heap.size < W1.heap.size := by have := hb1.size; simp at this; omega
  have r1 : W1.heap[w.heap.size]? = some (.cells #[.int .i64 n] 3 (0, 0)) := (hb1.block w.heap.size (by simp)).trans HB.out.2.1
  have H1 := Lib.hid (And.intro hb2 (And.intro s1 r1))
  clear hb1 hb2 s1 r1 hb x2 ne h2 h'
  go_wp2_with (go_at_call 98
               refine (clone_c (HV.out.below H1.out.1) (by rw [HB.out.2.2.1]; exact HB.out.2.2.2)).mono ?_
               rintro e W2 ⟨v, rfl, hb2, hv2⟩
               obtain ⟨a2, c2, rfl⟩ := hv2.slice)
  clear gt nlt nge hw
  have hb3 : Below w.heap.size w (W2.alloc (.cells #[.slice a2 bs.length c2] tBytes)) := (H1.out.1.trans (hb2.mono (by have := H1.out.2.1; omega))).alloc (by have := H1.out.2.1; have := hb2.size; omega) _
  have s2 : w.heap.size < W2.heap.size := by have := H1.out.2.1; have := hb2.size; omega
  have r2 : W2.heap[w.heap.size]? = some (.cells #[.int .i64 n] 3 (0, 0)) := (hb2.block _ H1.out.2.1).trans H1.out.2.2
  have r3 : (W2.alloc (.cells #[.slice a2 bs.length c2] tBytes)).heap[w.heap.size]? = some (.cells #[.int .i64 n] 3 (0, 0)) := heap_past s2 r2
  have r4 : (W2.alloc (.cells #[.slice a2 bs.length c2] tBytes)).heap[W2.heap.size]? = some (.cells #[.slice a2 bs.length c2] tBytes (0, 0)) := heap_at _ rfl
  obtain ⟨W3, hW3⟩ : ∃ W3, W2.alloc (.cells #[.slice a2 bs.length c2] tBytes) = W3 := ⟨_, rfl⟩
  have s3 : W3.heap.size = W2.heap.size + 1 := by rw [← hW3]; simp
  have hv3 : BytesAt W3.heap (fun k => w.heap.size ≤ k) (.slice a2 bs.length c2) bs := by
    rw [← hW3]
    exact hv2.keeps (fun k _ hk => heap_old_own _ _ _ hk) (fun k hk _ => by have := H1.out.2.1; show w.heap.size ≤ k; have hk' : W1.heap.size ≤ k := hk; omega)
  simp only [tBytes] at hW3
  rw [hW3] at hb3 r3 r4 ⊢
  clear hW3 hv2 hb2 r2
  have x1 : ∀ x : Wd (Below W3.heap.size W3), x.world.cell? ⟨w.heap.size, 0, none⟩ = some (.int .i64 n) := fun x => (x.ok.cell (p := ⟨w.heap.size, 0, none⟩) (lt_of_row r3)).trans ((cell_of_row _ _ _ _ _ _ r3).trans rfl)
  have x2 : ∀ x : Wd (Below W3.heap.size W3), x.world.cell? ⟨W2.heap.size, 0, none⟩ = some (.slice a2 bs.length c2) := fun x => (x.ok.cell (p := ⟨W2.heap.size, 0, none⟩) (lt_of_row r4)).trans ((cell_of_row _ _ _ _ _ _ r4).trans rfl)
  have x3 : ∀ x : Wd (Below W3.heap.size W3), (convert tBytes 9 (.slice a l c)).run Tryz.prog x.world = .ok (.string ⟨bs.toArray⟩) x.world := fun x => run_string_of (HV.out.below (hb3.trans (x.ok.mono (by omega))))
  have ne : Nonempty (Wd (Below W3.heap.size W3)) := ⟨⟨W3, Below.refl _ _⟩⟩
  have H3 := Lib.hid (And.intro hb3 (And.intro r3 (And.intro r4 (And.intro hv3 s3))))
  clear hb3 r3 r4 hv3 s3
  refine wp_region_hoist (fun w' => ∃ x : Wd (Below W3.heap.size W3), w' = x.world) [11, 12] (by kernel_rfl) ?_
  refine wpAnyI_reads [0, 1, 2, 4, 5, 6, 7, 8, 9] 4 _ ⟨⟨_, (Below.refl _ _).drew⟩, rfl⟩ (by kernel_rfl) ?_
  simp only [List.filterMap_cons, List.filterMap_nil, List.getElem?_toArray, List.getElem?_cons_succ, List.getElem?_cons_zero]
  repeat (refine wpHoist_step (fun K hK => ?_); simp only [hoists, sameUpon]; go_simp; refine hK _ ?_; clear hK K)
  refine wpHoist_nil ?_
  refine wpAnyI_one 3 3 _ _ rfl (by kernel_rfl) ?_
  refine wpList_plain rfl fun K hK => ?_
  go_simp
  go_at_call 100
  refine (appended_c _ _ _ _ _).mono ?_
  rintro e w' ⟨rfl, rfl⟩
  refine hK _ _ (wpList_nil ⟨rfl, fun _ => ⟨⟨_, (((Below.refl _ _).drew).alloc (Nat.le_refl _) _).alloc (by simp) _⟩, rfl⟩, ?_⟩)
  clear hK K
  refine wpAnyI_reads [10] 2 _ ⟨⟨_, (((Below.refl _ _).drew).alloc (Nat.le_refl _) _).alloc (by simp) _⟩, rfl⟩ (by kernel_rfl) ?_
  simp only [List.filterMap_cons, List.filterMap_nil, List.getElem?_toArray, List.getElem?_cons_succ, List.getElem?_cons_zero]
  repeat (refine wpHoist_step (fun K hK => ?_); simp only [hoists, sameUpon]; go_simp; refine hK _ ?_; clear hK K)
  refine wpHoist_nil ?_
  refine wpAnyI_one 11 1 _ _ rfl (by kernel_rfl) ?_
  refine wpList_plain rfl fun K hK => ?_
  go_simp
  go_at_call 99
  have hz3 := H3.out.2.2.2.2
  rw [hz3]
  have hbb : Below W3.heap.size W3 ((W3.alloc (.cells #[.int .i64 n] 3)).alloc (.cells #[.slice a2 bs.length c2] tBytes)).drew := (((Below.refl _ _).alloc (Nat.le_refl _) _).alloc (by simp) _).drew
  refine (HR.out _ W2.heap.size (.slice a2 bs.length c2) (H3.out.1.trans (hbb.mono (by omega))) s2 ((hbb.block _ (lt_of_row H3.out.2.1)).trans H3.out.2.1) ((hbb.block _ (by omega)).trans H3.out.2.2.1) ?_ ?_ ?_ ?_).mono ?_
  · exact (heap_past (w := W3.alloc (.cells #[.int .i64 n] 3)) (by simp; omega) (heap_at (w := W3) _ hz3.symm))
  · exact heap_at (w := W3.alloc (.cells #[.int .i64 n] 3)) _ (by simp; omega)
  · show ((W3.alloc (.cells #[.int .i64 n] 3)).alloc (.cells #[.slice a2 bs.length c2] tBytes)).heap.size = _
    simp; omega
  · exact H3.out.2.2.2.1.keeps (fun k _ hk => hbb.block k hk) (fun _ h _ => h)
  rintro e w' ⟨k, rfl, hr⟩
  refine hK _ _ (wpList_nil ⟨rfl, fun h => absurd (by decide) h, ?_⟩)
  clear hK K
  refine wpAnyI_one 12 0 _ _ rfl (by kernel_rfl) ?_
  refine wpList_plain rfl fun K hK => ?_
  go_simp
  refine hK _ _ (wpList_nil ⟨rfl, fun h => absurd (by decide) h, by kernel_rfl, ?_⟩)
  clear hK K
  go_wp2
  exact hr

end Go.Proofs.YtgffifleflkjoaaGreat

namespace Go.Proofs.YtgffifleflkjoaaGreat
open Go.RowKit

/-- A sum under way: its word, and the table. -/
def runC (r : Nat) : Array Value := (w32 r :: (List.range 256).map fun j => w32 (Cm.tab j)).toArray
theorem runC_size (r : Nat) : (runC r).size = 257 := by simp [runC]
theorem runC_set (r s : Nat) : (runC r).setIfInBounds 0 (w32 s) = runC s := by simp [runC]
theorem runC_tab (r j : Nat) (h : j < 256) : (runC r)[1 + j]? = some (w32 (Cm.tab j)) := by
  rw [Nat.add_comm]
  simp [runC, h]
theorem runC_one (r : Nat) : (runC r).all (·.oneCell') = true := by
  rw [Array.all_eq_true_iff_forall_mem]
  intro x hx
  simp only [runC, List.mem_toArray, List.mem_cons, List.mem_map] at hx
  rcases hx with rfl | ⟨j, _, rfl⟩ <;> rfl

theorem BytesAt.byte {w : World} {F : Nat → Prop} {a : Option Addr} {n c : Nat} {l : List UInt8} (x : BytesAt w.heap F (.slice a n c) l) {k : Nat} {u : UInt8} (h : l[k]? = some u) :
    ∃ b o, a = some ⟨b, o, none⟩ ∧ F b ∧ b < w.heap.size ∧ w.cell? ⟨b, o + k, none⟩ = some (bval u) := by
  rcases x with ⟨_, rfl⟩ | ⟨b, o, cap, c', t, fr, h1, _, _, g2, g3, g4⟩
  · simp at h
  · exact ⟨b, o, (Value.slice.inj h1).1, g2, lt_of_row g3, (cell_of_row _ _ _ _ _ _ g3).trans (g4 k u h)⟩

theorem idx_bits (R c : Nat) (hc : c < 256) : bits .xor .u8 (IntKind.u8.wrap (R : Int)) (c : Int) = (((R ^^^ c) % 256 : Nat) : Int) := by
  rw [IntKind.wrap_u8', show (R : Int) % 256 = ((R % 256 : Nat) : Int) by omega, u8_xor_nat _ _ (by omega) hc]
  have : (R ^^^ c) % 2 ^ 8 = (R % 2 ^ 8) ^^^ (c % 2 ^ 8) := Nat.xor_mod_two_pow
  rw [show (256 : Nat) = 2 ^ 8 from rfl, this, Nat.mod_eq_of_lt (a := c) (by simpa using hc)]
theorem word_bits (R T : Nat) (hR : R < 4294967296) (hT : T < 4294967296) : bits .xor .u32 ((R : Int) / 256) (T : Int) = ((R / 256 ^^^ T : Nat) : Int) := by
  rw [show (R : Int) / 256 = ((R / 256 : Nat) : Int) by omega, u32_xor_nat _ _ (by omega) hT]

set_option maxRecDepth 100000 in
set_option maxHeartbeats 4000000 in
theorem crcTake_c (g r : Nat) (w : World) {v : Value} {l : List UInt8} (hr : r < 4294967296) (hg : w.heap[g]? = some (.cells (runC r) tRun (0, 0))) (hv : BytesAt w.heap (fun k => k ≠ g) v l) (hl : l.length ≤ 9223372036854775807) :
    Calls Tryz.prog 214 #[.pointer (some ⟨g, 0, none⟩), v] w fun e w' => e = .returned (.tuple #[]) ∧ w'.heap[g]? = some (.cells (runC (Cm.regOn r l)) tRun (0, 0)) ∧ Moves (fun k => k = g) w w' ∧ w'.heap.size = w.heap.size := by
  obtain ⟨a, cap, rfl⟩ := hv.slice
  have HV := Lib.hid hv
  generalize hn : l.length = n at *
  have H := Lib.hid (And.intro hg (And.intro hr hn))
  clear hv hg hr hn
  go_enter Tryz.func214, Tryz.ntmps214
  go_wp2
  go_loopw [5, 8] (fun _ s wr => ∃ k : Nat, k ≤ n ∧ s = .int .i64 (k : Int) ∧ wr.heap[g]? = some (.cells (runC (Cm.regOn r (l.take k))) tRun (0, 0)) ∧ Moves (fun j => j = g) w wr ∧ wr.heap.size = w.heap.size) (fun _ s _ => n - (intOf s).toNat)
  case atStart => exact ⟨0, Nat.zero_le _, rfl, H.out.1, Moves.refl _ _, rfl⟩
  case round =>
    obtain ⟨k, hk, rfl, hrow, hm, hz⟩ := hrel
    by_cases hlt : k < n
    · have h0 : (0 : Int) ≤ (k : Int) := by omega
      have h1 : (k : Int) < (n : Int) := by omega
      obtain ⟨u, hu⟩ : ∃ u, l[k]? = some u := ⟨_, List.getElem?_eq_getElem (by rw [H.out.2.2]; exact hlt)⟩
      obtain ⟨b, o, rfl, hbg, hbl, hc⟩ := HV.out.byte hu
      have hcell : wr.cell? ⟨b, o + k, none⟩ = some (.int .u8 u.toNat) := by
        rw [World.cell?_of_block (w := w) (a := ⟨b, o + k, none⟩) (hm.block b hbl hbg)]; exact hc
      have hreg : Cm.regOn r (l.take k) < 4294967296 := Cm.regOn_lt _ H.out.2.1
      have hnext : Cm.regOn r (l.take (k + 1)) = Cm.byteOn (Cm.regOn r (l.take k)) u.toNat := by
        rw [List.take_add_one, hu, Cm.regOn_append]; rfl
      generalize Cm.regOn r (l.take k) = R at *
      have k0 : wr.cell? ⟨g, 0, none⟩ = some (.int .u32 R) := row_cell hrow rfl
      have z0 : wr.frozen? ⟨g, 0, none⟩ = false := row_free hrow 0
      have u0 : (0 : Int) ≤ (u.toNat : Int) := by omega
      have u1 : (u.toNat : Int) < 256 := by have := u.toNat_lt; omega
      have r0 : (0 : Int) ≤ (R : Int) := by omega
      have r1 : (R : Int) < 4294967296 := by omega
      have H2 := Lib.hid (And.intro hrow (And.intro hm (And.intro hz hnext)))
      clear hrow hm hz hnext hc hu
      have hx := idx_bits R u.toNat u.toNat_lt
      have hj : (R ^^^ u.toNat) % 256 < 256 := Nat.mod_lt _ (by decide)
      have hw := word_bits R (Cm.tab ((R ^^^ u.toNat) % 256)) hreg (Cm.steps_lt 8 (by omega))
      have kj : wr.cell? ⟨g, 1 + (R ^^^ u.toNat) % 256, none⟩ = some (w32 (Cm.tab ((R ^^^ u.toNat) % 256))) := row_cell H2.out.1 (runC_tab R _ hj)
      obtain ⟨N, hN⟩ : ∃ N, R / 256 ^^^ Cm.tab ((R ^^^ u.toNat) % 256) = N := ⟨_, rfl⟩
      have HN := Lib.hid (show Cm.byteOn R u.toNat = N from hN)
      rw [hN] at hw
      clear hN
      generalize Cm.tab ((R ^^^ u.toNat) % 256) = T at *
      generalize (R ^^^ u.toNat) % 256 = j at *
      have j0 : (0 : Int) ≤ (j : Int) := by omega
      have j1 : (j : Int) < 256 := by omega
      go_upto_region 3 with fail
      refine wp_region_tail 24 (by kernel_rfl) (by kernel_rfl) ?_
      simp only [List.take_succ_cons, List.take_zero, List.drop_succ_cons, List.drop_zero]
      repeat still_step
      refine wpStill_nil ?_
      refine wpList_plain rfl fun K hK => ?_
      go_simp
      refine hK _ _ ?_
      simp only [wpList]
      go_wp2
      go_roundw
      case rel =>
        obtain ⟨r1, m1⟩ := setCell_row (o := 0) (w32 N) H2.out.1
        refine ⟨k + 1, by omega, by go_num, ?_, H2.out.2.1.trans m1 (fun _ _ h => h), ?_⟩
        · rw [H2.out.2.2.2, HN.out, ← runC_set R N]; exact r1
        · simpa using H2.out.2.2.1
      case measure => simp [intOf]; omega
    · obtain rfl : k = n := by omega
      have H2 := Lib.hid (And.intro hrow (And.intro hm hz))
      clear hrow hm hz
      go_wp2
      go_end0
      refine ⟨rfl, ?_, H2.out.2.1, H2.out.2.2⟩
      have := H2.out.1
      rwa [List.take_of_length_le (by rw [H.out.2.2]; omega)] at this

end Go.Proofs.YtgffifleflkjoaaGreat

namespace Go.Proofs.YtgffifleflkjoaaGreat
open Go.RowKit

/-- One part, in a slice of its own. -/
def OnePart (w : World) (F : Nat → Prop) (pv : Value) (l : List UInt8) : Prop := ∃ b v, pv = .slice (some ⟨b, 0, none⟩) 1 1 ∧ w.cell? ⟨b, 0, none⟩ = some v ∧ BytesAt w.heap F v l

theorem OnePart.below {w w' : World} {F : Nat → Prop} {pv : Value} {l : List UInt8} (h : OnePart w F pv l) (hb : Below w.heap.size w w') : OnePart w' F pv l := by
  obtain ⟨b, v, h1, h2, h3⟩ := h
  exact ⟨b, v, h1, (hb.cell (p := ⟨b, 0, none⟩) (block_lt_of_cell h2)).trans h2, h3.below hb⟩

theorem wpList_build_to {P : Program} {ops : Array Oper} {rest : List Oper} {o : Oper} {a : Act} {w : World} {Q : Exit → Act → World → Prop} (hg : o.guard = none) (t : TypeId) (parts : Array (Nat × Operand)) (ho : o.op = .build t parts) (cells : Array Value)
    (hb : P.built t (parts.map fun (i, x) => (i, a.eval x)).toList = some cells) (h : wpList P ops Q rest (a.put o.dst (.agg cells)) w) : wpList P ops Q (o :: rest) a w :=
  wpList_build hg t parts ho (by rw [hb]; rfl) (by rw [hb]; exact h)

set_option maxRecDepth 100000 in
theorem built_run (r : Nat) : Tryz.prog.built tRun [(0, .agg #[w32 r]), (1, .agg (tabC 256))] = some (runC r) := by kernel_rfl

theorem not_bits (n : Nat) (h : n < 4294967296) : bits .xor .u32 IntKind.u32.max (n : Int) = ((Cm.top - n : Nat) : Int) := by
  rw [show IntKind.u32.max = ((4294967295 : Nat) : Int) from by decide +kernel, u32_xor_nat _ n (by decide) h, Cm.top_sub h]
  rfl

set_option maxRecDepth 100000 in
set_option maxHeartbeats 1000000 in
theorem crcMore_c {w : World} {F : Nat → Prop} {pv : Value} {l : List UInt8} (h : OnePart w F pv l) (hl : l.length ≤ 9223372036854775807) :
    Calls Tryz.prog 196 #[.int .u32 0, pv] w fun e w' => e = .returned (w32 (Cm.sum l)) ∧ Below w.heap.size w w' := by
  obtain ⟨b, v, rfl, hc, hv⟩ := h
  have H := Lib.hid (And.intro hc hv)
  clear hc hv
  obtain ⟨T, hT, hT2⟩ : ∃ T : Nat, bits .xor .u32 IntKind.u32.max 0 = (T : Int) ∧ T = Cm.top := ⟨Cm.top, by decide +kernel, rfl⟩
  have HT := Lib.hid hT2
  clear hT2
  go_enter Tryz.func196, Tryz.ntmps196
  go_wp2_with fail
  refine (crcTable_c w).mono ?_
  rintro e w1 ⟨rfl, hb1⟩
  go_wp2_with (first
    | (refine wpList_build_to rfl tRun #[(0, .tmp 10), (1, .tmp 11)] rfl (runC T) (by simp only [List.map_toArray, List.map_cons, List.map_nil, Act.eval]; exact built_run T) ?_)
    | (refine wpList_store_abs rfl tRun (.tmp 5) (.tmp 12) rfl w1.heap.size (runC T) rfl rfl tRun Tryz.zeroCells291 (heap_alloc_last w1 _) (by rw [infoRun, runC_size]) (by rw [runC_size]; kernel_rfl) (runC_one _) ?_; intro W2 HW2 HM2 HS2))
  have hb2 : Below w.heap.size w W2 := hb1.trans ((Moves.new ((Below.refl _ _).alloc (Nat.le_refl _) _) HM2 (Nat.le_refl _) : Below w1.heap.size w1 W2).mono hb1.size)
  have z1 := hb1.size
  have kb : W2.cell? ⟨b, 0, none⟩ = some v := (hb2.cell (p := ⟨b, 0, none⟩) (block_lt_of_cell H.out.1)).trans H.out.1
  have hvb : BytesAt W2.heap (fun k => k ≠ w1.heap.size) v l := H.out.2.keeps (fun k _ hl => hb2.block k hl) (fun k _ hl => by omega)
  have TK := Lib.hid (crcTake_c w1.heap.size T W2 (by rw [HT.out]; decide) HW2.out hvb hl)
  have H2 := Lib.hid (And.intro hb2 HW2.out)
  clear hb1 hb2 HW2 HM2 HS2 hvb hT
  generalize w1.heap.size = g at *
  go_loopw [7, 15] (fun _ s wr => ∃ k : Nat, k ≤ 1 ∧ s = .int .i64 (k : Int) ∧ (k = 0 → wr = W2) ∧ wr.heap[g]? = some (.cells (runC (if k = 0 then T else Cm.regOn T l)) tRun (0, 0)) ∧ Moves (fun j => j = g) W2 wr) (fun _ s _ => 1 - (intOf s).toNat)
  case atStart => exact ⟨0, by omega, rfl, fun _ => rfl, H2.out.2, Moves.refl _ _⟩
  case round =>
    obtain ⟨k, hk, rfl, he, hrow, hm⟩ := hrel
    by_cases hlt : k < 1
    · obtain rfl : k = 0 := by omega
      obtain rfl := he rfl
      clear he hm hrow
      go_wp2_with (go_at_call 214; refine TK.out.mono ?_; rintro e w' ⟨rfl, hr1, hm1, hz1⟩)
      go_roundw
      case rel => exact ⟨1, by omega, by go_num, fun h => (by cases h), hr1, hm1⟩
      case measure => simp [intOf]
    · obtain rfl : k = 1 := by omega
      rw [if_neg (by decide)] at hrow
      have k0 : wr.cell? ⟨g, 0, none⟩ = some (w32 (Cm.regOn T l)) := row_cell hrow rfl
      have HF := Lib.hid (And.intro hm z1)
      clear he hm hrow
      have hR : Cm.regOn T l < 4294967296 := Cm.regOn_lt l (by rw [HT.out]; decide)
      have hN := not_bits (Cm.regOn T l) hR
      have HS : Hid (Cm.top - Cm.regOn T l = Cm.sum l) := Lib.hid (by rw [HT.out]; rfl)
      generalize Cm.regOn T l = R at *
      have HN := Lib.hid hN
      clear hN
      go_wp2
      go_ret
      exact ⟨by rw [HN.out, HS.out]; rfl, Moves.new H2.out.1 HF.out.1 HF.out.2⟩

theorem crcSum_c {w : World} {F : Nat → Prop} {pv : Value} {l : List UInt8} (h : OnePart w F pv l) (hl : l.length ≤ 9223372036854775807) :
    Calls Tryz.prog 172 #[pv] w fun e w' => e = .returned (w32 (Cm.sum l)) ∧ Below w.heap.size w w' := by
  have MC := Lib.hid (crcMore_c h hl)
  clear h hl
  go_enter Tryz.func172, Tryz.ntmps172
  go_wp2_with (go_at_call 196; refine MC.out.mono ?_; rintro e w1 ⟨rfl, hb1⟩)
  go_ret
  exact ⟨rfl, hb1⟩

end Go.Proofs.YtgffifleflkjoaaGreat
