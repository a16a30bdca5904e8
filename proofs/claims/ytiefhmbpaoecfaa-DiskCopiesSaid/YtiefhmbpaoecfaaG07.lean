/-
  Write.
  Equality of arrays.
  Small laws on memory: cells stored in the middle of a block; cells of a block that is known whole.
  disk.Same: what is in the one map is in the other.
  The tapes, one by one; how many bytes they have.
-/
import Derived.Test.YtiefhmbpaoecfaaG02
import Derived.Test.YtiefhmbpaoecfaaG04
import Derived.Test.YtiefhmbpaoecfaaG06
import Derived.Deep.MidRow
import Derived.Laws.IdiomStrings
import Derived.Laws.BytesArg
import Derived.Laws.StructEq
import Derived.ChangeKeysEq
import Derived.Deep.LoopGhost

namespace Go.Proofs.Ytiefhmbpaoecfaa
open Go.RowKit Dm

abbrev tBytes : Nat := 36

/-- No disk. -/
def NoneD (w : World) (v : Value) : Prop := v = .pointer none ∨ ∃ p, v = .pointer (some ⟨p, 0, none⟩) ∧ w.cell? ⟨p, 16, none⟩ = some (.bool false)

theorem NoneD.below {w w' : World} {v : Value} (h : NoneD w v) (hb : Below w.heap.size w w') : NoneD w' v := by
  rcases h with h | ⟨p, h1, h2⟩
  · exact Or.inl h
  · exact Or.inr ⟨p, h1, (hb.cell (p := ⟨p, 16, none⟩) (block_lt_of_cell h2)).trans h2⟩

theorem none_c {w : World} {v : Value} (h : NoneD w v) : Calls Try.prog 33 #[v] w fun e w' => e = .returned (.bool true) ∧ w = w' := by
  rcases h with rfl | ⟨p, rfl, h⟩
  · exact none_nil w
  · exact none_at p false w h

/-- A string of bytes. -/
theorem run_string_of {w : World} {F : Nat → Prop} {v : Value} {l : List UInt8} (h : BytesAt w.heap F v l) : (convert tBytes 9 v).run Try.prog w = .ok (.string ⟨l.toArray⟩) w := by
  rcases h with ⟨rfl, rfl⟩ | ⟨b, o, cap, c, t, fr, rfl, h2, h3, g2, g3, g4⟩
  · exact run_convert_bytes_nil w tBytes tByte Try.underlying36 Try.underlying5 0 0 9 Try.underlying9
  · exact run_convert_bytes_back w tBytes 9 tByte ⟨b, o, none⟩ cap l Try.underlying36 Try.underlying5 Try.underlying9 (fun j hj => by
      rw [addr_add, cell_of_row _ _ _ _ _ _ g3, g4 j l[j] (by simp [hj])]
      rfl)

theorem BytesAt.below {w w' : World} {F : Nat → Prop} {v : Value} {l : List UInt8} (h : BytesAt w.heap F v l) (hb : Below w.heap.size w w') : BytesAt w'.heap F v l := h.keeps (fun k _ hl => hb.block k hl) (fun _ h _ => h)

theorem write_none (v bv : Value) (n : Int) (w : World) (h : NoneD w v) : Calls Try.prog 21 #[v, .int .i64 n, bv] w fun e w' => e = .returned (.int .i64 1) ∧ Below w.heap.size w w' := by
  have hb : Below w.heap.size w (w.alloc (.cells #[.int .i64 n] 3)) := (Below.refl _ _).alloc (Nat.le_refl _) _
  have H := Lib.hid (h.below hb)
  clear h
  go_enter Try.func21, Try.ntmps21
  go_wp2_with (go_at_call 33; refine (none_c H.out).mono ?_; rintro e w' ⟨rfl, rfl⟩)
  go_ret
  exact ⟨rfl, hb⟩

theorem write_arg (p : Nat) (a : Option Addr) (l c : Nat) (n : Int) (w : World) (h : w.cell? ⟨p, 16, none⟩ = some (.bool true)) (hl : l ≠ 256) :
    Calls Try.prog 21 #[.pointer (some ⟨p, 0, none⟩), .int .i64 n, .slice a l c] w fun e w' => e = .returned (.int .i64 2) ∧ Below w.heap.size w w' := by
  have hb : Below w.heap.size w (w.alloc (.cells #[.int .i64 n] 3)) := (Below.refl _ _).alloc (Nat.le_refl _) _
  have h' := (hb.cell (p := ⟨p, 16, none⟩) (block_lt_of_cell h)).trans h
  have hl2 : ((l : Int) == 256) = false := by simp; omega
  go_enter Try.func21, Try.ntmps21
  go_wp2_with (go_at_call 33; refine (none_at p true _ h').mono ?_; rintro e w' ⟨rfl, rfl⟩)
  go_ret
  exact ⟨rfl, hb⟩

set_option maxRecDepth 100000 in
theorem write_range (p : Nat) (a : Option Addr) (c : Nat) (n many : Int) (w : World) (h : w.cell? ⟨p, 16, none⟩ = some (.bool true)) (h2 : w.cell? ⟨p, 11, none⟩ = some (.int .i64 many)) (hn : n < 0 ∨ many ≤ n) :
    Calls Try.prog 21 #[.pointer (some ⟨p, 0, none⟩), .int .i64 n, .slice a 256 c] w fun e w' => e = .returned (.int .i64 4) ∧ Below w.heap.size w w' := by
  have hb : Below w.heap.size w (w.alloc (.cells #[.int .i64 n] 3)) := (Below.refl _ _).alloc (Nat.le_refl _) _
  have lt := block_lt_of_cell h
  have h' := (hb.cell (p := ⟨p, 16, none⟩) lt).trans h
  have ne : Nonempty (Wd (fun w' => w' = (w.alloc (.cells #[.int .i64 n] 3)).drew)) := ⟨⟨_, rfl⟩⟩
  have x1 : ∀ x : Wd (fun w' => w' = (w.alloc (.cells #[.int .i64 n] 3)).drew), x.world.cell? ⟨w.heap.size, 0, none⟩ = some (.int .i64 n) := fun x => by rw [x.ok]; exact (cell_of_row (w.alloc _) _ _ _ _ _ (heap_alloc_last w _)).trans rfl
  have x2 : ∀ x : Wd (fun w' => w' = (w.alloc (.cells #[.int .i64 n] 3)).drew), x.world.cell? ⟨p, 11, none⟩ = some (.int .i64 many) := fun x => by rw [x.ok]; exact (hb.cell (p := ⟨p, 11, none⟩) lt).trans h2
  by_cases hn0 : n < 0
  all_goals
    have hn2 : ¬ n < 0 → many ≤ n := fun h => by omega
    simp only [hn0, not_true_eq_false, not_false_eq_true, forall_const, false_implies] at hn2
    go_enter Try.func21, Try.ntmps21
    go_wp2_with (go_at_call 33; refine (none_at p true _ h').mono ?_; rintro e w' ⟨rfl, rfl⟩)
    refine wp_region_hoist (fun w' => ∃ x : Wd (fun w' => w' = (w.alloc (.cells #[.int .i64 n] 3)).drew), w' = x.world) [] (by kernel_rfl) ?_
    refine wpAnyI_reads [0, 1, 2, 3, 4, 5, 6, 7, 8, 9, 10] 0 _ ⟨⟨_, rfl⟩, rfl⟩ (by kernel_rfl) ?_
    simp only [List.filterMap_cons, List.filterMap_nil, List.getElem?_toArray, List.getElem?_cons_succ, List.getElem?_cons_zero]
    repeat (refine wpHoist_step (fun K hK => ?_); simp only [hoists, sameUpon]; go_simp; refine hK _ ?_; clear hK K)
    refine wpHoist_nil ?_
    refine ⟨by kernel_rfl, ?_⟩
    go_wp2
    go_ret
    exact ⟨rfl, hb.drew⟩

theorem run_arrayAt (W : World) (a : Addr) (c : Nat) : (Instr.arrayAt tSec (.slice (some a) 256 c)).run Try.prog W = .ok (.pointer (some a)) W := by
  simp [Instr.arrayAt, run_underlying Try.underlying86]

set_option maxRecDepth 100000 in
set_option maxHeartbeats 1000000 in
theorem write_live (p b o cap : Nat) (n many : Int) (l : List UInt8) (w : World) (R : Ending → World → Prop) (h : w.cell? ⟨p, 16, none⟩ = some (.bool true)) (h2 : w.cell? ⟨p, 11, none⟩ = some (.int .i64 many)) (hn0 : 0 ≤ n) (hn1 : n < many)
    (hl : l.length = 256) (F : Nat → Prop) (hv : BytesAt w.heap F (.slice (some ⟨b, o, none⟩) 256 cap) l)
    (hR : ∀ W, Below w.heap.size w W → W.heap[w.heap.size]? = some (.cells #[.int .i64 n] 3 (0, 0)) → W.heap[w.heap.size + 1]? = some (.cells (l.map bval).toArray tSec (0, 0)) → W.heap.size = w.heap.size + 2 →
      Calls Try.prog 44 #[.pointer (some ⟨p, 0, none⟩), .agg #[.func (.func 45) #[] #[.pointer (some ⟨w.heap.size + 1, 0, none⟩), .pointer (some ⟨w.heap.size, 0, none⟩)],
        .func (.func 46) #[] #[.pointer (some ⟨w.heap.size, 0, none⟩), .pointer (some ⟨w.heap.size + 1, 0, none⟩)], .int .i64 (-1), .int .i64 1, .int .i64 n, .int .i64 0, .string ⟨l.toArray⟩]] W fun e w' => ∃ k, e = .returned (.int .i64 k) ∧ R e w') :
    Calls Try.prog 21 #[.pointer (some ⟨p, 0, none⟩), .int .i64 n, .slice (some ⟨b, o, none⟩) 256 cap] w R := by
  have hb : Below w.heap.size w (w.alloc (.cells #[.int .i64 n] 3)) := (Below.refl _ _).alloc (Nat.le_refl _) _
  have lt := block_lt_of_cell h
  have h' := (hb.cell (p := ⟨p, 16, none⟩) lt).trans h
  have ne : Nonempty (Wd (fun w' => w' = (w.alloc (.cells #[.int .i64 n] 3)).drew)) := ⟨⟨_, rfl⟩⟩
  have x1 : ∀ x : Wd (fun w' => w' = (w.alloc (.cells #[.int .i64 n] 3)).drew), x.world.cell? ⟨w.heap.size, 0, none⟩ = some (.int .i64 n) := fun x => by rw [x.ok]; exact (cell_of_row (w.alloc _) _ _ _ _ _ (heap_alloc_last w _)).trans rfl
  have x2 : ∀ x : Wd (fun w' => w' = (w.alloc (.cells #[.int .i64 n] 3)).drew), x.world.cell? ⟨p, 11, none⟩ = some (.int .i64 many) := fun x => by rw [x.ok]; exact (hb.cell (p := ⟨p, 11, none⟩) lt).trans h2
  have rng : (w.alloc (.cells #[.int .i64 n] 3)).drew.rangeAt b o (l.map bval) := by
    intro j v hj
    obtain ⟨x, hx, rfl⟩ : ∃ x, l[j]? = some x ∧ bval x = v := by simpa using hj
    rcases hv with ⟨h1, _⟩ | ⟨b', o', cap', c, t, fr, h1, g1, g2, g3, g4, g5⟩
    · cases h1
    · simp only [Value.slice.injEq, Option.some.injEq, Addr.mk.injEq] at h1
      obtain ⟨⟨rfl, rfl, _⟩, _, rfl⟩ := h1
      exact (cell_of_row _ _ _ _ _ _ (hb.drew.block b (lt_of_row g4) |>.trans g4)).trans (g5 j x hx)
  have RG := Lib.hid rng
  have HV := Lib.hid hv
  have HL := Lib.hid hl
  have HR := Lib.hid hR
  clear rng hv hl hR
  have hat := run_arrayAt
  have nlt : ¬ n < 0 := by omega
  have nge : ¬ many ≤ n := by omega
  go_enter Try.func21, Try.ntmps21
  go_wp2_with (go_at_call 33; refine (none_at p true _ h').mono ?_; rintro e w' ⟨rfl, rfl⟩)
  refine wp_region_hoist (fun w' => ∃ x : Wd (fun w' => w' = (w.alloc (.cells #[.int .i64 n] 3)).drew), w' = x.world) [] (by kernel_rfl) ?_
  refine wpAnyI_reads [0, 1, 2, 3, 4, 5, 6, 7, 8, 9, 10] 0 _ ⟨⟨_, rfl⟩, rfl⟩ (by kernel_rfl) ?_
  simp only [List.filterMap_cons, List.filterMap_nil, List.getElem?_toArray, List.getElem?_cons_succ, List.getElem?_cons_zero]
  repeat (refine wpHoist_step (fun K hK => ?_); simp only [hoists, sameUpon]; go_simp; refine hK _ ?_; clear hK K)
  refine wpHoist_nil ?_
  refine ⟨by kernel_rfl, ?_⟩
  have r0 : ((w.alloc (.cells #[.int .i64 n] 3)).alloc (.cells Try.zeroCells86 tSec)).drew.heap[w.heap.size + 1]? = some (.cells Try.zeroCells86 tSec (0, 0)) := heap_at (w := w.alloc (.cells #[.int .i64 n] 3)) _ (by simp)
  have ha : (Try.prog.info? tSec).map (·.size) = some (l.map bval).toArray.size := by rw [infoSec]; simp [HL.out]
  have HA := Lib.hid (And.intro r0 ha)
  clear r0 ha
  go_wp2_with (first
    | (refine wpList_load_mid rfl tSec (.tmp 27) rfl b o rfl (l.map bval) _ RG.out Try.underlying86 rfl (by rw [infoSec]; simp only [List.length_map, HL.out]) ?_)
    | (refine wpList_store_abs rfl tSec (.tmp 7) (.tmp 28) rfl (w.heap.size + 1) (l.map bval).toArray rfl rfl tSec Try.zeroCells86 HA.out.1 HA.out.2 (by simp only [List.size_toArray, List.length_map, HL.out]; kernel_rfl) (all_bvals _) ?_
       intro W1 HW HM1 HS
       have hw0 : W1.heap[w.heap.size]? = some (.cells #[.int .i64 n] 3 (0, 0)) := (HM1.block w.heap.size (by simp; omega) (fun (e : w.heap.size = w.heap.size + 1) => by omega)).trans ((Below.heap_alloc _ _ _ (by simp)).trans (heap_alloc_last w _))
       have k0 : W1.cell? ⟨w.heap.size, 0, none⟩ = some (.int .i64 n) := (cell_of_row _ _ _ _ _ _ hw0).trans rfl
       have HW0 := Lib.hid hw0
       have hb1 : Below w.heap.size w W1 := (hb.alloc (by simp) _).drew.trans ⟨HM1.os, HM1.tape, HM1.output, HM1.size, fun k hk => HM1.block k (by simp; omega) (fun (e : k = w.heap.size + 1) => by omega)⟩
       have hcv := run_string_of (HV.out.below hb1)
       clear hw0)
    | (go_at_call 44
       refine (HR.out W1 hb1 HW0.out HW.out (by rw [HS]; simp)).mono ?_
       rintro e w' ⟨k, rfl, hr⟩))
  exact hr

theorem DiskAt.cell16 {w : World} {p m : Nat} {d : D} {F : Nat → Prop} (x : DiskAt w.heap p m d F) : w.cell? ⟨p, 16, none⟩ = some (.bool true) ∧ w.cell? ⟨p, 11, none⟩ = some (.int .i64 d.many) ∧ w.cell? ⟨p, 12, none⟩ = some (.int .i64 d.room) ∧ w.cell? ⟨p, 13, none⟩ = some (.bool d.dead) := by
  obtain ⟨ml, l0, l1, l2, l3, wv, stops, after, ⟨t0, t1, t2, t3, c1, _⟩, _⟩ := x.parts
  refine ⟨?_, ?_, ?_, ?_⟩ <;> (rw [cell_of_row _ _ _ _ _ _ c1]; simp [diskR])

/-- What a call leaves that may change the disk at p, whose map is m. -/
def Left (w : World) (p m : Nat) (F : Nat → Prop) (r : D × Int) (e : Ending) (w' : World) : Prop :=
  e = .returned (.int .i64 r.2) ∧ Moves (fun k => k = p ∨ k = m) w w' ∧ DiskAt w'.heap p m r.1 (plus F w w')

theorem DiskAt.plus {w w' : World} {p m : Nat} {d : D} {F : Nat → Prop} (x : DiskAt w.heap p m d F) (hb : Below w.heap.size w w') : DiskAt w'.heap p m d (plus F w w') := by
  obtain ⟨l1, l2, l3, l4, l5⟩ := x.lt
  exact (x.below hb).weak (fun _ h _ => Or.inl h) (fun h => by rcases h with h | h; exact l4 h; omega) (fun h => by rcases h with h | h; exact l5 h; omega)

theorem left_below {w w' : World} {p m : Nat} {d : D} {F : Nat → Prop} {c : Int} (x : DiskAt w.heap p m d F) (hb : Below w.heap.size w w') : Left w p m F (d, c) (.returned (.int .i64 c)) w' :=
  ⟨rfl, Moves.of_below hb, x.plus hb⟩

/-- A call behind others that made memory. -/
theorem left_later {w W w' : World} {p m : Nat} {d : D} {F : Nat → Prop} {r : D × Int} {e : Ending} (x : DiskAt w.heap p m d F) (hb : Below w.heap.size w W) (h : Left W p m (plus F w W) r e w') : Left w p m F r e w' := by
  obtain ⟨l1, l2, l3, l4, l5⟩ := x.lt
  obtain ⟨h1, h2, h3⟩ := h
  have hs := hb.size
  have hs2 := h2.size
  refine ⟨h1, ⟨h2.os.trans hb.os, h2.tape.trans hb.tape, h2.output.trans hb.output, by omega, fun k hk hn => (h2.block k (by omega) hn).trans (hb.block k hk)⟩, h3.weak (fun k hk hl => ?_) ?_ ?_⟩
  · rcases hk with (hk | hk) | hk
    · exact Or.inl hk
    · exact Or.inr ⟨hk.1, hl⟩
    · exact Or.inr ⟨by omega, hl⟩
  · intro h; rcases h with h | h
    · exact l4 h
    · omega
  · intro h; rcases h with h | h
    · exact l5 h
    · omega

/-- A sector is written. -/
theorem write_c {p m : Nat} {d : D} {F G : Nat → Prop} {w : World} (x : DiskAt w.heap p m d F) (n : Int) {bv : Value} {l : List UInt8} (hv : BytesAt w.heap G bv l) (hn : d.waits.length ≤ 1000000000000) :
    Calls Try.prog 21 #[.pointer (some ⟨p, 0, none⟩), .int .i64 n, bv] w (Left w p m F (d.write n l)) := by
  obtain ⟨k16, k11, _⟩ := x.cell16
  have sl : ∃ a c, bv = .slice a l.length c := by
    rcases hv with ⟨rfl, rfl⟩ | ⟨b, o, cap, c, t, fr, rfl, h2, h3, g2, g3, g4⟩
    · exact ⟨_, _, rfl⟩
    · exact ⟨_, _, rfl⟩
  obtain ⟨a, c, rfl⟩ := sl
  by_cases h1 : l.length = 256
  · by_cases h2 : n < 0 ∨ d.many ≤ n
    · have e : d.write n l = (d, 4) := by
        unfold D.write
        rw [if_neg (by omega), if_pos (by omega)]
      rw [e, h1]
      refine (write_range p a c n d.many w k16 k11 h2).mono ?_
      rintro e w' ⟨rfl, hb⟩
      exact left_below x hb
    · have e : d.write n l = d.step ⟨1, n, 0, l⟩ := by
        unfold D.write
        rw [if_neg (by omega), if_neg (by omega)]
      rw [e]
      have hsome : ∃ b o, a = some ⟨b, o, none⟩ := by
        rcases hv with ⟨h, hl⟩ | ⟨b, o, cap, c, t, fr, h, _⟩
        · rw [hl] at h1; simp at h1
        · simp only [Value.slice.injEq] at h
          exact ⟨b, o, h.1⟩
      obtain ⟨b, o, rfl⟩ := hsome
      rw [h1] at hv ⊢
      refine write_live p b o c n d.many l w _ k16 k11 (by omega) (by omega) h1 G hv ?_
      intro W hb r0 r1 hz
      have x1 := x.plus hb
      have hok : (⟨1, n, 0, l⟩ : Step).ok d.many := Or.inl ⟨rfl, by show 0 ≤ n; omega, by show n < d.many; omega, rfl, h1⟩
      have st : StepAt W.heap (plus F w W) ⟨1, n, 0, l⟩ (.func (.func 45) #[] #[.pointer (some ⟨w.heap.size + 1, 0, none⟩), .pointer (some ⟨w.heap.size, 0, none⟩)])
          (.func (.func 46) #[] #[.pointer (some ⟨w.heap.size, 0, none⟩), .pointer (some ⟨w.heap.size + 1, 0, none⟩)]) (.int .i64 (-1)) (.int .i64 1) (.int .i64 n) (.int .i64 0) (.string ⟨l.toArray⟩) :=
        ⟨rfl, rfl, rfl, ⟨_, rfl, by simp⟩, Or.inl ⟨rfl, rfl, w.heap.size, w.heap.size + 1, Or.inr ⟨by omega, by omega⟩, Or.inr ⟨by omega, by omega⟩, rfl, rfl, r0, r1⟩⟩
      refine (step_c x1 ⟨1, n, 0, l⟩ hok hn (fun t => by rw [done_other _ _ _ rfl]; exact stand_tapes x.ok t) st).mono ?_
      rintro e w' h
      exact ⟨_, h.1, left_later x hb h⟩
  · have e : d.write n l = (d, 2) := by
      unfold D.write
      rw [if_pos h1]
    rw [e]
    refine (write_arg p a l.length c n w k16 h1).mono ?_
    rintro e w' ⟨rfl, hb⟩
    exact left_below x hb

end Go.Proofs.Ytiefhmbpaoecfaa

namespace Go.Proofs.Ytiefhmbpaoecfaa
open Go.RowKit Dm

theorem eqWhat (a b c x y z : Int) (w : World) : (Op.equalIn 10000 80 (.agg #[.int .i64 a, .int .i64 b, .int .i64 c]) (.agg #[.int .i64 x, .int .i64 y, .int .i64 z])).run Try.prog w = .ok (decide (a = x ∧ b = y ∧ c = z)) w := by
  have hu : Try.prog.underlying 80 = some (.array 3 3) := Try.underlying80
  obtain ⟨i, hi⟩ : ∃ i, Try.prog.info? 3 = some i := Option.isSome_iff_exists.1 (by kernel_rfl)
  rw [show (10000 : Nat) = 9999 + 1 from rfl, run_equalIn_array w 9999 _ _ hu hi, show Try.prog.cellsOf 3 = 1 from by kernel_rfl]
  simp only [List.range_succ, List.range_zero, List.nil_append, List.cons_append, Op.eqItems]
  have u3 := Try.underlying3
  go_simp
  by_cases h1 : a = x <;> by_cases h2 : b = y <;> by_cases h3 : c = z <;> simp [h1, h2, h3]

theorem getElem_bval {l : List UInt8} {i : Nat} {x : UInt8} (h : l[i]? = some x) : (l.map bval).toArray[i]? = some (bval x) := by simp [h]

theorem eqItems_bytes (w : World) (l k : List UInt8) : ∀ is : List Nat, (∀ i ∈ is, i < l.length ∧ i < k.length) →
    (Op.eqItems 9999 tByte 1 (l.map bval).toArray (k.map bval).toArray is).run Try.prog w = .ok (decide (∀ i ∈ is, l[i]? = k[i]?)) w
  | [], _ => by simp [Op.eqItems]
  | i :: is, h => by
    have hi := h i (by simp)
    obtain ⟨x, hx⟩ : ∃ x, l[i]? = some x := ⟨_, List.getElem?_eq_getElem hi.1⟩
    obtain ⟨y, hy⟩ : ∃ y, k[i]? = some y := ⟨_, List.getElem?_eq_getElem hi.2⟩
    have ih := eqItems_bytes w l k is (fun j hj => h j (by simp [hj]))
    have p1 : (part tByte (l.map bval).toArray (i * 1)).run Try.prog w = .ok (bval x) w := by
      rw [Nat.mul_one]; exact run_part_plain w (by kernel_rfl) (getElem_bval hx)
    have p2 : (part tByte (k.map bval).toArray (i * 1)).run Try.prog w = .ok (bval y) w := by
      rw [Nat.mul_one]; exact run_part_plain w (by kernel_rfl) (getElem_bval hy)
    have e : (Op.equalIn 9999 tByte (bval x) (bval y)).run Try.prog w = .ok ((x.toNat : Int) == (y.toNat : Int)) w := run_equalIn_int w 9998 tByte .u8 .u8 _ _ Try.underlying5
    simp only [Op.eqItems, Sem.run_bind, p1, p2, e, Result.andThen_ok]
    by_cases hxy : x = y
    · subst hxy
      simp [ih, hx, hy]
    · have : ¬ (x.toNat : Int) = y.toNat := fun q => hxy (UInt8.toNat_inj.1 (by omega))
      simp [this, hx, hy, hxy]

theorem eqSector (l k : List UInt8) (h1 : l.length = 256) (h2 : k.length = 256) (w : World) : (Op.equalIn 10000 86 (.agg (l.map bval).toArray) (.agg (k.map bval).toArray)).run Try.prog w = .ok (decide (l = k)) w := by
  obtain ⟨i, hi⟩ : ∃ i, Try.prog.info? tByte = some i := Option.isSome_iff_exists.1 (by kernel_rfl)
  rw [show (10000 : Nat) = 9999 + 1 from rfl, run_equalIn_array w 9999 _ _ Try.underlying86 hi, show Try.prog.cellsOf tByte = 1 from by kernel_rfl, eqItems_bytes w l k _ (fun i hi => by simp at hi; omega)]
  refine congrArg (fun b => Result.ok b w) ?_
  rw [decide_eq_decide]
  refine ⟨fun h => List.ext_getElem? fun j => ?_, fun h => by rw [h]; simp⟩
  by_cases hj : j < 256
  · exact h j (by simpa using hj)
  · rw [List.getElem?_eq_none (by omega), List.getElem?_eq_none (by omega)]

end Go.Proofs.Ytiefhmbpaoecfaa

namespace Go.Proofs.Ytiefhmbpaoecfaa
open Go.RowKit

/-- Cells with others from o on. -/
def spl (c : Array Value) (o : Nat) : List Value → Array Value
  | [] => c
  | v :: vs => spl (c.setIfInBounds o v) (o + 1) vs

theorem setCells_row (g : Nat) (t : TypeId) : ∀ (vs : List Value) (o : Nat) (c : Array Value) (w : World), w.heap[g]? = some (.cells c t (0, 0)) →
    (w.setCells g o vs).heap[g]? = some (.cells (spl c o vs) t (0, 0)) ∧ Moves (fun k => k = g) w (w.setCells g o vs) ∧ (w.setCells g o vs).heap.size = w.heap.size
  | [], _, _, w, h => ⟨h, Moves.refl _ _, rfl⟩
  | v :: vs, o, c, w, h => by
    obtain ⟨h1, h2, h3⟩ := setCells_row g t vs (o + 1) (c.setIfInBounds o v) (w.setCell ⟨g, o, none⟩ v) (heap_setCell_same w g o c t v h)
    refine ⟨h1, ⟨h2.os, h2.tape, h2.output, ?_, fun k hk hn => ?_⟩, h3.trans (by simp)⟩
    · rw [show w.heap.size = (w.setCell ⟨g, o, none⟩ v).heap.size by simp]; exact h2.size
    · exact (h2.block k (by simpa using hk) hn).trans (heap_setCell_other w _ k v hn)

theorem there_of_row {w : World} {g o n : Nat} {c : Array Value} {t : TypeId} (h : w.heap[g]? = some (.cells c t (0, 0))) (hl : o + n ≤ c.size) : w.there g o n := fun j hj => by
  refine ⟨?_, by simp [World.frozen?, h]⟩
  rw [cell_of_row _ _ _ _ _ _ h, Array.getElem?_eq_getElem (by omega)]
  rfl

section
variable {P : Program} {ops : Array Oper}
/-- An aggregate stored in the middle of a block: the world behind it is told by what it holds. -/
theorem wpList_store_midA {rest : List Oper} {o : Oper} {a : Act} {w : World} {Q : Exit → Act → World → Prop} (hgd : o.guard = none) (ty : TypeId) (x y : Operand) (ho : o.op = .store ty x y)
    (g off : Nat) (cells : Array Value) (hx : a.eval x = .pointer (some ⟨g, off, none⟩)) (hy : a.eval y = .agg cells)
    (t : TypeId) (c : Array Value) (hg : w.heap[g]? = some (.cells c t (0, 0))) (hi : (P.info? ty).map (·.size) = some cells.size)
    (hl : off + cells.size ≤ c.size) (h1 : cells.all (·.oneCell') = true)
    (h : ∀ W, Hid (W.heap[g]? = some (.cells (spl c off cells.toList) t (0, 0))) → Moves (fun k => k = g) w W → W.heap.size = w.heap.size → wpList P ops Q rest (a.put o.dst undef) W) : wpList P ops Q (o :: rest) a w := by
  obtain ⟨h2, h3, h4⟩ := setCells_row g t cells.toList off c w hg
  exact wpList_store_mid hgd ty x y ho g off cells hx hy (there_of_row hg (by simpa using hl)) hi h1 (h _ h2 h3 h4)
end

theorem row_cell {w : World} {g : Nat} {c : Array Value} {t : TypeId} {fr : Nat × Nat} (h : w.heap[g]? = some (.cells c t fr)) {j : Nat} {v : Value} (hj : c[j]? = some v) : w.cell? ⟨g, j, none⟩ = some v := (cell_of_row _ _ _ _ _ _ h).trans hj
theorem row_free {w : World} {g : Nat} {c : Array Value} {t : TypeId} (h : w.heap[g]? = some (.cells c t (0, 0))) (j : Nat) : w.frozen? ⟨g, j, none⟩ = false := by simp [World.frozen?, h]

theorem below_drewN {B : Nat} {w w' : World} (h : Below B w w') (n : Nat) : Below B w (w'.drewN n) := ⟨h.os, h.tape, h.output, h.size, h.block⟩

/-- Steps that leave all old blocks but g as they were, g being new: nothing old has turned. -/
theorem Moves.new {w W W' : World} {g : Nat} (hb : Below w.heap.size w W) (hm : Moves (fun k => k = g) W W') (hg : w.heap.size ≤ g) : Below w.heap.size w W' :=
  hb.trans ⟨hm.os, hm.tape, hm.output, hm.size, fun k hk => hm.block k (by have := hb.size; omega) (fun e => by omega)⟩

end Go.Proofs.Ytiefhmbpaoecfaa

namespace Go.Proofs.Ytiefhmbpaoecfaa
open Go.RowKit Dm

/-- A map has a sector. -/
def SecHas (h : Array Obj) (m : Nat) (n : Int) : Prop := ∃ es clock, h[m]? = some (.map es clock) ∧ ∃ e ∈ es, e.key = .int .i64 n

theorem SecMap.none {h : Array Obj} {m : Nat} {f : Int → List UInt8} (x : SecMap h m f) {n : Int} (hn : ¬ SecHas h m n) : f n = zeros := by
  obtain ⟨es, clock, hm, _, _, hz, _⟩ := x
  exact hz n (fun e he hk => hn ⟨es, clock, hm, e, he, hk⟩)

theorem find_born {es : Array MapEntry} (hd : (es.toList.map (·.born)).Nodup) {e : MapEntry} (he : e ∈ es) : es.find? (fun x => x.born == e.born) = some e := by
  obtain ⟨l⟩ := es
  simp only [List.mem_toArray, List.find?_toArray] at *
  induction l with
  | nil => simp at he
  | cons a l ih =>
    rw [List.map_cons, List.nodup_cons] at hd
    rw [List.find?_cons]
    rcases List.mem_cons.1 he with rfl | he
    · simp
    · have : ¬ a.born = e.born := fun q => hd.1 (by rw [q]; exact List.mem_map.2 ⟨e, he, rfl⟩)
      rw [show (a.born == e.born) = false from by simpa using this]
      exact ih hd.2 he

theorem born_inj {es : Array MapEntry} (hd : (es.toList.map (·.born)).Nodup) {a b : MapEntry} (ha : a ∈ es) (hb : b ∈ es) (h : a.born = b.born) : a = b := by
  have h1 := find_born hd ha
  have h2 := find_born hd hb
  rw [h] at h1
  exact Option.some.inj (h1.symm.trans h2)

def seenAt (r : Nat) (w : World) : Array Nat := match w.heap[r]? with | some (.mapIter _ _ seen _) => seen | _ => #[]

theorem left_lt (es : Array MapEntry) (seen : Array Nat) (e : MapEntry) (he : e ∈ es) (hs : seen.contains e.born = false) :
    (es.filter fun x => !(seen.push e.born).contains x.born).size < (es.filter fun x => !seen.contains x.born).size := by
  have q : ∀ p : MapEntry → Bool, (es.filter p).size = es.toList.countP p := fun p => by rw [← Array.length_toList, Array.toList_filter, List.countP_eq_length_filter]
  rw [q, q]
  replace he : e ∈ es.toList := by simpa using he
  clear q
  generalize es.toList = l at *
  have h1 : ∀ l : List MapEntry, (l.countP fun x => !(seen.push e.born).contains x.born) ≤ l.countP fun x => !seen.contains x.born := fun l => by
    refine List.countP_mono_left (fun x _ h => ?_)
    simp at h ⊢
    exact h.1
  induction l with
  | nil => simp at he
  | cons a l ih =>
    rw [List.countP_cons, List.countP_cons]
    rcases List.mem_cons.1 he with rfl | he
    · have e1 : (!(seen.push e.born).contains e.born) = false := by simp
      have e2 : (!seen.contains e.born) = true := by rw [hs]; rfl
      rw [e1, e2, if_neg (by decide), if_pos rfl]
      have := h1 l
      omega
    · have := ih he
      have h2 : (!(seen.push e.born).contains a.born) = true → (!seen.contains a.born) = true := by
        intro h; simp at h ⊢; exact h.1
      by_cases q : (!(seen.push e.born).contains a.born) = true
      · rw [if_pos q, if_pos (h2 q)]; omega
      · rw [if_neg q]; split <;> omega

/-- Between two rounds: those that have come are the same in the other. -/
def SameRel (w : World) (m : Nat) (es : Array MapEntry) (clock : Nat) (f g : Int → List UInt8) (wr : World) : Prop :=
  ∃ seen : Array Nat, wr.heap[w.heap.size]? = some (.mapIter (some m) clock seen clock) ∧ Below w.heap.size w wr ∧ ∀ e ∈ es, seen.contains e.born = true → ∀ n : Int, e.key = .int .i64 n → g n = f n

set_option maxRecDepth 100000 in
set_option maxHeartbeats 2000000 in
theorem sameMap_c {w : World} {m m' : Nat} {f g : Int → List UInt8} (x : SecMap w.heap m f) (y : SecMap w.heap m' g) (hg : ∀ n, (g n).length = 256) :
    Calls Try.prog 68 #[.map (some m), .map (some m')] w fun e w' => ∃ r : Bool, e = .returned (.bool r) ∧ (r = true ↔ ∀ n, SecHas w.heap m n → g n = f n) ∧ Below w.heap.size w w' := by
  obtain ⟨es, clock, hm, hb, he, hz, hn, hd⟩ := x
  have lm := lt_of_row hm
  have ly : m' < w.heap.size := by obtain ⟨_, _, h, _⟩ := y; exact lt_of_row h
  have hr := run_range_map (P := Try.prog) (w := w) tMap 3 tSec m es clock Try.underlying56 hm
  have has : (∀ n, SecHas w.heap m n → g n = f n) ↔ ∀ e ∈ es, ∀ n : Int, e.key = .int .i64 n → g n = f n := by
    refine ⟨fun h e he' n hk => h n ⟨es, clock, hm, e, he', hk⟩, ?_⟩
    rintro h n ⟨es', clock', h1, e, h2, h3⟩
    rw [hm] at h1
    simp only [Option.some.injEq, Obj.map.injEq] at h1
    obtain ⟨rfl, rfl⟩ := h1
    exact h e h2 n h3
  have A := Lib.hid (And.intro hm (And.intro hb (And.intro he (And.intro hd has))))
  have Y := Lib.hid (And.intro y (And.intro hg (And.intro lm ly)))
  clear hm hb he hz hn hd y hg has lm ly
  go_enter Try.func68, Try.ntmps68
  go_wp2
  clear hr
  go_loopw [5] (fun _ wr => SameRel w m es clock f g wr) (fun _ wr => (es.filter fun e => !(seenAt w.heap.size wr).contains e.born).size)
  case atStart =>
    exact ⟨#[], heap_alloc_last _ _, (Below.refl _ _).alloc (Nat.le_refl _) _, by simp⟩
  case round =>
    obtain ⟨seen, hi, hbw, hall⟩ := hrel
    have hmp := (hbw.block _ Y.out.2.2.1).trans A.out.1
    by_cases hleft : (es.filter fun e => !seen.contains e.born) = #[]
    · have hno : ∀ e ∈ es, ∀ n : Int, e.key = .int .i64 n → g n = f n := by
        intro e he n hk
        refine hall e he ?_ n hk
        have := Array.filter_eq_empty_iff.1 hleft e he
        simpa using this
      have hn := run_next_none (P := Try.prog) w.heap.size m es clock seen 0 hi hmp A.out.2.1 hleft
      have FI := Lib.hid (And.intro hno hbw)
      clear hi hmp hall hleft hno hbw
      go_wp2
      go_ret
      exact ⟨true, rfl, by rw [A.out.2.2.2.2]; exact ⟨fun _ => FI.out.1, fun _ => rfl⟩, FI.out.2⟩
    · obtain ⟨e, w2, he, hns, hw, hrun⟩ := run_next_some (P := Try.prog) w.heap.size m es clock seen 0 hi hmp A.out.2.1 hleft
      obtain ⟨n, hk, hv, hfl⟩ := A.out.2.2.1 e he
      have hh : w2.heap = wr.heap := by rcases hw with rfl | rfl <;> rfl
      have hb2 : Below w.heap.size wr w2 := by
        rcases hw with rfl | rfl
        · exact Below.refl _ _
        · exact (Below.refl _ _).drew
      have hlr : w.heap.size < wr.heap.size := lt_of_row hi
      generalize hw3 : w2.putObj w.heap.size (.mapIter (some m) clock (seen.push e.born) clock) = w3 at hrun
      have hi3 : w3.heap[w.heap.size]? = some (.mapIter (some m) clock (seen.push e.born) clock) := by rw [← hw3]; exact World.putObj_heap_same (by rw [hh]; exact hlr)
      have hb3 : Below w.heap.size w w3 := by
        refine hbw.trans (hb2.trans ?_)
        rw [← hw3]
        exact ⟨rfl, rfl, rfl, by simp, fun i hi => World.putObj_heap_other (by omega)⟩
      have hm3 := (hb3.block _ Y.out.2.2.1).trans A.out.1
      have hen := run_entry (P := Try.prog) w.heap.size m es clock seen e hi3 hm3 (find_born A.out.2.2.2.1 he)
      rw [hk, hv] at hrun hen
      have hlow : w.heap.size < w3.heap.size := lt_of_row hi3
      have H3 := Lib.hid (And.intro hi3 (And.intro hb3 (And.intro hi (And.intro hall (And.intro he hns)))))
      have HF := Lib.hid hfl
      have HK := Lib.hid (And.intro hk hv)
      clear hi hmp hall hleft he hns hw hh hb2 hw3 hi3 hb3 hm3 hlr hk hv hfl hbw
      go_upto_region 4 with (refine wpList_store_abs rfl tSec (.tmp 6) (.tmp 13) rfl w3.heap.size ((f n).map bval).toArray rfl rfl tSec Try.zeroCells86 (heap_alloc_last w3 _) (by rw [infoSec]; simp only [List.size_toArray, List.length_map, HF.out]) (by simp only [List.size_toArray, List.length_map, HF.out]; kernel_rfl) (all_bvals _) ?_; intro W1 HW1 HM1 HS1)
      clear hrun hen
      have hb1 : Below w3.heap.size w3 W1 := Moves.new ((Below.refl _ _).alloc (Nat.le_refl _) _) HM1 (Nat.le_refl _)
      have hbw1 : Below w.heap.size w W1 := H3.out.2.1.trans (hb1.mono (Nat.le_of_lt hlow))
      have hi1 := (hb1.block _ hlow).trans H3.out.1
      have hlk := run_look_sec (w := W1) (Y.out.1.stays (hbw1.block m' Y.out.2.2.2)) n
      have EQ := fun w => eqSector (g n) (f n) (Y.out.2.1 n) HF.out w
      have H1 := Lib.hid (And.intro hi1 (And.intro hbw1 HW1.out))
      clear hi1 hbw1 HM1 HS1 HW1 hb1
      generalize w3.heap.size = wb at *
      by_cases hfg : g n = f n
      · have FG := Lib.hid hfg
        simp only [hfg, decide_true] at EQ hlk
        clear hfg
        go_wp2_with (refine wpList_load_row rfl tSec (.tmp 6) rfl wb rfl tSec ((f n).map bval).toArray (0, 0) _ H1.out.2.2 Try.underlying86 rfl (by rw [infoSec]; simp only [List.size_toArray, List.length_map, HF.out]) ?_)
        refine ⟨⟨seen.push e.born, H1.out.1, H1.out.2.1, ?_⟩, ?_⟩
        · intro e' he' hc k hk
          rw [Array.contains_eq_mem] at hc
          simp at hc
          rcases hc with hc | hc
          · exact H3.out.2.2.2.1 e' he' (by simpa using hc) k hk
          · have : e' = e := born_inj A.out.2.2.2.1 he' H3.out.2.2.2.2.1 hc
            subst this
            rw [HK.out.1] at hk
            obtain rfl : n = k := by simpa using hk
            exact FG.out
        · have h1 : seenAt w.heap.size W1 = seen.push e.born := by simp [seenAt, H1.out.1]
          have h2 : seenAt w.heap.size wr = seen := by simp [seenAt, H3.out.2.2.1]
          rw [h1, h2]
          exact left_lt es seen e H3.out.2.2.2.2.1 H3.out.2.2.2.2.2
      · have FG := Lib.hid hfg
        simp only [hfg, decide_false] at EQ
        clear hfg
        go_wp2_with (refine wpList_load_row rfl tSec (.tmp 6) rfl wb rfl tSec ((f n).map bval).toArray (0, 0) _ H1.out.2.2 Try.underlying86 rfl (by rw [infoSec]; simp only [List.size_toArray, List.length_map, HF.out]) ?_)
        go_ret
        refine ⟨false, rfl, ?_, H1.out.2.1⟩
        rw [A.out.2.2.2.2]
        exact ⟨fun h => (by cases h), fun h => absurd (h e H3.out.2.2.2.2.1 n HK.out.1) FG.out⟩

end Go.Proofs.Ytiefhmbpaoecfaa

namespace Go.Proofs.Ytiefhmbpaoecfaa
open Go.RowKit Dm Go.Shelf
attribute [local go_sem] Oper.semAt_some

def tapesL (t0 t1 t2 t3 : Value) : List (Int × Value) := [(0, t0), (1, t1), (2, t2), (3, t3)]
def encT (x : Int × Value) : Array Value := #[.int .i64 x.1, x.2]

theorem all_c (q o : Nat) (w : World) : Calls Try.prog 65 #[.pointer (some ⟨q, o, none⟩)] w fun e w' =>
    e = .returned (.func (.func 70) #[] #[.pointer (some ⟨w.heap.size, 0, none⟩)]) ∧ w.alloc (.cells #[.pointer (some ⟨q, o, none⟩)] 84) = w' := by
  go_enter Try.func65, Try.ntmps65
  go_wp2
  go_ret
  exact ⟨rfl, rfl⟩

abbrev tArr4 : Nat := 37

theorem run_index4 (t0 t1 t2 t3 : Value) (k : Nat) (v : Value) (hk : #[t0, t1, t2, t3][k]? = some v) (W : World) : (Instr.index tArr4 (.agg #[t0, t1, t2, t3]) (.int .i64 (Int.ofNat k))).run Try.prog W = .ok v W := by
  have hlt : k < 4 := by have := (Array.getElem?_eq_some_iff.1 hk).1; simpa using this
  have hs : (sizeOf tBytes).run Try.prog W = .ok 1 W := by kernel_rfl
  have hag : (isAgg tBytes).run Try.prog W = .ok false W := by kernel_rfl
  simp only [Instr.index, asIntOf, Sem.run_bind, Sem.run_pure, Result.andThen_ok, run_underlying Try.underlying37]
  rw [if_pos ⟨by simp, by show (k : Int) < 4; omega⟩]
  simp only [Sem.run_bind, hs, Result.andThen_ok, part, hag, Bool.false_eq_true, if_false, Int.ofNat_eq_natCast, Int.toNat_natCast, Nat.mul_one, hk, Sem.run_pure]

set_option maxRecDepth 100000 in
set_option maxHeartbeats 2000000 in
theorem all1_c (g q o : Nat) (ho : o = 0 ∨ o = 5) (t0 t1 t2 t3 : Value) (w : World) (hg : w.cell? ⟨g, 0, none⟩ = some (.pointer (some ⟨q, o, none⟩))) (h1 : w.cell? ⟨q, o + 1, none⟩ = some t0) (h2 : w.cell? ⟨q, o + 2, none⟩ = some t1)
    (h3 : w.cell? ⟨q, o + 3, none⟩ = some t2) (h4 : w.cell? ⟨q, o + 4, none⟩ = some t3) :
    Iter Try.prog 70 #[.pointer (some ⟨g, 0, none⟩)] encT (tapesL t0 t1 t2 t3) (fun _ => False) w := by
  intro l J Jx W hW hJ hJx hY h0
  have lt : q < w.heap.size := block_lt_of_cell h1
  have ix0 := fun W => run_index4 t0 t1 t2 t3 0 t0 rfl W
  have ix1 := fun W => run_index4 t0 t1 t2 t3 1 t1 rfl W
  have ix2 := fun W => run_index4 t0 t1 t2 t3 2 t2 rfl W
  have ix3 := fun W => run_index4 t0 t1 t2 t3 3 t3 rfl W
  simp only [Int.ofNat_eq_natCast, Int.cast_ofNat_Int] at ix0 ix1 ix2 ix3
  have f0 := (hW.cell (p := ⟨g, 0, none⟩) (block_lt_of_cell hg)).trans hg
  rcases ho with rfl | rfl
  all_goals
    have f1 := (hW.cell (p := ⟨q, _, none⟩) lt).trans h1
    have f2 := (hW.cell (p := ⟨q, _, none⟩) lt).trans h2
    have f3 := (hW.cell (p := ⟨q, _, none⟩) lt).trans h3
    have f4 := (hW.cell (p := ⟨q, _, none⟩) lt).trans h4
    simp only [Nat.zero_add, Nat.reduceAdd] at f1 f2 f3 f4
    clear h1 h2 h3 h4 hg
    refine callsIn_of_wp Try.func70 rfl trivial ?_ rfl
    simp only [Try.ntmps70, List.size_toArray, List.length_cons, List.length_nil, Nat.reduceAdd, Nat.reduceSub, Array.replicate_succ, Array.replicate_zero, List.push_toArray, List.append_toArray, List.nil_append, List.cons_append]
    gi_wp2
    refine wpIn_scope (wpIn_label_seq ?_)
    gi_wp2
    gi_loopw [9] (fun p wr => ∃ k : Nat, p = .int .i64 (k : Int) ∧ k ≤ 4 ∧ J k (fun _ => False) wr) (fun p _ => 5 - (intOf p).toNat)
    case atStart => exact ⟨0, rfl, by omega, h0⟩
    case round =>
      obtain ⟨k, rfl, hk, hJk⟩ := hrel
      by_cases hlt : k < 4
      · obtain rfl | rfl | rfl | rfl : k = 0 ∨ k = 1 ∨ k = 2 ∨ k = 3 := by omega
        all_goals
          obtain ⟨fn, tmps, assign, body, hy, hR⟩ := hY _ _ _ wr rfl hJk
          simp only [encT] at hy
          gi_wp2
          refine ⟨rfl, hR.mono ?_⟩
          rintro e W' (⟨rfl, hJ', hk'⟩ | ⟨rfl, hJx', hk'⟩)
          · gi_wp2
            first
              | exact ⟨⟨1, rfl, by decide, hJ'⟩, by simp [intOf]⟩
              | exact ⟨⟨2, rfl, by decide, hJ'⟩, by simp [intOf]⟩
              | exact ⟨⟨3, rfl, by decide, hJ'⟩, by simp [intOf]⟩
              | exact ⟨⟨4, rfl, by decide, hJ'⟩, by simp [intOf]⟩
          · gi_wp2
            simp +zetaDelta only [Exit.noGoto_normal]; refine bodyPost_end (results_none rfl _ _ _) rfl ?_
            first
              | exact ⟨⟨_, rfl⟩, _, .inr ⟨1, by simp [tapesL], hJx'⟩⟩
              | exact ⟨⟨_, rfl⟩, _, .inr ⟨2, by simp [tapesL], hJx'⟩⟩
              | exact ⟨⟨_, rfl⟩, _, .inr ⟨3, by simp [tapesL], hJx'⟩⟩
              | exact ⟨⟨_, rfl⟩, _, .inr ⟨4, by simp [tapesL], hJx'⟩⟩
      · obtain rfl : k = 4 := by omega
        gi_wp2
        simp +zetaDelta only [Exit.noGoto_normal]; refine bodyPost_end (results_none rfl _ _ _) rfl ?_
        exact ⟨⟨_, rfl⟩, _, .inl hJk⟩

end Go.Proofs.Ytiefhmbpaoecfaa
