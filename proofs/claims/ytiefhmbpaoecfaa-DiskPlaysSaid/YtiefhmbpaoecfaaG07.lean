/-
  Write.
  The tapes, one by one; how many bytes they have.
  How many bytes the tapes have.
-/
import Derived.Test.YtiefhmbpaoecfaaG06
import Derived.Deep.MidRow
import Derived.Laws.IdiomStrings
import Derived.Laws.BytesArg

namespace Go.Proofs.Ytiefhmbpaoecfaa
open Go.RowKit Dm

abbrev tBytes : Nat := 36

/-- No disk. -/
def NoneD (w : World) (v : Value) : Prop := v = .pointer none ∨ ∃ p, v = .pointer (some ⟨p, 0, none⟩) ∧ w.cell? ⟨p, 16, none⟩ = some (.bool false)

theorem NoneD.below {w w' : World} {v : Value} (h : NoneD w v) (hb : Below w.heap.size w w') : NoneD w' v := by
  rcases h with h | ⟨p, h1, h2⟩
  · exact Or.inl h
  · exact Or.inr ⟨p, h1, (hb.cell (p := ⟨p, 16, none⟩) (block_lt_of_cell h2)).trans h2⟩

theorem none_c {w : World} {v : Value} (h : NoneD w v) : Calls Try.prog 33 #[v] w fun e w' => e = .returned (.bool true) ∧ w = w' := by
  rcases h with rfl | ⟨p, rfl, h⟩
  · exact none_nil w
  · exact none_at p false w h

/-- A string of bytes. -/
theorem run_string_of {w : World} {F : Nat → Prop} {v : Value} {l : List UInt8} (h : BytesAt w.heap F v l) : (convert tBytes 9 v).run Try.prog w = .ok (.string ⟨l.toArray⟩) w := by
  rcases h with ⟨rfl, rfl⟩ | ⟨b, o, cap, c, t, fr, rfl, h2, h3, g2, g3, g4⟩
  · exact run_convert_bytes_nil w tBytes tByte Try.underlying36 Try.underlying5 0 0 9 Try.underlying9
  · exact run_convert_bytes_back w tBytes 9 tByte ⟨b, o, none⟩ cap l Try.underlying36 Try.underlying5 Try.underlying9 (fun j hj => by
      rw [addr_add, cell_of_row _ _ _ _ _ _ g3, g4 j l[j] (by simp [hj])]
      rfl)

theorem BytesAt.below {w w' : World} {F : Nat → Prop} {v : Value} {l : List UInt8} (h : BytesAt w.heap F v l) (hb : Below w.heap.size w w') : BytesAt w'.heap F v l := h.keeps (fun k _ hl => hb.block k hl) (fun _ h _ => h)

theorem write_none (v bv : Value) (n : Int) (w : World) (h : NoneD w v) : Calls Try.prog 21 #[v, .int .i64 n, bv] w fun e w' => e = .returned (.int .i64 1) ∧ Below w.heap.size w w' := by
  have hb : Below w.heap.size w (w.alloc (.cells #[.int .i64 n] 3)) := (Below.refl _ _).alloc (Nat.le_refl _) _
  have H := Lib.hid (h.below hb)
  clear h
  go_enter Try.func21, Try.ntmps21
  go_wp2_with (go_at_call 33; refine (none_c H.out).mono ?_; rintro e w' ⟨rfl, rfl⟩)
  go_ret
  exact ⟨rfl, hb⟩

theorem write_arg (p : Nat) (a : Option Addr) (l c : Nat) (n : Int) (w : World) (h : w.cell? ⟨p, 16, none⟩ = some (.bool true)) (hl : l ≠ 256) :
    Calls Try.prog 21 #[.pointer (some ⟨p, 0, none⟩), .int .i64 n, .slice a l c] w fun e w' => e = .returned (.int .i64 2) ∧ Below w.heap.size w w' := by
  have hb : Below w.heap.size w (w.alloc (.cells #[.int .i64 n] 3)) := (Below.refl _ _).alloc (Nat.le_refl _) _
  have h' := (hb.cell (p := ⟨p, 16, none⟩) (block_lt_of_cell h)).trans h
  have hl2 : ((l : Int) == 256) = false := by simp; omega
  go_enter Try.func21, Try.ntmps21
  go_wp2_with (go_at_call 33; refine (none_at p true _ h').mono ?_; rintro e w' ⟨rfl, rfl⟩)
  go_ret
  exact ⟨rfl, hb⟩

set_option maxRecDepth 100000 in
theorem write_range (p : Nat) (a : Option Addr) (c : Nat) (n many : Int) (w : World) (h : w.cell? ⟨p, 16, none⟩ = some (.bool true)) (h2 : w.cell? ⟨p, 11, none⟩ = some (.int .i64 many)) (hn : n < 0 ∨ many ≤ n) :
    Calls Try.prog 21 #[.pointer (some ⟨p, 0, none⟩), .int .i64 n, .slice a 256 c] w fun e w' => e = .returned (.int .i64 4) ∧ Below w.heap.size w w' := by
  have hb : Below w.heap.size w (w.alloc (.cells #[.int .i64 n] 3)) := (Below.refl _ _).alloc (Nat.le_refl _) _
  have lt := block_lt_of_cell h
  have h' := (hb.cell (p := ⟨p, 16, none⟩) lt).trans h
  have ne : Nonempty (Wd (fun w' => w' = (w.alloc (.cells #[.int .i64 n] 3)).drew)) := ⟨⟨_, rfl⟩⟩
  have x1 : ∀ x : Wd (fun w' => w' = (w.alloc (.cells #[.int .i64 n] 3)).drew), x.world.cell? ⟨w.heap.size, 0, none⟩ = some (.int .i64 n) := fun x => by rw [x.ok]; exact (cell_of_row (w.alloc _) _ _ _ _ _ (heap_alloc_last w _)).trans rfl
  have x2 : ∀ x : Wd (fun w' => w' = (w.alloc (.cells #[.int .i64 n] 3)).drew), x.world.cell? ⟨p, 11, none⟩ = some (.int .i64 many) := fun x => by rw [x.ok]; exact (hb.cell (p := ⟨p, 11, none⟩) lt).trans h2
  by_cases hn0 : n < 0
  all_goals
    have hn2 : ¬ n < 0 → many ≤ n := fun h => by omega
    simp only [hn0, not_true_eq_false, not_false_eq_true, forall_const, false_implies] at hn2
    go_enter Try.func21, Try.ntmps21
    go_wp2_with (go_at_call 33; refine (none_at p true _ h').mono ?_; rintro e w' ⟨rfl, rfl⟩)
    refine wp_region_hoist (fun w' => ∃ x : Wd (fun w' => w' = (w.alloc (.cells #[.int .i64 n] 3)).drew), w' = x.world) [] (by kernel_rfl) ?_
    refine wpAnyI_reads [0, 1, 2, 3, 4, 5, 6, 7, 8, 9, 10] 0 _ ⟨⟨_, rfl⟩, rfl⟩ (by kernel_rfl) ?_
    simp only [List.filterMap_cons, List.filterMap_nil, List.getElem?_toArray, List.getElem?_cons_succ, List.getElem?_cons_zero]
    repeat (refine wpHoist_step (fun K hK => ?_); simp only [hoists, sameUpon]; go_simp; refine hK _ ?_; clear hK K)
    refine wpHoist_nil ?_
    refine ⟨by kernel_rfl, ?_⟩
    go_wp2
    go_ret
    exact ⟨rfl, hb.drew⟩

theorem run_arrayAt (W : World) (a : Addr) (c : Nat) : (Instr.arrayAt tSec (.slice (some a) 256 c)).run Try.prog W = .ok (.pointer (some a)) W := by
  simp [Instr.arrayAt, run_underlying Try.underlying86]

set_option maxRecDepth 100000 in
set_option maxHeartbeats 1000000 in
theorem write_live (p b o cap : Nat) (n many : Int) (l : List UInt8) (w : World) (R : Ending → World → Prop) (h : w.cell? ⟨p, 16, none⟩ = some (.bool true)) (h2 : w.cell? ⟨p, 11, none⟩ = some (.int .i64 many)) (hn0 : 0 ≤ n) (hn1 : n < many)
    (hl : l.length = 256) (F : Nat → Prop) (hv : BytesAt w.heap F (.slice (some ⟨b, o, none⟩) 256 cap) l)
    (hR : ∀ W, Below w.heap.size w W → W.heap[w.heap.size]? = some (.cells #[.int .i64 n] 3 (0, 0)) → W.heap[w.heap.size + 1]? = some (.cells (l.map bval).toArray tSec (0, 0)) → W.heap.size = w.heap.size + 2 →
      Calls Try.prog 44 #[.pointer (some ⟨p, 0, none⟩), .agg #[.func (.func 45) #[] #[.pointer (some ⟨w.heap.size + 1, 0, none⟩), .pointer (some ⟨w.heap.size, 0, none⟩)],
        .func (.func 46) #[] #[.pointer (some ⟨w.heap.size, 0, none⟩), .pointer (some ⟨w.heap.size + 1, 0, none⟩)], .int .i64 (-1), .int .i64 1, .int .i64 n, .int .i64 0, .string ⟨l.toArray⟩]] W fun e w' => ∃ k, e = .returned (.int .i64 k) ∧ R e w') :
    Calls Try.prog 21 #[.pointer (some ⟨p, 0, none⟩), .int .i64 n, .slice (some ⟨b, o, none⟩) 256 cap] w R := by
  have hb : Below w.heap.size w (w.alloc (.cells #[.int .i64 n] 3)) := (Below.refl _ _).alloc (Nat.le_refl _) _
  have lt := block_lt_of_cell h
  have h' := (hb.cell (p := ⟨p, 16, none⟩) lt).trans h
  have ne : Nonempty (Wd (fun w' => w' = (w.alloc (.cells #[.int .i64 n] 3)).drew)) := ⟨⟨_, rfl⟩⟩
  have x1 : ∀ x : Wd (fun w' => w' = (w.alloc (.cells #[.int .i64 n] 3)).drew), x.world.cell? ⟨w.heap.size, 0, none⟩ = some (.int .i64 n) := fun x => by rw [x.ok]; exact (cell_of_row (w.alloc _) _ _ _ _ _ (heap_alloc_last w _)).trans rfl
  have x2 : ∀ x : Wd (fun w' => w' = (w.alloc (.cells #[.int .i64 n] 3)).drew), x.world.cell? ⟨p, 11, none⟩ = some (.int .i64 many) := fun x => by rw [x.ok]; exact (hb.cell (p := ⟨p, 11, none⟩) lt).trans h2
  have rng : (w.alloc (.cells #[.int .i64 n] 3)).drew.rangeAt b o (l.map bval) := by
    intro j v hj
    obtain ⟨x, hx, rfl⟩ : ∃ x, l[j]? = some x ∧ bval x = v := by simpa using hj
    rcases hv with ⟨h1, _⟩ | ⟨b', o', cap', c, t, fr, h1, g1, g2, g3, g4, g5⟩
    · cases h1
    · simp only [Value.slice.injEq, Option.some.injEq, Addr.mk.injEq] at h1
      obtain ⟨⟨rfl, rfl, _⟩, _, rfl⟩ := h1
      exact (cell_of_row _ _ _ _ _ _ (hb.drew.block b (lt_of_row g4) |>.trans g4)).trans (g5 j x hx)
  have RG := Lib.hid rng
  have HV := Lib.hid hv
  have HL := Lib.hid hl
  have HR := Lib.hid hR
  clear rng hv hl hR
  have hat := run_arrayAt
  have nlt : ¬ n < 0 := by omega
  have nge : ¬ many ≤ n := by omega
  go_enter Try.func21, Try.ntmps21
  go_wp2_with (go_at_call 33; refine (none_at p true _ h').mono ?_; rintro e w' ⟨rfl, rfl⟩)
  refine wp_region_hoist (fun w' => ∃ x : Wd (fun w' => w' = (w.alloc (.cells #[.int .i64 n] 3)).drew), w' = x.world) [] (by kernel_rfl) ?_
  refine wpAnyI_reads [0, 1, 2, 3, 4, 5, 6, 7, 8, 9, 10] 0 _ ⟨⟨_, rfl⟩, rfl⟩ (by kernel_rfl) ?_
  simp only [List.filterMap_cons, List.filterMap_nil, List.getElem?_toArray, List.getElem?_cons_succ, List.getElem?_cons_zero]
  repeat (refine wpHoist_step (fun K hK => ?_); simp only [hoists, sameUpon]; go_simp; refine hK _ ?_; clear hK K)
  refine wpHoist_nil ?_
  refine ⟨by kernel_rfl, ?_⟩
  have r0 : ((w.alloc (.cells #[.int .i64 n] 3)).alloc (.cells Try.zeroCells86 tSec)).drew.heap[w.heap.size + 1]? = some (.cells Try.zeroCells86 tSec (0, 0)) := heap_at (w := w.alloc (.cells #[.int .i64 n] 3)) _ (by simp)
  have ha : (Try.prog.info? tSec).map (·.size) = some (l.map bval).toArray.size := by rw [infoSec]; simp [HL.out]
  have HA := Lib.hid (And.intro r0 ha)
  clear r0 ha
  go_wp2_with (first
    | (refine wpList_load_mid rfl tSec (.tmp 27) rfl b o rfl (l.map bval) _ RG.out Try.underlying86 rfl (by rw [infoSec]; simp only [List.length_map, HL.out]) ?_)
    | (refine wpList_store_abs rfl tSec (.tmp 7) (.tmp 28) rfl (w.heap.size + 1) (l.map bval).toArray rfl rfl tSec Try.zeroCells86 HA.out.1 HA.out.2 (by simp only [List.size_toArray, List.length_map, HL.out]; kernel_rfl) (all_bvals _) ?_
       intro W1 HW HM1 HS
       have hw0 : W1.heap[w.heap.size]? = some (.cells #[.int .i64 n] 3 (0, 0)) := (HM1.block w.heap.size (by simp; omega) (fun (e : w.heap.size = w.heap.size + 1) => by omega)).trans ((Below.heap_alloc _ _ _ (by simp)).trans (heap_alloc_last w _))
       have k0 : W1.cell? ⟨w.heap.size, 0, none⟩ = some (.int .i64 n) := (cell_of_row _ _ _ _ _ _ hw0).trans rfl
       have HW0 := Lib.hid hw0
       have hb1 : Below w.heap.size w W1 := (hb.alloc (by simp) _).drew.trans ⟨HM1.os, HM1.tape, HM1.output, HM1.size, fun k hk => HM1.block k (by simp; omega) (fun (e : k = w.heap.size + 1) => by omega)⟩
       have hcv := run_string_of (HV.out.below hb1)
       clear hw0)
    | (go_at_call 44
       refine (HR.out W1 hb1 HW0.out HW.out (by rw [HS]; simp)).mono ?_
       rintro e w' ⟨k, rfl, hr⟩))
  exact hr

theorem DiskAt.cell16 {w : World} {p m : Nat} {d : D} {F : Nat → Prop} (x : DiskAt w.heap p m d F) : w.cell? ⟨p, 16, none⟩ = some (.bool true) ∧ w.cell? ⟨p, 11, none⟩ = some (.int .i64 d.many) ∧ w.cell? ⟨p, 12, none⟩ = some (.int .i64 d.room) ∧ w.cell? ⟨p, 13, none⟩ = some (.bool d.dead) := by
  obtain ⟨ml, l0, l1, l2, l3, wv, stops, after, ⟨t0, t1, t2, t3, c1, _⟩, _⟩ := x.parts
  refine ⟨?_, ?_, ?_, ?_⟩ <;> (rw [cell_of_row _ _ _ _ _ _ c1]; simp [diskR])

/-- What a call leaves that may change the disk at p, whose map is m. -/
def Left (w : World) (p m : Nat) (F : Nat → Prop) (r : D × Int) (e : Ending) (w' : World) : Prop :=
  e = .returned (.int .i64 r.2) ∧ Moves (fun k => k = p ∨ k = m) w w' ∧ DiskAt w'.heap p m r.1 (plus F w w')

theorem DiskAt.plus {w w' : World} {p m : Nat} {d : D} {F : Nat → Prop} (x : DiskAt w.heap p m d F) (hb : Below w.heap.size w w') : DiskAt w'.heap p m d (plus F w w') := by
  obtain ⟨l1, l2, l3, l4, l5⟩ := x.lt
  exact (x.below hb).weak (fun _ h _ => Or.inl h) (fun h => by rcases h with h | h; exact l4 h; omega) (fun h => by rcases h with h | h; exact l5 h; omega)

theorem left_below {w w' : World} {p m : Nat} {d : D} {F : Nat → Prop} {c : Int} (x : DiskAt w.heap p m d F) (hb : Below w.heap.size w w') : Left w p m F (d, c) (.returned (.int .i64 c)) w' :=
  ⟨rfl, Moves.of_below hb, x.plus hb⟩

/-- A call behind others that made memory. -/
theorem left_later {w W w' : World} {p m : Nat} {d : D} {F : Nat → Prop} {r : D × Int} {e : Ending} (x : DiskAt w.heap p m d F) (hb : Below w.heap.size w W) (h : Left W p m (plus F w W) r e w') : Left w p m F r e w' := by
  obtain ⟨l1, l2, l3, l4, l5⟩ := x.lt
  obtain ⟨h1, h2, h3⟩ := h
  have hs := hb.size
  have hs2 := h2.size
  refine ⟨h1, ⟨h2.os.trans hb.os, h2.tape.trans hb.tape, h2.output.trans hb.output, by omega, fun k hk hn => (h2.block k (by omega) hn).trans (hb.block k hk)⟩, h3.weak (fun k hk hl => ?_) ?_ ?_⟩
  · rcases hk with (hk | hk) | hk
    · exact Or.inl hk
    · exact Or.inr ⟨hk.1, hl⟩
    · exact Or.inr ⟨by omega, hl⟩
  · intro h; rcases h with h | h
    · exact l4 h
    · omega
  · intro h; rcases h with h | h
    · exact l5 h
    · omega

/-- A sector is written. -/
theorem write_c {p m : Nat} {d : D} {F G : Nat → Prop} {w : World} (x : DiskAt w.heap p m d F) (n : Int) {bv : Value} {l : List UInt8} (hv : BytesAt w.heap G bv l) (hn : d.waits.length ≤ 1000000000000) :
    Calls Try.prog 21 #[.pointer (some ⟨p, 0, none⟩), .int .i64 n, bv] w (Left w p m F (d.write n l)) := by
  obtain ⟨k16, k11, _⟩ := x.cell16
  have sl : ∃ a c, bv = .slice a l.length c := by
    rcases hv with ⟨rfl, rfl⟩ | ⟨b, o, cap, c, t, fr, rfl, h2, h3, g2, g3, g4⟩
    · exact ⟨_, _, rfl⟩
    · exact ⟨_, _, rfl⟩
  obtain ⟨a, c, rfl⟩ := sl
  by_cases h1 : l.length = 256
  · by_cases h2 : n < 0 ∨ d.many ≤ n
    · have e : d.write n l = (d, 4) := by
        unfold D.write
        rw [if_neg (by omega), if_pos (by omega)]
      rw [e, h1]
      refine (write_range p a c n d.many w k16 k11 h2).mono ?_
      rintro e w' ⟨rfl, hb⟩
      exact left_below x hb
    · have e : d.write n l = d.step ⟨1, n, 0, l⟩ := by
        unfold D.write
        rw [if_neg (by omega), if_neg (by omega)]
      rw [e]
      have hsome : ∃ b o, a = some ⟨b, o, none⟩ := by
        rcases hv with ⟨h, hl⟩ | ⟨b, o, cap, c, t, fr, h, _⟩
        · rw [hl] at h1; simp at h1
        · simp only [Value.slice.injEq] at h
          exact ⟨b, o, h.1⟩
      obtain ⟨b, o, rfl⟩ := hsome
      rw [h1] at hv ⊢
      refine write_live p b o c n d.many l w _ k16 k11 (by omega) (by omega) h1 G hv ?_
      intro W hb r0 r1 hz
      have x1 := x.plus hb
      have hok : (⟨1, n, 0, l⟩ : Step).ok d.many := Or.inl ⟨rfl, by show 0 ≤ n; omega, by show n < d.many; omega, rfl, h1⟩
      have st : StepAt W.heap (plus F w W) ⟨1, n, 0, l⟩ (.func (.func 45) #[] #[.pointer (some ⟨w.heap.size + 1, 0, none⟩), .pointer (some ⟨w.heap.size, 0, none⟩)])
          (.func (.func 46) #[] #[.pointer (some ⟨w.heap.size, 0, none⟩), .pointer (some ⟨w.heap.size + 1, 0, none⟩)]) (.int .i64 (-1)) (.int .i64 1) (.int .i64 n) (.int .i64 0) (.string ⟨l.toArray⟩) :=
        ⟨rfl, rfl, rfl, ⟨_, rfl, by simp⟩, Or.inl ⟨rfl, rfl, w.heap.size, w.heap.size + 1, Or.inr ⟨by omega, by omega⟩, Or.inr ⟨by omega, by omega⟩, rfl, rfl, r0, r1⟩⟩
      refine (step_c x1 ⟨1, n, 0, l⟩ hok hn (fun t => by rw [done_other _ _ _ rfl]; exact stand_tapes x.ok t) st).mono ?_
      rintro e w' h
      exact ⟨_, h.1, left_later x hb h⟩
  · have e : d.write n l = (d, 2) := by
      unfold D.write
      rw [if_pos h1]
    rw [e]
    refine (write_arg p a l.length c n w k16 h1).mono ?_
    rintro e w' ⟨rfl, hb⟩
    exact left_below x hb

end Go.Proofs.Ytiefhmbpaoecfaa

namespace Go.Proofs.Ytiefhmbpaoecfaa
open Go.RowKit Dm Go.Shelf
attribute [local go_sem] Oper.semAt_some

def tapesL (t0 t1 t2 t3 : Value) : List (Int × Value) := [(0, t0), (1, t1), (2, t2), (3, t3)]
def encT (x : Int × Value) : Array Value := #[.int .i64 x.1, x.2]

theorem all_c (q o : Nat) (w : World) : Calls Try.prog 65 #[.pointer (some ⟨q, o, none⟩)] w fun e w' =>
    e = .returned (.func (.func 70) #[] #[.pointer (some ⟨w.heap.size, 0, none⟩)]) ∧ w.alloc (.cells #[.pointer (some ⟨q, o, none⟩)] 84) = w' := by
  go_enter Try.func65, Try.ntmps65
  go_wp2
  go_ret
  exact ⟨rfl, rfl⟩

abbrev tArr4 : Nat := 37

theorem run_index4 (t0 t1 t2 t3 : Value) (k : Nat) (v : Value) (hk : #[t0, t1, t2, t3][k]? = some v) (W : World) : (Instr.index tArr4 (.agg #[t0, t1, t2, t3]) (.int .i64 (Int.ofNat k))).run Try.prog W = .ok v W := by
  have hlt : k < 4 := by have := (Array.getElem?_eq_some_iff.1 hk).1; simpa using this
  have hs : (sizeOf tBytes).run Try.prog W = .ok 1 W := by kernel_rfl
  have hag : (isAgg tBytes).run Try.prog W = .ok false W := by kernel_rfl
  simp only [Instr.index, asIntOf, Sem.run_bind, Sem.run_pure, Result.andThen_ok, run_underlying Try.underlying37]
  rw [if_pos ⟨by simp, by show (k : Int) < 4; omega⟩]
  simp only [Sem.run_bind, hs, Result.andThen_ok, part, hag, Bool.false_eq_true, if_false, Int.ofNat_eq_natCast, Int.toNat_natCast, Nat.mul_one, hk, Sem.run_pure]

set_option maxRecDepth 100000 in
set_option maxHeartbeats 2000000 in
theorem all1_c (g q o : Nat) (ho : o = 0 ∨ o = 5) (t0 t1 t2 t3 : Value) (w : World) (hg : w.cell? ⟨g, 0, none⟩ = some (.pointer (some ⟨q, o, none⟩))) (h1 : w.cell? ⟨q, o + 1, none⟩ = some t0) (h2 : w.cell? ⟨q, o + 2, none⟩ = some t1)
    (h3 : w.cell? ⟨q, o + 3, none⟩ = some t2) (h4 : w.cell? ⟨q, o + 4, none⟩ = some t3) :
    Iter Try.prog 70 #[.pointer (some ⟨g, 0, none⟩)] encT (tapesL t0 t1 t2 t3) (fun _ => False) w := by
  intro l J Jx W hW hJ hJx hY h0
  have lt : q < w.heap.size := block_lt_of_cell h1
  have ix0 := fun W => run_index4 t0 t1 t2 t3 0 t0 rfl W
  have ix1 := fun W => run_index4 t0 t1 t2 t3 1 t1 rfl W
  have ix2 := fun W => run_index4 t0 t1 t2 t3 2 t2 rfl W
  have ix3 := fun W => run_index4 t0 t1 t2 t3 3 t3 rfl W
  simp only [Int.ofNat_eq_natCast, Int.cast_ofNat_Int] at ix0 ix1 ix2 ix3
  have f0 := (hW.cell (p := ⟨g, 0, none⟩) (block_lt_of_cell hg)).trans hg
  rcases ho with rfl | rfl
  all_goals
    have f1 := (hW.cell (p := ⟨q, _, none⟩) lt).trans h1
    have f2 := (hW.cell (p := ⟨q, _, none⟩) lt).trans h2
    have f3 := (hW.cell (p := ⟨q, _, none⟩) lt).trans h3
    have f4 := (hW.cell (p := ⟨q, _, none⟩) lt).trans h4
    simp only [Nat.zero_add, Nat.reduceAdd] at f1 f2 f3 f4
    clear h1 h2 h3 h4 hg
    refine callsIn_of_wp Try.func70 rfl trivial ?_ rfl
    simp only [Try.ntmps70, List.size_toArray, List.length_cons, List.length_nil, Nat.reduceAdd, Nat.reduceSub, Array.replicate_succ, Array.replicate_zero, List.push_toArray, List.append_toArray, List.nil_append, List.cons_append]
    gi_wp2
    refine wpIn_scope (wpIn_label_seq ?_)
    gi_wp2
    gi_loopw [9] (fun p wr => ∃ k : Nat, p = .int .i64 (k : Int) ∧ k ≤ 4 ∧ J k (fun _ => False) wr) (fun p _ => 5 - (intOf p).toNat)
    case atStart => exact ⟨0, rfl, by omega, h0⟩
    case round =>
      obtain ⟨k, rfl, hk, hJk⟩ := hrel
      by_cases hlt : k < 4
      · obtain rfl | rfl | rfl | rfl : k = 0 ∨ k = 1 ∨ k = 2 ∨ k = 3 := by omega
        all_goals
          obtain ⟨fn, tmps, assign, body, hy, hR⟩ := hY _ _ _ wr rfl hJk
          simp only [encT] at hy
          gi_wp2
          refine ⟨rfl, hR.mono ?_⟩
          rintro e W' (⟨rfl, hJ', hk'⟩ | ⟨rfl, hJx', hk'⟩)
          · gi_wp2
            first
              | exact ⟨⟨1, rfl, by decide, hJ'⟩, by simp [intOf]⟩
              | exact ⟨⟨2, rfl, by decide, hJ'⟩, by simp [intOf]⟩
              | exact ⟨⟨3, rfl, by decide, hJ'⟩, by simp [intOf]⟩
              | exact ⟨⟨4, rfl, by decide, hJ'⟩, by simp [intOf]⟩
          · gi_wp2
            simp +zetaDelta only [Exit.noGoto_normal]; refine bodyPost_end (results_none rfl _ _ _) rfl ?_
            first
              | exact ⟨⟨_, rfl⟩, _, .inr ⟨1, by simp [tapesL], hJx'⟩⟩
              | exact ⟨⟨_, rfl⟩, _, .inr ⟨2, by simp [tapesL], hJx'⟩⟩
              | exact ⟨⟨_, rfl⟩, _, .inr ⟨3, by simp [tapesL], hJx'⟩⟩
              | exact ⟨⟨_, rfl⟩, _, .inr ⟨4, by simp [tapesL], hJx'⟩⟩
      · obtain rfl : k = 4 := by omega
        gi_wp2
        simp +zetaDelta only [Exit.noGoto_normal]; refine bodyPost_end (results_none rfl _ _ _) rfl ?_
        exact ⟨⟨_, rfl⟩, _, .inl hJk⟩

end Go.Proofs.Ytiefhmbpaoecfaa

namespace Go.Proofs.Ytiefhmbpaoecfaa
open Go.RowKit Dm Go.Shelf
attribute [local go_sem] Oper.semAt_some

/-- A result that lies in a cell. -/
theorem results_cell_one {fn : Func} {p : Tmp} {ty : TypeId} (h : fn.results = #[.cell p ty]) (tmps : Array Value) (w : World) (a : Addr) (v : Value) (hp : tmps.getD p undef = .pointer (some a)) (hc : w.cell? a = some v)
    (hi : (isAgg ty).run Try.prog w = .ok false w) : (results fn tmps).run Try.prog w = .ok v w := by
  have hp' : tmps[p]?.getD undef = .pointer (some a) := by simpa using hp
  simp [results, h, hp', asAddr, loadVar, hi, hc]

/-- Between two rounds of the loop that counts. -/
def UsI (w : World) (ns : List Nat) (k : Nat) (O : Nat → Prop) (W' : World) : Prop :=
  Below w.heap.size w W' ∧ W'.heap[w.heap.size]? = some (.cells #[.int .i64 ((ns.take k).sum : Nat)] 3 (0, 0)) ∧ (∀ i, O i → w.heap.size + 4 ≤ i) ∧ w.heap.size + 4 ≤ W'.heap.size

theorem usI_moves {w A B : World} {ns : List Nat} {k : Nat} {O O' : Nat → Prop} (h : UsI w ns k O A) (hm : Moves O A B) (ho : ∀ i, O' i → O i ∨ A.heap.size ≤ i) : UsI w ns k O' B := by
  obtain ⟨h1, h2, h6, h7⟩ := h
  refine ⟨⟨hm.os.trans h1.os, hm.tape.trans h1.tape, hm.output.trans h1.output, Nat.le_trans h1.size hm.size, fun i hi => ?_⟩, (hm.block _ (by omega) (fun e => by have := h6 _ e; omega)).trans h2, fun i hi => ?_, Nat.le_trans h7 hm.size⟩
  · exact (hm.block i (by have := h1.size; omega) (fun e => by have := h6 i e; omega)).trans (h1.block i hi)
  · rcases ho i hi with e | e
    · exact h6 i e
    · omega

theorem usI_put {w A : World} {ns : List Nat} {k : Nat} {O : Nat → Prop} (h : UsI w ns k O A) (d : Nat) (hd : w.heap.size + 1 ≤ d) (o : Obj) : UsI w ns k O (A.putObj d o) := by
  obtain ⟨h1, h2, h6, h7⟩ := h
  exact ⟨⟨h1.os, h1.tape, h1.output, by simpa using h1.size, fun i hi => (World.putObj_heap_other (by omega)).trans (h1.block i hi)⟩, (World.putObj_heap_other (by omega)).trans h2, h6, by simpa using h7⟩

set_option maxRecDepth 100000 in
set_option maxHeartbeats 2000000 in
theorem used_c (q o : Nat) (ho : o = 0 ∨ o = 5) (a0 a1 a2 a3 : Option Addr) (n0 n1 n2 n3 c0 c1 c2 c3 : Nat) (hn : n0 + n1 + n2 + n3 ≤ 9223372036854775807) (w : World) (h1 : w.cell? ⟨q, o + 1, none⟩ = some (.slice a0 n0 c0)) (h2 : w.cell? ⟨q, o + 2, none⟩ = some (.slice a1 n1 c1))
    (h3 : w.cell? ⟨q, o + 3, none⟩ = some (.slice a2 n2 c2)) (h4 : w.cell? ⟨q, o + 4, none⟩ = some (.slice a3 n3 c3)) :
    Calls Try.prog 47 #[.pointer (some ⟨q, o, none⟩)] w fun e w' => e = .returned (.int .i64 ((n0 + n1 + n2 + n3 : Nat) : Int)) ∧ Below w.heap.size w w' := by
  have lt : q < w.heap.size := block_lt_of_cell h1
  have hb0 : Below w.heap.size w (w.alloc (.cells #[.int .i64 0] 3)) := (Below.refl _ _).alloc (Nat.le_refl _) _
  have hb : Below w.heap.size w ((w.alloc (.cells #[.int .i64 0] 3)).alloc (.cells #[.pointer (some ⟨q, o, none⟩)] 84)) := hb0.alloc (by simp) _
  have r0 : ((w.alloc (.cells #[.int .i64 0] 3)).alloc (.cells #[.pointer (some ⟨q, o, none⟩)] 84)).heap[w.heap.size]? = some (.cells #[.int .i64 0] 3 (0, 0)) := (Below.heap_alloc _ _ _ (by simp)).trans (heap_alloc_last w _)
  have k0 : ((w.alloc (.cells #[.int .i64 0] 3)).alloc (.cells #[.pointer (some ⟨q, o, none⟩)] 84)).cell? ⟨w.heap.size + 1, 0, none⟩ = some (.pointer (some ⟨q, o, none⟩)) := (cell_of_row _ _ _ _ _ _ (heap_at (w := w.alloc (.cells #[.int .i64 0] 3)) _ (by simp))).trans rfl
  have IT := Lib.hid (all1_c (w.heap.size + 1) q o ho _ _ _ _ _ k0 ((hb.cell (p := ⟨q, _, none⟩) lt).trans h1) ((hb.cell (p := ⟨q, _, none⟩) lt).trans h2) ((hb.cell (p := ⟨q, _, none⟩) lt).trans h3) ((hb.cell (p := ⟨q, _, none⟩) lt).trans h4))
  have R0 := Lib.hid r0
  clear h1 h2 h3 h4 r0 k0
  refine (callsIn_wide (n := 0)).1 ?_
  refine callsIn_of_wp_marks Try.func47 rfl trivial ?_ rfl
  simp only [Try.ntmps47, List.size_toArray, List.length_cons, List.length_nil, Nat.reduceAdd, Nat.reduceSub, Array.replicate_succ, Array.replicate_zero, List.push_toArray, List.append_toArray, List.nil_append, List.cons_append]
  gi_wp2_with (refine ⟨trivial, rfl, ?_⟩; gi_at_call 65; refine (callsIn_wide.2 (all_c q o _)).mono ?_; rintro e w' ⟨rfl, rfl⟩)
  refine wpIn_rangeIter (gf := 70) (lb := #[.pointer (some ⟨w.heap.size + 1, 0, none⟩)]) (encs := encT) (xs := tapesL (.slice a0 n0 c0) (.slice a1 n1 c1) (.slice a2 n2 c2) (.slice a3 n3 c3)) (R := fun _ => False) rfl (enters_of Try.func70 (by kernel_rfl) rfl) IT.out (fun _ h => h.elim)
    (Below.refl _ _) (fun _ => rfl) (UsI w [n0, n1, n2, n3]) (fun _ _ _ _ => False) (fun k O O' A B h hm _ ho => usI_moves h hm ho) (fun _ _ _ _ _ _ h _ _ _ => h) ?hIb (fun _ _ _ _ _ _ _ h => h) ?h0
    (fun x a' _ => a' = { tmps := #[.pointer (some ⟨q, o, none⟩), undef, .pointer (some ⟨w.heap.size, 0, none⟩), undef, x.2, .pointer (some ⟨q, o, none⟩), .func (.func 70) #[] #[.pointer (some ⟨w.heap.size + 1, 0, none⟩)], .int .i64 x.1, x.2, undef, undef, undef, undef, undef], defers := [] }) (fun _ _ _ _ _ _ _ h => h) ?assign ?body ?done ?stop
  case hIb =>
    intro k O r o W' _ h
    exact usI_put h _ (by simp only [World.size_alloc]; omega) o
  case h0 =>
    intro W' hb' hs
    simp only [World.size_alloc] at hb' hs
    refine ⟨hb.trans (hb'.mono (by omega)), (hb'.block _ (by omega)).trans R0.out, fun i h => h.elim, by omega⟩
  case assign =>
    rintro k ⟨x1, x2⟩ O W' hx hi _ _ _
    simp only [encT]
    gi_wp2
    exact ⟨hi, Keeps.refl _ _, trivial⟩
  case body =>
    rintro k x O a' W' hx hl hd hol hod hi rfl
    clear hl hd
    simp only [World.size_alloc] at hol hod ⊢
    have hk : k < 4 := by
      have := (List.getElem?_eq_some_iff.1 hx).1
      simpa [tapesL] using this
    obtain ⟨h1, h2, h6, h7⟩ := hi
    obtain ⟨a, n, c, hx2, hs⟩ : ∃ a n c, x.2 = .slice a n c ∧ ([n0, n1, n2, n3].take (k + 1)).sum = ([n0, n1, n2, n3].take k).sum + n ∧ ([n0, n1, n2, n3].take k).sum + n ≤ 9223372036854775807 := by
      have kk : k = 0 ∨ k = 1 ∨ k = 2 ∨ k = 3 := by omega
      rcases kk with rfl | rfl | rfl | rfl <;> (simp only [tapesL, List.getElem?_cons_zero, List.getElem?_cons_succ, Option.some.injEq] at hx; subst hx; refine ⟨_, _, _, rfl, ?_, ?_⟩ <;> simp [List.take] <;> omega)
    rw [hx2]
    have e1 : IntKind.i64.wrap ((([n0, n1, n2, n3].take k).sum : Nat) + (n : Int)) = (([n0, n1, n2, n3].take (k + 1)).sum : Nat) := by
      rw [hs.1]
      exact IntWalk.i64_in _ (by omega)
    have c1 : W'.cell? ⟨w.heap.size, 0, none⟩ = some (.int .i64 (([n0, n1, n2, n3].take k).sum : Nat)) := (cell_of_row _ _ _ _ _ _ h2).trans rfl
    have z1 : W'.frozen? ⟨w.heap.size, 0, none⟩ = false := by simp [World.frozen?, h2]
    have HH := Lib.hid (And.intro h1 (And.intro h2 (And.intro h6 (And.intro h7 hs))))
    generalize (([n0, n1, n2, n3].take k).sum : Nat) = s0 at *
    generalize hs1 : (([n0, n1, n2, n3].take (k + 1)).sum : Nat) = s1 at *
    clear h1 h2 h6 h7 hs
    gi_wp2
    obtain ⟨h1, h2, h6, h7, hs⟩ := HH.out
    have other : ∀ i, i ≠ w.heap.size → (W'.setCell ⟨w.heap.size, 0, none⟩ (.int .i64 (s1 : Int))).heap[i]? = W'.heap[i]? := fun i hi => heap_setCell_other W' _ i _ hi
    refine ⟨⟨by simp, fun i hi _ => other i ?_⟩, ⟨h1.os, h1.tape, h1.output, by simpa using h1.size, fun i hi => (other i (by omega)).trans (h1.block i hi)⟩, ?_, h6, by simpa using h7⟩
    · rcases hi with h | h | h | h
      · have := h6 i h; omega
      · exact h.elim
      · omega
      · omega
    · have := heap_setCell_same W' w.heap.size 0 _ _ (.int .i64 (s1 : Int)) h2
      rw [hs1]; exact this
  case done =>
    intro O W2 hi _ hD
    simp only [World.size_alloc] at hD
    obtain ⟨h1, h2, h6, h7⟩ := hi
    have e4 : ((List.take (tapesL (.slice a0 n0 c0) (.slice a1 n1 c1) (.slice a2 n2 c2) (.slice a3 n3 c3)).length [n0, n1, n2, n3]).sum : Nat) = n0 + n1 + n2 + n3 := by simp [tapesL]; omega
    rw [e4] at h2
    generalize hnn : n0 + n1 + n2 + n3 = n at *
    have k1 : W2.cell? ⟨w.heap.size, 0, none⟩ = some (.int .i64 (n : Int)) := (cell_of_row _ _ _ _ _ _ h2).trans rfl
    have z1 : W2.frozen? ⟨w.heap.size, 0, none⟩ = false := by simp [World.frozen?, h2]
    have other : ∀ i, i ≠ w.heap.size → (W2.setCell ⟨w.heap.size, 0, none⟩ (.int .i64 (n : Int))).heap[i]? = W2.heap[i]? := fun i hi => heap_setCell_other W2 _ i _ hi
    have hD' := (other (w.heap.size + 1 + 1) (by omega)).trans hD
    have hr : (W2.setCell ⟨w.heap.size, 0, none⟩ (.int .i64 (n : Int))).heap[w.heap.size]? = some (.cells #[.int .i64 (n : Int)] 3 (0, 0)) := heap_setCell_same W2 w.heap.size 0 _ _ (.int .i64 (n : Int)) h2
    have hr' : ((W2.setCell ⟨w.heap.size, 0, none⟩ (.int .i64 (n : Int))).putObj (w.heap.size + 1 + 1) (.deferred none)).heap[w.heap.size]? = some (.cells #[.int .i64 (n : Int)] 3 (0, 0)) := (World.putObj_heap_other (by omega)).trans hr
    have hbb : Below w.heap.size w ((W2.setCell ⟨w.heap.size, 0, none⟩ (.int .i64 (n : Int))).putObj (w.heap.size + 1 + 1) (.deferred none)) :=
      ⟨h1.os, h1.tape, h1.output, by simpa using h1.size, fun i hi => (World.putObj_heap_other (by omega)).trans ((other i (by omega)).trans (h1.block i hi))⟩
    have HI := Lib.hid (And.intro hr' (And.intro hbb hD'))
    clear h1 h2 h6 h7 other hD' hr hr' hbb hD
    gi_wp2
    simp only [World.size_alloc]
    exact leaves_mark HI.out.2.2 (results_cell_one rfl _ _ ⟨w.heap.size, 0, none⟩ _ rfl ((cell_of_row _ _ _ _ _ _ HI.out.1).trans rfl) (by kernel_rfl)) ⟨by rw [hnn]; rfl, HI.out.2.1⟩
  case stop =>
    intro c k O W' hkx h
    exact h.elim

end Go.Proofs.Ytiefhmbpaoecfaa
