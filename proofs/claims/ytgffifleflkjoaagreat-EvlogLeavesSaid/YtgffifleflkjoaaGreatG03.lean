/-
  CRC-32C: a step; the table.
  The disk, in plain Lean: what stands, the steps that wait, what each call does.
  A range over a map that does not change while it is gone through.
  How a disk lies in memory.
  A map of sectors: what a look and a store do.
  What stays of a disk in memory while other blocks change.
  The disk's small functions.
-/
import Derived.Test.YtgffifleflkjoaaGreatG01
import Derived.Test.YtgffifleflkjoaaGreatG02
import Derived.Laws.BitsAllLaws
import Derived.Deep.LoopGhost
import Derived.Test.YtgffifleflkjoaaGreatRows

namespace Go.Proofs.YtgffifleflkjoaaGreat
open Go.RowKit

abbrev w32 (n : Nat) : Value := .int .u32 n

theorem step_bits (n : Nat) (h : n < 4294967296) : bits .xor .u32 ((n : Int) / 2) (IntKind.u32.wrap (bits .and .u32 (n : Int) 1 * 2197175160)) = ((Cm.step n : Nat) : Int) := by
  have e1 : bits .and .u32 (n : Int) 1 = ((n % 2 : Nat) : Int) := by
    rw [show (1 : Int) = ((1 : Nat) : Int) from rfl, u32_and_nat n 1 h (by decide), nat_mask1]
  have e2 : IntKind.u32.wrap (((n % 2 : Nat) : Int) * 2197175160) = (((if n % 2 = 1 then Cm.poly else 0) : Nat) : Int) := by
    rw [IntKind.wrap_u32']
    rcases Nat.mod_two_eq_zero_or_one n with h | h
    · simp [h]
    · simp [h, Cm.poly]
  rw [e1, e2, show (n : Int) / 2 = ((n / 2 : Nat) : Int) by omega, u32_xor_nat (n / 2) _ (by omega) (by split <;> decide)]
  rfl

set_option maxRecDepth 100000 in
set_option maxHeartbeats 1000000 in
theorem crcStep_c (g o n : Nat) (c : Array Value) (t : TypeId) (w : World) (hg : w.heap[g]? = some (.cells c t (0, 0))) (ho : c[o]? = some (w32 n)) (hn : n < 4294967296) :
    Calls Tryz.prog 219 #[.pointer (some ⟨g, o, none⟩)] w fun e w' => e = .returned (.tuple #[]) ∧ (w.setCell ⟨g, o, none⟩ (w32 (Cm.step n))).drew = w' := by
  have k : w.cell? ⟨g, o, none⟩ = some (.int .u32 n) := (cell_of_row _ _ _ _ _ _ hg).trans ho
  have z : w.frozen? ⟨g, o, none⟩ = false := by simp [World.frozen?, hg]
  have h0 : (0 : Int) ≤ (n : Int) := by omega
  have h1 : (n : Int) < 4294967296 := by omega
  go_enter Tryz.func219, Tryz.ntmps219
  go_wp2
  refine wp_region_tail 15 (by kernel_rfl) (by kernel_rfl) ?_
  simp only [List.take_succ_cons, List.take_zero, List.drop_succ_cons, List.drop_zero]
  repeat still_step
  refine wpStill_nil ?_
  refine wpList_plain rfl fun K hK => ?_
  go_simp
  refine hK _ _ ?_
  simp only [wpList]
  rw [step_bits n hn]
  go_end0
  exact ⟨rfl, rfl⟩

theorem infoRun : (Tryz.prog.info? 291).map (·.size) = some 257 := by kernel_rfl

theorem steps_succ : ∀ (k n : Nat), Cm.steps (k + 1) n = Cm.step (Cm.steps k n)
  | 0, _ => rfl
  | k + 1, n => by rw [Cm.steps, steps_succ k]; rfl

/-- A cell of a block is another. -/
theorem setCell_row {w : World} {g o : Nat} {c : Array Value} {t : TypeId} (v : Value) (h : w.heap[g]? = some (.cells c t (0, 0))) :
    (w.setCell ⟨g, o, none⟩ v).drew.heap[g]? = some (.cells (c.setIfInBounds o v) t (0, 0)) ∧ Moves (fun k => k = g) w (w.setCell ⟨g, o, none⟩ v).drew :=
  ⟨heap_setCell_same w g o c t v h, rfl, rfl, rfl, by simp, fun k _ hn => heap_setCell_other w _ k v hn⟩

abbrev tRun : Nat := 291

set_option maxRecDepth 100000 in
set_option maxHeartbeats 4000000 in
theorem crcTab_c (i : Nat) (w : World) (hi : i < 256) :
    Calls Tryz.prog 218 #[.int .i64 i] w fun e w' => e = .returned (w32 (Cm.tab i)) ∧ Below w.heap.size w w' := by
  have h0 : (0 : Int) ≤ (i : Int) := by omega
  have h1 : (i : Int) < 256 := by omega
  have ones : (Tryz.zeroCells291.setIfInBounds 0 (.int .u32 (i : Int))).all (·.oneCell') = true := by kernel_rfl
  have size : (Tryz.zeroCells291.setIfInBounds 0 (.int .u32 (i : Int))).size = 257 := by rw [Array.size_setIfInBounds]; kernel_rfl
  obtain ⟨C0, hC0⟩ : ∃ C0, Tryz.zeroCells291.setIfInBounds 0 (.int .u32 (i : Int)) = C0 := ⟨_, rfl⟩
  have HC := Lib.hid hC0
  have c00 : C0 = C0.setIfInBounds 0 (w32 (Cm.steps 0 i)) := by
    rw [← hC0, Array.setIfInBounds_setIfInBounds]; rfl
  rw [hC0] at ones size
  have H := Lib.hid (And.intro ones (And.intro size c00))
  clear ones size c00 hC0
  go_enter Tryz.func218, Tryz.ntmps218
  go_wp2_with (refine wpList_store_abs rfl tRun (.tmp 3) (.tmp 7) rfl w.heap.size C0 rfl (by rw [← HC.out]; rfl) tRun Tryz.zeroCells291 (heap_alloc_last w _) (by rw [infoRun, H.out.2.1]) (by rw [H.out.2.1]; kernel_rfl) H.out.1 ?_; intro W1 HW1 HM1 HS1)
  have hb1 : Below w.heap.size w W1 := Moves.new ((Below.refl _ _).alloc (Nat.le_refl _) _) HM1 (Nat.le_refl _)
  have H1 := Lib.hid (And.intro hb1 HW1.out)
  clear hb1 HW1 HM1 HS1
  go_loopw [8] (fun s wr => ∃ k : Nat, k ≤ 8 ∧ s = .int .i64 (k : Int) ∧ wr.heap[w.heap.size]? = some (.cells (C0.setIfInBounds 0 (w32 (Cm.steps k i))) tRun (0, 0)) ∧ Below w.heap.size w wr) (fun s _ => 8 - (intOf s).toNat)
  case atStart => exact ⟨0, by omega, rfl, by rw [← H.out.2.2]; exact H1.out.2, H1.out.1⟩
  case round =>
    obtain ⟨k, hk, rfl, hrow, hb⟩ := hrel
    have hlt32 : Cm.steps k i < 4294967296 := Cm.steps_lt k (by omega)
    have hcell : (C0.setIfInBounds 0 (w32 (Cm.steps k i)))[0]? = some (w32 (Cm.steps k i)) := by
      rw [Array.getElem?_setIfInBounds_self_of_lt (by rw [H.out.2.1]; decide)]
    by_cases hlt : k < 8
    · have ST := Lib.hid (crcStep_c w.heap.size 0 _ _ _ wr hrow hcell hlt32)
      have H2 := Lib.hid (And.intro hrow hb)
      clear hrow hb hcell
      go_wp2_with (go_at_call 219; refine ST.out.mono ?_; rintro e w' ⟨rfl, rfl⟩)
      go_roundw
      case rel =>
        obtain ⟨r1, m1⟩ := setCell_row (o := 0) (w32 (Cm.step (Cm.steps k i))) H2.out.1
        refine ⟨k + 1, by omega, by go_num, ?_, Moves.new H2.out.2 m1 (Nat.le_refl _)⟩
        rw [r1, Array.setIfInBounds_setIfInBounds, steps_succ]
      case measure => simp [intOf]; omega
    · obtain rfl : k = 8 := by omega
      have kc : wr.cell? ⟨w.heap.size, 0, none⟩ = some (.int .u32 (Cm.steps 8 i : Nat)) := (cell_of_row _ _ _ _ _ _ hrow).trans hcell
      have HB := Lib.hid hb
      clear hrow hb hcell
      go_wp2
      go_ret
      exact ⟨rfl, HB.out⟩

end Go.Proofs.YtgffifleflkjoaaGreat

namespace Go.Proofs.YtgffifleflkjoaaGreat.Dm

/-- What stands: sectors (256 bytes each) and tapes. -/
structure St where
  sec : Int → List UInt8
  tp : Int → List UInt8

def zeros : List UInt8 := List.replicate 256 0
def St.empty : St := ⟨fun _ => zeros, fun _ => []⟩

/-- A step: what 1: sector n is written with b; 2: b is appended to the tape n; 3: the tape n is cut to many bytes. -/
structure Step where
  what : Int
  n : Int
  many : Int
  b : List UInt8

def upd {α : Type} (f : Int → α) (n : Int) (v : α) : Int → α := fun k => if k = n then v else f k

def St.done (x : St) (s : Step) : St :=
  if s.what = 1 then { x with sec := upd x.sec s.n s.b }
  else if s.what = 2 then { x with tp := upd x.tp s.n (x.tp s.n ++ s.b) }
  else { x with tp := upd x.tp s.n ((x.tp s.n).take s.many.toNat) }

/-- A disk: stops: after how many steps it is to stop, -1: it is not. -/
structure D where
  many : Int
  room : Int
  lasts : St
  waits : List Step
  dead : Bool
  stops : Int

def D.stand (d : D) : St := d.waits.foldl St.done d.lasts
def St.used (x : St) : Int := (x.tp 0).length + (x.tp 1).length + (x.tp 2).length + (x.tp 3).length

def new (sectors room : Int) : D := ⟨sectors, room, St.empty, [], false, -1⟩
def newErr (sectors room : Int) : Int := if sectors < 0 ∨ sectors > 4096 ∨ room < 0 ∨ room > 1048576 then 2 else 0

def D.goes (d : D) : D × Int :=
  if d.dead then (d, 281) else if d.stops = 0 then ({ d with dead := true, stops := -1 }, 281) else if d.stops > 0 then ({ d with stops := d.stops - 1 }, 0) else (d, 0)

def D.step (d : D) (s : Step) : D × Int :=
  if d.goes.2 = 0 then ({ d.goes.1 with waits := d.waits ++ [s] }, 0) else (d.goes.1, d.goes.2)

def D.write (d : D) (n : Int) (b : List UInt8) : D × Int :=
  if b.length ≠ 256 then (d, 2) else if n < 0 ∨ n ≥ d.many then (d, 4) else d.step ⟨1, n, 0, b⟩
def D.append (d : D) (t : Int) (b : List UInt8) : D × Int :=
  if t < 0 ∨ t > 3 then (d, 4) else if d.stand.used + b.length > d.room then (d, 280) else d.step ⟨2, t, 0, b⟩
def D.cut (d : D) (t n : Int) : D × Int :=
  if t < 0 ∨ t > 3 ∨ n < 0 ∨ n > (d.stand.tp t).length then (d, 4) else d.step ⟨3, t, n, []⟩
def D.sync (d : D) : D × Int :=
  if d.goes.2 = 0 then ({ d.goes.1 with lasts := d.stand, waits := [] }, 0) else (d.goes.1, d.goes.2)
def D.stop (d : D) (after : Int) : D × Int :=
  if after < 0 then (d, 2) else if d.dead then (d, 281) else ({ d with stops := after }, 0)

/-- One of n, as Go's remainders pick it. -/
def pick (k n : Int) : Int := k % n
theorem pick_go (k n : Int) : (k.tmod n + n) % n = pick k n := by
  rw [Int.add_emod_right, Int.tmod_def, pick, Int.sub_mul_emod_self_left]

def St.part (x : St) (s : Step) (part : Int) : St :=
  if s.what = 1 then x.done ⟨1, s.n, 0, s.b.take (pick part 257).toNat ++ (x.sec s.n).drop (pick part 257).toNat⟩
  else if s.what = 2 then x.done ⟨2, s.n, 0, s.b.take (pick part (s.b.length + 1)).toNat⟩
  else x

/-- What a crash keeps. -/
structure Crash where
  keep : List Bool
  torn : Int
  part : Int

def Crash.isTorn (c : Crash) (n i : Nat) : Bool := decide (c.part ≥ 0) && decide ((i : Int) = pick c.torn n)
def Crash.kept (c : Crash) (i : Nat) : Bool := decide (c.keep.length > 0) && c.keep.getD (i % max 1 c.keep.length) false

/-- Behind the steps from the i-th on: what stands, which tapes have ended. -/
def crashGo (c : Crash) (n : Nat) : List Step → Nat → St → (Int → Bool) → St
  | [], _, x, _ => x
  | s :: l, i, x, ends =>
    if s.what ≠ 1 ∧ ends s.n = true then crashGo c n l (i + 1) x ends
    else crashGo c n l (i + 1) (if c.isTorn n i then x.part s c.part else if c.kept i then x.done s else x)
      (if s.what ≠ 1 then upd ends s.n (c.isTorn n i || !c.kept i) else ends)

def D.crash (d : D) (c : Crash) : D := ⟨d.many, d.room, crashGo c d.waits.length d.waits 0 d.lasts (fun _ => false), [], false, -1⟩

/-- A step that may be, of a disk of so many sectors. -/
def Step.ok (many : Int) (s : Step) : Prop :=
  (s.what = 1 ∧ 0 ≤ s.n ∧ s.n < many ∧ s.many = 0 ∧ s.b.length = 256) ∨ (s.what = 2 ∧ 0 ≤ s.n ∧ s.n ≤ 3 ∧ s.many = 0 ∧ s.b.length ≤ 1048576) ∨ (s.what = 3 ∧ 0 ≤ s.n ∧ s.n ≤ 3 ∧ 0 ≤ s.many ∧ s.many ≤ 1048576 ∧ s.b = [])

/-- What stands behind the first k steps that wait. -/
def D.upto (d : D) (k : Nat) : St := (d.waits.take k).foldl St.done d.lasts

structure D.ok (d : D) : Prop where
  many0 : 0 ≤ d.many
  many1 : d.many ≤ 4096
  room0 : 0 ≤ d.room
  room1 : d.room ≤ 1048576
  sec : ∀ n, (d.lasts.sec n).length = 256
  tape : ∀ k t, ((d.upto k).tp t).length ≤ d.room
  waits : ∀ s ∈ d.waits, s.ok d.many
  stops : -1 ≤ d.stops
  stops1 : d.stops ≤ 9223372036854775807

theorem upd_same {α : Type} (f : Int → α) (n : Int) (v : α) : upd f n v n = v := by simp [upd]
theorem upd_other {α : Type} (f : Int → α) (n k : Int) (v : α) (h : k ≠ n) : upd f n v k = f k := by simp [upd, h]

theorem stand_step (d : D) (s : Step) : ({ d with waits := d.waits ++ [s] } : D).stand = d.stand.done s := by simp [D.stand, List.foldl_append]

end Go.Proofs.YtgffifleflkjoaaGreat.Dm

namespace Go.Proofs.YtgffifleflkjoaaGreat
open Go.RowKit

theorem run_range_map {P : Program} {w : World} (t kt et : TypeId) (m : Nat) (es : Array MapEntry) (clock : Nat) (ht : P.underlying t = some (.map kt et)) (hm : w.heap[m]? = some (.map es clock)) :
    (Instr.range t (.map (some m))).run P w = .ok (.pointer (some ⟨w.heap.size, 0, none⟩)) (w.alloc (.mapIter (some m) clock #[] clock)) := by
  simp [Instr.range, Sem.run_bind, run_underlying ht, getObj, Sem.run, hm]

theorem filter_all {α : Type} (p : α → Bool) (l : Array α) (h : ∀ e ∈ l, p e = true) : l.filter p = l := Array.filter_eq_self.2 h
theorem filter_none {α : Type} (p : α → Bool) (l : Array α) (h : ∀ e ∈ l, p e = false) : l.filter p = #[] := Array.filter_eq_empty_iff.2 (fun e he => by simp [h e he])

theorem run_next_some {P : Program} {w : World} (r m : Nat) (es : Array MapEntry) (clock : Nat) (seen : Array Nat) (t : TypeId) (hr : w.heap[r]? = some (.mapIter (some m) clock seen clock)) (hm : w.heap[m]? = some (.map es clock))
    (hb : ∀ e ∈ es, e.born < clock) (hne : (es.filter fun e => !seen.contains e.born) ≠ #[]) :
    ∃ e w1, e ∈ es ∧ seen.contains e.born = false ∧ (w1 = w ∨ w1 = w.drew) ∧
      (Instr.next (.pointer (some ⟨r, 0, none⟩)) false t).run P w = .ok (.tuple #[.bool true, e.key, e.val]) (w1.putObj r (.mapIter (some m) clock (seen.push e.born) clock)) := by
  generalize hleft : (es.filter fun e => !seen.contains e.born) = left at hne
  have hmem : ∀ e ∈ left, e ∈ es ∧ seen.contains e.born = false := by
    intro e he
    rw [← hleft] at he
    simpa using he
  have hold : left.filter (fun e => decide (e.born < clock)) = left := filter_all _ _ (fun e he => by simpa using hb e (hmem e he).1)
  have hnew : left.filter (fun e => decide (e.born ≥ clock)) = #[] := filter_none _ _ (fun e he => by have := hb e (hmem e he).1; simp; omega)
  have hpos : 0 < left.size := by
    rcases Nat.eq_zero_or_pos left.size with h | h
    · exact absurd (Array.eq_empty_of_size_eq_zero h) hne
    · exact h
  have hall : (!seen.isEmpty && !es.isEmpty && es.all (fun x => decide (x.born ≥ clock))) = false := by
    have h0 := hmem left[0] (Array.getElem_mem hpos)
    have : es.all (fun x => decide (x.born ≥ clock)) = false := by
      rw [Array.all_eq_false]
      obtain ⟨i, hi, he⟩ := Array.mem_iff_getElem.1 h0.1
      exact ⟨i, hi, by rw [he]; have := hb _ h0.1; simp; omega⟩
    rw [this]
    simp
  have hemp : left.isEmpty = false := by
    cases h : left.isEmpty
    · rfl
    · rw [Array.isEmpty_iff] at h; exact absurd h hne
  have h1 : (getObj r).run P w = .ok (.mapIter (some m) clock seen clock) w := by simp [getObj, Sem.run, hr]
  have h2 : (getObj m).run P w = .ok (.map es clock) w := by simp [getObj, Sem.run, hm]
  have h3 : ∀ (w1 : World) (o : Obj), w1.heap = w.heap → (setObj r o).run P w1 = .ok () (w1.putObj r o) := by
    intro w1 o hw
    simp [setObj, Sem.run, hw, hr, World.putObj]
  have hsz : (#[] ++ Array.map some (left ++ #[]) : Array (Option MapEntry)) = Array.map some left := by simp
  by_cases hf : (Question.mapNext left.size).forced = true
  · refine ⟨left[0], w, (hmem _ (Array.getElem_mem hpos)).1, (hmem _ (Array.getElem_mem hpos)).2, Or.inl rfl, ?_⟩
    have hc : (choose (Question.mapNext left.size)).run P w = .ok 0 w := by simp [hf]
    have hget : (Array.map some left)[0]? = some (some left[0]) := by simp [hpos]
    simp only [Instr.next, Sem.run_bind, h1, h2, Result.andThen_ok, hall, Bool.false_eq_true, if_false, Sem.run_pure, hleft, hold, hnew, hemp, hsz, Array.size_map, hc, hget, h3 w _ rfl]
  · have hq : (Question.mapNext left.size).cut (w.tape w.drawn (.mapNext left.size)) < left.size := Nat.mod_lt _ hpos
    generalize hi : (Question.mapNext left.size).cut (w.tape w.drawn (.mapNext left.size)) = i at hq
    refine ⟨left[i], w.drew, (hmem _ (Array.getElem_mem hq)).1, (hmem _ (Array.getElem_mem hq)).2, Or.inr rfl, ?_⟩
    have hc : (choose (Question.mapNext left.size)).run P w = .ok i w.drew := by simp [hf, hi]
    have hget : (Array.map some left)[i]? = some (some left[i]) := by simp [hq]
    simp only [Instr.next, Sem.run_bind, h1, h2, Result.andThen_ok, hall, Bool.false_eq_true, if_false, Sem.run_pure, hleft, hold, hnew, hemp, hsz, Array.size_map, hc, hget, h3 w.drew _ rfl]

theorem run_next_none {P : Program} {w : World} (r m : Nat) (es : Array MapEntry) (clock : Nat) (seen : Array Nat) (t : TypeId) (hr : w.heap[r]? = some (.mapIter (some m) clock seen clock)) (hm : w.heap[m]? = some (.map es clock))
    (hb : ∀ e ∈ es, e.born < clock) (hne : (es.filter fun e => !seen.contains e.born) = #[]) :
    (Instr.next (.pointer (some ⟨r, 0, none⟩)) false t).run P w = .ok (.tuple #[.bool false]) w := by
  have hall : (!seen.isEmpty && !es.isEmpty && es.all (fun x => decide (x.born ≥ clock))) = false := by
    by_cases he : es.isEmpty = true
    · simp [he]
    · have hpos : 0 < es.size := by
        rcases Nat.eq_zero_or_pos es.size with h | h
        · exact absurd (by rw [Array.isEmpty_iff]; exact Array.eq_empty_of_size_eq_zero h) he
        · exact h
      have : es.all (fun x => decide (x.born ≥ clock)) = false := by
        rw [Array.all_eq_false]
        exact ⟨0, hpos, by have := hb _ (Array.getElem_mem hpos); simp; omega⟩
      rw [this]
      simp
  have h1 : (getObj r).run P w = .ok (.mapIter (some m) clock seen clock) w := by simp [getObj, Sem.run, hr]
  have h2 : (getObj m).run P w = .ok (.map es clock) w := by simp [getObj, Sem.run, hm]
  have hc : (choose (Question.mapNext 1)).run P w = .ok 0 w := by simp [Question.forced]
  have e1 : (#[] : Array MapEntry).filter (fun e => decide (e.born < clock)) = #[] := rfl
  have e2 : (#[] : Array MapEntry).filter (fun e => decide (e.born ≥ clock)) = #[] := rfl
  have hsz : ((if (#[] : Array MapEntry).isEmpty = true then #[none] else #[]) ++ Array.map some (#[] ++ #[]) : Array (Option MapEntry)) = #[none] := by simp
  have hget : (#[none] : Array (Option MapEntry))[0]? = some none := rfl
  simp only [Instr.next, Sem.run_bind, h1, h2, Result.andThen_ok, hall, Bool.false_eq_true, if_false, Sem.run_pure, hne, e1, e2, hsz]
  simp only [List.size_toArray, List.length_cons, List.length_nil, Nat.zero_add, hc, Result.andThen_ok, hget, Sem.run_pure]

theorem run_entry {P : Program} {w : World} (r m : Nat) (es : Array MapEntry) (clock : Nat) (seen : Array Nat) (e : MapEntry) (hr : w.heap[r]? = some (.mapIter (some m) clock (seen.push e.born) clock)) (hm : w.heap[m]? = some (.map es clock))
    (hf : es.find? (fun x => x.born == e.born) = some e) :
    (Instr.entry (.pointer (some ⟨r, 0, none⟩))).run P w = .ok (.tuple #[e.key, e.val]) w := by
  simp [Instr.entry, Sem.run_bind, getObj, Sem.run, hr, hm, hf]

end Go.Proofs.YtgffifleflkjoaaGreat

namespace Go.Proofs.YtgffifleflkjoaaGreat
open Go.RowKit Dm

abbrev tDisk : Nat := 95
abbrev tStep : Nat := 115
abbrev tByte : Nat := 5

/-- The cells of bytes. -/
def bval (b : UInt8) : Value := .int .u8 b.toNat

/-- A slice that reads as bytes, in a block of F. -/
def BytesAt (h : Array Obj) (F : Nat → Prop) (v : Value) (l : List UInt8) : Prop :=
  (v = .slice none 0 0 ∧ l = []) ∨ ∃ (b o cap : Nat) (c : Array Value) (t : TypeId) (fr : Nat × Nat), v = .slice (some ⟨b, o, none⟩) l.length cap ∧ l.length ≤ cap ∧ cap ≤ 9223372036854775807 ∧
    F b ∧ h[b]? = some (.cells c t fr) ∧ ∀ i x, l[i]? = some x → c[o + i]? = some (bval x)

/-- A map of sectors. -/
def SecMap (h : Array Obj) (m : Nat) (f : Int → List UInt8) : Prop :=
  ∃ (es : Array MapEntry) (clock : Nat), h[m]? = some (.map es clock) ∧ (∀ e ∈ es, e.born < clock) ∧
    (∀ e ∈ es, ∃ n : Int, e.key = .int .i64 n ∧ e.val = .agg ((f n).map bval).toArray ∧ (f n).length = 256) ∧
    (∀ n : Int, (∀ e ∈ es, e.key ≠ .int .i64 n) → f n = zeros) ∧ (es.toList.map (·.key)).Nodup ∧ (es.toList.map (·.born)).Nodup

/-- The seven cells of a step: what it does, in part, its tape, what it is, its bytes. -/
def StepAt (h : Array Obj) (F : Nat → Prop) (s : Step) (does part tape w0 w1 w2 str : Value) : Prop :=
  w0 = .int .i64 s.what ∧ w1 = .int .i64 s.n ∧ w2 = .int .i64 s.many ∧ (∃ ba : ByteArray, str = .string ba ∧ ba.data.toList = s.b) ∧
  ((s.what = 1 ∧ tape = .int .i64 (-1) ∧ ∃ bn bx : Nat, F bn ∧ F bx ∧ does ≠ does ∧
      part = part ∧ h[bn]? = some (.cells #[.int .i64 s.n] 3 (0, 0)) ∧ h[bx]? = some (.cells (s.b.map bval).toArray 135 (0, 0))) ∨
   (s.what = 2 ∧ tape = .int .i64 s.n ∧ ∃ bt bx bt' bx' : Nat, ∃ v : Value, F bt ∧ F bx ∧ F bt' ∧ F bx' ∧ does = .func (.func 142) #[] #[.pointer (some ⟨bt', 0, none⟩), .pointer (some ⟨bx', 0, none⟩)] ∧
      part = .func (.func 101) #[] #[.pointer (some ⟨bt, 0, none⟩), .pointer (some ⟨bx, 0, none⟩)] ∧ h[bt]? = some (.cells #[.int .i64 s.n] 3 (0, 0)) ∧ h[bt']? = some (.cells #[.int .i64 s.n] 3 (0, 0)) ∧
      h[bx]? = some (.cells #[v] 31 (0, 0)) ∧ h[bx']? = some (.cells #[v] 31 (0, 0)) ∧ BytesAt h F v s.b) ∨
   (s.what = 3 ∧ tape = .int .i64 s.n ∧ ∃ bt bn : Nat, F bt ∧ F bn ∧ does = .func (.func 122) #[] #[.pointer (some ⟨bt, 0, none⟩), .pointer (some ⟨bn, 0, none⟩)] ∧
      part = .func (.func 123) #[] #[] ∧ h[bt]? = some (.cells #[.int .i64 s.n] 3 (0, 0)) ∧ h[bn]? = some (.cells #[.int .i64 s.many] 3 (0, 0))))

/-- A slice of steps. -/
def StepsAt (h : Array Obj) (F : Nat → Prop) (v : Value) (l : List Step) : Prop :=
  (v = .slice none 0 0 ∧ l = []) ∨ ∃ (b o cap : Nat) (c : Array Value) (t : TypeId) (fr : Nat × Nat), v = .slice (some ⟨b, o, none⟩) l.length cap ∧ l.length ≤ cap ∧ cap ≤ 9223372036854775807 ∧
    F b ∧ h[b]? = some (.cells c t fr) ∧
      ∀ i s, l[i]? = some s → ∃ d p tp w0 w1 w2 st, c[o + i * 7]? = some d ∧ c[o + i * 7 + 1]? = some p ∧ c[o + i * 7 + 2]? = some tp ∧ c[o + i * 7 + 3]? = some w0 ∧ c[o + i * 7 + 4]? = some w1 ∧ c[o + i * 7 + 5]? = some w2 ∧ c[o + i * 7 + 6]? = some st ∧ StepAt h F s d p tp w0 w1 w2 st

def diskC (m : Nat) (t0 t1 t2 t3 : Value) (ml : Nat) (l0 l1 l2 l3 wv : Value) (many most : Int) (dead stops : Bool) (after : Int) : Array Value :=
  #[.map (some m), t0, t1, t2, t3, .map (some ml), l0, l1, l2, l3, wv, .int .i64 many, .int .i64 most, .bool dead, .bool stops, .int .i64 after, .bool true]

structure DiskAt (h : Array Obj) (p m : Nat) (d : D) (F : Nat → Prop) : Prop where
  ok : d.ok
  cells : ∃ t0 t1 t2 t3 ml l0 l1 l2 l3 wv stops after, h[p]? = some (.cells (diskC m t0 t1 t2 t3 ml l0 l1 l2 l3 wv d.many d.room d.dead stops after) tDisk (0, 0)) ∧
    (d.stops = if stops then after else -1) ∧ (stops = true → 0 ≤ after) ∧
    SecMap h m d.stand.sec ∧ SecMap h ml d.lasts.sec ∧ F ml ∧ ¬ F m ∧ ¬ F p ∧ m ≠ p ∧
    BytesAt h F t0 (d.stand.tp 0) ∧ BytesAt h F t1 (d.stand.tp 1) ∧ BytesAt h F t2 (d.stand.tp 2) ∧ BytesAt h F t3 (d.stand.tp 3) ∧
    BytesAt h F l0 (d.lasts.tp 0) ∧ BytesAt h F l1 (d.lasts.tp 1) ∧ BytesAt h F l2 (d.lasts.tp 2) ∧ BytesAt h F l3 (d.lasts.tp 3) ∧ StepsAt h F wv d.waits

end Go.Proofs.YtgffifleflkjoaaGreat

namespace Go.Proofs.YtgffifleflkjoaaGreat
open Go.RowKit Dm

abbrev tSec : Nat := 135
abbrev tMap : Nat := 89

theorem find_keys (n : Int) : ∀ (l : List MapEntry) (i : Nat), (∀ e ∈ l, ∃ k : Int, e.key = .int .i64 k) →
    (Instr.findNow (.int .i64) (.int .i64 n) l i = some none ∧ ∀ e ∈ l, e.key ≠ .int .i64 n) ∨
    (∃ j e, l[j]? = some e ∧ e.key = .int .i64 n ∧ Instr.findNow (.int .i64) (.int .i64 n) l i = some (some (i + j, e.val))) := by
  intro l
  induction l with
  | nil => intro i _; exact Or.inl ⟨rfl, by simp⟩
  | cons e l ih =>
    intro i h
    obtain ⟨k, hk⟩ := h e (List.mem_cons_self ..)
    by_cases hkn : n = k
    · subst hkn
      refine Or.inr ⟨0, e, rfl, hk, ?_⟩
      simp [Instr.findNow, hk, Instr.sameNow]
    · have hne : (n == k) = false := by simp [hkn]
      rcases ih (i + 1) (fun e he => h e (List.mem_cons_of_mem _ he)) with ⟨h1, h2⟩ | ⟨j, e', h1, h2, h3⟩
      · refine Or.inl ⟨?_, ?_⟩
        · simp [Instr.findNow, hk, Instr.sameNow, hne, h1]
        · intro x hx
          rcases List.mem_cons.1 hx with rfl | hx
          · rw [hk]; intro e; apply hkn; simpa using e.symm
          · exact h2 x hx
      · refine Or.inr ⟨j + 1, e', by simpa using h1, h2, ?_⟩
        simp [Instr.findNow, hk, Instr.sameNow, hne, h3]
        omega

theorem run_look_sec {w : World} {m : Nat} {f : Int → List UInt8} (h : SecMap w.heap m f) (n : Int) :
    (Instr.lookup tMap (.map (some m)) (.int .i64 n) false).run Tryz.prog w = .ok (.agg ((f n).map bval).toArray) w := by
  obtain ⟨es, clock, hm, hb, he, hz, hn, hd⟩ := h
  have hk : ∀ e ∈ es.toList, ∃ k : Int, e.key = .int .i64 k := fun e hx => by
    obtain ⟨k, h1, _⟩ := he e (by simpa using hx)
    exact ⟨k, h1⟩
  have zv : ((zeros.map bval).toArray : Array Value) = Array.replicate 256 (.int .u8 0) := by rw [zeros, List.map_replicate, List.toArray_replicate]; rfl
  rcases find_keys n es.toList 0 hk with ⟨h1, h2⟩ | ⟨j, e, h1, h2, h3⟩
  · rw [run_lookup_at tMap 3 tSec (.int .i64) m es clock _ (.agg (Array.replicate 256 (.int .u8 0))) false none Tryz.underlying89 Tryz.underlying3 rfl hm h1 (by kernel_rfl)]
    rw [hz n (fun e hx => h2 e (by simpa using hx)), zv]
    rfl
  · rw [run_lookup_at tMap 3 tSec (.int .i64) m es clock _ (.agg (Array.replicate 256 (.int .u8 0))) false (some (0 + j, e.val)) Tryz.underlying89 Tryz.underlying3 rfl hm h3 (by kernel_rfl)]
    have hin : e ∈ es := by simpa using List.mem_of_getElem? h1
    obtain ⟨k, hk1, hk2, _⟩ := he e hin
    have : n = k := by rw [h2] at hk1; simpa using hk1
    subst this
    rw [hk2]
    rfl

theorem run_mapUpdate_old {P : Program} {w : World} (mt kt et : TypeId) (r : Nat) (es : Array MapEntry) (clock : Nat) (n : Int) (val v0 : Value) (i : Nat)
    (hm : P.underlying mt = some (.map kt et)) (hk : P.underlying kt = some (.int .i64)) (hb : w.heap[r]? = some (.map es clock))
    (hf : Instr.findNow (.int .i64) (.int .i64 n) es.toList 0 = some (some (i, v0))) (hi : (es[i]?).map (·.key) = some (.int .i64 n)) :
    (Instr.mapUpdate mt (.map (some r)) (.int .i64 n) val).run P w = .ok () (w.putObj r (.map (es.modify i fun e => { e with key := .int .i64 n, val := val }) clock)) := by
  have hs : Instr.sameBits 10000 (.int .i64 n) (.int .i64 n) = true := by
    show (IntKind.i64 == IntKind.i64 && n == n) = true
    simp
  simp only [Instr.mapUpdate, Sem.run_bind, run_underlying hm, Result.andThen_ok]
  have hgd : ((es[i]?).map (fun x : MapEntry => x.key)).getD (.int .i64 n) = .int .i64 n := by rw [hi]; rfl
  simp [getObj, Sem.run, hb, run_checkKey_plain _ _ _ hk rfl, Instr.findKey, run_underlying hk, hf, setObj, Instr.keyThatStays, World.putObj]
  intro hc
  rw [hgd, hs] at hc
  cases hc

theorem mem_modify {α : Type} (es : Array α) (i : Nat) (g : α → α) (x : α) (h : x ∈ es.modify i g) : (∃ j, j ≠ i ∧ es[j]? = some x) ∨ (∃ y, es[i]? = some y ∧ x = g y) := by
  obtain ⟨j, hj, rfl⟩ := Array.mem_iff_getElem.1 h
  have hj' : j < es.size := by simpa using hj
  rw [Array.getElem_modify]
  by_cases e : i = j
  · subst e
    exact Or.inr ⟨es[i], by simp [hj'], by simp⟩
  · exact Or.inl ⟨j, fun h => e h.symm, by simp [hj', e]⟩

theorem run_put_sec {w : World} {m : Nat} {f : Int → List UInt8} (h : SecMap w.heap m f) (n : Int) (b : List UInt8) (hl : b.length = 256) :
    ∃ o, (Instr.mapUpdate tMap (.map (some m)) (.int .i64 n) (.agg (b.map bval).toArray)).run Tryz.prog w = .ok () (w.putObj m o) ∧ SecMap (w.putObj m o).heap m (upd f n b) := by
  obtain ⟨es, clock, hm, hb, he, hz, hn, hd⟩ := h
  have hlt : m < w.heap.size := (Array.getElem?_eq_some_iff.1 hm).1
  have hk : ∀ e ∈ es.toList, ∃ k : Int, e.key = .int .i64 k := fun e hx => by
    obtain ⟨k, h1, _⟩ := he e (by simpa using hx)
    exact ⟨k, h1⟩
  rcases find_keys n es.toList 0 hk with ⟨h1, h2⟩ | ⟨j, e, h1, h2, h3⟩
  · refine ⟨_, run_mapUpdate_new tMap 3 tSec (.int .i64) m es clock _ _ Tryz.underlying89 Tryz.underlying3 rfl hm h1, ?_⟩
    refine ⟨_, _, World.putObj_heap_same hlt, ?_, ?_, ?_, ?_, ?_⟩
    · intro e hx
      rcases Array.mem_push.1 hx with hx | rfl
      · have := hb e hx; omega
      · simp
    · intro e hx
      rcases Array.mem_push.1 hx with hx | rfl
      · obtain ⟨k, g1, g2, g3⟩ := he e hx
        have hne : k ≠ n := fun e' => h2 e (by simpa using hx) (by rw [g1, e'])
        exact ⟨k, g1, by rw [upd_other _ _ _ _ hne]; exact g2, by rw [upd_other _ _ _ _ hne]; exact g3⟩
      · exact ⟨n, rfl, by rw [upd_same], by rw [upd_same]; exact hl⟩
    · intro k hx
      have hkn : k ≠ n := fun e' => hx ⟨.int .i64 n, .agg (b.map bval).toArray, clock⟩ (by simp) (by rw [e'])
      rw [upd_other _ _ _ _ hkn]
      exact hz k (fun e he' => hx e (Array.mem_push.2 (Or.inl he')))
    · rw [Array.toList_push, List.map_append, List.nodup_append]
      refine ⟨hn, by simp, ?_⟩
      intro x hx y hy
      simp at hy
      subst hy
      obtain ⟨e, he', rfl⟩ := List.mem_map.1 hx
      exact h2 e he'
    · rw [Array.toList_push, List.map_append, List.nodup_append]
      refine ⟨hd, by simp, ?_⟩
      intro x hx y hy
      simp at hy
      subst hy
      obtain ⟨e, he', rfl⟩ := List.mem_map.1 hx
      have := hb e (by simpa using he')
      omega
  · have hej : es[j]? = some e := by simpa using h1
    have h3' : Instr.findNow (.int .i64) (.int .i64 n) es.toList 0 = some (some (j, e.val)) := by rw [h3, Nat.zero_add]
    refine ⟨_, run_mapUpdate_old tMap 3 tSec m es clock n _ _ j Tryz.underlying89 Tryz.underlying3 hm h3' (by rw [hej]; simp [h2]), ?_⟩
    have huniq : ∀ i x, es[i]? = some x → x.key = .int .i64 n → i = j := by
      intro i x hi hx
      have e1 : (es.toList.map (·.key))[i]? = some (.int .i64 n) := by simp [hi, hx]
      have e2 : (es.toList.map (·.key))[j]? = some (.int .i64 n) := by simp [hej, h2]
      have l1 := (List.getElem?_eq_some_iff.1 e1)
      have l2 := (List.getElem?_eq_some_iff.1 e2)
      exact (List.getElem_inj hn).1 (l1.2.trans l2.2.symm)
    refine ⟨_, _, World.putObj_heap_same hlt, ?_, ?_, ?_, ?_, ?_⟩
    · intro x hx
      rcases mem_modify _ _ _ _ hx with ⟨i, hi, hx⟩ | ⟨y, hy, rfl⟩
      · exact hb x (Array.mem_of_getElem? hx)
      · exact hb y (Array.mem_of_getElem? hy)
    · intro x hx
      rcases mem_modify _ _ _ _ hx with ⟨i, hi, hx⟩ | ⟨y, hy, rfl⟩
      · obtain ⟨k, g1, g2, g3⟩ := he x (Array.mem_of_getElem? hx)
        have hne : k ≠ n := fun e' => hi (huniq i x hx (by rw [g1, e']))
        exact ⟨k, g1, by rw [upd_other _ _ _ _ hne]; exact g2, by rw [upd_other _ _ _ _ hne]; exact g3⟩
      · exact ⟨n, rfl, by rw [upd_same], by rw [upd_same]; exact hl⟩
    · intro k hx
      have hjs : j < es.size := (Array.getElem?_eq_some_iff.1 hej).1
      have hkn : k ≠ n := fun e' => hx { e with key := .int .i64 n, val := .agg (b.map bval).toArray } (by
        have : (es.modify j fun e => { e with key := .int .i64 n, val := .agg (b.map bval).toArray })[j]? = some { e with key := .int .i64 n, val := .agg (b.map bval).toArray } := by
          rw [Array.getElem?_modify]; simp [hej]
        exact Array.mem_of_getElem? this) (by rw [e'])
      rw [upd_other _ _ _ _ hkn]
      refine hz k (fun x hx' hxk => ?_)
      obtain ⟨i, hi, rfl⟩ := Array.mem_iff_getElem.1 hx'
      have hij : i ≠ j := by
        rintro rfl
        have : es[i] = e := by have := (Array.getElem?_eq_some_iff.1 hej).2; exact this
        rw [this, h2] at hxk
        apply hkn
        simpa using hxk.symm
      refine hx es[i] ?_ hxk
      have : (es.modify j fun e => { e with key := .int .i64 n, val := .agg (b.map bval).toArray })[i]? = some es[i] := by
        rw [Array.getElem?_modify, if_neg (fun h => hij h.symm)]; simp [hi]
      exact Array.mem_of_getElem? this
    · have : (es.modify j fun e => { e with key := .int .i64 n, val := .agg (b.map bval).toArray }).toList.map (·.key) = es.toList.map (·.key) := by
        apply List.ext_getElem?
        intro i
        simp only [List.getElem?_map, Array.getElem?_toList, Array.getElem?_modify]
        by_cases hij : j = i
        · subst hij; simp [hej, h2]
        · simp [hij]
      rw [this]
      exact hn
    · have : (es.modify j fun e => { e with key := .int .i64 n, val := .agg (b.map bval).toArray }).toList.map (·.born) = es.toList.map (·.born) := by
        apply List.ext_getElem?
        intro i
        simp only [List.getElem?_map, Array.getElem?_toList, Array.getElem?_modify]
        by_cases hij : j = i
        · subst hij; simp [hej]
        · simp [hij]
      rw [this]
      exact hd

end Go.Proofs.YtgffifleflkjoaaGreat

namespace Go.Proofs.YtgffifleflkjoaaGreat
open Go.RowKit Dm

theorem BytesAt.stays {h h' : Array Obj} {F F' : Nat → Prop} {v : Value} {l : List UInt8} (x : BytesAt h F v l) (hs : ∀ k, F k → h'[k]? = h[k]?) (hF : ∀ k, F k → F' k) : BytesAt h' F' v l := by
  rcases x with x | ⟨b, o, cap, c, t, fr, h1, h2, h3, g2, g3, g4⟩
  · exact Or.inl x
  · exact Or.inr ⟨b, o, cap, c, t, fr, h1, h2, h3, hF _ g2, (hs _ g2).trans g3, g4⟩

theorem SecMap.stays {h h' : Array Obj} {m : Nat} {f : Int → List UInt8} (x : SecMap h m f) (hs : h'[m]? = h[m]?) : SecMap h' m f := by
  obtain ⟨es, clock, h1, h2⟩ := x
  exact ⟨es, clock, hs.trans h1, h2⟩

theorem StepAt.stays {h h' : Array Obj} {F F' : Nat → Prop} {s : Step} {a b c d e f g : Value} (x : StepAt h F s a b c d e f g) (hs : ∀ k, F k → h'[k]? = h[k]?) (hF : ∀ k, F k → F' k) : StepAt h' F' s a b c d e f g := by
  obtain ⟨h1, h2, h3, h4, h5⟩ := x
  refine ⟨h1, h2, h3, h4, ?_⟩
  rcases h5 with ⟨g1, g2, bn, bx, f1, f2, g3, g4, g5, g6⟩ | ⟨g1, g2, bt, bx, bt', bx', v, f1, f2, f3, f4, g3, g4, g5, g6, g7, g8, g9⟩ | ⟨g1, g2, bt, bn, f1, f2, g3, g4, g5, g6⟩
  · exact Or.inl ⟨g1, g2, bn, bx, hF _ f1, hF _ f2, g3, g4, (hs _ f1).trans g5, (hs _ f2).trans g6⟩
  · exact Or.inr (Or.inl ⟨g1, g2, bt, bx, bt', bx', v, hF _ f1, hF _ f2, hF _ f3, hF _ f4, g3, g4, (hs _ f1).trans g5, (hs _ f3).trans g6, (hs _ f2).trans g7, (hs _ f4).trans g8, g9.stays hs hF⟩)
  · exact Or.inr (Or.inr ⟨g1, g2, bt, bn, hF _ f1, hF _ f2, g3, g4, (hs _ f1).trans g5, (hs _ f2).trans g6⟩)

theorem StepsAt.stays {h h' : Array Obj} {F F' : Nat → Prop} {v : Value} {l : List Step} (x : StepsAt h F v l) (hs : ∀ k, F k → h'[k]? = h[k]?) (hF : ∀ k, F k → F' k) : StepsAt h' F' v l := by
  rcases x with x | ⟨b, o, cap, c, t, fr, h1, h2, h3, g2, g3, g4⟩
  · exact Or.inl x
  · refine Or.inr ⟨b, o, cap, c, t, fr, h1, h2, h3, hF _ g2, (hs _ g2).trans g3, fun i s hi => ?_⟩
    obtain ⟨d, p, tp, w0, w1, w2, st, e0, e1, e2, e3, e4, e5, e6, e7⟩ := g4 i s hi
    exact ⟨d, p, tp, w0, w1, w2, st, e0, e1, e2, e3, e4, e5, e6, e7.stays hs hF⟩

/-- A disk stays where its blocks do. -/
theorem DiskAt.stays {h h' : Array Obj} {p m : Nat} {d : D} {F : Nat → Prop} (x : DiskAt h p m d F) (hp : h'[p]? = h[p]?) (hm : h'[m]? = h[m]?) (hs : ∀ k, F k → h'[k]? = h[k]?) : DiskAt h' p m d F := by
  obtain ⟨ok, t0, t1, t2, t3, ml, l0, l1, l2, l3, wv, stops, after, c1, c2, c3, c4, c5, c6, c7, c8, c9, b0, b1, b2, b3, b4, b5, b6, b7, st⟩ := x
  exact ⟨ok, t0, t1, t2, t3, ml, l0, l1, l2, l3, wv, stops, after, hp.trans c1, c2, c3, c4.stays hm, c5.stays (hs _ c6), c6, c7, c8, c9, b0.stays hs (fun _ h => h), b1.stays hs (fun _ h => h), b2.stays hs (fun _ h => h), b3.stays hs (fun _ h => h),
    b4.stays hs (fun _ h => h), b5.stays hs (fun _ h => h), b6.stays hs (fun _ h => h), b7.stays hs (fun _ h => h), st.stays hs (fun _ h => h)⟩

end Go.Proofs.YtgffifleflkjoaaGreat

namespace Go.Proofs.YtgffifleflkjoaaGreat
open Go.RowKit Dm

theorem num_c (n : Int) (w : World) : Calls Tryz.prog 12 #[.int .i64 n] w fun e w' => e = .returned (.int .i64 n) ∧ w = w' := by
  go_enter Tryz.func12, Tryz.ntmps12
  go_wp2
  go_ret
  exact ⟨rfl, rfl⟩

theorem none_nil (w : World) : Calls Tryz.prog 45 #[.pointer none] w fun e w' => e = .returned (.bool true) ∧ w = w' := by
  go_enter Tryz.func45, Tryz.ntmps45
  go_wp2
  go_ret
  exact ⟨rfl, rfl⟩

theorem none_at (p : Nat) (made : Bool) (w : World) (h : w.cell? ⟨p, 16, none⟩ = some (.bool made)) :
    Calls Tryz.prog 45 #[.pointer (some ⟨p, 0, none⟩)] w fun e w' => e = .returned (.bool (!made)) ∧ w = w' := by
  cases made
  all_goals
    go_enter Tryz.func45, Tryz.ntmps45
    go_wp2
    go_ret
    exact ⟨rfl, rfl⟩

theorem picked_c (k n : Int) (w : World) (hk : -9223372036854775808 ≤ k) (hk' : k ≤ 9223372036854775807) (h1 : 1 ≤ n) (h2 : n ≤ 1152921504606846976) :
    Calls Tryz.prog 46 #[.int .i64 k, .int .i64 n] w fun e w' => e = .returned (.int .i64 (pick k n)) ∧ w = w' := by
  have b1 : -n < k.tmod n := Int.lt_tmod_of_pos _ (by omega)
  have b2 : k.tmod n < n := Int.tmod_lt_of_pos _ (by omega)
  go_enter Tryz.func46, Tryz.ntmps46
  go_wp2
  go_ret
  exact ⟨by rw [← pick_go]; rfl, rfl⟩

theorem room_at (p : Nat) (n : Int) (w : World) (h : w.cell? ⟨p, 16, none⟩ = some (.bool true)) (h2 : w.cell? ⟨p, 12, none⟩ = some (.int .i64 n)) :
    Calls Tryz.prog 80 #[.pointer (some ⟨p, 0, none⟩)] w fun e w' => e = .returned (.int .i64 n) ∧ w = w' := by
  go_enter Tryz.func80, Tryz.ntmps80
  go_wp2_with (go_at_call 45; refine (none_at _ true _ h).mono ?_; rintro e w' ⟨rfl, rfl⟩)
  go_ret
  exact ⟨rfl, rfl⟩

theorem waits_at (p : Nat) (a : Option Addr) (n c : Nat) (w : World) (h : w.cell? ⟨p, 16, none⟩ = some (.bool true)) (h2 : w.cell? ⟨p, 10, none⟩ = some (.slice a n c)) :
    Calls Tryz.prog 62 #[.pointer (some ⟨p, 0, none⟩)] w fun e w' => e = .returned (.int .i64 n) ∧ w = w' := by
  go_enter Tryz.func62, Tryz.ntmps62
  go_wp2_with (go_at_call 45; refine (none_at _ true _ h).mono ?_; rintro e w' ⟨rfl, rfl⟩)
  go_ret
  exact ⟨rfl, rfl⟩

theorem dead_at (p : Nat) (d : Bool) (w : World) (h : w.cell? ⟨p, 16, none⟩ = some (.bool true)) (h2 : w.cell? ⟨p, 13, none⟩ = some (.bool d)) :
    Calls Tryz.prog 63 #[.pointer (some ⟨p, 0, none⟩)] w fun e w' => e = .returned (.bool d) ∧ w = w' := by
  go_enter Tryz.func63, Tryz.ntmps63
  go_wp2_with (go_at_call 45; refine (none_at _ true _ h).mono ?_; rintro e w' ⟨rfl, rfl⟩)
  go_ret
  exact ⟨rfl, rfl⟩

/-- Whether a step goes. -/
theorem goes_dead (p : Nat) (w : World) (h : w.cell? ⟨p, 13, none⟩ = some (.bool true)) :
    Calls Tryz.prog 102 #[.pointer (some ⟨p, 0, none⟩)] w fun e w' => e = .returned (.int .i64 281) ∧ w = w' := by
  go_enter Tryz.func102, Tryz.ntmps102
  go_wp2
  go_ret
  exact ⟨rfl, rfl⟩
theorem goes_free (p : Nat) (w : World) (h : w.cell? ⟨p, 13, none⟩ = some (.bool false)) (h2 : w.cell? ⟨p, 14, none⟩ = some (.bool false)) :
    Calls Tryz.prog 102 #[.pointer (some ⟨p, 0, none⟩)] w fun e w' => e = .returned (.int .i64 0) ∧ w = w' := by
  go_enter Tryz.func102, Tryz.ntmps102
  go_wp2
  go_ret
  exact ⟨rfl, rfl⟩
theorem goes_ends (p : Nat) (w : World) (h : w.cell? ⟨p, 13, none⟩ = some (.bool false)) (h2 : w.cell? ⟨p, 14, none⟩ = some (.bool true)) (h3 : w.cell? ⟨p, 15, none⟩ = some (.int .i64 0))
    (f1 : w.frozen? ⟨p, 13, none⟩ = false) (f2 : w.frozen? ⟨p, 14, none⟩ = false) :
    Calls Tryz.prog 102 #[.pointer (some ⟨p, 0, none⟩)] w fun e w' => e = .returned (.int .i64 281) ∧ (w.setCell ⟨p, 13, none⟩ (.bool true)).setCell ⟨p, 14, none⟩ (.bool false) = w' := by
  go_enter Tryz.func102, Tryz.ntmps102
  go_wp2
  go_ret
  exact ⟨rfl, rfl⟩
theorem goes_counts (p : Nat) (n : Int) (w : World) (h : w.cell? ⟨p, 13, none⟩ = some (.bool false)) (h2 : w.cell? ⟨p, 14, none⟩ = some (.bool true)) (h3 : w.cell? ⟨p, 15, none⟩ = some (.int .i64 n)) (hn : 0 < n) (hn' : n ≤ 9223372036854775807)
    (f3 : w.frozen? ⟨p, 15, none⟩ = false) :
    Calls Tryz.prog 102 #[.pointer (some ⟨p, 0, none⟩)] w fun e w' => e = .returned (.int .i64 0) ∧ w.setCell ⟨p, 15, none⟩ (.int .i64 (n - 1)) = w' := by
  have hne : (n == 0) = false := by simp; omega
  go_enter Tryz.func102, Tryz.ntmps102
  go_wp2
  go_ret
  exact ⟨rfl, rfl⟩

end Go.Proofs.YtgffifleflkjoaaGreat
