/-
  New.
  Sync.
  Copy.
  What a crash leaves, step by step (plain).
-/
import Derived.Test.YtgffifleflkjoaaGreatG06
import Derived.Test.YtgffifleflkjoaaGreatG07

namespace Go.Proofs.YtgffifleflkjoaaGreat
open Go.RowKit Dm

abbrev tStand : Nat := 91
abbrev slN : Value := .slice none 0 0

theorem new_bad (s b : Int) (w : World) (h : s < 0 ∨ (¬ s < 0 ∧ 4096 < s) ∨ (¬ s < 0 ∧ ¬ 4096 < s ∧ b < 0) ∨ (¬ s < 0 ∧ ¬ 4096 < s ∧ ¬ b < 0 ∧ 1048576 < b)) :
    Calls Tryz.prog 9 #[.int .i64 s, .int .i64 b] w fun e w' => e = .returned (.tuple #[.pointer none, .int .i64 2]) ∧ w = w' := by
  rcases h with h | ⟨h1, h2⟩ | ⟨h1, h2, h3⟩ | ⟨h1, h2, h3, h4⟩
  all_goals
    go_enter Tryz.func9, Tryz.ntmps9
    go_wp2
    go_ret2
    exact ⟨rfl, rfl⟩

abbrev newC (m ml : Nat) (s b : Int) : Array Value := diskC m slN slN slN slN ml slN slN slN slN slN s b false false 0

set_option maxRecDepth 100000 in
set_option maxHeartbeats 2000000 in
theorem new_good (s b : Int) (w : World) (h1 : ¬ s < 0) (h2 : ¬ 4096 < s) (h3 : ¬ b < 0) (h4 : ¬ 1048576 < b) :
    Calls Tryz.prog 9 #[.int .i64 s, .int .i64 b] w fun e w' => ∃ p m ml, e = .returned (.tuple #[.pointer (some ⟨p, 0, none⟩), .int .i64 0]) ∧ Below w.heap.size w w' ∧ w.heap.size ≤ m ∧ m < ml ∧ ml < p ∧
      w'.heap[p]? = some (.cells (newC m ml s b) tDisk (0, 0)) ∧ w'.heap[m]? = some (.map #[] 0) ∧ w'.heap[ml]? = some (.map #[] 0) := by
  have hmm := @run_makeMap Tryz.prog
  have hi : (Tryz.prog.info? tStand).map (·.size) = some 5 := by kernel_rfl
  have HI := Lib.hid hi
  clear hi
  go_enter Tryz.func9, Tryz.ntmps9
  go_wp2_with (refine wpList_store_abs rfl tStand (.tmp 6) (.tmp 22) rfl (w.heap.size + 1) #[.map (some w.heap.size), slN, slN, slN, slN] rfl rfl tStand stand0 (heap_at (w := w.alloc (.map #[] 0)) _ (by simp)) HI.out (by kernel_rfl) (by kernel_rfl) ?_
               intro W1 HW HM1 HS)
  have hb1 : Below w.heap.size w W1 := Moves.new (((Below.refl _ _).alloc (Nat.le_refl _) _).alloc (by simp) _) HM1 (by omega)
  have z1 : W1.heap.size = w.heap.size + 2 := by rw [HS]; simp
  have r1 : W1.heap[w.heap.size]? = some (.map #[] 0) := (HM1.block w.heap.size (by simp; omega) (fun e => by omega)).trans (heap_past (by simp) (heap_alloc_last w _))
  have r2 := HW.out
  clear HM1 HS HW hmm
  have H1 := Lib.hid (And.intro hb1 (And.intro z1 (And.intro r1 r2)))
  have k : ∀ j v, (#[.map (some w.heap.size), slN, slN, slN, slN] : Array Value)[j]? = some v → W1.drew.cell? ⟨w.heap.size + 1, j, none⟩ = some v := fun j v hj => row_cell (w := W1.drew) r2 hj
  have CP := Lib.hid (copied_c (w.heap.size + 1) 0 w.heap.size (Or.inl rfl) slN slN slN slN #[] 0 W1.drew (k 0 _ rfl) (k 1 _ rfl) (k 2 _ rfl) (k 3 _ rfl) (k 4 _ rfl) r1 (by kernel_rfl))
  have ld : ∀ w', (∃ x : Wd (Below W1.heap.size W1), w' = x.world) → (Instr.loadAt tStand (.pointer (some ⟨w.heap.size + 1, 0, none⟩))).run Tryz.prog w' = .ok (.agg #[.map (some w.heap.size), slN, slN, slN, slN]) w' := by
    rintro w' ⟨x, rfl⟩
    exact run_loadAt_row ((x.ok.block _ (lt_of_row r2)).trans r2) Tryz.underlying91 rfl HI.out
  have LD := Lib.hid ld
  clear k ld hb1 z1 r1 r2
  have ne : Nonempty (Wd (Below W1.heap.size W1)) := ⟨⟨_, Below.refl _ _⟩⟩
  refine wp_region_hoist (fun w' => ∃ x : Wd (Below W1.heap.size W1), w' = x.world) [] (by kernel_rfl) ?_
  refine wpAnyI_reads [0, 2, 3] 5 _ ⟨⟨_, (Below.refl _ _).drew⟩, rfl⟩ (by kernel_rfl) ?_
  simp only [List.filterMap_cons, List.filterMap_nil, List.getElem?_toArray, List.getElem?_cons_succ, List.getElem?_cons_zero]
  refine wpHoist_load_run rfl tStand (.tmp 6) rfl _ LD.out ?_
  repeat (refine wpHoist_step (fun K hK => ?_); simp only [hoists, sameUpon]; go_simp; refine hK _ ?_; clear hK K)
  refine wpHoist_nil ?_
  refine wpAnyI_one 1 4 _ _ rfl (by kernel_rfl) ?_
  refine wpList_plain rfl fun K hK => ?_
  go_simp
  go_at_call 31
  refine CP.out.mono ?_
  rintro e W2 ⟨rfl, hb2, r3⟩
  have hb2' : Below W1.heap.size W1 W2 := (Below.refl _ _).drew.trans hb2
  have R3 := Lib.hid r3
  clear r3 hb2
  refine hK _ _ (wpList_nil ⟨rfl, fun _ => ⟨⟨_, hb2'⟩, rfl⟩, ?_⟩)
  clear hK K
  refine wpAnyI_reads [4] 3 _ ⟨⟨_, hb2'⟩, rfl⟩ (by kernel_rfl) ?_
  simp only [List.filterMap_cons, List.filterMap_nil, List.getElem?_toArray, List.getElem?_cons_succ, List.getElem?_cons_zero]
  repeat (refine wpHoist_step (fun K hK => ?_); simp only [hoists, sameUpon]; go_simp; refine hK _ ?_; clear hK K)
  refine wpHoist_nil ?_
  refine wpAnyI_one 5 2 _ _ rfl (by kernel_rfl) ?_
  refine wpList_plain rfl fun K hK => ?_
  go_simp
  refine hK _ _ (wpList_nil ⟨rfl, fun _ => ⟨⟨_, hb2'.alloc hb2'.size _⟩, rfl⟩, ?_⟩)
  clear hK K
  refine wpAnyI_reads [6, 7] 0 _ ⟨⟨_, hb2'.alloc hb2'.size _⟩, rfl⟩ (by kernel_rfl) ?_
  simp only [List.filterMap_cons, List.filterMap_nil, List.getElem?_toArray, List.getElem?_cons_succ, List.getElem?_cons_zero]
  repeat (refine wpHoist_step (fun K hK => ?_); simp only [hoists, sameUpon]; go_simp; refine hK _ ?_; clear hK K)
  refine wpHoist_nil ?_
  refine ⟨by kernel_rfl, ?_⟩
  go_wp2
  go_ret2
  obtain ⟨b1, z1, r1, r2⟩ := H1.out
  have r3 : W2.heap[W1.heap.size + 1]? = some (.map #[] 0) := R3.out
  have z2 := hb2'.size
  have lt3 : W1.heap.size + 1 < W2.heap.size := lt_of_row r3
  refine ⟨W2.heap.size, w.heap.size, W1.heap.size + 1, rfl, b1.trans ((hb2'.alloc hb2'.size _).mono (by omega)), Nat.le_refl _, by omega, lt3, heap_alloc_last _ _, ?_, heap_past lt3 r3⟩
  exact heap_past (by omega) ((hb2'.block _ (by omega)).trans r1)

theorem secMap_empty {h : Array Obj} {m : Nat} (hm : h[m]? = some (.map #[] 0)) : SecMap h m (fun _ => zeros) :=
  ⟨#[], 0, hm, (fun e he => by simp at he), (fun e he => by simp at he), (fun _ _ => rfl), by simp, by simp⟩

theorem new_ok (s b : Int) (h1 : ¬ s < 0) (h2 : ¬ 4096 < s) (h3 : ¬ b < 0) (h4 : ¬ 1048576 < b) : (Dm.new s b).ok :=
  ⟨by show 0 ≤ s; omega, by show s ≤ 4096; omega, by show 0 ≤ b; omega, by show b ≤ 1048576; omega, fun n => List.length_replicate, fun k t => (by show ((List.foldl St.done St.empty (List.take k [])).tp t).length ≤ b; rw [List.take_nil]; show (0 : Int) ≤ b; omega), (fun s hs => by cases hs), (by show (-1 : Int) ≤ -1; omega), (by show (-1 : Int) ≤ 9223372036854775807; omega)⟩

/-- Blocks of a disk that was made behind w, but its own. -/
def NewF (w : World) (p m : Nat) : Nat → Prop := fun k => w.heap.size ≤ k ∧ k ≠ p ∧ k ≠ m

theorem new_c (s b : Int) (w : World) (h : newErr s b = 0) :
    Calls Tryz.prog 9 #[.int .i64 s, .int .i64 b] w fun e w' => ∃ p m, e = .returned (.tuple #[.pointer (some ⟨p, 0, none⟩), .int .i64 0]) ∧ Below w.heap.size w w' ∧ w.heap.size ≤ p ∧ w.heap.size ≤ m ∧ DiskAt w'.heap p m (Dm.new s b) (NewF w p m) := by
  have hh : ¬ (s < 0 ∨ s > 4096 ∨ b < 0 ∨ b > 1048576) := by
    intro hh
    unfold newErr at h
    rw [if_pos hh] at h
    cases h
  refine (new_good s b w (by omega) (by omega) (by omega) (by omega)).mono ?_
  rintro e w' ⟨p, m, ml, rfl, hb, g1, g2, g3, c1, c2, c3⟩
  refine ⟨p, m, rfl, hb, by omega, g1, new_ok s b (by omega) (by omega) (by omega) (by omega), slN, slN, slN, slN, ml, slN, slN, slN, slN, slN, false, 0, c1, rfl, (fun h => by cases h), secMap_empty c2, secMap_empty c3, ⟨by omega, by omega, by omega⟩, (fun h => h.2.2 rfl), (fun h => h.2.1 rfl), by omega,
    Or.inl ⟨rfl, rfl⟩, Or.inl ⟨rfl, rfl⟩, Or.inl ⟨rfl, rfl⟩, Or.inl ⟨rfl, rfl⟩, Or.inl ⟨rfl, rfl⟩, Or.inl ⟨rfl, rfl⟩, Or.inl ⟨rfl, rfl⟩, Or.inl ⟨rfl, rfl⟩, Or.inl ⟨rfl, rfl⟩⟩

theorem new_err (s b : Int) (w : World) (h : newErr s b ≠ 0) :
    Calls Tryz.prog 9 #[.int .i64 s, .int .i64 b] w fun e w' => e = .returned (.tuple #[.pointer none, .int .i64 2]) ∧ w = w' := by
  have hh : s < 0 ∨ s > 4096 ∨ b < 0 ∨ b > 1048576 := by
    refine Classical.byContradiction fun hh => h ?_
    unfold newErr
    rw [if_neg hh]
  exact new_bad s b w (by omega)

end Go.Proofs.YtgffifleflkjoaaGreat

namespace Go.Proofs.YtgffifleflkjoaaGreat
open Go.RowKit Dm

theorem sync_dead (p : Nat) (c : Int) (w : World) (R : World → Prop) (hc : c = 281) (h : w.cell? ⟨p, 16, none⟩ = some (.bool true))
    (hg : Calls Tryz.prog 102 #[.pointer (some ⟨p, 0, none⟩)] w fun e w' => e = .returned (.int .i64 c) ∧ R w') :
    Calls Tryz.prog 60 #[.pointer (some ⟨p, 0, none⟩)] w fun e w' => e = .returned (.int .i64 281) ∧ R w' := by
  subst hc
  have HG := Lib.hid hg
  clear hg
  go_enter Tryz.func60, Tryz.ntmps60
  go_wp2_with (first | (go_at_call 45; refine (none_at p true _ h).mono ?_; rintro e w' ⟨rfl, rfl⟩) | (go_at_call 102; refine HG.out.mono ?_; rintro e w' ⟨rfl, hr⟩))
  go_ret
  exact ⟨rfl, hr⟩

/-- Cells of a disk, one by one. -/
def diskL (m : Nat) (t0 t1 t2 t3 : Value) (ml : Nat) (l0 l1 l2 l3 wv : Value) (many most : Int) (dead stops : Bool) (after : Int) : List Value := .map (some m) :: t0 :: t1 :: t2 :: t3 :: diskR ml l0 l1 l2 l3 wv many most dead stops after

def SyncPost (p m : Nat) (R1 : World → Prop) (P1 : World → Nat → Value → Value → Value → Value → Value → Value → Value → Value → Value → Int → Int → Bool → Bool → Int → Array MapEntry → Nat → Prop) (e : Ending) (w' : World) : Prop :=
  e = .returned (.int .i64 0) ∧ ∃ W1 t0 t1 t2 t3 ml l0 l1 l2 l3 wv many most dead stops after es clock ml',
      R1 W1 ∧ P1 W1 ml t0 t1 t2 t3 l0 l1 l2 l3 wv many most dead stops after es clock ∧ Moves (fun k => k = p) W1 w' ∧ W1.heap.size ≤ ml' ∧ w'.heap[ml']? = some (.map es clock) ∧
      w'.heap[p]? = some (.cells (diskL m t0 t1 t2 t3 ml' t0 t1 t2 t3 (.slice none 0 0) many most dead stops after).toArray tDisk (0, 0))

set_option maxRecDepth 100000 in
set_option maxHeartbeats 2000000 in
theorem sync_live (p m : Nat) (t0 t1 t2 t3 : Value) (w : World) (R1 : World → Prop) (P1 : World → Nat → Value → Value → Value → Value → Value → Value → Value → Value → Value → Int → Int → Bool → Bool → Int → Array MapEntry → Nat → Prop) (h : w.cell? ⟨p, 16, none⟩ = some (.bool true))
    (hg : Calls Tryz.prog 102 #[.pointer (some ⟨p, 0, none⟩)] w fun e w' => e = .returned (.int .i64 0) ∧ R1 w')
    (hr : ∀ W1, R1 W1 → ∃ t0 t1 t2 t3 ml l0 l1 l2 l3 wv many most dead stops after es clock, W1.heap[p]? = some (.cells (diskL m t0 t1 t2 t3 ml l0 l1 l2 l3 wv many most dead stops after).toArray tDisk (0, 0)) ∧ W1.heap[m]? = some (.map es clock) ∧ #[t0, t1, t2, t3].all (·.oneCell') = true ∧
      P1 W1 ml t0 t1 t2 t3 l0 l1 l2 l3 wv many most dead stops after es clock) :
    Calls Tryz.prog 60 #[.pointer (some ⟨p, 0, none⟩)] w (SyncPost p m R1 P1) := by
  have hi : (Tryz.prog.info? tStand).map (·.size) = some 5 := by kernel_rfl
  have HI := Lib.hid hi
  have HG := Lib.hid hg
  have HR := Lib.hid hr
  clear hi hg hr
  go_enter Tryz.func60, Tryz.ntmps60
  go_wp2_with (first
    | (go_at_call 45; refine (none_at p true _ h).mono ?_; rintro e w' ⟨rfl, rfl⟩)
    | (go_at_call 102; refine HG.out.mono ?_; rintro e W1 ⟨rfl, q1⟩
       obtain ⟨t0, t1, t2, t3, ml, l0, l1, l2, l3, wv, many, most, dead, stops, after, es, clock, c1, c2, c3, q2⟩ := HR.out W1 q1
       have Q := Lib.hid (And.intro q1 q2)
       have C := Lib.hid (And.intro c1 (And.intro c2 c3))
       clear c1 c2 c3 q1 q2)
    | (go_at_call 31
       refine (copied_c p 0 m (Or.inl rfl) t0 t1 t2 t3 es clock W1 (row_cell C.out.1 rfl) (row_cell C.out.1 rfl) (row_cell C.out.1 rfl) (row_cell C.out.1 rfl) (row_cell C.out.1 rfl) C.out.2.1 C.out.2.2).mono ?_
       rintro e W2 ⟨rfl, hb2, r2⟩
       have C2 := Lib.hid (And.intro hb2 (And.intro r2 ((hb2.block p (lt_of_row C.out.1)).trans C.out.1)))
       clear hb2 r2)
    | (refine wpList_store_midA rfl tStand (.tmp 18) (.tmp 16) rfl p 5 #[.map (some (W1.heap.size + 1)), t0, t1, t2, t3] rfl rfl tDisk _ C2.out.2.2 HI.out (by simp [diskL, diskR]) (by have := C.out.2.2; simp at this ⊢; exact ⟨rfl, this⟩) ?_
       intro W3 HW HM HS
       have k10 : ∃ v, W3.cell? ⟨p, 10, none⟩ = some v := ⟨_, row_cell HW.out rfl⟩
       have f10 : W3.frozen? ⟨p, 10, none⟩ = false := row_free HW.out _
       obtain ⟨v10, k10⟩ := k10
       have HM3 := Lib.hid (And.intro HM HS)
       clear HM HS))
  go_ret
  obtain ⟨q1, q2⟩ := Q.out
  obtain ⟨b2, r2, r3⟩ := C2.out
  obtain ⟨m3, z3⟩ := HM3.out
  have y := heap_setCell_same W3 p 10 _ tDisk (.slice none 0 0) HW.out
  have hp : p < W1.heap.size := lt_of_row C.out.1
  refine ⟨rfl, W1, t0, t1, t2, t3, ml, l0, l1, l2, l3, wv, many, most, dead, stops, after, es, clock, W1.heap.size + 1, q1, q2, ?_, by omega, ?_, ?_⟩
  · have s2 := b2.size
    exact ⟨(m3.os.trans b2.os), m3.tape.trans b2.tape, m3.output.trans b2.output, by have := m3.size; simp; omega, fun k hk hn => by rw [heap_setCell_other _ _ _ _ hn, m3.block k (by omega) hn, b2.block k hk]⟩
  · rw [heap_setCell_other _ _ _ _ (by show W1.heap.size + 1 ≠ p; omega), m3.block _ (lt_of_row r2) (by omega), r2]
  · rw [y]
    simp [diskL, diskR, spl]

theorem BytesAt.one {h : Array Obj} {F : Nat → Prop} {v : Value} {l : List UInt8} (x : BytesAt h F v l) : v.oneCell' = true := by
  obtain ⟨a, c, rfl⟩ := x.slice
  rfl

theorem sync_ok {d : D} (h : d.ok) (d' : D) (e1 : d'.many = d.many) (e2 : d'.room = d.room) (e3 : d'.lasts = d.stand) (e4 : d'.waits = []) (h1 : -1 ≤ d'.stops) (h2 : d'.stops ≤ 9223372036854775807) : d'.ok := by
  refine ⟨by rw [e1]; exact h.many0, by rw [e1]; exact h.many1, by rw [e2]; exact h.room0, by rw [e2]; exact h.room1, by rw [e3]; exact stand_secs h, fun k t => ?_, fun y hy => ?_, h1, h2⟩
  · unfold D.upto
    rw [e2, e3, e4, List.take_nil]
    exact stand_tapes h t
  · rw [e4] at hy; cases hy

/-- All lasts. -/
theorem sync_c {p m : Nat} {d : D} {F : Nat → Prop} {w : World} (x : DiskAt w.heap p m d F) : Calls Tryz.prog 60 #[.pointer (some ⟨p, 0, none⟩)] w (Left w p m F d.sync) := by
  obtain ⟨lp, lm, hne, np, nm⟩ := x.lt
  obtain ⟨k16, _⟩ := x.cell16
  have hg := goes_c x
  have pn : ∀ w' : World, ¬ plus F w w' p ∧ ¬ plus F w w' m := fun w' => ⟨fun h => by rcases h with h | h; exact np h; omega, fun h => by rcases h with h | h; exact nm h; omega⟩
  rcases goes_two d with h0 | h0
  · have e2 : d.sync = ({ d.goes.1 with lasts := d.stand, waits := [] }, 0) := by unfold D.sync; rw [if_pos h0]
    rw [e2]
    rw [h0] at hg
    refine (sync_live p m .nilFunc .nilFunc .nilFunc .nilFunc w _ (fun W1 ml t0 t1 t2 t3 l0 l1 l2 l3 wv many most dead stops after es clock => many = d.many ∧ most = d.room ∧ dead = d.goes.1.dead ∧ StandAt W1.heap p m d.stand F tDisk (diskR ml l0 l1 l2 l3 wv many most dead stops after) ∧
      (d.goes.1.stops = if stops then after else -1) ∧ (stops = true → 0 ≤ after) ∧ BytesAt W1.heap F t0 (d.stand.tp 0) ∧ BytesAt W1.heap F t1 (d.stand.tp 1) ∧ BytesAt W1.heap F t2 (d.stand.tp 2) ∧ BytesAt W1.heap F t3 (d.stand.tp 3) ∧ W1.heap[m]? = some (.map es clock) ∧ SecMap W1.heap m d.stand.sec) k16 hg ?_).mono ?_
    · rintro W1 ⟨hm1, hz1, hd1⟩
      obtain ⟨ml, l0, l1, l2, l3, wv, stops, after, sa, ra⟩ := hd1.parts
      rw [goes_stand, goes_many, goes_room] at sa
      have sa' := sa
      obtain ⟨t0, t1, t2, t3, c1, c2, b0, b1, b2, b3, n1, n2, n3⟩ := sa
      have c2' := c2
      obtain ⟨es, clock, c3, _⟩ := c2
      exact ⟨t0, t1, t2, t3, ml, l0, l1, l2, l3, wv, d.many, d.room, d.goes.1.dead, stops, after, es, clock, c1, c3, by simp [b0.one, b1.one, b2.one, b3.one], rfl, rfl, rfl, sa', ra.hst, ra.haf, b0, b1, b2, b3, c3, c2'⟩
    · rintro e w' ⟨rfl, W1, t0, t1, t2, t3, ml, l0, l1, l2, l3, wv, many, most, dead, stops, after, es, clock, ml', ⟨hm1, hz1, hd1⟩, ⟨rfl, rfl, rfl, sa, hst, haf, b0, b1, b2, b3, c3, c2⟩, mv, g1, g2, g3⟩
      have s1 := mv.size
      have hmv : Moves (fun k => k = p ∨ k = m) w w' := (hm1.mono (fun _ => Or.inl)).trans mv (fun i _ e => Or.inl e)
      have g1' := goes_ok x.ok
      have keep : ∀ k, F k → k < W1.heap.size → w'.heap[k]? = W1.heap[k]? := fun k hk hl => mv.block k hl (fun e => np (e ▸ hk))
      have big : ∀ k, F k → k < W1.heap.size → plus F w w' k := fun k h _ => Or.inl h
      have st : ({ d.goes.1 with lasts := d.stand, waits := [] } : D).stand = d.stand := rfl
      have hl' : ml' < w'.heap.size := lt_of_row g2
      have sm : SecMap w'.heap ml' d.stand.sec := by
        obtain ⟨es', cl', y1, y2⟩ := c2
        rw [c3] at y1
        simp only [Option.some.injEq, Obj.map.injEq] at y1
        obtain ⟨rfl, rfl⟩ := y1
        exact ⟨es, clock, g2, y2⟩
      refine ⟨rfl, hmv, DiskAt.of (ml := ml') (l0 := t0) (l1 := t1) (l2 := t2) (l3 := t3) (wv := .slice none 0 0) (stops := stops) (after := after) ?_ ?_ ?_⟩
      · exact sync_ok x.ok _ (goes_many d) (goes_room d) rfl rfl g1'.stops g1'.stops1
      · rw [st]
        refine ⟨t0, t1, t2, t3, ?_, c2.stays (mv.block m (by omega) hne), b0.keeps keep big, b1.keeps keep big, b2.keeps keep big, b3.keeps keep big, (pn w').2, (pn w').1, hne⟩
        simp only [goes_many, goes_room]
        exact g3
      · exact ⟨hst, haf, sm, Or.inr ⟨by omega, hl'⟩, b0.keeps keep big, b1.keeps keep big, b2.keeps keep big, b3.keeps keep big, Or.inl ⟨rfl, rfl⟩⟩
  · have hne0 : ¬ d.goes.2 = 0 := by omega
    have e2 : d.sync = (d.goes.1, d.goes.2) := by unfold D.sync; rw [if_neg hne0]
    rw [e2]
    refine (sync_dead p d.goes.2 w _ h0 k16 hg).mono ?_
    rintro e w' ⟨rfl, hm1, hz1, hd1⟩
    exact ⟨by rw [h0], hm1.mono (fun _ => Or.inl), hd1.weak (fun k h _ => Or.inl h) (pn _).1 (pn _).2⟩

end Go.Proofs.YtgffifleflkjoaaGreat

namespace Go.Proofs.YtgffifleflkjoaaGreat
open Go.RowKit Dm

def CopyPost (w : World) (t0 t1 t2 t3 l0 l1 l2 l3 wv : Value) (many most : Int) (dead stops : Bool) (after : Int) (es es2 : Array MapEntry) (clock clock2 : Nat) (e : Ending) (w' : World) : Prop :=
  ∃ m' ml', e = .returned (.pointer (some ⟨w.heap.size, 0, none⟩)) ∧ Below w.heap.size w w' ∧ w.heap.size < m' ∧ m' < ml' ∧ w'.heap[m']? = some (.map es clock) ∧ w'.heap[ml']? = some (.map es2 clock2) ∧
    w'.heap[w.heap.size]? = some (.cells (diskL m' t0 t1 t2 t3 ml' l0 l1 l2 l3 wv many most dead stops after).toArray tDisk (0, 0))

set_option maxRecDepth 100000 in
set_option maxHeartbeats 2000000 in
theorem copy_live (p m ml : Nat) (t0 t1 t2 t3 l0 l1 l2 l3 wv : Value) (many most : Int) (dead stops : Bool) (after : Int) (es es2 : Array MapEntry) (clock clock2 : Nat) (w : World)
    (h : w.cell? ⟨p, 16, none⟩ = some (.bool true)) (c1 : w.heap[p]? = some (.cells (diskL m t0 t1 t2 t3 ml l0 l1 l2 l3 wv many most dead stops after).toArray tDisk (0, 0))) (c2 : w.heap[m]? = some (.map es clock)) (c3 : w.heap[ml]? = some (.map es2 clock2))
    (h5 : #[t0, t1, t2, t3].all (·.oneCell') = true) (h6 : #[l0, l1, l2, l3].all (·.oneCell') = true) (h7 : wv.oneCell' = true) :
    Calls Tryz.prog 47 #[.pointer (some ⟨p, 0, none⟩)] w (CopyPost w t0 t1 t2 t3 l0 l1 l2 l3 wv many most dead stops after es es2 clock clock2) := by
  have hi : (Tryz.prog.info? tStand).map (·.size) = some 5 := by kernel_rfl
  have hi2 : (Tryz.prog.info? tDisk).map (·.size) = some 17 := by kernel_rfl
  have ones : (diskL m t0 t1 t2 t3 ml l0 l1 l2 l3 wv many most dead stops after).toArray.all (·.oneCell') = true := by
    simp at h5 h6
    simp [diskL, diskR, h5, h6, h7]
    simp [Value.oneCell']
  have HI := Lib.hid (And.intro hi (And.intro hi2 ones))
  have C := Lib.hid (And.intro c1 (And.intro c2 (And.intro c3 (And.intro h5 h6))))
  clear hi hi2 c1 c2 c3 h5 h6 h7 ones
  generalize hL : (diskL m t0 t1 t2 t3 ml l0 l1 l2 l3 wv many most dead stops after).toArray = L at *
  have HL := Lib.hid hL
  clear hL
  go_enter Tryz.func47, Tryz.ntmps47
  go_wp2_with (first
    | (go_at_call 45; refine (none_at p true _ h).mono ?_; rintro e w' ⟨rfl, rfl⟩)
    | (refine wpList_load_row rfl tDisk (.tmp 7) rfl p rfl tDisk L (0, 0) _ C.out.1 Tryz.underlying95 rfl (by rw [← HL.out]; exact HI.out.2.1) ?_)
    | (refine wpList_store_abs rfl tDisk (.tmp 3) (.tmp 8) rfl w.heap.size L rfl rfl tDisk _ (heap_alloc_last w _) (by rw [← HL.out]; exact HI.out.2.1) (by rw [← HL.out]; rfl) HI.out.2.2 ?_
       intro W1 HW HM1 HS))
  have hb1 : Below w.heap.size w W1 := Moves.new ((Below.refl _ _).alloc (Nat.le_refl _) _) HM1 (Nat.le_refl _)
  have z1 : W1.heap.size = w.heap.size + 1 := by rw [HS]; simp
  have HB := Lib.hid (And.intro hb1 z1)
  clear HM1 HS hb1 z1
  have ne : Nonempty (Wd (Below w.heap.size w)) := ⟨⟨_, Below.refl _ _⟩⟩
  refine wp_region_hoist (fun w' => ∃ x : Wd (Below w.heap.size w), w' = x.world) [] (by kernel_rfl) ?_
  refine wpAnyI_reads [0, 1, 2, 4, 5, 6] 6 _ ⟨⟨_, HB.out.1.drew⟩, rfl⟩ (by kernel_rfl) ?_
  simp only [List.filterMap_cons, List.filterMap_nil, List.getElem?_toArray, List.getElem?_cons_succ, List.getElem?_cons_zero]
  repeat (refine wpHoist_step (fun K hK => ?_); simp only [hoists, sameUpon]; go_simp; refine hK _ ?_; clear hK K)
  refine wpHoist_nil ?_
  refine wpAnyI_one 3 5 _ _ rfl (by kernel_rfl) ?_
  refine wpList_plain rfl fun K hK => ?_
  go_simp
  go_at_call 31
  have lt : p < w.heap.size := lt_of_row C.out.1
  have r1 : W1.drew.heap[p]? = some (.cells L tDisk (0, 0)) := (HB.out.1.block p lt).trans C.out.1
  rw [← HL.out] at r1
  refine (copied_c p 0 m (Or.inl rfl) t0 t1 t2 t3 es clock W1.drew (row_cell r1 rfl) (row_cell r1 rfl) (row_cell r1 rfl) (row_cell r1 rfl) (row_cell r1 rfl) ((HB.out.1.block m (lt_of_row C.out.2.1)).trans C.out.2.1) C.out.2.2.2.1).mono ?_
  rintro e W2 ⟨rfl, hb2, r2⟩
  have hb2' : Below w.heap.size w W2 := HB.out.1.drew.trans (hb2.mono (by have := HB.out.2; show w.heap.size ≤ W1.heap.size; omega))
  have H2 := Lib.hid (And.intro hb2 (And.intro r2 ((hb2.block p (by have := HB.out.2; show p < W1.heap.size; omega)).trans r1)))
  clear hb2 r2 r1
  refine hK _ _ (wpList_nil ⟨rfl, fun _ => ⟨⟨_, hb2'⟩, rfl⟩, ?_⟩)
  clear hK K
  refine wpAnyI_one 7 4 _ _ rfl (by kernel_rfl) ?_
  refine wpList_plain rfl fun K hK => ?_
  go_simp
  go_at_call 31
  have r1 := H2.out.2.2
  refine (copied_c p 5 ml (Or.inr rfl) l0 l1 l2 l3 es2 clock2 W2 (row_cell r1 rfl) (row_cell r1 rfl) (row_cell r1 rfl) (row_cell r1 rfl) (row_cell r1 rfl) ((hb2'.block ml (lt_of_row C.out.2.2.1)).trans C.out.2.2.1) C.out.2.2.2.2).mono ?_
  rintro e W3 ⟨rfl, hb3, r3⟩
  have z2 : w.heap.size + 1 ≤ W2.heap.size := by have := HB.out.2; have := H2.out.1.size; have : W1.heap.size ≤ W2.heap.size := this; omega
  have hb3' : Below w.heap.size w W3 := hb2'.trans (hb3.mono (by omega))
  have rn : W3.heap[w.heap.size]? = some (.cells L tDisk (0, 0)) := by
    rw [hb3.block _ (by omega), H2.out.1.block _ (by have := HB.out.2; show w.heap.size < W1.heap.size; omega)]
    exact HW.out
  rw [← HL.out] at rn
  have H3 := Lib.hid (And.intro hb3 (And.intro r3 (And.intro rn z2)))
  clear hb3 r3 rn r1
  refine hK _ _ (wpList_nil ⟨rfl, fun _ => ⟨⟨_, hb3'⟩, rfl⟩, ?_⟩)
  clear hK K
  refine wpAnyI_reads [8] 3 _ ⟨⟨_, hb3'⟩, rfl⟩ (by kernel_rfl) ?_
  simp only [List.filterMap_cons, List.filterMap_nil, List.getElem?_toArray, List.getElem?_cons_succ, List.getElem?_cons_zero]
  repeat (refine wpHoist_step (fun K hK => ?_); simp only [hoists, sameUpon]; go_simp; refine hK _ ?_; clear hK K)
  refine wpHoist_nil ?_
  refine wpAnyI_one 9 2 _ _ rfl (by kernel_rfl) ?_
  refine wpList_store_midA rfl tStand (.tmp 17) (.tmp 12) rfl w.heap.size 0 #[.map (some (W1.heap.size + 1)), t0, t1, t2, t3] rfl rfl tDisk _ H3.out.2.2.1 HI.out.1 (by simp [diskL, diskR]) (by have := C.out.2.2.2.1; simp at this ⊢; exact ⟨rfl, this⟩) ?_
  intro W4 HW4 HM4 HS4
  have hb4 : Below w.heap.size w W4 := Moves.new hb3' HM4 (Nat.le_refl _)
  have H4 := Lib.hid (And.intro HM4 HS4)
  clear HM4 HS4
  refine wpList_nil ⟨rfl, fun _ => ⟨⟨_, hb4⟩, rfl⟩, ?_⟩
  refine wpAnyI_reads [10] 1 _ ⟨⟨_, hb4⟩, rfl⟩ (by kernel_rfl) ?_
  simp only [List.filterMap_cons, List.filterMap_nil, List.getElem?_toArray, List.getElem?_cons_succ, List.getElem?_cons_zero]
  repeat (refine wpHoist_step (fun K hK => ?_); simp only [hoists, sameUpon]; go_simp; refine hK _ ?_; clear hK K)
  refine wpHoist_nil ?_
  refine wpAnyI_one 11 0 _ _ rfl (by kernel_rfl) ?_
  refine wpList_store_midA rfl tStand (.tmp 18) (.tmp 16) rfl w.heap.size 5 #[.map (some (W2.heap.size + 1)), l0, l1, l2, l3] rfl rfl tDisk _ HW4.out HI.out.1 (by simp [diskL, diskR, spl]) (by have := C.out.2.2.2.2; simp at this ⊢; exact ⟨rfl, this⟩) ?_
  intro W5 HW5 HM5 HS5
  have hb5 : Below w.heap.size w W5 := Moves.new hb4 HM5 (Nat.le_refl _)
  have H5 := Lib.hid (And.intro HM5 HS5)
  clear HM5 HS5
  refine wpList_nil ⟨rfl, fun _ => ⟨⟨_, hb5⟩, rfl⟩, by kernel_rfl, ?_⟩
  go_wp2
  go_ret
  obtain ⟨b2, r2, _⟩ := H2.out
  obtain ⟨b3, r3, _, z2⟩ := H3.out
  obtain ⟨m4, s4⟩ := H4.out
  obtain ⟨m5, s5⟩ := H5.out
  have z1 := HB.out.2
  have r2' : W2.heap[W1.heap.size + 1]? = some (.map es clock) := r2
  have l2' := lt_of_row r2'
  have l3 := lt_of_row r3
  refine ⟨W1.heap.size + 1, W2.heap.size + 1, rfl, hb5, by omega, by omega, ?_, ?_, ?_⟩
  · rw [m5.block _ (by omega) (by omega), m4.block _ (by omega) (by omega), b3.block _ l2', r2']
  · rw [m5.block _ (by omega) (by omega), m4.block _ l3 (by omega), r3]
  · rw [HW5.out]
    simp [diskL, diskR, spl]

/-- Blocks that a copy has. -/
def CopyF (F : Nat → Prop) (w w' : World) (p m : Nat) : Nat → Prop := fun k => (F k ∧ k < w.heap.size) ∨ (w.heap.size ≤ k ∧ k < w'.heap.size ∧ k ≠ p ∧ k ≠ m)

theorem SecMap.other {h h' : Array Obj} {m m' : Nat} {f : Int → List UInt8} {es : Array MapEntry} {clock : Nat} (x : SecMap h m f) (h1 : h[m]? = some (.map es clock)) (h2 : h'[m']? = some (.map es clock)) : SecMap h' m' f := by
  obtain ⟨es', cl', y1, y2⟩ := x
  rw [h1] at y1
  simp only [Option.some.injEq, Obj.map.injEq] at y1
  obtain ⟨rfl, rfl⟩ := y1
  exact ⟨es, clock, h2, y2⟩

theorem StepsAt.one {h : Array Obj} {F : Nat → Prop} {v : Value} {l : List Step} (x : StepsAt h F v l) : v.oneCell' = true := by
  rcases x with ⟨rfl, _⟩ | ⟨b, o, cap, c, t, fr, rfl, _⟩ <;> rfl

/-- Another one of the same. -/
theorem copy_c {p m : Nat} {d : D} {F : Nat → Prop} {w : World} (x : DiskAt w.heap p m d F) : Calls Tryz.prog 47 #[.pointer (some ⟨p, 0, none⟩)] w fun e w' =>
    ∃ m', e = .returned (.pointer (some ⟨w.heap.size, 0, none⟩)) ∧ Below w.heap.size w w' ∧ w.heap.size ≤ m' ∧ DiskAt w'.heap w.heap.size m' d (CopyF F w w' w.heap.size m') := by
  obtain ⟨k16, _⟩ := x.cell16
  have ok := x.ok
  obtain ⟨_, t0, t1, t2, t3, ml, l0, l1, l2, l3, wv, stops, after, c1, c2, c3, c4, c5, c6, c7, c8, c9, b0, b1, b2, b3, b4, b5, b6, b7, st⟩ := x
  obtain ⟨es, clock, q1, q2⟩ := c4
  obtain ⟨es2, clock2, q3, q4⟩ := c5
  refine (copy_live p m ml t0 t1 t2 t3 l0 l1 l2 l3 wv d.many d.room d.dead stops after es es2 clock clock2 w k16 c1 q1 q3 (by simp [b0.one, b1.one, b2.one, b3.one]) (by simp [b4.one, b5.one, b6.one, b7.one]) st.one).mono ?_
  rintro e w' ⟨m', ml', rfl, hb, g1, g2, r1, r2, r3⟩
  have keep : ∀ k, F k → k < w.heap.size → w'.heap[k]? = w.heap[k]? := fun k _ hl => hb.block k hl
  have big : ∀ k, F k → k < w.heap.size → CopyF F w w' w.heap.size m' k := fun k h hl => Or.inl ⟨h, hl⟩
  refine ⟨m', rfl, hb, by omega, ok, t0, t1, t2, t3, ml', l0, l1, l2, l3, wv, stops, after, r3, c2, c3, ?_, ?_, Or.inr ⟨by omega, lt_of_row r2, by omega, by omega⟩, ?_, ?_, by omega,
    b0.keeps keep big, b1.keeps keep big, b2.keeps keep big, b3.keeps keep big, b4.keeps keep big, b5.keeps keep big, b6.keeps keep big, b7.keeps keep big, st.keeps keep big⟩
  · exact ⟨es, clock, r1, q2⟩
  · exact ⟨es2, clock2, r2, q4⟩
  · rintro (h | h)
    · omega
    · exact h.2.2.2 rfl
  · rintro (h | h)
    · omega
    · exact h.2.2.1 rfl

end Go.Proofs.YtgffifleflkjoaaGreat

namespace Go.Proofs.YtgffifleflkjoaaGreat
open Go.RowKit Dm

def crashX (c : Crash) (n i : Nat) (s : Step) (x : St) : St := if c.isTorn n i then x.part s c.part else if c.kept i then x.done s else x
def crashE (c : Crash) (n i : Nat) (s : Step) (en : Int → Bool) : Int → Bool := if s.what ≠ 1 then upd en s.n (c.isTorn n i || !c.kept i) else en

theorem crashGo_skip (c : Crash) (n i : Nat) (s : Step) (l : List Step) (x : St) (en : Int → Bool) (h : s.what ≠ 1 ∧ en s.n = true) : crashGo c n (s :: l) i x en = crashGo c n l (i + 1) x en := by
  rw [crashGo, if_pos h]
theorem crashGo_step (c : Crash) (n i : Nat) (s : Step) (l : List Step) (x : St) (en : Int → Bool) (h : ¬ (s.what ≠ 1 ∧ en s.n = true)) : crashGo c n (s :: l) i x en = crashGo c n l (i + 1) (crashX c n i s x) (crashE c n i s en) := by
  rw [crashGo, if_neg h]; rfl

theorem upto_succ {d : D} {i : Nat} {s : Step} (h : d.waits[i]? = some s) : d.upto (i + 1) = (d.upto i).done s := by
  unfold D.upto
  have hl := (List.getElem?_eq_some_iff.1 h).1
  rw [List.take_succ_eq_append_getElem hl, List.foldl_append, (List.getElem?_eq_some_iff.1 h).2]
  rfl

theorem done_tp_sec (x : St) (s : Step) (t : Int) (h : s.what = 1) : (x.done s).tp t = x.tp t := by simp [St.done, h]
theorem done_tp_other (x : St) (s : Step) (t : Int) (h : t ≠ s.n) : (x.done s).tp t = x.tp t := by
  unfold St.done
  split
  · rfl
  · split <;> simp [upd, h]
theorem part_tp_sec (x : St) (s : Step) (t k : Int) (h : s.what = 1) : (x.part s k).tp t = x.tp t := by simp [St.part, St.done, h]
theorem part_tp_other (x : St) (s : Step) (t k : Int) (h : t ≠ s.n) : (x.part s k).tp t = x.tp t := by
  unfold St.part
  split
  · simp [St.done]
  · split
    · simp [St.done, upd, h]
    · rfl
theorem part_pre (x : St) (s : Step) (k : Int) (h : s.what ≠ 1) : (x.part s k).tp s.n <+: (x.done s).tp s.n ∨ (x.part s k).tp s.n = x.tp s.n := by
  by_cases h2 : s.what = 2
  · left
    simp only [St.part, if_neg h, if_pos h2, St.done, upd_same]
    rw [if_neg (by omega), if_pos trivial]
    simp only [upd_same]
    exact List.prefix_append_right_inj _ |>.2 (List.take_prefix _ _)
  · right
    simp [St.part, h, h2]
theorem part_sec {x : St} {s : Step} {many : Int} (hx : ∀ n, (x.sec n).length = 256) (hs : s.ok many) (k : Int) : ∀ n, ((x.part s k).sec n).length = 256 := by
  intro n
  unfold St.part
  split
  · rename_i h1
    have hb : s.b.length = 256 := by
      rcases hs with hs | hs | hs
      · exact hs.2.2.2.2
      · omega
      · omega
    simp only [St.done, if_true, upd]
    split
    · have p1 : 0 ≤ pick k 257 := Int.emod_nonneg _ (by omega)
      have p2 : pick k 257 < 257 := Int.emod_lt_of_pos _ (by omega)
      have := hx s.n
      simp only [List.length_append, List.length_take, List.length_drop]
      omega
    · exact hx n
  · split
    · simp only [St.done]
      simpa using hx n
    · exact hx n

/-- Between two steps of a crash. -/
structure CrInv (d : D) (i : Nat) (x : St) (en : Int → Bool) : Prop where
  tp : ∀ t, en t = false → x.tp t = (d.upto i).tp t
  pre : ∀ t, ∃ k, k ≤ i ∧ x.tp t <+: (d.upto k).tp t
  sec : ∀ n, (x.sec n).length = 256

theorem CrInv.room {d : D} {i : Nat} {x : St} {en : Int → Bool} (h : CrInv d i x en) (hd : d.ok) (t : Int) : (x.tp t).length ≤ d.room := by
  obtain ⟨k, _, hk⟩ := h.pre t
  have := hd.tape k t
  have := hk.length_le
  omega

theorem CrInv.start {d : D} (hd : d.ok) : CrInv d 0 d.lasts (fun _ => false) :=
  ⟨fun t _ => by simp [D.upto], fun t => ⟨0, Nat.le_refl _, by simp [D.upto]⟩, hd.sec⟩

theorem CrInv.skip {d : D} {i : Nat} {x : St} {en : Int → Bool} (h : CrInv d i x en) {s : Step} (hs : d.waits[i]? = some s) (hk : s.what ≠ 1 ∧ en s.n = true) : CrInv d (i + 1) x en := by
  refine ⟨fun t ht => ?_, fun t => ?_, h.sec⟩
  · have hne : t ≠ s.n := fun e => by rw [e, hk.2] at ht; cases ht
    rw [upto_succ hs, done_tp_other _ _ _ hne]
    exact h.tp t ht
  · obtain ⟨k, h1, h2⟩ := h.pre t
    exact ⟨k, by omega, h2⟩

theorem CrInv.step {d : D} (hd : d.ok) {i : Nat} {x : St} {en : Int → Bool} (h : CrInv d i x en) {s : Step} (hs : d.waits[i]? = some s) (c : Crash) (n : Nat) (hk : ¬ (s.what ≠ 1 ∧ en s.n = true)) : CrInv d (i + 1) (crashX c n i s x) (crashE c n i s en) := by
  have ok : s.ok d.many := hd.waits s (List.mem_of_getElem? hs)
  have old : ∀ t, ∃ k, k ≤ i + 1 ∧ x.tp t <+: (d.upto k).tp t := fun t => by
    obtain ⟨k, h1, h2⟩ := h.pre t
    exact ⟨k, by omega, h2⟩
  by_cases h1 : s.what = 1
  · have tpx : ∀ t, (crashX c n i s x).tp t = x.tp t := fun t => by
      unfold crashX
      split
      · exact part_tp_sec _ _ _ _ h1
      · split
        · exact done_tp_sec _ _ _ h1
        · rfl
    have ee : crashE c n i s en = en := by simp [crashE, h1]
    refine ⟨fun t ht => ?_, fun t => ?_, ?_⟩
    · rw [ee] at ht
      rw [tpx, upto_succ hs, done_tp_sec _ _ _ h1]
      exact h.tp t ht
    · rw [tpx]; exact old t
    · unfold crashX
      split
      · exact part_sec h.sec ok _
      · split
        · exact done_sec h.sec ok
        · exact h.sec
  · have hen : en s.n = false := by
      cases he : en s.n
      · rfl
      · exact absurd ⟨h1, he⟩ hk
    have ee : crashE c n i s en = upd en s.n (c.isTorn n i || !c.kept i) := by simp [crashE, h1]
    have tpo : ∀ t, t ≠ s.n → (crashX c n i s x).tp t = x.tp t := fun t ht => by
      unfold crashX
      split
      · exact part_tp_other _ _ _ _ ht
      · split
        · exact done_tp_other _ _ _ ht
        · rfl
    have dn : (x.done s).tp s.n = (d.upto (i + 1)).tp s.n := by
      rw [upto_succ hs]
      have := h.tp s.n hen
      unfold St.done
      rw [if_neg h1, if_neg h1]
      split <;> simp [upd, this]
    refine ⟨fun t ht => ?_, fun t => ?_, ?_⟩
    · rw [ee] at ht
      by_cases e : t = s.n
      · subst e
        rw [upd_same] at ht
        simp only [Bool.or_eq_false_iff, Bool.not_eq_false'] at ht
        unfold crashX
        rw [if_neg (by simp [ht.1]), if_pos ht.2]
        exact dn
      · rw [upd_other _ _ _ _ e] at ht
        rw [tpo t e, upto_succ hs, done_tp_other _ _ _ e]
        exact h.tp t ht
    · by_cases e : t = s.n
      · subst e
        unfold crashX
        split
        · rcases part_pre x s c.part h1 with hp | hp
          · exact ⟨i + 1, Nat.le_refl _, by rw [← dn]; exact hp⟩
          · rw [hp]; exact old _
        · split
          · exact ⟨i + 1, Nat.le_refl _, by rw [dn]; exact List.prefix_refl _⟩
          · exact old _
      · rw [tpo t e]; exact old t
    · unfold crashX
      split
      · exact part_sec h.sec ok _
      · split
        · exact done_sec h.sec ok
        · exact h.sec

/-- What a crash leaves may be. -/
theorem CrInv.all {d : D} (hd : d.ok) (c : Crash) (n : Nat) : ∀ (l : List Step) (i : Nat) (x : St) (en : Int → Bool), d.waits.drop i = l → CrInv d i x en → ∃ en', CrInv d d.waits.length (crashGo c n l i x en) en'
  | [], i, x, en, hl, h => by
    have hi : d.waits.length ≤ i := List.drop_eq_nil_iff.1 hl
    refine ⟨en, fun t ht => ?_, fun t => ?_, h.sec⟩
    · rw [crashGo, h.tp t ht]
      unfold D.upto
      rw [List.take_of_length_le hi, List.take_of_length_le (Nat.le_refl _)]
    · obtain ⟨k, h1, h2⟩ := h.pre t
      rw [crashGo]
      by_cases hk : k ≤ d.waits.length
      · exact ⟨k, hk, h2⟩
      · refine ⟨d.waits.length, Nat.le_refl _, ?_⟩
        unfold D.upto at h2 ⊢
        rw [List.take_of_length_le (by omega)] at h2 ⊢
        exact h2
  | s :: l, i, x, en, hl, h => by
    have hs : d.waits[i]? = some s := by
      have := congrArg (·[0]?) hl
      simpa using this
    have hl' : d.waits.drop (i + 1) = l := by
      rw [← List.drop_drop, hl]; rfl
    by_cases hk : s.what ≠ 1 ∧ en s.n = true
    · rw [crashGo_skip _ _ _ _ _ _ _ hk]
      exact CrInv.all hd c n l (i + 1) x en hl' (h.skip hs hk)
    · rw [crashGo_step _ _ _ _ _ _ _ hk]
      exact CrInv.all hd c n l (i + 1) _ _ hl' (h.step hd hs c n hk)

theorem crash_ok {d : D} (hd : d.ok) (c : Crash) : (d.crash c).ok := by
  obtain ⟨en, h⟩ := CrInv.all hd c d.waits.length d.waits 0 d.lasts (fun _ => false) rfl (CrInv.start hd)
  refine ⟨hd.many0, hd.many1, hd.room0, hd.room1, h.sec, fun k t => ?_, (fun s hs => by cases hs), (by show (-1 : Int) ≤ -1; omega), (by show (-1 : Int) ≤ 9223372036854775807; omega)⟩
  have e : (d.crash c).upto k = (d.crash c).lasts := by unfold D.upto; show List.foldl St.done _ (List.take k []) = _; rw [List.take_nil]; rfl
  rw [e]
  exact h.room hd t

end Go.Proofs.YtgffifleflkjoaaGreat
