/-
  evlog: what puts, what empties a tape.
  evlog: a tape is written, or written anew.
  evlog: what stays true of an engine, plain.
  evlog: an engine in memory; one begins.
-/
import Derived.Test.YtgffifleflkjoaaGreatG10
import Derived.Test.YtgffifleflkjoaaGreatG12
import Derived.Test.YtgffifleflkjoaaGreatG13

namespace Go.Proofs.YtgffifleflkjoaaGreat
open Go.RowKit Dm

theorem wd_drew {w : World} {a : Addr} {v : Option Value} (h : w.cell? a = v) : ∀ x : Wd (fun w' => w' = w.drew), x.world.cell? a = v := fun x => by rw [x.ok]; exact h

theorem left_drew {w w' : World} {p m : Nat} {d : D} {F : Nat → Prop} {r : D × Int} {e : Ending} (x : DiskAt w.heap p m d F) (h : Left w.drew p m F r e w') : Left w p m F r e w' := ⟨h.1, ⟨h.2.1.os, h.2.1.tape, h.2.1.output, h.2.1.size, h.2.1.block⟩, h.2.2⟩

set_option maxRecDepth 100000 in
set_option maxHeartbeats 2000000 in
theorem putIn_c {w : World} {pl pd md b1 b2 b3 : Nat} {d : D} {F G : Nat → Prop} {v : Value} {l : List UInt8} {t : Nat} (x : DiskAt w.heap pd md d F) (c1 : w.cell? ⟨b1, 0, none⟩ = some (.pointer (some ⟨pl, 0, none⟩))) (c2 : w.cell? ⟨b2, 0, none⟩ = some (.int .i64 t)) (c3 : w.cell? ⟨b3, 0, none⟩ = some v)
    (c5 : w.cell? ⟨pl, 5, none⟩ = some (.pointer (some ⟨pd, 0, none⟩))) (hv : BytesAt w.heap G v l) (hl : l.length ≤ 1000000000) (hw : d.waits.length ≤ 1000000000) :
    Calls Tryz.prog 121 #[.pointer (some ⟨b1, 0, none⟩), .pointer (some ⟨b2, 0, none⟩), .pointer (some ⟨b3, 0, none⟩)] w (Left w pd md F (d.append t l)) := by
  have AC := Lib.hid (append_c (w := w.drew) x t hv (by omega) (by omega))
  obtain ⟨a, c, rfl⟩ := hv.slice
  have f1 := wd_drew c1
  have f2 := wd_drew c2
  have f3 := wd_drew c3
  have f5 := wd_drew c5
  have X := Lib.hid x
  clear x hv c1 c2 c3 c5
  have ne : Nonempty (Wd (fun w' => w' = w.drew)) := ⟨⟨_, rfl⟩⟩
  go_enter Tryz.func121, Tryz.ntmps121
  go_wp2
  refine wp_region_hoist (fun w' => ∃ x : Wd (fun w' => w' = w.drew), w' = x.world) [6, 7] (by kernel_rfl) ?_
  refine wpAnyI_reads [0, 1, 2, 3, 4, 5] 2 _ ⟨⟨_, rfl⟩, rfl⟩ (by kernel_rfl) ?_
  simp only [List.filterMap_cons, List.filterMap_nil, List.getElem?_toArray, List.getElem?_cons_succ, List.getElem?_cons_zero]
  repeat (refine wpHoist_step (fun K hK => ?_); simp only [hoists, sameUpon]; go_simp; refine hK _ ?_; clear hK K)
  refine wpHoist_nil ?_
  refine wpAnyI_one 6 1 _ _ rfl (by kernel_rfl) ?_
  refine wpList_plain rfl fun K hK => ?_
  go_simp
  refine AC.out.mono ?_
  rintro e w1 ⟨rfl, m1, x1⟩
  have L := Lib.hid (left_drew (e := .returned (.int .i64 (d.append t l).2)) X.out ⟨rfl, m1, x1⟩)
  clear m1 x1
  refine hK _ _ (wpList_nil ⟨rfl, fun h => absurd (by decide) h, ?_⟩)
  clear hK K
  refine wpAnyI_pure [7] 0 _ (by kernel_rfl) ?_
  simp only [List.filterMap_cons, List.filterMap_nil, List.getElem?_toArray, List.getElem?_cons_succ, List.getElem?_cons_zero]
  repeat (refine wpHoist_step (fun K hK => ?_); simp only [hoists, sameUpon]; go_simp; refine hK _ ?_; clear hK K)
  refine wpHoist_nil ?_
  refine ⟨by kernel_rfl, ?_⟩
  go_wp2
  go_ret
  exact L.out

theorem roomAt_c {w : World} {p m : Nat} {d : D} {F : Nat → Prop} (x : DiskAt w.heap p m d F) : Calls Tryz.prog 80 #[.pointer (some ⟨p, 0, none⟩)] w fun e w' => e = .returned (.int .i64 d.room) ∧ w = w' :=
  room_at p d.room w x.cell16.1 x.cell16.2.2.1

set_option maxRecDepth 100000 in
theorem size_c {w : World} {pl pd md : Nat} {d : D} {F : Nat → Prop} {t : Nat} (x : DiskAt w.heap pd md d F) (c5 : w.cell? ⟨pl, 5, none⟩ = some (.pointer (some ⟨pd, 0, none⟩))) (ht : t ≤ 3) :
    Calls Tryz.prog 74 #[.pointer (some ⟨pl, 0, none⟩), .int .i64 t] w fun e w' => e = .returned (.int .i64 (d.stand.tp t).length) ∧ Below w.heap.size w w' := by
  have TC := tape_c x t
  rw [if_neg (by omega), if_neg (by omega)] at TC
  have TC := Lib.hid TC
  clear x
  generalize d.stand.tp t = l at *
  go_enter Tryz.func74, Tryz.ntmps74
  go_wp2_with (go_at_call 61; refine TC.out.mono ?_; rintro e w1 ⟨v1, rfl, b1, y1⟩; obtain ⟨va, vc, rfl⟩ := y1.bytes.slice)
  go_ret
  exact ⟨rfl, b1⟩

set_option maxRecDepth 100000 in
set_option maxHeartbeats 2000000 in
theorem emptyIn_c {w : World} {pl pd md g1 b2 : Nat} {d : D} {F : Nat → Prop} {t : Nat} (x : DiskAt w.heap pd md d F) (c1 : w.cell? ⟨g1, 0, none⟩ = some (.pointer (some ⟨pl, 0, none⟩))) (c2 : w.cell? ⟨b2, 0, none⟩ = some (.int .i64 t))
    (c5 : w.cell? ⟨pl, 5, none⟩ = some (.pointer (some ⟨pd, 0, none⟩))) (ht : t ≤ 3) (hw : d.waits.length ≤ 1000000000) :
    Calls Tryz.prog 120 #[.pointer (some ⟨g1, 0, none⟩), .pointer (some ⟨b2, 0, none⟩)] w (Left w pd md F (Em.emptied d t)) := by
  have SC := Lib.hid (size_c x c5 ht)
  have X := Lib.hid x
  have C := Lib.hid (And.intro c1 (And.intro c2 c5))
  have l1 := block_lt_of_cell c1
  have l2 := block_lt_of_cell c2
  have l5 := block_lt_of_cell c5
  simp only at l1 l2 l5
  by_cases h0 : (d.stand.tp t).length = 0
  · have HE := Lib.hid (show Em.emptied d t = (d, 0) by unfold Em.emptied; rw [if_pos h0])
    rw [h0] at SC
    clear x h0
    go_enter Tryz.func120, Tryz.ntmps120
    go_wp2_with (go_at_call 74; refine SC.out.mono ?_; rintro e w1 ⟨rfl, b1⟩)
    go_ret
    rw [HE.out]
    exact left_below X.out b1
  · have HE := Lib.hid (show Em.emptied d t = d.cut t 0 by unfold Em.emptied; rw [if_neg h0])
    have h0' : ¬ ((d.stand.tp t).length : Int) = 0 := by omega
    clear x h0
    generalize hN : (d.stand.tp t).length = N at *
    go_enter Tryz.func120, Tryz.ntmps120
    go_wp2_with (go_at_call 74; refine SC.out.mono ?_; rintro e w1 ⟨rfl, b1⟩
                 have f1 := wd_drew ((b1.cell (p := ⟨g1, 0, none⟩) l1).trans C.out.1)
                 have f2 := wd_drew ((b1.cell (p := ⟨b2, 0, none⟩) l2).trans C.out.2.1)
                 have f5 := wd_drew ((b1.cell (p := ⟨pl, 5, none⟩) l5).trans C.out.2.2)
                 have X1 := Lib.hid (X.out.plus b1)
                 have CC := Lib.hid (cut_c (w := w1.drew) X1.out t 0 (by omega))
                 have HB := Lib.hid b1
                 clear b1)
    have ne : Nonempty (Wd (fun w' => w' = w1.drew)) := ⟨⟨_, rfl⟩⟩
    refine wp_region_hoist (fun w' => ∃ x : Wd (fun w' => w' = w1.drew), w' = x.world) [5, 6] (by kernel_rfl) ?_
    refine wpAnyI_reads [0, 1, 2, 3, 4] 2 _ ⟨⟨_, rfl⟩, rfl⟩ (by kernel_rfl) ?_
    simp only [List.filterMap_cons, List.filterMap_nil, List.getElem?_toArray, List.getElem?_cons_succ, List.getElem?_cons_zero]
    repeat (refine wpHoist_step (fun K hK => ?_); simp only [hoists, sameUpon]; go_simp; refine hK _ ?_; clear hK K)
    refine wpHoist_nil ?_
    refine wpAnyI_one 5 1 _ _ rfl (by kernel_rfl) ?_
    refine wpList_plain rfl fun K hK => ?_
    go_simp
    refine CC.out.mono ?_
    rintro e w2 ⟨rfl, m2, x2⟩
    have L := Lib.hid (left_drew (e := .returned (.int .i64 (d.cut t 0).2)) X1.out ⟨rfl, m2, x2⟩)
    clear m2 x2
    refine hK _ _ (wpList_nil ⟨rfl, fun h => absurd (by decide) h, ?_⟩)
    clear hK K
    refine wpAnyI_pure [6] 0 _ (by kernel_rfl) ?_
    simp only [List.filterMap_cons, List.filterMap_nil, List.getElem?_toArray, List.getElem?_cons_succ, List.getElem?_cons_zero]
    repeat (refine wpHoist_step (fun K hK => ?_); simp only [hoists, sameUpon]; go_simp; refine hK _ ?_; clear hK K)
    refine wpHoist_nil ?_
    refine ⟨by kernel_rfl, ?_⟩
    go_wp2
    go_ret
    rw [HE.out]
    exact left_later X.out HB.out L.out

end Go.Proofs.YtgffifleflkjoaaGreat

namespace Go.Proofs.YtgffifleflkjoaaGreat
open Go.RowKit Dm

theorem step_waits (d : D) (s : Step) : (d.step s).1.waits.length ≤ d.waits.length + 1 := by
  unfold D.step
  split
  · simp
  · simp [goes_waits]
theorem append_waits (d : D) (t : Int) (b : List UInt8) : (d.append t b).1.waits.length ≤ d.waits.length + 1 := by
  unfold D.append
  split
  · simp
  · split
    · simp
    · exact step_waits _ _
theorem cut_waits (d : D) (t n : Int) : (d.cut t n).1.waits.length ≤ d.waits.length + 1 := by
  unfold D.cut
  split
  · simp
  · exact step_waits _ _
theorem sync_waits (d : D) : d.sync.1.waits.length ≤ d.waits.length + 1 := by
  unfold D.sync
  split
  · simp
  · simp [goes_waits]
theorem emptied_waits (d : D) (t : Nat) : (Em.emptied d t).1.waits.length ≤ d.waits.length + 1 := by
  unfold Em.emptied
  split
  · simp
  · exact cut_waits _ _ _

theorem moved_cell {w W : World} {pd md : Nat} (hm : Moves (PM pd md) w W) {a : Addr} {v : Value} (h : w.cell? a = some v) (h1 : a.block ≠ pd) (h2 : a.block ≠ md) : W.cell? a = some v :=
  (World.cell?_of_block (hm.block a.block (block_lt_of_cell h) (fun e => by rcases e with e | e; exact h1 e; exact h2 e))).trans h

theorem bytes_moved {w W : World} {pd md : Nat} {G : Nat → Prop} {v : Value} {l : List UInt8} (h : BytesAt w.heap G v l) (hm : Moves (PM pd md) w W) (hG : ∀ k, G k → k ≠ pd ∧ k ≠ md) : BytesAt W.heap G v l :=
  h.keeps (fun k hk hl => hm.block k hl (fun e => by rcases e with e | e; exact (hG k hk).1 e; exact (hG k hk).2 e)) (fun _ h _ => h)

theorem put_does {w : World} {pl pd md b1 b2 b3 : Nat} {G : Nat → Prop} {v : Value} {l : List UInt8} {t : Nat} (c1 : w.cell? ⟨b1, 0, none⟩ = some (.pointer (some ⟨pl, 0, none⟩))) (c2 : w.cell? ⟨b2, 0, none⟩ = some (.int .i64 t)) (c3 : w.cell? ⟨b3, 0, none⟩ = some v)
    (c5 : w.cell? ⟨pl, 5, none⟩ = some (.pointer (some ⟨pd, 0, none⟩))) (hv : BytesAt w.heap G v l) (hG : ∀ k, G k → k ≠ pd ∧ k ≠ md) (hl : l.length ≤ 1000000000)
    (h1 : b1 ≠ pd ∧ b1 ≠ md) (h2 : b2 ≠ pd ∧ b2 ≠ md) (h3 : b3 ≠ pd ∧ b3 ≠ md) (h5 : pl ≠ pd ∧ pl ≠ md) :
    Does w pd md (.func (.func 121) #[] #[.pointer (some ⟨b1, 0, none⟩), .pointer (some ⟨b2, 0, none⟩), .pointer (some ⟨b3, 0, none⟩)]) (fun d => d.append t l) :=
  ⟨⟨_, _, _, rfl, enters_of Tryz.func121 (by kernel_rfl) rfl, fun W d F hm x hw =>
    putIn_c x (moved_cell hm c1 h1.1 h1.2) (moved_cell hm c2 h2.1 h2.2) (moved_cell hm c3 h3.1 h3.2) (moved_cell hm c5 h5.1 h5.2) (bytes_moved hv hm hG) hl hw⟩, fun d => append_waits d t l⟩

theorem empty_does {w : World} {pl pd md b1 b2 : Nat} {t : Nat} (c1 : w.cell? ⟨b1, 0, none⟩ = some (.pointer (some ⟨pl, 0, none⟩))) (c2 : w.cell? ⟨b2, 0, none⟩ = some (.int .i64 t))
    (c5 : w.cell? ⟨pl, 5, none⟩ = some (.pointer (some ⟨pd, 0, none⟩))) (ht : t ≤ 3) (h1 : b1 ≠ pd ∧ b1 ≠ md) (h2 : b2 ≠ pd ∧ b2 ≠ md) (h5 : pl ≠ pd ∧ pl ≠ md) :
    Does w pd md (.func (.func 120) #[] #[.pointer (some ⟨b1, 0, none⟩), .pointer (some ⟨b2, 0, none⟩)]) (fun d => Em.emptied d t) :=
  ⟨⟨_, _, _, rfl, enters_of Tryz.func120 (by kernel_rfl) rfl, fun W d F hm x hw =>
    emptyIn_c x (moved_cell hm c1 h1.1 h1.2) (moved_cell hm c2 h2.1 h2.2) (moved_cell hm c5 h5.1 h5.2) ht hw⟩, fun d => emptied_waits d t⟩

theorem sync_does (w : World) (pd md : Nat) : Does w pd md (.func (.func 60) #[.pointer (some ⟨pd, 0, none⟩)] #[]) D.sync :=
  ⟨⟨_, _, _, rfl, enters_of Tryz.func60 (by kernel_rfl) rfl, fun W d F hm x hw => sync_c x⟩, sync_waits⟩

theorem chain_two (a b : D → D × Int) (d : D) : chain [a, b] d = Em.next (a d) b := by
  show (if (a d).2 = 0 then (if (b (a d).1).2 = 0 then ((b (a d).1).1, 0) else b (a d).1) else a d) = (if (a d).2 = 0 then b (a d).1 else a d)
  by_cases q : (a d).2 = 0
  · rw [if_pos q, if_pos q]
    by_cases r : (b (a d).1).2 = 0
    · rw [if_pos r, ← r]
    · rw [if_neg r]
  · rw [if_neg q, if_neg q]

theorem chain_three (a b c : D → D × Int) (d : D) : chain [a, b, c] d = Em.next (Em.next (a d) b) c := by
  show (if (a d).2 = 0 then chain [b, c] (a d).1 else a d) = _
  rw [chain_two]
  unfold Em.next
  by_cases q : (a d).2 = 0
  · rw [if_pos q, if_pos q]
  · rw [if_neg q, if_neg q, if_neg q]

/-- The first of two: the bytes are appended, and synced. -/
theorem wrote_c {w : World} {pl pd md b1 b2 b3 g cap : Nat} {d : D} {F G : Nat → Prop} {v : Value} {l : List UInt8} {t : Nat} {tt : TypeId} (x : DiskAt w.heap pd md d F) (hw : d.waits.length ≤ 900000000)
    (c1 : w.cell? ⟨b1, 0, none⟩ = some (.pointer (some ⟨pl, 0, none⟩))) (c2 : w.cell? ⟨b2, 0, none⟩ = some (.int .i64 t)) (c3 : w.cell? ⟨b3, 0, none⟩ = some v)
    (c5 : w.cell? ⟨pl, 5, none⟩ = some (.pointer (some ⟨pd, 0, none⟩))) (hv : BytesAt w.heap G v l) (hG : ∀ k, G k → k ≠ pd ∧ k ≠ md) (hl : l.length ≤ 1000000000)
    (h1 : b1 ≠ pd ∧ b1 ≠ md) (h2 : b2 ≠ pd ∧ b2 ≠ md) (h3 : b3 ≠ pd ∧ b3 ≠ md) (h5 : pl ≠ pd ∧ pl ≠ md) (hg : g ≠ pd ∧ g ≠ md)
    (hr : w.heap[g]? = some (.cells #[.func (.func 121) #[] #[.pointer (some ⟨b1, 0, none⟩), .pointer (some ⟨b2, 0, none⟩), .pointer (some ⟨b3, 0, none⟩)], .func (.func 60) #[.pointer (some ⟨pd, 0, none⟩)] #[]] tt (0, 0))) :
    Calls Tryz.prog 71 #[.slice (some ⟨g, 0, none⟩) 2 cap] w (Left w pd md F (Em.wrote d t l)) := by
  have := firstOf_c (w := w) (g := g) (cap := cap) (acts := [fun d => d.append t l, D.sync])
    (fvs := [.func (.func 121) #[] #[.pointer (some ⟨b1, 0, none⟩), .pointer (some ⟨b2, 0, none⟩), .pointer (some ⟨b3, 0, none⟩)], .func (.func 60) #[.pointer (some ⟨pd, 0, none⟩)] #[]]) x hw hr hg
    (fun i f hf => by
      match i, hf with
      | 0, hf => cases hf; rfl
      | 1, hf => cases hf; rfl
      | i + 2, hf => simp at hf) rfl
    (fun i f a hf ha => by
      match i, hf, ha with
      | 0, hf, ha => cases hf; cases ha; exact put_does c1 c2 c3 c5 hv hG hl h1 h2 h3 h5
      | 1, hf, ha => cases hf; cases ha; exact sync_does w pd md
      | i + 2, hf, ha => simp at hf) (by simp)
  rw [chain_two] at this
  exact this

/-- The first of three: the tape is emptied, the bytes appended, and synced. -/
theorem rewrote_c {w : World} {pl pd md a1 a2 b1 b2 b3 g cap : Nat} {d : D} {F G : Nat → Prop} {v : Value} {l : List UInt8} {t : Nat} {tt : TypeId} (x : DiskAt w.heap pd md d F) (hw : d.waits.length ≤ 900000000) (ht : t ≤ 3)
    (e1 : w.cell? ⟨a1, 0, none⟩ = some (.pointer (some ⟨pl, 0, none⟩))) (e2 : w.cell? ⟨a2, 0, none⟩ = some (.int .i64 t))
    (c1 : w.cell? ⟨b1, 0, none⟩ = some (.pointer (some ⟨pl, 0, none⟩))) (c2 : w.cell? ⟨b2, 0, none⟩ = some (.int .i64 t)) (c3 : w.cell? ⟨b3, 0, none⟩ = some v)
    (c5 : w.cell? ⟨pl, 5, none⟩ = some (.pointer (some ⟨pd, 0, none⟩))) (hv : BytesAt w.heap G v l) (hG : ∀ k, G k → k ≠ pd ∧ k ≠ md) (hl : l.length ≤ 1000000000)
    (k1 : a1 ≠ pd ∧ a1 ≠ md) (k2 : a2 ≠ pd ∧ a2 ≠ md) (h1 : b1 ≠ pd ∧ b1 ≠ md) (h2 : b2 ≠ pd ∧ b2 ≠ md) (h3 : b3 ≠ pd ∧ b3 ≠ md) (h5 : pl ≠ pd ∧ pl ≠ md) (hg : g ≠ pd ∧ g ≠ md)
    (hr : w.heap[g]? = some (.cells #[.func (.func 120) #[] #[.pointer (some ⟨a1, 0, none⟩), .pointer (some ⟨a2, 0, none⟩)],
      .func (.func 121) #[] #[.pointer (some ⟨b1, 0, none⟩), .pointer (some ⟨b2, 0, none⟩), .pointer (some ⟨b3, 0, none⟩)], .func (.func 60) #[.pointer (some ⟨pd, 0, none⟩)] #[]] tt (0, 0))) :
    Calls Tryz.prog 71 #[.slice (some ⟨g, 0, none⟩) 3 cap] w (Left w pd md F (Em.rewrote d t l)) := by
  have := firstOf_c (w := w) (g := g) (cap := cap) (acts := [fun d => Em.emptied d t, fun d => d.append t l, D.sync])
    (fvs := [.func (.func 120) #[] #[.pointer (some ⟨a1, 0, none⟩), .pointer (some ⟨a2, 0, none⟩)], .func (.func 121) #[] #[.pointer (some ⟨b1, 0, none⟩), .pointer (some ⟨b2, 0, none⟩), .pointer (some ⟨b3, 0, none⟩)], .func (.func 60) #[.pointer (some ⟨pd, 0, none⟩)] #[]]) x hw hr hg
    (fun i f hf => by
      match i, hf with
      | 0, hf => cases hf; rfl
      | 1, hf => cases hf; rfl
      | 2, hf => cases hf; rfl
      | i + 3, hf => simp at hf) rfl
    (fun i f a hf ha => by
      match i, hf, ha with
      | 0, hf, ha => cases hf; cases ha; exact empty_does e1 e2 c5 ht k1 k2 h5
      | 1, hf, ha => cases hf; cases ha; exact put_does c1 c2 c3 c5 hv hG hl h1 h2 h3 h5
      | 2, hf, ha => cases hf; cases ha; exact sync_does w pd md
      | i + 3, hf, ha => simp at hf) (by simp)
  rw [chain_three] at this
  exact this

theorem empty_c (pl t : Nat) (w : World) : Calls Tryz.prog 72 #[.pointer (some ⟨pl, 0, none⟩), .int .i64 t] w fun e w' =>
    e = .returned (.func (.func 120) #[] #[.pointer (some ⟨w.heap.size, 0, none⟩), .pointer (some ⟨w.heap.size + 1, 0, none⟩)]) ∧ (w.alloc (.cells #[.pointer (some ⟨pl, 0, none⟩)] 27)).alloc (.cells #[.int .i64 t] 3) = w' := by
  have hmf : ∀ (fn : Fn) (first cap : Array Value) (w : World), (Instr.makeFunc fn first cap).run Tryz.prog w = .ok (.func fn first cap) w := fun _ _ _ _ => rfl
  go_enter Tryz.func72, Tryz.ntmps72
  go_wp2
  go_ret
  exact ⟨rfl, rfl⟩

theorem put_c (pl t : Nat) (a : Option Addr) (n c : Nat) (w : World) : Calls Tryz.prog 73 #[.pointer (some ⟨pl, 0, none⟩), .int .i64 t, .slice a n c] w fun e w' =>
    e = .returned (.func (.func 121) #[] #[.pointer (some ⟨w.heap.size, 0, none⟩), .pointer (some ⟨w.heap.size + 1, 0, none⟩), .pointer (some ⟨w.heap.size + 1 + 1, 0, none⟩)]) ∧
      ((w.alloc (.cells #[.pointer (some ⟨pl, 0, none⟩)] 27)).alloc (.cells #[.int .i64 t] 3)).alloc (.cells #[.slice a n c] 31) = w' := by
  have hmf : ∀ (fn : Fn) (first cap : Array Value) (w : World), (Instr.makeFunc fn first cap).run Tryz.prog w = .ok (.func fn first cap) w := fun _ _ _ _ => rfl
  go_enter Tryz.func73, Tryz.ntmps73
  go_wp2
  go_ret
  exact ⟨rfl, rfl⟩

end Go.Proofs.YtgffifleflkjoaaGreat

namespace Go.Proofs.YtgffifleflkjoaaGreat.Em
open Go.Maps Cm

/-- What is true of every engine. -/
structure E.good (e : E) : Prop where
  tp : e.tp ≤ 1
  gen : e.gen ≤ 2147483647
  batches : e.batches ≤ 1000000
  fin : e.fin ≤ 2200000 + 8205 * e.batches
  rows : RowsOk e.rows
  few : size e.rows ≤ 256

theorem put_good {e : E} {D : Rows} {b : Bytes} (h : e.good) (hD : RowsOk D) (hs : size D ≤ 256) (hb : b.length ≤ 8205) : (e.put D b).1.good := by
  unfold E.put
  by_cases q : 32 ≤ e.batches ∨ b.length = 0 ∨ e.d.room / 2 < e.fin + b.length
  · rw [if_pos q]; exact h
  · rw [if_neg q]
    have hf := h.fin
    have hbt : e.batches < 32 := by omega
    by_cases r : (wrote e.d e.tp b).2 = 0
    · simp only [if_pos r]
      exact ⟨h.tp, h.gen, by show e.batches + 1 ≤ 1000000; omega, by show e.fin + b.length ≤ 2200000 + 8205 * (e.batches + 1); omega, hD, hs⟩
    · simp only [if_neg r]
      exact ⟨h.tp, h.gen, h.batches, h.fin, h.rows, h.few⟩

theorem fold_good {e : E} {D : Rows} (h : e.good) (hD : RowsOk D) (hs : size D ≤ 256) : (e.fold D).1.good := by
  unfold E.fold
  by_cases q : 2147483647 ≤ e.gen
  · rw [if_pos q]; exact h
  · rw [if_neg q]
    have hf := folded_len (D := D) (e.gen + 1) hs
    by_cases r : (rewrote e.d (1 - e.tp) (folded (e.gen + 1) D)).2 = 0
    · simp only [if_pos r]
      exact ⟨by show 1 - e.tp ≤ 1; omega, by show e.gen + 1 ≤ 2147483647; omega, by show 0 ≤ 1000000; omega, by show (folded (e.gen + 1) D).length ≤ 2200000 + 8205 * 0; omega, hD, hs⟩
    · simp only [if_neg r]
      exact ⟨h.tp, h.gen, h.batches, h.fin, h.rows, h.few⟩

theorem step_good {e : E} {D : Rows} {b : Bytes} (h : e.good) (hD : RowsOk D) (hs : size D ≤ 256) (hb : b.length ≤ 8205) : (e.step D b).1.good := by
  unfold E.step
  by_cases q : (e.put D b).2 = 280
  · rw [if_pos q]; exact fold_good (put_good h hD hs hb) hD hs
  · rw [if_neg q]; exact put_good h hD hs hb

theorem commit_good {e : E} {l : List Change} (h : e.good) : (e.commit l).1.good := by
  unfold E.commit
  by_cases q : doneErr e.rows l ≠ 0
  · rw [if_pos q]; exact h
  · rw [if_neg q]
    have q : doneErr e.rows l = 0 := by omega
    obtain ⟨h1, h2⟩ := doneErr_zero q
    by_cases r : e.gone = true
    · rw [if_pos r]; exact h
    · rw [if_neg r]
      have := step_good (b := batched l) h (rowsOk_behind h.rows h1) h2 (framed_len _)
      exact ⟨this.tp, this.gen, this.batches, this.fin, this.rows, this.few⟩

theorem begun_good (d : Dm.D) : (begun d).1.good :=
  ⟨by show 0 ≤ 1; decide, by show 1 ≤ 2147483647; decide, by show 0 ≤ 1000000; decide, by have := folded_len (D := .map []) 1 (by decide); show (folded 1 (.map [])).length ≤ 2200000 + 8205 * 0; omega, rowsOk_none, by show 0 ≤ 256; decide⟩

theorem put_live {e : E} {D : Rows} {b : Bytes} (h : ¬ (32 ≤ e.batches ∨ b.length = 0 ∨ e.d.room / 2 < e.fin + b.length)) :
    e.put D b = (⟨e.tp, e.gen, if (wrote e.d e.tp b).2 = 0 then D else e.rows, if (wrote e.d e.tp b).2 = 0 then e.batches + 1 else e.batches, if (wrote e.d e.tp b).2 = 0 then e.fin + b.length else e.fin, (wrote e.d e.tp b).1, e.gone⟩, (wrote e.d e.tp b).2) := if_neg h

theorem put_full {e : E} {D : Rows} {b : Bytes} (h : 32 ≤ e.batches ∨ b.length = 0 ∨ e.d.room / 2 < e.fin + b.length) : e.put D b = (e, 280) := if_pos h

theorem fold_live {e : E} {D : Rows} (h : ¬ 2147483647 ≤ e.gen) :
    e.fold D = (if (rewrote e.d (1 - e.tp) (folded (e.gen + 1) D)).2 = 0 then ⟨1 - e.tp, e.gen + 1, D, 0, (folded (e.gen + 1) D).length, (rewrote e.d (1 - e.tp) (folded (e.gen + 1) D)).1, e.gone⟩
      else { e with d := (rewrote e.d (1 - e.tp) (folded (e.gen + 1) D)).1 }, (rewrote e.d (1 - e.tp) (folded (e.gen + 1) D)).2) := if_neg h

theorem fold_full {e : E} {D : Rows} (h : 2147483647 ≤ e.gen) : e.fold D = (e, 280) := if_pos h

end Go.Proofs.YtgffifleflkjoaaGreat.Em

namespace Go.Proofs.YtgffifleflkjoaaGreat
open Go.RowKit Dm

abbrev tLog : Nat := 70
abbrev tSteps : Nat := 100
abbrev tTape : Nat := 68

/-- The cells of an engine. -/
abbrev logC (tp gen : Nat) (rows : Value) (batches fin : Nat) (pd : Nat) (gone : Bool) : Array Value := #[.int .i64 tp, .int .i64 gen, rows, .int .i64 batches, .int .i64 fin, .pointer (some ⟨pd, 0, none⟩), .bool gone]

structure LogAt (w : World) (pl pd md : Nat) (e : Em.E) (F : Nat → Prop) : Prop where
  good : e.good
  disk : DiskAt w.heap pd md e.d F
  row : ∃ m, w.heap[pl]? = some (.cells (logC e.tp e.gen (.map (some m)) e.batches e.fin pd e.gone) tLog (0, 0)) ∧ RowsIn w m (Maps.size e.rows) e.rows ∧ m ≠ pd ∧ m ≠ md ∧ m ≠ pl
  ne : pl ≠ pd ∧ pl ≠ md ∧ ¬ F pl

abbrev PLM (pl pd md : Nat) : Nat → Prop := fun k => k = pl ∨ k = pd ∨ k = md

/-- A call on an engine. -/
def LogLeft (w : World) (pl pd md : Nat) (F : Nat → Prop) (r : Em.E × Int) (e : Ending) (w' : World) : Prop :=
  e = .returned (.int .i64 r.2) ∧ Moves (PLM pl pd md) w w' ∧ LogAt w' pl pd md r.1 (plus F w w')

theorem DiskAt.off {w W : World} {pl pd md : Nat} {d : D} {F : Nat → Prop} (x : DiskAt w.heap pd md d F) (hm : Moves (fun k => k = pl) w W) (h1 : pl ≠ pd) (h2 : pl ≠ md) (h3 : ¬ F pl) : DiskAt W.heap pd md d F := by
  obtain ⟨l1, l2, _, _, _⟩ := x.lt
  exact x.keeps (hm.block pd l1 (fun e => h1 e.symm)) (hm.block md l2 (fun e => h2 e.symm)) (fun k hk hl => hm.block k hl (fun e => h3 (e ▸ hk))) (fun _ h _ => h) (fun _ h => Or.inl h)

theorem cell_past {w w' : World} {a : Addr} {v : Value} (hb : Below w.heap.size w w') (h : w.cell? a = some v) : w'.cell? a = some v := (hb.cell (p := a) (block_lt_of_cell h)).trans h

theorem wide_disk {w W w' : World} {pd md : Nat} {d d' : D} {F : Nat → Prop} (x : DiskAt w.heap pd md d F) (y : DiskAt w'.heap pd md d' (plus F W w')) (hs : w.heap.size ≤ W.heap.size) : DiskAt w'.heap pd md d' (plus F w w') := by
  obtain ⟨l1, l2, l3, l4, l5⟩ := x.lt
  refine y.weak (fun k hk hl => ?_) ?_ ?_
  · rcases hk with hk | hk
    · exact Or.inl hk
    · exact Or.inr ⟨by omega, hl⟩
  · intro h
    rcases h with h | h
    · exact l4 h
    · omega
  · intro h
    rcases h with h | h
    · exact l5 h
    · omega

theorem wide_disk' {w W w' : World} {pd md : Nat} {d d' : D} {F : Nat → Prop} (x : DiskAt w.heap pd md d F) (y : DiskAt w'.heap pd md d' (plus F w W)) (hs : W.heap.size ≤ w'.heap.size) : DiskAt w'.heap pd md d' (plus F w w') := by
  obtain ⟨l1, l2, l3, l4, l5⟩ := x.lt
  refine y.weak (fun k hk hl => ?_) ?_ ?_
  · rcases hk with hk | hk
    · exact Or.inl hk
    · exact Or.inr ⟨hk.1, hl⟩
  · intro h
    rcases h with h | h
    · exact l4 h
    · omega
  · intro h
    rcases h with h | h
    · exact l5 h
    · omega

theorem rows_off {w W : World} {pl m n : Nat} {D : Em.Rows} (h : RowsIn w m n D) (hm : Moves (fun k => k = pl) w W) (h1 : m ≠ pl) : RowsIn W m n D := by
  have lt := h.lt
  obtain ⟨es, clock, k1, F, hs, hD⟩ := h
  exact ⟨es, clock, (hm.block m lt h1).trans k1, F, hs, hD⟩

theorem there_row {w : World} {g : Nat} {c : Array Value} {t : TypeId} (h : w.heap[g]? = some (.cells c t (0, 0))) (o n : Nat) (hn : o + n ≤ c.size) : w.there g o n := fun j hj =>
  ⟨by rw [cell_of_row _ _ _ _ _ _ h, Array.getElem?_eq_getElem (by omega)]; rfl, row_free h _⟩

theorem rows_moved {w W : World} {pd md m n : Nat} {D : Em.Rows} (h : RowsIn w m n D) (hm : Moves (PM pd md) w W) (h1 : m ≠ pd) (h2 : m ≠ md) : RowsIn W m n D := by
  have lt := h.lt
  obtain ⟨es, clock, k1, F, hs, hD⟩ := h
  exact ⟨es, clock, (hm.block m lt (fun e => by rcases e with e | e; exact h1 e; exact h2 e)).trans k1, F, hs, hD⟩

theorem infoTape : (Tryz.prog.info? tTape).map (·.size) = some 5 := by kernel_rfl

theorem tape_one (a b c d : Int) (m : Nat) : (#[Value.int .i64 a, .int .i64 b, .map (some m), .int .i64 c, .int .i64 d] : Array Value).all (·.oneCell') = true := by simp [Value.oneCell']

set_option maxRecDepth 100000 in
set_option maxHeartbeats 4000000 in
theorem begin_c {w : World} {pl pd md : Nat} {d : D} {F : Nat → Prop} {t0 t1 t2 t3 t4 : Value} (x : DiskAt w.heap pd md d F) (hw : d.waits.length ≤ 900000000) (hr : w.heap[pl]? = some (.cells #[t0, t1, t2, t3, t4, .pointer (some ⟨pd, 0, none⟩), .bool false] tLog (0, 0)))
    (h1 : pl ≠ pd) (h2 : pl ≠ md) (h3 : ¬ F pl) : Calls Tryz.prog 34 #[.pointer (some ⟨pl, 0, none⟩)] w (LogLeft w pl pd md F (Em.begun d)) := by
  have FC := Lib.hid (folded_c (w := w) (v := .map none) (D := .map []) (gen := 1) (Or.inl ⟨rfl, rfl⟩) Em.rowsOk_none (by decide) (by decide))
  have X := Lib.hid (And.intro x (And.intro hr (And.intro hw (And.intro h1 (And.intro h2 h3)))))
  clear x hr hw h1 h2 h3
  have hmm := @run_makeMap Tryz.prog
  have hmf : ∀ (fn : Fn) (first cap : Array Value) (w : World), (Instr.makeFunc fn first cap).run Tryz.prog w = .ok (.func fn first cap) w := fun _ _ _ _ => rfl
  go_enter Tryz.func34, Tryz.ntmps34
  go_wp2_with (first
    | (go_at_call 70; refine FC.out.mono ?_; rintro e w1 ⟨v1, rfl, o1, b1⟩
       obtain ⟨va, vc, rfl⟩ := o1.at.slice
       have H1 := Lib.hid (And.intro o1 b1)
       clear o1 b1)
    | (refine wpList_store_midA rfl tTape (.tmp 11) (.tmp 9) rfl pl 0 #[.int .i64 0, .int .i64 1, .map (some w1.heap.size), .int .i64 0, .int .i64 (Em.folded 1 (.map [])).length] rfl rfl tLog _ ((((H1.out.2).alloc H1.out.2.size _).block pl (lt_of_row X.out.2.1)).trans X.out.2.1) infoTape (by simp) (tape_one _ _ _ _ _) ?_
       intro W3 HW3 HM3 HS3))
  have hW3 : W3.heap[pl]? = some (.cells (logC 0 1 (.map (some w1.heap.size)) 0 (Em.folded 1 (.map [])).length pd false) tLog (0, 0)) := HW3.out
  have B2 : Below w.heap.size w (w1.alloc (.map #[] 0)) := H1.out.2.alloc H1.out.2.size _
  have lpl := lt_of_row X.out.2.1
  have x2 := X.out.1.below B2
  have x3 := x2.off HM3 X.out.2.2.2.1 X.out.2.2.2.2.1 X.out.2.2.2.2.2
  have r3 : RowsIn W3 w1.heap.size 0 (.map []) := by
    obtain ⟨es, clock, k1, kr⟩ := World.ownsMap_made (H := Unit) w1 Tryz.prog tStr (plainElem Tryz.prog tStr)
    exact ⟨es, clock, (HM3.block w1.heap.size (by simp) (by have := H1.out.2.size; omega)).trans k1, kr⟩
  have y3 : BytesAt W3.heap (fun k => w.heap.size ≤ k ∧ k < w1.heap.size) (.slice va (Em.folded 1 (.map [])).length vc) (Em.folded 1 (.map [])) := by
    refine H1.out.1.at.keeps (fun k hk hl => (HM3.block k (by simp; omega) (fun e => by omega)).trans (Below.heap_alloc _ _ _ hl)) (fun k hk hl => ⟨hk, hl⟩)
  have s3 : W3.heap.size = w1.heap.size + 1 := by rw [HS3]; simp
  have b3 : Moves (fun k => k = pl) w W3 := Moves.trans (Moves.of_below B2) HM3 (fun _ _ h => h)
  have z1 := H1.out.2.size
  have H3 := Lib.hid (And.intro hW3 (And.intro x3 (And.intro r3 (And.intro y3 (And.intro s3 b3)))))
  have f5 : ∀ x : Wd (Below W3.heap.size W3), x.world.cell? ⟨pl, 5, none⟩ = some (.pointer (some ⟨pd, 0, none⟩)) := fun x => (x.ok.cell (p := ⟨pl, 5, none⟩) (lt_of_row hW3)).trans (row_cell hW3 rfl)
  clear hW3 HM3 HS3 B2 x2 x3 r3 y3 b3 HW3 s3
  have ne : Nonempty (Wd (Below W3.heap.size W3)) := ⟨⟨_, Below.refl _ _⟩⟩
  clear hmm
  go_wp2
  refine wp_region_hoist (fun w' => ∃ x : Wd (Below W3.heap.size W3), w' = x.world) [11, 12] (by kernel_rfl) ?_
  refine wpAnyI_reads [0, 2, 3, 5, 6, 7, 8, 9] 5 _ ⟨⟨_, (Below.refl _ _).drew⟩, rfl⟩ (by kernel_rfl) ?_
  simp only [List.filterMap_cons, List.filterMap_nil, List.getElem?_toArray, List.getElem?_cons_succ, List.getElem?_cons_zero]
  repeat (refine wpHoist_step (fun K hK => ?_); simp only [hoists, sameUpon]; go_simp; refine hK _ ?_; clear hK K)
  refine wpHoist_nil ?_
  refine wpAnyI_one 1 4 _ _ rfl (by kernel_rfl) ?_
  refine wpList_plain rfl fun K hK => ?_
  go_simp
  go_at_call 72
  refine (empty_c pl 0 W3.drew).mono ?_
  rintro e w4 ⟨rfl, e4⟩
  have B4 : Below W3.heap.size W3 w4 := by rw [← e4]; exact ((Below.refl _ _).drew.alloc (Nat.le_refl _) _).alloc (by simp) _
  have z4 : w4.heap.size = W3.heap.size + 2 := by rw [← e4]; simp
  have a1 : w4.cell? ⟨W3.heap.size, 0, none⟩ = some (.pointer (some ⟨pl, 0, none⟩)) := by rw [← e4]; exact row_cell (heap_past (by simp) (heap_alloc_last W3.drew _)) rfl
  have a2 : w4.cell? ⟨W3.heap.size + 1, 0, none⟩ = some (.int .i64 0) := by rw [← e4]; exact row_cell (heap_at (w := W3.drew.alloc _) _ (by simp)) rfl
  have H4 := Lib.hid (And.intro B4 (And.intro z4 (And.intro a1 a2)))
  clear e4 a1 a2
  refine hK _ _ (wpList_nil ⟨rfl, fun _ => ⟨⟨_, B4⟩, rfl⟩, ?_⟩)
  clear hK K
  clear B4 z4
  refine wpAnyI_one 4 3 _ _ rfl (by kernel_rfl) ?_
  refine wpList_plain rfl fun K hK => ?_
  go_simp
  go_at_call 73
  refine (put_c pl 0 va _ vc w4).mono ?_
  rintro e w5 ⟨rfl, e5⟩
  have B5' : Below w4.heap.size w4 w5 := by rw [← e5]; exact (((Below.refl _ _).alloc (Nat.le_refl _) _).alloc (by simp) _).alloc (by simp; omega) _
  have B5 : Below W3.heap.size W3 w5 := H4.out.1.trans (B5'.mono H4.out.1.size)
  have z5 : w5.heap.size = w4.heap.size + 3 := by rw [← e5]; simp
  have p1 : w5.cell? ⟨w4.heap.size, 0, none⟩ = some (.pointer (some ⟨pl, 0, none⟩)) := by rw [← e5]; exact row_cell (heap_past (by simp; omega) (heap_past (by simp) (heap_alloc_last w4 _))) rfl
  have p2 : w5.cell? ⟨w4.heap.size + 1, 0, none⟩ = some (.int .i64 0) := by rw [← e5]; exact row_cell (heap_past (by simp) (heap_at (w := w4.alloc _) _ (by simp))) rfl
  have p3 : w5.cell? ⟨w4.heap.size + 1 + 1, 0, none⟩ = some (.slice va (Em.folded 1 (.map [])).length vc) := by rw [← e5]; exact row_cell (heap_at (w := (w4.alloc _).alloc _) _ (by simp)) rfl
  have H5 := Lib.hid (And.intro B5' (And.intro B5 (And.intro z5 (And.intro p1 (And.intro p2 p3)))))
  clear e5 p1 p2 p3 B5'
  refine hK _ _ (wpList_nil ⟨rfl, fun _ => ⟨⟨_, B5⟩, rfl⟩, ?_⟩)
  clear hK K
  clear B5 z5
  refine wpAnyI_one 10 2 _ _ rfl (by kernel_rfl) ?_
  refine wpList_plain rfl fun K hK => ?_
  go_simp
  obtain ⟨W6, hW6⟩ : ∃ W, w5.alloc (.cells #[.func (.func 120) #[] #[.pointer (some ⟨W3.heap.size, 0, none⟩), .pointer (some ⟨W3.heap.size + 1, 0, none⟩)],
      .func (.func 121) #[] #[.pointer (some ⟨w4.heap.size, 0, none⟩), .pointer (some ⟨w4.heap.size + 1, 0, none⟩), .pointer (some ⟨w4.heap.size + 1 + 1, 0, none⟩)], .func (.func 60) #[.pointer (some ⟨pd, 0, none⟩)] #[]] tSteps) = W := ⟨_, rfl⟩
  have r6 := heap_alloc_last w5 (.cells #[.func (.func 120) #[] #[.pointer (some ⟨W3.heap.size, 0, none⟩), .pointer (some ⟨W3.heap.size + 1, 0, none⟩)],
      .func (.func 121) #[] #[.pointer (some ⟨w4.heap.size, 0, none⟩), .pointer (some ⟨w4.heap.size + 1, 0, none⟩), .pointer (some ⟨w4.heap.size + 1 + 1, 0, none⟩)], .func (.func 60) #[.pointer (some ⟨pd, 0, none⟩)] #[]] tSteps)
  rw [hW6] at r6
  have B6' : Below w5.heap.size w5 W6 := by rw [← hW6]; exact (Below.refl _ _).alloc (Nat.le_refl _) _
  rw [hW6]
  have B6 : Below W3.heap.size W3 W6 := H5.out.2.1.trans (B6'.mono H5.out.2.1.size)
  have lp := X.out.1.lt
  have x6 := H3.out.2.1.below B6
  have y6 : BytesAt W6.heap (fun k => w.heap.size ≤ k ∧ k < w1.heap.size) (.slice va (Em.folded 1 (.map [])).length vc) (Em.folded 1 (.map [])) := H3.out.2.2.2.1.keeps (fun k _ hl => B6.block k hl) (fun k hk _ => hk)
  have s3 := H3.out.2.2.2.2.1
  have z1 := H1.out.2.size
  have z4 := H4.out.2.1
  have fl : (Em.folded 1 (.map [])).length ≤ 1000000000 := by have := Em.folded_len (D := .map []) 1 (by decide); omega
  have RC := Lib.hid (rewrote_c (t := 0) (cap := 3) x6 X.out.2.2.1 (by decide) (cell_past B6' (cell_past H5.out.1 H4.out.2.2.1)) (cell_past B6' (cell_past H5.out.1 H4.out.2.2.2)) (cell_past B6' H5.out.2.2.2.1) (cell_past B6' H5.out.2.2.2.2.1) (cell_past B6' H5.out.2.2.2.2.2)
    (cell_past B6 (row_cell H3.out.1 rfl)) y6 (fun k hk => ⟨by omega, by omega⟩) fl
    ⟨by omega, by omega⟩ ⟨by omega, by omega⟩ ⟨by omega, by omega⟩ ⟨by omega, by omega⟩ ⟨by omega, by omega⟩ ⟨X.out.2.2.2.1, X.out.2.2.2.2.1⟩ ⟨by have := H5.out.2.2.1; omega, by have := H5.out.2.2.1; omega⟩ r6)
  have H6 := Lib.hid (And.intro B6 lp)
  clear x6 y6 r6 B6' z1 z4 s3 lp fl hW6
  refine hK _ _ (wpList_nil ⟨rfl, fun _ => ⟨⟨_, B6⟩, rfl⟩, ?_⟩)
  clear hK K
  clear B6
  refine wpAnyI_one 11 1 _ _ rfl (by kernel_rfl) ?_
  refine wpList_plain rfl fun K hK => ?_
  go_simp
  go_at_call 71
  refine RC.out.mono ?_
  rintro e w7 ⟨rfl, m7, x7⟩
  have L := Lib.hid (And.intro m7 x7)
  clear m7 x7
  refine hK _ _ (wpList_nil ⟨rfl, fun h => absurd (by decide) h, ?_⟩)
  clear hK K
  refine wpAnyI_pure [12] 0 _ (by kernel_rfl) ?_
  simp only [List.filterMap_cons, List.filterMap_nil, List.getElem?_toArray, List.getElem?_cons_succ, List.getElem?_cons_zero]
  repeat (refine wpHoist_step (fun K hK => ?_); simp only [hoists, sameUpon]; go_simp; refine hK _ ?_; clear hK K)
  refine wpHoist_nil ?_
  refine ⟨by kernel_rfl, ?_⟩
  go_wp2
  go_ret
  obtain ⟨m7, x7⟩ := L.out
  obtain ⟨B6, lp⟩ := H6.out
  obtain ⟨k3, x3, r3, _, s3, b3⟩ := H3.out
  have z1 := H1.out.2.size
  have z6 := B6.size
  have m7' : Moves (PLM pl pd md) W6 w7 := m7.mono fun i hi => Or.inr hi
  have b3' : Moves (PLM pl pd md) w W3 := b3.mono fun i hi => Or.inl hi
  refine ⟨rfl, (b3'.trans (Moves.of_below B6) (fun _ _ h => h)).trans m7' (fun _ _ h => h), ⟨Em.begun_good d, wide_disk X.out.1 x7 (by omega), ⟨w1.heap.size, ?_, ?_, by omega, by omega, by have := lt_of_row X.out.2.1; omega⟩, X.out.2.2.2.1, X.out.2.2.2.2.1, ?_⟩⟩
  · exact (m7.block pl (by have := lt_of_row k3; omega) (fun e => by rcases e with e | e; exact X.out.2.2.2.1 e; exact X.out.2.2.2.2.1 e)).trans ((B6.block pl (lt_of_row k3)).trans k3)
  · exact rows_moved (rows_below r3 B6 (by omega)) m7 (by omega) (by omega)
  · intro h
    rcases h with h | h
    · exact X.out.2.2.2.2.2 h
    · have := lt_of_row X.out.2.1
      omega

end Go.Proofs.YtgffifleflkjoaaGreat
