/-
  DiskPlays: the walk.
-/
import Derived.Test.YtiefhmbpaoecfaaG30
import Derived.Test.YtiefhmbpaoecfaaG32
import Derived.Deep.CutRange

namespace Go.Proofs.Ytiefhmbpaoecfaa
open Go.RowKit Dm

/-- Between two calls: the disk, its document's in a block of its own. -/
structure PMem (w W : World) (p m gw : Nat) (d : D) (F : Nat → Prop) (C : Array Value) : Prop where
  below : Below w.heap.size w W
  new : w.heap.size ≤ p ∧ w.heap.size ≤ m ∧ w.heap.size ≤ gw ∧ gw < W.heap.size ∧ gw ≠ p ∧ gw ≠ m
  disk : DiskAt W.heap p m d F
  row : W.heap[gw]? = some (.cells C tRDisk (0, 0))
  ref : RefAt W.heap F (.agg C) d
  size : C.size = 10
  foot : ∀ k, F k → k < W.heap.size ∧ k ≠ gw

def PRel (w : World) (gw : Nat) (nv : Value) (d : D) (s7 : Value) (W : World) : Prop :=
  ∃ p m F C, s7 = .pointer (some ⟨p, 0, none⟩) ∧ PMem w W p m gw d F C ∧ NoneD W nv

def dAt (sectors room : Int) (l : List ActM) (k : Nat) : D := (l.take k).foldl dNext (Dm.new sectors room)
theorem dAt_succ {s r : Int} {l : List ActM} {k : Nat} {y : ActM} (h : l[k]? = some y) : dAt s r l (k + 1) = dNext (dAt s r l k) y := by
  unfold dAt
  have hl := (List.getElem?_eq_some_iff.1 h).1
  rw [List.take_succ_eq_append_getElem hl, List.foldl_append, (List.getElem?_eq_some_iff.1 h).2]
  rfl

theorem dNext_waits (d : D) (y : ActM) : (dNext d y).waits.length ≤ d.waits.length + 1 := by
  unfold dNext
  split
  · show ([] : List Step).length ≤ _; simp
  · exact act_waits d y

theorem dAt_waits (s r : Int) (l : List ActM) : ∀ k, (dAt s r l k).waits.length ≤ k
  | 0 => by simp [dAt, Dm.new]
  | k + 1 => by
    have ih := dAt_waits s r l k
    by_cases h : k < l.length
    · rw [dAt_succ (List.getElem?_eq_getElem h)]
      have := dNext_waits (dAt s r l k) l[k]
      omega
    · have : dAt s r l (k + 1) = dAt s r l k := by unfold dAt; rw [List.take_of_length_le (by omega), List.take_of_length_le (by omega)]
      rw [this]; omega

/-- Another call has been done; its document's lies in a new block, and then in the old one. -/
theorem PMem.acted {w W W1 W2 W3 : World} {p m gw : Nat} {d d' : D} {F F' : Nat → Prop} {C C' : Array Value} (h : PMem w W p m gw d F C) {p' m' : Nat} (hm : Moves (fun k => k = p ∨ k = m) W W1) (x : DiskAt W1.heap p' m' d' F') (hr : RefAt W1.heap F' (.agg C') d')
    (hF : ∀ k, F' k → (F k ∧ k < W.heap.size) ∨ (W.heap.size ≤ k ∧ k < W1.heap.size)) (hp : (p' = p ∧ m' = m) ∨ (W.heap.size ≤ p' ∧ W.heap.size ≤ m')) (hb : Moves (fun k => ∃ b, k = b ∧ (W1.heap.size ≤ b ∨ (W.heap.size ≤ b ∧ b ≠ p' ∧ b ≠ m' ∧ ¬ F' b))) W1 W2)
    (hg : Moves (fun k => k = gw) W2 W3) (hz : W3.heap.size = W2.heap.size) (r3 : W3.heap[gw]? = some (.cells C' tRDisk (0, 0))) (hs : C'.size = 10) : PMem w W3 p' m' gw d' F' C' := by
  obtain ⟨n1, n2, n3, n4, n5, n6⟩ := h.new
  have z0 := h.below.size
  have z1 := hm.size
  have z2 := hb.size
  have lx := x.lt
  have keep : ∀ k, k < W1.heap.size → (k = p' ∨ k = m' ∨ F' k) → W3.heap[k]? = W1.heap[k]? := fun k hk ho => by
    have hne : k ≠ gw := fun e => by
      subst e
      rcases ho with e | e | e
      · rcases hp with hp | hp <;> omega
      · rcases hp with hp | hp <;> omega
      · rcases hF _ e with h1 | h1
        · exact (h.foot _ h1.1).2 rfl
        · omega
    rw [hg.block k (by omega) hne]
    refine hb.block k hk ?_
    rintro ⟨b, rfl, h1 | h1⟩
    · omega
    · rcases ho with e | e | e
      · exact h1.2.1 e
      · exact h1.2.2.1 e
      · exact h1.2.2.2 e
  refine ⟨⟨hg.os.trans (hb.os.trans (hm.os.trans h.below.os)), hg.tape.trans (hb.tape.trans (hm.tape.trans h.below.tape)), hg.output.trans (hb.output.trans (hm.output.trans h.below.output)), by omega, fun k hk => ?_⟩, ⟨?_, ?_, n3, by omega, ?_, ?_⟩, ?_, r3, ?_, hs, fun k hk => ⟨?_, fun e => ?_⟩⟩
  · rw [hg.block k (by omega) (by omega), hb.block k (by omega) (by rintro ⟨b, rfl, h1 | h1⟩ <;> omega), hm.block k (by omega) (by omega)]
    exact h.below.block k hk
  · rcases hp with hp | hp <;> omega
  · rcases hp with hp | hp <;> omega
  · rcases hp with hp | hp <;> omega
  · rcases hp with hp | hp <;> omega
  · exact x.keeps (keep _ lx.1 (Or.inl rfl)) (keep _ lx.2.1 (Or.inr (Or.inl rfl))) (fun k hk hl => keep k hl (Or.inr (Or.inr hk))) (fun k hk _ => hk) (fun k hk => Or.inl hk)
  · exact hr.keeps (fun k hk hl => keep k hl (Or.inr (Or.inr hk))) (fun k hk _ => hk)
  · rcases hF k hk with h1 | h1 <;> omega
  · rcases hF k hk with h1 | h1
    · exact (h.foot k h1.1).2 e
    · omega

set_option maxRecDepth 100000 in
theorem plays_many {v : Value} {l : List ActM} {w : World} (hv : ActsAt w.heap v l) (hl : l.length ≤ 9223372036854775807) (hf : fewB l 40 = false) (s r : Int) :
    Calls Try.prog 4 #[.int .i64 s, .int .i64 r, v] w fun e w' => e = .returned (.bool true) ∧ Below w.heap.size w w' := by
  have FW := Lib.hid (few_c hv 40 hl)
  have WK := Lib.hid (works_c w)
  rw [hf] at FW
  clear hf hv
  go_enter Try.func4, Try.ntmps4
  go_wp2_with (first
    | (go_at_call 6; refine FW.out.mono ?_; rintro e w' ⟨rfl, rfl⟩)
    | (go_at_call 7; refine WK.out.mono ?_; rintro e w2 ⟨rfl, hb2⟩))
  go_ret
  exact ⟨rfl, hb2⟩

set_option maxRecDepth 100000 in
set_option maxHeartbeats 4000000 in
theorem plays_bad {v : Value} {l : List ActM} {w : World} (hv : ActsAt w.heap v l) (hf : fewB l 40 = true) (s r : Int) (hn : newErr s r ≠ 0) :
    Calls Try.prog 4 #[.int .i64 s, .int .i64 r, v] w fun e w' => e = .returned (.bool true) ∧ Below w.heap.size w w' := by
  obtain ⟨va, vcap, rfl⟩ := hv.slice
  have hl40 := (fewB_small hf).2
  have FW := Lib.hid (few_c hv 40 (by omega))
  rw [hf] at FW
  have NW := Lib.hid (new_err s r w hn)
  have RN := Lib.hid (rnew_err s r w hn)
  generalize hnl : l.length = n at *
  clear hnl hf hv hn
  go_enter Try.func4, Try.ntmps4
  go_upto_region 5 with (first
    | (go_at_call 6; refine FW.out.mono ?_; rintro e w' ⟨rfl, rfl⟩)
    | (go_at_call 8; refine NW.out.mono ?_; rintro e w' ⟨rfl, rfl⟩)
    | (go_at_call 11; refine RN.out.mono ?_; rintro e w3 ⟨rfl, hb3⟩)
    | (refine wpList_store_abs rfl tRDisk (.tmp 9) (.tmp 36) rfl w3.heap.size ref0 rfl rfl tRDisk ref0 (heap_alloc_last w3 _) infoRD rfl (by kernel_rfl) ?_
       intro w4 HW4 HM4 HS4))
  have hb4 : Below w3.heap.size w3 w4 := Moves.new ((Below.refl _ _).alloc (Nat.le_refl _) _) HM4 (Nat.le_refl _)
  have B04 := Lib.hid (hb3.trans (hb4.mono hb3.size))
  clear hb3 hb4 HM4 HW4 HS4 FW NW RN
  generalize w3.heap.size = gw at *
  go_upto_if 41 with fail
  go_cut [11] (fun s11 wx => NoneD wx s11 ∧ Below w4.heap.size w4 wx)
  case first =>
    cases hpar : ((n : Int) % 2 == 1)
    · go_wp2_with fail
      go_meet
      exact ⟨Or.inl rfl, Below.refl _ _⟩
    · go_wp2_with fail
      go_meet
      exact ⟨Or.inr ⟨_, rfl, row_cell (heap_alloc_last _ _) rfl⟩, (Below.refl _ _).alloc (Nat.le_refl _) _⟩
  case rest =>
    obtain ⟨hnone, hbn⟩ := hcut
    obtain ⟨Wn, eWn⟩ : ∃ Wn, Wn = wc := ⟨_, rfl⟩
    subst eWn
    have ND := Lib.hid (fun (X : World) (hb : Below Wn.heap.size Wn X) => hnone.below hb)
    have BN := Lib.hid hbn
    have B := Lib.hid (Below.refl Wn.heap.size Wn)
    clear hnone hbn
    have hmk := mk256
    go_upto_region 11 with (first
      | (go_at_call 17; refine (read_none _ _ _ (ND.out _ B.out)).mono ?_; rintro e w' ⟨rfl, rfl⟩)
      | (go_at_call 19; refine (tape_none _ _ _ (ND.out _ B.out)).mono ?_; rintro e w' ⟨rfl, rfl⟩)
      | (go_at_call 14; refine (crash_none _ _ _ _ _ (ND.out _ B.out)).mono ?_; rintro e wx1 ⟨rfl, hbx1⟩
         have B1 := Lib.hid (B.out.trans (hbx1.mono B.out.size))
         clear hbx1))
    have B2 := Lib.hid (B1.out.alloc B1.out.size (.cells (Array.replicate 256 (.int .u8 0)) tByte))
    go_upto_region 13 with (first
      | (go_at_call 9; refine (num_c _ _).mono ?_; rintro e w' ⟨rfl, rfl⟩)
      | (go_at_call 21; refine (write_none _ _ _ _ (ND.out _ B2.out)).mono ?_; rintro e wx2 ⟨rfl, hbx2⟩
         have B3 := Lib.hid (B2.out.trans (hbx2.mono B2.out.size))
         clear hbx2 B1 B2)
      | (go_at_call 22; refine (append_none _ _ _ _ (ND.out _ B3.out)).mono ?_; rintro e wx3 ⟨rfl, hbx3⟩
         have B4 := Lib.hid (B3.out.trans (hbx3.mono B3.out.size))
         clear hbx3 B3)
      | (go_at_call 23; refine (cut_none _ _ _ _ (ND.out _ B4.out)).mono ?_; rintro e wx4 ⟨rfl, hbx4⟩
         have B5 := Lib.hid (B4.out.trans (hbx4.mono B4.out.size))
         clear hbx4 B4)
      | (go_at_call 24; refine (sync_none _ _ (ND.out _ B5.out)).mono ?_; rintro e w' ⟨rfl, rfl⟩)
      | (go_at_call 25; refine (stop_none _ _ _ (ND.out _ B5.out)).mono ?_; rintro e w' ⟨rfl, rfl⟩))
    go_upto_region 15 with (first
      | (go_at_call 26; refine (sectors_none _ _ (ND.out _ B5.out)).mono ?_; rintro e w' ⟨rfl, rfl⟩)
      | (go_at_call 27; refine (room_none _ _ (ND.out _ B5.out)).mono ?_; rintro e w' ⟨rfl, rfl⟩)
      | (go_at_call 28; refine (used_none _ _ (ND.out _ B5.out)).mono ?_; rintro e w' ⟨rfl, rfl⟩)
      | (go_at_call 12; refine (waits_none _ _ (ND.out _ B5.out)).mono ?_; rintro e w' ⟨rfl, rfl⟩)
      | (go_at_call 16; refine (dead_none _ _ (ND.out _ B5.out)).mono ?_; rintro e w' ⟨rfl, rfl⟩)
      | (go_at_call 10; refine (copy_none _ _ (ND.out _ B5.out)).mono ?_; rintro e w' ⟨rfl, rfl⟩)
      | (go_at_call 29; refine (same_nones (ND.out _ B5.out) (Or.inl rfl)).mono ?_; rintro e w' ⟨rfl, rfl⟩))
    have WK := Lib.hid (works_c wx4)
    go_wp2_with (first
      | (go_at_call 9; refine (num_c _ _).mono ?_; rintro e w' ⟨rfl, rfl⟩)
      | (go_at_call 7; refine WK.out.mono ?_; rintro e wq ⟨rfl, hbq⟩))
    go_ret
    have h1 := BN.out.trans (B5.out.mono BN.out.size)
    have h2 := h1.trans (hbq.mono h1.size)
    exact ⟨rfl, B04.out.trans (h2.mono B04.out.size)⟩

set_option maxRecDepth 100000 in
set_option maxHeartbeats 8000000 in
theorem plays_good {v : Value} {l : List ActM} {w : World} (hv : ActsAt w.heap v l) (hf : fewB l 40 = true) (s r : Int) (hn : newErr s r = 0) :
    Calls Try.prog 4 #[.int .i64 s, .int .i64 r, v] w fun e w' => e = .returned (.bool true) ∧ Below w.heap.size w w' := by
  obtain ⟨va, vcap, rfl⟩ := hv.slice
  obtain ⟨hsm, hl40⟩ := fewB_small hf
  have FW := Lib.hid (few_c hv 40 (by omega))
  rw [hf] at FW
  have NW := Lib.hid (new_c s r w hn)
  have HE := Lib.hid hn
  have IN := Lib.hid (And.intro hv hsm)
  generalize hnl : l.length = n at *
  have HN := Lib.hid hnl
  clear hnl hf hv hn hsm
  go_enter Try.func4, Try.ntmps4
  go_upto_region 4 with (first
    | (go_at_call 6; refine FW.out.mono ?_; rintro e w' ⟨rfl, rfl⟩)
    | (go_at_call 8; refine NW.out.mono ?_; rintro e w1 ⟨p, m, rfl, hb1, hp, hm, x1⟩))
  have lx := x1.lt
  have x1' := x1.weak (F' := fun k => k < w1.heap.size ∧ k ≠ p ∧ k ≠ m) (fun k hk hl => ⟨hl, hk.2⟩) (fun h => h.2.1 rfl) (fun h => h.2.2 rfl)
  have RN := Lib.hid (rnew_c s r w1 (fun k => k < w1.heap.size ∧ k ≠ p ∧ k ≠ m) HE.out)
  have X1 := Lib.hid (And.intro hb1 (And.intro hp (And.intro hm x1')))
  clear hb1 hp hm x1 x1' lx FW NW
  go_upto_region 5 with (first
    | (go_at_call 11; refine RN.out.mono ?_; rintro e w3 ⟨v3, rfl, hb3, hr3⟩
       obtain ⟨sv3, u0, u1, u2, u3, wv3, ev, rb3, st3⟩ := id hr3
       subst ev
       have R3 := Lib.hid (And.intro hb3 (And.intro (ref_ones rb3 st3) hr3))
       clear hb3 rb3 st3 hr3)
    | (refine wpList_store_abs rfl tRDisk (.tmp 9) (.tmp 36) rfl w3.heap.size _ rfl rfl tRDisk ref0 (heap_alloc_last w3 _) infoRD rfl (R3.out.2.1 _ _ _ _) ?_
       intro w4 HW4 HM4 HS4
       have hb4 : Below w3.heap.size w3 w4 := Moves.new ((Below.refl _ _).alloc (Nat.le_refl _) _) HM4 (Nat.le_refl _)))
  have pm : PMem w w4 p m w3.heap.size (Dm.new s r) (fun k => (k < w1.heap.size ∧ k ≠ p ∧ k ≠ m) ∨ (w1.heap.size ≤ k ∧ k < w3.heap.size)) (refC (Dm.new s r).many (Dm.new s r).room sv3 u0 u1 u2 u3 wv3 (Dm.new s r).dead (Dm.new s r).stops) := by
    have z1 := X1.out.1.size
    have z3 := R3.out.1.size
    have l1 := X1.out.2.2.2.lt
    have l4 := lt_of_row HW4.out
    have hb14 := R3.out.1.trans (hb4.mono z3)
    refine ⟨X1.out.1.trans (hb14.mono z1), ⟨X1.out.2.1, X1.out.2.2.1, by omega, l4, by omega, by omega⟩, (X1.out.2.2.2.below hb14).weak (fun k hk hl => Or.inl hk) (by omega) (by omega), HW4.out, ?_, rfl, fun k hk => by omega⟩
    exact R3.out.2.2.keeps (fun k hk hl => hb4.block k hl) (fun k hk hl => hk)
  have PM := Lib.hid pm
  clear pm R3 X1 HM4 HS4 HW4 hb4 RN
  generalize w3.heap.size = gw at *
  generalize (refC (Dm.new s r).many (Dm.new s r).room sv3 u0 u1 u2 u3 wv3 (Dm.new s r).dead (Dm.new s r).stops) = C3 at *
  go_upto_if 41 with fail
  go_cut [11] (fun s11 wx => NoneD wx s11 ∧ Below w4.heap.size w4 wx)
  case first =>
    cases hpar : ((n : Int) % 2 == 1)
    · go_wp2_with fail
      go_meet
      exact ⟨Or.inl rfl, Below.refl _ _⟩
    · go_wp2_with fail
      go_meet
      exact ⟨Or.inr ⟨_, rfl, row_cell (heap_alloc_last _ _) rfl⟩, (Below.refl _ _).alloc (Nat.le_refl _) _⟩
  case rest =>
    obtain ⟨hnone, hbn⟩ := hcut
    obtain ⟨Wn, eWn⟩ : ∃ Wn, Wn = wc := ⟨_, rfl⟩
    subst eWn
    have ND := Lib.hid (fun (X : World) (hb : Below Wn.heap.size Wn X) => hnone.below hb)
    have BN := Lib.hid hbn
    have B := Lib.hid (Below.refl Wn.heap.size Wn)
    clear hnone hbn
    have hmk := mk256
    go_upto_region 11 with (first
      | (go_at_call 17; refine (read_none _ _ _ (ND.out _ B.out)).mono ?_; rintro e w' ⟨rfl, rfl⟩)
      | (go_at_call 19; refine (tape_none _ _ _ (ND.out _ B.out)).mono ?_; rintro e w' ⟨rfl, rfl⟩)
      | (go_at_call 14; refine (crash_none _ _ _ _ _ (ND.out _ B.out)).mono ?_; rintro e wx1 ⟨rfl, hbx1⟩
         have B1 := Lib.hid (B.out.trans (hbx1.mono B.out.size))
         clear hbx1))
    have B2 := Lib.hid (B1.out.alloc B1.out.size (.cells (Array.replicate 256 (.int .u8 0)) tByte))
    go_upto_region 13 with (first
      | (go_at_call 9; refine (num_c _ _).mono ?_; rintro e w' ⟨rfl, rfl⟩)
      | (go_at_call 21; refine (write_none _ _ _ _ (ND.out _ B2.out)).mono ?_; rintro e wx2 ⟨rfl, hbx2⟩
         have B3 := Lib.hid (B2.out.trans (hbx2.mono B2.out.size))
         clear hbx2 B1 B2)
      | (go_at_call 22; refine (append_none _ _ _ _ (ND.out _ B3.out)).mono ?_; rintro e wx3 ⟨rfl, hbx3⟩
         have B4 := Lib.hid (B3.out.trans (hbx3.mono B3.out.size))
         clear hbx3 B3)
      | (go_at_call 23; refine (cut_none _ _ _ _ (ND.out _ B4.out)).mono ?_; rintro e wx4 ⟨rfl, hbx4⟩
         have B5 := Lib.hid (B4.out.trans (hbx4.mono B4.out.size))
         clear hbx4 B4)
      | (go_at_call 24; refine (sync_none _ _ (ND.out _ B5.out)).mono ?_; rintro e w' ⟨rfl, rfl⟩)
      | (go_at_call 25; refine (stop_none _ _ _ (ND.out _ B5.out)).mono ?_; rintro e w' ⟨rfl, rfl⟩))
    go_upto_region 15 with (first
      | (go_at_call 26; refine (sectors_none _ _ (ND.out _ B5.out)).mono ?_; rintro e w' ⟨rfl, rfl⟩)
      | (go_at_call 27; refine (room_none _ _ (ND.out _ B5.out)).mono ?_; rintro e w' ⟨rfl, rfl⟩)
      | (go_at_call 28; refine (used_none _ _ (ND.out _ B5.out)).mono ?_; rintro e w' ⟨rfl, rfl⟩)
      | (go_at_call 12; refine (waits_none _ _ (ND.out _ B5.out)).mono ?_; rintro e w' ⟨rfl, rfl⟩)
      | (go_at_call 16; refine (dead_none _ _ (ND.out _ B5.out)).mono ?_; rintro e w' ⟨rfl, rfl⟩)
      | (go_at_call 10; refine (copy_none _ _ (ND.out _ B5.out)).mono ?_; rintro e w' ⟨rfl, rfl⟩)
      | (go_at_call 29; refine (same_nones (ND.out _ B5.out) (Or.inl rfl)).mono ?_; rintro e w' ⟨rfl, rfl⟩))
    have rel0 : PRel w gw u11 (dAt s r l 0) (.pointer (some ⟨p, 0, none⟩)) wx4 := by
      have hbt := BN.out.trans (B5.out.mono BN.out.size)
      have h := PM.out
      have z := hbt.size
      exact ⟨p, m, _, _, rfl, ⟨h.below.trans (hbt.mono h.below.size), by have := h.new; omega, h.disk.below hbt, (hbt.block _ (lt_of_row h.row)).trans h.row, h.ref.keeps (fun k _ hl => hbt.block k hl) (fun _ hk _ => hk), h.size, fun k hk => by have := h.foot k hk; omega⟩, ND.out _ B5.out⟩
    have REL := Lib.hid rel0
    clear rel0 PM BN B5 ND B
    go_wp2
    go_loopg [7, 18] n (fun g s7 s18 wr => ∃ k : Nat, s18 = .int .i64 (k : Int) ∧ g + k = n ∧ PRel w gw u11 (dAt s r l k) s7 wr)
    case atStart => exact ⟨0, rfl, rfl, REL.out⟩
    case round =>
      obtain ⟨k, rfl, hg, p, m, F, C, rfl, pm, nd⟩ := hrel
      by_cases hlt : k < n
      · have hkl : k < l.length := by rw [HN.out]; exact hlt
        obtain ⟨y, hy⟩ : ∃ y, l[k]? = some y := ⟨_, List.getElem?_eq_getElem hkl⟩
        obtain ⟨b, o, cap, bv, ykv, ev, hblt, rng, hbv, hykv, yok⟩ := IN.out.1.row hy
        obtain ⟨rfl, hx1, hx2⟩ := Value.slice.inj ev
        clear hx1 hx2
        have rngr : wr.rangeAt b (o + k * 8) _ := fun j u hj => (pm.below.cell (p := ⟨b, o + k * 8 + j, none⟩) hblt).trans (rng j u hj)
        have hsmall := IN.out.2 y (List.mem_of_getElem? hy)
        simp only [ActM.small, Bool.and_eq_true, decide_eq_true_eq] at hsmall
        have hbvr : BytesIn wr.heap (fun _ => True) bv y.b := hbv.keeps (fun k _ hl => pm.below.block k hl) (fun _ h _ => h)
        have hkvr : BoolsAt wr.heap ykv y.crash.keep := hykv.keeps (fun k hl => pm.below.block k hl)
        have hk0 : (0 : Int) ≤ (k : Int) := by omega
        have hk1 : (k : Int) < (n : Int) := by omega
        have wl := dAt_waits s r l k
        have AC := Lib.hid (act_any (w := wr.drew) pm.disk pm.ref (by omega) y yok hbvr (by omega) hkvr (by omega))
        have ACB := Lib.hid (act_any (w := (wr.drew.alloc (.cells ref0 tRDisk))) (pm.disk.below ((Below.refl _ _).alloc (Nat.le_refl _) _).drew) (pm.ref.keeps (F' := F) (fun k _ hl => ((Below.refl wr.heap.size wr).drew.alloc (Nat.le_refl _) (.cells ref0 tRDisk)).block k hl) (fun _ h _ => h)) (by omega) y yok (hbvr.keeps (F' := fun _ => True) (fun k _ hl => ((Below.refl wr.heap.size wr).drew.alloc (Nat.le_refl _) (.cells ref0 tRDisk)).block k hl) (fun _ h _ => h)) (by omega) (hkvr.keeps (fun k hl => ((Below.refl wr.heap.size wr).drew.alloc (Nat.le_refl _) (.cells ref0 tRDisk)).block k hl)) (by omega))
        have PMH := Lib.hid (And.intro pm (And.intro nd (And.intro hg (And.intro hy (And.intro rngr hblt)))))
        have NXT := Lib.hid (dAt_succ (s := s) (r := r) hy)
        have LD9 : Hid (∀ w', (∃ x : Wd (ActCls gw b wr), w' = x.world) → (Instr.loadAt tRDisk (.pointer (some ⟨gw, 0, none⟩))).run Try.prog w' = .ok (.agg C) w') := by
          rintro w' ⟨x, rfl⟩
          exact run_loadAt_row (x.ok.1.trans PMH.out.1.row) Try.underlying42 rfl (by rw [infoRD, PMH.out.1.size])
        have LDA : Hid (∀ w', (∃ x : Wd (ActCls gw b wr), w' = x.world) → (Instr.loadAt tAct (.pointer (some ⟨b, o + k * 8, none⟩))).run Try.prog w' = .ok (.agg #[.int .i64 y.what, .int .i64 y.sec, .int .i64 y.n, bv, .bool y.raw, ykv, .int .i64 y.crash.torn, .int .i64 y.crash.part]) w') := by
          rintro w' ⟨x, rfl⟩
          exact run_loadAt_mid x.world b (o + k * 8) tAct [.int .i64 y.what, .int .i64 y.sec, .int .i64 y.n, bv, .bool y.raw, ykv, .int .i64 y.crash.torn, .int .i64 y.crash.part] _ (fun j v hj => by
            have := PMH.out.2.2.2.2.1 j v hj
            unfold World.cell? at this ⊢
            rw [x.ok.2]
            exact this) Try.underlying46 rfl infoAct
        have ne : Nonempty (Wd (ActCls gw b wr)) := ⟨⟨wr, rfl, rfl⟩⟩
        clear pm nd hg hy rng rngr hbv hykv yok ev hsmall hbvr hkvr wl hblt
        go_upto_region 20 with fail
        refine wp_region_hoist (fun w' => ∃ x : Wd (ActCls gw b wr), w' = x.world) [] (by kernel_rfl) ?_
        refine wpAnyI_reads [0, 1, 2, 3, 4, 5] 9 _ ⟨⟨_, (⟨rfl, rfl⟩ : ActCls gw b wr wr.drew)⟩, rfl⟩ (by kernel_rfl) ?_
        simp only [List.filterMap_cons, List.filterMap_nil, List.getElem?_toArray, List.getElem?_cons_succ, List.getElem?_cons_zero]
        refine wpHoist_step (fun K hK => ?_); simp only [hoists, sameUpon]; go_simp; refine hK _ ?_; clear hK K
        refine wpHoist_load_run rfl tRDisk (.tmp 9) rfl _ LD9.out ?_
        refine wpHoist_step (fun K hK => ?_); simp only [hoists, sameUpon]; go_simp; refine hK _ ?_; clear hK K
        refine wpHoist_step (fun K hK => ?_); simp only [hoists, sameUpon]; go_simp; refine hK _ ?_; clear hK K
        refine wpHoist_step (fun K hK => ?_); simp only [hoists, sameUpon]; go_simp; refine hK _ ?_; clear hK K
        refine wpHoist_load_run rfl tAct (.tmp 158) rfl _ LDA.out ?_
        refine wpHoist_nil ?_
        refine wpAnyI_two 6 11 8 _ _ _ rfl rfl (by kernel_rfl) ?_ ?_
        · refine wpList_plain rfl fun K hK => ?_
          go_simp
          go_at_call 13
          refine AC.out.mono ?_
          rintro e w5 ⟨p5, m5, v5, F5, rfl, mv5', x5, hr5, hF5, hp5⟩
          have mv5 : Moves (fun k => k = p ∨ k = m) wr w5 := ⟨mv5'.os, mv5'.tape, mv5'.output, mv5'.size, mv5'.block⟩
          clear mv5'
          obtain ⟨sv5, y0, y1, y2, y3, wv5, ev, rb5, st5⟩ := id hr5
          subst ev
          have on5 := ref_ones rb5 st5
          have cl5 : ActCls gw b wr w5 := ⟨mv5.block gw PMH.out.1.new.2.2.2.1 (by have := PMH.out.1.new; omega), mv5.block b (by have := PMH.out.2.2.2.2.2; have := PMH.out.1.below.size; omega) (by have := PMH.out.2.2.2.2.2; have := PMH.out.1.new; omega)⟩
          have A5 := Lib.hid (And.intro mv5 (And.intro x5 (And.intro hr5 (And.intro hF5 (And.intro hp5 on5)))))
          clear mv5 x5 hr5 hF5 hp5 on5 rb5 st5
          refine hK _ _ (wpList_nil ⟨rfl, fun _ => ⟨⟨_, cl5⟩, rfl⟩, ?_⟩)
          clear hK K
          refine wpAnyI_reads [7, 8, 9, 10] 4 _ ⟨⟨_, cl5⟩, rfl⟩ (by kernel_rfl) ?_
          simp only [List.filterMap_cons, List.filterMap_nil, List.getElem?_toArray, List.getElem?_cons_succ, List.getElem?_cons_zero]
          repeat (refine wpHoist_step (fun K hK => ?_); simp only [hoists, sameUpon]; go_simp; refine hK _ ?_; clear hK K)
          refine wpHoist_nil ?_
          refine wpAnyI_one 11 3 _ _ rfl (by kernel_rfl) ?_
          refine wpList_plain rfl fun K hK => ?_
          go_simp
          have cl6 : ActCls gw b wr (w5.alloc (.cells ref0 tRDisk)) := ⟨(heap_old_own _ _ _ (by have := A5.out.1.size; have := PMH.out.1.new; omega)).trans cl5.1, (heap_old_own _ _ _ (by have := A5.out.1.size; have := PMH.out.1.below.size; have := PMH.out.2.2.2.2.2; omega)).trans cl5.2⟩
          refine hK _ _ (wpList_nil ⟨rfl, fun _ => ⟨⟨_, cl6⟩, rfl⟩, ?_⟩)
          clear hK K
          refine wpAnyI_reads [12] 2 _ ⟨⟨_, cl6⟩, rfl⟩ (by kernel_rfl) ?_
          simp only [List.filterMap_cons, List.filterMap_nil, List.getElem?_toArray, List.getElem?_cons_succ, List.getElem?_cons_zero]
          repeat (refine wpHoist_step (fun K hK => ?_); simp only [hoists, sameUpon]; go_simp; refine hK _ ?_; clear hK K)
          refine wpHoist_nil ?_
          refine wpAnyI_one 13 1 _ _ rfl (by kernel_rfl) ?_
          refine wpList_store_abs rfl tRDisk (.tmp 20) (.tmp 162) rfl w5.heap.size _ rfl rfl tRDisk ref0 (heap_alloc_last w5 _) infoRD rfl (A5.out.2.2.2.2.2 _ _ _ _) ?_
          intro w6 HW6 HM6 HS6
          have lg := PMH.out.1.new.2.2.2.1
          have lb : b < wr.heap.size := by have := PMH.out.2.2.2.2.2; have := PMH.out.1.below.size; omega
          have z5 := A5.out.1.size
          have hb56 : Below w5.heap.size w5 w6 := Moves.new ((Below.refl _ _).alloc (Nat.le_refl _) _) HM6 (Nat.le_refl _)
          have nd6 : NoneD w6 u11 := (PMH.out.2.1.moves PMH.out.1.disk A5.out.1).below hb56
          have pm7 : ∀ w7 : World, Moves (fun k => k = gw) w6 w7 → w7.heap.size = w6.heap.size → w7.heap[gw]? = some (.cells (refC (dNext (dAt s r l k) y).many (dNext (dAt s r l k) y).room sv5 y0 y1 y2 y3 wv5 (dNext (dAt s r l k) y).dead (dNext (dAt s r l k) y).stops) tRDisk (0, 0)) → PMem w w7 p5 m5 gw (dNext (dAt s r l k) y) F5 (refC (dNext (dAt s r l k) y).many (dNext (dAt s r l k) y).room sv5 y0 y1 y2 y3 wv5 (dNext (dAt s r l k) y).dead (dNext (dAt s r l k) y).stops) := fun w7 h1 h2 h3 => PMH.out.1.acted A5.out.1 A5.out.2.1 A5.out.2.2.1 A5.out.2.2.2.1 A5.out.2.2.2.2.1 (Moves.of_below hb56) h1 h2 h3 rfl
          have gw6 : w6.heap[gw]? = some (.cells C tRDisk (0, 0)) := (hb56.block gw (by omega)).trans (cl5.1.trans PMH.out.1.row)
          have cl7 : ActCls gw b wr w6 := ⟨(hb56.block gw (by omega)).trans cl5.1, (hb56.block b (by omega)).trans cl5.2⟩
          refine wpList_nil ⟨rfl, fun _ => ⟨⟨_, cl7⟩, rfl⟩, ?_⟩
          have Z := Lib.hid (And.intro pm7 (And.intro nd6 (And.intro gw6 (And.intro HW6.out A5.out.2.2.2.2.2))))
          clear lg lb z5 hb56 nd6 pm7 gw6 HW6 HM6 HS6 cl5 cl6
          generalize w5.heap.size = b20 at *
          refine wpAnyI_reads [14] 0 _ ⟨⟨_, cl7⟩, rfl⟩ (by kernel_rfl) ?_
          simp only [List.filterMap_cons, List.filterMap_nil, List.getElem?_toArray, List.getElem?_cons_succ, List.getElem?_cons_zero]
          repeat (refine wpHoist_step (fun K hK => ?_); simp only [hoists, sameUpon]; go_simp; refine hK _ ?_; clear hK K)
          refine wpHoist_nil ?_
          refine ⟨by kernel_rfl, ?_⟩
          have LD20 : Hid (∀ w', (∃ x : Wd (ActCls b20 b20 w6), w' = x.world) → (Instr.loadAt tRDisk (.pointer (some ⟨b20, 0, none⟩))).run Try.prog w' = .ok (.agg (refC (dNext (dAt s r l k) y).many (dNext (dAt s r l k) y).room sv5 y0 y1 y2 y3 wv5 (dNext (dAt s r l k) y).dead (dNext (dAt s r l k) y).stops)) w') := by
            rintro w' ⟨x, rfl⟩
            exact run_loadAt_row (x.ok.1.trans Z.out.2.2.2.1) Try.underlying42 rfl infoRD
          have ne6 : Nonempty (Wd (ActCls b20 b20 w6)) := ⟨⟨w6, rfl, rfl⟩⟩
          clear cl7 ne LD9 LDA AC ACB
          go_wp2
          refine wp_region_hoist (fun w' => ∃ x : Wd (ActCls b20 b20 w6), w' = x.world) [3] (by kernel_rfl) ?_
          refine wpAnyI_reads [0, 1, 2] 1 _ ⟨⟨_, (⟨rfl, rfl⟩ : ActCls b20 b20 w6 w6.drew)⟩, rfl⟩ (by kernel_rfl) ?_
          simp only [List.filterMap_cons, List.filterMap_nil, List.getElem?_toArray, List.getElem?_cons_succ, List.getElem?_cons_zero]
          refine wpHoist_step (fun K hK => ?_); simp only [hoists, sameUpon]; go_simp; refine hK _ ?_; clear hK K
          refine wpHoist_load_run rfl tRDisk (.tmp 20) rfl _ LD20.out ?_
          repeat (refine wpHoist_step (fun K hK => ?_); simp only [hoists, sameUpon]; go_simp; refine hK _ ?_; clear hK K)
          refine wpHoist_nil ?_
          refine wpAnyI_one 3 0 _ _ rfl (by kernel_rfl) ?_
          refine wpList_store_abs rfl tRDisk (.tmp 9) (.tmp 165) rfl gw _ rfl rfl tRDisk C Z.out.2.2.1 infoRD (by rw [PMH.out.1.size]; rfl) (Z.out.2.2.2.2 _ _ _ _) ?_
          intro w7 HW7 HM7 HS7
          have HM7' : Moves (fun k => k = gw) w6 w7 := ⟨HM7.os, HM7.tape, HM7.output, HM7.size, HM7.block⟩
          have pmF := Z.out.1 w7 HM7' HS7 HW7.out
          have ndF := Z.out.2.1.stays Z.out.2.2.1 (by rw [PMH.out.1.size]; decide) HM7'
          refine wpList_nil ⟨rfl, fun h => absurd (by decide) h, by kernel_rfl, ?_⟩
          have wl1 := dAt_waits s r l (k + 1)
          rw [NXT.out] at wl1
          have IS := Lib.hid (is_c pmF.disk pmF.ref (by omega))
          have PF := Lib.hid (And.intro pmF ndF)
          clear HM7 HM7' HS7 HW7 pmF ndF LD20 ne6 wl1 Z A5
          go_wp2_with (first
            | (refine wpList_load_wanted (by go_simp) tRDisk (.tmp 9) rfl _ (run_loadAt_row PF.out.1.row Try.underlying42 rfl infoRD) ?_)
            | (go_at_call 30; refine IS.out.mono ?_; rintro e w8 ⟨rfl, hb8⟩))
          go_roundg (n - (k + 1))
          case measure => have := PMH.out.2.2.1; omega
          case rel =>
            refine ⟨k + 1, by go_num, by have := PMH.out.2.2.1; omega, ?_⟩
            rw [NXT.out]
            have h := PF.out.1
            have z := hb8.size
            exact ⟨p5, m5, _, _, rfl, ⟨h.below.trans (hb8.mono h.below.size), by have := h.new; omega, h.disk.below hb8, (hb8.block _ (lt_of_row h.row)).trans h.row, h.ref.keeps (fun k _ hl => hb8.block k hl) (fun _ hk _ => hk), h.size, fun k hk => by have := h.foot k hk; omega⟩, PF.out.2.below hb8⟩
        · refine wpList_plain rfl fun K hK => ?_
          go_simp
          have cl4 : ActCls gw b wr (wr.drew.alloc (.cells ref0 tRDisk)) := ⟨heap_old_own _ _ _ (by have := PMH.out.1.new; show gw < wr.heap.size; omega), heap_old_own _ _ _ (by have := PMH.out.1.below.size; have := PMH.out.2.2.2.2.2; show b < wr.heap.size; omega)⟩
          refine hK _ _ (wpList_nil ⟨rfl, fun _ => ⟨⟨_, cl4⟩, rfl⟩, ?_⟩)
          clear hK K
          refine wpAnyI_one 6 7 _ _ rfl (by kernel_rfl) ?_
          refine wpList_plain rfl fun K hK => ?_
          go_simp
          go_at_call 13
          refine ACB.out.mono ?_
          rintro e w5 ⟨p5, m5, v5, F5, rfl, mv5, x5, hr5, hF5, hp5⟩
          obtain ⟨sv5, y0, y1, y2, y3, wv5, ev, rb5, st5⟩ := id hr5
          subst ev
          have on5 := ref_ones rb5 st5
          have lg := PMH.out.1.new.2.2.2.1
          have lb : b < wr.heap.size := by have := PMH.out.2.2.2.2.2; have := PMH.out.1.below.size; omega
          have nn := PMH.out.1.new
          have nb := PMH.out.2.2.2.2.2
          have lxx := PMH.out.1.disk.lt
          have za : (wr.drew.alloc (.cells ref0 tRDisk)).heap.size = wr.heap.size + 1 := by simp
          have hba : Below wr.heap.size wr (wr.drew.alloc (.cells ref0 tRDisk)) := (Below.refl wr.heap.size wr).drew.alloc (Nat.le_refl _) _
          have ra : (wr.drew.alloc (.cells ref0 tRDisk)).heap[wr.heap.size]? = some (.cells ref0 tRDisk (0, 0)) := heap_alloc_last wr.drew _
          have z5 := mv5.size
          have cl5 : ActCls gw b wr w5 := ⟨(mv5.block gw (by omega) (by omega)).trans cl4.1, (mv5.block b (by omega) (by omega)).trans cl4.2⟩
          have r5 : w5.heap[wr.heap.size]? = some (.cells ref0 tRDisk (0, 0)) := (mv5.block _ (by omega) (by omega)).trans ra
          have mvt : Moves (fun k => k = p ∨ k = m) wr w5 := (Moves.of_below hba).trans mv5 (fun _ _ h => h)
          have hFt : ∀ k, F5 k → (F k ∧ k < wr.heap.size) ∨ (wr.heap.size < k ∧ k < w5.heap.size) := fun k hk => by
            rcases hF5 k hk with h | h
            · exact Or.inl ⟨h.1, (PMH.out.1.foot k h.1).1⟩
            · exact Or.inr ⟨by omega, h.2⟩
          have hpt : (p5 = p ∧ m5 = m) ∨ (wr.heap.size < p5 ∧ wr.heap.size < m5) := by
            rcases hp5 with h | h
            · exact Or.inl h
            · exact Or.inr ⟨by omega, by omega⟩
          have nd5 : NoneD w5 u11 := (PMH.out.2.1.below hba).moves (PMH.out.1.disk.below hba) mv5
          have A5 := Lib.hid (And.intro mvt (And.intro x5 (And.intro hr5 (And.intro hFt (And.intro hpt on5)))))
          clear mv5 x5 hr5 hF5 hp5 on5 rb5 st5 hFt hpt mvt ra hba cl4
          refine hK _ _ (wpList_nil ⟨rfl, fun _ => ⟨⟨_, cl5⟩, rfl⟩, ?_⟩)
          clear hK K
          refine wpAnyI_reads [7, 8, 9, 10] 3 _ ⟨⟨_, cl5⟩, rfl⟩ (by kernel_rfl) ?_
          simp only [List.filterMap_cons, List.filterMap_nil, List.getElem?_toArray, List.getElem?_cons_succ, List.getElem?_cons_zero]
          repeat (refine wpHoist_step (fun K hK => ?_); simp only [hoists, sameUpon]; go_simp; refine hK _ ?_; clear hK K)
          refine wpHoist_nil ?_
          refine wpAnyI_reads [12] 2 _ ⟨⟨_, cl5⟩, rfl⟩ (by kernel_rfl) ?_
          simp only [List.filterMap_cons, List.filterMap_nil, List.getElem?_toArray, List.getElem?_cons_succ, List.getElem?_cons_zero]
          repeat (refine wpHoist_step (fun K hK => ?_); simp only [hoists, sameUpon]; go_simp; refine hK _ ?_; clear hK K)
          refine wpHoist_nil ?_
          refine wpAnyI_one 13 1 _ _ rfl (by kernel_rfl) ?_
          refine wpList_store_abs rfl tRDisk (.tmp 20) (.tmp 162) rfl wr.heap.size _ rfl rfl tRDisk ref0 r5 infoRD rfl (A5.out.2.2.2.2.2 _ _ _ _) ?_
          intro w6 HW6 HM6 HS6
          have l5 := lt_of_row r5
          have nd6 : NoneD w6 u11 := nd5.stays r5 (by decide) HM6
          have pm7 : ∀ w7 : World, Moves (fun k => k = gw) w6 w7 → w7.heap.size = w6.heap.size → w7.heap[gw]? = some (.cells (refC (dNext (dAt s r l k) y).many (dNext (dAt s r l k) y).room sv5 y0 y1 y2 y3 wv5 (dNext (dAt s r l k) y).dead (dNext (dAt s r l k) y).stops) tRDisk (0, 0)) → PMem w w7 p5 m5 gw (dNext (dAt s r l k) y) F5 (refC (dNext (dAt s r l k) y).many (dNext (dAt s r l k) y).room sv5 y0 y1 y2 y3 wv5 (dNext (dAt s r l k) y).dead (dNext (dAt s r l k) y).stops) := fun w7 h1 h2 h3 =>
            PMH.out.1.acted A5.out.1 A5.out.2.1 A5.out.2.2.1 (fun k hk => by rcases A5.out.2.2.2.1 k hk with h | h; exact Or.inl h; exact Or.inr ⟨by omega, h.2⟩) (by rcases A5.out.2.2.2.2.1 with h | h; exact Or.inl h; exact Or.inr ⟨by omega, by omega⟩)
              (HM6.mono (fun k hk => ⟨k, rfl, Or.inr ⟨by omega, by rcases A5.out.2.2.2.2.1 with h | h <;> omega, by rcases A5.out.2.2.2.2.1 with h | h <;> omega, fun hf => by rcases A5.out.2.2.2.1 k hf with h | h <;> omega⟩⟩)) h1 h2 h3 rfl
          have gw6 : w6.heap[gw]? = some (.cells C tRDisk (0, 0)) := (HM6.block gw (by omega) (by omega)).trans (cl5.1.trans PMH.out.1.row)
          have cl7 : ActCls gw b wr w6 := ⟨(HM6.block gw (by omega) (by omega)).trans cl5.1, (HM6.block b (by omega) (by omega)).trans cl5.2⟩
          refine wpList_nil ⟨rfl, fun _ => ⟨⟨_, cl7⟩, rfl⟩, ?_⟩
          have Z := Lib.hid (And.intro pm7 (And.intro nd6 (And.intro gw6 (And.intro HW6.out A5.out.2.2.2.2.2))))
          clear lg lb z5 nd6 pm7 gw6 HW6 HM6 HS6 cl5 r5 l5 nd5 nn nb lxx za
          obtain ⟨b20, eb20⟩ : ∃ b20, wr.heap.size = b20 := ⟨_, rfl⟩
          rw [eb20] at Z ⊢
          clear eb20
          refine wpAnyI_reads [14] 0 _ ⟨⟨_, cl7⟩, rfl⟩ (by kernel_rfl) ?_
          simp only [List.filterMap_cons, List.filterMap_nil, List.getElem?_toArray, List.getElem?_cons_succ, List.getElem?_cons_zero]
          repeat (refine wpHoist_step (fun K hK => ?_); simp only [hoists, sameUpon]; go_simp; refine hK _ ?_; clear hK K)
          refine wpHoist_nil ?_
          refine ⟨by kernel_rfl, ?_⟩
          have LD20 : Hid (∀ w', (∃ x : Wd (ActCls b20 b20 w6), w' = x.world) → (Instr.loadAt tRDisk (.pointer (some ⟨b20, 0, none⟩))).run Try.prog w' = .ok (.agg (refC (dNext (dAt s r l k) y).many (dNext (dAt s r l k) y).room sv5 y0 y1 y2 y3 wv5 (dNext (dAt s r l k) y).dead (dNext (dAt s r l k) y).stops)) w') := by
            rintro w' ⟨x, rfl⟩
            exact run_loadAt_row (x.ok.1.trans Z.out.2.2.2.1) Try.underlying42 rfl infoRD
          have ne6 : Nonempty (Wd (ActCls b20 b20 w6)) := ⟨⟨w6, rfl, rfl⟩⟩
          clear cl7 ne LD9 LDA AC ACB
          go_wp2
          refine wp_region_hoist (fun w' => ∃ x : Wd (ActCls b20 b20 w6), w' = x.world) [3] (by kernel_rfl) ?_
          refine wpAnyI_reads [0, 1, 2] 1 _ ⟨⟨_, (⟨rfl, rfl⟩ : ActCls b20 b20 w6 w6.drew)⟩, rfl⟩ (by kernel_rfl) ?_
          simp only [List.filterMap_cons, List.filterMap_nil, List.getElem?_toArray, List.getElem?_cons_succ, List.getElem?_cons_zero]
          refine wpHoist_step (fun K hK => ?_); simp only [hoists, sameUpon]; go_simp; refine hK _ ?_; clear hK K
          refine wpHoist_load_run rfl tRDisk (.tmp 20) rfl _ LD20.out ?_
          repeat (refine wpHoist_step (fun K hK => ?_); simp only [hoists, sameUpon]; go_simp; refine hK _ ?_; clear hK K)
          refine wpHoist_nil ?_
          refine wpAnyI_one 3 0 _ _ rfl (by kernel_rfl) ?_
          refine wpList_store_abs rfl tRDisk (.tmp 9) (.tmp 165) rfl gw _ rfl rfl tRDisk C Z.out.2.2.1 infoRD (by rw [PMH.out.1.size]; rfl) (Z.out.2.2.2.2 _ _ _ _) ?_
          intro w7 HW7 HM7 HS7
          have HM7' : Moves (fun k => k = gw) w6 w7 := ⟨HM7.os, HM7.tape, HM7.output, HM7.size, HM7.block⟩
          have pmF := Z.out.1 w7 HM7' HS7 HW7.out
          have ndF := Z.out.2.1.stays Z.out.2.2.1 (by rw [PMH.out.1.size]; decide) HM7'
          refine wpList_nil ⟨rfl, fun h => absurd (by decide) h, by kernel_rfl, ?_⟩
          have wl1 := dAt_waits s r l (k + 1)
          rw [NXT.out] at wl1
          have IS := Lib.hid (is_c pmF.disk pmF.ref (by omega))
          have PF := Lib.hid (And.intro pmF ndF)
          clear HM7 HM7' HS7 HW7 pmF ndF LD20 ne6 wl1 Z A5
          go_wp2_with (first
            | (refine wpList_load_wanted (by go_simp) tRDisk (.tmp 9) rfl _ (run_loadAt_row PF.out.1.row Try.underlying42 rfl infoRD) ?_)
            | (go_at_call 30; refine IS.out.mono ?_; rintro e w8 ⟨rfl, hb8⟩))
          go_roundg (n - (k + 1))
          case measure => have := PMH.out.2.2.1; omega
          case rel =>
            refine ⟨k + 1, by go_num, by have := PMH.out.2.2.1; omega, ?_⟩
            rw [NXT.out]
            have h := PF.out.1
            have z := hb8.size
            exact ⟨p5, m5, _, _, rfl, ⟨h.below.trans (hb8.mono h.below.size), by have := h.new; omega, h.disk.below hb8, (hb8.block _ (lt_of_row h.row)).trans h.row, h.ref.keeps (fun k _ hl => hb8.block k hl) (fun _ hk _ => hk), h.size, fun k hk => by have := h.foot k hk; omega⟩, PF.out.2.below hb8⟩
      · obtain rfl : k = n := by omega
        have x := pm.disk
        have hb := pm.below
        have S1 := Lib.hid (same_right nd x)
        have S2 := Lib.hid (same_left nd x)
        have HB := Lib.hid hb
        have WK := Lib.hid (works_c wr)
        clear pm nd x hb hg
        go_wp2_with (first
          | (go_at_call 9; refine (num_c _ _).mono ?_; rintro e w' ⟨rfl, rfl⟩)
          | (go_at_call 29; (with_reducible refine S1.out.mono ?_); rintro e w' ⟨rfl, rfl⟩)
          | (go_at_call 29; (with_reducible refine S2.out.mono ?_); rintro e w' ⟨rfl, rfl⟩)
          | (go_at_call 7; refine WK.out.mono ?_; rintro e wq ⟨rfl, hbq⟩))
        go_ret
        exact ⟨rfl, HB.out.trans (hbq.mono HB.out.size)⟩

end Go.Proofs.Ytiefhmbpaoecfaa
