/-
  The chapter's rows.
  append onto a row of the call's own: where the row lies then.
  What stands between two calls of the stage's theorem, in memory.
-/
import Derived.Test.YtiefhmbpaoecfaaG09
import Derived.Test.YtiefhmbpaoecfaaG11
import Derived.Test.YtiefhmbpaoecfaaG21
import Derived.Test.YtiefhmbpaoecfaaG27
import Derived.Test.YtiefhmbpaoecfaaG28

namespace Go.Proofs.Ytiefhmbpaoecfaa
open Go.RowKit Dm

def hello : List UInt8 := [104, 101, 108, 108, 111]
def you : List UInt8 := [121, 111, 117, 33]
def hi : List UInt8 := [104, 105]
def you3 : List UInt8 := [121, 111, 117]
def d0 : D := Dm.new 2 8
def d1 : D := (d0.append 0 hello).1

def hiyo : List UInt8 := [104, 105, 121, 111]
def o1 : D := ((Dm.new 0 8).append 0 hi).1
def o2 : D := o1.sync.1
def o3 : D := (o2.append 0 you3).1
def o4 : D := (o3.stop 1).1
def o5 : D := (o4.append 2 [97]).1
def o6 : D := o5.sync.1

theorem left_as {w : World} {p m : Nat} {F : Nat → Prop} {r : D × Int} {f : Nat} {args : Array Value} (h : Calls Try.prog f args w (Left w p m F r)) (c : Int) (hc : r.2 = c) (d' : D) (hd : r.1 = d') :
    Calls Try.prog f args w fun e w' => e = .returned (.int .i64 c) ∧ Moves (fun k => k = p ∨ k = m) w w' ∧ DiskAt w'.heap p m d' (plus F w w') := by
  subst hc; subst hd
  exact h

/-- What the slots of the first region hold. -/
def kind2 : Nat → Kind
  | 0 | 4 | 8 | 10 | 13 => .ptr
  | 1 | 2 => .lit hello
  | 5 | 6 => .lit you
  | 11 => .lit zeros
  | 3 | 15 => .int 0
  | 7 | 16 => .int 280
  | 9 | 17 | 12 | 18 => .int 4
  | 14 | 19 => .int 2
  | _ => .free
def stage2 (L : Nat → Bool) : D := if L 3 then d1 else d0

abbrev J2 (w : World) (p m : Nat) := JD w p m kind2 stage2

theorem below_moves {w0 W W' : World} {p m : Nat} (hb : Below w0.heap.size w0 W) (h : Moves (fun k => k = p ∨ k = m) W W') (hp : w0.heap.size ≤ p) (hm : w0.heap.size ≤ m) : Below w0.heap.size w0 W' :=
  hb.trans ⟨h.os, h.tape, h.output, h.size, fun k hk => h.block k (by have := hb.size; omega) (by omega)⟩

theorem bytes_lit {h : Array Obj} {b : Nat} {F : Nat → Prop} {c : Array Value} {n : Nat} {fr : Nat × Nat} (l : List UInt8) (hr : h[b]? = some (.cells c tByte fr)) (hF : F b) (hc : c = (l.map bval).toArray) (hn : n = l.length) (hz : n ≤ 1000000) : BytesAt h F (.slice (some ⟨b, 0, none⟩) n n) l := by
  subst hc; subst hn
  exact Or.inr ⟨b, 0, l.length, _, tByte, fr, rfl, Nat.le_refl _, by omega, hF, hr, fun i x hi => by simp [hi]⟩

theorem kc (w : World) (C : Array Value) (n c : Nat) : (convert 36 36 (.slice (some ⟨w.heap.size, 0, none⟩) n c)).run Try.prog (w.alloc (.cells C 5)) = .ok (.slice (some ⟨w.heap.size, 0, none⟩) n c) (w.alloc (.cells C 5 (C.size, C.size + 1))) :=
  Lib.run_convert_bytes_const (P := Try.prog) w 36 5 C n c Try.underlying36 Try.underlying5

set_option maxRecDepth 100000 in
set_option maxHeartbeats 4000000 in
theorem works_c (w : World) : Calls Try.prog 7 #[] w fun e w' => e = .returned (.bool true) ∧ Below w.heap.size w w' := by
  have NW := Lib.hid (new_c 2 8 w rfl)
  go_enter Try.func7, Try.ntmps7
  go_upto_region 2 with (go_at_call 8; refine NW.out.mono ?_; rintro e w1 ⟨p, m, rfl, hb1, hp, hm, x1⟩)
  have lx := x1.lt
  have j0 : J2 w p m (fun _ => false) (fun _ => undef) w1.drew := ⟨hb1.drew, ⟨hp, hm⟩, fun k => k < w1.heap.size ∧ k ≠ p ∧ k ≠ m, x1.weak (fun k hk hl => ⟨hl, hk.2⟩) (fun h => h.2.1 rfl) (fun h => h.2.2 rfl), fun k hk => hk.1, fun k hk => by cases hk⟩
  clear hb1 hp hm x1 lx
  refine wp_region_joint _ (J2 w p m) (by kernel_rfl) rfl (by kernel_rfl) (fun L L' vals w hL h => h.ext (n := 20) hL (by unfold stage2; rw [hL 3 (by decide)]) (fun k hk => by match k, hk with | k + 20, _ => rfl)) j0 ?_ ?_
  · intro i o L vals a W hi hLi hd hl hj hs hold
    match i, hi with
    | 0, hi =>
      obtain rfl := Option.some.inj hi
      have h1 : a.tmps[1]? = some _ := hold 1 (by kernel_rfl)
      refine wpList_plain rfl fun K hK => ?_
      go_simp
      exact hK _ _ (wpList_nil ⟨rfl, _, rfl, hj.same 0 _ rfl (Or.inr (Or.inl ⟨rfl, rfl⟩))⟩)
    | 4, hi =>
      obtain rfl := Option.some.inj hi
      have h1 : a.tmps[1]? = some _ := hold 1 (by kernel_rfl)
      refine wpList_plain rfl fun K hK => ?_
      go_simp
      exact hK _ _ (wpList_nil ⟨rfl, _, rfl, hj.same 4 _ rfl (Or.inr (Or.inl ⟨rfl, rfl⟩))⟩)
    | 8, hi =>
      obtain rfl := Option.some.inj hi
      have h1 : a.tmps[1]? = some _ := hold 1 (by kernel_rfl)
      refine wpList_plain rfl fun K hK => ?_
      go_simp
      exact hK _ _ (wpList_nil ⟨rfl, _, rfl, hj.same 8 _ rfl (Or.inr (Or.inl ⟨rfl, rfl⟩))⟩)
    | 10, hi =>
      obtain rfl := Option.some.inj hi
      have h1 : a.tmps[1]? = some _ := hold 1 (by kernel_rfl)
      refine wpList_plain rfl fun K hK => ?_
      go_simp
      exact hK _ _ (wpList_nil ⟨rfl, _, rfl, hj.same 10 _ rfl (Or.inr (Or.inl ⟨rfl, rfl⟩))⟩)
    | 13, hi =>
      obtain rfl := Option.some.inj hi
      have h1 : a.tmps[1]? = some _ := hold 1 (by kernel_rfl)
      refine wpList_plain rfl fun K hK => ?_
      go_simp
      exact hK _ _ (wpList_nil ⟨rfl, _, rfl, hj.same 13 _ rfl (Or.inr (Or.inl ⟨rfl, rfl⟩))⟩)
    | 1, hi =>
      obtain rfl := Option.some.inj hi
      refine wpList_plain rfl fun K hK => ?_
      go_simp
      exact hK _ _ (wpList_nil ⟨rfl, _, rfl, hj.lit 1 hello _ _ rfl rfl rfl rfl (by decide)⟩)
    | 5, hi =>
      obtain rfl := Option.some.inj hi
      refine wpList_plain rfl fun K hK => ?_
      go_simp
      exact hK _ _ (wpList_nil ⟨rfl, _, rfl, hj.lit 5 you _ _ rfl rfl rfl rfl (by decide)⟩)
    | 2, hi =>
      obtain rfl := Option.some.inj hi
      have e1 := hs 1 _ 29 rfl rfl (hd 1 (by kernel_rfl))
      obtain ⟨W2, hcv, hj2⟩ := hj.conv 2 1 hello rfl rfl rfl (hd 1 (by kernel_rfl))
      refine wpList_plain rfl fun K hK => ?_
      go_simp
      exact hK _ _ (wpList_nil ⟨rfl, _, rfl, hj2⟩)
    | 6, hi =>
      obtain rfl := Option.some.inj hi
      have e1 := hs 5 _ 33 rfl rfl (hd 5 (by kernel_rfl))
      obtain ⟨W2, hcv, hj2⟩ := hj.conv 6 5 you rfl rfl rfl (hd 5 (by kernel_rfl))
      refine wpList_plain rfl fun K hK => ?_
      go_simp
      exact hK _ _ (wpList_nil ⟨rfl, _, rfl, hj2⟩)
    | 11, hi =>
      obtain rfl := Option.some.inj hi
      have hmk := mk256
      refine wpList_plain rfl fun K hK => ?_
      go_simp
      exact hK _ _ (wpList_nil ⟨rfl, _, rfl, hj.lit 11 zeros _ _ rfl rfl rfl zeros_cells.symm (by decide)⟩)
    | 3, hi =>
      obtain rfl := Option.some.inj hi
      have e0 := hs 0 _ 28 rfl rfl (hd 0 (by kernel_rfl))
      obtain ⟨F, x, hv, nx⟩ := hj.call
      rw [show vals 0 = _ from hv 0 (hd 0 (by kernel_rfl))] at e0
      have e2 := hs 2 _ 30 rfl rfl (hd 2 (by kernel_rfl))
      have y2 : BytesAt W.heap (fun k => k ≠ p ∧ k ≠ m) (vals 2) hello := (hv 2 (hd 2 (by kernel_rfl))).bytes
      rw [show stage2 L = d0 by unfold stage2; rw [hLi]; rfl] at x
      have CC := Lib.hid (append_c x 0 y2 (by decide) (by decide))
      have NX := Lib.hid nx
      clear hv nx x y2
      refine wpList_plain rfl fun K hK => ?_
      go_simp
      go_at_call 22
      refine CC.out.mono ?_
      rintro e W2 hL
      obtain rfl := hL.1
      exact hK _ _ (wpList_nil ⟨rfl, _, rfl, NX.out 3 _ _ _ hL rfl rfl⟩)
    | 7, hi =>
      obtain rfl := Option.some.inj hi
      have e0 := hs 4 _ 32 rfl rfl (hd 4 (by kernel_rfl))
      obtain ⟨F, x, hv, nx⟩ := hj.call
      rw [show vals 4 = _ from hv 4 (hd 4 (by kernel_rfl))] at e0
      have e2 := hs 6 _ 34 rfl rfl (hd 6 (by kernel_rfl))
      have y2 : BytesAt W.heap (fun k => k ≠ p ∧ k ≠ m) (vals 6) you := (hv 6 (hd 6 (by kernel_rfl))).bytes
      rw [show stage2 L = d1 by unfold stage2; rw [hd 3 (by kernel_rfl)]; rfl] at x
      have CC := Lib.hid (append_c x 1 y2 (by decide) (by decide))
      have NX := Lib.hid nx
      clear hv nx x y2
      refine wpList_plain rfl fun K hK => ?_
      go_simp
      go_at_call 22
      refine CC.out.mono ?_
      rintro e W2 hL
      obtain rfl := hL.1
      exact hK _ _ (wpList_nil ⟨rfl, _, rfl, NX.out 7 _ _ _ hL rfl (by unfold stage2; simp [hd 3 (by kernel_rfl)]; rfl)⟩)
    | 9, hi =>
      obtain rfl := Option.some.inj hi
      have e0 := hs 8 _ 36 rfl rfl (hd 8 (by kernel_rfl))
      obtain ⟨F, x, hv, nx⟩ := hj.call
      rw [show vals 8 = _ from hv 8 (hd 8 (by kernel_rfl))] at e0
      rw [show stage2 L = d1 by unfold stage2; rw [hd 3 (by kernel_rfl)]; rfl] at x
      have CC := Lib.hid (cut_c x 0 6 (by decide))
      have NX := Lib.hid nx
      clear hv nx x
      refine wpList_plain rfl fun K hK => ?_
      go_simp
      go_at_call 23
      refine CC.out.mono ?_
      rintro e W2 hL
      obtain rfl := hL.1
      exact hK _ _ (wpList_nil ⟨rfl, _, rfl, NX.out 9 _ _ _ hL rfl (by unfold stage2; simp [hd 3 (by kernel_rfl)]; rfl)⟩)
    | 12, hi =>
      obtain rfl := Option.some.inj hi
      have e0 := hs 10 _ 38 rfl rfl (hd 10 (by kernel_rfl))
      obtain ⟨F, x, hv, nx⟩ := hj.call
      rw [show vals 10 = _ from hv 10 (hd 10 (by kernel_rfl))] at e0
      have e2 := hs 11 _ 39 rfl rfl (hd 11 (by kernel_rfl))
      have y2 : BytesAt W.heap (fun k => k ≠ p ∧ k ≠ m) (vals 11) zeros := (hv 11 (hd 11 (by kernel_rfl))).bytes
      rw [show stage2 L = d1 by unfold stage2; rw [hd 3 (by kernel_rfl)]; rfl] at x
      have CC := Lib.hid (write_c x 2 y2 (by decide))
      have NX := Lib.hid nx
      clear hv nx x y2
      refine wpList_plain rfl fun K hK => ?_
      go_simp
      go_at_call 21
      refine CC.out.mono ?_
      rintro e W2 hL
      obtain rfl := hL.1
      exact hK _ _ (wpList_nil ⟨rfl, _, rfl, NX.out 12 _ _ _ hL rfl (by unfold stage2; simp [hd 3 (by kernel_rfl)]; rfl)⟩)
    | 14, hi =>
      obtain rfl := Option.some.inj hi
      have e0 := hs 13 _ 41 rfl rfl (hd 13 (by kernel_rfl))
      obtain ⟨F, x, hv, nx⟩ := hj.call
      rw [show vals 13 = _ from hv 13 (hd 13 (by kernel_rfl))] at e0
      rw [show stage2 L = d1 by unfold stage2; rw [hd 3 (by kernel_rfl)]; rfl] at x
      have CC := Lib.hid (write_c x 0 (Or.inl ⟨rfl, rfl⟩ : BytesAt W.heap (fun _ => True) (.slice none 0 0) []) (by decide))
      have NX := Lib.hid nx
      clear hv nx x
      refine wpList_plain rfl fun K hK => ?_
      go_simp
      go_at_call 21
      refine CC.out.mono ?_
      rintro e W2 hL
      obtain rfl := hL.1
      exact hK _ _ (wpList_nil ⟨rfl, _, rfl, NX.out 14 _ _ _ hL rfl (by unfold stage2; simp [hd 3 (by kernel_rfl)]; rfl)⟩)
    | 15, hi =>
      obtain rfl := Option.some.inj hi
      have e0 := hs 3 _ 31 rfl rfl (hd 3 (by kernel_rfl))
      obtain ⟨F, x, hv, nx⟩ := hj.call
      rw [show vals 3 = _ from hv 3 (hd 3 (by kernel_rfl))] at e0
      clear hv nx x
      refine wpList_plain rfl fun K hK => ?_
      go_simp
      exact hK _ _ (wpList_nil ⟨rfl, _, rfl, hj.same 15 _ rfl (Or.inr (Or.inr ⟨_, rfl, rfl⟩))⟩)
    | 16, hi =>
      obtain rfl := Option.some.inj hi
      have e0 := hs 7 _ 35 rfl rfl (hd 7 (by kernel_rfl))
      obtain ⟨F, x, hv, nx⟩ := hj.call
      rw [show vals 7 = _ from hv 7 (hd 7 (by kernel_rfl))] at e0
      clear hv nx x
      refine wpList_plain rfl fun K hK => ?_
      go_simp
      exact hK _ _ (wpList_nil ⟨rfl, _, rfl, hj.same 16 _ rfl (Or.inr (Or.inr ⟨_, rfl, rfl⟩))⟩)
    | 17, hi =>
      obtain rfl := Option.some.inj hi
      have e0 := hs 9 _ 37 rfl rfl (hd 9 (by kernel_rfl))
      obtain ⟨F, x, hv, nx⟩ := hj.call
      rw [show vals 9 = _ from hv 9 (hd 9 (by kernel_rfl))] at e0
      clear hv nx x
      refine wpList_plain rfl fun K hK => ?_
      go_simp
      exact hK _ _ (wpList_nil ⟨rfl, _, rfl, hj.same 17 _ rfl (Or.inr (Or.inr ⟨_, rfl, rfl⟩))⟩)
    | 18, hi =>
      obtain rfl := Option.some.inj hi
      have e0 := hs 12 _ 40 rfl rfl (hd 12 (by kernel_rfl))
      obtain ⟨F, x, hv, nx⟩ := hj.call
      rw [show vals 12 = _ from hv 12 (hd 12 (by kernel_rfl))] at e0
      clear hv nx x
      refine wpList_plain rfl fun K hK => ?_
      go_simp
      exact hK _ _ (wpList_nil ⟨rfl, _, rfl, hj.same 18 _ rfl (Or.inr (Or.inr ⟨_, rfl, rfl⟩))⟩)
    | 19, hi =>
      obtain rfl := Option.some.inj hi
      have e0 := hs 14 _ 42 rfl rfl (hd 14 (by kernel_rfl))
      obtain ⟨F, x, hv, nx⟩ := hj.call
      rw [show vals 14 = _ from hv 14 (hd 14 (by kernel_rfl))] at e0
      clear hv nx x
      refine wpList_plain rfl fun K hK => ?_
      go_simp
      exact hK _ _ (wpList_nil ⟨rfl, _, rfl, hj.same 19 _ rfl (Or.inr (Or.inr ⟨_, rfl, rfl⟩))⟩)
    | k + 20, hi => cases hi
  · intro vals W hj
    obtain ⟨F, x, hF, hv⟩ := hj.disk
    have q0 : vals 0 = _ := hv 0 rfl
    have q3 : vals 3 = _ := hv 3 rfl
    have q15 : vals 15 = _ := hv 15 rfl
    have q16 : vals 16 = _ := hv 16 rfl
    have q17 : vals 17 = _ := hv 17 rfl
    have q18 : vals 18 = _ := hv 18 rfl
    have q19 : vals 19 = _ := hv 19 rfl
    have X1 := Lib.hid hj.below
    clear hv hF x hj j0
    simp only [putL, Nat.zero_add, Nat.reduceAdd, q0, q3, q15, q16, q17, q18, q19]
    clear q0 q3 q15 q16 q17 q18 q19
    generalize vals 1 = u1
    generalize vals 2 = u2
    generalize vals 4 = u4
    generalize vals 5 = u5
    generalize vals 6 = u6
    generalize vals 7 = u7
    generalize vals 8 = u8
    generalize vals 9 = u9
    generalize vals 10 = u10
    generalize vals 11 = u11
    generalize vals 12 = u12
    generalize vals 13 = u13
    generalize vals 14 = u14
    go_simp
    have NO := Lib.hid (new_c 0 8 W rfl)
    go_upto_region 4 with (go_at_call 8; refine NO.out.mono ?_; rintro e w2 ⟨po, mo, rfl, hb2, hpo, hmo, x2⟩)
    have hcv := kc
    have hbA : Below w2.heap.size w2 (w2.alloc (.cells #[.int .u8 104, .int .u8 105] 5 (2, 3))) := (Below.refl _ _).alloc (Nat.le_refl _) _
    have CA := Lib.hid (left_as (append_c (x2.below hbA) 0 (bytes_lit hi (heap_alloc_last w2 (.cells #[.int .u8 104, .int .u8 105] 5 (2, 3))) (F := fun _ => True) trivial rfl rfl (by decide)) (by decide) (by decide)) 0 rfl o1 rfl)
    have X2 := Lib.hid (And.intro (hb2.trans (hbA.mono hb2.size)) (And.intro hpo hmo))
    clear hbA hb2 hpo hmo x2
    go_upto_region 5 with (first
      | (go_at_call 22; refine CA.out.mono ?_; rintro e w3 ⟨rfl, hm3, x3⟩
         have SY := Lib.hid (left_as (sync_c x3) 0 rfl o2 rfl)
         have X3 := Lib.hid (below_moves X2.out.1 hm3 X2.out.2.1 X2.out.2.2)
         clear hm3 x3 CA)
      | (go_at_call 24; refine SY.out.mono ?_; rintro e w4 ⟨rfl, hm4, x4⟩
         have X4 := Lib.hid (below_moves X3.out hm4 X2.out.2.1 X2.out.2.2)
         have hbB : Below w4.heap.size w4 (w4.alloc (.cells #[.int .u8 121, .int .u8 111, .int .u8 117] 5 (3, 4))) := (Below.refl _ _).alloc (Nat.le_refl _) _
         have CB := Lib.hid (left_as (append_c (x4.below hbB) 0 (bytes_lit you3 (heap_alloc_last w4 (.cells #[.int .u8 121, .int .u8 111, .int .u8 117] 5 (3, 4))) (F := fun _ => True) trivial rfl rfl (by decide)) (by decide) (by decide)) 0 rfl o3 rfl)
         have X5 := Lib.hid (X4.out.trans (hbB.mono X4.out.size))
         clear hm4 x4 SY hbB)
      | (go_at_call 22; refine CB.out.mono ?_; rintro e w5 ⟨rfl, hm5, x5⟩
         have X6 := Lib.hid (below_moves X5.out hm5 X2.out.2.1 X2.out.2.2)
         have CR := Lib.hid (crash_c (w := w5) x5 cNone (kv := .slice none 0 0) (Or.inl ⟨⟨_, _, rfl⟩, rfl⟩) (by decide) (by decide) (by decide) (by decide) (by decide))
         have X7 := Lib.hid x5
         clear hm5 x5 CB))
    go_upto_region 6 with (go_at_call 14; refine CR.out.mono ?_; rintro e w6 ⟨px, mx, Fx, rfl, hb6, hpx, hmx, x6, hFx⟩)
    have CS := Lib.hid (crash_c (w := w6) (X7.out.below hb6) ⟨[], 0, 2⟩ (kv := .slice none 0 0) (Or.inl ⟨⟨_, _, rfl⟩, rfl⟩) (by decide) (by decide) (by decide) (by decide) (by decide))
    have X8 := Lib.hid (And.intro hb6 x6)
    clear CR hb6 x6 hpx hmx hFx
    go_upto_region 7 with (go_at_call 14; refine CS.out.mono ?_; rintro e w7 ⟨py, my, Fy, rfl, hb7, hpy, hmy, x7, hFy⟩)
    have TX := Lib.hid (tape_c (X8.out.2.below hb7) 0)
    rw [if_neg (by decide), if_neg (by decide), show (o3.crash cNone).stand.tp 0 = hi from rfl] at TX
    have X9 := Lib.hid (And.intro hb7 x7)
    clear CS hb7 x7 hpy hmy hFy
    go_upto_region 8 with (go_at_call 19; refine TX.out.mono ?_; rintro e w8 ⟨s8, rfl, hb8, f8⟩)
    have TY := Lib.hid (tape_c (X9.out.2.below hb8) 0)
    rw [if_neg (by decide), if_neg (by decide), show (o3.crash ⟨[], 0, 2⟩).stand.tp 0 = hiyo from rfl] at TY
    have X10 := Lib.hid (And.intro hb8 f8)
    clear TX hb8 f8
    go_upto_region 9 with (go_at_call 19; refine TY.out.mono ?_; rintro e w9 ⟨s9, rfl, hb9, f9⟩)
    have hb59 := Lib.hid (X8.out.1.trans ((X9.out.1.trans ((X10.out.1.trans (hb9.mono X10.out.1.size)).mono X9.out.1.size)).mono X8.out.1.size))
    have ST := Lib.hid (left_as (stop_c (X7.out.below hb59.out) 1 (by decide)) 0 rfl o4 rfl)
    have X11 := Lib.hid (And.intro hb9 f9)
    clear TY hb9 f9
    go_upto_region 10 with (first
      | (go_at_call 25; refine ST.out.mono ?_; rintro e wa ⟨rfl, hma, xa⟩
         have hbC : Below wa.heap.size wa (wa.alloc (.cells #[.int .u8 97] 5 (1, 2))) := (Below.refl _ _).alloc (Nat.le_refl _) _
         have CC := Lib.hid (left_as (append_c (xa.below hbC) 2 (bytes_lit [97] (heap_alloc_last wa (.cells #[.int .u8 97] 5 (1, 2))) (F := fun _ => True) trivial rfl rfl (by decide)) (by decide) (by decide)) 0 rfl o5 rfl)
         have Xa := Lib.hid (below_moves (X6.out.trans (hb59.out.mono X6.out.size)) hma X2.out.2.1 X2.out.2.2)
         have Xb := Lib.hid (And.intro hma hbC)
         clear ST xa hma hbC)
      | (go_at_call 22; refine CC.out.mono ?_; rintro e wb ⟨rfl, hmb, xb⟩
         have SZ := Lib.hid (left_as (sync_c xb) 281 rfl o6 rfl)
         have Xc := Lib.hid hmb
         clear CC xb hmb)
      | (go_at_call 24; refine SZ.out.mono ?_; rintro e wc ⟨rfl, hmc, xc⟩
         have Xd := Lib.hid (And.intro hmc xc)
         clear SZ hmc xc))
    have DD := Lib.hid (dead_at po true wc Xd.out.2.cell16.1 Xd.out.2.cell16.2.2.2)
    have tot : Moves (fun k => k = po ∨ k = mo) w9 wc := ((Xb.out.1.trans (Moves.of_below Xb.out.2) (fun _ _ h => h)).trans Xc.out (fun _ _ h => h)).trans Xd.out.1 (fun _ _ h => h)
    have lo := X7.out.lt
    have z56 := X8.out.1.size
    have z67 := X9.out.1.size
    have z78 := X10.out.1.size
    have b8 : BytesAt wc.heap (fun _ => True) s8 hi := (X10.out.2.bytes.below X11.out.1).keeps (fun k hk hl => tot.block k hl (by have : w7.heap.size ≤ k := hk; omega)) (fun _ _ _ => trivial)
    have b9 : BytesAt wc.heap (fun _ => True) s9 hiyo := X11.out.2.bytes.keeps (fun k hk hl => tot.block k hl (by have : w8.heap.size ≤ k := hk; omega)) (fun _ _ _ => trivial)
    have fin : Below w.heap.size w wc := below_moves (X1.out.trans ((X6.out.trans (hb59.out.mono X6.out.size)).mono X1.out.size)) tot (by have := X1.out.size; have := X2.out.2.1; omega) (by have := X1.out.size; have := X2.out.2.2; omega)
    have c8 := run_string_of b8
    have c9 := run_string_of b9
    obtain ⟨a8, q8, rfl⟩ := b8.slice
    obtain ⟨a9, q9, rfl⟩ := b9.slice
    have FIN := Lib.hid fin
    clear b8 b9 tot lo z56 z67 z78 fin
    go_wp2_with (first
      | (go_at_call 9; refine (num_c _ _).mono ?_; rintro e w' ⟨rfl, rfl⟩)
      | (go_at_call 16; refine DD.out.mono ?_; rintro e w' ⟨rfl, rfl⟩))
    go_ret
    exact ⟨rfl, FIN.out⟩

end Go.Proofs.Ytiefhmbpaoecfaa

namespace Go.Proofs.Ytiefhmbpaoecfaa
open Go.RowKit

section
variable {P : Program}

theorem run_append_where (w : World) (base : Nat) (t ty e : TypeId) (i : TypeInfo) (z : Value) (size bytes : Nat) (ht : P.underlying t = some (.slice e)) (hi : P.info? e = some i) (hz : i.zero = some z)
    (hsize : i.size = size) (hby : i.bytes = bytes) (hzs : z.cells.size = size) (hsz : 0 < size)
    (v : Value) (n : Nat) (xs : List Value) (hown : w.ownsRow base e size v n xs)
    (a : Addr) (m c : Nat) (news : List Value) (hl : news.length = m * size) (hnews : ∀ j u, news[j]? = some u → w.cell? (a.add j) = some u) (h1 : ∀ u ∈ news, u.oneCell' = true)
    (h63 : n + m ≤ maxLen) (hbytes : (n + m) * bytes ≤ 140737488355328) (hbase : base ≤ w.heap.size) :
    ∃ v' w', (Builtin.append_ #[t, t] ty #[v, .slice (some a) m c]).run P w = .ok v' w' ∧ w'.ownsRow base e size v' (n + m) (xs ++ news) ∧ w.grownBy w' v.ownBlock ∧
      ∀ k, v'.ownBlock = some k → v.ownBlock = some k ∨ w.heap.size ≤ k := by
  obtain ⟨v', w', hr, h2, h3, h4⟩ := run_append_own (P := P) w base t ty e i z size bytes ht hi hz hsize hby hzs hsz v n xs hown a m c news hl hnews h1 h63 hbytes hbase
  refine ⟨v', w', hr, h2, h3, fun k hk => ?_⟩
  rcases hown.2 with ⟨rfl, rfl⟩ | ⟨g, cap, cur, rfl, hbg, hg, hnc, hcm, hcs, htake⟩
  · obtain ⟨v2, w2, hr2, g2, _, _⟩ := run_append_own (P := P) w w.heap.size t ty e i z size bytes ht hi hz hsize hby hzs hsz (.slice none 0 0) 0 xs ⟨hown.1, Or.inl ⟨rfl, rfl⟩⟩ a m c news hl hnews h1 h63 hbytes (Nat.le_refl _)
    rw [hr] at hr2
    obtain ⟨rfl, rfl⟩ : v' = v2 ∧ w' = w2 := by cases hr2; exact ⟨rfl, rfl⟩
    exact Or.inr (g2.lt k hk).1
  · subst hsize
    subst hby
    by_cases hroom : n + m ≤ cap
    · have hfit : n * i.size + news.length ≤ cur.size := by rw [hl, hcs, ← Nat.add_mul]; exact Nat.mul_le_mul_right _ hroom
      have hr2 := run_append_room (P := P) w t ty e i ht hi g n cap cur hg a m c news hl hnews h1 hroom hfit
      rw [hr] at hr2
      cases hr2
      exact Or.inl hk
    · have holds : ∀ j u, xs[j]? = some u → w.cell? ((⟨g, 0, none⟩ : Addr).add j) = some u := hown.cells (g := g) rfl
      have hr2 := run_append_grow (P := P) w t ty e i z ht hi hz ⟨g, 0, none⟩ n cap xs hown.1 holds a m c news hl hnews (by omega) (by unfold maxLen at h63; omega) (growslice_fits (by omega) hbytes)
      rw [hr] at hr2
      cases hr2
      simp only [Value.ownBlock, Option.some.injEq] at hk
      exact Or.inr (by omega)

theorem wpList_append_where {ops : Array Oper} {rest : List Oper} {o : Oper} {a : Act} {w : World} {Q : Exit → Act → World → Prop} (hgd : o.guard = none) (s x : Operand) (t : TypeId)
    (ho : o.op = .call { callee := .builtin .append, args := #[s, x], argTypes := #[t, t] })
    (base : Nat) (e : TypeId) (z : Value) (size bytes : Nat) (ht : P.underlying t = some (.slice e)) (hi : (P.info? e).map (fun i => (i.zero, i.size, i.bytes)) = some (some z, size, bytes))
    (hzs : z.cells.size = size) (hsz : 0 < size)
    (v : Value) (n : Nat) (xs : List Value) (hs : a.eval s = v) (hown : w.ownsRow base e size v n xs)
    (ad : Addr) (m c : Nat) (news : List Value) (hx : a.eval x = .slice (some ad) m c) (hl : news.length = m * size) (hnews : ∀ j u, news[j]? = some u → w.cell? (ad.add j) = some u) (h1 : ∀ u ∈ news, u.oneCell' = true)
    (h63 : n + m ≤ maxLen) (hbytes : (n + m) * bytes ≤ 140737488355328) (hbase : base ≤ w.heap.size)
    (h : ∀ v' w', Hid (w'.ownsRow base e size v' (n + m) (xs ++ news)) → Hid (w.grownBy w' v.ownBlock) → Hid (∀ k, v'.ownBlock = some k → v.ownBlock = some k ∨ w.heap.size ≤ k) → wpList P ops Q rest (a.put o.dst v') w') : wpList P ops Q (o :: rest) a w := by
  obtain ⟨i0, hi0, hz0, hz1, hz2⟩ := info_parts hi
  refine wpList_plain hgd fun K hK => ?_
  obtain ⟨v', w', hr, h2, h3, h4⟩ := run_append_where (P := P) w base t o.type e i0 z size bytes ht hi0 hz0 hz1 hz2 hzs hsz v n xs hown ad m c news hl hnews h1 h63 hbytes hbase
  unfold Oper.wp execOp
  simp only [ho, resolve, invoke, builtin, Sem.run_bind, Sem.run_pure, Result.andThen_ok, List.map_toArray, List.map_cons, List.map_nil, hs, hx, hr]
  exact hK _ _ (h v' w' h2 h3 h4)
end
end Go.Proofs.Ytiefhmbpaoecfaa

namespace Go.Proofs.Ytiefhmbpaoecfaa
open Go.RowKit Dm

theorem waits_c {p m : Nat} {d : D} {F : Nat → Prop} {w : World} (x : DiskAt w.heap p m d F) : Calls Try.prog 12 #[.pointer (some ⟨p, 0, none⟩)] w fun e w' => e = .returned (.int .i64 d.waits.length) ∧ w = w' := by
  have k16 := x.cell16.1
  obtain ⟨ok, t0, t1, t2, t3, ml, l0, l1, l2, l3, wv, stops, after, c1, c2, c3, c4, c5, c6, c7, c8, c9, b0, b1, b2, b3, b4, b5, b6, b7, st⟩ := x
  obtain ⟨a, c, rfl, _⟩ := st.slice
  exact waits_at p a d.waits.length c w k16 (row_cell c1 rfl)

/-- A disk that none of the blocks O touches. -/
def CopyAt (w : World) (O : Nat → Prop) (q : Nat) (e : D) : Prop := ∃ mq G, DiskAt w.heap q mq e G ∧ ∀ k, (k = q ∨ k = mq ∨ G k) → k < w.heap.size ∧ ¬ O k

theorem CopyAt.next {w w' : World} {O O' : Nat → Prop} {q : Nat} {e : D} (h : CopyAt w O q e) (hm : Moves O w w') (hO : ∀ k, O' k → O k ∨ w.heap.size ≤ k) : CopyAt w' O' q e := by
  obtain ⟨mq, G, x, hG⟩ := h
  have hz := hm.size
  refine ⟨mq, G, ?_, fun k hk => ⟨by have := (hG k hk).1; omega, fun ho => ?_⟩⟩
  · exact x.keeps (hm.block q (hG q (Or.inl rfl)).1 (hG q (Or.inl rfl)).2) (hm.block mq (hG mq (Or.inr (Or.inl rfl))).1 (hG mq (Or.inr (Or.inl rfl))).2) (fun k hk hl => hm.block k hl (hG k (Or.inr (Or.inr hk))).2) (fun k hk _ => hk) (fun k hk => Or.inl hk)
  · rcases hO k ho with h | h
    · exact (hG k hk).2 h
    · have := (hG k hk).1; omega

abbrev tPtr : Nat := 28
def ptrv (q : Nat) : Value := .pointer (some ⟨q, 0, none⟩)

/-- Blocks that are written. -/
def Ow (p m gw : Nat) (wv : Value) (k : Nat) : Prop := k = p ∨ k = m ∨ k = gw ∨ wv.ownBlock = some k

structure CMem (w wr : World) (p m gw : Nat) (d lasts : D) (was : List D) (lv wv : Value) : Prop where
  below : Below w.heap.size w wr
  new : w.heap.size ≤ p ∧ w.heap.size ≤ m ∧ w.heap.size ≤ gw ∧ gw < wr.heap.size ∧ gw ≠ p ∧ gw ≠ m
  disk : ∃ F C, DiskAt wr.heap p m d F ∧ wr.heap[gw]? = some (.cells C tRDisk (0, 0)) ∧ RefAt wr.heap F (.agg C) d ∧ C.size = 10 ∧ ∀ k, F k → k < wr.heap.size ∧ ¬ Ow p m gw wv k
  lasts : ∃ q, lv = ptrv q ∧ CopyAt wr (Ow p m gw wv) q lasts
  was : ∃ qs : List Nat, qs.length = was.length ∧ wr.ownsRow w.heap.size tPtr 1 wv qs.length (qs.map ptrv) ∧ ∀ (i q : Nat) (e : D), qs[i]? = some q → was[i]? = some e → CopyAt wr (Ow p m gw wv) q e
  apart : ∀ k, wv.ownBlock = some k → k ≠ p ∧ k ≠ m ∧ k ≠ gw

section
variable {w wr : World} {p m gw : Nat} {d lasts : D} {was : List D} {lv wv : Value}

theorem owns_by {X Y : World} {O : Nat → Prop} {base : Nat} {e : TypeId} {size n : Nat} {v : Value} {xs : List Value} (h : X.ownsRow base e size v n xs) (hm : Moves O X Y) (ho : ∀ k, v.ownBlock = some k → ¬ O k) : Y.ownsRow base e size v n xs := by
  obtain ⟨h0, h⟩ := h
  refine ⟨h0, ?_⟩
  rcases h with h | ⟨g, cap, cur, h1, h2, h3, h4, h5, h6, h7⟩
  · exact Or.inl h
  · exact Or.inr ⟨g, cap, cur, h1, h2, (hm.block g (lt_of_row h3) (ho g (by rw [h1]; rfl))).trans h3, h4, h5, h6, h7⟩

/-- Calls that only make memory. -/
theorem CMem.grow (h : CMem w wr p m gw d lasts was lv wv) {wr' : World} (hb : Below wr.heap.size wr wr') : CMem w wr' p m gw d lasts was lv wv := by
  have hz := hb.size
  have hm : Moves (Ow p m gw wv) wr wr' := Moves.of_below hb
  obtain ⟨F, C, x, hc, hr, hs, hF⟩ := h.disk
  refine ⟨h.below.trans (hb.mono h.below.size), by have := h.new; omega, ⟨F, C, x.below hb, (hb.block gw (by have := h.new; omega)).trans hc, hr.keeps (fun k _ hl => hb.block k hl) (fun k hk _ => hk), hs, fun k hk => ⟨by have := (hF k hk).1; omega, (hF k hk).2⟩⟩, ?_, ?_, h.apart⟩
  · obtain ⟨q, e, c⟩ := h.lasts
    exact ⟨q, e, c.next hm (fun k hk => Or.inl hk)⟩
  · obtain ⟨qs, e, ro, c⟩ := h.was
    exact ⟨qs, e, owns_below ro hb (Nat.le_refl _), fun i q e h1 h2 => (c i q e h1 h2).next hm (fun k hk => Or.inl hk)⟩

/-- A call of the law has been done, and its answer stored. -/
theorem CMem.acted (h : CMem w wr p m gw d lasts was lv wv) {F F' : Nat → Prop} {C' : Array Value} {d' : D} {w1 w2 : World} (hF : ∀ k, F k → k < wr.heap.size ∧ ¬ Ow p m gw wv k)
    (mv : Moves (fun k => k = p ∨ k = m) wr w1) (x : DiskAt w1.heap p m d' F') (hr : RefAt w1.heap F' (.agg C') d') (hF' : ∀ k, F' k → (F k ∧ k < wr.heap.size) ∨ (wr.heap.size ≤ k ∧ k < w1.heap.size))
    (hm : Moves (fun k => k = gw) w1 w2) (hz2 : w2.heap.size = w1.heap.size) (hw : w2.heap[gw]? = some (.cells C' tRDisk (0, 0))) (hs : C'.size = 10) : CMem w w2 p m gw d' lasts was lv wv := by
  have hz := mv.size
  obtain ⟨n1, n2, n3, n4, n5, n6⟩ := h.new
  have hzb := h.below.size
  have tot : Moves (Ow p m gw wv) wr w2 := (mv.mono (O' := Ow p m gw wv) (fun k hk => by rcases hk with e | e; exact Or.inl e; exact Or.inr (Or.inl e))).trans hm (fun k _ hk => Or.inr (Or.inr (Or.inl hk)))
  have hF2 : ∀ k, F' k → k < w2.heap.size ∧ ¬ Ow p m gw wv k := fun k hk => by
    rcases hF' k hk with h1 | h1
    · exact ⟨by omega, (hF k h1.1).2⟩
    · refine ⟨by omega, fun ho => ?_⟩
      have lx := x.lt
      rcases ho with e | e | e | e
      · exact lx.2.2.2.1 (e ▸ hk)
      · exact lx.2.2.2.2 (e ▸ hk)
      · omega
      · obtain ⟨qs, _, ro, _⟩ := h.was
        have := (ro.lt k e).2
        omega
  have hne : ∀ k, F' k → k ≠ gw := fun k hk e => (hF2 k hk).2 (Or.inr (Or.inr (Or.inl e)))
  have lx := x.lt
  refine ⟨h.below.trans ⟨tot.os, tot.tape, tot.output, tot.size, fun k hk => tot.block k (by omega) (fun ho => ?_)⟩, ⟨n1, n2, n3, by omega, n5, n6⟩, ⟨F', C', ?_, hw, ?_, hs, hF2⟩, ?_, ?_, h.apart⟩
  · rcases ho with e | e | e | e
    · omega
    · omega
    · omega
    · obtain ⟨qs, _, ro, _⟩ := h.was
      have := (ro.lt k e).1
      omega
  · exact x.keeps (hm.block p lx.1 (Ne.symm n5)) (hm.block m lx.2.1 (Ne.symm n6)) (fun k hk hl => hm.block k hl (hne k hk)) (fun k hk _ => hk) (fun k hk => Or.inl hk)
  · exact hr.keeps (fun k hk hl => hm.block k hl (hne k hk)) (fun k hk _ => hk)
  · obtain ⟨q, e, c⟩ := h.lasts
    exact ⟨q, e, c.next tot (fun k hk => Or.inl hk)⟩
  · obtain ⟨qs, e, ro, c⟩ := h.was
    refine ⟨qs, e, ?_, fun i q e h1 h2 => (c i q e h1 h2).next tot (fun k hk => Or.inl hk)⟩
    refine owns_by (O := fun k => k = p ∨ k = m ∨ k = gw) ro ?_ (fun k hk ho => by have := h.apart k hk; omega)
    exact (mv.mono (O' := fun k => k = p ∨ k = m ∨ k = gw) (fun k hk => by rcases hk with e | e; exact Or.inl e; exact Or.inr (Or.inl e))).trans hm (fun k _ hk => Or.inr (Or.inr hk))

/-- A copy is nothing that is written. -/
theorem copy_at {w1 : World} {F : Nat → Prop} {m' : Nat} (x : DiskAt wr.heap p m d F) (hF : ∀ k, F k → k < wr.heap.size ∧ ¬ Ow p m gw wv k) (hb : Below wr.heap.size wr w1) (hm' : wr.heap.size ≤ m')
    (x1 : DiskAt w1.heap wr.heap.size m' d (CopyF F wr w1 wr.heap.size m')) {O : Nat → Prop} (hO : ∀ k, O k → Ow p m gw wv k ∨ w1.heap.size ≤ k) (hlt : ∀ k, Ow p m gw wv k → k < wr.heap.size) : CopyAt w1 O wr.heap.size d := by
  have l1 := x1.lt
  have hz := hb.size
  refine ⟨m', _, x1, fun k hk => ?_⟩
  have key : wr.heap.size ≤ k → k < w1.heap.size → ¬ O k := fun h1 h2 ho => by
    rcases hO k ho with h | h
    · have := hlt k h; omega
    · omega
  rcases hk with e | e | e
  · subst e; exact ⟨l1.1, key (Nat.le_refl _) l1.1⟩
  · subst e; exact ⟨l1.2.1, key hm' l1.2.1⟩
  · rcases e with e | e
    · refine ⟨by omega, fun ho => ?_⟩
      rcases hO k ho with h | h
      · exact (hF k e.1).2 h
      · omega
    · exact ⟨e.2.1, key e.1 e.2.1⟩

theorem CMem.olt (h : CMem w wr p m gw d lasts was lv wv) : ∀ k, Ow p m gw wv k → k < wr.heap.size := by
  obtain ⟨F, C, x, _⟩ := h.disk
  have lx := x.lt
  intro k hk
  rcases hk with e | e | e | e
  · omega
  · omega
  · have := h.new; omega
  · obtain ⟨qs, _, ro, _⟩ := h.was
    exact (ro.lt k e).2

/-- All lasts: a copy, and no list. -/
theorem CMem.synced (h : CMem w wr p m gw d lasts was lv wv) {F : Nat → Prop} (x : DiskAt wr.heap p m d F) (hF : ∀ k, F k → k < wr.heap.size ∧ ¬ Ow p m gw wv k) {w1 : World} {m' : Nat} (hb : Below wr.heap.size wr w1) (hm' : wr.heap.size ≤ m')
    (x1 : DiskAt w1.heap wr.heap.size m' d (CopyF F wr w1 wr.heap.size m')) : CMem w w1 p m gw d d [] (ptrv wr.heap.size) (.slice none 0 0) := by
  have hg := h.grow hb
  have hsub : ∀ k, Ow p m gw (.slice none 0 0) k → Ow p m gw wv k := fun k hk => by
    rcases hk with e | e | e | e
    · exact Or.inl e
    · exact Or.inr (Or.inl e)
    · exact Or.inr (Or.inr (Or.inl e))
    · cases e
  obtain ⟨F1, C, y, hc, hr, hs, hF1⟩ := hg.disk
  refine ⟨hg.below, hg.new, ⟨F1, C, y, hc, hr, hs, fun k hk => ⟨(hF1 k hk).1, fun ho => (hF1 k hk).2 (hsub k ho)⟩⟩, ⟨_, rfl, copy_at x hF hb hm' x1 (fun k hk => Or.inl (hsub k hk)) h.olt⟩, ⟨[], rfl, ⟨rfl, Or.inl ⟨rfl, rfl⟩⟩, fun i q e h1 _ => by simp at h1⟩, fun k hk => by cases hk⟩

/-- Another step waits: a copy, behind the others. -/
theorem CMem.pushed (h : CMem w wr p m gw d lasts was lv wv) {F : Nat → Prop} (x : DiskAt wr.heap p m d F) (hF : ∀ k, F k → k < wr.heap.size ∧ ¬ Ow p m gw wv k) {w1 w2 w3 : World} {m' : Nat} (hb : Below wr.heap.size wr w1) (hm' : wr.heap.size ≤ m')
    (x1 : DiskAt w1.heap wr.heap.size m' d (CopyF F wr w1 wr.heap.size m')) (hb2 : Below w1.heap.size w1 w2) {qs : List Nat} (hq : qs.length = was.length)
    (hqs : ∀ (i q : Nat) (e : D), qs[i]? = some q → was[i]? = some e → CopyAt wr (Ow p m gw wv) q e) {wv' : Value}
    (ro : w3.ownsRow w.heap.size tPtr 1 wv' (qs.length + 1) (qs.map ptrv ++ [ptrv wr.heap.size])) (hg : w2.grownBy w3 wv.ownBlock) (hwh : ∀ k, wv'.ownBlock = some k → wv.ownBlock = some k ∨ w2.heap.size ≤ k) : CMem w w3 p m gw d lasts (was ++ [d]) lv wv' := by
  have h2 := (h.grow hb).grow hb2
  have hz := hb.size
  have hz2 := hb2.size
  have hm3 : Moves (Ow p m gw wv) w2 w3 := ⟨hg.os, hg.tape, hg.output, hg.size, fun k hk hn => hg.block k hk (fun e => hn (Or.inr (Or.inr (Or.inr e.symm))))⟩
  have hO : ∀ k, Ow p m gw wv' k → Ow p m gw wv k ∨ w2.heap.size ≤ k := fun k hk => by
    rcases hk with e | e | e | e
    · exact Or.inl (Or.inl e)
    · exact Or.inl (Or.inr (Or.inl e))
    · exact Or.inl (Or.inr (Or.inr (Or.inl e)))
    · rcases hwh k e with e | e
      · exact Or.inl (Or.inr (Or.inr (Or.inr e)))
      · exact Or.inr e
  have hap : ∀ k, wv.ownBlock = some k → k ≠ p ∧ k ≠ m ∧ k ≠ gw := h.apart
  obtain ⟨F1, C, y, hc, hr, hs, hF1⟩ := h2.disk
  have ly := y.lt
  have lz := hg.size
  obtain ⟨n1, n2, n3, n4, n5, n6⟩ := h2.new
  refine ⟨h2.below.grown hg h2.below.size (fun k e => ?_), ⟨n1, n2, n3, by omega, n5, n6⟩, ⟨F1, C, ?_, ?_, ?_, hs, fun k hk => ⟨by have := (hF1 k hk).1; omega, fun ho => ?_⟩⟩, ?_, ⟨qs ++ [wr.heap.size], by simp [hq], by simpa using ro, fun i q e h3 h4 => ?_⟩, fun k hk => ?_⟩
  · obtain ⟨qs', _, ro', _⟩ := h2.was
    exact (ro'.lt k e).1
  · exact y.keeps (hg.block p ly.1 (fun e => (hap p e.symm).1 rfl)) (hg.block m ly.2.1 (fun e => (hap m e.symm).2.1 rfl)) (fun k hk hl => hg.block k hl (fun e => (hF1 k hk).2 (Or.inr (Or.inr (Or.inr e.symm))))) (fun k hk _ => hk) (fun k hk => Or.inl hk)
  · exact (hg.block gw n4 (fun e => (hap gw e.symm).2.2 rfl)).trans hc
  · exact hr.keeps (fun k hk hl => hg.block k hl (fun e => (hF1 k hk).2 (Or.inr (Or.inr (Or.inr e.symm))))) (fun k hk _ => hk)
  · rcases hO k ho with h5 | h5
    · exact (hF1 k hk).2 h5
    · have := (hF1 k hk).1; omega
  · obtain ⟨q, e, c⟩ := h2.lasts
    exact ⟨q, e, c.next hm3 hO⟩
  · by_cases hi : i < qs.length
    · rw [List.getElem?_append_left hi] at h3
      rw [List.getElem?_append_left (by omega)] at h4
      have c0 := hqs i q e h3 h4
      exact ((c0.next (Moves.of_below (hb.trans (hb2.mono hz))) (fun k hk => Or.inl hk)).next hm3 hO)
    · have hlt := (List.getElem?_eq_some_iff.1 h3).1
      simp at hlt
      obtain rfl : i = qs.length := by omega
      have e1 : q = wr.heap.size := by simpa using h3.symm
      have e2 : e = d := by rw [hq] at h4; simpa using h4.symm
      subst e1; subst e2
      have c1 := copy_at x hF hb hm' x1 (O := Ow p m gw wv) (fun k hk => Or.inl hk) h.olt
      exact ((c1.next (Moves.of_below hb2) (fun k hk => Or.inl hk)).next hm3 hO)
  · rcases hwh k hk with e | e
    · exact hap k e
    · omega
end

/-- The states of the law. -/
def CS.act (x : CS) (y : ActM) : CS := if y.what = 5 then x else x.next (actD x.d y)
def cs0 : CS := ⟨Dm.new 8 600, Dm.new 8 600, []⟩
def csAt (l : List ActM) (k : Nat) : CS := (l.take k).foldl CS.act cs0

theorem csAt_succ {l : List ActM} {k : Nat} {y : ActM} (h : l[k]? = some y) : csAt l (k + 1) = (csAt l k).act y := by
  unfold csAt
  have hl := (List.getElem?_eq_some_iff.1 h).1
  rw [List.take_succ_eq_append_getElem hl, List.foldl_append, (List.getElem?_eq_some_iff.1 h).2]
  rfl

theorem csAt_inv (l : List ActM) (k : Nat) : (csAt l k).Inv := by
  unfold csAt
  generalize l.take k = l
  have : ∀ (l : List ActM) (x : CS), x.Inv → (l.foldl CS.act x).Inv := by
    intro l
    induction l with
    | nil => exact fun x h => h
    | cons y l ih =>
      intro x h
      refine ih _ ?_
      unfold CS.act
      split
      · exact h
      · exact h.next (act_shape _ _)
  exact this l cs0 ⟨rfl, rfl, (fun e he => by cases he), rfl, rfl, fun k e he => by simp [cs0] at he⟩

theorem act_waits (d : D) (y : ActM) : (actD d y).waits.length ≤ d.waits.length + 1 := by
  rcases (act_shape d y).2 with ⟨e, _⟩ | ⟨s, e, _⟩ | e
  · rw [e]; omega
  · rw [e]; simp
  · rw [e]; simp

theorem csAt_waits (l : List ActM) : ∀ k, (csAt l k).d.waits.length ≤ k
  | 0 => by simp [csAt, cs0, Dm.new]
  | k + 1 => by
    have ih := csAt_waits l k
    by_cases h : k < l.length
    · rw [csAt_succ (List.getElem?_eq_getElem h)]
      unfold CS.act
      split
      · omega
      · have := act_waits (csAt l k).d l[k]
        unfold CS.next
        split
        · show (actD _ _).waits.length ≤ _; omega
        · split
          · show (actD _ _).waits.length ≤ _; omega
          · show (actD _ _).waits.length ≤ _; omega
    · have : csAt l (k + 1) = csAt l k := by unfold csAt; rw [List.take_of_length_le (by omega), List.take_of_length_le (by omega)]
      rw [this]; omega

theorem CS.knownS_succ (x : CS) (b : List UInt8) (s : Int) {k : Nat} {e : D} (h : x.was[k]? = some e) : x.knownS b s (k + 1) = (x.knownS b s k || (e.stand.sec s == b)) := by
  have hl := (List.getElem?_eq_some_iff.1 h).1
  unfold CS.knownS
  rw [List.take_succ_eq_append_getElem hl, (List.getElem?_eq_some_iff.1 h).2, List.any_append]
  simp [Bool.or_assoc]

theorem CS.knownT_succ (x : CS) (b : List UInt8) (s : Int) {k : Nat} {e : D} (h : x.was[k]? = some e) : x.knownT b s (k + 1) = (x.knownT b s k || preB (e.stand.tp s) b) := by
  have hl := (List.getElem?_eq_some_iff.1 h).1
  unfold CS.knownT
  rw [List.take_succ_eq_append_getElem hl, (List.getElem?_eq_some_iff.1 h).2, List.any_append]
  simp [Bool.or_assoc]

def CS.tornN (x : CS) (c : Crash) (n : Nat) : Nat := ((List.range n).filter (fun s : Nat => !x.knownS ((x.d.crash c).stand.sec (s : Int)) (s : Int) x.was.length)).length

theorem CS.tornN_succ (x : CS) (c : Crash) (n : Nat) : x.tornN c (n + 1) = x.tornN c n + if x.knownS ((x.d.crash c).stand.sec (n : Int)) (n : Int) x.was.length then 0 else 1 := by
  unfold CS.tornN
  rw [List.range_succ, List.filter_append, List.length_append]
  congr 1
  rw [List.filter_cons]
  cases x.knownS ((x.d.crash c).stand.sec (n : Int)) (n : Int) x.was.length <;> simp

/-- What the rest of the law reads. -/
structure CEnd (W0 wr : World) (p : Nat) (x : CS) (lv : Value) (a : Option Addr) (cap : Nat) : Prop where
  below : Below W0.heap.size W0 wr
  inv : x.Inv
  ok : x.d.ok
  disk : ∃ m F, DiskAt wr.heap p m x.d F
  lasts : ∃ q mq G, lv = .pointer (some ⟨q, 0, none⟩) ∧ DiskAt wr.heap q mq x.lasts G
  was : ∀ (i : Nat) (e : D), x.was[i]? = some e → ∃ g q mq G, a = some ⟨g, 0, none⟩ ∧ g < wr.heap.size ∧ wr.cell? ⟨g, i, none⟩ = some (.pointer (some ⟨q, 0, none⟩)) ∧ DiskAt wr.heap q mq e G

theorem CMem.cend {w wr : World} {p m gw : Nat} {x : CS} {lv wv : Value} (h : CMem w wr p m gw x.d x.lasts x.was lv wv) (hi : x.Inv) : ∃ a cap, wv = .slice a x.was.length cap ∧ CEnd w wr p x lv a cap := by
  obtain ⟨F, C, xd, _⟩ := h.disk
  obtain ⟨q, e7, mq, G, xl, _⟩ := h.lasts
  obtain ⟨qs, hq, ro, hqs⟩ := h.was
  have hv : ∃ a cap, wv = .slice a x.was.length cap ∧ ∀ i, i < qs.length → ∃ g, a = some ⟨g, 0, none⟩ ∧ g < wr.heap.size ∧ ∀ q, qs[i]? = some q → wr.cell? ⟨g, i, none⟩ = some (ptrv q) := by
    obtain ⟨h0, ro⟩ := ro
    rcases ro with ⟨e, hz⟩ | ⟨g, cap, cur, h1, h2, h3, h4, h5, h6, h7⟩
    · exact ⟨none, 0, by rw [e, ← hq, hz], fun i hi => by omega⟩
    · refine ⟨some ⟨g, 0, none⟩, cap, by rw [h1, hq], fun i hi => ⟨g, rfl, lt_of_row h3, fun q hqi => ?_⟩⟩
      rw [cell_of_row _ _ _ _ _ _ h3]
      have e : (cur.toList.take (qs.length * 1))[i]? = some (ptrv q) := by rw [h7]; simp [hqi]
      rw [List.getElem?_take, if_pos (by omega)] at e
      simpa using e
  obtain ⟨a, cap, rfl, hc⟩ := hv
  refine ⟨a, cap, rfl, h.below, hi, xd.ok, ⟨_, _, xd⟩, ⟨q, mq, G, e7, xl⟩, fun i e he => ?_⟩
  have hlt : i < qs.length := by rw [hq]; exact (List.getElem?_eq_some_iff.1 he).1
  obtain ⟨g, e1, e2, e3⟩ := hc i hlt
  obtain ⟨mq', G', x', _⟩ := hqs i qs[i] e (List.getElem?_eq_getElem hlt) he
  exact ⟨g, qs[i], mq', G', e1, e2, e3 _ (List.getElem?_eq_getElem hlt), x'⟩

theorem dead_c {p m : Nat} {d : D} {F : Nat → Prop} {w : World} (x : DiskAt w.heap p m d F) : Calls Try.prog 16 #[.pointer (some ⟨p, 0, none⟩)] w fun e w' => e = .returned (.bool d.dead) ∧ w = w' :=
  dead_at p d.dead w x.cell16.1 x.cell16.2.2.2

end Go.Proofs.Ytiefhmbpaoecfaa
