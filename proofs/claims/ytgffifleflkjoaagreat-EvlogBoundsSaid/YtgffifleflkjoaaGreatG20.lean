/-
  evlog: the chapter's rows.
  evlog: append onto changes of one's own.
  evlog: the bounds, plain.
  evlog: the bounds: no bound is asked; a key.
  evlog: the bounds of a key and of a value.
  evlog: the bound of a batch's changes.
-/
import Derived.Test.YtgffifleflkjoaaGreatG09
import Derived.Test.YtgffifleflkjoaaGreatG13
import Derived.Test.YtgffifleflkjoaaGreatG19

namespace Go.Proofs.YtgffifleflkjoaaGreat
open Go.RowKit Dm

abbrev chg (c : Em.Change) : Value := .agg #[strOfB c.key, strOfB c.value, .bool c.gone]

/-- What the slots of the statement hold. -/
def kind7 (pl : Nat) : Nat → KindW
  | 0 | 4 | 8 => .val (.pointer (some ⟨pl, 0, none⟩))
  | 1 => .val (chg ⟨[], [], false⟩)
  | 5 => .val (chg ⟨[97], [49], true⟩)
  | 11 => .val (chg ⟨Em.z65, [], false⟩)
  | 2 => .chg Em.b1
  | 6 => .chg Em.b2
  | 12 => .chg Em.b3
  | 9 => .byt Em.z65
  | 10 => .val (strOfB Em.z65)
  | 3 | 14 => .val (.int .i64 2)
  | 7 | 15 => .val (.int .i64 2)
  | 13 | 16 => .val (.int .i64 3)
  | _ => .free

theorem below_plm {w0 W W' : World} {pl pd md : Nat} (hb : Below w0.heap.size w0 W) (h : Moves (PLM pl pd md) W W') (h1 : w0.heap.size ≤ pl) (h2 : w0.heap.size ≤ pd) (h3 : w0.heap.size ≤ md) : Below w0.heap.size w0 W' :=
  hb.trans ⟨h.os, h.tape, h.output, h.size, fun k hk => h.block k (by have := hb.size; omega) (fun e => by rcases e with e | e | e <;> omega)⟩

theorem below_pm {w0 W W' : World} {pd md : Nat} (hb : Below w0.heap.size w0 W) (h : Moves (PM pd md) W W') (h2 : w0.heap.size ≤ pd) (h3 : w0.heap.size ≤ md) : Below w0.heap.size w0 W' :=
  hb.trans ⟨h.os, h.tape, h.output, h.size, fun k hk => h.block k (by have := hb.size; omega) (fun e => by rcases e with e | e <;> omega)⟩

theorem below_more {w0 W W' : World} (hb : Below w0.heap.size w0 W) (h : Below W.heap.size W W') : Below w0.heap.size w0 W' := hb.trans (h.mono hb.size)

set_option maxRecDepth 100000 in
set_option maxHeartbeats 4000000 in
theorem works19_c (w : World) : Calls Tryz.prog 8 #[] w fun e w' => e = .returned (.bool true) ∧ Below w.heap.size w w' := by
  have NW := Lib.hid (new_c 4 4000 w rfl)
  go_enter Tryz.func8, Tryz.ntmps8
  go_upto_region 2 with (go_at_call 9; refine NW.out.mono ?_; rintro e w1 ⟨p, m, rfl, hb1, hp, hm, x1⟩)
  have lx := x1.lt
  have x1 : DiskAt w1.heap p m (Dm.new 4 4000) (fun k => k < w1.heap.size ∧ k ≠ p ∧ k ≠ m) := x1.weak (fun k hk hl => ⟨hl, hk.2⟩) (fun h => h.2.1 rfl) (fun h => h.2.2 rfl)
  obtain ⟨q1, q2, q3, q4, q5⟩ := Em.begun_fine (s := 4) (room := 4000) (by decide)
  have OC := Lib.hid (open_c (ts := fun _ => Em.T.none) x1 (by show 0 ≤ _; decide) (fun i h => h.1) (fun k _ => reads_nil k) rfl)
  have H1 := Lib.hid (And.intro hb1 (And.intro hp hm))
  clear hb1 hp hm x1 lx NW
  go_upto_region 3 with (go_at_call 10; refine OC.out.mono ?_; rintro e w2 ⟨m2, o2, _⟩; obtain ⟨pl, F2, rfl, x2, hpl, hF2, _⟩ := o2 q1)
  have H2 := Lib.hid (And.intro m2 (And.intro hpl hF2))
  clear m2 o2 hpl hF2 OC
  obtain ⟨E0, hE0⟩ : ∃ E0, (Em.begun (Dm.new 4 4000)).1 = E0 := ⟨_, rfl⟩
  rw [show ((4000 : Nat) : Int) = 4000 from rfl] at q2 q3 q4 q5
  rw [hE0] at x2 q2 q3 q4 q5
  clear hE0 q1
  have ba : ∀ c, Below w2.heap.size w2 (w2.alloc c) := fun c => (Below.refl _ _).alloc (Nat.le_refl _) c
  obtain ⟨r1, r2, r3, r4, r5⟩ := q2.commit (l := Em.l1) (by rw [q3]; exact Em.l1_done) (by have := Em.l1_len; omega) (by omega) (by have := Em.l1_len; omega)
  have CC := commit_c (log_below x2 (ba _)) (by rw [q2.disk.waits]; decide) (changes_row (heap_alloc_last w2 (.cells #[.string ⟨#[97]⟩, .string ⟨#[49]⟩, .bool false, .string ⟨#[98]⟩, .string ⟨#[50]⟩, .bool false, .string ⟨#[97]⟩, .string ⟨#[]⟩, .bool true] tChange)) (F := fun _ => True) (l := Em.l1) (cap := 3) trivial (by decide) (by decide) rfl) (by decide) (by decide)
  have CC := Lib.hid CC
  have L5 := Em.l1_len
  rw [q3] at r3
  have H3 := Lib.hid (And.intro (below_more (below_pm H1.out.1 H2.out.1 H1.out.2.1 H1.out.2.2) (ba (.cells #[.string ⟨#[97]⟩, .string ⟨#[49]⟩, .bool false, .string ⟨#[98]⟩, .string ⟨#[50]⟩, .bool false, .string ⟨#[97]⟩, .string ⟨#[]⟩, .bool true] tChange))) (show w.heap.size ≤ pl from Nat.le_trans H1.out.1.size H2.out.2.1))
  generalize hE1 : Em.E.commit E0 Em.l1 = R1 at *
  clear x2 q3 ba
  go_upto_region 4 with (go_at_call 11; refine CC.out.mono ?_; rintro e w3 ⟨rfl, m3, x3⟩
                         have B3 := below_plm H3.out.1 m3 H3.out.2 H1.out.2.1 H1.out.2.2
                         clear m3)
  obtain ⟨F3, x3⟩ : ∃ F3, LogAt w3 pl p m R1.1 F3 := ⟨_, x3⟩
  obtain ⟨E1, hE⟩ : ∃ E1, R1.1 = E1 := ⟨_, rfl⟩
  rw [hE] at x3 r2 r3 r4 r5
  clear hE hE1 CC r1
  have r3 : E1.rows = Em.D1 := r3
  have LC := len_c x3
  have GC := gen_c x3
  have GB := get_c x3 [98] (by decide)
  have GA := get_c x3 [97] (by decide)
  rw [r3, Em.D1_size] at LC
  rw [r2.gen] at GC
  rw [r3, Em.D1_b.1, Em.D1_b.2] at GB
  rw [r3, Em.D1_a.1] at GA
  have LC := Lib.hid LC
  have GC := Lib.hid GC
  have GB := Lib.hid GB
  have GA := Lib.hid GA
  go_upto_region 7 with (first
    | (go_at_call 22; refine LC.out.mono ?_; rintro e w4 ⟨rfl, rfl⟩)
    | (go_at_call 23; refine GC.out.mono ?_; rintro e w4 ⟨rfl, rfl⟩)
    | (go_at_call 21; (with_reducible refine GB.out.mono ?_); rintro e w4 ⟨rfl, rfl⟩)
    | (go_at_call 21; (with_reducible refine GA.out.mono ?_); rintro e w4 ⟨rfl, rfl⟩))
  clear LC GC GB GA
  have X3 := Lib.hid x3
  have j0 : JW w3 (kind7 pl) (fun _ => false) (fun _ => undef) w3.drew := ⟨(Below.refl _ _).drew, fun k h => by cases h⟩
  have HB : ∀ (l : List Em.Change) (c : Int), Em.doneErr Em.D1 l = c → c ≠ 0 → l.length ≤ 1000000 → (∀ c ∈ l, c.key.length ≤ 1000000000 ∧ c.value.length ≤ 1000000000) → ∀ W v, Below w3.heap.size w3 W → ChangesAt W (fun b => w3.heap.size ≤ b) v l →
      Calls Tryz.prog 11 #[.pointer (some ⟨pl, 0, none⟩), v] W fun en w' => en = .returned (.int .i64 c) ∧ Below W.heap.size W w' := by
    intro l c h1 h2 h3 h4 W v hb hc
    have := commit_bad_c (log_below X3.out hb) hc h3 h4 (by rw [r3, h1]; exact h2)
    rw [r3, h1] at this
    exact this
  have HB := Lib.hid HB
  clear x3
  refine wp_region_joint _ (JW w3 (kind7 pl)) (by kernel_rfl) rfl (by kernel_rfl) (fun L L' vals w hL h => h.ext (n := 17) hL (fun k hk => by match k, hk with | k + 17, _ => rfl)) j0 ?_ ?_
  · intro i o L vals a W hi hLi hd hl hj hs hold
    match i, hi with
    | 0, hi =>
      obtain rfl := Option.some.inj hi
      have h1 : a.tmps[3]? = some _ := hold 3 (by kernel_rfl)
      refine wpList_plain rfl fun K hK => ?_
      go_simp
      exact hK _ _ (wpList_nil ⟨rfl, _, rfl, hj.same 0 _ rfl⟩)
    | 4, hi =>
      obtain rfl := Option.some.inj hi
      have h1 : a.tmps[3]? = some _ := hold 3 (by kernel_rfl)
      refine wpList_plain rfl fun K hK => ?_
      go_simp
      exact hK _ _ (wpList_nil ⟨rfl, _, rfl, hj.same 4 _ rfl⟩)
    | 8, hi =>
      obtain rfl := Option.some.inj hi
      have h1 : a.tmps[3]? = some _ := hold 3 (by kernel_rfl)
      refine wpList_plain rfl fun K hK => ?_
      go_simp
      exact hK _ _ (wpList_nil ⟨rfl, _, rfl, hj.same 8 _ rfl⟩)
    | 1, hi =>
      obtain rfl := Option.some.inj hi
      refine wpList_plain rfl fun K hK => ?_
      go_simp
      exact hK _ _ (wpList_nil ⟨rfl, _, rfl, hj.same 1 _ rfl⟩)
    | 5, hi =>
      obtain rfl := Option.some.inj hi
      refine wpList_plain rfl fun K hK => ?_
      go_simp
      exact hK _ _ (wpList_nil ⟨rfl, _, rfl, hj.same 5 _ rfl⟩)
    | 2, hi =>
      obtain rfl := Option.some.inj hi
      have e1 := hs 1 _ 50 rfl rfl (hd 1 (by kernel_rfl))
      rw [show vals 1 = _ from hj.holds 1 (hd 1 (by kernel_rfl))] at e1
      refine wpList_plain rfl fun K hK => ?_
      go_simp
      exact hK _ _ (wpList_nil ⟨rfl, _, rfl, hj.put ((Below.refl _ _).alloc (Nat.le_refl _) _) 2 _ (changes_row (l := Em.b1) (cap := 1) (heap_alloc_last W _) hj.below.size (by decide) (by decide) rfl)⟩)
    | 6, hi =>
      obtain rfl := Option.some.inj hi
      have e1 := hs 5 _ 54 rfl rfl (hd 5 (by kernel_rfl))
      rw [show vals 5 = _ from hj.holds 5 (hd 5 (by kernel_rfl))] at e1
      refine wpList_plain rfl fun K hK => ?_
      go_simp
      exact hK _ _ (wpList_nil ⟨rfl, _, rfl, hj.put ((Below.refl _ _).alloc (Nat.le_refl _) _) 6 _ (changes_row (l := Em.b2) (cap := 1) (heap_alloc_last W _) hj.below.size (by decide) (by decide) rfl)⟩)
    | 12, hi =>
      obtain rfl := Option.some.inj hi
      have e1 := hs 11 _ 60 rfl rfl (hd 11 (by kernel_rfl))
      rw [show vals 11 = _ from hj.holds 11 (hd 11 (by kernel_rfl))] at e1
      refine wpList_plain rfl fun K hK => ?_
      go_simp
      exact hK _ _ (wpList_nil ⟨rfl, _, rfl, hj.put ((Below.refl _ _).alloc (Nat.le_refl _) _) 12 _ (changes_row (l := Em.b3) (cap := 1) (heap_alloc_last W _) hj.below.size (by decide) (by decide) rfl)⟩)
    | 3, hi =>
      obtain rfl := Option.some.inj hi
      have e0 := hs 0 _ 49 rfl rfl (hd 0 (by kernel_rfl))
      rw [show vals 0 = _ from hj.holds 0 (hd 0 (by kernel_rfl))] at e0
      have e1 := hs 2 _ 51 rfl rfl (hd 2 (by kernel_rfl))
      have CB := Lib.hid (HB.out Em.b1 2 Em.b1_done (by decide) (by decide) (by decide) W (vals 2) hj.below (hj.holds 2 (hd 2 (by kernel_rfl))))
      refine wpList_plain rfl fun K hK => ?_
      go_simp
      go_at_call 11
      refine CB.out.mono ?_
      rintro e W2 ⟨rfl, hb⟩
      exact hK _ _ (wpList_nil ⟨rfl, _, rfl, hj.put hb 3 _ rfl⟩)
    | 7, hi =>
      obtain rfl := Option.some.inj hi
      have e0 := hs 4 _ 53 rfl rfl (hd 4 (by kernel_rfl))
      rw [show vals 4 = _ from hj.holds 4 (hd 4 (by kernel_rfl))] at e0
      have e1 := hs 6 _ 55 rfl rfl (hd 6 (by kernel_rfl))
      have CB := Lib.hid (HB.out Em.b2 2 Em.b2_done (by decide) (by decide) (by decide) W (vals 6) hj.below (hj.holds 6 (hd 6 (by kernel_rfl))))
      refine wpList_plain rfl fun K hK => ?_
      go_simp
      go_at_call 11
      refine CB.out.mono ?_
      rintro e W2 ⟨rfl, hb⟩
      exact hK _ _ (wpList_nil ⟨rfl, _, rfl, hj.put hb 7 _ rfl⟩)
    | 13, hi =>
      obtain rfl := Option.some.inj hi
      have e0 := hs 8 _ 57 rfl rfl (hd 8 (by kernel_rfl))
      rw [show vals 8 = _ from hj.holds 8 (hd 8 (by kernel_rfl))] at e0
      have e1 := hs 12 _ 61 rfl rfl (hd 12 (by kernel_rfl))
      have CB := Lib.hid (HB.out Em.b3 3 Em.b3_done (by decide) (by decide) (by decide) W (vals 12) hj.below (hj.holds 12 (hd 12 (by kernel_rfl))))
      refine wpList_plain rfl fun K hK => ?_
      go_simp
      go_at_call 11
      refine CB.out.mono ?_
      rintro e W2 ⟨rfl, hb⟩
      exact hK _ _ (wpList_nil ⟨rfl, _, rfl, hj.put hb 13 _ rfl⟩)
    | 9, hi =>
      obtain rfl := Option.some.inj hi
      have hmk := mk65
      refine wpList_plain rfl fun K hK => ?_
      go_simp
      exact hK _ _ (wpList_nil ⟨rfl, _, rfl, hj.put ((Below.refl _ _).alloc (Nat.le_refl _) _) 9 _ (zeros_row (heap_alloc_last W _) hj.below.size (by decide))⟩)
    | 10, hi =>
      obtain rfl := Option.some.inj hi
      have e1 := hs 9 _ 58 rfl rfl (hd 9 (by kernel_rfl))
      have hcv := run_string_of (hj.holds 9 (hd 9 (by kernel_rfl)))
      refine wpList_plain rfl fun K hK => ?_
      go_simp
      exact hK _ _ (wpList_nil ⟨rfl, _, rfl, hj.same 10 _ rfl⟩)
    | 11, hi =>
      obtain rfl := Option.some.inj hi
      have e1 := hs 10 _ 59 rfl rfl (hd 10 (by kernel_rfl))
      rw [show vals 10 = _ from hj.holds 10 (hd 10 (by kernel_rfl))] at e1
      refine wpList_plain rfl fun K hK => ?_
      go_simp
      exact hK _ _ (wpList_nil ⟨rfl, _, rfl, hj.same 11 _ rfl⟩)
    | 14, hi =>
      obtain rfl := Option.some.inj hi
      have e0 := hs 3 _ 52 rfl rfl (hd 3 (by kernel_rfl))
      rw [show vals 3 = _ from hj.holds 3 (hd 3 (by kernel_rfl))] at e0
      refine wpList_plain rfl fun K hK => ?_
      go_simp
      exact hK _ _ (wpList_nil ⟨rfl, _, rfl, hj.same 14 _ rfl⟩)
    | 15, hi =>
      obtain rfl := Option.some.inj hi
      have e0 := hs 7 _ 56 rfl rfl (hd 7 (by kernel_rfl))
      rw [show vals 7 = _ from hj.holds 7 (hd 7 (by kernel_rfl))] at e0
      refine wpList_plain rfl fun K hK => ?_
      go_simp
      exact hK _ _ (wpList_nil ⟨rfl, _, rfl, hj.same 15 _ rfl⟩)
    | 16, hi =>
      obtain rfl := Option.some.inj hi
      have e0 := hs 13 _ 62 rfl rfl (hd 13 (by kernel_rfl))
      rw [show vals 13 = _ from hj.holds 13 (hd 13 (by kernel_rfl))] at e0
      refine wpList_plain rfl fun K hK => ?_
      go_simp
      exact hK _ _ (wpList_nil ⟨rfl, _, rfl, hj.same 16 _ rfl⟩)
    | k + 17, hi => cases hi
  · intro vals W hj
    have q0 : vals 0 = _ := hj.holds 0 rfl
    have q14 : vals 14 = _ := hj.holds 14 rfl
    have q15 : vals 15 = _ := hj.holds 15 rfl
    have q16 : vals 16 = _ := hj.holds 16 rfl
    have HJ := Lib.hid hj.below
    clear hj j0 HB
    simp only [putL, Nat.zero_add, Nat.reduceAdd, q0, q14, q15, q16]
    clear q0 q14 q15 q16
    generalize vals 1 = u1
    generalize vals 2 = u2
    generalize vals 3 = u3
    generalize vals 4 = u4
    generalize vals 5 = u5
    generalize vals 6 = u6
    generalize vals 7 = u7
    generalize vals 8 = u8
    generalize vals 9 = u9
    generalize vals 10 = u10
    generalize vals 11 = u11
    generalize vals 12 = u12
    generalize vals 13 = u13
    go_simp
    obtain ⟨F4, x4⟩ : ∃ F4, LogAt W pl p m E1 F4 := ⟨_, log_below X3.out HJ.out⟩
    have B4 := below_more B3 HJ.out
    have hst : E1.d.stop 0 = ((E1.d.stop 0).1, 0) := by
      unfold D.stop
      rw [if_neg (by decide), if_neg (by rw [r2.disk.dead]; decide)]
    have SC := Lib.hid (stop_c x4.disk 0 (by decide))
    have X4 := Lib.hid x4
    have hwt : (E1.d.stop 0).1.waits = [] := by
      unfold D.stop
      rw [if_neg (by decide), if_neg (by rw [r2.disk.dead]; decide)]
      exact r2.disk.waits
    clear x4 X3 HJ
    go_upto_region 9 with (go_at_call 16; refine SC.out.mono ?_; rintro e w5 hs; obtain ⟨he, m5, x5⟩ := log_left_disk X4.out hs; rw [hst] at he; subst he; have B5 := below_plm B4 m5 H3.out.2 H1.out.2.1 H1.out.2.2; clear hs m5)
    have ba : ∀ c, Below w5.heap.size w5 (w5.alloc c) := fun c => (Below.refl _ _).alloc (Nat.le_refl _) c
    obtain ⟨s1, s2, s3⟩ := r2.stopped (l := Em.lc) (by rw [r3]; exact Em.lc_done) (by have := Em.lc_len; omega) (by omega) (by have := Em.lc_len; omega)
    have hw2 := commit_waits { E1 with d := (E1.d.stop 0).1 } Em.lc
    have CC := Lib.hid (commit_c (log_below x5 (ba _)) (by show (E1.d.stop 0).1.waits.length ≤ _; rw [hwt]; decide) (changes_row (heap_alloc_last w5 (.cells #[.string ⟨#[99]⟩, .string ⟨#[51]⟩, .bool false] tChange)) (F := fun _ => True) (l := Em.lc) (cap := 1) trivial (by decide) (by decide) rfl) (by decide) (by decide))
    have B5a := below_more B5 (ba (.cells #[.string ⟨#[99]⟩, .string ⟨#[51]⟩, .bool false] tChange))
    have hw2 : (Em.E.commit { E1 with d := (E1.d.stop 0).1 } Em.lc).1.d.waits.length ≤ 5 := by
      have e0 : ({ E1 with d := (E1.d.stop 0).1 } : Em.E).d.waits.length = 0 := by show (E1.d.stop 0).1.waits.length = 0; rw [hwt]; rfl
      omega
    generalize Em.E.commit { E1 with d := (E1.d.stop 0).1 } Em.lc = R2 at *
    clear x5 ba
    go_upto_region 10 with (go_at_call 11; refine CC.out.mono ?_; rintro e w6 ⟨rfl, m6, x6⟩
                            have B6 := below_plm B5a m6 H3.out.2 H1.out.2.1 H1.out.2.2
                            clear m6)
    obtain ⟨F6, x6⟩ : ∃ F6, LogAt w6 pl p m R2.1 F6 := ⟨_, x6⟩
    obtain ⟨E3, hE⟩ : ∃ E3, R2.1 = E3 := ⟨_, rfl⟩
    rw [hE] at x6 s2 s3 hw2
    clear hE CC
    have GC := get_c x6 [99] (by decide)
    rw [s3, r3, Em.D1_a.2] at GC
    have GC := Lib.hid GC
    have ba : ∀ c, Below w6.heap.size w6 (w6.alloc c) := fun c => (Below.refl _ _).alloc (Nat.le_refl _) c
    have CC := commit_c (log_below x6 (ba _)) (by omega) (changes_row (heap_alloc_last w6 (.cells #[.string ⟨#[100]⟩, .string ⟨#[52]⟩, .bool false] tChange)) (F := fun _ => True) (l := Em.ld) (cap := 1) trivial (by decide) (by decide) rfl) (by decide) (by decide)
    rw [commit_gone (by rw [s3, r3]; exact Em.ld_done) s2] at CC
    have CC := Lib.hid CC
    have B6a := below_more B6 (ba (.cells #[.string ⟨#[100]⟩, .string ⟨#[52]⟩, .bool false] tChange))
    clear x6 ba
    go_upto_region 12 with (first
      | (go_at_call 21; (with_reducible refine GC.out.mono ?_); rintro e w7 ⟨rfl, rfl⟩)
      | (go_at_call 11; refine CC.out.mono ?_; rintro e w8 ⟨rfl, m8, x8⟩
         have B8 := below_plm B6a m8 H3.out.2 H1.out.2.1 H1.out.2.2
         have GN := gone_c x8
         rw [s2] at GN
         have GN := Lib.hid GN
         clear m8 x8))
    clear GC CC
    go_wp2_with (first
      | (go_at_call 12; refine (num19_c _ _).mono ?_; rintro e w' ⟨rfl, rfl⟩)
      | (go_at_call 17; refine GN.out.mono ?_; rintro e w' ⟨rfl, rfl⟩))
    trace_state
    go_ret
    exact ⟨rfl, B8⟩

end Go.Proofs.YtgffifleflkjoaaGreat

namespace Go.Proofs.YtgffifleflkjoaaGreat
open Go.RowKit Dm

abbrev cellsC (l : List Em.Change) : List Value := l.flatMap fun c => [strOfB c.key, strOfB c.value, .bool c.gone]

theorem cellsC_len (l : List Em.Change) : (cellsC l).length = l.length * 3 := by
  induction l with
  | nil => rfl
  | cons c l ih => rw [cellsC, List.flatMap_cons, List.length_append, List.length_cons]; have := ih; simp only [cellsC] at this; rw [this]; simp; omega

theorem cellsC_at : ∀ (l : List Em.Change) (i : Nat) (c : Em.Change), l[i]? = some c → ∀ j v, [strOfB c.key, strOfB c.value, Value.bool c.gone][j]? = some v → (cellsC l)[i * 3 + j]? = some v := by
  intro l
  induction l with
  | nil => intro i c hi; simp at hi
  | cons x l ih =>
    intro i c hi j v hj
    rw [cellsC, List.flatMap_cons]
    cases i with
    | zero =>
      simp only [List.getElem?_cons_zero, Option.some.injEq] at hi
      subst hi
      have hlt : j < 3 := by
        have := (List.getElem?_eq_some_iff.1 hj).1
        simpa using this
      rw [List.getElem?_append_left (by simp; omega)]
      simpa using hj
    | succ i =>
      rw [List.getElem?_append_right (by simp; omega)]
      have := ih i c (by simpa using hi) j v hj
      rw [show (i + 1) * 3 + j - [strOfB x.key, strOfB x.value, Value.bool x.gone].length = i * 3 + j by simp; omega]
      exact this

/-- Changes in a row of the call's own. -/
def OwnC (w : World) (base : Nat) (v : Value) (l : List Em.Change) : Prop := w.ownsRow base tChange 3 v l.length (cellsC l)

theorem ownC_nil (w : World) (base : Nat) : OwnC w base (.slice none 0 0) [] := ⟨rfl, Or.inl ⟨rfl, rfl⟩⟩

theorem OwnC.at {w : World} {base : Nat} {v : Value} {l : List Em.Change} (h : OwnC w base v l) : ChangesAt w (fun k => base ≤ k) v l := by
  rcases h.2 with ⟨h1, h2⟩ | ⟨g, cap, cur, h1, h2, h3, h4, h5, h6, h7⟩
  · exact Or.inl ⟨h1, List.eq_nil_of_length_eq_zero h2⟩
  · refine Or.inr ⟨g, 0, cap, cur, tChange, (0, 0), h1, h4, by unfold maxLen at h5; omega, h2, h3, ?_⟩
    intro i c hi
    have hlt := (List.getElem?_eq_some_iff.1 hi).1
    have key : ∀ j v, j < 3 → [strOfB c.key, strOfB c.value, Value.bool c.gone][j]? = some v → cur[0 + i * 3 + j]? = some v := by
      intro j v hj hv
      have := cellsC_at l i c hi j v hv
      rw [← h7, List.getElem?_take, if_pos (by omega)] at this
      rw [Nat.zero_add]
      simpa using this
    exact ⟨key 0 _ (by omega) rfl, key 1 _ (by omega) rfl, key 2 _ (by omega) rfl⟩

theorem infoChg : (Tryz.prog.info? tChange).map (fun i => (i.zero, i.size, i.bytes)) = some (some (.agg #[.string ⟨#[]⟩, .string ⟨#[]⟩, .bool false]), 3, 40) := by kernel_rfl

abbrev tChanges : Nat := 34

theorem wpList_append_chg {ops : Array Oper} {rest : List Oper} {o : Oper} {a : Act} {w w0 : World} {Q : Exit → Act → World → Prop} (hgd : o.guard = none) (s x : Operand) (ho : o.op = .call { callee := .builtin .append, args := #[s, x], argTypes := #[tChanges, tChanges] })
    (base : Nat) (v : Value) (l : List Em.Change) (c : Em.Change) (hs : a.eval s = v) (hown : OwnC w base v l) (g cap : Nat) (hx : a.eval x = .slice (some ⟨g, 0, none⟩) 1 cap)
    (hrow : w.heap[g]? = some (.cells #[strOfB c.key, strOfB c.value, .bool c.gone] tChange (0, 0))) (hl : l.length ≤ 1000000) (hbase : base ≤ w.heap.size) (hB : Below base w0 w)
    (h : ∀ v' w', Hid (OwnC w' base v' (l ++ [c])) → Hid (Below base w0 w') → wpList Tryz.prog ops Q rest (a.put o.dst v') w') : wpList Tryz.prog ops Q (o :: rest) a w := by
  refine wpList_append_where hgd s x tChanges ho base tChange (.agg #[.string ⟨#[]⟩, .string ⟨#[]⟩, .bool false]) 3 40 Tryz.underlying34 infoChg rfl (by decide) v l.length (cellsC l) hs hown ⟨g, 0, none⟩ 1 cap [strOfB c.key, strOfB c.value, .bool c.gone] hx rfl ?_ ?_ (by unfold maxLen; omega) (by omega) hbase ?_
  · intro j u hu
    rw [addr_add, cell_of_row _ _ _ _ _ _ hrow]
    simpa using hu
  · intro u hu
    simp only [List.mem_cons, List.not_mem_nil, or_false] at hu
    rcases hu with rfl | rfl | rfl <;> rfl
  · intro v' w' h1 h2 h3
    refine h v' w' (Lib.hid ?_) (Lib.hid ?_)
    · have := h1.out
      show w'.ownsRow base tChange 3 v' (l ++ [c]).length (cellsC (l ++ [c]))
      rw [List.length_append, cellsC, List.flatMap_append]
      simpa using this
    · refine hB.grown h2.out hbase (fun k e => ?_)
      rcases hown.2 with ⟨h, _⟩ | ⟨g, cap, cur, h, hg, _⟩
      · rw [h] at e; cases e
      · rw [h] at e; cases e; exact hg

end Go.Proofs.YtgffifleflkjoaaGreat

namespace Go.Proofs.YtgffifleflkjoaaGreat.Em
open Go.Maps Cm

def zkey (n : Nat) : List Change := [⟨List.replicate n 0, [], false⟩]
def zval (n : Nat) : List Change := [⟨[97], List.replicate n 0, false⟩]
def many (n : Nat) : List Change := List.replicate n ⟨[97], [120], false⟩
def key2 (i k : Nat) : Change := ⟨[UInt8.ofNat (i + 1), UInt8.ofNat (k + 1)], [], false⟩
def roundN (i : Nat) : Nat := min 32 (255 - 32 * i)
def roundL (i : Nat) : List Change := (List.range (roundN i)).map (key2 i)
def lastL (n : Nat) : List Change := (List.range n).map fun j => ⟨[200, UInt8.ofNat j], [], false⟩
def rowsAt (i : Nat) : Rows := behind (.map []) ((List.range i).flatMap roundL)

theorem rowsAt_succ (i : Nat) : rowsAt (i + 1) = behind (rowsAt i) (roundL i) := by
  unfold rowsAt
  rw [List.range_succ, List.flatMap_append]
  unfold behind
  rw [List.foldl_append]
  simp

theorem zkey_done : doneErr (.map []) (zkey 63) = 0 ∧ doneErr (.map []) (zkey 64) = 0 ∧ doneErr (.map []) (zkey 65) = 3 := by decide +kernel
theorem zkey_len : (batchBody (zkey 63)).length ≤ 1000 ∧ (batchBody (zkey 64)).length ≤ 1000 := by decide +kernel
theorem many_done : doneErr (.map []) (many 63) = 0 ∧ doneErr (.map []) (many 64) = 0 ∧ doneErr (.map []) (many 65) = 3 := by decide +kernel
theorem many_len : (batchBody (many 63)).length ≤ 8192 ∧ (batchBody (many 64)).length ≤ 8192 := by decide +kernel

theorem zval_done (n : Nat) : doneErr (.map []) (zval n) = if 4096 < n then 3 else 0 := by
  have hr : right (zval n) = if 4096 < n then 3 else 0 := by
    unfold right zval Change.wrong Change.long
    simp
  unfold doneErr
  rw [hr]
  by_cases h : 4096 < n
  · rw [if_pos h]; rfl
  · rw [if_neg h]; rfl

theorem zval_len {n : Nat} (h : n ≤ 4096) : (batchBody (zval n)).length ≤ 8192 := by
  have h1 := (wnum_len 3).1
  have h2 := (wnum_len 1).1
  have h3 := laid_len (c := ⟨[97], List.replicate n 0, false⟩) (by simp [Change.long]; omega)
  unfold batchBody zval
  simp only [List.length_append, List.flatMap_cons, List.flatMap_nil, List.length_cons, List.length_nil, Nat.zero_add]
  omega

theorem rounds_done : ∀ i, i < 8 → doneErr (rowsAt i) (roundL i) = 0 := by decide +kernel
theorem rounds_len : ∀ i, i < 8 → (batchBody (roundL i)).length ≤ 1000 := by decide +kernel
theorem last_done : doneErr (rowsAt 8) (lastL 0) = 0 ∧ doneErr (rowsAt 8) (lastL 1) = 0 ∧ doneErr (rowsAt 8) (lastL 2) = 3 := by decide +kernel
theorem last_len : (batchBody (lastL 0)).length ≤ 1000 ∧ (batchBody (lastL 1)).length ≤ 1000 := by decide +kernel

/-- What a commit answers. -/
theorem commit_code {e : E} {room : Nat} {l : List Change} {c : Int} (h : Fine e room) (hd : doneErr e.rows l = c) (hl : c = 0 → (batchBody l).length ≤ 8192) (hb : e.batches < 32) (hr : e.fin + 8192 + 13 ≤ room / 2) : (e.commit l).2 = c := by
  by_cases hc : c = 0
  · subst hc
    exact (h.commit hd (hl rfl) hb (by have := hl rfl; omega)).1
  · have : e.commit l = (e, doneErr e.rows l) := if_pos (by omega)
    rw [this, hd]

end Go.Proofs.YtgffifleflkjoaaGreat.Em

namespace Go.Proofs.YtgffifleflkjoaaGreat
open Go.RowKit Dm

theorem made_get (n i : Nat) (h : i < n) : (madeCells #[Value.int .u8 0] n)[i]? = some (.int .u8 0) := by
  unfold madeCells
  simp [h, Nat.mod_one]

theorem mk_bytes (n : Nat) (hn : n ≤ 1000000) (W : World) : (Instr.makeSlice tBytes (.int .i64 n) (.int .i64 n)).run Tryz.prog W = .ok (.slice (some ⟨W.heap.size, 0, none⟩) n n) (W.alloc (.cells (madeCells #[.int .u8 0] n) tByte)) := by
  obtain ⟨i0, hi0, hz0, hz1, hz2⟩ := info_parts infoByte
  have := run_make W tBytes tByte i0 (.int .u8 0) Tryz.underlying31 hi0 hz0 .i64 .i64 n n (by omega) (Int.le_refl _) (by rw [hz2]; omega) (by omega)
  simp only [Int.toNat_natCast, hz1, Nat.mul_one] at this
  exact this

theorem made_row {w : World} {F : Nat → Prop} {g n : Nat} {t : TypeId} {fr : Nat × Nat} (hr : w.heap[g]? = some (.cells (madeCells #[.int .u8 0] n) t fr)) (hF : F g) (hn : n ≤ 1000000) : BytesAt w.heap F (.slice (some ⟨g, 0, none⟩) n n) (List.replicate n 0) := by
  refine Or.inr ⟨g, 0, n, _, t, fr, by simp, by simp, by omega, hF, hr, ?_⟩
  intro i x hi
  obtain ⟨h1, h2⟩ := List.getElem?_eq_some_iff.1 hi
  have : x = 0 := by rw [← h2]; simp
  subst this
  rw [Nat.zero_add, made_get n i (by simpa using h1)]
  rfl

set_option maxRecDepth 100000 in
theorem bounds_out (w : World) (mo wh : Int) (h : mo < -1 ∨ 1 < mo ∨ wh < 0 ∨ 3 < wh) : Calls Tryz.prog 3 #[.int .i64 mo, .int .i64 wh] w fun e w' => e = .returned (.bool true) ∧ Below w.heap.size w w' := by
  have WC := Lib.hid (works19_c w)
  by_cases h1 : mo < -1
  · have g1 : decide (mo < -1) = true := by simpa using h1
    clear h
    go_enter Tryz.func3, Tryz.ntmps3
    go_wp2_with (go_at_call 8; refine WC.out.mono ?_; rintro e w' ⟨rfl, hb⟩)
    go_ret
    exact ⟨rfl, hb⟩
  · have g1 : decide (mo < -1) = false := by simpa using h1
    by_cases h2 : 1 < mo
    · have g2 : decide (1 < mo) = true := by simpa using h2
      clear h
      go_enter Tryz.func3, Tryz.ntmps3
      go_wp2_with (go_at_call 8; refine WC.out.mono ?_; rintro e w' ⟨rfl, hb⟩)
      go_ret
      exact ⟨rfl, hb⟩
    · have g2 : decide (1 < mo) = false := by simpa using h2
      by_cases h3 : wh < 0
      · have g3 : decide (wh < 0) = true := by simpa using h3
        clear h
        go_enter Tryz.func3, Tryz.ntmps3
        go_wp2_with (go_at_call 8; refine WC.out.mono ?_; rintro e w' ⟨rfl, hb⟩)
        go_ret
        exact ⟨rfl, hb⟩
      · have g3 : decide (wh < 0) = false := by simpa using h3
        have h4 : 3 < wh := by omega
        have g4 : decide (3 < wh) = true := by simpa using h4
        clear h
        go_enter Tryz.func3, Tryz.ntmps3
        go_wp2_with (go_at_call 8; refine WC.out.mono ?_; rintro e w' ⟨rfl, hb⟩)
        go_ret
        exact ⟨rfl, hb⟩

end Go.Proofs.YtgffifleflkjoaaGreat

namespace Go.Proofs.YtgffifleflkjoaaGreat
open Go.RowKit Dm

set_option maxRecDepth 100000 in
set_option maxHeartbeats 4000000 in
theorem bounds_key (w : World) {mo : Int} {n : Nat} (hn : 64 + mo = n) (hm1 : -1 ≤ mo) (hm2 : mo ≤ 1) (hd : Em.doneErr (.map []) (Em.zkey n) = if 0 < mo then 3 else 0) (hl : mo ≤ 0 → (Em.batchBody (Em.zkey n)).length ≤ 8192) :
    Calls Tryz.prog 3 #[.int .i64 mo, .int .i64 0] w fun e w' => e = .returned (.bool true) ∧ Below w.heap.size w w' := by
  have g1 : decide (mo < -1) = false := by simp; omega
  have g2 : decide (1 < mo) = false := by simp; omega
  have g3 : IntKind.i64.wrap (64 + mo) = (n : Int) := by rw [← hn]; exact IntWalk.i64_in _ (by omega)
  have hmk := fun W => mk_bytes n (by omega) W
  have NW := Lib.hid (new_c 0 1048576 w rfl)
  go_enter Tryz.func3, Tryz.ntmps3
  go_upto_region 4 with (go_at_call 9; refine NW.out.mono ?_; rintro e w1 ⟨p, m, rfl, hb1, hp, hm, x1⟩)
  have lx := x1.lt
  have x1 : DiskAt w1.heap p m (Dm.new 0 1048576) (fun k => k < w1.heap.size ∧ k ≠ p ∧ k ≠ m) := x1.weak (fun k hk hl => ⟨hl, hk.2⟩) (fun h => h.2.1 rfl) (fun h => h.2.2 rfl)
  obtain ⟨q1, q2, q3, q4, q5⟩ := Em.begun_fine (s := 0) (room := 1048576) (by decide)
  have OC := Lib.hid (open_c (ts := fun _ => Em.T.none) x1 (by show 0 ≤ _; decide) (fun i h => h.1) (fun k _ => reads_nil k) rfl)
  have H1 := Lib.hid (And.intro hb1 (And.intro hp hm))
  clear hb1 hp hm x1 lx NW
  go_upto_region 5 with (go_at_call 10; refine OC.out.mono ?_; rintro e w2 ⟨m2, o2, _⟩; obtain ⟨pl, F2, rfl, x2, hpl, hF2, _⟩ := o2 q1)
  have H2 := Lib.hid (And.intro (below_pm H1.out.1 m2 H1.out.2.1 H1.out.2.2) (show w.heap.size ≤ pl from Nat.le_trans H1.out.1.size hpl))
  clear m2 o2 hpl hF2 OC
  obtain ⟨E0, hE0⟩ : ∃ E0, (Em.begun (Dm.new 0 1048576)).1 = E0 := ⟨_, rfl⟩
  rw [show ((1048576 : Nat) : Int) = 1048576 from rfl] at q2 q3 q4 q5
  rw [hE0] at x2 q2 q3 q4 q5
  clear hE0 q1
  have b1 : Below w2.heap.size w2 (w2.alloc (.cells (madeCells #[.int .u8 0] n) tByte)) := (Below.refl _ _).alloc (Nat.le_refl _) _
  have hcv := run_string_of (made_row (heap_alloc_last w2 (.cells (madeCells #[.int .u8 0] n) tByte)) (F := fun _ => True) trivial (by omega))
  obtain ⟨w2b, h2b⟩ : ∃ W, w2.alloc (.cells (madeCells #[.int .u8 0] n) tByte) = W := ⟨_, rfl⟩
  have b2 : Below w2b.heap.size w2b (w2b.alloc (.cells #[.string ⟨Array.replicate n (0 : UInt8)⟩, .string ⟨#[]⟩, .bool false] tChange)) := (Below.refl _ _).alloc (Nat.le_refl _) _
  have x2b := log_below x2 b1
  rw [h2b] at x2b b1 hcv
  have hw2 : w2b.heap.size = w2.heap.size + 1 := by rw [← h2b]; simp
  have CC := commit_c (log_below x2b b2) (by rw [q2.disk.waits]; decide) (changes_row (heap_alloc_last w2b (.cells #[.string ⟨Array.replicate n (0 : UInt8)⟩, .string ⟨#[]⟩, .bool false] tChange)) (F := fun _ => True) (l := Em.zkey n) (cap := 1) trivial (by simp [Em.zkey]) (by decide) (by simp [Em.zkey])) (by simp [Em.zkey]) (by intro c hc; simp [Em.zkey] at hc; subst hc; simp; omega)
  rw [show (Em.zkey n).length = 1 from rfl, hw2] at CC
  have CC := Lib.hid CC
  have HB := Lib.hid (below_more (below_more H2.out.1 b1) b2)
  have hcode := Em.commit_code (l := Em.zkey n) (c := if 0 < mo then 3 else 0) q2 (by rw [q3]; exact hd) (fun h => hl (by by_cases q : 0 < mo; (rw [if_pos q] at h; cases h); omega)) (by omega) (by omega)
  generalize Em.E.commit E0 (Em.zkey n) = R1 at *
  clear x2 x2b b1 b2 hd hl
  by_cases hm : 0 < mo
  all_goals
    first
      | rw [if_pos hm] at hcode
      | rw [if_neg hm] at hcode
    go_wp2_with (first
      | (go_at_call 11; refine CC.out.mono ?_; rintro e w3 ⟨rfl, m3, x3⟩
         have B3 := below_plm HB.out m3 H2.out.2 H1.out.2.1 H1.out.2.2
         have WC := Lib.hid (works19_c w3)
         clear m3 x3)
      | (go_at_call 12; refine (num19_c _ _).mono ?_; rintro e w' ⟨rfl, rfl⟩)
      | (go_at_call 8; refine WC.out.mono ?_; rintro e w4 ⟨rfl, b4⟩))
    go_ret
    exact ⟨rfl, below_more B3 b4⟩

set_option maxRecDepth 100000 in
set_option maxHeartbeats 4000000 in
theorem bounds_val (w : World) {mo : Int} {n : Nat} (hn : 4096 + mo = n) (hm1 : -1 ≤ mo) (hm2 : mo ≤ 1) (hd : Em.doneErr (.map []) (Em.zval n) = if 0 < mo then 3 else 0) (hl : mo ≤ 0 → (Em.batchBody (Em.zval n)).length ≤ 8192) :
    Calls Tryz.prog 3 #[.int .i64 mo, .int .i64 1] w fun e w' => e = .returned (.bool true) ∧ Below w.heap.size w w' := by
  have g1 : decide (mo < -1) = false := by simp; omega
  have g2 : decide (1 < mo) = false := by simp; omega
  have g3 : IntKind.i64.wrap (4096 + mo) = (n : Int) := by rw [← hn]; exact IntWalk.i64_in _ (by omega)
  have hmk := fun W => mk_bytes n (by omega) W
  have NW := Lib.hid (new_c 0 1048576 w rfl)
  go_enter Tryz.func3, Tryz.ntmps3
  go_upto_region 4 with (go_at_call 9; refine NW.out.mono ?_; rintro e w1 ⟨p, m, rfl, hb1, hp, hm, x1⟩)
  have lx := x1.lt
  have x1 : DiskAt w1.heap p m (Dm.new 0 1048576) (fun k => k < w1.heap.size ∧ k ≠ p ∧ k ≠ m) := x1.weak (fun k hk hl => ⟨hl, hk.2⟩) (fun h => h.2.1 rfl) (fun h => h.2.2 rfl)
  obtain ⟨q1, q2, q3, q4, q5⟩ := Em.begun_fine (s := 0) (room := 1048576) (by decide)
  have OC := Lib.hid (open_c (ts := fun _ => Em.T.none) x1 (by show 0 ≤ _; decide) (fun i h => h.1) (fun k _ => reads_nil k) rfl)
  have H1 := Lib.hid (And.intro hb1 (And.intro hp hm))
  clear hb1 hp hm x1 lx NW
  go_upto_region 5 with (go_at_call 10; refine OC.out.mono ?_; rintro e w2 ⟨m2, o2, _⟩; obtain ⟨pl, F2, rfl, x2, hpl, hF2, _⟩ := o2 q1)
  have H2 := Lib.hid (And.intro (below_pm H1.out.1 m2 H1.out.2.1 H1.out.2.2) (show w.heap.size ≤ pl from Nat.le_trans H1.out.1.size hpl))
  clear m2 o2 hpl hF2 OC
  obtain ⟨E0, hE0⟩ : ∃ E0, (Em.begun (Dm.new 0 1048576)).1 = E0 := ⟨_, rfl⟩
  rw [show ((1048576 : Nat) : Int) = 1048576 from rfl] at q2 q3 q4 q5
  rw [hE0] at x2 q2 q3 q4 q5
  clear hE0 q1
  have b1 : Below w2.heap.size w2 (w2.alloc (.cells (madeCells #[.int .u8 0] n) tByte)) := (Below.refl _ _).alloc (Nat.le_refl _) _
  have hcv := run_string_of (made_row (heap_alloc_last w2 (.cells (madeCells #[.int .u8 0] n) tByte)) (F := fun _ => True) trivial (by omega))
  obtain ⟨w2b, h2b⟩ : ∃ W, w2.alloc (.cells (madeCells #[.int .u8 0] n) tByte) = W := ⟨_, rfl⟩
  have b2 : Below w2b.heap.size w2b (w2b.alloc (.cells #[.string ⟨#[97]⟩, .string ⟨Array.replicate n (0 : UInt8)⟩, .bool false] tChange)) := (Below.refl _ _).alloc (Nat.le_refl _) _
  have x2b := log_below x2 b1
  rw [h2b] at x2b b1 hcv
  have hw2 : w2b.heap.size = w2.heap.size + 1 := by rw [← h2b]; simp
  have CC := commit_c (log_below x2b b2) (by rw [q2.disk.waits]; decide) (changes_row (heap_alloc_last w2b (.cells #[.string ⟨#[97]⟩, .string ⟨Array.replicate n (0 : UInt8)⟩, .bool false] tChange)) (F := fun _ => True) (l := Em.zval n) (cap := 1) trivial (by simp [Em.zval]) (by decide) (by simp [Em.zval])) (by simp [Em.zval]) (by intro c hc; simp [Em.zval] at hc; subst hc; simp; omega)
  rw [show (Em.zval n).length = 1 from rfl, hw2] at CC
  have CC := Lib.hid CC
  have HB := Lib.hid (below_more (below_more H2.out.1 b1) b2)
  have hcode := Em.commit_code (l := Em.zval n) (c := if 0 < mo then 3 else 0) q2 (by rw [q3]; exact hd) (fun h => hl (by by_cases q : 0 < mo; (rw [if_pos q] at h; cases h); omega)) (by omega) (by omega)
  generalize Em.E.commit E0 (Em.zval n) = R1 at *
  clear x2 x2b b1 b2 hd hl
  by_cases hm : 0 < mo
  all_goals
    first
      | rw [if_pos hm] at hcode
      | rw [if_neg hm] at hcode
    go_wp2_with (first
      | (go_at_call 11; refine CC.out.mono ?_; rintro e w3 ⟨rfl, m3, x3⟩
         have B3 := below_plm HB.out m3 H2.out.2 H1.out.2.1 H1.out.2.2
         have WC := Lib.hid (works19_c w3)
         clear m3 x3)
      | (go_at_call 12; refine (num19_c _ _).mono ?_; rintro e w' ⟨rfl, rfl⟩)
      | (go_at_call 8; refine WC.out.mono ?_; rintro e w4 ⟨rfl, b4⟩))
    go_ret
    exact ⟨rfl, below_more B3 b4⟩

end Go.Proofs.YtgffifleflkjoaaGreat

namespace Go.Proofs.YtgffifleflkjoaaGreat
open Go.RowKit Dm

theorem OwnC.later {w w' : World} {base : Nat} {v : Value} {l : List Em.Change} (h : OwnC w base v l) (hb : Below w.heap.size w w') : OwnC w' base v l := by
  refine ⟨h.1, ?_⟩
  rcases h.2 with h1 | ⟨g, cap, cur, h1, h2, h3, h4, h5, h6, h7⟩
  · exact Or.inl h1
  · exact Or.inr ⟨g, cap, cur, h1, h2, (hb.block g (lt_of_row h3)).trans h3, h4, h5, h6, h7⟩

theorem many_succ (i : Nat) : Em.many (i + 1) = Em.many i ++ [⟨[97], [120], false⟩] := by unfold Em.many; rw [List.replicate_succ']

set_option maxRecDepth 100000 in
set_option maxHeartbeats 4000000 in
theorem bounds_many (w : World) {mo : Int} {n : Nat} (hn : 64 + mo = n) (hm1 : -1 ≤ mo) (hm2 : mo ≤ 1) (hd : Em.doneErr (.map []) (Em.many n) = if 0 < mo then 3 else 0) (hl : mo ≤ 0 → (Em.batchBody (Em.many n)).length ≤ 8192) :
    Calls Tryz.prog 3 #[.int .i64 mo, .int .i64 2] w fun e w' => e = .returned (.bool true) ∧ Below w.heap.size w w' := by
  have g1 : decide (mo < -1) = false := by simp; omega
  have g2 : decide (1 < mo) = false := by simp; omega
  have g3 : IntKind.i64.wrap (64 + mo) = (n : Int) := by rw [← hn]; exact IntWalk.i64_in _ (by omega)
  have NW := Lib.hid (new_c 0 1048576 w rfl)
  go_enter Tryz.func3, Tryz.ntmps3
  go_upto_region 4 with (go_at_call 9; refine NW.out.mono ?_; rintro e w1 ⟨p, m, rfl, hb1, hp, hm, x1⟩)
  have lx := x1.lt
  have x1 : DiskAt w1.heap p m (Dm.new 0 1048576) (fun k => k < w1.heap.size ∧ k ≠ p ∧ k ≠ m) := x1.weak (fun k hk hl => ⟨hl, hk.2⟩) (fun h => h.2.1 rfl) (fun h => h.2.2 rfl)
  obtain ⟨q1, q2, q3, q4, q5⟩ := Em.begun_fine (s := 0) (room := 1048576) (by decide)
  have OC := Lib.hid (open_c (ts := fun _ => Em.T.none) x1 (by show 0 ≤ _; decide) (fun i h => h.1) (fun k _ => reads_nil k) rfl)
  have H1 := Lib.hid (And.intro hb1 (And.intro hp hm))
  clear hb1 hp hm x1 lx NW
  go_upto_region 5 with (go_at_call 10; refine OC.out.mono ?_; rintro e w2 ⟨m2, o2, _⟩; obtain ⟨pl, F2, rfl, x2, hpl, hF2, _⟩ := o2 q1)
  have H2 := Lib.hid (And.intro (below_pm H1.out.1 m2 H1.out.2.1 H1.out.2.2) (show w.heap.size ≤ pl from Nat.le_trans H1.out.1.size hpl))
  clear m2 o2 hpl hF2 OC
  obtain ⟨E0, hE0⟩ : ∃ E0, (Em.begun (Dm.new 0 1048576)).1 = E0 := ⟨_, rfl⟩
  rw [show ((1048576 : Nat) : Int) = 1048576 from rfl] at q2 q3 q4 q5
  rw [hE0] at x2 q2 q3 q4 q5
  clear hE0 q1
  have hcode := Em.commit_code (l := Em.many n) (c := if 0 < mo then 3 else 0) q2 (by rw [q3]; exact hd) (fun h => hl (by by_cases q : 0 < mo; (rw [if_pos q] at h; cases h); omega)) (by omega) (by omega)
  have X2 := Lib.hid x2
  have Q2 := Lib.hid q2
  clear x2 hd hl q2
  by_cases hm : 0 < mo
  all_goals
    first
      | rw [if_pos hm] at hcode
      | rw [if_neg hm] at hcode
    go_wp2
    go_loopw [11, 12] (fun v s wr => ∃ i : Nat, i ≤ n ∧ s = .int .i64 (i : Int) ∧ OwnC wr w2.heap.size v (Em.many i) ∧ Below w2.heap.size w2 wr) (fun _ s _ => n - (intOf s).toNat)
    case atStart => exact ⟨0, by omega, rfl, ownC_nil _ _, Below.refl _ _⟩
    case round =>
      obtain ⟨i, hi, rfl, hown, hb⟩ := hrel
      by_cases hlt : i < n
      · have i1 : (i : Int) < (n : Int) := by omega
        have i2 : IntKind.i64.wrap ((i : Int) + 1) = ((i + 1 : Nat) : Int) := IntWalk.i64_in _ (by omega)
        have ba : ∀ c, Below wr.heap.size wr (wr.alloc c) := fun c => (Below.refl _ _).alloc (Nat.le_refl _) c
        have HI := Lib.hid (And.intro hown hb)
        clear hown hb
        go_wp2_with (at_builtin; go_loud (refine wpList_append_chg rfl (.tmp 122) (.tmp 124) rfl w2.heap.size _ (Em.many i) ⟨[97], [120], false⟩ rfl (HI.out.1.later (ba _)) wr.heap.size 1 rfl (heap_alloc_last wr _) (by simp [Em.many]; omega) (by have := HI.out.2.size; simp; omega) (HI.out.2.trans ((ba _).mono HI.out.2.size)) ?_); intro v' w' h1 h2)
        go_roundw
        case rel => exact ⟨i + 1, by omega, by go_num, by rw [many_succ]; exact h1.out, h2.out⟩
        case measure => simp [intOf]; omega
      · obtain rfl : i = n := by omega
        have i1 : ¬ (i : Int) < (i : Int) := by omega
        have HI := Lib.hid (And.intro hown hb)
        have CC := Lib.hid (commit_c (log_below X2.out hb) (by rw [Q2.out.disk.waits]; decide) hown.at (by simp [Em.many]; omega) (by intro c hc; simp [Em.many] at hc; obtain ⟨_, rfl⟩ := hc; decide))
        have HB := Lib.hid (below_more H2.out.1 hb)
        clear hown hb
        generalize Em.E.commit E0 (Em.many i) = R1 at *
        go_wp2_with (first
          | (go_at_call 11; refine CC.out.mono ?_; rintro e w3 ⟨rfl, m3, x3⟩
             have B3 := below_plm HB.out m3 H2.out.2 H1.out.2.1 H1.out.2.2
             have WC := Lib.hid (works19_c w3)
             clear m3 x3)
          | (go_at_call 12; refine (num19_c _ _).mono ?_; rintro e w' ⟨rfl, rfl⟩)
          | (go_at_call 8; refine WC.out.mono ?_; rintro e w4 ⟨rfl, b4⟩))
        go_ret
        exact ⟨rfl, below_more B3 b4⟩

end Go.Proofs.YtgffifleflkjoaaGreat
