/-
  evlog: the chapter's rows.
  evlog: the bounds, plain.
  evlog: rows in a list that rises, as the document has them; they are those of the map, plain.
  The document's batches: which may be.
-/
import Derived.Test.YtgffifleflkjoaaGreatG13
import Derived.Test.YtgffifleflkjoaaGreatG19
import Derived.Maps.Views

namespace Go.Proofs.YtgffifleflkjoaaGreat
open Go.RowKit Dm

abbrev chg (c : Em.Change) : Value := .agg #[strOfB c.key, strOfB c.value, .bool c.gone]

/-- What the slots of the statement hold. -/
def kind7 (pl : Nat) : Nat → KindW
  | 0 | 4 | 8 => .val (.pointer (some ⟨pl, 0, none⟩))
  | 1 => .val (chg ⟨[], [], false⟩)
  | 5 => .val (chg ⟨[97], [49], true⟩)
  | 11 => .val (chg ⟨Em.z65, [], false⟩)
  | 2 => .chg Em.b1
  | 6 => .chg Em.b2
  | 12 => .chg Em.b3
  | 9 => .byt Em.z65
  | 10 => .val (strOfB Em.z65)
  | 3 | 14 => .val (.int .i64 2)
  | 7 | 15 => .val (.int .i64 2)
  | 13 | 16 => .val (.int .i64 3)
  | _ => .free

theorem below_plm {w0 W W' : World} {pl pd md : Nat} (hb : Below w0.heap.size w0 W) (h : Moves (PLM pl pd md) W W') (h1 : w0.heap.size ≤ pl) (h2 : w0.heap.size ≤ pd) (h3 : w0.heap.size ≤ md) : Below w0.heap.size w0 W' :=
  hb.trans ⟨h.os, h.tape, h.output, h.size, fun k hk => h.block k (by have := hb.size; omega) (fun e => by rcases e with e | e | e <;> omega)⟩

theorem below_pm {w0 W W' : World} {pd md : Nat} (hb : Below w0.heap.size w0 W) (h : Moves (PM pd md) W W') (h2 : w0.heap.size ≤ pd) (h3 : w0.heap.size ≤ md) : Below w0.heap.size w0 W' :=
  hb.trans ⟨h.os, h.tape, h.output, h.size, fun k hk => h.block k (by have := hb.size; omega) (fun e => by rcases e with e | e <;> omega)⟩

theorem below_more {w0 W W' : World} (hb : Below w0.heap.size w0 W) (h : Below W.heap.size W W') : Below w0.heap.size w0 W' := hb.trans (h.mono hb.size)

set_option maxRecDepth 100000 in
set_option maxHeartbeats 4000000 in
theorem works19_c (w : World) : Calls Tryz.prog 8 #[] w fun e w' => e = .returned (.bool true) ∧ Below w.heap.size w w' := by
  have NW := Lib.hid (new_c 4 4000 w rfl)
  go_enter Tryz.func8, Tryz.ntmps8
  go_upto_region 2 with (go_at_call 9; refine NW.out.mono ?_; rintro e w1 ⟨p, m, rfl, hb1, hp, hm, x1⟩)
  have lx := x1.lt
  have x1 : DiskAt w1.heap p m (Dm.new 4 4000) (fun k => k < w1.heap.size ∧ k ≠ p ∧ k ≠ m) := x1.weak (fun k hk hl => ⟨hl, hk.2⟩) (fun h => h.2.1 rfl) (fun h => h.2.2 rfl)
  obtain ⟨q1, q2, q3, q4, q5⟩ := Em.begun_fine (s := 4) (room := 4000) (by decide)
  have OC := Lib.hid (open_c (ts := fun _ => Em.T.none) x1 (by show 0 ≤ _; decide) (fun i h => h.1) (fun k _ => reads_nil k) rfl)
  have H1 := Lib.hid (And.intro hb1 (And.intro hp hm))
  clear hb1 hp hm x1 lx NW
  go_upto_region 3 with (go_at_call 10; refine OC.out.mono ?_; rintro e w2 ⟨m2, o2, _⟩; obtain ⟨pl, F2, rfl, x2, hpl, hF2, _⟩ := o2 q1)
  have H2 := Lib.hid (And.intro m2 (And.intro hpl hF2))
  clear m2 o2 hpl hF2 OC
  obtain ⟨E0, hE0⟩ : ∃ E0, (Em.begun (Dm.new 4 4000)).1 = E0 := ⟨_, rfl⟩
  rw [show ((4000 : Nat) : Int) = 4000 from rfl] at q2 q3 q4 q5
  rw [hE0] at x2 q2 q3 q4 q5
  clear hE0 q1
  have ba : ∀ c, Below w2.heap.size w2 (w2.alloc c) := fun c => (Below.refl _ _).alloc (Nat.le_refl _) c
  obtain ⟨r1, r2, r3, r4, r5⟩ := q2.commit (l := Em.l1) (by rw [q3]; exact Em.l1_done) (by have := Em.l1_len; omega) (by omega) (by have := Em.l1_len; omega)
  have CC := commit_c (log_below x2 (ba _)) (by rw [q2.disk.waits]; decide) (changes_row (heap_alloc_last w2 (.cells #[.string ⟨#[97]⟩, .string ⟨#[49]⟩, .bool false, .string ⟨#[98]⟩, .string ⟨#[50]⟩, .bool false, .string ⟨#[97]⟩, .string ⟨#[]⟩, .bool true] tChange)) (F := fun _ => True) (l := Em.l1) (cap := 3) trivial (by decide) (by decide) rfl) (by decide) (by decide)
  have CC := Lib.hid CC
  have L5 := Em.l1_len
  rw [q3] at r3
  have H3 := Lib.hid (And.intro (below_more (below_pm H1.out.1 H2.out.1 H1.out.2.1 H1.out.2.2) (ba (.cells #[.string ⟨#[97]⟩, .string ⟨#[49]⟩, .bool false, .string ⟨#[98]⟩, .string ⟨#[50]⟩, .bool false, .string ⟨#[97]⟩, .string ⟨#[]⟩, .bool true] tChange))) (show w.heap.size ≤ pl from Nat.le_trans H1.out.1.size H2.out.2.1))
  generalize hE1 : Em.E.commit E0 Em.l1 = R1 at *
  clear x2 q3 ba
  go_upto_region 4 with (go_at_call 11; refine CC.out.mono ?_; rintro e w3 ⟨rfl, m3, x3⟩
                         have B3 := below_plm H3.out.1 m3 H3.out.2 H1.out.2.1 H1.out.2.2
                         clear m3)
  obtain ⟨F3, x3⟩ : ∃ F3, LogAt w3 pl p m R1.1 F3 := ⟨_, x3⟩
  obtain ⟨E1, hE⟩ : ∃ E1, R1.1 = E1 := ⟨_, rfl⟩
  rw [hE] at x3 r2 r3 r4 r5
  clear hE hE1 CC r1
  have r3 : E1.rows = Em.D1 := r3
  have LC := len_c x3
  have GC := gen_c x3
  have GB := get_c x3 [98] (by decide)
  have GA := get_c x3 [97] (by decide)
  rw [r3, Em.D1_size] at LC
  rw [r2.gen] at GC
  rw [r3, Em.D1_b.1, Em.D1_b.2] at GB
  rw [r3, Em.D1_a.1] at GA
  have LC := Lib.hid LC
  have GC := Lib.hid GC
  have GB := Lib.hid GB
  have GA := Lib.hid GA
  go_upto_region 7 with (first
    | (go_at_call 22; refine LC.out.mono ?_; rintro e w4 ⟨rfl, rfl⟩)
    | (go_at_call 23; refine GC.out.mono ?_; rintro e w4 ⟨rfl, rfl⟩)
    | (go_at_call 21; (with_reducible refine GB.out.mono ?_); rintro e w4 ⟨rfl, rfl⟩)
    | (go_at_call 21; (with_reducible refine GA.out.mono ?_); rintro e w4 ⟨rfl, rfl⟩))
  clear LC GC GB GA
  have X3 := Lib.hid x3
  have j0 : JW w3 (kind7 pl) (fun _ => false) (fun _ => undef) w3.drew := ⟨(Below.refl _ _).drew, fun k h => by cases h⟩
  have HB : ∀ (l : List Em.Change) (c : Int), Em.doneErr Em.D1 l = c → c ≠ 0 → l.length ≤ 1000000 → (∀ c ∈ l, c.key.length ≤ 1000000000 ∧ c.value.length ≤ 1000000000) → ∀ W v, Below w3.heap.size w3 W → ChangesAt W (fun b => w3.heap.size ≤ b) v l →
      Calls Tryz.prog 11 #[.pointer (some ⟨pl, 0, none⟩), v] W fun en w' => en = .returned (.int .i64 c) ∧ Below W.heap.size W w' := by
    intro l c h1 h2 h3 h4 W v hb hc
    have := commit_bad_c (log_below X3.out hb) hc h3 h4 (by rw [r3, h1]; exact h2)
    rw [r3, h1] at this
    exact this
  have HB := Lib.hid HB
  clear x3
  refine wp_region_joint _ (JW w3 (kind7 pl)) (by kernel_rfl) rfl (by kernel_rfl) (fun L L' vals w hL h => h.ext (n := 17) hL (fun k hk => by match k, hk with | k + 17, _ => rfl)) j0 ?_ ?_
  · intro i o L vals a W hi hLi hd hl hj hs hold
    match i, hi with
    | 0, hi =>
      obtain rfl := Option.some.inj hi
      have h1 : a.tmps[3]? = some _ := hold 3 (by kernel_rfl)
      refine wpList_plain rfl fun K hK => ?_
      go_simp
      exact hK _ _ (wpList_nil ⟨rfl, _, rfl, hj.same 0 _ rfl⟩)
    | 4, hi =>
      obtain rfl := Option.some.inj hi
      have h1 : a.tmps[3]? = some _ := hold 3 (by kernel_rfl)
      refine wpList_plain rfl fun K hK => ?_
      go_simp
      exact hK _ _ (wpList_nil ⟨rfl, _, rfl, hj.same 4 _ rfl⟩)
    | 8, hi =>
      obtain rfl := Option.some.inj hi
      have h1 : a.tmps[3]? = some _ := hold 3 (by kernel_rfl)
      refine wpList_plain rfl fun K hK => ?_
      go_simp
      exact hK _ _ (wpList_nil ⟨rfl, _, rfl, hj.same 8 _ rfl⟩)
    | 1, hi =>
      obtain rfl := Option.some.inj hi
      refine wpList_plain rfl fun K hK => ?_
      go_simp
      exact hK _ _ (wpList_nil ⟨rfl, _, rfl, hj.same 1 _ rfl⟩)
    | 5, hi =>
      obtain rfl := Option.some.inj hi
      refine wpList_plain rfl fun K hK => ?_
      go_simp
      exact hK _ _ (wpList_nil ⟨rfl, _, rfl, hj.same 5 _ rfl⟩)
    | 2, hi =>
      obtain rfl := Option.some.inj hi
      have e1 := hs 1 _ 50 rfl rfl (hd 1 (by kernel_rfl))
      rw [show vals 1 = _ from hj.holds 1 (hd 1 (by kernel_rfl))] at e1
      refine wpList_plain rfl fun K hK => ?_
      go_simp
      exact hK _ _ (wpList_nil ⟨rfl, _, rfl, hj.put ((Below.refl _ _).alloc (Nat.le_refl _) _) 2 _ (changes_row (l := Em.b1) (cap := 1) (heap_alloc_last W _) hj.below.size (by decide) (by decide) rfl)⟩)
    | 6, hi =>
      obtain rfl := Option.some.inj hi
      have e1 := hs 5 _ 54 rfl rfl (hd 5 (by kernel_rfl))
      rw [show vals 5 = _ from hj.holds 5 (hd 5 (by kernel_rfl))] at e1
      refine wpList_plain rfl fun K hK => ?_
      go_simp
      exact hK _ _ (wpList_nil ⟨rfl, _, rfl, hj.put ((Below.refl _ _).alloc (Nat.le_refl _) _) 6 _ (changes_row (l := Em.b2) (cap := 1) (heap_alloc_last W _) hj.below.size (by decide) (by decide) rfl)⟩)
    | 12, hi =>
      obtain rfl := Option.some.inj hi
      have e1 := hs 11 _ 60 rfl rfl (hd 11 (by kernel_rfl))
      rw [show vals 11 = _ from hj.holds 11 (hd 11 (by kernel_rfl))] at e1
      refine wpList_plain rfl fun K hK => ?_
      go_simp
      exact hK _ _ (wpList_nil ⟨rfl, _, rfl, hj.put ((Below.refl _ _).alloc (Nat.le_refl _) _) 12 _ (changes_row (l := Em.b3) (cap := 1) (heap_alloc_last W _) hj.below.size (by decide) (by decide) rfl)⟩)
    | 3, hi =>
      obtain rfl := Option.some.inj hi
      have e0 := hs 0 _ 49 rfl rfl (hd 0 (by kernel_rfl))
      rw [show vals 0 = _ from hj.holds 0 (hd 0 (by kernel_rfl))] at e0
      have e1 := hs 2 _ 51 rfl rfl (hd 2 (by kernel_rfl))
      have CB := Lib.hid (HB.out Em.b1 2 Em.b1_done (by decide) (by decide) (by decide) W (vals 2) hj.below (hj.holds 2 (hd 2 (by kernel_rfl))))
      refine wpList_plain rfl fun K hK => ?_
      go_simp
      go_at_call 11
      refine CB.out.mono ?_
      rintro e W2 ⟨rfl, hb⟩
      exact hK _ _ (wpList_nil ⟨rfl, _, rfl, hj.put hb 3 _ rfl⟩)
    | 7, hi =>
      obtain rfl := Option.some.inj hi
      have e0 := hs 4 _ 53 rfl rfl (hd 4 (by kernel_rfl))
      rw [show vals 4 = _ from hj.holds 4 (hd 4 (by kernel_rfl))] at e0
      have e1 := hs 6 _ 55 rfl rfl (hd 6 (by kernel_rfl))
      have CB := Lib.hid (HB.out Em.b2 2 Em.b2_done (by decide) (by decide) (by decide) W (vals 6) hj.below (hj.holds 6 (hd 6 (by kernel_rfl))))
      refine wpList_plain rfl fun K hK => ?_
      go_simp
      go_at_call 11
      refine CB.out.mono ?_
      rintro e W2 ⟨rfl, hb⟩
      exact hK _ _ (wpList_nil ⟨rfl, _, rfl, hj.put hb 7 _ rfl⟩)
    | 13, hi =>
      obtain rfl := Option.some.inj hi
      have e0 := hs 8 _ 57 rfl rfl (hd 8 (by kernel_rfl))
      rw [show vals 8 = _ from hj.holds 8 (hd 8 (by kernel_rfl))] at e0
      have e1 := hs 12 _ 61 rfl rfl (hd 12 (by kernel_rfl))
      have CB := Lib.hid (HB.out Em.b3 3 Em.b3_done (by decide) (by decide) (by decide) W (vals 12) hj.below (hj.holds 12 (hd 12 (by kernel_rfl))))
      refine wpList_plain rfl fun K hK => ?_
      go_simp
      go_at_call 11
      refine CB.out.mono ?_
      rintro e W2 ⟨rfl, hb⟩
      exact hK _ _ (wpList_nil ⟨rfl, _, rfl, hj.put hb 13 _ rfl⟩)
    | 9, hi =>
      obtain rfl := Option.some.inj hi
      have hmk := mk65
      refine wpList_plain rfl fun K hK => ?_
      go_simp
      exact hK _ _ (wpList_nil ⟨rfl, _, rfl, hj.put ((Below.refl _ _).alloc (Nat.le_refl _) _) 9 _ (zeros_row (heap_alloc_last W _) hj.below.size (by decide))⟩)
    | 10, hi =>
      obtain rfl := Option.some.inj hi
      have e1 := hs 9 _ 58 rfl rfl (hd 9 (by kernel_rfl))
      have hcv := run_string_of (hj.holds 9 (hd 9 (by kernel_rfl)))
      refine wpList_plain rfl fun K hK => ?_
      go_simp
      exact hK _ _ (wpList_nil ⟨rfl, _, rfl, hj.same 10 _ rfl⟩)
    | 11, hi =>
      obtain rfl := Option.some.inj hi
      have e1 := hs 10 _ 59 rfl rfl (hd 10 (by kernel_rfl))
      rw [show vals 10 = _ from hj.holds 10 (hd 10 (by kernel_rfl))] at e1
      refine wpList_plain rfl fun K hK => ?_
      go_simp
      exact hK _ _ (wpList_nil ⟨rfl, _, rfl, hj.same 11 _ rfl⟩)
    | 14, hi =>
      obtain rfl := Option.some.inj hi
      have e0 := hs 3 _ 52 rfl rfl (hd 3 (by kernel_rfl))
      rw [show vals 3 = _ from hj.holds 3 (hd 3 (by kernel_rfl))] at e0
      refine wpList_plain rfl fun K hK => ?_
      go_simp
      exact hK _ _ (wpList_nil ⟨rfl, _, rfl, hj.same 14 _ rfl⟩)
    | 15, hi =>
      obtain rfl := Option.some.inj hi
      have e0 := hs 7 _ 56 rfl rfl (hd 7 (by kernel_rfl))
      rw [show vals 7 = _ from hj.holds 7 (hd 7 (by kernel_rfl))] at e0
      refine wpList_plain rfl fun K hK => ?_
      go_simp
      exact hK _ _ (wpList_nil ⟨rfl, _, rfl, hj.same 15 _ rfl⟩)
    | 16, hi =>
      obtain rfl := Option.some.inj hi
      have e0 := hs 13 _ 62 rfl rfl (hd 13 (by kernel_rfl))
      rw [show vals 13 = _ from hj.holds 13 (hd 13 (by kernel_rfl))] at e0
      refine wpList_plain rfl fun K hK => ?_
      go_simp
      exact hK _ _ (wpList_nil ⟨rfl, _, rfl, hj.same 16 _ rfl⟩)
    | k + 17, hi => cases hi
  · intro vals W hj
    have q0 : vals 0 = _ := hj.holds 0 rfl
    have q14 : vals 14 = _ := hj.holds 14 rfl
    have q15 : vals 15 = _ := hj.holds 15 rfl
    have q16 : vals 16 = _ := hj.holds 16 rfl
    have HJ := Lib.hid hj.below
    clear hj j0 HB
    simp only [putL, Nat.zero_add, Nat.reduceAdd, q0, q14, q15, q16]
    clear q0 q14 q15 q16
    generalize vals 1 = u1
    generalize vals 2 = u2
    generalize vals 3 = u3
    generalize vals 4 = u4
    generalize vals 5 = u5
    generalize vals 6 = u6
    generalize vals 7 = u7
    generalize vals 8 = u8
    generalize vals 9 = u9
    generalize vals 10 = u10
    generalize vals 11 = u11
    generalize vals 12 = u12
    generalize vals 13 = u13
    go_simp
    obtain ⟨F4, x4⟩ : ∃ F4, LogAt W pl p m E1 F4 := ⟨_, log_below X3.out HJ.out⟩
    have B4 := below_more B3 HJ.out
    have hst : E1.d.stop 0 = ((E1.d.stop 0).1, 0) := by
      unfold D.stop
      rw [if_neg (by decide), if_neg (by rw [r2.disk.dead]; decide)]
    have SC := Lib.hid (stop_c x4.disk 0 (by decide))
    have X4 := Lib.hid x4
    have hwt : (E1.d.stop 0).1.waits = [] := by
      unfold D.stop
      rw [if_neg (by decide), if_neg (by rw [r2.disk.dead]; decide)]
      exact r2.disk.waits
    clear x4 X3 HJ
    go_upto_region 9 with (go_at_call 16; refine SC.out.mono ?_; rintro e w5 hs; obtain ⟨he, m5, x5⟩ := log_left_disk X4.out hs; rw [hst] at he; subst he; have B5 := below_plm B4 m5 H3.out.2 H1.out.2.1 H1.out.2.2; clear hs m5)
    have ba : ∀ c, Below w5.heap.size w5 (w5.alloc c) := fun c => (Below.refl _ _).alloc (Nat.le_refl _) c
    obtain ⟨s1, s2, s3⟩ := r2.stopped (l := Em.lc) (by rw [r3]; exact Em.lc_done) (by have := Em.lc_len; omega) (by omega) (by have := Em.lc_len; omega)
    have hw2 := commit_waits { E1 with d := (E1.d.stop 0).1 } Em.lc
    have CC := Lib.hid (commit_c (log_below x5 (ba _)) (by show (E1.d.stop 0).1.waits.length ≤ _; rw [hwt]; decide) (changes_row (heap_alloc_last w5 (.cells #[.string ⟨#[99]⟩, .string ⟨#[51]⟩, .bool false] tChange)) (F := fun _ => True) (l := Em.lc) (cap := 1) trivial (by decide) (by decide) rfl) (by decide) (by decide))
    have B5a := below_more B5 (ba (.cells #[.string ⟨#[99]⟩, .string ⟨#[51]⟩, .bool false] tChange))
    have hw2 : (Em.E.commit { E1 with d := (E1.d.stop 0).1 } Em.lc).1.d.waits.length ≤ 5 := by
      have e0 : ({ E1 with d := (E1.d.stop 0).1 } : Em.E).d.waits.length = 0 := by show (E1.d.stop 0).1.waits.length = 0; rw [hwt]; rfl
      omega
    generalize Em.E.commit { E1 with d := (E1.d.stop 0).1 } Em.lc = R2 at *
    clear x5 ba
    go_upto_region 10 with (go_at_call 11; refine CC.out.mono ?_; rintro e w6 ⟨rfl, m6, x6⟩
                            have B6 := below_plm B5a m6 H3.out.2 H1.out.2.1 H1.out.2.2
                            clear m6)
    obtain ⟨F6, x6⟩ : ∃ F6, LogAt w6 pl p m R2.1 F6 := ⟨_, x6⟩
    obtain ⟨E3, hE⟩ : ∃ E3, R2.1 = E3 := ⟨_, rfl⟩
    rw [hE] at x6 s2 s3 hw2
    clear hE CC
    have GC := get_c x6 [99] (by decide)
    rw [s3, r3, Em.D1_a.2] at GC
    have GC := Lib.hid GC
    have ba : ∀ c, Below w6.heap.size w6 (w6.alloc c) := fun c => (Below.refl _ _).alloc (Nat.le_refl _) c
    have CC := commit_c (log_below x6 (ba _)) (by omega) (changes_row (heap_alloc_last w6 (.cells #[.string ⟨#[100]⟩, .string ⟨#[52]⟩, .bool false] tChange)) (F := fun _ => True) (l := Em.ld) (cap := 1) trivial (by decide) (by decide) rfl) (by decide) (by decide)
    rw [commit_gone (by rw [s3, r3]; exact Em.ld_done) s2] at CC
    have CC := Lib.hid CC
    have B6a := below_more B6 (ba (.cells #[.string ⟨#[100]⟩, .string ⟨#[52]⟩, .bool false] tChange))
    clear x6 ba
    go_upto_region 12 with (first
      | (go_at_call 21; (with_reducible refine GC.out.mono ?_); rintro e w7 ⟨rfl, rfl⟩)
      | (go_at_call 11; refine CC.out.mono ?_; rintro e w8 ⟨rfl, m8, x8⟩
         have B8 := below_plm B6a m8 H3.out.2 H1.out.2.1 H1.out.2.2
         have GN := gone_c x8
         rw [s2] at GN
         have GN := Lib.hid GN
         clear m8 x8))
    clear GC CC
    go_wp2_with (first
      | (go_at_call 12; refine (num19_c _ _).mono ?_; rintro e w' ⟨rfl, rfl⟩)
      | (go_at_call 17; refine GN.out.mono ?_; rintro e w' ⟨rfl, rfl⟩))
    trace_state
    go_ret
    exact ⟨rfl, B8⟩

end Go.Proofs.YtgffifleflkjoaaGreat

namespace Go.Proofs.YtgffifleflkjoaaGreat.Em
open Go.Maps Cm

def zkey (n : Nat) : List Change := [⟨List.replicate n 0, [], false⟩]
def zval (n : Nat) : List Change := [⟨[97], List.replicate n 0, false⟩]
def many (n : Nat) : List Change := List.replicate n ⟨[97], [120], false⟩
def key2 (i k : Nat) : Change := ⟨[UInt8.ofNat (i + 1), UInt8.ofNat (k + 1)], [], false⟩
def roundN (i : Nat) : Nat := min 32 (255 - 32 * i)
def roundL (i : Nat) : List Change := (List.range (roundN i)).map (key2 i)
def lastL (n : Nat) : List Change := (List.range n).map fun j => ⟨[200, UInt8.ofNat j], [], false⟩
def rowsAt (i : Nat) : Rows := behind (.map []) ((List.range i).flatMap roundL)

theorem rowsAt_succ (i : Nat) : rowsAt (i + 1) = behind (rowsAt i) (roundL i) := by
  unfold rowsAt
  rw [List.range_succ, List.flatMap_append]
  unfold behind
  rw [List.foldl_append]
  simp

theorem zkey_done : doneErr (.map []) (zkey 63) = 0 ∧ doneErr (.map []) (zkey 64) = 0 ∧ doneErr (.map []) (zkey 65) = 3 := by decide +kernel
theorem zkey_len : (batchBody (zkey 63)).length ≤ 1000 ∧ (batchBody (zkey 64)).length ≤ 1000 := by decide +kernel
theorem many_done : doneErr (.map []) (many 63) = 0 ∧ doneErr (.map []) (many 64) = 0 ∧ doneErr (.map []) (many 65) = 3 := by decide +kernel
theorem many_len : (batchBody (many 63)).length ≤ 8192 ∧ (batchBody (many 64)).length ≤ 8192 := by decide +kernel

theorem zval_done (n : Nat) : doneErr (.map []) (zval n) = if 4096 < n then 3 else 0 := by
  have hr : right (zval n) = if 4096 < n then 3 else 0 := by
    unfold right zval Change.wrong Change.long
    simp
  unfold doneErr
  rw [hr]
  by_cases h : 4096 < n
  · rw [if_pos h]; rfl
  · rw [if_neg h]; rfl

theorem zval_len {n : Nat} (h : n ≤ 4096) : (batchBody (zval n)).length ≤ 8192 := by
  have h1 := (wnum_len 3).1
  have h2 := (wnum_len 1).1
  have h3 := laid_len (c := ⟨[97], List.replicate n 0, false⟩) (by simp [Change.long]; omega)
  unfold batchBody zval
  simp only [List.length_append, List.flatMap_cons, List.flatMap_nil, List.length_cons, List.length_nil, Nat.zero_add]
  omega

theorem rounds_done : ∀ i, i < 8 → doneErr (rowsAt i) (roundL i) = 0 := by decide +kernel
theorem rounds_len : ∀ i, i < 8 → (batchBody (roundL i)).length ≤ 1000 := by decide +kernel
theorem last_done : doneErr (rowsAt 8) (lastL 0) = 0 ∧ doneErr (rowsAt 8) (lastL 1) = 0 ∧ doneErr (rowsAt 8) (lastL 2) = 3 := by decide +kernel
theorem last_len : (batchBody (lastL 0)).length ≤ 1000 ∧ (batchBody (lastL 1)).length ≤ 1000 := by decide +kernel

/-- What a commit answers. -/
theorem commit_code {e : E} {room : Nat} {l : List Change} {c : Int} (h : Fine e room) (hd : doneErr e.rows l = c) (hl : c = 0 → (batchBody l).length ≤ 8192) (hb : e.batches < 32) (hr : e.fin + 8192 + 13 ≤ room / 2) : (e.commit l).2 = c := by
  by_cases hc : c = 0
  · subst hc
    exact (h.commit hd (hl rfl) hb (by have := hl rfl; omega)).1
  · have : e.commit l = (e, doneErr e.rows l) := if_pos (by omega)
    rw [this, hd]

end Go.Proofs.YtgffifleflkjoaaGreat.Em

namespace Go.Proofs.YtgffifleflkjoaaGreat.Em
open Go.Maps Cm

abbrev Pairs := List (Bytes × Bytes)

/-- The keys rise. -/
def Strict (l : Pairs) : Prop := l.Pairwise (fun a b => a.1 ≤ b.1 ∧ a.1 ≠ b.1)

def tell (D : Rows) : Pairs := (skeys D).map fun k => (k, valueOf D k)

def rgo (c : Change) : Bool → Pairs → Pairs
  | put, [] => if put = true then [] else [(c.key, c.value)]
  | put, r :: l => (if put = false ∧ c.key ≤ r.1 then [(c.key, c.value)] else []) ++ ((if r.1 ≠ c.key then [r] else []) ++ rgo c (put || decide (c.key ≤ r.1)) l)
def rdone (rows : Pairs) (c : Change) : Pairs := rgo c c.gone rows

theorem mem_rgo (c : Change) (x : Bytes × Bytes) : ∀ (l : Pairs) (put : Bool), x ∈ rgo c put l ↔ (x ∈ l ∧ x.1 ≠ c.key) ∨ (put = false ∧ x = (c.key, c.value)) := by
  intro l
  induction l with
  | nil =>
    intro put
    cases put <;> simp [rgo]
  | cons r l ih =>
    intro put
    rw [rgo, List.mem_append, List.mem_append, ih]
    have h1 : x ∈ (if r.1 ≠ c.key then [r] else []) ↔ x = r ∧ x.1 ≠ c.key := by
      by_cases h : r.1 ≠ c.key
      · rw [if_pos h]
        constructor
        · intro hx
          have : x = r := by simpa using hx
          exact ⟨this, by rw [this]; exact h⟩
        · rintro ⟨rfl, _⟩; simp
      · rw [if_neg h]
        constructor
        · intro hx; cases hx
        · rintro ⟨rfl, hx⟩; exact absurd hx h
    rw [h1, List.mem_cons]
    by_cases hk : c.key ≤ r.1
    · cases put
      · rw [if_pos ⟨rfl, hk⟩]
        have hd : decide (c.key ≤ r.1) = true := by simpa using hk
        rw [hd]
        simp only [Bool.false_or, List.mem_singleton]
        constructor
        · rintro (h | ⟨h, h'⟩ | ⟨h, h'⟩ | ⟨h, _⟩)
          · exact Or.inr ⟨trivial, h⟩
          · exact Or.inl ⟨Or.inl h, h'⟩
          · exact Or.inl ⟨Or.inr h, h'⟩
          · cases h
        · rintro (⟨h | h, h'⟩ | ⟨_, h⟩)
          · exact Or.inr (Or.inl ⟨h, h'⟩)
          · exact Or.inr (Or.inr (Or.inl ⟨h, h'⟩))
          · exact Or.inl h
      · rw [if_neg (by simp)]
        simp only [Bool.true_or, List.not_mem_nil, false_or]
        constructor
        · rintro (⟨h, h'⟩ | ⟨h, h'⟩ | ⟨h, _⟩)
          · exact Or.inl ⟨Or.inl h, h'⟩
          · exact Or.inl ⟨Or.inr h, h'⟩
          · cases h
        · rintro (⟨h | h, h'⟩ | ⟨h, _⟩)
          · exact Or.inl ⟨h, h'⟩
          · exact Or.inr (Or.inl ⟨h, h'⟩)
          · cases h
    · rw [if_neg (fun h => hk h.2)]
      have hd : decide (c.key ≤ r.1) = false := by simpa using hk
      rw [hd, Bool.or_false]
      simp only [List.not_mem_nil, false_or]
      constructor
      · rintro (⟨h, h'⟩ | ⟨h, h'⟩ | h)
        · exact Or.inl ⟨Or.inl h, h'⟩
        · exact Or.inl ⟨Or.inr h, h'⟩
        · exact Or.inr h
      · rintro (⟨h | h, h'⟩ | h)
        · exact Or.inl ⟨h, h'⟩
        · exact Or.inr (Or.inl ⟨h, h'⟩)
        · exact Or.inr (Or.inr h)

theorem lt_trans {a b c : Bytes} (h1 : a ≤ b) (n1 : a ≠ b) (h2 : b ≤ c) : a ≤ c ∧ a ≠ c := ⟨List.le_trans h1 h2, fun e => by subst e; exact n1 (List.le_antisymm h1 h2)⟩
theorem lt_trans' {a b c : Bytes} (h1 : a ≤ b) (h2 : b ≤ c) (n2 : b ≠ c) : a ≤ c ∧ a ≠ c := ⟨List.le_trans h1 h2, fun e => by subst e; exact n2 (List.le_antisymm h2 h1)⟩
theorem of_not_le {a b : Bytes} (h : ¬ a ≤ b) : b ≤ a ∧ b ≠ a := ⟨(List.le_total a b).resolve_left h, fun e => h (by subst e; exact List.le_refl _)⟩

theorem strict_rgo (c : Change) : ∀ (l : Pairs) (put : Bool), Strict l → Strict (rgo c put l) := by
  intro l
  induction l with
  | nil =>
    intro put _
    cases put <;> simp [rgo, Strict]
  | cons r l ih =>
    intro put h
    obtain ⟨h1, h2⟩ := List.pairwise_cons.1 h
    have hs := ih (put || decide (c.key ≤ r.1)) h2
    -- what stands behind r rises, and is beyond it
    have back : Strict ((if r.1 ≠ c.key then [r] else []) ++ rgo c (put || decide (c.key ≤ r.1)) l) := by
      by_cases hr : r.1 ≠ c.key
      · rw [if_pos hr]
        refine List.pairwise_cons.2 ⟨fun x hx => ?_, hs⟩
        rcases (mem_rgo c x l _).1 hx with ⟨hx, _⟩ | ⟨hp, rfl⟩
        · exact h1 x hx
        · have hk : ¬ c.key ≤ r.1 := by
            intro hk
            have : decide (c.key ≤ r.1) = true := by simpa using hk
            rw [this, Bool.or_true] at hp
            cases hp
          exact of_not_le hk
      · rw [if_neg hr]; exact hs
    rw [rgo]
    by_cases hk : put = false ∧ c.key ≤ r.1
    · rw [if_pos hk]
      refine List.pairwise_cons.2 ⟨fun x hx => ?_, back⟩
      have hd : (put || decide (c.key ≤ r.1)) = true := by rw [hk.1]; simpa using hk.2
      rcases List.mem_append.1 (show x ∈ (if r.1 ≠ c.key then [r] else []) ++ rgo c (put || decide (c.key ≤ r.1)) l from hx) with hx | hx
      · by_cases hr : r.1 ≠ c.key
        · rw [if_pos hr] at hx
          have : x = r := by simpa using hx
          subst this
          exact ⟨hk.2, fun e => hr e.symm⟩
        · rw [if_neg hr] at hx; cases hx
      · rw [hd] at hx
        rcases (mem_rgo c x l _).1 hx with ⟨hx, hn⟩ | ⟨hp, _⟩
        · exact ⟨List.le_trans hk.2 (h1 x hx).1, fun e => hn e.symm⟩
        · cases hp
    · rw [if_neg hk]; exact back

/-- Two that rise and have the same are one. -/
theorem strict_ext {l l' : Pairs} (h : Strict l) (h' : Strict l') (hm : ∀ x, x ∈ l ↔ x ∈ l') : l = l' := by
  have nd : ∀ {l : Pairs}, Strict l → l.Nodup := fun h => h.imp (fun hab e => hab.2 (by rw [e]))
  refine List.Perm.eq_of_pairwise (le := fun a b : Bytes × Bytes => a.1 ≤ b.1 ∧ a.1 ≠ b.1) (fun a b _ _ h1 h2 => absurd (List.le_antisymm h1.1 h2.1) h1.2) h h' ?_
  exact (List.perm_ext_iff_of_nodup (nd h) (nd h')).2 hm

theorem skeys_has {D : Rows} (h : RowsOk D) (k : Bytes) : k ∈ skeys D ↔ has D (.string k) = true := by
  obtain ⟨es, rfl, h⟩ := h
  rw [show k ∈ skeys (.map es) ↔ k ∈ strKeys (.map es) from (List.mergeSort_perm _ _).mem_iff, has_eq, List.any_eq_true]
  show k ∈ es.map (fun p => strOf p.1) ↔ _
  rw [List.mem_map]
  constructor
  · rintro ⟨p, hp, rfl⟩
    obtain ⟨k', v, rfl, _⟩ := h p hp
    exact ⟨_, hp, by simp [strOf, Lit.sameKey]⟩
  · rintro ⟨p, hp, hk⟩
    obtain ⟨k', v, rfl, _⟩ := h p hp
    refine ⟨_, hp, ?_⟩
    by_cases e : (Lit.string k') = .string k
    · cases e; rfl
    · rw [sameKey_ne e] at hk; cases hk

theorem mem_tell {D : Rows} (h : RowsOk D) (x : Bytes × Bytes) : x ∈ tell D ↔ has D (.string x.1) = true ∧ x.2 = valueOf D x.1 := by
  unfold tell
  rw [List.mem_map]
  constructor
  · rintro ⟨k, hk, rfl⟩
    exact ⟨(skeys_has h k).1 hk, rfl⟩
  · rintro ⟨h1, h2⟩
    exact ⟨x.1, (skeys_has h x.1).2 h1, by rw [← h2]⟩

theorem tell_strict {D : Rows} (h : RowsOk D) (ht : Tidy D) : Strict (tell D) := by
  obtain ⟨es, rfl, h⟩ := h
  obtain ⟨es', e, hp⟩ := ht
  cases e
  have tr : ∀ a b c : Bytes, leB a b = true → leB b c = true → leB a c = true := fun a b c h1 h2 => by simp only [leB, decide_eq_true_eq] at *; exact List.le_trans h1 h2
  have tot : ∀ a b : Bytes, (leB a b || leB b a) = true := fun a b => by simp only [leB, Bool.or_eq_true, decide_eq_true_eq]; exact List.le_total a b
  have s1 := List.pairwise_mergeSort tr tot (strKeys (.map es))
  have nd : (strKeys (.map es)).Nodup := by
    show (es.map fun p => strOf p.1).Nodup
    refine List.pairwise_map.2 (hp.imp_of_mem fun {p q} hp' hq' hne e => hne ?_)
    obtain ⟨a, _, rfl, _⟩ := h p hp'
    obtain ⟨b, _, rfl, _⟩ := h q hq'
    exact congrArg Lit.string e
  have nd2 : (skeys (.map es)).Nodup := (List.mergeSort_perm _ _).nodup_iff.2 nd
  unfold Strict tell
  rw [List.pairwise_map]
  have := s1.and nd2
  exact this.imp (fun hab => ⟨by simpa [leB] using hab.1, hab.2⟩)

theorem tidy_one {D : Rows} (h : Tidy D) (c : Change) : Tidy (one D c) := by
  unfold one
  split
  · exact h.del _
  · exact h.put (show WideAt.IsKeyLit (.string c.key) from trivial) _

theorem tell_one {D : Rows} (h : RowsOk D) (ht : Tidy D) {c : Change} (h1 : c.wrong = false) (h2 : c.long = false) : tell (one D c) = rdone (tell D) c := by
  have hm : IsMap D := ht.isMap
  refine strict_ext (tell_strict (rowsOk_one h h1 h2) (tidy_one ht c)) (strict_rgo c _ _ (tell_strict h ht)) (fun x => ?_)
  obtain ⟨k, v⟩ := x
  rw [mem_tell (rowsOk_one h h1 h2)]
  unfold rdone
  rw [mem_rgo, mem_tell h]
  unfold one
  by_cases hg : c.gone = true
  · rw [if_pos hg, hg]
    by_cases hk : k = c.key
    · subst hk
      simp [has_del_same]
    · have hk' : (Lit.string k) ≠ .string c.key := fun e => hk (by cases e; rfl)
      have e1 : valueOf (D.del (.string c.key)) k = valueOf D k := by unfold valueOf; rw [atKey_del_other hk']
      simp only [has_del_other hk', e1]
      simp [hk]
  · have hg : c.gone = false := by simpa using hg
    rw [if_neg (by rw [hg]; decide), hg]
    by_cases hk : k = c.key
    · subst hk
      have e1 : valueOf (D.put (.string c.key) (.lit (.string c.value))) c.key = c.value := by unfold valueOf; rw [atKey_put_same hm (show WideAt.IsKeyLit (.string c.key) from trivial)]
      simp only [has_put_same hm (show WideAt.IsKeyLit (.string c.key) from trivial), e1]
      simp
    · have hk' : (Lit.string k) ≠ .string c.key := fun e => hk (by cases e; rfl)
      have e1 : valueOf (D.put (.string c.key) (.lit (.string c.value))) k = valueOf D k := by unfold valueOf; rw [atKey_put_other hk']
      simp only [has_put_other hk', e1]
      simp [hk]

theorem tell_fold {l : List Change} (h1 : ∀ c ∈ l, c.wrong = false ∧ c.long = false) : ∀ {D : Rows}, RowsOk D → Tidy D → tell (behind D l) = l.foldl rdone (tell D) ∧ Tidy (behind D l) := by
  induction l with
  | nil => exact fun _ ht => ⟨rfl, ht⟩
  | cons c l ih =>
    intro D h ht
    have hc := h1 c (List.mem_cons_self ..)
    have := ih (fun x hx => h1 x (List.mem_cons_of_mem _ hx)) (rowsOk_one h hc.1 hc.2) (tidy_one ht c)
    rw [List.foldl_cons, ← tell_one h ht hc.1 hc.2]
    exact this

theorem tell_len (D : Rows) : (tell D).length = size D := by unfold tell; rw [List.length_map, skeys_len]

/-- All, as the document says it. -/
def rall (rows : Pairs) (l : List Change) : Pairs × Int := if right l ≠ 0 then (rows, right l) else if 256 < (l.foldl rdone rows).length then (rows, 3) else (l.foldl rdone rows, 0)

theorem rall_tell {D : Rows} (h : RowsOk D) (ht : Tidy D) (l : List Change) : rall (tell D) l = if doneErr D l = 0 then (tell (behind D l), 0) else (tell D, doneErr D l) := by
  unfold rall doneErr
  by_cases hr : right l ≠ 0
  · rw [if_pos hr, if_pos hr, if_neg hr]
  · rw [if_neg hr, if_neg hr]
    have hr : right l = 0 := by omega
    obtain ⟨e1, _⟩ := tell_fold (right_zero hr).2 h ht
    rw [← e1, tell_len]
    by_cases h256 : 256 < size (behind D l)
    · rw [if_pos h256, if_pos h256]; rfl
    · rw [if_neg h256, if_neg h256]; rfl

end Go.Proofs.YtgffifleflkjoaaGreat.Em

namespace Go.Proofs.YtgffifleflkjoaaGreat
open Go.RowKit Dm

set_option maxRecDepth 100000 in
set_option maxHeartbeats 1000000 in
theorem rchange_c (w : World) (c : Em.Change) : Calls Tryz.prog 81 #[.agg #[strOfB c.key, strOfB c.value, .bool c.gone]] w fun e w' => e = .returned (.int .i64 (if c.wrong = true then 2 else 0)) ∧ Below w.heap.size w w' := by
  obtain ⟨k, v, g⟩ := c
  have Z := heap_alloc_last w (.cells #[strOfB k, strOfB v, .bool g] tChange)
  have z0 : (w.alloc (.cells #[strOfB k, strOfB v, .bool g] tChange)).cell? ⟨w.heap.size, 0, none⟩ = some (strOfB k) := (cell_of_row _ _ _ _ _ _ Z).trans rfl
  have z1 : (w.alloc (.cells #[strOfB k, strOfB v, .bool g] tChange)).cell? ⟨w.heap.size, 1, none⟩ = some (strOfB v) := (cell_of_row _ _ _ _ _ _ Z).trans rfl
  have z2 : (w.alloc (.cells #[strOfB k, strOfB v, .bool g] tChange)).cell? ⟨w.heap.size, 2, none⟩ = some (.bool g) := (cell_of_row _ _ _ _ _ _ Z).trans rfl
  clear Z
  have qk := empty_beq k
  have qv := empty_beq v
  go_enter Tryz.func81, Tryz.ntmps81
  go_wp2
  all_goals
    go_ret
    refine ⟨?_, (Below.refl _ _).alloc (Nat.le_refl _) _⟩
    simp_all [Em.Change.wrong]

theorem any_wrong_of {l : List Em.Change} {i : Nat} {c : Em.Change} (hc : l[i]? = some c) (h : c.wrong = true) : Em.right l = 2 := by
  unfold Em.right
  rw [if_pos (List.any_eq_true.2 ⟨c, List.mem_of_getElem? hc, h⟩)]

theorem any_not {α : Type} {p : α → Bool} {l : List α} (h : ∀ (j : Nat) (c : α), l[j]? = some c → p c = false) : l.any p = false := by
  rw [List.any_eq_false]
  intro c hc
  obtain ⟨j, hj, rfl⟩ := List.mem_iff_getElem.1 hc
  rw [h j _ (List.getElem?_eq_getElem hj)]
  decide

set_option maxRecDepth 100000 in
set_option maxHeartbeats 2000000 in
theorem rbatch_c {w : World} {F : Nat → Prop} {v : Value} {l : List Em.Change} (h : ChangesAt w F v l) (hl : l.length ≤ 1000000000) :
    Calls Tryz.prog 40 #[v] w fun e w' => e = .returned (.int .i64 (Em.right l)) ∧ Below w.heap.size w w' := by
  obtain ⟨a, cap, rfl⟩ := h.slice
  have H := Lib.hid h
  clear h
  generalize hN : l.length = N at *
  have HN := Lib.hid hN
  clear hN
  go_enter Tryz.func40, Tryz.ntmps40
  go_wp2
  go_loopw [3] (fun s wr => ∃ i : Nat, i ≤ N ∧ s = .int .i64 (i : Int) ∧ (∀ (j : Nat) (c : Em.Change), j < i → l[j]? = some c → c.wrong = false) ∧ Below w.heap.size w wr) (fun s _ => N - (intOf s).toNat)
  case atStart => exact ⟨0, by omega, rfl, fun j c hj => absurd hj (by omega), Below.refl _ _⟩
  case round =>
    obtain ⟨i, hi, rfl, hno, hb⟩ := hrel
    by_cases hlt : i < N
    · have i0 : (0 : Int) ≤ (i : Int) := by omega
      have i1 : (i : Int) < (N : Int) := by omega
      obtain ⟨c, hc⟩ : ∃ c, l[i]? = some c := ⟨_, List.getElem?_eq_getElem (by rw [HN.out]; exact hlt)⟩
      obtain ⟨b, o, rfl, fb, lb, rg⟩ := H.out.at hc
      have RG := Lib.hid (show wr.rangeAt b (o + i * 3) [strOfB c.key, strOfB c.value, .bool c.gone] from fun j v hj => (hb.cell (p := ⟨b, o + i * 3 + j, none⟩) lb).trans (rg j v hj))
      have CC := Lib.hid (rchange_c wr c)
      have HI := Lib.hid (And.intro hno (And.intro hb hc))
      clear hno hb hc rg
      cases hw : c.wrong
      · rw [hw] at CC
        have HW := Lib.hid hw
        clear hw
        go_wp2_with (first
          | (refine wpList_load_mid rfl tChange (.tmp 13) rfl b (o + i * 3) rfl _ _ RG.out Tryz.underlying33 rfl infoChange ?_)
          | (go_at_call 81; refine CC.out.mono ?_; rintro e w1 ⟨rfl, b1⟩; have H1 := Lib.hid b1; clear b1))
        go_roundw
        case rel =>
          refine ⟨i + 1, by omega, by go_num, fun j c' hj hc' => ?_, below_more HI.out.2.1 H1.out⟩
          by_cases e : j = i
          · subst e
            rw [HI.out.2.2] at hc'
            cases hc'
            exact HW.out
          · exact HI.out.1 j c' (by omega) hc'
        case measure => simp [intOf]; omega
      · rw [hw] at CC
        have HR := Lib.hid (any_wrong_of HI.out.2.2 hw)
        clear hw
        go_wp2_with (first
          | (refine wpList_load_mid rfl tChange (.tmp 13) rfl b (o + i * 3) rfl _ _ RG.out Tryz.underlying33 rfl infoChange ?_)
          | (go_at_call 81; refine CC.out.mono ?_; rintro e w1 ⟨rfl, b1⟩; have H1 := Lib.hid b1; clear b1))
        go_ret
        exact ⟨by rw [HR.out]; rfl, below_more HI.out.2.1 H1.out⟩
    · obtain rfl : i = N := by omega
      have hno : l.any Em.Change.wrong = false := any_not (fun j c hj => hno j c (by have := (List.getElem?_eq_some_iff.1 hj).1; have := HN.out; omega) hj)
      have HO := Lib.hid (And.intro hno hb)
      clear hno hb
      obtain ⟨W0, hW0⟩ : ∃ W0, W0 = wr := ⟨wr, rfl⟩
      subst hW0
      go_wp2
      go_loopw [4] (fun s wr => ∃ k : Nat, k ≤ i ∧ s = .int .i64 (k : Int) ∧ (∀ (j : Nat) (c : Em.Change), j < k → l[j]? = some c → c.long = false) ∧ Below w.heap.size w wr) (fun s _ => i - (intOf s).toNat)
      case atStart => exact ⟨0, by omega, rfl, fun j c hj => absurd hj (by omega), HO.out.2⟩
      case round =>
        obtain ⟨k, hk, rfl, hnl, hb⟩ := hrel
        by_cases hlt : k < i
        · have i0 : (0 : Int) ≤ (k : Int) := by omega
          have i1 : (k : Int) < (i : Int) := by omega
          obtain ⟨c, hc⟩ : ∃ c, l[k]? = some c := ⟨_, List.getElem?_eq_getElem (by rw [HN.out]; exact hlt)⟩
          obtain ⟨b, o, rfl, fb, lb, rg⟩ := H.out.at hc
          have z0 : wr.cell? ⟨b, o + k * 3, none⟩ = some (strOfB c.key) := (hb.cell (p := ⟨b, o + k * 3 + 0, none⟩) lb).trans (rg 0 _ rfl)
          have z1 : wr.cell? ⟨b, o + k * 3 + 1, none⟩ = some (strOfB c.value) := (hb.cell (p := ⟨b, o + k * 3 + 1, none⟩) lb).trans (rg 1 _ rfl)
          have HI := Lib.hid (And.intro hnl (And.intro hb hc))
          clear hnl hb hc rg
          cases hg : c.long
          · have hg' := Em.long_not hg
            have d1 : ¬ (64 : Int) < (c.key.length : Int) := by omega
            have d2 : ¬ (4096 : Int) < (c.value.length : Int) := by omega
            have HG := Lib.hid hg
            clear hg hg'
            go_wp2
            go_roundw
            case rel =>
              refine ⟨k + 1, by omega, by go_num, fun j c' hj hc' => ?_, HI.out.2.1⟩
              by_cases e : j = k
              · subst e
                rw [HI.out.2.2] at hc'
                cases hc'
                exact HG.out
              · exact HI.out.1 j c' (by omega) hc'
            case measure => simp [intOf]; omega
          · have HR := Lib.hid (show Em.right l = 3 by
              unfold Em.right
              rw [if_neg (by rw [HO.out.1]; decide)]
              by_cases h64 : 64 < l.length
              · rw [if_pos h64]
              · rw [if_neg h64, if_pos (List.any_eq_true.2 ⟨c, List.mem_of_getElem? HI.out.2.2, hg⟩)])
            by_cases h64 : 64 < c.key.length
            · have d1 : (64 : Int) < (c.key.length : Int) := by omega
              clear hg h64
              go_wp2
              go_ret
              exact ⟨by rw [HR.out]; rfl, HI.out.2.1⟩
            · have d1 : ¬ (64 : Int) < (c.key.length : Int) := by omega
              have d2 : (4096 : Int) < (c.value.length : Int) := by
                unfold Em.Change.long at hg
                simp at hg
                omega
              clear hg h64
              go_wp2
              go_ret
              exact ⟨by rw [HR.out]; rfl, HI.out.2.1⟩
        · obtain rfl : k = i := by omega
          have hnl : l.any Em.Change.long = false := any_not (fun j c hj => hnl j c (by have := (List.getElem?_eq_some_iff.1 hj).1; have := HN.out; omega) hj)
          by_cases h64 : 64 < k
          · have HR := Lib.hid (show Em.right l = 3 by unfold Em.right; rw [if_neg (by rw [HO.out.1]; decide), if_pos (by rw [HN.out]; exact h64)])
            have d1 : (64 : Int) < (k : Int) := by omega
            clear hnl h64
            go_wp2
            go_ret
            exact ⟨by rw [HR.out]; rfl, hb⟩
          · have HR := Lib.hid (show Em.right l = 0 by unfold Em.right; rw [if_neg (by rw [HO.out.1]; decide), if_neg (by rw [HN.out]; exact h64), if_neg (by rw [hnl]; decide)])
            have d1 : ¬ (64 : Int) < (k : Int) := by omega
            clear hnl h64
            go_wp2
            go_ret
            exact ⟨by rw [HR.out]; rfl, hb⟩

end Go.Proofs.YtgffifleflkjoaaGreat
