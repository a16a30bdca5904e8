/-
  holds, begins, stands.
  The document's disk: a step in part.
  The document's disk: Crash.
-/
import Derived.Test.YtiefhmbpaoecfaaG11
import Derived.Test.YtiefhmbpaoecfaaG17

namespace Go.Proofs.Ytiefhmbpaoecfaa
open Go.RowKit Dm

set_option maxRecDepth 100000 in
theorem holds_c {p m : Nat} {d : D} {F G : Nat → Prop} {w : World} (x : DiskAt w.heap p m d F) (s : Int) (h0 : 0 ≤ s) (h1 : s < d.many) {v : Value} {l : List UInt8} (hv : BytesAt w.heap G v l) :
    Calls Try.prog 18 #[.pointer (some ⟨p, 0, none⟩), .int .i64 s, v] w fun e w' => e = .returned (.bool (d.stand.sec s == l)) ∧ Below w.heap.size w w' := by
  have RD := Lib.hid (read_c x s)
  rw [if_neg (by omega), if_neg (by omega)] at RD
  generalize d.stand.sec s = ll at *
  obtain ⟨a, c, rfl⟩ := hv.slice
  have HV := Lib.hid hv
  clear hv x
  go_enter Try.func18, Try.ntmps18
  go_upto_region 2 with (go_at_call 17; refine RD.out.mono ?_; rintro e w1 ⟨v1, rfl, hb, f1⟩)
  have c1 := run_string_of f1.bytes
  have c2 := run_string_of (HV.out.below hb)
  obtain ⟨ra, rc, rfl⟩ := f1.bytes.slice
  clear f1
  go_wp2_with (go_at_call 9; refine (num_c _ _).mono ?_; rintro e w' ⟨rfl, rfl⟩)
  go_ret
  exact ⟨by simp, hb⟩

/-- Do bytes begin so? -/
def preB (ll l : List UInt8) : Bool := decide (l.length ≤ ll.length) && (ll.take l.length == l)

theorem BytesAt.take {h : Array Obj} {F : Nat → Prop} {a : Option Addr} {n c : Nat} {l : List UInt8} (x : BytesAt h F (.slice a n c) l) (k : Nat) (hk : k ≤ n) : BytesAt h F (.slice a k c) (l.take k) := by
  rcases x with ⟨h1, rfl⟩ | ⟨b, o, cap, cc, t, fr, h1, h2, h3, g2, g3, g4⟩
  · obtain ⟨rfl, rfl, rfl⟩ := Value.slice.inj h1
    obtain rfl : k = 0 := by omega
    exact Or.inl ⟨rfl, rfl⟩
  · obtain ⟨rfl, rfl, rfl⟩ := Value.slice.inj h1
    have e : (l.take k).length = k := by simp; omega
    refine Or.inr ⟨b, o, c, cc, t, fr, by rw [e], by rw [e]; omega, h3, g2, g3, fun i y hi => ?_⟩
    rw [List.getElem?_take] at hi
    split at hi
    · exact g4 i y hi
    · cases hi

set_option maxRecDepth 100000 in
theorem begins_c {p m : Nat} {d : D} {F G : Nat → Prop} {w : World} (x : DiskAt w.heap p m d F) (s : Int) (h0 : 0 ≤ s) (h1 : s ≤ 3) {v : Value} {l : List UInt8} (hv : BytesAt w.heap G v l) (hl : l.length ≤ 1048576) :
    Calls Try.prog 20 #[.pointer (some ⟨p, 0, none⟩), .int .i64 s, v] w fun e w' => e = .returned (.bool (preB (d.stand.tp s) l)) ∧ Below w.heap.size w w' := by
  have RD := Lib.hid (tape_c x s)
  rw [if_neg (by omega), if_neg (by omega)] at RD
  have hlt : (d.stand.tp s).length ≤ 1048576 := by
    obtain ⟨n, rfl, _⟩ := natOf (n := s) (k := 3) (by omega) (by omega)
    have := stand_tapes x.ok n
    have := x.ok.room1
    omega
  generalize d.stand.tp s = ll at *
  obtain ⟨a, c, rfl⟩ := hv.slice
  have HV := Lib.hid hv
  clear hv x
  have hca : l.length ≤ c := by
    rcases HV.out with ⟨h1, h2⟩ | ⟨b, o, cap, cc, t, fr, h1, h2, h3, g2, g3, g4⟩
    · rw [h2]; exact Nat.zero_le _
    · rw [(Value.slice.inj h1).2.2]; exact h2
  go_enter Try.func20, Try.ntmps20
  go_upto_region 2 with (go_at_call 19; refine RD.out.mono ?_; rintro e w1 ⟨v1, rfl, hb, f1⟩)
  have hca1 : ∃ ra rc, v1 = .slice ra ll.length rc ∧ ll.length ≤ rc ∧ rc ≤ 9223372036854775807 := by
    rcases f1 with ⟨h1, h2⟩ | ⟨b, cap, cc, t, h1, h2, h3, h4, h5, h6⟩
    · exact ⟨none, 0, by rw [h2]; exact h1, by rw [h2]; exact Nat.le_refl _, by omega⟩
    · exact ⟨_, _, h1, h2, h3⟩
  obtain ⟨ra, rc, rfl, hrc, hrc1⟩ := hca1
  have F1 := Lib.hid (And.intro f1 hb)
  clear f1 hb
  by_cases hle : l.length ≤ ll.length
  · have c1 := fun n => run_string_of (w := w1.drewN n) (F1.out.1.bytes.take l.length hle)
    have c2 := fun n => run_string_of (w := w1.drewN n) (HV.out.below (below_drewN F1.out.2 n))
    have hle1 : (l.length : Int) ≤ (ll.length : Int) := by omega
    go_quiet ((go_at_call 9; exact Calls.quiet_of_same ((num_c _ _).mono fun e w' h => ⟨h.1, h.2.symm⟩)))
    go_wp2
    go_ret
    exact ⟨by simp [preB, hle], below_drewN F1.out.2 _⟩
  · have hle1 : (ll.length : Int) < (l.length : Int) := by omega
    have hd : decide ((l.length : Int) ≤ (ll.length : Int)) = false := by simpa using hle
    have hd2 : decide (l.length ≤ ll.length) = false := by simpa using hle
    go_quiet ((go_at_call 9; exact Calls.quiet_of_same ((num_c _ _).mono fun e w' h => ⟨h.1, h.2.symm⟩)))
    go_wp2
    go_ret
    exact ⟨by simp [preB, hle], below_drewN F1.out.2 _⟩

set_option maxRecDepth 100000 in
/-- Two disks have the same sectors and tapes. -/
theorem stands_law_c {p m q mq : Nat} {d e : D} {F G : Nat → Prop} {w : World} (x : DiskAt w.heap p m d F) (y : DiskAt w.heap q mq e G) (hm : d.many = 8) (hm2 : e.many = 8)
    (ht : ∀ n : Nat, n < 4 → d.stand.tp n = e.stand.tp n) (hs : ∀ n : Nat, n < 8 → d.stand.sec n = e.stand.sec n) :
    Calls Try.prog 15 #[.pointer (some ⟨p, 0, none⟩), .pointer (some ⟨q, 0, none⟩)] w fun e w' => e = .returned (.bool true) ∧ Below w.heap.size w w' := by
  have HX := Lib.hid (And.intro (And.intro x y) (And.intro (And.intro hm hm2) (And.intro ht hs)))
  clear x y hm hm2 ht hs
  go_enter Try.func15, Try.ntmps15
  go_wp2
  go_loopg [5] 4 (fun g i wr => ∃ k : Nat, i = .int .i64 (k : Int) ∧ g + k = 4 ∧ Below w.heap.size w wr)
  case atStart => exact ⟨0, rfl, rfl, Below.refl _ _⟩
  case round =>
    obtain ⟨k, rfl, hg, rel⟩ := hrel
    by_cases hlt : k < 4
    · have hk0 : (0 : Int) ≤ (k : Int) := by omega
      have hk1 : (k : Int) < 4 := by omega
      have T1 := Lib.hid (tape_c (HX.out.1.1.below rel) (k : Int))
      rw [if_neg (by omega), if_neg (by omega), HX.out.2.2.1 k hlt] at T1
      have T2 := Lib.hid (fun w1 (hb : Below wr.heap.size wr w1) => tape_c (HX.out.1.2.below (rel.trans (hb.mono rel.size))) (k : Int))
      rw [if_neg (by omega), if_neg (by omega)] at T2
      generalize e.stand.tp k = ll at *
      have H := Lib.hid (And.intro rel hg)
      clear rel hg
      go_upto_region 5 with (go_at_call 19; refine T1.out.mono ?_; rintro e w1 ⟨v1, rfl, hb1, f1⟩)
      have U2 := Lib.hid (T2.out w1 hb1)
      have F1 := Lib.hid (And.intro hb1 f1)
      clear hb1 f1
      go_upto_region 6 with (go_at_call 19; refine U2.out.mono ?_; rintro e w2 ⟨v2, rfl, hb2, f2⟩)
      have c1 := run_string_of (F1.out.2.bytes.below hb2)
      have c2 := run_string_of f2.bytes
      have F2 := Lib.hid hb2
      clear hb2 f2
      go_wp2_with (go_at_call 9; refine (num_c _ _).mono ?_; rintro e w' ⟨rfl, rfl⟩)
      go_roundg (4 - (k + 1))
      case measure => have := H.out.2; omega
      case rel => exact ⟨k + 1, by go_num, by have := H.out.2; omega, H.out.1.trans ((F1.out.1.trans (F2.out.mono F1.out.1.size)).mono H.out.1.size)⟩
    · obtain rfl : k = 4 := by omega
      have R1 := Lib.hid rel
      clear rel hg
      obtain ⟨wo, ewo⟩ : ∃ wo, wo = wr := ⟨_, rfl⟩
      subst ewo
      go_wp2
      go_loopg [10] 8 (fun g i wr => ∃ k : Nat, i = .int .i64 (k : Int) ∧ g + k = 8 ∧ Below w.heap.size w wr)
      case atStart => exact ⟨0, rfl, rfl, R1.out⟩
      case round =>
        obtain ⟨k, rfl, hg, rel⟩ := hrel
        by_cases hlt : k < 8
        · have hk0 : (0 : Int) ≤ (k : Int) := by omega
          have hk1 : (k : Int) < 8 := by omega
          have T1 := Lib.hid (read_c (HX.out.1.1.below rel) (k : Int))
          rw [HX.out.2.1.1, if_neg (by omega), if_neg (by omega), HX.out.2.2.2 k hlt] at T1
          have T2 := Lib.hid (fun w1 (hb : Below wr.heap.size wr w1) => read_c (HX.out.1.2.below (rel.trans (hb.mono rel.size))) (k : Int))
          rw [HX.out.2.1.2, if_neg (by omega), if_neg (by omega)] at T2
          generalize e.stand.sec k = ll at *
          have H := Lib.hid (And.intro rel hg)
          clear rel hg
          go_upto_region 12 with (go_at_call 17; refine T1.out.mono ?_; rintro e w1 ⟨v1, rfl, hb1, f1⟩)
          have U2 := Lib.hid (T2.out w1 hb1)
          have F1 := Lib.hid (And.intro hb1 f1)
          clear hb1 f1
          go_upto_region 13 with (go_at_call 17; refine U2.out.mono ?_; rintro e w2 ⟨v2, rfl, hb2, f2⟩)
          have c1 := run_string_of (F1.out.2.bytes.below hb2)
          have c2 := run_string_of f2.bytes
          have F2 := Lib.hid hb2
          clear hb2 f2
          go_wp2_with (go_at_call 9; refine (num_c _ _).mono ?_; rintro e w' ⟨rfl, rfl⟩)
          go_roundg (8 - (k + 1))
          case measure => have := H.out.2; omega
          case rel => exact ⟨k + 1, by go_num, by have := H.out.2; omega, H.out.1.trans ((F1.out.1.trans (F2.out.mono F1.out.1.size)).mono H.out.1.size)⟩
        · obtain rfl : k = 8 := by omega
          have R2 := Lib.hid rel
          clear rel hg
          go_wp2
          go_ret
          exact ⟨rfl, R2.out⟩

end Go.Proofs.Ytiefhmbpaoecfaa

namespace Go.Proofs.Ytiefhmbpaoecfaa
open Go.RowKit Dm

/-- The set-up of 'part'. -/
structure PartIn (w W0 : World) (F : Nat → Prop) (sv t0 t1 t2 t3 : Value) (x : St) (many : Int) (s : Step) (u : Value) : Prop where
  below : Below w.heap.size w W0
  r0 : W0.heap[w.heap.size]? = some (.cells #[sv, t0, t1, t2, t3] tRBytes (0, 0))
  r1 : W0.heap[w.heap.size + 1]? = some (.cells #[.int .i64 s.what, .int .i64 s.n, .int .i64 s.many, u] tRStep (0, 0))
  r2 : W0.heap[w.heap.size + 1 + 1]? = some (.cells bytes0 tRBytes (0, 0))
  size : W0.heap.size = w.heap.size + 3
  rb : RB w.heap F sv t0 t1 t2 t3 x many
  hu : BytesAt w.heap F u s.b

/-- The footprint within the call. -/
def InP (F : Nat → Prop) (w : World) : Nat → Prop := fun k => (F k ∧ k < w.heap.size) ∨ w.heap.size + 3 ≤ k

theorem PartIn.rbAt {w W0 X : World} {F : Nat → Prop} {sv t0 t1 t2 t3 : Value} {x : St} {many : Int} {s : Step} {u : Value} (h : PartIn w W0 F sv t0 t1 t2 t3 x many s u) (hb : Below W0.heap.size W0 X) : RB X.heap (InP F w) sv t0 t1 t2 t3 x many :=
  h.rb.keeps (fun k _ hl => (hb.block k (by have := h.size; omega)).trans (h.below.block k hl)) (fun k hk hl => Or.inl ⟨hk, hl⟩)
theorem PartIn.uAt {w W0 X : World} {F : Nat → Prop} {sv t0 t1 t2 t3 : Value} {x : St} {many : Int} {s : Step} {u : Value} (h : PartIn w W0 F sv t0 t1 t2 t3 x many s u) (hb : Below W0.heap.size W0 X) : BytesAt X.heap (InP F w) u s.b :=
  h.hu.keeps (fun k _ hl => (hb.block k (by have := h.size; omega)).trans (h.below.block k hl)) (fun k hk hl => Or.inl ⟨hk, hl⟩)

theorem partIn_of {w : World} {F : Nat → Prop} {sv t0 t1 t2 t3 : Value} {x : St} {many : Int} {s : Step} {u : Value} (r : RB w.heap F sv t0 t1 t2 t3 x many) (hu : BytesAt w.heap F u s.b) :
    PartIn w (doneW w #[sv, t0, t1, t2, t3] #[.int .i64 s.what, .int .i64 s.n, .int .i64 s.many, u]) F sv t0 t1 t2 t3 x many s u := by
  obtain ⟨r0, r1, r2, z0⟩ := doneW_rows w #[sv, t0, t1, t2, t3] #[.int .i64 s.what, .int .i64 s.n, .int .i64 s.many, u]
  exact ⟨doneW_below _ _ _, r0, r1, r2, z0, r, hu⟩

/-- What a call in here gave, through the result's block. -/
theorem part_give {w W0 W4 W5 : World} {F G : Nat → Prop} {sv t0 t1 t2 t3 : Value} {x : St} {many : Int} (hb0 : Below w.heap.size w W0) (z0 : W0.heap.size = w.heap.size + 3) (hb4 : Below W0.heap.size W0 W4) (hr : RB W4.heap G sv t0 t1 t2 t3 x many)
    (hG : ∀ k, G k → (F k ∧ k < w.heap.size) ∨ w.heap.size + 3 ≤ k) (hM : Moves (fun k => k = w.heap.size + 1 + 1) W4 W5) : GivesRB w F x many (.returned (.agg #[sv, t0, t1, t2, t3])) W5 := by
  have z4 := hb4.size
  have z5 := hM.size
  refine ⟨sv, t0, t1, t2, t3, rfl, Moves.new (hb0.trans (hb4.mono (by omega))) hM (by omega), hr.keeps (fun k hk hl => hM.block k hl ?_) (fun k hk hl => ?_)⟩
  · rcases hG k hk with h | h <;> omega
  · rcases hG k hk with h | h
    · exact Or.inl h.1
    · exact Or.inr ⟨by omega, by omega⟩

theorem plus_inP {F : Nat → Prop} {w X Y : World} (hX : w.heap.size + 3 ≤ X.heap.size) : ∀ k, plus (InP F w) X Y k → (F k ∧ k < w.heap.size) ∨ w.heap.size + 3 ≤ k := fun k hk => by
  rcases hk with hk | hk
  · exact hk
  · exact Or.inr (by omega)

set_option maxRecDepth 100000 in
theorem rpart_three {w : World} {F : Nat → Prop} {sv t0 t1 t2 t3 : Value} {x : St} {many : Int} (sn sm : Int) (sb : List UInt8) {u : Value} (r : RB w.heap F sv t0 t1 t2 t3 x many) (hu : BytesAt w.heap F u sb) (k : Int) :
    Calls Try.prog 62 #[.agg #[sv, t0, t1, t2, t3], .agg #[.int .i64 3, .int .i64 sn, .int .i64 sm, u], .int .i64 k] w (GivesRB w F (x.part ⟨3, sn, sm, sb⟩ k) many) := by
  have hin := partIn_of (s := ⟨3, sn, sm, sb⟩) r hu
  have ones := r.ones
  obtain ⟨W0, hW0⟩ : ∃ W0, doneW w #[sv, t0, t1, t2, t3] #[.int .i64 3, .int .i64 sn, .int .i64 sm, u] = W0 := ⟨_, rfl⟩
  rw [hW0] at hin
  have e : x.part ⟨3, sn, sm, sb⟩ k = x := by simp [St.part]
  rw [e]
  have k0 : W0.cell? ⟨w.heap.size + 1, 0, none⟩ = some (.int .i64 3) := row_cell hin.r1 rfl
  have HIN := Lib.hid (And.intro hin ones)
  clear hin ones r hu e
  go_enter Try.func62, Try.ntmps62
  go_upto_region 1 with fail
  clear hW0
  go_wp2_with (first
    | (refine wpList_load_row rfl tRBytes (.tmp 3) rfl w.heap.size rfl tRBytes _ (0, 0) _ HIN.out.1.r0 Try.underlying39 rfl infoRB ?_)
    | (refine wpList_store_abs rfl tRBytes (.tmp 6) (.tmp 50) rfl (w.heap.size + 1 + 1) #[sv, t0, t1, t2, t3] rfl rfl tRBytes bytes0 HIN.out.1.r2 infoRB rfl HIN.out.2 ?_
       intro W5 HW5 HM5 HS5))
  refine bodyPost_ret (results_cell_row rfl _ _ (w.heap.size + 1 + 1) _ _ _ _ rfl HW5.out Try.underlying39 rfl infoRB) rfl ?_
  exact part_give HIN.out.1.below HIN.out.1.size (Below.refl _ _) (HIN.out.1.rbAt (Below.refl _ _)) (fun k hk => hk) HM5

set_option maxRecDepth 100000 in
set_option maxHeartbeats 2000000 in
theorem rpart_two {w : World} {F : Nat → Prop} {sv t0 t1 t2 t3 : Value} {x : St} {many : Int} (sn sm : Int) (sb : List UInt8) {u : Value} (r : RB w.heap F sv t0 t1 t2 t3 x many) (hu : BytesAt w.heap F u sb) (hm : many ≤ 4096) (h0 : 0 ≤ sn) (h3 : sn ≤ 3) (hb : sb.length ≤ 1048576)
    (hx : ∀ t, (x.tp t).length ≤ 1048576) (k : Int) (hk : -9223372036854775808 ≤ k) (hk' : k ≤ 9223372036854775807) :
    Calls Try.prog 62 #[.agg #[sv, t0, t1, t2, t3], .agg #[.int .i64 2, .int .i64 sn, .int .i64 sm, u], .int .i64 k] w (GivesRB w F (x.part ⟨2, sn, sm, sb⟩ k) many) := by
  have hin := partIn_of (s := ⟨2, sn, sm, sb⟩) r hu
  obtain ⟨W0, hW0⟩ : ∃ W0, doneW w #[sv, t0, t1, t2, t3] #[.int .i64 2, .int .i64 sn, .int .i64 sm, u] = W0 := ⟨_, rfl⟩
  rw [hW0] at hin
  have p0 : 0 ≤ pick k ((sb.length : Int) + 1) := Int.emod_nonneg _ (by omega)
  have p1 : pick k ((sb.length : Int) + 1) < (sb.length : Int) + 1 := Int.emod_lt_of_pos _ (by omega)
  have e : x.part ⟨2, sn, sm, sb⟩ k = x.done ⟨2, sn, 0, sb.take (pick k ((sb.length : Int) + 1)).toNat⟩ := by simp [St.part]
  rw [e]
  have PK := Lib.hid (fun w => rpick_c k ((sb.length : Int) + 1) w hk hk' (by omega) (by omega))
  obtain ⟨j, ej, hj⟩ := natOf (n := pick k ((sb.length : Int) + 1)) (k := (sb.length : Int)) p0 (by omega)
  rw [ej] at PK ⊢
  rw [Int.toNat_natCast]
  have hwr : IntKind.i64.wrap ((sb.length : Int) + 1) = (sb.length : Int) + 1 := IntWalk.i64_in _ (by omega)
  clear p0 p1 ej e
  obtain ⟨ua, uc, rfl⟩ := hu.slice
  have huc : sb.length ≤ uc ∧ (ua = none → sb.length = 0) := by
    rcases hu with ⟨h1, h2⟩ | ⟨b, o, cap, cc, t, fr, h1, h2, h3, g2, g3, g4⟩
    · rw [h2]; exact ⟨Nat.zero_le _, fun _ => rfl⟩
    · rw [(Value.slice.inj h1).2.2, (Value.slice.inj h1).1]; exact ⟨h2, fun h => by cases h⟩
  have k0 : W0.cell? ⟨w.heap.size + 1, 0, none⟩ = some (.int .i64 2) := row_cell hin.r1 rfl
  have x1 : ∀ x : Wd (Below W0.heap.size W0), x.world.cell? ⟨w.heap.size + 1, 1, none⟩ = some (.int .i64 sn) := fun x => (x.ok.cell (p := ⟨w.heap.size + 1, 1, none⟩) (lt_of_row hin.r1)).trans (row_cell hin.r1 rfl)
  have x3 : ∀ x : Wd (Below W0.heap.size W0), x.world.cell? ⟨w.heap.size + 1, 3, none⟩ = some (.slice ua sb.length uc) := fun x => (x.ok.cell (p := ⟨w.heap.size + 1, 3, none⟩) (lt_of_row hin.r1)).trans (row_cell hin.r1 rfl)
  have LD : Hid (∀ w', (∃ x : Wd (Below W0.heap.size W0), w' = x.world) → (Instr.loadAt tRBytes (.pointer (some ⟨w.heap.size, 0, none⟩))).run Try.prog w' = .ok (.agg #[sv, t0, t1, t2, t3]) w') := by
    rintro w' ⟨x, rfl⟩
    exact run_loadAt_row ((x.ok.block _ (lt_of_row hin.r0)).trans hin.r0) Try.underlying39 rfl infoRB
  have ne : Nonempty (Wd (Below W0.heap.size W0)) := ⟨⟨_, Below.refl _ _⟩⟩
  have HIN := Lib.hid hin
  have HB := Lib.hid (And.intro hb (And.intro hx (And.intro hm (And.intro h0 h3))))
  have hj0 : (0 : Int) ≤ (j : Int) := by omega
  have hj1 : (j : Int) ≤ (uc : Int) := by omega
  have hbb : (sb.length : Int) ≤ 1048576 := by omega
  clear hin r hu hb hx hk hk' hm h0 h3
  have HJ := Lib.hid hj
  have HUC := Lib.hid huc
  clear hj huc
  go_enter Try.func62, Try.ntmps62
  go_upto_region 1 with fail
  clear hW0
  go_upto_region 7 with fail
  clear k0
  refine wp_region_hoist (fun w' => ∃ x : Wd (Below W0.heap.size W0), w' = x.world) [14] (by kernel_rfl) ?_
  refine wpAnyI_reads [0, 1, 2, 3, 4, 5, 6, 7, 8, 9] 5 _ ⟨⟨_, (Below.refl _ _).drew⟩, rfl⟩ (by kernel_rfl) ?_
  simp only [List.filterMap_cons, List.filterMap_nil, List.getElem?_toArray, List.getElem?_cons_succ, List.getElem?_cons_zero]
  refine wpHoist_load_run rfl tRBytes (.tmp 3) rfl _ LD.out ?_
  repeat (refine wpHoist_step (fun K hK => ?_); simp only [hoists, sameUpon]; go_simp; refine hK _ ?_; clear hK K)
  refine wpHoist_nil ?_
  refine wpAnyI_one 10 4 _ _ rfl (by kernel_rfl) ?_
  refine wpList_plain rfl fun K hK => ?_
  go_simp
  go_at_call 61
  refine (PK.out _).mono ?_
  rintro e w' ⟨rfl, rfl⟩
  refine hK _ _ (wpList_nil ⟨rfl, fun _ => ⟨⟨_, (Below.refl _ _).drew⟩, rfl⟩, ?_⟩)
  clear hK K
  refine wpAnyI_reads [11, 12] 2 _ ⟨⟨_, (Below.refl _ _).drew⟩, rfl⟩ (by kernel_rfl) ?_
  simp only [List.filterMap_cons, List.filterMap_nil, List.getElem?_toArray, List.getElem?_cons_succ, List.getElem?_cons_zero]
  repeat (refine wpHoist_step (fun K hK => ?_); simp only [hoists, sameUpon]; go_simp; refine hK _ ?_; clear hK K)
  refine wpHoist_nil ?_
  refine wpAnyI_one 13 1 _ _ rfl (by kernel_rfl) ?_
  refine wpList_plain rfl fun K hK => ?_
  go_simp
  go_at_call 63
  refine (rdone_c (s := ⟨2, sn, 0, sb.take j⟩) (HIN.out.rbAt (Below.refl _ _).drew) HB.out.2.2.1 (Or.inr (Or.inl ⟨rfl, HB.out.2.2.2.1, HB.out.2.2.2.2, rfl, by have := HB.out.1; simp; omega⟩)) (BytesAt.take (HIN.out.uAt (X := W0.drew) (Below.refl _ _).drew) j (by have := HJ.out; omega)) HB.out.2.1).mono ?_
  rintro e W1 ⟨sv1, u0, u1, u2, u3, rfl, hb1, rb1⟩
  have hb1' : Below W0.heap.size W0 W1 := (Below.refl _ _).drew.trans hb1
  refine hK _ _ (wpList_nil ⟨rfl, fun _ => ⟨⟨_, hb1'⟩, rfl⟩, ?_⟩)
  clear hK K
  have R1 := Lib.hid (And.intro hb1' rb1)
  clear rb1 hb1
  refine wpAnyI_one 14 0 _ _ rfl (by kernel_rfl) ?_
  refine wpList_store_abs rfl tRBytes (.tmp 6) (.tmp 49) rfl (w.heap.size + 1 + 1) #[sv1, u0, u1, u2, u3] rfl rfl tRBytes bytes0 ((hb1'.block _ (lt_of_row HIN.out.r2)).trans HIN.out.r2) infoRB rfl R1.out.2.ones ?_
  intro W5 HW5 HM5 HS5
  refine wpList_nil ⟨rfl, fun h => absurd (by decide) h, by kernel_rfl, ?_⟩
  have H5 := Lib.hid HM5
  clear HM5 HS5
  go_wp2
  refine bodyPost_ret (results_cell_row rfl _ _ (w.heap.size + 1 + 1) _ _ _ _ rfl HW5.out Try.underlying39 rfl infoRB) rfl ?_
  exact part_give HIN.out.below HIN.out.size R1.out.1 R1.out.2 (plus_inP (by have := HIN.out.size; show _ ≤ W0.heap.size; omega)) H5.out

theorem BytesAt.dropS {h : Array Obj} {F : Nat → Prop} {b o n c : Nat} {l : List UInt8} (x : BytesAt h F (.slice (some ⟨b, o, none⟩) n c) l) (k : Nat) (hk : k ≤ n) : BytesAt h F (.slice (some ⟨b, o + k, none⟩) (n - k) (c - k)) (l.drop k) := by
  rcases x with ⟨h1, _⟩ | ⟨b', o', cap, cc, t, fr, h1, h2, h3, g2, g3, g4⟩
  · cases h1
  · obtain ⟨e1, rfl, rfl⟩ := Value.slice.inj h1
    simp only [Option.some.injEq, Addr.mk.injEq] at e1
    obtain ⟨rfl, rfl, _⟩ := e1
    refine Or.inr ⟨b, o + k, c - k, cc, t, fr, by simp, by simp; omega, by omega, g2, g3, fun i y hi => ?_⟩
    rw [List.getElem?_drop] at hi
    rw [Nat.add_assoc]
    exact g4 (k + i) y hi

set_option maxRecDepth 100000 in
set_option maxHeartbeats 4000000 in
theorem rpart_one {w : World} {F : Nat → Prop} {sv t0 t1 t2 t3 : Value} {x : St} {many : Int} (sn sm : Int) (sb : List UInt8) {u : Value} (r : RB w.heap F sv t0 t1 t2 t3 x many) (hu : BytesAt w.heap F u sb) (hm : many ≤ 4096) (h0 : 0 ≤ sn) (h3 : sn < many) (hb : sb.length = 256)
    (hx : ∀ t, (x.tp t).length ≤ 1048576) (hxs : ∀ n, (x.sec n).length = 256) (k : Int) (hk : -9223372036854775808 ≤ k) (hk' : k ≤ 9223372036854775807) :
    Calls Try.prog 62 #[.agg #[sv, t0, t1, t2, t3], .agg #[.int .i64 1, .int .i64 sn, .int .i64 sm, u], .int .i64 k] w (GivesRB w F (x.part ⟨1, sn, sm, sb⟩ k) many) := by
  have hin := partIn_of (s := ⟨1, sn, sm, sb⟩) r hu
  obtain ⟨W0, hW0⟩ : ∃ W0, doneW w #[sv, t0, t1, t2, t3] #[.int .i64 1, .int .i64 sn, .int .i64 sm, u] = W0 := ⟨_, rfl⟩
  rw [hW0] at hin
  have p0 : 0 ≤ pick k 257 := Int.emod_nonneg _ (by omega)
  have p1 : pick k 257 < 257 := Int.emod_lt_of_pos _ (by omega)
  have e : x.part ⟨1, sn, sm, sb⟩ k = x.done ⟨1, sn, 0, sb.take (pick k 257).toNat ++ (x.sec sn).drop (pick k 257).toNat⟩ := by simp [St.part]
  rw [e]
  have PK := Lib.hid (fun w => rpick_c k 257 w hk hk' (by omega) (by omega))
  obtain ⟨j, ej, hj⟩ := natOf (n := pick k 257) (k := 256) p0 (by omega)
  rw [ej] at PK ⊢
  rw [Int.toNat_natCast]
  have SC := Lib.hid (rsector_c (hin.rbAt (Below.refl _ _)) hm sn)
  have hsl := hxs sn
  generalize x.sec sn = os at *
  clear p0 p1 ej e
  obtain ⟨ua, uc, rfl⟩ := hu.slice
  have huc : 256 ≤ uc := by
    rcases hu with ⟨h1, h2⟩ | ⟨b, o, cap, cc, t, fr, h1, h2, h3, g2, g3, g4⟩
    · rw [h2] at hb; simp at hb
    · rw [(Value.slice.inj h1).2.2]; omega
  have k0 : W0.cell? ⟨w.heap.size + 1, 0, none⟩ = some (.int .i64 1) := row_cell hin.r1 rfl
  have k1 : W0.cell? ⟨w.heap.size + 1, 1, none⟩ = some (.int .i64 sn) := row_cell hin.r1 rfl
  have HIN := Lib.hid hin
  have HB := Lib.hid (And.intro hb (And.intro hx (And.intro hm (And.intro h0 (And.intro h3 hsl)))))
  have hj0 : (0 : Int) ≤ (j : Int) := by omega
  have hj1 : (j : Int) ≤ (uc : Int) := by omega
  have hj2 : (j : Int) ≤ 256 := hj
  clear hin r hx hxs hk hk' hm h0 h3
  have lt1 : (sb.take j).length = j := by rw [List.length_take]; omega
  have LT := Lib.hid lt1
  clear lt1
  rw [hb] at *
  clear hb
  have HJ := Lib.hid hj
  clear hj
  go_enter Try.func62, Try.ntmps62
  go_upto_region 1 with fail
  clear hW0
  go_upto_region 5 with (first
    | (go_at_call 61; refine (PK.out _).mono ?_; rintro e w' ⟨rfl, rfl⟩)
    | (refine wpList_load_row rfl tRBytes (.tmp 3) rfl w.heap.size rfl tRBytes _ (0, 0) _ HIN.out.r0 Try.underlying39 rfl infoRB ?_)
    | (go_at_call 41; refine SC.out.mono ?_; rintro e W1 ⟨v1, rfl, hb1, f1⟩))
  obtain ⟨ob, oo, oc, rfl, hoc, hoc2⟩ : ∃ ob oo oc, v1 = .slice (some ⟨ob, oo, none⟩) 256 oc ∧ 256 ≤ oc ∧ (oc : Int) ≤ 9223372036854775807 := by
    rcases f1 with ⟨h1, h2⟩ | ⟨b, o, cap, cc, t, fr, h1, h2, h3, g2, g3, g4⟩
    · rw [h2] at hsl; simp at hsl
    · exact ⟨b, o, cap, by rw [h1, hsl], by omega, by omega⟩
  have r0 := (hb1.block _ (lt_of_row HIN.out.r0)).trans HIN.out.r0
  have r1 := (hb1.block _ (lt_of_row HIN.out.r1)).trans HIN.out.r1
  have x1 : ∀ x : Wd (Below W1.heap.size W1), x.world.cell? ⟨w.heap.size + 1, 1, none⟩ = some (.int .i64 sn) := fun x => (x.ok.cell (p := ⟨w.heap.size + 1, 1, none⟩) (lt_of_row r1)).trans (row_cell r1 rfl)
  have x3 : ∀ x : Wd (Below W1.heap.size W1), x.world.cell? ⟨w.heap.size + 1, 3, none⟩ = some (.slice ua 256 uc) := fun x => (x.ok.cell (p := ⟨w.heap.size + 1, 3, none⟩) (lt_of_row r1)).trans (row_cell r1 rfl)
  have LD : Hid (∀ w', (∃ x : Wd (Below W1.heap.size W1), w' = x.world) → (Instr.loadAt tRBytes (.pointer (some ⟨w.heap.size, 0, none⟩))).run Try.prog w' = .ok (.agg #[sv, t0, t1, t2, t3]) w') := by
    rintro w' ⟨x, rfl⟩
    exact run_loadAt_row ((x.ok.block _ (lt_of_row r0)).trans r0) Try.underlying39 rfl infoRB
  have ne : Nonempty (Wd (Below W1.heap.size W1)) := ⟨⟨_, Below.refl _ _⟩⟩
  have hj4 : (j : Int) ≤ (oc : Int) := by omega
  have H1 := Lib.hid (And.intro hb1 (And.intro f1 (And.intro r0 r1)))
  clear hb1 f1 r0 r1 k0 k1 SC hsl
  have bt : BytesAt W1.heap (plus (InP F w) W0 W1) (.slice (if oc = j then some ⟨ob, oo, none⟩ else some ⟨ob, oo + j, none⟩) (256 - j) (oc - j)) (os.drop j) := by
    split
    · rename_i h
      subst h
      have e1 : oc = 256 := by omega
      have e2 : os.drop oc = [] := by rw [List.drop_eq_nil_iff, HB.out.2.2.2.2.2]; omega
      rw [e2, e1]
      rcases H1.out.2.1 with ⟨h1, _⟩ | ⟨b, o, cap, cc, t, fr, h1, h2, h3, g2, g3, g4⟩
      · cases h1
      · obtain ⟨e1, _, _⟩ := Value.slice.inj h1
        simp only [Option.some.injEq, Addr.mk.injEq] at e1
        obtain ⟨rfl, rfl, _⟩ := e1
        exact Or.inr ⟨ob, oo, 0, cc, t, fr, rfl, Nat.le_refl _, by omega, g2, g3, fun i y hi => by simp at hi⟩
    · exact H1.out.2.1.dropS j (by omega)
  have ut : BytesAt W1.heap (InP F w) (.slice ua j uc) (sb.take j) := (HIN.out.uAt H1.out.1).take j (by omega)
  have BT := Lib.hid (And.intro bt ut)
  have lt1 := LT.out
  have ld1 : (os.drop j).length = 256 - j := by rw [List.length_drop, HB.out.2.2.2.2.2]
  clear bt ut
  have LL := Lib.hid (And.intro lt1 ld1)
  clear lt1 ld1
  generalize sb.take j = la at *
  generalize os.drop j = lb at *
  go_wp2
  refine wp_region_hoist (fun w' => ∃ x : Wd (Below W1.heap.size W1), w' = x.world) [15] (by kernel_rfl) ?_
  refine wpAnyI_reads [0, 1, 2, 4, 5, 6, 7, 9, 10, 11] 6 _ ⟨⟨_, (Below.refl _ _).drew⟩, rfl⟩ (by kernel_rfl) ?_
  simp only [List.filterMap_cons, List.filterMap_nil, List.getElem?_toArray, List.getElem?_cons_succ, List.getElem?_cons_zero]
  refine wpHoist_load_run rfl tRBytes (.tmp 3) rfl _ LD.out ?_
  repeat (refine wpHoist_step (fun K hK => ?_); simp only [hoists, sameUpon]; go_simp; refine hK _ ?_; clear hK K)
  refine wpHoist_nil ?_
  generalize (if oc = j then some ⟨ob, oo, none⟩ else some ⟨ob, oo + j, none⟩ : Option Addr) = ta at *
  refine wpAnyI_one 3 5 _ _ rfl (by kernel_rfl) ?_
  refine wpList_plain rfl fun K hK => ?_
  go_simp
  have hb2 : Below W1.heap.size W1 (W1.alloc (.cells #[] tByte)).drew := ((Below.refl _ _).alloc (Nat.le_refl _) _).drew
  have own1 : OwnB (W1.alloc (.cells #[] tByte)).drew W1.heap.size (.slice (some ⟨W1.heap.size, 0, none⟩) 0 0) [] := own_empty W1
  refine hK _ _ (wpList_nil ⟨rfl, fun _ => ⟨⟨_, hb2⟩, rfl⟩, ?_⟩)
  clear hK K
  have OW1 := Lib.hid own1
  clear own1
  generalize (W1.alloc (.cells #[] tByte)).drew = W2 at *
  refine wpAnyI_one 8 4 _ _ rfl (by kernel_rfl) ?_
  refine wpList_append_bytes rfl (.tmp 22) (.tmp 26) rfl W1.heap.size W1.heap.size W1 hb2 (Nat.le_refl _) _ [] rfl OW1.out _ la (InP F w) (by rw [← LL.out.1]; rfl) (LL.out.1 ▸ BT.out.2.keeps (fun k _ hl => hb2.block k hl) (fun _ h _ => h)) (by have := LL.out.1; simp; omega) hb2.size ?_
  intro v3 W3 OW3 hb3 _
  refine wpList_nil ⟨rfl, fun _ => ⟨⟨_, hb3⟩, rfl⟩, ?_⟩
  rw [List.nil_append] at OW3
  refine wpAnyI_one 12 3 _ _ rfl (by kernel_rfl) ?_
  refine wpList_append_bytes rfl (.tmp 27) (.tmp 30) rfl W1.heap.size W1.heap.size W1 hb3 (Nat.le_refl _) _ la rfl OW3.out _ lb (plus (InP F w) W0 W1) (by rw [← LL.out.2]; rfl) (LL.out.2 ▸ BT.out.1.keeps (fun k _ hl => hb3.block k hl) (fun _ h _ => h)) (by have := LL.out.1; have := LL.out.2; omega) hb3.size ?_
  intro v4 W4 OW4 hb4 _
  refine wpList_nil ⟨rfl, fun _ => ⟨⟨_, hb4⟩, rfl⟩, ?_⟩
  have l256 : (la ++ lb).length = 256 := by have := LL.out.1; have := LL.out.2; simp; omega
  generalize la ++ lb = lc at *
  obtain ⟨a4, c4, rfl⟩ := OW4.out.bytes.bytes.slice
  have L4 := Lib.hid l256
  clear l256
  refine wpAnyI_reads [13] 2 _ ⟨⟨_, hb4⟩, rfl⟩ (by kernel_rfl) ?_
  simp only [List.filterMap_cons, List.filterMap_nil, List.getElem?_toArray, List.getElem?_cons_succ, List.getElem?_cons_zero]
  repeat (refine wpHoist_step (fun K hK => ?_); simp only [hoists, sameUpon]; go_simp; refine hK _ ?_; clear hK K)
  refine wpHoist_nil ?_
  have z0 := HIN.out.size
  have z1 := H1.out.1.size
  have hb04 : Below W0.heap.size W0 W4 := H1.out.1.trans (hb4.mono z1)
  have DC := Lib.hid (rdone_c (s := ⟨1, sn, 0, lc⟩) (HIN.out.rbAt hb04) HB.out.2.2.1 (Or.inl ⟨rfl, HB.out.2.2.2.1, HB.out.2.2.2.2.1, rfl, L4.out⟩) (OW4.out.bytes.bytes.keeps (fun _ _ _ => rfl) (fun k hk _ => Or.inr (by have : W1.heap.size ≤ k := hk; omega))) HB.out.2.1)
  refine wpAnyI_one 14 1 _ _ rfl (by kernel_rfl) ?_
  refine wpList_plain rfl fun K hK => ?_
  go_simp
  go_at_call 63
  refine DC.out.mono ?_
  rintro e W5 ⟨sv1, u0, u1, u2, u3, rfl, hb5, rb5⟩
  have hb5' : Below W1.heap.size W1 W5 := hb4.trans (hb5.mono hb4.size)
  refine hK _ _ (wpList_nil ⟨rfl, fun _ => ⟨⟨_, hb5'⟩, rfl⟩, ?_⟩)
  clear hK K
  have R5 := Lib.hid (And.intro (hb04.trans (hb5.mono hb04.size)) rb5)
  clear rb5 hb5 DC
  refine wpAnyI_one 15 0 _ _ rfl (by kernel_rfl) ?_
  refine wpList_store_abs rfl tRBytes (.tmp 6) (.tmp 33) rfl (w.heap.size + 1 + 1) #[sv1, u0, u1, u2, u3] rfl rfl tRBytes bytes0 ((R5.out.1.block _ (lt_of_row HIN.out.r2)).trans HIN.out.r2) infoRB rfl R5.out.2.ones ?_
  intro W6 HW6 HM6 HS6
  refine wpList_nil ⟨rfl, fun h => absurd (by decide) h, by kernel_rfl, ?_⟩
  have H6 := Lib.hid HM6
  clear HM6 HS6
  go_wp2
  refine bodyPost_ret (results_cell_row rfl _ _ (w.heap.size + 1 + 1) _ _ _ _ rfl HW6.out Try.underlying39 rfl infoRB) rfl ?_
  exact part_give HIN.out.below HIN.out.size R5.out.1 R5.out.2 (plus_inP (by have := hb04.size; omega)) H6.out

end Go.Proofs.Ytiefhmbpaoecfaa

namespace Go.Proofs.Ytiefhmbpaoecfaa
open Go.RowKit Dm

theorem rpart_c {w : World} {F : Nat → Prop} {sv t0 t1 t2 t3 : Value} {x : St} {many : Int} {s : Step} {u : Value} (r : RB w.heap F sv t0 t1 t2 t3 x many) (hm : many ≤ 4096) (hs : s.ok many) (hu : BytesAt w.heap F u s.b)
    (hx : ∀ t, (x.tp t).length ≤ 1048576) (hxs : ∀ n, (x.sec n).length = 256) (k : Int) (hk : -9223372036854775808 ≤ k) (hk' : k ≤ 9223372036854775807) :
    Calls Try.prog 62 #[.agg #[sv, t0, t1, t2, t3], .agg #[.int .i64 s.what, .int .i64 s.n, .int .i64 s.many, u], .int .i64 k] w (GivesRB w F (x.part s k) many) := by
  obtain ⟨what, n, mm, b⟩ := s
  rcases hs with ⟨h1, h2, h3, h4, h5⟩ | ⟨h1, h2, h3, h4, h5⟩ | ⟨h1, h2, h3, h4, h5, h6⟩
  · simp only at h1
    subst h1
    exact rpart_one n mm b r hu hm h2 h3 h5 hx hxs k hk hk'
  · simp only at h1
    subst h1
    exact rpart_two n mm b r hu hm h2 h3 h5 hx k hk hk'
  · simp only at h1
    subst h1
    exact rpart_three n mm b r hu k

/-- The footprint within Crash. -/
def RcF (F : Nat → Prop) (w : World) (e0 : Nat) : Nat → Prop := fun k => (F k ∧ k < w.heap.size) ∨ e0 < k

/-- Between two steps of the document's crash, in memory. -/
structure RCr (w W : World) (F : Nat → Prop) (d : D) (C : Array Value) (kv : Value) (c : Crash) (e0 : Nat) (x : St) (en : Int → Bool) : Prop where
  below : Below w.heap.size w W
  far : w.heap.size + 3 < e0
  r0 : W.heap[w.heap.size]? = some (.cells C tRDisk (0, 0))
  r1 : W.heap[w.heap.size + 1]? = some (.cells #[kv, .int .i64 c.torn, .int .i64 c.part] tCrash (0, 0))
  r2 : W.heap[w.heap.size + 1 + 1]? = some (.cells ref0 tRDisk (0, 0))
  ends : W.heap[e0]? = some (.cells #[.bool (en 0), .bool (en 1), .bool (en 2), .bool (en 3)] tB4 (0, 0))
  rb : ∃ sv t0 t1 t2 t3, W.heap[w.heap.size + 1 + 1 + 1]? = some (.cells #[sv, t0, t1, t2, t3] tRBytes (0, 0)) ∧ RB W.heap (RcF F w e0) sv t0 t1 t2 t3 x d.many

section
variable {w W W' : World} {F : Nat → Prop} {d : D} {C : Array Value} {kv : Value} {c : Crash} {e0 : Nat} {x x' : St} {en : Int → Bool}

theorem RCr.next (h : RCr w W F d C kv c e0 x en) (hb : Below W.heap.size W W') : RCr w W' F d C kv c e0 x en := by
  obtain ⟨sv, t0, t1, t2, t3, r3, rb⟩ := h.rb
  exact ⟨h.below.trans (hb.mono h.below.size), h.far, (hb.block _ (lt_of_row h.r0)).trans h.r0, (hb.block _ (lt_of_row h.r1)).trans h.r1, (hb.block _ (lt_of_row h.r2)).trans h.r2, (hb.block _ (lt_of_row h.ends)).trans h.ends,
    sv, t0, t1, t2, t3, (hb.block _ (lt_of_row r3)).trans r3, rb.keeps (fun k _ hl => hb.block k hl) (fun k hk _ => hk)⟩

theorem RCr.did (h : RCr w W F d C kv c e0 x en) {W1 W2 : World} {sv t0 t1 t2 t3 : Value} (hb : Below W.heap.size W W1) (r : RB W1.heap (plus (RcF F w e0) W W1) sv t0 t1 t2 t3 x' d.many)
    (hm : Moves (fun k => k = w.heap.size + 1 + 1 + 1) W1 W2) (hw : W2.heap[w.heap.size + 1 + 1 + 1]? = some (.cells #[sv, t0, t1, t2, t3] tRBytes (0, 0))) : RCr w W2 F d C kv c e0 x' en := by
  have h1 := h.next hb
  have hz := h.below.size
  have le := lt_of_row h.ends
  have hf := h.far
  refine ⟨Moves.new h1.below hm (by omega), h.far, (hm.block _ (lt_of_row h1.r0) (by omega)).trans h1.r0, (hm.block _ (lt_of_row h1.r1) (by omega)).trans h1.r1, (hm.block _ (lt_of_row h1.r2) (by omega)).trans h1.r2, (hm.block _ (lt_of_row h1.ends) (by omega)).trans h1.ends,
    sv, t0, t1, t2, t3, hw, r.keeps (fun k hk hl => hm.block k hl (fun e => ?_)) (fun k hk _ => ?_)⟩
  · rcases hk with (hk | hk) | hk <;> omega
  · rcases hk with hk | hk
    · exact hk
    · exact Or.inr (by omega)

theorem RCr.endAt (h : RCr w W F d C kv c e0 x en) (t : Nat) (ht : t < 4) : W.cell? ⟨e0, t, none⟩ = some (.bool (en t)) := by
  obtain rfl | rfl | rfl | rfl : t = 0 ∨ t = 1 ∨ t = 2 ∨ t = 3 := by omega
  all_goals exact row_cell h.ends rfl

theorem RCr.endSet (h : RCr w W F d C kv c e0 x en) (t : Nat) (ht : t < 4) (b : Bool) : RCr w (W.setCell ⟨e0, t, none⟩ (.bool b)) F d C kv c e0 x (upd en t b) := by
  have ho : ∀ k, k ≠ e0 → (W.setCell ⟨e0, t, none⟩ (.bool b)).heap[k]? = W.heap[k]? := fun k hk => heap_setCell_other W _ k _ hk
  have hf := h.far
  obtain ⟨sv, t0, t1, t2, t3, r3, rb⟩ := h.rb
  refine ⟨⟨h.below.os, h.below.tape, h.below.output, by simpa using h.below.size, fun k hk => (ho k (by omega)).trans (h.below.block k hk)⟩, h.far, (ho _ (by omega)).trans h.r0, (ho _ (by omega)).trans h.r1, (ho _ (by omega)).trans h.r2, ?_,
    sv, t0, t1, t2, t3, (ho _ (by omega)).trans r3, rb.keeps (fun k hk _ => ho k (by rcases hk with hk | hk <;> omega)) (fun k hk _ => hk)⟩
  rw [heap_setCell_same W e0 t _ _ _ h.ends]
  obtain rfl | rfl | rfl | rfl : t = 0 ∨ t = 1 ∨ t = 2 ∨ t = 3 := by omega
  all_goals simp [upd]

end

theorem upd_idle {en : Int → Bool} {n : Int} (h : en n = false) : upd en n false = en := by
  funext k
  unfold upd
  split
  · rename_i e; rw [e, h]
  · rfl

def RCrRel (w : World) (F : Nat → Prop) (d : D) (C : Array Value) (kv : Value) (c : Crash) (e0 : Nat) (k : Nat) (W : World) : Prop :=
  ∃ x en, RCr w W F d C kv c e0 x en ∧ CrInv d k x en ∧ crashGo c d.waits.length (d.waits.drop k) k x en = crashGo c d.waits.length d.waits 0 d.lasts (fun _ => false)

theorem RCrRel.next {w W : World} {F : Nat → Prop} {d : D} {C : Array Value} {kv : Value} {c : Crash} {e0 k : Nat} {x : St} {en : Int → Bool} {s : Step} (ok : d.ok) (inv : CrInv d k x en) (eqn : crashGo c d.waits.length (d.waits.drop k) k x en = crashGo c d.waits.length d.waits 0 d.lasts (fun _ => false))
    (hs : d.waits[k]? = some s) (hk : ¬ (s.what ≠ 1 ∧ en s.n = true)) {x' : St} {en' : Int → Bool} (cs : RCr w W F d C kv c e0 x' en') (hx : x' = crashX c d.waits.length k s x) (he : en' = crashE c d.waits.length k s en) : RCrRel w F d C kv c e0 (k + 1) W := by
  subst hx; subst he
  refine ⟨_, _, cs, inv.step ok hs c _ hk, ?_⟩
  obtain ⟨hlt, e⟩ := List.getElem?_eq_some_iff.1 hs
  rw [← eqn, List.drop_eq_getElem_cons hlt, e, crashGo_step _ _ _ _ _ _ _ hk]

theorem RCrRel.skip {w W : World} {F : Nat → Prop} {d : D} {C : Array Value} {kv : Value} {c : Crash} {e0 k : Nat} {x : St} {en : Int → Bool} {s : Step} (inv : CrInv d k x en) (eqn : crashGo c d.waits.length (d.waits.drop k) k x en = crashGo c d.waits.length d.waits 0 d.lasts (fun _ => false))
    (hs : d.waits[k]? = some s) (hk : s.what ≠ 1 ∧ en s.n = true) (cs : RCr w W F d C kv c e0 x en) : RCrRel w F d C kv c e0 (k + 1) W := by
  refine ⟨_, _, cs, inv.skip hs hk, ?_⟩
  obtain ⟨hlt, e⟩ := List.getElem?_eq_some_iff.1 hs
  rw [← eqn, List.drop_eq_getElem_cons hlt, e, crashGo_skip _ _ _ _ _ _ _ hk]

theorem rcr_start {w W1 : World} {F : Nat → Prop} {d : D} {sv t0 t1 t2 t3 kv : Value} {c : Crash} {C : Array Value} (rb : RB w.heap F sv t0 t1 t2 t3 d.lasts d.many)
    (hm : Moves (fun k => k = w.heap.size + 1 + 1 + 1) ((((w.alloc (.cells C tRDisk)).alloc (.cells #[kv, .int .i64 c.torn, .int .i64 c.part] tCrash)).alloc (.cells ref0 tRDisk)).alloc (.cells bytes0 tRBytes)) W1)
    (hw : W1.heap[w.heap.size + 1 + 1 + 1]? = some (.cells #[sv, t0, t1, t2, t3] tRBytes (0, 0))) :
    RCr w (W1.alloc (.cells #[.bool false, .bool false, .bool false, .bool false] tB4)) F d C kv c W1.heap.size d.lasts (fun _ => false) := by
  have z := lt_of_row hw
  have a0 : ((((w.alloc (.cells C tRDisk)).alloc (.cells #[kv, .int .i64 c.torn, .int .i64 c.part] tCrash)).alloc (.cells ref0 tRDisk)).alloc (.cells bytes0 tRBytes)).heap[w.heap.size]? = some (.cells C tRDisk (0, 0)) := heap_past (by simp <;> omega) (heap_past (by simp <;> omega) (heap_past (by simp) (heap_alloc_last w _)))
  have a1 : ((((w.alloc (.cells C tRDisk)).alloc (.cells #[kv, .int .i64 c.torn, .int .i64 c.part] tCrash)).alloc (.cells ref0 tRDisk)).alloc (.cells bytes0 tRBytes)).heap[w.heap.size + 1]? = some (.cells #[kv, .int .i64 c.torn, .int .i64 c.part] tCrash (0, 0)) := heap_past (by simp <;> omega) (heap_past (by simp) (heap_at (w := w.alloc _) _ (by simp)))
  have a2 : ((((w.alloc (.cells C tRDisk)).alloc (.cells #[kv, .int .i64 c.torn, .int .i64 c.part] tCrash)).alloc (.cells ref0 tRDisk)).alloc (.cells bytes0 tRBytes)).heap[w.heap.size + 1 + 1]? = some (.cells ref0 tRDisk (0, 0)) := heap_past (by simp) (heap_at (w := (w.alloc _).alloc _) _ (by simp))
  have hb : Below w.heap.size w ((((w.alloc (.cells C tRDisk)).alloc (.cells #[kv, .int .i64 c.torn, .int .i64 c.part] tCrash)).alloc (.cells ref0 tRDisk)).alloc (.cells bytes0 tRBytes)) := ((((Below.refl _ _).alloc (Nat.le_refl _) _).alloc (by simp) _).alloc (by simp <;> omega) _).alloc (by simp <;> omega) _
  have hb1 : Below w.heap.size w W1 := Moves.new hb hm (by omega)
  have hb2 : Below w.heap.size w (W1.alloc (.cells #[.bool false, .bool false, .bool false, .bool false] tB4)) := hb1.alloc hb1.size _
  have q0 := (hm.block _ (lt_of_row a0) (by omega)).trans a0
  have q1 := (hm.block _ (lt_of_row a1) (by omega)).trans a1
  have q2 := (hm.block _ (lt_of_row a2) (by omega)).trans a2
  refine ⟨hb2, by omega, heap_past (lt_of_row q0) q0, heap_past (lt_of_row q1) q1, heap_past (lt_of_row q2) q2, heap_alloc_last _ _, sv, t0, t1, t2, t3, heap_past z hw, rb.keeps (fun k _ hl => hb2.block k hl) (fun k hk hl => Or.inl ⟨hk, hl⟩)⟩

end Go.Proofs.Ytiefhmbpaoecfaa
