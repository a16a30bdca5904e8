/-
  DiskCopies: the walk.
  DiskCopies: memory between the calls.
  DiskCopies: the walk, at few calls.
-/
import Derived.Test.YtiefhmbpaoecfaaG32
import Derived.Test.YtiefhmbpaoecfaaG33

namespace Go.Proofs.Ytiefhmbpaoecfaa
open Go.RowKit Dm

abbrev actV (x : ActM) (bv kv : Value) : Value := .agg (actC x.what x.sec x.n bv x.raw kv x.crash.torn x.crash.part)

set_option maxRecDepth 100000 in
set_option maxHeartbeats 400000 in
theorem copies_many {v bx kx bY kY : Value} {x y : ActM} {l : List ActM} {w : World} (hv : ActsAt w.heap v l) (hl : l.length ≤ 9223372036854775807) (hf : fewB l 20 = false) :
    Calls Try.prog 5 #[v, actV x bx kx, actV y bY kY] w fun e w' => e = .returned (.bool true) ∧ Below w.heap.size w w' := by
  have hb0 : Below w.heap.size w ((w.alloc (.cells (actC x.what x.sec x.n bx x.raw kx x.crash.torn x.crash.part) tAct)).alloc (.cells (actC y.what y.sec y.n bY y.raw kY y.crash.torn y.crash.part) tAct)) := ((Below.refl _ _).alloc (Nat.le_refl _) _).alloc (by simp) _
  obtain ⟨W0, hW0⟩ : ∃ W0, (w.alloc (.cells (actC x.what x.sec x.n bx x.raw kx x.crash.torn x.crash.part) tAct)).alloc (.cells (actC y.what y.sec y.n bY y.raw kY y.crash.torn y.crash.part) tAct) = W0 := ⟨_, rfl⟩
  rw [hW0] at hb0
  have FW := Lib.hid (few_c (hv.keeps (fun k hl => hb0.block k hl)) 20 hl)
  have WK := Lib.hid (works_c W0)
  have HB := Lib.hid hb0
  rw [hf] at FW
  clear hf hv hb0
  go_enter Try.func5, Try.ntmps5
  go_upto_region 1 with fail
  clear hW0
  go_wp2_with (first
    | (go_at_call 6; refine FW.out.mono ?_; rintro e w' ⟨rfl, rfl⟩)
    | (go_at_call 7; refine WK.out.mono ?_; rintro e w2 ⟨rfl, hb2⟩))
  go_ret
  exact ⟨rfl, HB.out.trans (hb2.mono HB.out.size)⟩

theorem two_acts {w : World} {x y : ActM} {bx kx bY kY : Value} (h1 : BytesIn w.heap (fun _ => True) bx x.b) (h2 : BoolsAt w.heap kx x.crash.keep) (h3 : x.ok) (k1 : BytesIn w.heap (fun _ => True) bY y.b) (k2 : BoolsAt w.heap kY y.crash.keep) (k3 : y.ok) :
    ActsAt (w.alloc (.cells #[.int .i64 x.what, .int .i64 x.sec, .int .i64 x.n, bx, .bool x.raw, kx, .int .i64 x.crash.torn, .int .i64 x.crash.part, .int .i64 y.what, .int .i64 y.sec, .int .i64 y.n, bY, .bool y.raw, kY, .int .i64 y.crash.torn, .int .i64 y.crash.part] 46)).heap (.slice (some ⟨w.heap.size, 0, none⟩) 2 2) [x, y] := by
  have keep : ∀ k, k < w.heap.size → (w.alloc (.cells #[.int .i64 x.what, .int .i64 x.sec, .int .i64 x.n, bx, .bool x.raw, kx, .int .i64 x.crash.torn, .int .i64 x.crash.part, .int .i64 y.what, .int .i64 y.sec, .int .i64 y.n, bY, .bool y.raw, kY, .int .i64 y.crash.torn, .int .i64 y.crash.part] 46)).heap[k]? = w.heap[k]? := fun k hk => heap_old_own w _ k hk
  refine Or.inr ⟨w.heap.size, 0, 2, _, _, (0, 0), rfl, heap_alloc_last w _, fun i z hi => ?_⟩
  match i, hi with
  | 0, hi => cases hi; exact ⟨bx, kx, rfl, rfl, rfl, rfl, rfl, rfl, rfl, rfl, h1.keeps (fun k _ hl => keep k hl) (fun _ h _ => h), h2.keeps keep, h3⟩
  | 1, hi => cases hi; exact ⟨bY, kY, rfl, rfl, rfl, rfl, rfl, rfl, rfl, rfl, k1.keeps (fun k _ hl => keep k hl) (fun _ h _ => h), k2.keeps keep, k3⟩
  | n + 2, hi => simp at hi

set_option maxRecDepth 100000 in
set_option maxHeartbeats 400000 in
theorem copies_xy {v bx kx bY kY : Value} {x y : ActM} {l : List ActM} {w : World} (hv : ActsAt w.heap v l) (hl : l.length ≤ 9223372036854775807) (hx1 : BytesIn w.heap (fun _ => True) bx x.b) (hx2 : BoolsAt w.heap kx x.crash.keep) (hx3 : x.ok) (hy1 : BytesIn w.heap (fun _ => True) bY y.b) (hy2 : BoolsAt w.heap kY y.crash.keep) (hy3 : y.ok) (hf : fewB l 20 = true) (hf2 : fewB [x, y] 2 = false) :
    Calls Try.prog 5 #[v, actV x bx kx, actV y bY kY] w fun e w' => e = .returned (.bool true) ∧ Below w.heap.size w w' := by
  have hb0 : Below w.heap.size w ((w.alloc (.cells (actC x.what x.sec x.n bx x.raw kx x.crash.torn x.crash.part) tAct)).alloc (.cells (actC y.what y.sec y.n bY y.raw kY y.crash.torn y.crash.part) tAct)) := ((Below.refl _ _).alloc (Nat.le_refl _) _).alloc (by simp) _
  have q0 : ((w.alloc (.cells (actC x.what x.sec x.n bx x.raw kx x.crash.torn x.crash.part) tAct)).alloc (.cells (actC y.what y.sec y.n bY y.raw kY y.crash.torn y.crash.part) tAct)).heap[w.heap.size]? = some (.cells (actC x.what x.sec x.n bx x.raw kx x.crash.torn x.crash.part) tAct (0, 0)) := (Below.heap_alloc _ _ _ (by simp)).trans (heap_alloc_last w _)
  have q1 : ((w.alloc (.cells (actC x.what x.sec x.n bx x.raw kx x.crash.torn x.crash.part) tAct)).alloc (.cells (actC y.what y.sec y.n bY y.raw kY y.crash.torn y.crash.part) tAct)).heap[w.heap.size + 1]? = some (.cells (actC y.what y.sec y.n bY y.raw kY y.crash.torn y.crash.part) tAct (0, 0)) := heap_at (w := w.alloc _) _ (by simp)
  obtain ⟨W0, hW0⟩ : ∃ W0, (w.alloc (.cells (actC x.what x.sec x.n bx x.raw kx x.crash.torn x.crash.part) tAct)).alloc (.cells (actC y.what y.sec y.n bY y.raw kY y.crash.torn y.crash.part) tAct) = W0 := ⟨_, rfl⟩
  rw [hW0] at hb0 q0 q1
  have a0 : W0.cell? ⟨w.heap.size, 0, none⟩ = some (.int .i64 x.what) := row_cell q0 rfl
  have a1 : W0.cell? ⟨w.heap.size, 1, none⟩ = some (.int .i64 x.sec) := row_cell q0 rfl
  have a2 : W0.cell? ⟨w.heap.size, 2, none⟩ = some (.int .i64 x.n) := row_cell q0 rfl
  have a3 : W0.cell? ⟨w.heap.size, 3, none⟩ = some (bx) := row_cell q0 rfl
  have a4 : W0.cell? ⟨w.heap.size, 4, none⟩ = some (.bool x.raw) := row_cell q0 rfl
  have a5 : W0.cell? ⟨w.heap.size, 5, none⟩ = some (kx) := row_cell q0 rfl
  have a6 : W0.cell? ⟨w.heap.size, 6, none⟩ = some (.int .i64 x.crash.torn) := row_cell q0 rfl
  have a7 : W0.cell? ⟨w.heap.size, 7, none⟩ = some (.int .i64 x.crash.part) := row_cell q0 rfl
  have b0 : W0.cell? ⟨w.heap.size + 1, 0, none⟩ = some (.int .i64 y.what) := row_cell q1 rfl
  have b1 : W0.cell? ⟨w.heap.size + 1, 1, none⟩ = some (.int .i64 y.sec) := row_cell q1 rfl
  have b2 : W0.cell? ⟨w.heap.size + 1, 2, none⟩ = some (.int .i64 y.n) := row_cell q1 rfl
  have b3 : W0.cell? ⟨w.heap.size + 1, 3, none⟩ = some (bY) := row_cell q1 rfl
  have b4 : W0.cell? ⟨w.heap.size + 1, 4, none⟩ = some (.bool y.raw) := row_cell q1 rfl
  have b5 : W0.cell? ⟨w.heap.size + 1, 5, none⟩ = some (kY) := row_cell q1 rfl
  have b6 : W0.cell? ⟨w.heap.size + 1, 6, none⟩ = some (.int .i64 y.crash.torn) := row_cell q1 rfl
  have b7 : W0.cell? ⟨w.heap.size + 1, 7, none⟩ = some (.int .i64 y.crash.part) := row_cell q1 rfl
  have FW := Lib.hid (few_c (hv.keeps (fun k hl => hb0.block k hl)) 20 hl)
  have fw2 := few_c (two_acts (w := W0) (hx1.keeps (F' := fun _ => True) (fun k _ hl => hb0.block k hl) (fun _ h _ => h)) (hx2.keeps (fun k hl => hb0.block k hl)) hx3 (hy1.keeps (F' := fun _ => True) (fun k _ hl => hb0.block k hl) (fun _ h _ => h)) (hy2.keeps (fun k hl => hb0.block k hl)) hy3) 2 (by simp)
  rw [hf2] at fw2
  have FW2 := Lib.hid fw2
  have WK := Lib.hid (works_c (W0.alloc (.cells #[.int .i64 x.what, .int .i64 x.sec, .int .i64 x.n, bx, .bool x.raw, kx, .int .i64 x.crash.torn, .int .i64 x.crash.part, .int .i64 y.what, .int .i64 y.sec, .int .i64 y.n, bY, .bool y.raw, kY, .int .i64 y.crash.torn, .int .i64 y.crash.part] 46)))
  have BQ := Lib.hid (hb0.alloc hb0.size (.cells #[.int .i64 x.what, .int .i64 x.sec, .int .i64 x.n, bx, .bool x.raw, kx, .int .i64 x.crash.torn, .int .i64 x.crash.part, .int .i64 y.what, .int .i64 y.sec, .int .i64 y.n, bY, .bool y.raw, kY, .int .i64 y.crash.torn, .int .i64 y.crash.part] 46))
  have Q := Lib.hid (And.intro q0 q1)
  rw [hf] at FW
  clear hf hf2 fw2 hv hb0 q0 q1 hx1 hx2 hx3 hy1 hy2 hy3
  go_enter Try.func5, Try.ntmps5
  go_upto_region 1 with fail
  clear hW0
  go_wp2_with (first
    | (go_at_call 6; (with_reducible refine FW.out.mono ?_); rintro e w' ⟨rfl, rfl⟩)
    | (go_at_call 6; (with_reducible refine FW2.out.mono ?_); rintro e w' ⟨rfl, rfl⟩)
    | (go_at_call 7; refine WK.out.mono ?_; rintro e w2 ⟨rfl, hb2⟩))
  go_ret
  exact ⟨rfl, BQ.out.trans (hb2.mono BQ.out.size)⟩

end Go.Proofs.Ytiefhmbpaoecfaa

namespace Go.Proofs.Ytiefhmbpaoecfaa
open Go.RowKit Dm

/-- A disk, its copy, and the document's. -/
structure St1 (w W : World) (p m gw pc mc : Nat) (d : D) (F Fc : Nat → Prop) (C : Array Value) : Prop where
  below : Below w.heap.size w W
  new : w.heap.size ≤ p ∧ w.heap.size ≤ m ∧ w.heap.size ≤ gw ∧ w.heap.size ≤ pc ∧ w.heap.size ≤ mc
  a : DiskAt W.heap p m d F
  c : DiskAt W.heap pc mc d Fc
  row : W.heap[gw]? = some (.cells C tRDisk (0, 0))
  size : C.size = 10
  ref : RefAt W.heap F (.agg C) d
  refc : RefAt W.heap Fc (.agg C) d
  ne : pc ≠ p ∧ pc ≠ m ∧ mc ≠ p ∧ mc ≠ m ∧ gw ≠ p ∧ gw ≠ m ∧ gw ≠ pc ∧ gw ≠ mc
  fa : ∀ k, F k → k ≠ pc ∧ k ≠ mc ∧ k ≠ gw ∧ k < W.heap.size
  fc : ∀ k, Fc k → k ≠ p ∧ k ≠ m ∧ k ≠ gw ∧ k < W.heap.size

theorem St1.next {w W W' : World} {p m gw pc mc : Nat} {d : D} {F Fc : Nat → Prop} {C : Array Value} (h : St1 w W p m gw pc mc d F Fc C) (hb : Below W.heap.size W W') : St1 w W' p m gw pc mc d F Fc C := by
  have z := hb.size
  exact ⟨h.below.trans (hb.mono h.below.size), h.new, h.a.below hb, h.c.below hb, (hb.block _ (lt_of_row h.row)).trans h.row, h.size, h.ref.keeps (fun k _ hl => hb.block k hl) (fun _ h _ => h), h.refc.keeps (fun k _ hl => hb.block k hl) (fun _ h _ => h), h.ne, fun k hk => by have := h.fa k hk; omega, fun k hk => by have := h.fc k hk; omega⟩

theorem St1.start {w W W2 : World} {p m gw mc : Nat} {d : D} {F : Nat → Prop} {C : Array Value} (h : PMem w W p m gw d F C) (hb : Below W.heap.size W W2) (hm : W.heap.size ≤ mc) (x : DiskAt W2.heap W.heap.size mc d (CopyF F W W2 W.heap.size mc)) : St1 w W2 p m gw W.heap.size mc d F (CopyF F W W2 W.heap.size mc) C := by
  have z := hb.size
  have z0 := h.below.size
  obtain ⟨n1, n2, n3, n4, n5, n6⟩ := h.new
  have lx := h.disk.lt
  refine ⟨h.below.trans (hb.mono h.below.size), ⟨n1, n2, n3, z0, by omega⟩, h.disk.below hb, x, (hb.block _ (lt_of_row h.row)).trans h.row, h.size, h.ref.keeps (fun k _ hl => hb.block k hl) (fun _ h _ => h), h.ref.keeps (fun k _ hl => hb.block k hl) (fun k hk hl => Or.inl ⟨hk, hl⟩), by omega, fun k hk => by have := h.foot k hk; omega, fun k hk => ?_⟩
  rcases hk with hk | hk
  · have := h.foot k hk.1
    have np : k ≠ p := fun e => lx.2.2.2.1 (e ▸ hk.1)
    have nm : k ≠ m := fun e => lx.2.2.2.2 (e ▸ hk.1)
    omega
  · omega

/-- The disk has gone on; its copy has not. -/
structure St2 (w W : World) (p m g pc mc gw : Nat) (d1 d : D) (F Fc : Nat → Prop) (C1 C : Array Value) : Prop where
  below : Below w.heap.size w W
  new : w.heap.size ≤ p ∧ w.heap.size ≤ m ∧ w.heap.size ≤ g ∧ w.heap.size ≤ gw ∧ w.heap.size ≤ pc ∧ w.heap.size ≤ mc
  a : DiskAt W.heap p m d1 F
  row1 : W.heap[g]? = some (.cells C1 tRDisk (0, 0))
  size1 : C1.size = 10
  ra : RefAt W.heap F (.agg C1) d1
  c : DiskAt W.heap pc mc d Fc
  row : W.heap[gw]? = some (.cells C tRDisk (0, 0))
  size : C.size = 10
  rc : RefAt W.heap Fc (.agg C) d
  ne : pc ≠ p ∧ pc ≠ m ∧ mc ≠ p ∧ mc ≠ m ∧ g ≠ pc ∧ g ≠ mc
  fa : ∀ k, F k → k ≠ pc ∧ k ≠ mc

theorem St2.next {w W W' : World} {p m g pc mc gw : Nat} {d1 d : D} {F Fc : Nat → Prop} {C1 C : Array Value} (h : St2 w W p m g pc mc gw d1 d F Fc C1 C) (hb : Below W.heap.size W W') : St2 w W' p m g pc mc gw d1 d F Fc C1 C :=
  ⟨h.below.trans (hb.mono h.below.size), h.new, h.a.below hb, (hb.block _ (lt_of_row h.row1)).trans h.row1, h.size1, h.ra.keeps (fun k _ hl => hb.block k hl) (fun _ h _ => h), h.c.below hb, (hb.block _ (lt_of_row h.row)).trans h.row, h.size, h.rc.keeps (fun k _ hl => hb.block k hl) (fun _ h _ => h), h.ne, h.fa⟩

theorem St1.acted {w W W5 W6 : World} {p m gw pc mc g : Nat} {d d1 : D} {F Fc F1 : Nat → Prop} {C C1 : Array Value} (h : St1 w W p m gw pc mc d F Fc C) {p1 m1 : Nat} (hm : Moves (fun k => k = p ∨ k = m) W W5) (x : DiskAt W5.heap p1 m1 d1 F1) (hr : RefAt W5.heap F1 (.agg C1) d1)
    (hF : ∀ k, F1 k → (F k ∧ k < W.heap.size) ∨ (W.heap.size ≤ k ∧ k < W5.heap.size)) (hp : (p1 = p ∧ m1 = m) ∨ (W.heap.size ≤ p1 ∧ W.heap.size ≤ m1)) (hb : Below W5.heap.size W5 W6) (hg : W5.heap.size ≤ g) (r : W6.heap[g]? = some (.cells C1 tRDisk (0, 0))) (hs : C1.size = 10) :
    St2 w W6 p1 m1 g pc mc gw d1 d F1 Fc C1 C := by
  have z0 := h.below.size
  have z1 := hm.size
  have z2 := hb.size
  obtain ⟨n1, n2, n3, n4, n5⟩ := h.new
  obtain ⟨e1, e2, e3, e4, e5, e6, e7, e8⟩ := h.ne
  have lc := h.c.lt
  have lw := lt_of_row h.row
  have hbel : Below w.heap.size w W5 := h.below.trans ⟨hm.os, hm.tape, hm.output, hm.size, fun k hk => hm.block k (by omega) (by omega)⟩
  have keep : ∀ k, k < W.heap.size → k ≠ p → k ≠ m → W6.heap[k]? = W.heap[k]? := fun k hk h1 h2 => (hb.block k (by omega)).trans (hm.block k hk (by omega))
  refine ⟨hbel.trans (hb.mono (by omega)), ⟨?_, ?_, by omega, n3, n4, n5⟩, x.below hb, r, hs, hr.keeps (fun k _ hl => hb.block k hl) (fun _ h _ => h), ?_, (keep _ lw e5 e6).trans h.row, h.size, ?_, ⟨?_, ?_, ?_, ?_, by omega, by omega⟩, fun k hk => ?_⟩
  · rcases hp with hp | hp <;> omega
  · rcases hp with hp | hp <;> omega
  · exact h.c.keeps (keep _ lc.1 e1 e2) (keep _ lc.2.1 e3 e4) (fun k hk hl => keep k hl (h.fc k hk).1 (h.fc k hk).2.1) (fun _ h _ => h) (fun k hk => Or.inl hk)
  · exact h.refc.keeps (fun k hk hl => keep k hl (h.fc k hk).1 (h.fc k hk).2.1) (fun _ h _ => h)
  · rcases hp with hp | hp <;> omega
  · rcases hp with hp | hp <;> omega
  · rcases hp with hp | hp <;> omega
  · rcases hp with hp | hp <;> omega
  · rcases hF k hk with q | q
    · have := h.fa k q.1; omega
    · omega

/-- Both have gone on. -/
structure St3 (w W : World) (p m g p2 m2 g2 : Nat) (d1 d2 : D) (F F2 : Nat → Prop) (C1 C2 : Array Value) : Prop where
  below : Below w.heap.size w W
  a : DiskAt W.heap p m d1 F
  row1 : W.heap[g]? = some (.cells C1 tRDisk (0, 0))
  size1 : C1.size = 10
  ra : RefAt W.heap F (.agg C1) d1
  b : DiskAt W.heap p2 m2 d2 F2
  row2 : W.heap[g2]? = some (.cells C2 tRDisk (0, 0))
  size2 : C2.size = 10
  rb : RefAt W.heap F2 (.agg C2) d2

theorem St3.next {w W W' : World} {p m g p2 m2 g2 : Nat} {d1 d2 : D} {F F2 : Nat → Prop} {C1 C2 : Array Value} (h : St3 w W p m g p2 m2 g2 d1 d2 F F2 C1 C2) (hb : Below W.heap.size W W') : St3 w W' p m g p2 m2 g2 d1 d2 F F2 C1 C2 :=
  ⟨h.below.trans (hb.mono h.below.size), h.a.below hb, (hb.block _ (lt_of_row h.row1)).trans h.row1, h.size1, h.ra.keeps (fun k _ hl => hb.block k hl) (fun _ h _ => h), h.b.below hb, (hb.block _ (lt_of_row h.row2)).trans h.row2, h.size2, h.rb.keeps (fun k _ hl => hb.block k hl) (fun _ h _ => h)⟩

theorem St2.acted {w W W5 W6 : World} {p m g pc mc gw g2 : Nat} {d1 d d2 : D} {F Fc F2 : Nat → Prop} {C1 C C2 : Array Value} (h : St2 w W p m g pc mc gw d1 d F Fc C1 C) {p2 m2 : Nat} (hm : Moves (fun k => k = pc ∨ k = mc) W W5) (x : DiskAt W5.heap p2 m2 d2 F2) (hr : RefAt W5.heap F2 (.agg C2) d2)
    (hb : Below W5.heap.size W5 W6) (r : W6.heap[g2]? = some (.cells C2 tRDisk (0, 0))) (hs : C2.size = 10) : St3 w W6 p m g p2 m2 g2 d1 d2 F F2 C1 C2 := by
  have z0 := h.below.size
  have z1 := hm.size
  obtain ⟨n1, n2, n3, n4, n5, n6⟩ := h.new
  obtain ⟨e1, e2, e3, e4, e5, e6⟩ := h.ne
  have la := h.a.lt
  have lw := lt_of_row h.row1
  have hbel : Below w.heap.size w W5 := h.below.trans ⟨hm.os, hm.tape, hm.output, hm.size, fun k hk => hm.block k (by omega) (by omega)⟩
  have keep : ∀ k, k < W.heap.size → k ≠ pc → k ≠ mc → W6.heap[k]? = W.heap[k]? := fun k hk h1 h2 => (hb.block k (by omega)).trans (hm.block k hk (by omega))
  refine ⟨hbel.trans (hb.mono (by omega)), ?_, (keep _ lw e5 e6).trans h.row1, h.size1, ?_, x.below hb, r, hs, hr.keeps (fun k _ hl => hb.block k hl) (fun _ h _ => h)⟩
  · exact h.a.keeps (keep _ la.1 (Ne.symm e1) (Ne.symm e3)) (keep _ la.2.1 (Ne.symm e2) (Ne.symm e4)) (fun k hk hl => keep k hl (h.fa k hk).1 (h.fa k hk).2) (fun _ h _ => h) (fun k hk => Or.inl hk)
  · exact h.ra.keeps (fun k hk hl => keep k hl (h.fa k hk).1 (h.fa k hk).2) (fun _ h _ => h)

theorem SameD.refl (d : D) : SameD d d := ⟨rfl, rfl, rfl, rfl, rfl, fun _ _ => rfl, fun _ => rfl⟩
theorem SameD.symm {d k : D} (h : SameD d k) : SameD k d := ⟨h.1.symm, h.2.1.symm, h.2.2.1.symm, h.2.2.2.1.symm, h.2.2.2.2.1.symm, fun j hj => (h.2.2.2.2.2.1 j hj).symm, fun n => (h.2.2.2.2.2.2 n).symm⟩

end Go.Proofs.Ytiefhmbpaoecfaa

namespace Go.Proofs.Ytiefhmbpaoecfaa
open Go.RowKit Dm

def CopRel (w : World) (l : List ActM) (n : Nat) (g : Nat) (s7 s11 : Value) (wr : World) (gw : Nat) : Prop :=
  ∃ k : Nat, s11 = .int .i64 (k : Int) ∧ g + k = n ∧ ∃ p m F C, s7 = .pointer (some ⟨p, 0, none⟩) ∧ PMem w wr p m gw (dAt 8 600 l k) F C

set_option maxRecDepth 100000 in
set_option maxHeartbeats 16000000 in
theorem copies_few {v bx kx bY kY : Value} {x y : ActM} {l : List ActM} {w : World} (hv : ActsAt w.heap v l) (hx1 : BytesIn w.heap (fun _ => True) bx x.b) (hx2 : BoolsAt w.heap kx x.crash.keep) (hx3 : x.ok) (hy1 : BytesIn w.heap (fun _ => True) bY y.b) (hy2 : BoolsAt w.heap kY y.crash.keep) (hy3 : y.ok)
    (hf : fewB l 20 = true) (hf2 : fewB [x, y] 2 = true) :
    Calls Try.prog 5 #[v, actV x bx kx, actV y bY kY] w fun e w' => e = .returned (.bool true) ∧ Below w.heap.size w w' := by
  obtain ⟨va, vcap, rfl⟩ := hv.slice
  obtain ⟨hsm, hl20⟩ := fewB_small hf
  obtain ⟨hsm2, _⟩ := fewB_small hf2
  have xsm := hsm2 x (by simp)
  have ysm := hsm2 y (by simp)
  simp only [ActM.small, Bool.and_eq_true, decide_eq_true_eq] at xsm ysm
  have hl20' : l.length ≤ 20 := by omega
  have hb0 : Below w.heap.size w ((w.alloc (.cells (actC x.what x.sec x.n bx x.raw kx x.crash.torn x.crash.part) tAct)).alloc (.cells (actC y.what y.sec y.n bY y.raw kY y.crash.torn y.crash.part) tAct)) := ((Below.refl _ _).alloc (Nat.le_refl _) _).alloc (by simp) _
  have q0 : ((w.alloc (.cells (actC x.what x.sec x.n bx x.raw kx x.crash.torn x.crash.part) tAct)).alloc (.cells (actC y.what y.sec y.n bY y.raw kY y.crash.torn y.crash.part) tAct)).heap[w.heap.size]? = some (.cells (actC x.what x.sec x.n bx x.raw kx x.crash.torn x.crash.part) tAct (0, 0)) := (Below.heap_alloc _ _ _ (by simp)).trans (heap_alloc_last w _)
  have q1 : ((w.alloc (.cells (actC x.what x.sec x.n bx x.raw kx x.crash.torn x.crash.part) tAct)).alloc (.cells (actC y.what y.sec y.n bY y.raw kY y.crash.torn y.crash.part) tAct)).heap[w.heap.size + 1]? = some (.cells (actC y.what y.sec y.n bY y.raw kY y.crash.torn y.crash.part) tAct (0, 0)) := heap_at (w := w.alloc _) _ (by simp)
  obtain ⟨W0, hW0⟩ : ∃ W0, ((w.alloc (.cells (actC x.what x.sec x.n bx x.raw kx x.crash.torn x.crash.part) tAct)).alloc (.cells (actC y.what y.sec y.n bY y.raw kY y.crash.torn y.crash.part) tAct)) = W0 := ⟨_, rfl⟩
  rw [hW0] at hb0 q0 q1
  have a0 : W0.cell? ⟨w.heap.size, 0, none⟩ = some (.int .i64 x.what) := row_cell q0 rfl
  have a1 : W0.cell? ⟨w.heap.size, 1, none⟩ = some (.int .i64 x.sec) := row_cell q0 rfl
  have a2 : W0.cell? ⟨w.heap.size, 2, none⟩ = some (.int .i64 x.n) := row_cell q0 rfl
  have a3 : W0.cell? ⟨w.heap.size, 3, none⟩ = some (bx) := row_cell q0 rfl
  have a4 : W0.cell? ⟨w.heap.size, 4, none⟩ = some (.bool x.raw) := row_cell q0 rfl
  have a5 : W0.cell? ⟨w.heap.size, 5, none⟩ = some (kx) := row_cell q0 rfl
  have a6 : W0.cell? ⟨w.heap.size, 6, none⟩ = some (.int .i64 x.crash.torn) := row_cell q0 rfl
  have a7 : W0.cell? ⟨w.heap.size, 7, none⟩ = some (.int .i64 x.crash.part) := row_cell q0 rfl
  have b0 : W0.cell? ⟨w.heap.size + 1, 0, none⟩ = some (.int .i64 y.what) := row_cell q1 rfl
  have b1 : W0.cell? ⟨w.heap.size + 1, 1, none⟩ = some (.int .i64 y.sec) := row_cell q1 rfl
  have b2 : W0.cell? ⟨w.heap.size + 1, 2, none⟩ = some (.int .i64 y.n) := row_cell q1 rfl
  have b3 : W0.cell? ⟨w.heap.size + 1, 3, none⟩ = some (bY) := row_cell q1 rfl
  have b4 : W0.cell? ⟨w.heap.size + 1, 4, none⟩ = some (.bool y.raw) := row_cell q1 rfl
  have b5 : W0.cell? ⟨w.heap.size + 1, 5, none⟩ = some (kY) := row_cell q1 rfl
  have b6 : W0.cell? ⟨w.heap.size + 1, 6, none⟩ = some (.int .i64 y.crash.torn) := row_cell q1 rfl
  have b7 : W0.cell? ⟨w.heap.size + 1, 7, none⟩ = some (.int .i64 y.crash.part) := row_cell q1 rfl
  have hv0 := hv.keeps (fun k hl => hb0.block k hl)
  have fw := few_c hv0 20 (by omega)
  rw [hf] at fw
  have FW := Lib.hid fw
  have fw2 := few_c (two_acts (w := W0) (hx1.keeps (F' := fun _ => True) (fun k _ hl => hb0.block k hl) (fun _ h _ => h)) (hx2.keeps (fun k hl => hb0.block k hl)) hx3 (hy1.keeps (F' := fun _ => True) (fun k _ hl => hb0.block k hl) (fun _ h _ => h)) (hy2.keeps (fun k hl => hb0.block k hl)) hy3) 2 (by simp)
  rw [hf2] at fw2
  obtain ⟨Wq, hWq⟩ : ∃ Wq, W0.alloc (.cells #[.int .i64 x.what, .int .i64 x.sec, .int .i64 x.n, bx, .bool x.raw, kx, .int .i64 x.crash.torn, .int .i64 x.crash.part, .int .i64 y.what, .int .i64 y.sec, .int .i64 y.n, bY, .bool y.raw, kY, .int .i64 y.crash.torn, .int .i64 y.crash.part] 46) = Wq := ⟨_, rfl⟩
  have hb0q : Below W0.heap.size W0 Wq := by rw [← hWq]; exact (Below.refl _ _).alloc (Nat.le_refl _) _
  have hbq : Below w.heap.size w Wq := hb0.trans (hb0q.mono hb0.size)
  have FW2 := Lib.hid fw2
  have WQ := Lib.hid hWq
  have IN := Lib.hid (And.intro (hv.keeps (h' := Wq.heap) (fun k hl => hbq.block k hl)) (And.intro hsm hbq))
  have XI := Lib.hid (And.intro (And.intro (hx1.keeps (h' := Wq.heap) (F' := fun _ => True) (fun k _ hl => hbq.block k hl) (fun _ h _ => h)) (And.intro (hx2.keeps (h' := Wq.heap) (fun k hl => hbq.block k hl)) (And.intro hx3 xsm))) ((hb0q.block _ (lt_of_row q0)).trans q0))
  have YI := Lib.hid (And.intro (And.intro (hy1.keeps (h' := Wq.heap) (F' := fun _ => True) (fun k _ hl => hbq.block k hl) (fun _ h _ => h)) (And.intro (hy2.keeps (h' := Wq.heap) (fun k hl => hbq.block k hl)) (And.intro hy3 ysm))) ((hb0q.block _ (lt_of_row q1)).trans q1))
  generalize hn : l.length = n at *
  have HN := Lib.hid hn
  clear hf hf2 fw fw2 hv hv0 hb0 q0 q1 hb0q hbq hx1 hx2 hx3 hy1 hy2 hy3 hsm hsm2 xsm ysm hWq hn hl20
  go_enter Try.func5, Try.ntmps5
  go_upto_region 1 with fail
  clear hW0
  go_upto_region 4 with (first
    | (go_at_call 6; (with_reducible refine FW.out.mono ?_); rintro e w' ⟨rfl, rfl⟩)
    | (go_at_call 6; (with_reducible refine FW2.out.mono ?_); rintro e w' ⟨rfl, rfl⟩; rw [WQ.out])
    | (go_at_call 8; refine (new_c 8 600 Wq rfl).mono ?_; rintro e w1 ⟨p, m, rfl, hb1, hp, hm, x1⟩))
  clear a0 a1 a2 a3 a4 a5 a6 a7 b0 b1 b2 b3 b4 b5 b6 b7 FW FW2 WQ
  have lx := x1.lt
  have x1' := x1.weak (F' := fun k => k < w1.heap.size ∧ k ≠ p ∧ k ≠ m) (fun k hk hl => ⟨hl, hk.2⟩) (fun h => h.2.1 rfl) (fun h => h.2.2 rfl)
  have RN := Lib.hid (rnew_c 8 600 w1 (fun k => k < w1.heap.size ∧ k ≠ p ∧ k ≠ m) rfl)
  have X1 := Lib.hid (And.intro hb1 (And.intro hp (And.intro hm x1')))
  clear hb1 hp hm x1 x1' lx
  go_upto_region 5 with (first
    | (go_at_call 11; refine RN.out.mono ?_; rintro e w3 ⟨v3, rfl, hb3, hr3⟩
       obtain ⟨sv3, u0, u1, u2, u3, wv3, ev, rb3, st3⟩ := id hr3
       subst ev
       have R3 := Lib.hid (And.intro hb3 (And.intro (ref_ones rb3 st3) hr3))
       clear hb3 rb3 st3 hr3)
    | (refine wpList_store_abs rfl tRDisk (.tmp 9) (.tmp 37) rfl w3.heap.size _ rfl rfl tRDisk ref0 (heap_alloc_last w3 _) infoRD rfl (R3.out.2.1 _ _ _ _) ?_
       intro w4 HW4 HM4 HS4
       have hb4 : Below w3.heap.size w3 w4 := Moves.new ((Below.refl _ _).alloc (Nat.le_refl _) _) HM4 (Nat.le_refl _)))
  have pm : PMem Wq w4 p m w3.heap.size (Dm.new 8 600) (fun k => (k < w1.heap.size ∧ k ≠ p ∧ k ≠ m) ∨ (w1.heap.size ≤ k ∧ k < w3.heap.size)) (refC (Dm.new 8 600).many (Dm.new 8 600).room sv3 u0 u1 u2 u3 wv3 (Dm.new 8 600).dead (Dm.new 8 600).stops) := by
    have z1 := X1.out.1.size
    have z3 := R3.out.1.size
    have l1 := X1.out.2.2.2.lt
    have l4 := lt_of_row HW4.out
    have hb14 := R3.out.1.trans (hb4.mono z3)
    refine ⟨X1.out.1.trans (hb14.mono z1), ⟨X1.out.2.1, X1.out.2.2.1, by omega, l4, by omega, by omega⟩, (X1.out.2.2.2.below hb14).weak (fun k hk hl => Or.inl hk) (by omega) (by omega), HW4.out, ?_, rfl, fun k hk => by omega⟩
    exact R3.out.2.2.keeps (fun k hk hl => hb4.block k hl) (fun k hk hl => hk)
  have PM := Lib.hid pm
  clear pm R3 X1 HM4 HS4 HW4 hb4 RN
  generalize w3.heap.size = gw at *
  generalize (refC (Dm.new 8 600).many (Dm.new 8 600).room sv3 u0 u1 u2 u3 wv3 (Dm.new 8 600).dead (Dm.new 8 600).stops) = C3 at *
  go_wp2
  go_loopg [7, 11] n (fun g s7 s11 wr => CopRel Wq l n g s7 s11 wr gw)
  case atStart => exact ⟨0, rfl, rfl, p, m, _, C3, rfl, PM.out⟩
  case round =>
    clear PM
    obtain ⟨k, rfl, hg, p, m, F, C, rfl, pm⟩ := hrel
    by_cases hlt : k < n
    · have hkl : k < l.length := by rw [HN.out]; exact hlt
      obtain ⟨z, hz⟩ : ∃ z, l[k]? = some z := ⟨_, List.getElem?_eq_getElem hkl⟩
      obtain ⟨b, o, cap, bv, zkv, ev, hblt, rng, hbv, hzkv, zok⟩ := IN.out.1.row hz
      obtain ⟨rfl, hx1, hx2⟩ := Value.slice.inj ev
      clear hx1 hx2
      have rngr : wr.rangeAt b (o + k * 8) _ := fun j u hj => (pm.below.cell (p := ⟨b, o + k * 8 + j, none⟩) hblt).trans (rng j u hj)
      have hsmall := IN.out.2.1 z (List.mem_of_getElem? hz)
      simp only [ActM.small, Bool.and_eq_true, decide_eq_true_eq] at hsmall
      have hbvr : BytesIn wr.heap (fun _ => True) bv z.b := hbv.keeps (fun k _ hl => pm.below.block k hl) (fun _ h _ => h)
      have hkvr : BoolsAt wr.heap zkv z.crash.keep := hzkv.keeps (fun k hl => pm.below.block k hl)
      have hk0 : (0 : Int) ≤ (k : Int) := by omega
      have hk1 : (k : Int) < (n : Int) := by omega
      have wl := dAt_waits 8 600 l k
      have AC := Lib.hid (act_any (w := wr.drew) pm.disk pm.ref (by omega) z zok hbvr (by omega) hkvr (by omega))
      have PMH := Lib.hid (And.intro pm (And.intro hg (And.intro hz (And.intro rngr hblt))))
      have NXT := Lib.hid (dAt_succ (s := 8) (r := 600) hz)
      have LD9 : Hid (∀ w', (∃ x : Wd (ActCls gw b wr), w' = x.world) → (Instr.loadAt tRDisk (.pointer (some ⟨gw, 0, none⟩))).run Try.prog w' = .ok (.agg C) w') := by
        rintro w' ⟨x, rfl⟩
        exact run_loadAt_row (x.ok.1.trans PMH.out.1.row) Try.underlying42 rfl (by rw [infoRD, PMH.out.1.size])
      have LDA : Hid (∀ w', (∃ x : Wd (ActCls gw b wr), w' = x.world) → (Instr.loadAt tAct (.pointer (some ⟨b, o + k * 8, none⟩))).run Try.prog w' = .ok (.agg #[.int .i64 z.what, .int .i64 z.sec, .int .i64 z.n, bv, .bool z.raw, zkv, .int .i64 z.crash.torn, .int .i64 z.crash.part]) w') := by
        rintro w' ⟨x, rfl⟩
        exact run_loadAt_mid x.world b (o + k * 8) tAct [.int .i64 z.what, .int .i64 z.sec, .int .i64 z.n, bv, .bool z.raw, zkv, .int .i64 z.crash.torn, .int .i64 z.crash.part] _ (fun j v hj => by
          have := PMH.out.2.2.2.1 j v hj
          unfold World.cell? at this ⊢
          rw [x.ok.2]
          exact this) Try.underlying46 rfl infoAct
      have ne : Nonempty (Wd (ActCls gw b wr)) := ⟨⟨wr, rfl, rfl⟩⟩
      clear pm hg hz rng rngr hbv hzkv zok ev hsmall hbvr hkvr wl hblt
      go_upto_region 8 with fail
      refine wp_region_hoist (fun w' => ∃ x : Wd (ActCls gw b wr), w' = x.world) [7, 8, 9, 10, 11, 12] (by kernel_rfl) ?_
      refine wpAnyI_reads [0, 1, 2, 3, 4, 5] 7 _ ⟨⟨_, (⟨rfl, rfl⟩ : ActCls gw b wr wr.drew)⟩, rfl⟩ (by kernel_rfl) ?_
      simp only [List.filterMap_cons, List.filterMap_nil, List.getElem?_toArray, List.getElem?_cons_succ, List.getElem?_cons_zero]
      with_reducible refine wpHoist_step (fun K hK => ?_); simp only [hoists, sameUpon]; go_simp; refine hK _ ?_; clear hK K
      refine wpHoist_load_run rfl tRDisk (.tmp 9) rfl _ LD9.out ?_
      iterate 3 (with_reducible refine wpHoist_step (fun K hK => ?_); simp only [hoists, sameUpon]; go_simp; refine hK _ ?_; clear hK K)
      refine wpHoist_load_run rfl tAct (.tmp 50) rfl _ LDA.out ?_
      with_reducible refine wpHoist_nil ?_
      refine wpAnyI_one 6 6 _ _ rfl (by kernel_rfl) ?_
      refine wpList_plain rfl fun K hK => ?_
      go_simp
      go_at_call 13
      refine AC.out.mono ?_
      rintro e w5 ⟨p5, m5, v5, F5, rfl, mv5', x5, hr5, hF5, hp5⟩
      have mv5 : Moves (fun k => k = p ∨ k = m) wr w5 := ⟨mv5'.os, mv5'.tape, mv5'.output, mv5'.size, mv5'.block⟩
      clear mv5'
      obtain ⟨sv5, y0, y1, y2, y3, wv5, ev, rb5, st5⟩ := id hr5
      subst ev
      have on5 := ref_ones rb5 st5
      have cl5 : ActCls gw b wr w5 := ⟨mv5.block gw PMH.out.1.new.2.2.2.1 (by have := PMH.out.1.new; omega), mv5.block b (by have := PMH.out.2.2.2.2; have := PMH.out.1.below.size; omega) (by have := PMH.out.2.2.2.2; have := PMH.out.1.new; omega)⟩
      have A5 := Lib.hid (And.intro mv5 (And.intro x5 (And.intro hr5 (And.intro hF5 (And.intro hp5 on5)))))
      clear mv5 x5 hr5 hF5 hp5 on5 rb5 st5
      refine hK _ _ (wpList_nil ⟨rfl, fun _ => ⟨⟨_, cl5⟩, rfl⟩, ?_⟩)
      clear hK K
      have gw5 : w5.heap[gw]? = some (.cells C tRDisk (0, 0)) := cl5.1.trans PMH.out.1.row
      have G5 := Lib.hid gw5
      clear gw5
      refine wpAnyI_pure [7, 8, 9, 10, 11] 1 _ (by kernel_rfl) ?_
      simp only [List.filterMap_cons, List.filterMap_nil, List.getElem?_toArray, List.getElem?_cons_succ, List.getElem?_cons_zero]
      repeat (refine wpHoist_step (fun K hK => ?_); simp only [hoists, sameUpon]; go_simp; refine hK _ ?_; clear hK K)
      refine wpHoist_nil ?_
      refine wpAnyI_one 12 0 _ _ rfl (by kernel_rfl) ?_
      refine wpList_store_abs rfl tRDisk (.tmp 9) (.tmp 54) rfl gw _ rfl rfl tRDisk C G5.out infoRD (by rw [PMH.out.1.size]; rfl) (A5.out.2.2.2.2.2 _ _ _ _) ?_
      intro w7 HW7 HM7 HS7
      have HM7' : Moves (fun k => k = gw) w5 w7 := ⟨HM7.os, HM7.tape, HM7.output, HM7.size, HM7.block⟩
      have pmF := PMH.out.1.acted A5.out.1 A5.out.2.1 A5.out.2.2.1 A5.out.2.2.2.1 A5.out.2.2.2.2.1 (Moves.refl _ _) HM7' HS7 HW7.out rfl
      refine wpList_nil ⟨rfl, fun h => absurd (by decide) h, by kernel_rfl, ?_⟩
      have PF := Lib.hid pmF
      clear HM7 HM7' HS7 HW7 pmF cl5 A5 ne LD9 LDA AC
      go_wp2
      go_roundg (n - (k + 1))
      case measure => have := PMH.out.2.1; omega
      case rel =>
        have h := PF.out
        rw [← NXT.out] at h
        exact ⟨k + 1, by go_num, by have := PMH.out.2.1; omega, p5, m5, _, _, rfl, h⟩
    · obtain rfl : k = n := by omega
      obtain ⟨wo, ewo⟩ : ∃ wo, wo = wr := ⟨_, rfl⟩
      subst ewo
      have CP := Lib.hid (copy_c pm.disk)
      have PMH := Lib.hid pm
      have wl := dAt_waits 8 600 l k
      have WL : Hid ((dAt 8 600 l k).waits.length ≤ 20) := Lib.hid (by omega)
      clear pm hg wl
      generalize dAt 8 600 l k = d at *
      go_upto_region 10 with (go_at_call 10; refine CP.out.mono ?_; rintro e w2 ⟨mc, rfl, hb2, hm2, x2⟩)
      have st1 := St1.start PMH.out hb2 hm2 x2
      clear hb2 hm2 x2 CP PMH
      generalize CopyF F wo w2 wo.heap.size mc = Fc at st1
      generalize wo.heap.size = pc at *
      have S1 := Lib.hid (bool_told (b := true) ⟨fun _ => SameD.refl d, fun _ => rfl⟩ (same_live st1.a st1.c))
      have ST := Lib.hid st1
      clear st1
      go_upto_region 12 with (first
        | (go_at_call 9; refine (num_c _ _).mono ?_; rintro e w' ⟨rfl, rfl⟩)
        | (go_at_call 29; refine S1.out.mono ?_; rintro e w3 ⟨rfl, hb3⟩
           have st3 := ST.out.next hb3
           have IS := Lib.hid (is_c st3.c st3.refc (by have := WL.out; omega))
           have ST3 := Lib.hid st3
           clear hb3 st3 S1)
        | (refine wpList_load_wanted (by go_simp) tRDisk (.tmp 9) rfl _ (run_loadAt_row ST3.out.row Try.underlying42 rfl (by rw [infoRD, ST3.out.size])) ?_)
        | (go_at_call 30; refine IS.out.mono ?_; rintro e w4 ⟨rfl, hb4⟩))
      have st4 := ST3.out.next hb4
      have AX := Lib.hid (act_any (w := w4) st4.a st4.ref (by have := WL.out; omega) x XI.out.1.2.2.1 (XI.out.1.1.keeps (F' := fun _ => True) (fun k _ hl => st4.below.block k hl) (fun _ h _ => h)) (by have := XI.out.1.2.2.2; omega) (XI.out.1.2.1.keeps (fun k hl => st4.below.block k hl)) (by have := XI.out.1.2.2.2; omega))
      have XR := Lib.hid ((st4.below.block _ (lt_of_row XI.out.2)).trans XI.out.2)
      have ST4 := Lib.hid st4
      clear hb4 st4 ST ST3 IS
      go_upto_region 13 with (first
        | (refine wpList_load_row rfl tRDisk (.tmp 9) rfl gw rfl tRDisk C (0, 0) _ ST4.out.row Try.underlying42 rfl (by rw [infoRD, ST4.out.size]) ?_)
        | (refine wpList_load_row rfl tAct (.tmp 4) rfl w.heap.size rfl tAct _ (0, 0) _ XR.out Try.underlying46 rfl infoAct ?_)
        | (go_at_call 13; refine AX.out.mono ?_; rintro e w5 ⟨p5, m5, v5, F5, rfl, mv5, x5, hr5, hF5, hp5⟩
           obtain ⟨sv5, y0, y1, y2, y3, wv5, ev, rb5, st5⟩ := id hr5
           subst ev
           have A5 := Lib.hid (And.intro mv5 (And.intro x5 (And.intro hr5 (And.intro hF5 (And.intro hp5 (ref_ones rb5 st5))))))
           clear mv5 x5 hr5 hF5 hp5 rb5 st5 AX)
        | (refine wpList_store_abs rfl tRDisk (.tmp 14) (.tmp 79) rfl w5.heap.size _ rfl rfl tRDisk ref0 (heap_alloc_last w5 _) infoRD rfl (A5.out.2.2.2.2.2 _ _ _ _) ?_
           intro w6 HW6 HM6 HS6
           have hb6 : Below w5.heap.size w5 w6 := Moves.new ((Below.refl _ _).alloc (Nat.le_refl _) _) HM6 (Nat.le_refl _)
           have st6 := ST4.out.acted A5.out.1 A5.out.2.1 A5.out.2.2.1 A5.out.2.2.2.1 A5.out.2.2.2.2.1 hb6 (Nat.le_refl _) HW6.out rfl
           have ST6 := Lib.hid st6
           clear HW6 HM6 HS6 hb6 st6 A5 ST4))
      generalize w5.heap.size = g5 at *
      generalize refC (dNext d x).many (dNext d x).room sv5 y0 y1 y2 y3 wv5 (dNext d x).dead (dNext d x).stops = C5 at *
      have RS := Lib.hid (rsame_c ST6.out.ra ST6.out.rc ST6.out.a.ok.many1 ST6.out.c.ok.many1)
      go_upto_region 14 with (first
        | (refine wpList_load_row rfl tRDisk (.tmp 14) rfl g5 rfl tRDisk C5 (0, 0) _ ST6.out.row1 Try.underlying42 rfl (by rw [infoRD, ST6.out.size1]) ?_)
        | (refine wpList_load_row rfl tRDisk (.tmp 9) rfl gw rfl tRDisk C (0, 0) _ ST6.out.row Try.underlying42 rfl (by rw [infoRD, ST6.out.size]) ?_)
        | (go_at_call 31; refine RS.out.mono ?_; rintro e w7 ⟨rs, rfl, hrs, hb7⟩))
      have st7 := ST6.out.next hb7
      have S2 := Lib.hid (bool_told hrs (same_live st7.a st7.c))
      have HRS := Lib.hid hrs
      have ST7 := Lib.hid st7
      clear hb7 hrs st7 RS ST6
      go_upto_region 16 with (first
        | (go_at_call 29; (with_reducible refine S2.out.mono ?_); rintro e w8 ⟨rfl, hb8⟩
           have st8 := ST7.out.next hb8
           have S3 := Lib.hid (bool_told (b := rs) (HRS.out.trans ⟨SameD.symm, SameD.symm⟩) (same_live st8.c st8.a))
           have ST8 := Lib.hid st8
           clear hb8 st8)
        | (go_at_call 29; (with_reducible refine S3.out.mono ?_); rintro e w9 ⟨rfl, hb9⟩))
      have st9 := ST8.out.next hb9
      have AY := Lib.hid (act_any (w := w9) st9.c st9.rc (by have := WL.out; omega) y YI.out.1.2.2.1 (YI.out.1.1.keeps (F' := fun _ => True) (fun k _ hl => st9.below.block k hl) (fun _ h _ => h)) (by have := YI.out.1.2.2.2; omega) (YI.out.1.2.1.keeps (fun k hl => st9.below.block k hl)) (by have := YI.out.1.2.2.2; omega))
      have YR := Lib.hid ((st9.below.block _ (lt_of_row YI.out.2)).trans YI.out.2)
      have ST9 := Lib.hid st9
      clear hb9 st9 ST7 ST8 S2 S3 HRS XR
      go_upto_region 17 with (first
        | (refine wpList_load_row rfl tRDisk (.tmp 9) rfl gw rfl tRDisk C (0, 0) _ ST9.out.row Try.underlying42 rfl (by rw [infoRD, ST9.out.size]) ?_)
        | (refine wpList_load_row rfl tAct (.tmp 5) rfl (w.heap.size + 1) rfl tAct _ (0, 0) _ YR.out Try.underlying46 rfl infoAct ?_)
        | (go_at_call 13; refine AY.out.mono ?_; rintro e w10 ⟨p2, m2, v2, F2, rfl, mv2, x2, hr2, hF2, hp2⟩
           obtain ⟨sv2, z0, z1, z2, z3, wv2, ev, rb2, st2⟩ := id hr2
           subst ev
           have A2 := Lib.hid (And.intro mv2 (And.intro x2 (And.intro hr2 (ref_ones rb2 st2))))
           clear mv2 x2 hr2 hF2 hp2 rb2 st2 AY)
        | (refine wpList_store_abs rfl tRDisk (.tmp 18) (.tmp 106) rfl w10.heap.size _ rfl rfl tRDisk ref0 (heap_alloc_last w10 _) infoRD rfl (A2.out.2.2.2 _ _ _ _) ?_
           intro w11 HW6 HM6 HS6
           have hb6 : Below w10.heap.size w10 w11 := Moves.new ((Below.refl _ _).alloc (Nat.le_refl _) _) HM6 (Nat.le_refl _)
           have st11 := ST9.out.acted A2.out.1 A2.out.2.1 A2.out.2.2.1 hb6 HW6.out rfl
           have ST11 := Lib.hid st11
           clear HW6 HM6 HS6 hb6 st11 A2 ST9))
      generalize w10.heap.size = g10 at *
      generalize refC (dNext d y).many (dNext d y).room sv2 z0 z1 z2 z3 wv2 (dNext d y).dead (dNext d y).stops = C10 at *
      have w1l := dNext_waits d x
      have w2l := dNext_waits d y
      have I1 := Lib.hid (is_c ST11.out.a ST11.out.ra (by have := WL.out; omega))
      have W2L : Hid ((dNext d y).waits.length ≤ 21) := Lib.hid (by have := WL.out; omega)
      clear w1l w2l
      go_wp2_with (first
        | (refine wpList_load_wanted (by go_simp) tRDisk (.tmp 14) rfl _ (run_loadAt_row ST11.out.row1 Try.underlying42 rfl (by rw [infoRD, ST11.out.size1])) ?_)
        | (go_at_call 30; (with_reducible refine I1.out.mono ?_); rintro e w12 ⟨rfl, hb12⟩
           have st12 := ST11.out.next hb12
           have I2 := Lib.hid (is_c st12.b st12.rb (by have := W2L.out; omega))
           have ST12 := Lib.hid st12
           clear hb12 st12)
        | (refine wpList_load_wanted (by go_simp) tRDisk (.tmp 18) rfl _ (run_loadAt_row ST12.out.row2 Try.underlying42 rfl (by rw [infoRD, ST12.out.size2])) ?_)
        | (go_at_call 30; (with_reducible refine I2.out.mono ?_); rintro e w13 ⟨rfl, hb13⟩
           have WK := Lib.hid (works_c w13)
           have H13 := Lib.hid (ST12.out.below.trans (hb13.mono ST12.out.below.size))
           clear hb13)
        | (go_at_call 7; refine WK.out.mono ?_; rintro e w14 ⟨rfl, hb14⟩))
      go_ret
      have h1 := H13.out.trans (hb14.mono H13.out.size)
      exact ⟨rfl, IN.out.2.2.trans (h1.mono IN.out.2.2.size)⟩

end Go.Proofs.Ytiefhmbpaoecfaa
