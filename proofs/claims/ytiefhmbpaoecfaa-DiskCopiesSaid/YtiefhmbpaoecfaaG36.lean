/-
  Calls and crashes that come in, opened.
-/
import Derived.Test.YtiefhmbpaoecfaaG20
import Derived.Test.YtiefhmbpaoecfaaG35
import Derived.Deep.Slices
import Derived.Deep.Grids
import Derived.ChangeSlices
import Derived.ChangeArms

namespace Go.Proofs.Ytiefhmbpaoecfaa
open Go.ChangeShapes Go.WideShapes Go.ChangeAt Go.RowKit Go.Deep Dm

theorem cell_row {w : World} {a : Addr} {v : Value} (h : w.cell? a = some v) : ∃ c t fr, w.heap[a.block]? = some (.cells c t fr) ∧ a.spot = none ∧ c[a.off]? = some v := by
  unfold World.cell? at h
  split at h
  · rename_i c t fr hc
    cases hs : a.spot with
    | none => rw [hs] at h; exact ⟨c, t, fr, hc, rfl, by simpa using h⟩
    | some x => rw [hs] at h; simp at h
  · cases h

section
variable {H : Type} {enc : TypeId × Value → H} {w : World}

theorem wf_u8 {n : Int} (h : (Lit.int .u8 n).wf = true) : 0 ≤ n ∧ n ≤ 255 := by
  simp only [Lit.wf, IntKind.min, IntKind.max, IntKind.signed, IntKind.bits, Bool.and_eq_true, decide_eq_true_eq] at h
  simp at h
  omega

theorem wf_i64 {n : Int} (h : (Lit.int .i64 n).wf = true) : i64 n := by
  simp only [Lit.wf, IntKind.min, IntKind.max, IntKind.signed, IntKind.bits, Bool.and_eq_true, decide_eq_true_eq, if_true] at h
  unfold i64
  omega

theorem bval_of {z : Int} (h0 : 0 ≤ z) (h1 : z ≤ 255) : bval (UInt8.ofNat z.toNat) = .int .u8 z := by
  unfold bval
  rw [UInt8.toNat_ofNat']
  have : z.toNat % 2 ^ 8 = z.toNat := Nat.mod_eq_of_lt (by omega)
  rw [this]
  congr 1
  omega

theorem open_bytes {fuel : Nat} {v : Value} {x : DataW H × List MemPlace} (h : DataW.trod enc Try.prog w 0 (fun _ => true) true fuel 36 [v] = some x) : ∃ l, BytesIn w.heap (fun _ => True) v l ∧ l.length ≤ 9223372036854775807 := by
  rcases open_ints Try.underlying36 Try.underlying5 (by kernel_rfl) h with ⟨e, _⟩ | ⟨a, len, cap, zs, e, _, hlc, hcm, hzl, _, hcell, hwf⟩
  · obtain rfl := List.singleton_inj.1 e
    exact ⟨[], Or.inr (Or.inl ⟨rfl, rfl⟩), Nat.zero_le _⟩
  · obtain rfl := List.singleton_inj.1 e
    simp only [if_true] at hzl
    unfold maxLen at hcm
    refine ⟨(zs.take len).map (fun z => UInt8.ofNat z.toNat), ?_, by simp; omega⟩
    by_cases hl : len = 0
    · subst hl
      exact Or.inl ⟨⟨a, cap, rfl⟩, by simp⟩
    · obtain ⟨c, t, fr, hr, hs, h0⟩ := cell_row (hcell 0 (by omega))
      have ha0 : a.add 0 = a := by simp [Addr.add]
      rw [ha0] at hr hs
      obtain ⟨b, o, sp⟩ := a
      simp only at hr hs
      subst hs
      have hlen : ((zs.take len).map (fun z => UInt8.ofNat z.toNat)).length = len := by simp; omega
      refine Or.inr (Or.inr ⟨b, o, cap, c, t, fr, by rw [hlen], by rw [hlen]; exact hlc, by omega, trivial, hr, fun i y hi => ?_⟩)
      have hil : i < len := by have := (List.getElem?_eq_some_iff.1 hi).1; omega
      have hc := hcell i (by omega)
      rw [addr_add, cell_of_row _ _ _ _ _ _ hr] at hc
      rw [hc]
      rw [List.getElem?_map, List.getElem?_take, if_pos hil, List.getElem?_eq_getElem (by omega)] at hi
      simp only [Option.map_some, Option.some.injEq] at hi
      have hz := wf_u8 (hwf zs[i] (List.getElem_mem (by omega)))
      rw [← hi, bval_of hz.1 hz.2, List.getD_eq_getElem?_getD, List.getElem?_eq_getElem (by omega)]
      rfl

theorem open_boolsAt {fuel : Nat} {v : Value} {x : DataW H × List MemPlace} (h : DataW.trod enc Try.prog w 0 (fun _ => true) true fuel 23 [v] = some x) : ∃ l, BoolsAt w.heap v l ∧ l.length ≤ 9223372036854775807 := by
  rcases open_bools Try.underlying23 Try.underlying4 (by kernel_rfl) h with ⟨e, _⟩ | ⟨a, len, cap, B, e, _, hlc, hcm, _, hcell⟩
  · obtain rfl := List.singleton_inj.1 e
    exact ⟨[], Or.inl ⟨⟨_, _, rfl⟩, rfl⟩, Nat.zero_le _⟩
  · obtain rfl := List.singleton_inj.1 e
    unfold maxLen at hcm
    refine ⟨(List.range len).map B, ?_, by simp; omega⟩
    by_cases hl : len = 0
    · subst hl
      exact Or.inl ⟨⟨_, _, rfl⟩, rfl⟩
    · obtain ⟨c, t, fr, hr, hs, h0⟩ := cell_row (hcell 0 (by omega))
      have ha0 : a.add 0 = a := by simp [Addr.add]
      rw [ha0] at hr hs
      obtain ⟨b, o, sp⟩ := a
      simp only at hr hs
      subst hs
      refine Or.inr ⟨b, o, cap, c, t, fr, by simp, hr, fun i y hi => ?_⟩
      have hil : i < len := by have := (List.getElem?_eq_some_iff.1 hi).1; simpa using this
      have hc := hcell i (by omega)
      rw [addr_add, cell_of_row _ _ _ _ _ _ hr] at hc
      rw [hc]
      simp [hil] at hi
      rw [hi]

theorem list_eight {α : Type} {l : List α} (h : l.length = 8) : ∃ a b c d e f g i, l = [a, b, c, d, e, f, g, i] := by
  match l, h with
  | [a, b, c, d, e, f, g, i], _ => exact ⟨a, b, c, d, e, f, g, i, rfl⟩

set_option maxRecDepth 100000 in
theorem open_act {fuel : Nat} {cs : List Value} {x : DataW H × List MemPlace} (h : DataW.trod enc Try.prog w 0 (fun _ => true) true fuel 46 cs = some x) :
    ∃ (y : ActM) (bv kv : Value), cs = [.int .i64 y.what, .int .i64 y.sec, .int .i64 y.n, bv, .bool y.raw, kv, .int .i64 y.crash.torn, .int .i64 y.crash.part] ∧ BytesIn w.heap (fun _ => True) bv y.b ∧ BoolsAt w.heap kv y.crash.keep ∧ y.ok := by
  obtain ⟨xs, n, _, _, hlen, hxl, hf⟩ := DataW.trod_struct Try.underlying46 h
  rw [show Try.prog.cellsOf 46 = 8 by kernel_rfl] at hlen
  obtain ⟨c0, c1, c2, c3, c4, c5, c6, c7, rfl⟩ := list_eight hlen
  have hx : ∀ i, i < 6 → ∃ y, xs[i]? = some y := fun i hi => ⟨_, List.getElem?_eq_getElem (by rw [hxl]; exact hi)⟩
  obtain ⟨x0, e0⟩ := hx 0 (by decide)
  obtain ⟨x1, e1⟩ := hx 1 (by decide)
  obtain ⟨x2, e2⟩ := hx 2 (by decide)
  obtain ⟨x3, e3⟩ := hx 3 (by decide)
  obtain ⟨x4, e4⟩ := hx 4 (by decide)
  obtain ⟨x5, e5⟩ := hx 5 (by decide)
  have k1 : Try.prog.cellsOf 3 = 1 := by kernel_rfl
  have k2 : Try.prog.cellsOf 4 = 1 := by kernel_rfl
  have k3 : Try.prog.cellsOf 36 = 1 := by kernel_rfl
  have k4 : Try.prog.cellsOf 25 = 3 := by kernel_rfl
  have k5 : Try.prog.cellsOf 23 = 1 := by kernel_rfl
  have f0 := hf 0 _ rfl
  have f1 := hf 1 _ rfl
  have f2 := hf 2 _ rfl
  have f3 := hf 3 _ rfl
  have f4 := hf 4 _ rfl
  have f5 := hf 5 _ rfl
  simp only [List.getElem_toArray, List.getElem_cons_zero, List.getElem_cons_succ, k1, k2, k3, k4, List.drop_succ_cons, List.drop_zero, List.take_succ_cons, List.take_zero, e0, e1, e2, e3, e4, e5] at f0 f1 f2 f3 f4 f5
  obtain ⟨n0, g0, _, w0⟩ := DataW.trod_int Try.underlying3 f0
  obtain ⟨n1, g1, _, w1⟩ := DataW.trod_int Try.underlying3 f1
  obtain ⟨n2, g2, _, w2⟩ := DataW.trod_int Try.underlying3 f2
  obtain ⟨bl, hb, hbl⟩ := open_bytes f3
  obtain ⟨rawb, g4, _⟩ := DataW.trod_bool Try.underlying4 f4
  obtain ⟨ys, n', _, _, _, hyl, hg⟩ := DataW.trod_struct Try.underlying25 f5
  have hy : ∀ i, i < 3 → ∃ y, ys[i]? = some y := fun i hi => ⟨_, List.getElem?_eq_getElem (by rw [hyl]; exact hi)⟩
  obtain ⟨y0, d0⟩ := hy 0 (by decide)
  obtain ⟨y1, d1⟩ := hy 1 (by decide)
  obtain ⟨y2, d2⟩ := hy 2 (by decide)
  have q0 := hg 0 _ rfl
  have q1 := hg 1 _ rfl
  have q2 := hg 2 _ rfl
  simp only [List.getElem_toArray, List.getElem_cons_zero, List.getElem_cons_succ, k1, k5, List.drop_succ_cons, List.drop_zero, List.take_succ_cons, List.take_zero, d0, d1, d2] at q0 q1 q2
  obtain ⟨kl, hk, hkl⟩ := open_boolsAt q0
  obtain ⟨n6, g6, _, w6⟩ := DataW.trod_int Try.underlying3 q1
  obtain ⟨n7, g7, _, w7⟩ := DataW.trod_int Try.underlying3 q2

  simp only [List.cons.injEq, and_true] at g0 g1 g2 g4 g6 g7
  subst g0; subst g1; subst g2; subst g4; subst g6; subst g7
  exact ⟨⟨n0, n1, n2, bl, rawb, ⟨kl, n6, n7⟩⟩, c3, c5, rfl, hb, hk, wf_i64 w0, wf_i64 w1, wf_i64 w2, wf_i64 w6, wf_i64 w7, hbl, hkl⟩

set_option maxRecDepth 100000 in
theorem open_acts {base : Nat} {v : Value} {d : DataW H} {ps : List MemPlace} (hv : Value.okWide Try.prog w .any base 22 v) (h : DataW.Trod enc Try.prog w 0 (fun _ => true) true 22 v d ps) : ∃ l, ActsAt w.heap v l ∧ l.length ≤ 9223372036854775807 := by
  obtain ⟨a0, len0, cap0, rfl⟩ := okWide_slice Try.underlying22 hv
  obtain ⟨fuel, hf⟩ := h
  rcases open_slice Try.underlying22 hf with ⟨e, _⟩ | ⟨a, len, cap, m, n, D, Pl, e, _, hlc, hcm, hm, _, hel⟩
  · have e : Value.slice a0 len0 cap0 = .slice none 0 0 := List.singleton_inj.1 e
    rw [e]
    exact ⟨[], Or.inl ⟨⟨_, _, rfl⟩, rfl⟩, Nat.zero_le _⟩
  · have e : Value.slice a0 len0 cap0 = .slice (some a) len cap := List.singleton_inj.1 e
    rw [e]
    simp only [if_true] at hm
    subst hm
    unfold maxLen at hcm
    rw [show Try.prog.cellsOf 46 = 8 by kernel_rfl] at hel
    by_cases hl : len = 0
    · subst hl
      exact ⟨[], Or.inl ⟨⟨_, _, rfl⟩, rfl⟩, Nat.zero_le _⟩
    · have each : ∀ i, i < len → ∃ q : ActM × Value × Value, w.cells? 0 (a.add (i * 8)) 8 = some [.int .i64 q.1.what, .int .i64 q.1.sec, .int .i64 q.1.n, q.2.1, .bool q.1.raw, q.2.2, .int .i64 q.1.crash.torn, .int .i64 q.1.crash.part] ∧ BytesIn w.heap (fun _ => True) q.2.1 q.1.b ∧ BoolsAt w.heap q.2.2 q.1.crash.keep ∧ q.1.ok := by
        intro i hi
        obtain ⟨cs, h1, h2⟩ := hel i (by omega)
        obtain ⟨y, bv, kv, rfl, h3, h4, h5⟩ := open_act h2
        exact ⟨⟨y, bv, kv⟩, h1, h3, h4, h5⟩
      have : Inhabited ActM := ⟨⟨0, 0, 0, [], false, ⟨[], 0, 0⟩⟩⟩
      obtain ⟨q, hq⟩ := choose_lt each
      refine ⟨(List.range len).map (fun i => (q i).1), ?_, by simp; omega⟩
      obtain ⟨_, _, h0⟩ := World.cells?_some (hq 0 (by omega)).1
      have h00 := h0 0 (by decide)
      obtain ⟨c, t, fr, hr, hs, _⟩ := cell_row (w := w) (v := .int .i64 (q 0).1.what) h00
      have ha0 : (a.add (0 * 8)).add 0 = a := by simp [Addr.add]
      rw [ha0] at hr hs
      obtain ⟨b, o, sp⟩ := a
      simp only at hr hs
      subst hs
      refine Or.inr ⟨b, o, m, c, t, fr, by simp, hr, fun i y hi => ?_⟩
      have hil : i < len := by have := (List.getElem?_eq_some_iff.1 hi).1; simpa using this
      simp [hil] at hi
      subst hi
      obtain ⟨h1, h2, h3, h4⟩ := hq i hil
      obtain ⟨_, _, hc⟩ := World.cells?_some h1
      have cell : ∀ j, j < 8 → c[o + i * 8 + j]? = [Value.int .i64 (q i).1.what, .int .i64 (q i).1.sec, .int .i64 (q i).1.n, (q i).2.1, .bool (q i).1.raw, (q i).2.2, .int .i64 (q i).1.crash.torn, .int .i64 (q i).1.crash.part][j]? := by
        intro j hj
        have := hc j hj
        rw [addr_add, addr_add, cell_of_row _ _ _ _ _ _ hr] at this
        exact this
      exact ⟨(q i).2.1, (q i).2.2, cell 0 (by decide), cell 1 (by decide), cell 2 (by decide), cell 3 (by decide), cell 4 (by decide), cell 5 (by decide), cell 6 (by decide), cell 7 (by decide), h2, h3, h4⟩

set_option maxRecDepth 100000 in
theorem open_crash {base : Nat} {v : Value} {d : DataW H} {ps : List MemPlace} (hv : Value.okWide Try.prog w .any base 25 v) (h : DataW.Trod enc Try.prog w 0 (fun _ => true) true 25 v d ps) :
    ∃ (c : Crash) (kv : Value), v = .agg #[kv, .int .i64 c.torn, .int .i64 c.part] ∧ BoolsAt w.heap kv c.keep ∧ c.keep.length ≤ 9223372036854775807 ∧ i64 c.torn ∧ i64 c.part := by
  obtain ⟨cs, rfl, hsz⟩ := okWide_struct Try.underlying25 hv
  obtain ⟨l⟩ := cs
  rw [show Try.prog.cellsOf 25 = 3 by kernel_rfl] at hsz
  match l, hsz with
  | [c0, c1, c2], _ =>
    obtain ⟨fuel, hf⟩ := h
    have k1 : Try.prog.cellsOf 3 = 1 := by kernel_rfl
    have k5 : Try.prog.cellsOf 23 = 1 := by kernel_rfl
    obtain ⟨ys, n', _, _, _, hyl, hg⟩ := DataW.trod_struct Try.underlying25 hf
    have hy : ∀ i, i < 3 → ∃ y, ys[i]? = some y := fun i hi => ⟨_, List.getElem?_eq_getElem (by rw [hyl]; exact hi)⟩
    obtain ⟨y0, d0⟩ := hy 0 (by decide)
    obtain ⟨y1, d1⟩ := hy 1 (by decide)
    obtain ⟨y2, d2⟩ := hy 2 (by decide)
    have q0 := hg 0 _ rfl
    have q1 := hg 1 _ rfl
    have q2 := hg 2 _ rfl
    simp only [List.getElem_toArray, List.getElem_cons_zero, List.getElem_cons_succ, Value.cells, k1, k5, List.drop_succ_cons, List.drop_zero, List.take_succ_cons, List.take_zero, d0, d1, d2] at q0 q1 q2
    obtain ⟨kl, hk, hkl⟩ := open_boolsAt q0
    obtain ⟨n6, g6, _, w6⟩ := DataW.trod_int Try.underlying3 q1
    obtain ⟨n7, g7, _, w7⟩ := DataW.trod_int Try.underlying3 q2
    simp only [List.cons.injEq, and_true] at g6 g7
    subst g6; subst g7
    exact ⟨⟨kl, n6, n7⟩, c0, rfl, hk, hkl, wf_i64 w6, wf_i64 w7⟩
end
end Go.Proofs.Ytiefhmbpaoecfaa
