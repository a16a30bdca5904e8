/-
  Calls and changes that come in, opened.
-/
import Derived.Test.YtgffifleflkjoaaGreatG25
import Derived.Test.YtgffifleflkjoaaGreatG39
import Derived.Deep.Slices
import Derived.Deep.Grids
import Derived.ChangeSlices
import Derived.ChangeArms

namespace Go.Proofs.YtgffifleflkjoaaGreat
open Go.ChangeShapes Go.WideShapes Go.ChangeAt Go.RowKit Go.Deep Dm

theorem cell_row' {w : World} {a : Addr} {v : Value} (h : w.cell? a = some v) : ∃ c t fr, w.heap[a.block]? = some (.cells c t fr) ∧ a.spot = none ∧ c[a.off]? = some v := by
  unfold World.cell? at h
  split at h
  · rename_i c t fr hc
    cases hs : a.spot with
    | none => rw [hs] at h; exact ⟨c, t, fr, hc, rfl, by simpa using h⟩
    | some x => rw [hs] at h; simp at h
  · cases h

section
variable {H : Type} {enc : TypeId × Value → H} {w : World}

theorem wf_i64' {n : Int} (h : (Lit.int .i64 n).wf = true) : i64' n := by
  simp only [Lit.wf, IntKind.min, IntKind.max, IntKind.signed, IntKind.bits, Bool.and_eq_true, decide_eq_true_eq, if_true] at h
  unfold i64'
  omega

theorem str_of (s : ByteArray) : Value.string s = strOfB s.data.toList := by
  obtain ⟨⟨l⟩⟩ := s
  rfl

theorem open_bools19 {fuel : Nat} {v : Value} {x : DataW H × List MemPlace} (h : DataW.trod enc Tryz.prog w 0 (fun _ => true) true fuel 39 [v] = some x) : ∃ l, BoolsAt w.heap v l ∧ l.length ≤ 9223372036854775807 := by
  rcases open_bools Tryz.underlying39 Tryz.underlying4 (by kernel_rfl) h with ⟨e, _⟩ | ⟨a, len, cap, B, e, _, hlc, hcm, _, hcell⟩
  · obtain rfl := List.singleton_inj.1 e
    exact ⟨[], Or.inl ⟨⟨_, _, rfl⟩, rfl⟩, Nat.zero_le _⟩
  · obtain rfl := List.singleton_inj.1 e
    unfold maxLen at hcm
    refine ⟨(List.range len).map B, ?_, by simp; omega⟩
    by_cases hl : len = 0
    · subst hl
      exact Or.inl ⟨⟨_, _, rfl⟩, rfl⟩
    · obtain ⟨c, t, fr, hr, hs, h0⟩ := cell_row' (hcell 0 (by omega))
      have ha0 : a.add 0 = a := by simp [Addr.add]
      rw [ha0] at hr hs
      obtain ⟨b, o, sp⟩ := a
      simp only at hr hs
      subst hs
      refine Or.inr ⟨b, o, cap, c, t, fr, by simp, hr, fun i y hi => ?_⟩
      have hil : i < len := by have := (List.getElem?_eq_some_iff.1 hi).1; simpa using this
      have hc := hcell i (by omega)
      rw [addr_add, cell_of_row _ _ _ _ _ _ hr] at hc
      rw [hc]
      simp [hil] at hi
      rw [hi]

theorem list_three {α : Type} {l : List α} (h : l.length = 3) : ∃ a b c, l = [a, b, c] := by
  match l, h with
  | [a, b, c], _ => exact ⟨a, b, c, rfl⟩

theorem list_six {α : Type} {l : List α} (h : l.length = 6) : ∃ a b c d e f, l = [a, b, c, d, e, f] := by
  match l, h with
  | [a, b, c, d, e, f], _ => exact ⟨a, b, c, d, e, f, rfl⟩

set_option maxRecDepth 100000 in
theorem open_change {fuel : Nat} {cs : List Value} {x : DataW H × List MemPlace} (h : DataW.trod enc Tryz.prog w 0 (fun _ => true) true fuel tChange cs = some x) : ∃ c : Em.Change, cs = [strOfB c.key, strOfB c.value, .bool c.gone] := by
  obtain ⟨xs, n, _, _, hlen, hxl, hf⟩ := DataW.trod_struct Tryz.underlying33 h
  rw [show Tryz.prog.cellsOf tChange = 3 by kernel_rfl] at hlen
  obtain ⟨c0, c1, c2, rfl⟩ := list_three hlen
  have hx : ∀ i, i < 3 → ∃ y, xs[i]? = some y := fun i hi => ⟨_, List.getElem?_eq_getElem (by rw [hxl]; exact hi)⟩
  obtain ⟨x0, e0⟩ := hx 0 (by decide)
  obtain ⟨x1, e1⟩ := hx 1 (by decide)
  obtain ⟨x2, e2⟩ := hx 2 (by decide)
  have k1 : Tryz.prog.cellsOf 9 = 1 := by kernel_rfl
  have k2 : Tryz.prog.cellsOf 4 = 1 := by kernel_rfl
  have f0 := hf 0 _ rfl
  have f1 := hf 1 _ rfl
  have f2 := hf 2 _ rfl
  simp only [List.getElem_toArray, List.getElem_cons_zero, List.getElem_cons_succ, k1, k2, List.drop_succ_cons, List.drop_zero, List.take_succ_cons, List.take_zero, e0, e1, e2] at f0 f1 f2
  obtain ⟨s0, g0, _, _⟩ := DataW.trod_string Tryz.underlying9 f0
  obtain ⟨s1, g1, _, _⟩ := DataW.trod_string Tryz.underlying9 f1
  obtain ⟨b2, g2, _⟩ := DataW.trod_bool Tryz.underlying4 f2
  simp only [List.cons.injEq, and_true] at g0 g1 g2
  subst g0; subst g1; subst g2
  exact ⟨⟨s0.data.toList, s1.data.toList, b2⟩, by rw [str_of, str_of]⟩

theorem open_changes {fuel : Nat} {v : Value} {x : DataW H × List MemPlace} (h : DataW.trod enc Tryz.prog w 0 (fun _ => true) true fuel tChanges [v] = some x) : ∃ l, ChangesAt w (fun _ => True) v l ∧ l.length ≤ 9223372036854775807 := by
  rcases open_slice Tryz.underlying34 h with ⟨e, _⟩ | ⟨a, len, cap, m, n, D, Pl, e, _, hlc, hcm, hm, _, hel⟩
  · obtain rfl := List.singleton_inj.1 e
    exact ⟨[], Or.inl ⟨⟨_, _, rfl⟩, rfl⟩, Nat.zero_le _⟩
  · obtain rfl := List.singleton_inj.1 e
    simp only [if_true] at hm
    subst hm
    unfold maxLen at hcm
    rw [show Tryz.prog.cellsOf tChange = 3 by kernel_rfl] at hel
    by_cases hl : len = 0
    · subst hl
      exact ⟨[], Or.inl ⟨⟨_, _, rfl⟩, rfl⟩, Nat.zero_le _⟩
    · have each : ∀ i, i < len → ∃ c : Em.Change, w.cells? 0 (a.add (i * 3)) 3 = some [strOfB c.key, strOfB c.value, .bool c.gone] := by
        intro i hi
        obtain ⟨cs, h1, h2⟩ := hel i (by omega)
        obtain ⟨c, rfl⟩ := open_change h2
        exact ⟨c, h1⟩
      have : Inhabited Em.Change := ⟨⟨[], [], false⟩⟩
      obtain ⟨q, hq⟩ := choose_lt each
      refine ⟨(List.range len).map q, ?_, by simp; omega⟩
      obtain ⟨_, _, h0⟩ := World.cells?_some (hq 0 (by omega))
      have h00 := h0 0 (by decide)
      obtain ⟨c, t, fr, hr, hs, _⟩ := cell_row' (w := w) (v := strOfB (q 0).key) h00
      have ha0 : (a.add (0 * 3)).add 0 = a := by simp [Addr.add]
      rw [ha0] at hr hs
      obtain ⟨b, o, sp⟩ := a
      simp only at hr hs
      subst hs
      refine Or.inr ⟨b, o, m, c, t, fr, by simp, by simp; omega, hcm, trivial, hr, fun i y hi => ?_⟩
      have hil : i < len := by have := (List.getElem?_eq_some_iff.1 hi).1; simpa using this
      simp [hil] at hi
      subst hi
      obtain ⟨_, _, hc⟩ := World.cells?_some (hq i hil)
      have cell : ∀ j, j < 3 → c[o + i * 3 + j]? = [strOfB (q i).key, strOfB (q i).value, Value.bool (q i).gone][j]? := by
        intro j hj
        have := hc j hj
        rw [addr_add, addr_add, cell_of_row _ _ _ _ _ _ hr] at this
        exact this
      exact ⟨cell 0 (by decide), cell 1 (by decide), cell 2 (by decide)⟩

set_option maxRecDepth 100000 in
theorem open_act19 {fuel : Nat} {cs : List Value} {x : DataW H × List MemPlace} (h : DataW.trod enc Tryz.prog w 0 (fun _ => true) true fuel tAct cs = some x) :
    ∃ q : ActQ, cs = actCells q ∧ ActIs w q := by
  obtain ⟨xs, n, _, _, hlen, hxl, hf⟩ := DataW.trod_struct Tryz.underlying43 h
  rw [show Tryz.prog.cellsOf tAct = 6 by kernel_rfl] at hlen
  obtain ⟨c0, c1, c2, c3, c4, c5, rfl⟩ := list_six hlen
  have hx : ∀ i, i < 4 → ∃ y, xs[i]? = some y := fun i hi => ⟨_, List.getElem?_eq_getElem (by rw [hxl]; exact hi)⟩
  obtain ⟨x0, e0⟩ := hx 0 (by decide)
  obtain ⟨x1, e1⟩ := hx 1 (by decide)
  obtain ⟨x2, e2⟩ := hx 2 (by decide)
  obtain ⟨x3, e3⟩ := hx 3 (by decide)
  have k1 : Tryz.prog.cellsOf 3 = 1 := by kernel_rfl
  have k3 : Tryz.prog.cellsOf 34 = 1 := by kernel_rfl
  have k4 : Tryz.prog.cellsOf 41 = 3 := by kernel_rfl
  have k5 : Tryz.prog.cellsOf 39 = 1 := by kernel_rfl
  have f0 := hf 0 _ rfl
  have f1 := hf 1 _ rfl
  have f2 := hf 2 _ rfl
  have f3 := hf 3 _ rfl
  simp only [List.getElem_toArray, List.getElem_cons_zero, List.getElem_cons_succ, k1, k3, k4, List.drop_succ_cons, List.drop_zero, List.take_succ_cons, List.take_zero, e0, e1, e2, e3] at f0 f1 f2 f3
  obtain ⟨n0, g0, _, w0⟩ := DataW.trod_int Tryz.underlying3 f0
  obtain ⟨l, hl, hll⟩ := open_changes f1
  obtain ⟨n2, g2, _, w2⟩ := DataW.trod_int Tryz.underlying3 f2
  obtain ⟨ys, n', _, _, _, hyl, hg⟩ := DataW.trod_struct Tryz.underlying41 f3
  have hy : ∀ i, i < 3 → ∃ y, ys[i]? = some y := fun i hi => ⟨_, List.getElem?_eq_getElem (by rw [hyl]; exact hi)⟩
  obtain ⟨y0, d0⟩ := hy 0 (by decide)
  obtain ⟨y1, d1⟩ := hy 1 (by decide)
  obtain ⟨y2, d2⟩ := hy 2 (by decide)
  have q0 := hg 0 _ rfl
  have q1 := hg 1 _ rfl
  have q2 := hg 2 _ rfl
  simp only [List.getElem_toArray, List.getElem_cons_zero, List.getElem_cons_succ, k1, k5, List.drop_succ_cons, List.drop_zero, List.take_succ_cons, List.take_zero, d0, d1, d2] at q0 q1 q2
  obtain ⟨kl, hk, hkl⟩ := open_bools19 q0
  obtain ⟨n6, g6, _, w6⟩ := DataW.trod_int Tryz.underlying3 q1
  obtain ⟨n7, g7, _, w7⟩ := DataW.trod_int Tryz.underlying3 q2
  simp only [List.cons.injEq, and_true] at g0 g2 g6 g7
  subst g0; subst g2; subst g6; subst g7
  exact ⟨(⟨n0, l, n2, ⟨kl, n6, n7⟩⟩, c1, c3), rfl, hl, hk, wf_i64' w0, wf_i64' w2, wf_i64' w6, wf_i64' w7, hll, hkl⟩

set_option maxRecDepth 100000 in
theorem open_acts19 {base : Nat} {v : Value} {d : DataW H} {ps : List MemPlace} (hv : Value.okWide Tryz.prog w .any base tActs v) (h : DataW.Trod enc Tryz.prog w 0 (fun _ => true) true tActs v d ps) :
    ∃ Q, ActsIn w v Q ∧ ((d = .nil ∧ Q = []) ∨ ∃ elems spare, d = .slice elems spare ∧ Q.length ≤ elems.length + spare.length) := by
  obtain ⟨a0, len0, cap0, rfl⟩ := okWide_slice Tryz.underlying37 hv
  obtain ⟨fuel, hf⟩ := h
  rcases open_slice Tryz.underlying37 hf with ⟨e, ex⟩ | ⟨a, len, cap, m, n, D, Pl, e, _, hlc, hcm, hm, ex, hel⟩
  · have e : Value.slice a0 len0 cap0 = .slice none 0 0 := List.singleton_inj.1 e
    rw [e]
    simp only [Prod.mk.injEq] at ex
    exact ⟨[], Or.inl ⟨Or.inl rfl, rfl⟩, Or.inl ⟨ex.1, rfl⟩⟩
  · have e : Value.slice a0 len0 cap0 = .slice (some a) len cap := List.singleton_inj.1 e
    rw [e]
    simp only [if_true] at hm
    subst hm
    unfold maxLen at hcm
    simp only [Prod.mk.injEq] at ex
    rw [show Tryz.prog.cellsOf tAct = 6 by kernel_rfl] at hel
    by_cases hl : len = 0
    · subst hl
      exact ⟨[], Or.inl ⟨Or.inr ⟨_, _, rfl⟩, rfl⟩, Or.inr ⟨_, _, ex.1, Nat.zero_le _⟩⟩
    · have each : ∀ i, i < len → ∃ q : ActQ, w.cells? 0 (a.add (i * 6)) 6 = some (actCells q) ∧ ActIs w q := by
        intro i hi
        obtain ⟨cs, h1, h2⟩ := hel i (by omega)
        obtain ⟨y, rfl, h3⟩ := open_act19 h2
        exact ⟨y, h1, h3⟩
      have : Inhabited ActQ := ⟨(⟨0, [], 0, ⟨[], 0, 0⟩⟩, .bool false, .bool false)⟩
      obtain ⟨q, hq⟩ := choose_lt each
      refine ⟨(List.range len).map q, ?_, Or.inr ⟨_, _, ex.1, by simp⟩⟩
      obtain ⟨_, _, h0⟩ := World.cells?_some (hq 0 (by omega)).1
      have h00 := h0 0 (by decide)
      obtain ⟨c, t, fr, hr, hs, _⟩ := cell_row' (w := w) (v := .int .i64 (q 0).1.what) h00
      have ha0 : (a.add (0 * 6)).add 0 = a := by simp [Addr.add]
      rw [ha0] at hr hs
      obtain ⟨b, o, sp⟩ := a
      simp only at hr hs
      subst hs
      refine Or.inr ⟨b, o, m, c, t, fr, by simp, hr, fun i y hi => ?_⟩
      have hil : i < len := by have := (List.getElem?_eq_some_iff.1 hi).1; simpa using this
      simp [hil] at hi
      subst hi
      obtain ⟨h1, h2⟩ := hq i hil
      obtain ⟨_, _, hc⟩ := World.cells?_some h1
      refine ⟨h2, fun j u hj => ?_⟩
      have hjl : j < 6 := by
        have := (List.getElem?_eq_some_iff.1 hj).1
        simpa [actCells] using this
      have := hc j hjl
      rw [addr_add, addr_add, cell_of_row _ _ _ _ _ _ hr] at this
      rw [this]
      exact hj

end

end Go.Proofs.YtgffifleflkjoaaGreat
