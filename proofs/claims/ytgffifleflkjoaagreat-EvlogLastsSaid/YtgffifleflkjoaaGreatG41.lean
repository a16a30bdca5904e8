/-
  What a crash keeps, opened from the reading (at the evlog seat).
-/
import Derived.Test.YtgffifleflkjoaaGreatG40

namespace Go.Proofs.YtgffifleflkjoaaGreat
open Go.ChangeShapes Go.WideShapes Go.ChangeAt Go.RowKit Go.Deep Dm
section
variable {H : Type} {enc : TypeId × Value → H} {w : World}

set_option maxRecDepth 100000 in
theorem open_crash19 {base : Nat} {v : Value} {d : DataW H} {ps : List MemPlace} (hv : Value.okWide Tryz.prog w .any base 41 v) (h : DataW.Trod enc Tryz.prog w 0 (fun _ => true) true 41 v d ps) :
    ∃ (c : Crash) (kv : Value), v = .agg #[kv, .int .i64 c.torn, .int .i64 c.part] ∧ BoolsAt w.heap kv c.keep ∧ c.keep.length ≤ 9223372036854775807 ∧ i64' c.torn ∧ i64' c.part := by
  obtain ⟨cs, rfl, hsz⟩ := okWide_struct Tryz.underlying41 hv
  obtain ⟨l⟩ := cs
  rw [show Tryz.prog.cellsOf 41 = 3 by kernel_rfl] at hsz
  match l, hsz with
  | [c0, c1, c2], _ =>
    obtain ⟨fuel, hf⟩ := h
    have k1 : Tryz.prog.cellsOf 3 = 1 := by kernel_rfl
    have k5 : Tryz.prog.cellsOf 39 = 1 := by kernel_rfl
    obtain ⟨ys, n', _, _, _, hyl, hg⟩ := DataW.trod_struct Tryz.underlying41 hf
    have hy : ∀ i, i < 3 → ∃ y, ys[i]? = some y := fun i hi => ⟨_, List.getElem?_eq_getElem (by rw [hyl]; exact hi)⟩
    obtain ⟨y0, d0⟩ := hy 0 (by decide)
    obtain ⟨y1, d1⟩ := hy 1 (by decide)
    obtain ⟨y2, d2⟩ := hy 2 (by decide)
    have q0 := hg 0 _ rfl
    have q1 := hg 1 _ rfl
    have q2 := hg 2 _ rfl
    simp only [List.getElem_toArray, List.getElem_cons_zero, List.getElem_cons_succ, Value.cells, k1, k5, List.drop_succ_cons, List.drop_zero, List.take_succ_cons, List.take_zero, d0, d1, d2] at q0 q1 q2
    obtain ⟨kl, hk, hkl⟩ := open_bools19 q0
    obtain ⟨n6, g6, _, w6⟩ := DataW.trod_int Tryz.underlying3 q1
    obtain ⟨n7, g7, _, w7⟩ := DataW.trod_int Tryz.underlying3 q2
    simp only [List.cons.injEq, and_true] at g6 g7
    subst g6; subst g7
    exact ⟨⟨kl, n6, n7⟩, c0, rfl, hk, hkl, wf_i64' w6, wf_i64' w7⟩
end
end Go.Proofs.YtgffifleflkjoaaGreat
