/-
  DiskCopies: for every input the law returns true, and each argument reads afterwards as it read before. No condition.
-/
import Derived.Test.YtiefhmbpaoecfaaG34
import Derived.Test.YtiefhmbpaoecfaaG35
import Derived.Test.YtiefhmbpaoecfaaG36
namespace Go.Proofs.Ytiefhmbpaoecfaa.diskCopies
open Go.ChangeShapes Go.WideShapes Go.ChangeAt Go.RowKit Go.Proofs.Ytiefhmbpaoecfaa

theorem whole {v bx kx bY kY : Value} {x y : ActM} {l : List ActM} {w : World} (hv : ActsAt w.heap v l) (hl : l.length ≤ 9223372036854775807) (hx1 : BytesIn w.heap (fun _ => True) bx x.b) (hx2 : BoolsAt w.heap kx x.crash.keep) (hx3 : x.ok) (hy1 : BytesIn w.heap (fun _ => True) bY y.b) (hy2 : BoolsAt w.heap kY y.crash.keep) (hy3 : y.ok) :
    Calls Try.prog 5 #[v, actV x bx kx, actV y bY kY] w fun e w' => e = .returned (.bool true) ∧ Below w.heap.size w w' := by
  by_cases h : fewB l 20 = true
  · by_cases h2 : fewB [x, y] 2 = true
    · exact copies_few hv hx1 hx2 hx3 hy1 hy2 hy3 h h2
    · exact copies_xy hv hl hx1 hx2 hx3 hy1 hy2 hy3 h (by simpa using h2)
  · exact copies_many hv hl (by simpa using h)

set_option maxRecDepth 100000 in
theorem open_actV {H : Type} {enc : TypeId × Value → H} {w : World} {base : Nat} {v : Value} {d : DataW H} {ps : List MemPlace} (hv : Value.okWide Try.prog w .any base 46 v) (h : DataW.Trod enc Try.prog w 0 (fun _ => true) true 46 v d ps) :
    ∃ (y : ActM) (bv kv : Value), v = actV y bv kv ∧ BytesIn w.heap (fun _ => True) bv y.b ∧ BoolsAt w.heap kv y.crash.keep ∧ y.ok := by
  obtain ⟨cs, rfl, hsz⟩ := okWide_struct Try.underlying46 hv
  obtain ⟨l⟩ := cs
  obtain ⟨fuel, hf⟩ := h
  obtain ⟨y, bv, kv, e, h1, h2, h3⟩ := open_act hf
  simp only [Value.cells] at e
  refine ⟨y, bv, kv, ?_, h1, h2, h3⟩
  rw [e]

set_option maxRecDepth 100000 in
theorem lifted (os : Os) (started : os.Started) (H : Type) (enc : TypeId × Value → H) :
    ReturnsInHanded {} Try.checked os 5 .any (Rows.diskCopiesSpec.pre6 enc Try.prog Try.f5 Rows.diskCopiesRow.domain false) (Rows.diskCopiesSpec.post enc Try.prog Try.f5 false true false false) := by
  refine returnsInHanded_of_change (C := Try.checked) Try.own started (by kernel_rfl) Try.func5
    (ChangeSpec.witness6 (enc := enc) (C := Try.checked) false ⟨#[], #[.slice none 0 0, .agg #[.int .i64 0, .int .i64 0, .int .i64 0, .slice none 0 0, .bool false, .slice none 0 0, .int .i64 0, .int .i64 0], .agg #[.int .i64 0, .int .i64 0, .int .i64 0, .slice none 0 0, .bool false, .slice none 0 0, .int .i64 0, .int .i64 0]], []⟩ 8 (by kernel_rfl) (by kernel_rfl) (by kernel_rfl) (by kernel_rfl)) ?_
  intro W base args ds gs before hval0 hW hcnd _
  have hval : ∀ (j : Nat) t v, Try.f5.params[j]? = some t → args[j]? = some v → Value.okWide Try.prog W .any base t v := hval0
  have hW' := hW
  obtain ⟨p, q, hA0, hV, rfl, hfz, hnd⟩ := hW
  have hA : DataW.TrodAll enc Try.prog W 0 (fun _ => true) true Try.f5.params.toList args.toList ds p := hA0
  rw [Try.params5] at hA hval
  obtain ⟨v0, vs0, d0, ds0, p0, q0, hargs, rfl, rfl, h0, r0⟩ := trodAll_cons hA
  obtain ⟨v1, vs1, d1, ds1, p1, q1, rfl, rfl, rfl, h1, r1⟩ := trodAll_cons r0
  obtain ⟨v2, vs2, d2, ds2, p2, q2, rfl, rfl, rfl, h2, r2⟩ := trodAll_cons r1
  obtain ⟨rfl, rfl, rfl⟩ := trodAll_nil r2
  obtain rfl : args = #[v0, v1, v2] := by cases args; simp_all
  obtain ⟨rfl, rfl⟩ := trodVars_none hV
  obtain ⟨l, hl, hll⟩ := open_acts (hval 0 _ v0 rfl rfl) h0
  obtain ⟨x, bx, kx, rfl, hx1, hx2, hx3⟩ := open_actV (hval 1 _ v1 rfl rfl) h1
  obtain ⟨y, bY, kY, rfl, hy1, hy2, hy3⟩ := open_actV (hval 2 _ v2 rfl rfl) h2
  clear hA0 hval0
  refine (whole hl hll hx1 hx2 hx3 hy1 hy2 hy3).mono fun e W' ⟨he, hg⟩ => ?_
  subst he
  exact ⟨_, rfl, law_end Try.laidOut rfl 4 Try.underlying4 (by kernel_rfl) (by rw [Try.params5]; decide +kernel) rfl rfl rfl hW' hg⟩

theorem proved : Rows.DiskCopiesSaid :=
  OpenClaim.holds_of_wide 5 Try.f5 rfl rfl rfl rfl rfl rfl rfl ⟨rfl, rfl, rfl, rfl, rfl⟩ rfl rfl rfl rfl rfl (by kernel_rfl) Try.func5 (by kernel_rfl)
    (of_decide_eq_true (by kernel_rfl)) (by unfold Func.isWrapper; first | (rw [if_pos (by decide +kernel)]; kernel_rfl) | (rw [if_neg (by decide +kernel)]; exact ⟨rfl, rfl⟩))
    (fun os started H enc _ => lifted os started H enc)
#print axioms proved
end Go.Proofs.Ytiefhmbpaoecfaa.diskCopies
