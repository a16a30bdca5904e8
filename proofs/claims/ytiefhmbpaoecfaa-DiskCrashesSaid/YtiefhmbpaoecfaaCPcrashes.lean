/-
  DiskCrashes: for every input the law returns true, and each argument reads afterwards as it read before. No condition.
-/
import Derived.Test.YtiefhmbpaoecfaaG27
import Derived.Test.YtiefhmbpaoecfaaG28
import Derived.Test.YtiefhmbpaoecfaaG29
namespace Go.Proofs.Ytiefhmbpaoecfaa.diskCrashes
open Go.ChangeShapes Go.WideShapes Go.ChangeAt Go.RowKit Go.Proofs.Ytiefhmbpaoecfaa

theorem whole {v kv : Value} {l : List ActM} {c : Dm.Crash} {w : World} (hv : ActsAt w.heap v l) (hk : BoolsAt w.heap kv c.keep) (hl : l.length ≤ 9223372036854775807) (hkl : c.keep.length ≤ 9223372036854775807) (ht : i64 c.torn) (hp : i64 c.part) :
    Calls Try.prog 3 #[v, .agg #[kv, .int .i64 c.torn, .int .i64 c.part]] w fun e w' => e = .returned (.bool true) ∧ Below w.heap.size w w' := by
  by_cases h : fewB l 30 = true ∧ c.keep.length ≤ 40
  · exact crashes_few hv hk h.1 h.2 ht.1 ht.2 hp.1 hp.2
  · refine crashes_many hv hk hl hkl ?_
    by_cases h1 : fewB l 30 = true
    · exact Or.inr (fun h2 => h ⟨h1, h2⟩)
    · exact Or.inl (by simpa using h1)

set_option maxRecDepth 100000 in
theorem lifted (os : Os) (started : os.Started) (H : Type) (enc : TypeId × Value → H) :
    ReturnsInHanded {} Try.checked os 3 .any (Rows.diskCrashesSpec.pre6 enc Try.prog Try.f3 Rows.diskCrashesRow.domain false) (Rows.diskCrashesSpec.post enc Try.prog Try.f3 false true false false) := by
  refine returnsInHanded_of_change (C := Try.checked) Try.own started (by kernel_rfl) Try.func3
    (ChangeSpec.witness6 (enc := enc) (C := Try.checked) false ⟨#[], #[.slice none 0 0, .agg #[.slice none 0 0, .int .i64 0, .int .i64 0]], []⟩ 8 (by kernel_rfl) (by kernel_rfl) (by kernel_rfl) (by kernel_rfl)) ?_
  intro W base args ds gs before hval0 hW hcnd _
  have hval : ∀ (j : Nat) t v, Try.f3.params[j]? = some t → args[j]? = some v → Value.okWide Try.prog W .any base t v := hval0
  have hW' := hW
  obtain ⟨p, q, hA0, hV, rfl, hfz, hnd⟩ := hW
  have hA : DataW.TrodAll enc Try.prog W 0 (fun _ => true) true Try.f3.params.toList args.toList ds p := hA0
  rw [Try.params3] at hA hval
  obtain ⟨v0, vs0, d0, ds0, p0, q0, hargs, rfl, rfl, h0, r0⟩ := trodAll_cons hA
  obtain ⟨v1, vs1, d1, ds1, p1, q1, rfl, rfl, rfl, h1, r1⟩ := trodAll_cons r0
  obtain ⟨rfl, rfl, rfl⟩ := trodAll_nil r1
  obtain rfl : args = #[v0, v1] := by cases args; simp_all
  obtain ⟨rfl, rfl⟩ := trodVars_none hV
  obtain ⟨l, hl, hll⟩ := open_acts (hval 0 _ v0 rfl rfl) h0
  obtain ⟨c, kv, rfl, hk, hkl, ht, hp⟩ := open_crash (hval 1 _ v1 rfl rfl) h1
  clear hA0 hval0
  refine (whole hl hk hll hkl ht hp).mono fun e W' ⟨he, hg⟩ => ?_
  subst he
  exact ⟨_, rfl, law_end Try.laidOut rfl 4 Try.underlying4 (by kernel_rfl) (by rw [Try.params3]; decide +kernel) rfl rfl rfl hW' hg⟩

theorem proved : Rows.DiskCrashesSaid :=
  OpenClaim.holds_of_wide 3 Try.f3 rfl rfl rfl rfl rfl rfl rfl ⟨rfl, rfl, rfl, rfl, rfl⟩ rfl rfl rfl rfl rfl (by kernel_rfl) Try.func3 (by kernel_rfl)
    (of_decide_eq_true (by kernel_rfl)) (by unfold Func.isWrapper; first | (rw [if_pos (by decide +kernel)]; kernel_rfl) | (rw [if_neg (by decide +kernel)]; exact ⟨rfl, rfl⟩))
    (fun os started H enc _ => lifted os started H enc)
#print axioms proved
end Go.Proofs.Ytiefhmbpaoecfaa.diskCrashes
