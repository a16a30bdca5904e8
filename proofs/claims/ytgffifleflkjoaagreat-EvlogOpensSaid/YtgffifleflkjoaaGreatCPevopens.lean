/-
  EvlogOpens: for every input the law returns true, and each argument reads afterwards as it read before. No condition.
-/
import Derived.Test.YtgffifleflkjoaaGreatFin02
import Derived.Test.YtgffifleflkjoaaGreatFin45
import Derived.SizedLaws
set_option linter.unusedSimpArgs false
set_option linter.unusedVariables false
set_option maxRecDepth 100000
set_option maxHeartbeats 16000000
namespace Go.Proofs.YtgffifleflkjoaaGreat
open _root_.Go.Proofs.Tryz
variable {w W w' w0 wr w1 W0 W1 W2 A B : World} {F G F' O : Nat → Prop} {v : Value} {l : List UInt8} {n q m pd md pl g p : Nat} {C : Array Value} {c : Int}
namespace evlogOpens
open Go.ChangeShapes Go.WideShapes Go.ChangeAt Go.RowKit Go.Proofs.YtgffifleflkjoaaGreat
theorem y9i : reachBytes + 80 <= 140737488355328 := GU
theorem lifted (os : Os) (started : os.Started) (H : Type) (enc : TypeId × Value -> H) :
 ReturnsInHanded {} Tryz.checked os 7 .any (Rows.evlogOpensSpec.pre6 enc prog Tryz.f7 Rows.evlogOpensRow.domain false) (Rows.evlogOpensSpec.post enc prog Tryz.f7 false true false false) := by
 refine returnsInHanded_of_change_sized (C := Tryz.checked) Tryz.own started GQ func7
  (ChangeSpec.witness6 (enc := enc) (C := Tryz.checked) false ⟨#[], #[.slice none 0 0, .slice none 0 0, .int .i64 0, .slice none 0 0], []⟩ 8 GQ GQ GQ GQ) ?_
 intro W base args ds gs before hval0 hW hcnd hsz0 _;have hsz : (DataW.weightsEach prog (Tryz.f7.params.toList ++ Rows.evlogOpensSpec.plain.varTypes prog) (ds ++ gs)).all (· <= reachBytes) = true := hsz0;clear hsz0;have hval : ∀ (j : Nat) t v, Tryz.f7.params[j]? = some t -> args[j]? = some v -> Value.okWide prog W .any base t v := hval0;have hW' := hW;obtain ⟨p, q, hA0, hV, rfl, hfz, hnd⟩ := hW;have hA : DataW.TrodAll enc prog W 0 (λ _ => true) true Tryz.f7.params.toList args.toList ds p := hA0;rw [Tryz.params7] at hA hval hsz;obtain ⟨v0, vs0, d0, ds0, p0, q0, hargs, rfl, rfl, h0, r0⟩ := trodAll_cons hA;obtain ⟨v1, vs1, d1, ds1, p1, q1, rfl, rfl, rfl, h1, r1⟩ := trodAll_cons r0;obtain ⟨v2, vs2, d2, ds2, p2, q2, rfl, rfl, rfl, h2, r2⟩ := trodAll_cons r1;obtain ⟨v3, vs3, d3, ds3, p3, q3, rfl, rfl, rfl, h3, r3⟩ := trodAll_cons r2;obtain ⟨rfl, rfl, rfl⟩ := trodAll_nil r3;obtain ⟨rfl, rfl, rfl⟩ := trodVars_none hV;obtain rfl : args = #[v0, v1, v2, v3] := by cases args; simp_all
 obtain ⟨xa, xn, xc, rfl⟩ := okWide_slice Ia (hval 0 _ v0 rfl rfl);obtain ⟨ya, yn, yc, rfl⟩ := okWide_slice Ia (hval 1 _ v1 rfl rfl);obtain ⟨f0, hf0⟩ := h0;obtain ⟨f1, hf1⟩ := h1;obtain ⟨one, hone, x4y⟩ := z7b hf0;obtain ⟨two, yK, x3e⟩ := z7b hf1;obtain ⟨a0, rfl, rfl, rfl, w0⟩ := open_int Ih (hval 2 _ v2 rfl rfl) h2;obtain ⟨Q, hQ, hQl⟩ := x1n (hval 3 _ v3 rfl rfl) h3;have hq : (Q.length + 1) * 80 <= 140737488355328 := by
  rcases hQl with ⟨_, rfl⟩ | ⟨elems, spare, rfl, hle⟩
  ·decide
  ·have := sized_slice hsz (j := 3) rfl rfl underlying37
   rw [show prog.bytesOf iV = 80 by kernel_rfl] at this;have h4 := Kj 80 hle;have := y9i;omega
 clear hA0 hval0;refine (x1v hone x4y yK x3e a0 (wf_i64' w0) hQ hq).mono λ e W' ⟨he, hg⟩ => ?_;subst he;exact ⟨_, rfl, x3s Tryz.laidOut rfl 4 Im GQ (by rw [Tryz.params7]; decide +kernel) rfl rfl rfl hW' hg⟩
theorem proved : Rows.EvlogOpensSaid :=
 OpenClaim.holds_of_wide 7 Tryz.f7 rfl rfl rfl rfl rfl rfl rfl ⟨rfl, rfl, rfl, rfl, rfl⟩ rfl rfl rfl rfl rfl GQ func7 GQ
  (of_decide_eq_true GQ) (by unfold Func.isWrapper; first | (rw [IA (by decide +kernel)]; kernel_rfl) | (rw [Iw (by decide +kernel)]; exact ⟨rfl, rfl⟩))
  (λ os started H enc _ => lifted os started H enc)
#print axioms proved
end evlogOpens
end Go.Proofs.YtgffifleflkjoaaGreat
