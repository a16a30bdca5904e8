/-
  EvlogPlays: for every input the law returns true, and each argument reads afterwards as it read before. No condition.
-/
import Derived.Test.YtgffifleflkjoaaGreatFin02
import Derived.Test.YtgffifleflkjoaaGreatFin39
import Derived.Test.YtgffifleflkjoaaGreatFin45
import Derived.SizedLaws
set_option linter.unusedSimpArgs false
set_option linter.unusedVariables false
set_option maxRecDepth 100000
set_option maxHeartbeats 16000000
namespace Go.Proofs.YtgffifleflkjoaaGreat
open _root_.Go.Proofs.Tryz
variable {w W w' w0 wr w1 W0 W1 W2 A B : World} {F G F' O : Nat → Prop} {v : Value} {l : List UInt8} {n q m pd md pl g p : Nat} {C : Array Value} {c : Int}
namespace evlogPlays
open Go.ChangeShapes Go.WideShapes Go.ChangeAt Go.RowKit Go.Proofs.YtgffifleflkjoaaGreat
theorem y9d : reachBytes + 80 <= 140737488355328 := GY
theorem lifted (os : Os) (started : os.Started) (H : Type) (enc : TypeId × Value -> H) :
 ReturnsInHanded {} Tryz.checked os 6 .any (Rows.evlogPlaysSpec.pre6 enc prog Tryz.f6 Rows.evlogPlaysRow.domain false) (Rows.evlogPlaysSpec.post enc prog Tryz.f6 false true false false) := by
 refine returnsInHanded_of_change_sized (C := Tryz.checked) Tryz.own started GV func6
  (ChangeSpec.witness6 (enc := enc) (C := Tryz.checked) false ⟨#[], #[.int .i64 0, .slice none 0 0], []⟩ 8 GV GV GV GV) ?_
 intro W base args ds gs before hval0 hW hcnd hsz0 _;have hsz : (DataW.weightsEach prog (Tryz.f6.params.toList ++ Rows.evlogPlaysSpec.plain.varTypes prog) (ds ++ gs)).all (· <= reachBytes) = true := hsz0;clear hsz0;have hval : ∀ (j : Nat) t v, Tryz.f6.params[j]? = some t -> args[j]? = some v -> Value.okWide prog W .any base t v := hval0;have hW' := hW;obtain ⟨p, q, hA0, hV, rfl, hfz, hnd⟩ := hW;have hA : DataW.TrodAll enc prog W 0 (λ _ => true) true Tryz.f6.params.toList args.toList ds p := hA0;rw [Tryz.params6] at hA hval hsz;obtain ⟨v0, vs0, d0, ds0, p0, q0, hargs, rfl, rfl, h0, r0⟩ := trodAll_cons hA;obtain ⟨v1, vs1, d1, ds1, p1, q1, rfl, rfl, rfl, h1, r1⟩ := trodAll_cons r0;obtain ⟨rfl, rfl, rfl⟩ := trodAll_nil r1;obtain rfl : args = #[v0, v1] := by cases args; simp_all
 obtain ⟨rfl, rfl⟩ := trodVars_none hV;obtain ⟨a0, rfl, rfl, rfl, w0⟩ := open_int Ik (hval 0 _ v0 rfl rfl) h0;obtain ⟨Q, hQ, hQl⟩ := x1i (hval 1 _ v1 rfl rfl) h1;have hq : (Q.length + 1) * 80 <= 140737488355328 := by
  rcases hQl with ⟨_, rfl⟩ | ⟨elems, spare, rfl, hle⟩
  ·decide
  ·have := sized_slice hsz (j := 1) rfl rfl underlying37
   rw [show prog.bytesOf iV = 80 by kernel_rfl] at this;have h4 := KE 80 hle;have := y9d;omega
 clear hA0 hval0;refine (x1v hQ hq a0 (wf_i64' w0)).mono λ e W' ⟨he, hg⟩ => ?_;subst he;exact ⟨_, rfl, x3m Tryz.laidOut rfl 4 Iq GV (by rw [Tryz.params6]; decide +kernel) rfl rfl rfl hW' hg⟩
theorem proved : Rows.EvlogPlaysSaid :=
 OpenClaim.holds_of_wide 6 Tryz.f6 rfl rfl rfl rfl rfl rfl rfl ⟨rfl, rfl, rfl, rfl, rfl⟩ rfl rfl rfl rfl rfl GV func6 GV
  (of_decide_eq_true GV) (by unfold Func.isWrapper; first | (rw [IE (by decide +kernel)]; kernel_rfl) | (rw [IA (by decide +kernel)]; exact ⟨rfl, rfl⟩))
  (λ os started H enc _ => lifted os started H enc)
#print axioms proved
end evlogPlays
end Go.Proofs.YtgffifleflkjoaaGreat
