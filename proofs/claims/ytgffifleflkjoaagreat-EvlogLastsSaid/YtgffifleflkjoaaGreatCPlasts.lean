/-
  EvlogLasts: for every input the law returns true, and each argument reads afterwards as it read before. No condition.
-/
import Derived.Test.YtgffifleflkjoaaGreatG38
import Derived.Test.YtgffifleflkjoaaGreatG39
import Derived.Test.YtgffifleflkjoaaGreatG41
import Derived.SizedLaws
namespace Go.Proofs.YtgffifleflkjoaaGreat.evlogLasts
open Go.ChangeShapes Go.WideShapes Go.ChangeAt Go.RowKit Go.Proofs.YtgffifleflkjoaaGreat

theorem reach_room : reachBytes + 80 ≤ 140737488355328 := by decide

set_option maxRecDepth 100000 in
theorem lifted (os : Os) (started : os.Started) (H : Type) (enc : TypeId × Value → H) :
    ReturnsInHanded {} Tryz.checked os 5 .any (Rows.evlogLastsSpec.pre6 enc Tryz.prog Tryz.f5 Rows.evlogLastsRow.domain false) (Rows.evlogLastsSpec.post enc Tryz.prog Tryz.f5 false true false false) := by
  refine returnsInHanded_of_change_sized (C := Tryz.checked) Tryz.own started (by kernel_rfl) Tryz.func5
    (ChangeSpec.witness6 (enc := enc) (C := Tryz.checked) false ⟨#[], #[.int .i64 0, .slice none 0 0, .int .i64 0, .agg #[.slice none 0 0, .int .i64 0, .int .i64 0]], []⟩ 8 (by kernel_rfl) (by kernel_rfl) (by kernel_rfl) (by kernel_rfl)) ?_
  intro W base args ds gs before hval0 hW hcnd hsz0 _
  have hsz : (DataW.weightsEach Tryz.prog (Tryz.f5.params.toList ++ Rows.evlogLastsSpec.plain.varTypes Tryz.prog) (ds ++ gs)).all (· ≤ reachBytes) = true := hsz0
  clear hsz0
  have hval : ∀ (j : Nat) t v, Tryz.f5.params[j]? = some t → args[j]? = some v → Value.okWide Tryz.prog W .any base t v := hval0
  have hW' := hW
  obtain ⟨p, q, hA0, hV, rfl, hfz, hnd⟩ := hW
  have hA : DataW.TrodAll enc Tryz.prog W 0 (fun _ => true) true Tryz.f5.params.toList args.toList ds p := hA0
  rw [Tryz.params5] at hA hval hsz
  obtain ⟨v0, vs0, d0, ds0, p0, q0, hargs, rfl, rfl, h0, r0⟩ := trodAll_cons hA
  obtain ⟨v1, vs1, d1, ds1, p1, q1, rfl, rfl, rfl, h1, r1⟩ := trodAll_cons r0
  obtain ⟨v2, vs2, d2, ds2, p2, q2, rfl, rfl, rfl, h2, r2⟩ := trodAll_cons r1
  obtain ⟨v3, vs3, d3, ds3, p3, q3, rfl, rfl, rfl, h3, r3⟩ := trodAll_cons r2
  obtain ⟨rfl, rfl, rfl⟩ := trodAll_nil r3
  obtain rfl : args = #[v0, v1, v2, v3] := by cases args; simp_all
  obtain ⟨rfl, rfl⟩ := trodVars_none hV
  obtain ⟨a0, rfl, rfl, rfl, w0⟩ := open_int Tryz.underlying3 (hval 0 _ v0 rfl rfl) h0
  obtain ⟨Q, hQ, hQl⟩ := open_acts19 (hval 1 _ v1 rfl rfl) h1
  obtain ⟨a2, rfl, rfl, rfl, w2⟩ := open_int Tryz.underlying3 (hval 2 _ v2 rfl rfl) h2
  obtain ⟨c, kv, rfl, hk, hkl, ht, hp⟩ := open_crash19 (hval 3 _ v3 rfl rfl) h3
  have hq : (Q.length + 1) * 80 ≤ 140737488355328 := by
    rcases hQl with ⟨_, rfl⟩ | ⟨elems, spare, rfl, hle⟩
    · decide
    · have := sized_slice hsz (j := 1) rfl rfl Tryz.underlying37
      rw [show Tryz.prog.bytesOf tAct = 80 by kernel_rfl] at this
      have h3 := Nat.mul_le_mul_right 80 hle
      have := reach_room
      omega
  clear hA0 hval0
  refine (lasts_go hQ hq a0 (wf_i64' w0) a2 (wf_i64' w2) c hk hkl ht hp).mono fun e W' ⟨he, hg⟩ => ?_
  subst he
  exact ⟨_, rfl, law_end Tryz.laidOut rfl 4 Tryz.underlying4 (by kernel_rfl) (by rw [Tryz.params5]; decide +kernel) rfl rfl rfl hW' hg⟩

theorem proved : Rows.EvlogLastsSaid :=
  OpenClaim.holds_of_wide 5 Tryz.f5 rfl rfl rfl rfl rfl rfl rfl ⟨rfl, rfl, rfl, rfl, rfl⟩ rfl rfl rfl rfl rfl (by kernel_rfl) Tryz.func5 (by kernel_rfl)
    (of_decide_eq_true (by kernel_rfl)) (by unfold Func.isWrapper; first | (rw [if_pos (by decide +kernel)]; kernel_rfl) | (rw [if_neg (by decide +kernel)]; exact ⟨rfl, rfl⟩))
    (fun os started H enc _ => lifted os started H enc)
#print axioms proved
end Go.Proofs.YtgffifleflkjoaaGreat.evlogLasts
