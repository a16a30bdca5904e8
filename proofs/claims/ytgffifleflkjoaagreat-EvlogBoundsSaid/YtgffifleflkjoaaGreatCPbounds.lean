/-
  EvlogBounds: for every input the law returns true, and each argument reads afterwards as it read before. No condition.
-/
import Derived.Test.YtgffifleflkjoaaGreatG21
import Derived.Test.YtgffifleflkjoaaGreatG22
namespace Go.Proofs.YtgffifleflkjoaaGreat.evlogBounds
open Go.ChangeShapes Go.WideShapes Go.ChangeAt Go.RowKit Go.Proofs.YtgffifleflkjoaaGreat

theorem whole (w : World) (mo wh : Int) : Calls Tryz.prog 3 #[.int .i64 mo, .int .i64 wh] w fun e w' => e = .returned (.bool true) ∧ Below w.heap.size w w' := by
  by_cases h : mo < -1 ∨ 1 < mo ∨ wh < 0 ∨ 3 < wh
  · exact bounds_out w mo wh h
  · have hm : mo = -1 ∨ mo = 0 ∨ mo = 1 := by omega
    have hw : wh = 0 ∨ wh = 1 ∨ wh = 2 ∨ wh = 3 := by omega
    obtain ⟨k1, k2, k3⟩ := Em.zkey_done
    obtain ⟨l1, l2⟩ := Em.zkey_len
    obtain ⟨m1, m2, m3⟩ := Em.many_done
    obtain ⟨n1, n2⟩ := Em.many_len
    obtain ⟨r1, r2, r3⟩ := Em.last_done
    obtain ⟨s1, s2⟩ := Em.last_len
    rcases hw with rfl | rfl | rfl | rfl
    · rcases hm with rfl | rfl | rfl
      · exact bounds_key w (n := 63) rfl (by decide) (by decide) k1 (fun _ => by omega)
      · exact bounds_key w (n := 64) rfl (by decide) (by decide) k2 (fun _ => by omega)
      · exact bounds_key w (n := 65) rfl (by decide) (by decide) k3 (fun h => absurd h (by decide))
    · rcases hm with rfl | rfl | rfl
      · exact bounds_val w (n := 4095) rfl (by decide) (by decide) (by rw [Em.zval_done]; rfl) (fun _ => Em.zval_len (by decide))
      · exact bounds_val w (n := 4096) rfl (by decide) (by decide) (by rw [Em.zval_done]; rfl) (fun _ => Em.zval_len (by decide))
      · exact bounds_val w (n := 4097) rfl (by decide) (by decide) (by rw [Em.zval_done]; rfl) (fun h => absurd h (by decide))
    · rcases hm with rfl | rfl | rfl
      · exact bounds_many w (n := 63) rfl (by decide) (by decide) m1 (fun _ => n1)
      · exact bounds_many w (n := 64) rfl (by decide) (by decide) m2 (fun _ => n2)
      · exact bounds_many w (n := 65) rfl (by decide) (by decide) m3 (fun h => absurd h (by decide))
    · rcases hm with rfl | rfl | rfl
      · exact bounds_rows w (n := 0) rfl (by decide) (by decide) r1 (fun _ => by omega)
      · exact bounds_rows w (n := 1) rfl (by decide) (by decide) r2 (fun _ => by omega)
      · exact bounds_rows w (n := 2) rfl (by decide) (by decide) r3 (fun h => absurd h (by decide))

set_option maxRecDepth 100000 in
theorem lifted (os : Os) (started : os.Started) (H : Type) (enc : TypeId × Value → H) :
    ReturnsInHanded {} Tryz.checked os 3 .any (Rows.evlogBoundsSpec.pre6 enc Tryz.prog Tryz.f3 Rows.evlogBoundsRow.domain false) (Rows.evlogBoundsSpec.post enc Tryz.prog Tryz.f3 false true false false) := by
  refine returnsInHanded_of_change (C := Tryz.checked) Tryz.own started (by kernel_rfl) Tryz.func3
    (ChangeSpec.witness6 (enc := enc) (C := Tryz.checked) false ⟨#[], #[.int .i64 0, .int .i64 0], []⟩ 8 (by kernel_rfl) (by kernel_rfl) (by kernel_rfl) (by kernel_rfl)) ?_
  intro W base args ds gs before hval0 hW hcnd _
  have hval : ∀ (j : Nat) t v, Tryz.f3.params[j]? = some t → args[j]? = some v → Value.okWide Tryz.prog W .any base t v := hval0
  have hW' := hW
  obtain ⟨p, q, hA0, hV, rfl, hfz, hnd⟩ := hW
  have hA : DataW.TrodAll enc Tryz.prog W 0 (fun _ => true) true Tryz.f3.params.toList args.toList ds p := hA0
  rw [Tryz.params3] at hA hval
  obtain ⟨v0, vs0, d0, ds0, p0, q0, hargs, rfl, rfl, h0, r0⟩ := trodAll_cons hA
  obtain ⟨v1, vs1, d1, ds1, p1, q1, rfl, rfl, rfl, h1, r1⟩ := trodAll_cons r0
  obtain ⟨rfl, rfl, rfl⟩ := trodAll_nil r1
  obtain rfl : args = #[v0, v1] := by cases args; simp_all
  obtain ⟨rfl, rfl⟩ := trodVars_none hV
  obtain ⟨a0, rfl, rfl, rfl, w0⟩ := open_int Tryz.underlying3 (hval 0 _ v0 rfl rfl) h0
  obtain ⟨a1, rfl, rfl, rfl, w1⟩ := open_int Tryz.underlying3 (hval 1 _ v1 rfl rfl) h1
  clear hA0 hval0
  refine (whole W a0 a1).mono fun e W' ⟨he, hg⟩ => ?_
  subst he
  exact ⟨_, rfl, law_end Tryz.laidOut rfl 4 Tryz.underlying4 (by kernel_rfl) (by rw [Tryz.params3]; decide +kernel) rfl rfl rfl hW' hg⟩

theorem proved : Rows.EvlogBoundsSaid :=
  OpenClaim.holds_of_wide 3 Tryz.f3 rfl rfl rfl rfl rfl rfl rfl ⟨rfl, rfl, rfl, rfl, rfl⟩ rfl rfl rfl rfl rfl (by kernel_rfl) Tryz.func3 (by kernel_rfl)
    (of_decide_eq_true (by kernel_rfl)) (by unfold Func.isWrapper; first | (rw [if_pos (by decide +kernel)]; kernel_rfl) | (rw [if_neg (by decide +kernel)]; exact ⟨rfl, rfl⟩))
    (fun os started H enc _ => lifted os started H enc)
#print axioms proved
end Go.Proofs.YtgffifleflkjoaaGreat.evlogBounds
