/-
  StageMeets: for every input the law returns true, and each argument reads afterwards as it read before. No condition.
-/
import Derived.Test.YtpnfdffbbhedoaaRowEnd
import Derived.Test.YtpnfdffbbhedoaaW5
import Derived.ChangeSlices
namespace Go.Proofs.Ytpnfdffbbhedoaa.stageMeets
open Go.ChangeShapes Go.WideShapes Go.ChangeAt Go.RowKit

theorem wf64 {n : Int} (h : (Lit.int .i64 n).wf = true) : -9223372036854775808 ≤ n ∧ n ≤ 9223372036854775807 := by
  simp only [Lit.wf, IntKind.min, IntKind.max, IntKind.signed, IntKind.bits, Bool.and_eq_true, decide_eq_true_eq, if_true] at h
  omega

set_option maxRecDepth 100000 in
theorem long (a : Option Addr) (n c : Nat) (e : Int) (w : World) (hn : 60 < n) (hm : n ≤ 9223372036854775807) :
    Calls Try.prog 3 #[.slice a n c, .int .i64 e] w fun e w' => e = .returned (.bool true) ∧ Below w.heap.size w w' := by
  go_enter Try.func3, Try.ntmps3
  go_wp2_with (go_at_call 8; refine (works8 _).mono ?_; rintro e' w1 ⟨rfl, h1⟩)
  go_ret
  exact ⟨rfl, h1⟩

set_option maxRecDepth 100000 in
set_option maxHeartbeats 1000000 in
theorem empty (a : Option Addr) (c : Nat) (e : Int) (w : World) :
    Calls Try.prog 3 #[.slice a 0 c, .int .i64 e] w fun e w' => e = .returned (.bool true) ∧ Below w.heap.size w w' := by
  go_enter Try.func3, Try.ntmps3
  go_wp2_with (refine wpList_store_new rfl 25 (.tmp 5) (.tmp 28) rfl _ mirC rfl rfl _ (by kernel_rfl) (by kernel_rfl) (by kernel_rfl) ?_)
  refine wp_loop_rounds 1 ?_
  rw [rounds_succ]
  go_wp2_with (go_at_call 8; refine (works8 _).mono ?_; rintro e' w1 ⟨rfl, h1⟩)
  go_ret
  exact ⟨rfl, later (by go_grown) h1⟩

theorem walk (a : Addr) (n c : Nat) (zs : List Int) (e : Int) (W : World) (hm : n ≤ 9223372036854775807) (hl : n ≤ zs.length)
    (hc : ∀ k, k < zs.length → W.cell? (a.add k) = some (.int .i64 (zs.getD k 0))) (he : -9223372036854775808 ≤ e ∧ e ≤ 9223372036854775807) :
    Calls Try.prog 3 #[.slice (some a) n c, .int .i64 e] W fun e w' => e = .returned (.bool true) ∧ Below W.heap.size W w' := by
  by_cases h60 : 60 < n
  · exact long _ n c e W h60 hm
  · by_cases h0 : n = 0
    · subst h0
      exact empty _ c e W
    · have ha : a.spot = none := by
        have h := hc 0 (by omega)
        simp only [Addr.add, if_true, World.cell?] at h
        split at h
        · split at h
          · cases h
          · rename_i hs; simpa using hs
        · cases h
      obtain ⟨b, off, sp⟩ := a
      simp only at ha
      subst ha
      refine meets3 b off n c (zs.take n) e W (by omega) (by omega) (by simp; omega) (fun k hk => ?_) he.1 he.2
      have h := hc k (by omega)
      have hadd : (⟨b, off, none⟩ : Addr).add k = ⟨b, off + k, none⟩ := by unfold Addr.add; split <;> simp_all
      rw [hadd] at h
      rw [h]
      simp [List.getElem?_take, hk]

theorem Try.cells3 : Try.prog.cellsOf 3 = 1 := by kernel_rfl

set_option maxRecDepth 100000 in
theorem lifted (os : Os) (started : os.Started) (H : Type) (enc : TypeId × Value → H) :
    ReturnsInHanded {} Try.checked os 3 .any (Rows.stageMeetsSpec.pre6 enc Try.prog Try.f3 Rows.stageMeetsRow.domain false) (Rows.stageMeetsSpec.post enc Try.prog Try.f3 false true false false) := by
  refine returnsInHanded_of_change (C := Try.checked) Try.own started (by kernel_rfl) Try.func3
    (ChangeSpec.witness6 (enc := enc) (C := Try.checked) false ⟨#[], #[.slice none 0 0, .int .i64 0], []⟩ 8 (by kernel_rfl) (by kernel_rfl) (by kernel_rfl) (by kernel_rfl)) ?_
  intro W base args ds gs before hval0 hW hcnd _
  have hval : ∀ (j : Nat) t v, Try.f3.params[j]? = some t → args[j]? = some v → Value.okWide Try.prog W .any base t v := hval0
  have hW' := hW
  obtain ⟨p, q, hA0, hV, rfl, hfz, hnd⟩ := hW
  have hA : DataW.TrodAll enc Try.prog W 0 (fun _ => true) true Try.f3.params.toList args.toList ds p := hA0
  rw [Try.params3] at hA hval
  obtain ⟨v0, vs0, d0, ds0, p0, q0, hargs, rfl, rfl, h0, r0⟩ := trodAll_cons hA
  obtain ⟨v1, vs1, d1, ds1, p1, q1, rfl, rfl, rfl, h1, r1⟩ := trodAll_cons r0
  obtain ⟨rfl, rfl, rfl⟩ := trodAll_nil r1
  obtain rfl : args = #[v0, v1] := by cases args; simp_all
  obtain ⟨rfl, rfl⟩ := trodVars_none hV
  obtain ⟨a0, len, cap, rfl⟩ := okWide_slice Try.underlying22 (hval 0 22 v0 rfl rfl)
  obtain ⟨a1, rfl, rfl, rfl, w1⟩ := open_int Try.underlying3 (hval 1 3 v1 rfl rfl) h1
  clear hA0 hval0
  have fin : Calls Try.prog 3 #[.slice a0 len cap, .int .i64 a1] W fun e w' => e = .returned (.bool true) ∧ Below W.heap.size W w' := by
    obtain ⟨fuel, hf⟩ := h0
    rcases open_ints Try.underlying22 Try.underlying3 Try.cells3 hf with ⟨hcs, hx⟩ | ⟨a, len', cap', zs, hcs, _, hl, hm, hz, hx, hcell, hwz⟩
    · simp [Value.cells] at hcs
      obtain ⟨rfl, rfl, rfl⟩ := hcs
      exact empty _ _ _ _
    · simp [Value.cells] at hcs
      obtain ⟨rfl, rfl, rfl⟩ := hcs
      simp only [if_true] at hz
      unfold maxLen at hm
      exact walk a len cap zs a1 W (by omega) (by omega) hcell (wf64 w1)
  refine fin.mono fun e W' ⟨he, hg⟩ => ?_
  subst he
  exact ⟨_, rfl, law_end Try.laidOut rfl 4 Try.underlying4 (by kernel_rfl) (by rw [Try.params3]; decide +kernel) rfl rfl rfl hW' hg⟩

theorem proved : Rows.StageMeetsSaid :=
  OpenClaim.holds_of_wide 3 Try.f3 rfl rfl rfl rfl rfl rfl rfl ⟨rfl, rfl, rfl, rfl, rfl⟩ rfl rfl rfl rfl rfl (by kernel_rfl) Try.func3 (by kernel_rfl)
    (of_decide_eq_true (by kernel_rfl)) (by unfold Func.isWrapper; first | (rw [if_pos (by decide +kernel)]; kernel_rfl) | (rw [if_neg (by decide +kernel)]; exact ⟨rfl, rfl⟩))
    (fun os started H enc _ => lifted os started H enc)
#print axioms proved
end Go.Proofs.Ytpnfdffbbhedoaa.stageMeets
