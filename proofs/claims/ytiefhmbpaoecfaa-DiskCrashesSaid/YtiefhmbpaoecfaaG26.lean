/-
  DiskCrashes: the calls.
  A region that draws its order: operations that read no memory may be taken first, whatever else may come.
-/
import Derived.Test.YtiefhmbpaoecfaaG04
import Derived.Test.YtiefhmbpaoecfaaG25

namespace Go.Proofs.Ytiefhmbpaoecfaa
open Go.RowKit Dm

/-- An act's cells, to be loaded whole. -/
theorem ActsAt.row {w : World} {v : Value} {l : List ActM} (x : ActsAt w.heap v l) {i : Nat} {y : ActM} (hi : l[i]? = some y) : ∃ b o cap bv kv, v = .slice (some ⟨b, o, none⟩) l.length cap ∧ b < w.heap.size ∧
    w.rangeAt b (o + i * 8) [.int .i64 y.what, .int .i64 y.sec, .int .i64 y.n, bv, .bool y.raw, kv, .int .i64 y.crash.torn, .int .i64 y.crash.part] ∧ BytesIn w.heap (fun _ => True) bv y.b ∧ BoolsAt w.heap kv y.crash.keep ∧ y.ok := by
  rcases x with ⟨_, rfl⟩ | ⟨b, o, cap, c, t, fr, h1, h2, h3⟩
  · simp at hi
  · obtain ⟨bv, kv, e0, e1, e2, e3, e4, e5, e6, e7, e8, e9, e10⟩ := h3 i y hi
    refine ⟨b, o, cap, bv, kv, h1, lt_of_row h2, fun j u hj => ?_, e8, e9, e10⟩
    rw [cell_of_row _ _ _ _ _ _ h2]
    match j, hj with
    | 0, hj => cases hj; exact e0
    | 1, hj => cases hj; exact e1
    | 2, hj => cases hj; exact e2
    | 3, hj => cases hj; exact e3
    | 4, hj => cases hj; exact e4
    | 5, hj => cases hj; exact e5
    | 6, hj => cases hj; exact e6
    | 7, hj => cases hj; exact e7
    | n + 8, hj => cases hj

theorem infoAct : (Try.prog.info? tAct).map (·.size) = some 8 := by kernel_rfl
theorem infoPtr : (Try.prog.info? tPtr).map (fun i => (i.zero, i.size, i.bytes)) = some (some (.pointer none), 1, 8) := by kernel_rfl

theorem fewB_small {l : List ActM} {most : Int} (h : fewB l most = true) : (∀ y ∈ l, y.small = true) ∧ (l.length : Int) ≤ most := by
  simp only [fewB, Bool.and_eq_true, decide_eq_true_eq, List.all_eq_true] at h
  exact h

set_option maxRecDepth 100000 in
/-- Too many calls: only the chapter's rows. -/
theorem crashes_many {v kv : Value} {l : List ActM} {c : Crash} {w : World} (hv : ActsAt w.heap v l) (hk : BoolsAt w.heap kv c.keep) (hl : l.length ≤ 9223372036854775807) (hkl : c.keep.length ≤ 9223372036854775807) (hf : fewB l 30 = false ∨ ¬ c.keep.length ≤ 40) :
    Calls Try.prog 3 #[v, .agg #[kv, .int .i64 c.torn, .int .i64 c.part]] w fun e w' => e = .returned (.bool true) ∧ Below w.heap.size w w' := by
  obtain ⟨ka, kcap, rfl⟩ := hk.slice
  have hb0 : Below w.heap.size w (w.alloc (.cells #[.slice ka c.keep.length kcap, .int .i64 c.torn, .int .i64 c.part] tCrash)) := (Below.refl _ _).alloc (Nat.le_refl _) _
  have FW := Lib.hid (few_c (hv.keeps (fun k hl => hb0.block k hl)) 30 hl)
  have WK := Lib.hid (works_c (w.alloc (.cells #[.slice ka c.keep.length kcap, .int .i64 c.torn, .int .i64 c.part] tCrash)))
  have HB := Lib.hid hb0
  have hkl1 : (c.keep.length : Int) ≤ 9223372036854775807 := by omega
  clear hv hk hb0
  by_cases h1 : fewB l 30 = true
  · have h2 : ¬ c.keep.length ≤ 40 := by rcases hf with h | h; rw [h1] at h; cases h; exact h
    rw [h1] at FW
    generalize c.keep.length = n at *
    clear h1 hf
    have h3 : 40 < n := by omega
    go_enter Try.func3, Try.ntmps3
    go_wp2_with (first
      | (go_at_call 6; refine FW.out.mono ?_; rintro e w' ⟨rfl, rfl⟩)
      | (go_at_call 7; refine WK.out.mono ?_; rintro e w2 ⟨rfl, hb2⟩))
    go_ret
    exact ⟨rfl, HB.out.trans (hb2.mono HB.out.size)⟩
  · have h1' : fewB l 30 = false := by simpa using h1
    rw [h1'] at FW
    clear h1 h1' hf
    go_enter Try.func3, Try.ntmps3
    go_wp2_with (first
      | (go_at_call 6; refine FW.out.mono ?_; rintro e w' ⟨rfl, rfl⟩)
      | (go_at_call 7; refine WK.out.mono ?_; rintro e w2 ⟨rfl, hb2⟩))
    go_ret
    exact ⟨rfl, HB.out.trans (hb2.mono HB.out.size)⟩

end Go.Proofs.Ytiefhmbpaoecfaa

namespace Go.Proofs.Ytiefhmbpaoecfaa
open Go.RowKit

section
variable {P : Program} {ops : Array Oper} {md : Region.Mode} {I : World → Prop} {tail : List Nat}

theorem wpAnyI_firstP {Q : Act → World → Prop} {i : Nat} {oi : Oper} {v : Value} (hi : ops[i]? = some oi) (hsel : ∀ (j : Nat) (o : Oper) cs b, ops[j]? = some o → o.op ≠ .select cs b) (hit : i ∈ tail) :
    ∀ (fuel : Nat) (listed : Array Bool) (a : Act) (w : World),
      (∀ j oj, ops[j]? = some oj → j ≠ i → listed.getD j true = false → (∀ e ∈ oj.after, Region.binds md e = true → e.on ≠ i) → oi.apart ops oj = true) →
      i ∈ Region.ready md ops listed → YieldsI P ops (fun _ => True) oi v a →
      wpAnyI P md ops I tail Q fuel (listed.setIfInBounds i true) (a.put oi.dst v) w → wpAnyI P md ops I tail Q (fuel + 1) listed a w := by
  intro fuel
  induction fuel with
  | zero =>
    intro listed a w _ hr hy H
    refine ⟨fun h => (by rw [h] at hr; cases hr), fun j hj => ?_⟩
    by_cases hji : j = i
    · subst hji; exact hy.wpOp hi trivial ⟨fun h => absurd hit h, H⟩
    · have := ready_mono hj hji
      rw [H.1] at this
      cases this
  | succ fuel ih =>
    intro listed a w hfree hr hy H
    refine ⟨fun h => (by rw [h] at hr; cases hr), fun j hj => ?_⟩
    by_cases hji : j = i
    · subst hji; exact hy.wpOp hi trivial ⟨fun h => absurd hit h, H⟩
    · have h1 := H.2 j (ready_mono hj hji)
      obtain ⟨hjun, oj, hoj, hall⟩ := mem_ready.1 hj
      have hun := (mem_ready.1 hr).1
      have hnot : ∀ e ∈ oj.after, Region.binds md e = true → e.on ≠ i := fun e he hb heq => by
        have h1 := hall e he hb
        rw [heq, getD_both hun] at h1
        cases h1
      have h2 := wpOpI_put hoj (hfree j oj hoj hji hjun hnot) (fun cs b => hsel i oi cs b hi) (fun cs b => hsel j oj cs b hoj) hy h1
      have hfree' : ∀ k ok, ops[k]? = some ok → k ≠ i → (listed.setIfInBounds j true).getD k true = false →
          (∀ e ∈ ok.after, Region.binds md e = true → e.on ≠ i) → oi.apart ops ok = true := fun k ok hk hki hun hno => by
        refine hfree k ok hk hki ?_ hno
        by_cases hjk : j = k
        · subst hjk; exact hjun
        · rw [getD_set_ne true hjk] at hun; exact hun
      refine wpOp_mono (fun a' w' h3 => ⟨fun h => h3.2.1 h, ih (listed.setIfInBounds j true) a' w' hfree' (ready_mono hr (Ne.symm hji)) h3.1 ?_⟩) h2
      rw [Array.setIfInBounds_comm _ _ hji]
      exact h3.2.2

def pureB (md : Region.Mode) (ops : Array Oper) (tail : List Nat) : List Nat → Array Bool → Bool
  | [], _ => true
  | k :: r, listed => (Region.ready md ops listed).contains k && Region.free md ops listed k && tail.contains k && pureB md ops tail r (listed.setIfInBounds k true)

theorem wpAnyI_pures {Q : Act → World → Prop} (hs : Region.noSelect ops = true) {w : World} : ∀ (ks : List Nat) (f : Nat) (listed : Array Bool) (a : Act), pureB md ops tail ks listed = true →
    wpHoist P ops (fun _ => True) (fun a' => wpAnyI P md ops I tail Q f (ks.foldl (fun l k => l.setIfInBounds k true) listed) a' w) (ks.filterMap (fun k => ops[k]?)) a → wpAnyI P md ops I tail Q (f + ks.length) listed a w
  | [], f, listed, a, _, h => h
  | k :: r, f, listed, a, hB, h => by
    simp only [pureB, Bool.and_eq_true] at hB
    obtain ⟨⟨⟨h1, h2⟩, h3⟩, h4⟩ := hB
    have hr : k ∈ Region.ready md ops listed := by simpa using h1
    have ht : k ∈ tail := by simpa using h3
    obtain ⟨_, o, ho, _⟩ := mem_ready.1 hr
    simp only [List.filterMap_cons, ho, wpHoist] at h
    have : ∃ v, YieldsI P ops (fun _ => True) o v a ∧ wpHoist P ops (fun _ => True) (fun a' => wpAnyI P md ops I tail Q f ((k :: r).foldl (fun l k => l.setIfInBounds k true) listed) a' w) (r.filterMap (fun k => ops[k]?)) (a.put o.dst v) := by
      by_cases hw : Region.wanted o (yielded ops a.tmps) = true
      · rw [if_pos hw] at h
        obtain ⟨v, hv, hn⟩ := h
        refine ⟨v, .inl ⟨hw, fun w' hw' => ?_⟩, hn⟩
        have := hv w' hw'
        generalize (execOp a.eval o).run P w' = x at this
        cases x with
        | ok n w2 =>
          cases n <;> simp only [sameUpon] at this
          case value u => rw [this.1, this.2]
        | halt x w2 => simp only [sameUpon] at this
      · rw [if_neg hw] at h
        exact ⟨undef, .inr ⟨by simpa using hw, rfl⟩, h⟩
    obtain ⟨v, hy, hn⟩ := this
    rw [show f + (k :: r).length = (f + r.length) + 1 by simp; omega]
    exact wpAnyI_firstP ho (Region.noSelect_spec hs) ht _ _ _ _ (Region.free_spec ho h2) hr hy (wpAnyI_pures hs r f _ _ h4 hn)

/-- Operations that read no memory. -/
theorem wpAnyI_pure {Q : Act → World → Prop} {w : World} {a : Act} (ks : List Nat) (f : Nat) (listed : Array Bool) (hB : (Region.noSelect ops && pureB md ops tail ks listed) = true)
    (h : wpHoist P ops (fun _ => True) (fun a' => wpAnyI P md ops I tail Q f (ks.foldl (fun l k => l.setIfInBounds k true) listed) a' w) (ks.filterMap (fun k => ops[k]?)) a) : wpAnyI P md ops I tail Q (f + ks.length) listed a w := by
  simp only [Bool.and_eq_true] at hB
  exact wpAnyI_pures hB.1 ks f listed a hB.2 h

end
end Go.Proofs.Ytiefhmbpaoecfaa
