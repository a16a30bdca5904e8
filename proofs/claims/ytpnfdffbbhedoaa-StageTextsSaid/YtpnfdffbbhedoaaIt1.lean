/-
  The iterators of the stage.
-/
import Derived.Test.YtpnfdffbbhedoaaIter
import Derived.Test.YtpnfdffbbhedoaaW4
namespace Go.Proofs.Ytpnfdffbbhedoaa
open Go.RowKit Go.Shelf
attribute [local go_sem] Oper.semAt_some

def tenL : List Int := (List.range 10).map (fun k : Nat => (k : Int) + 1)
theorem tenL_at {k : Nat} (h : k < 10) : tenL[k]? = some ((k : Int) + 1) := by simp [tenL, h]
theorem tenL_len : tenL.length = 10 := rfl

theorem stages33 (w : World) : Calls Try.prog 33 #[] w fun e w' => e = .returned (.func (.func 37) #[] #[]) ∧ w = w' := by
  go_enter Try.func33, Try.ntmps33
  go_wp2
  go_ret
  exact ⟨rfl, rfl⟩

set_option maxHeartbeats 1000000 in
theorem stages37 (w : World) : Iter Try.prog 37 #[] (fun s : Int => #[.int .i64 s]) tenL (fun _ => False) w := by
  intro l J Jx W hW hJ hJx hY h0
  refine callsIn_of_wp Try.func37 rfl trivial ?_ rfl
  simp only [Try.ntmps37, List.size_toArray, List.length_cons, List.length_nil, Nat.reduceAdd, Nat.reduceSub, Array.replicate_succ, Array.replicate_zero, List.push_toArray, List.append_toArray, List.nil_append, List.cons_append]
  gi_wp2
  gi_loopw [2] (fun p wr => ∃ k : Nat, p = .int .i64 ((k : Int) + 1) ∧ k ≤ 10 ∧ J k (fun _ => False) wr) (fun p _ => 11 - (intOf p).toNat)
  case atStart => exact ⟨0, rfl, by omega, h0⟩
  case round =>
    obtain ⟨k, rfl, hk, hJk⟩ := hrel
    by_cases hlt : k < 10
    · obtain ⟨fn, tmps, assign, body, hy, hR⟩ := hY k _ _ wr (tenL_at hlt) hJk
      gi_wp2
      refine ⟨rfl, hR.mono ?_⟩
      rintro e W' (⟨rfl, hJ', hk'⟩ | ⟨rfl, hJx', hk'⟩)
      · gi_wp2
        exact ⟨⟨k + 1, by simp, by omega, hJ'⟩, by simp [intOf]; omega⟩
      · gi_wp2
        refine bodyPost_ret (results_none rfl _ _ _) rfl ?_
        exact ⟨⟨_, rfl⟩, _, .inr ⟨k + 1, by rw [tenL_len]; omega, hJx'⟩⟩
    · obtain rfl : k = 10 := by omega
      gi_wp2
      go_end0
      exact ⟨⟨_, rfl⟩, _, .inl hJk⟩


/-- How many of the first k stages wait. -/
def cntW : Nat → Nat
  | 0 => 0
  | k + 1 => if k = 4 ∨ k = 9 then cntW k else cntW k + 1

def pathL (own : Bool) : List (Int × Int) := [1, 2, 3, 4, 6, 7, 8, 9].map (fun s => (s, waitsI own s))
def encP (x : Int × Int) : Array Value := #[.int .i64 x.1, .int .i64 x.2]

theorem path_at (own : Bool) {k : Nat} (h : k < 10) (h4 : k ≠ 4) (h9 : k ≠ 9) : (pathL own)[cntW k]? = some ((k : Int) + 1, waitsI own ((k : Int) + 1)) ∧ waitsI own ((k : Int) + 1) ≠ 0 := by
  have hk : k = 0 ∨ k = 1 ∨ k = 2 ∨ k = 3 ∨ k = 5 ∨ k = 6 ∨ k = 7 ∨ k = 8 := by omega
  rcases hk with rfl | rfl | rfl | rfl | rfl | rfl | rfl | rfl <;> cases own <;> exact ⟨rfl, by decide⟩
theorem path_no (own : Bool) {k : Nat} (h : k = 4 ∨ k = 9) : waitsI own ((k : Int) + 1) = 0 := by
  rcases h with rfl | rfl <;> cases own <;> rfl
theorem cntW_le {k : Nat} (h : k ≤ 10) : cntW k ≤ 8 := by
  have hk : k = 0 ∨ k = 1 ∨ k = 2 ∨ k = 3 ∨ k = 4 ∨ k = 5 ∨ k = 6 ∨ k = 7 ∨ k = 8 ∨ k = 9 ∨ k = 10 := by omega
  rcases hk with rfl | rfl | rfl | rfl | rfl | rfl | rfl | rfl | rfl | rfl | rfl <;> decide

theorem path22 (own : Bool) (w : World) : Calls Try.prog 22 #[.bool own] w fun e w' => e = .returned (.func (.func 32) #[] #[.pointer (some ⟨w.heap.size, 0, none⟩)]) ∧ w.alloc (.cells #[.bool own] 4) = w' := by
  go_enter Try.func22, Try.ntmps22
  go_wp2
  go_ret
  exact ⟨rfl, rfl⟩

/-- What holds between two rounds of the path's inner loop: W: where the path began; n1: the heap's size where the loop began; g: the box of 'own'. -/
def PathI (J : Nat → (Nat → Prop) → World → Prop) (own : Bool) (l g b0 n1 k : Nat) (O : Nat → Prop) (W' : World) : Prop :=
  ∃ O2 : Nat → Prop, (∀ i, O i → O2 i) ∧ (∀ i, b0 ≤ i → i < n1 + 2 → O2 i) ∧ (∀ i, O2 i → b0 ≤ i) ∧ (∀ i, O i → n1 + 2 ≤ i) ∧ n1 + 2 ≤ W'.heap.size ∧ J k O2 W' ∧
    W'.heap[b0]? = some (.cells #[.func (.yield l) #[] #[]] 68 (0, 0)) ∧ W'.heap[g]? = some (.cells #[.bool own] 4 (0, 0))

theorem pathI_stable (J : Nat → (Nat → Prop) → World → Prop) (hJ : Stable J) (own : Bool) (l g b0 n1 : Nat) (hb : b0 < n1) (hg : g < b0) (f : Nat → Nat) :
    Stable (fun k O W => PathI J own l g b0 n1 (f k) O W) := by
  rintro k O O' A B ⟨O2, h1, h2, h3, h4, h5, h6, h7, h8⟩ hm ho1 ho2
  refine ⟨fun i => O2 i ∨ O' i, fun i hi => Or.inr hi, fun i hi hl => Or.inl (h2 i hi hl), ?_, ?_, Nat.le_trans h5 hm.size, ?_, ?_, ?_⟩
  · rintro i (hi | hi)
    · exact h3 i hi
    · rcases ho2 i hi with h | h
      · exact h3 i (h1 i h)
      · omega
  · intro i hi
    rcases ho2 i hi with h | h
    · exact h4 i h
    · omega
  · refine hJ _ O2 _ A B h6 (hm.mono h1) (fun i hi => Or.inl hi) ?_
    rintro i (hi | hi)
    · exact Or.inl hi
    · rcases ho2 i hi with h | h
      · exact Or.inl (h1 i h)
      · exact Or.inr h
  · exact (hm.block b0 (by omega) (fun e => by have := h4 _ e; omega)).trans h7
  · exact (hm.block g (by omega) (fun e => by have := h4 _ e; omega)).trans h8

theorem pathI_put (J : Nat → (Nat → Prop) → World → Prop) (hJ : Stable J) (own : Bool) (l g b0 n1 : Nat) (hb : b0 < n1) (hg : g < b0) (k : Nat) (O : Nat → Prop) (W : World) (d : Nat) (hd : n1 ≤ d) (hd' : d < n1 + 2) (o : Obj)
    (h : PathI J own l g b0 n1 k O W) : PathI J own l g b0 n1 k O (W.putObj d o) := by
  obtain ⟨O2, h1, h2, h3, h4, h5, h6, h7, h8⟩ := h
  refine ⟨O2, h1, h2, h3, h4, by simpa using h5, ?_, (World.putObj_heap_other (by omega)).trans h7, (World.putObj_heap_other (by omega)).trans h8⟩
  exact hJ _ O2 _ W _ h6 ((moves_putObj (l := d) o).mono (fun i e => by subst e; exact h2 _ (by omega) (by omega))) (fun i hi => hi) (fun i hi => Or.inl hi)

theorem keeps_pathI {J J' : Nat → (Nat → Prop) → World → Prop} {own : Bool} {l g b0 n1 k k' : Nat} {O O2 : Nat → Prop} {A B : World}
    (h1 : ∀ i, O i → O2 i) (h2 : ∀ i, b0 ≤ i → i < n1 + 2 → O2 i) (h3 : ∀ i, O2 i → b0 ≤ i) (h4 : ∀ i, O i → n1 + 2 ≤ i) (h5 : n1 + 2 ≤ A.heap.size) (hb : b0 < n1) (hg : g < b0)
    (h7 : A.heap[b0]? = some (.cells #[.func (.yield l) #[] #[]] 68 (0, 0))) (h8 : A.heap[g]? = some (.cells #[.bool own] 4 (0, 0)))
    (hk : Keeps (fun i => O2 i ∨ i = g) A B) (h6 : J' k' O2 B) : PathI J' own l g b0 n1 k' O B :=
  ⟨O2, h1, h2, h3, h4, Nat.le_trans h5 hk.size, h6, (hk.block b0 (Or.inl (h2 _ (by omega) (by omega))) (by omega)).trans h7, (hk.block g (Or.inr rfl) (by omega)).trans h8⟩

set_option maxHeartbeats 2000000 in
theorem path32 (own : Bool) (g : Nat) (w : World) (hg : w.heap[g]? = some (.cells #[.bool own] 4 (0, 0))) :
    Iter Try.prog 32 #[.pointer (some ⟨g, 0, none⟩)] encP (pathL own) (fun i => i = g) w := by
  intro l J Jx W hW hJ hJx hY h0
  have hgw : g < w.heap.size := (Array.getElem?_eq_some_iff.1 hg).1
  have hgW : W.heap[g]? = some (.cells #[.bool own] 4 (0, 0)) := (hW.block g hgw).trans hg
  have hgl : g < W.heap.size := (Array.getElem?_eq_some_iff.1 hgW).1
  have hz := hW.size
  refine callsIn_of_wp_marks Try.func32 rfl trivial ?_ rfl
  simp only [Try.ntmps32, List.size_toArray, List.length_cons, List.length_nil, Nat.reduceAdd, Nat.reduceSub, Array.replicate_succ, Array.replicate_zero, List.push_toArray, List.append_toArray, List.nil_append, List.cons_append]
  gi_wp2
  refine wpIn_scope (wpIn_label_seq ?_)
  gi_wp2_with (refine ⟨trivial, rfl, ?_⟩; gi_at_call 33; refine (callsIn_wide.2 (stages33 _)).mono ?_; rintro e w' ⟨rfl, rfl⟩)
  have hlen : (pathL own).length = 8 := rfl
  refine wpIn_rangeIter (gf := 37) (lb := #[]) (encs := fun s : Int => #[.int .i64 s]) (xs := tenL) (R := fun _ => False) (w0 := W) rfl (enters_of Try.func37 (by kernel_rfl) rfl) (stages37 _) (fun _ h => h.elim)
    ((Below.refl _ _).alloc (Nat.le_refl _) _) (fun _ => rfl)
    (fun k O W' => PathI J own l g W.heap.size (W.heap.size + 1) (cntW k) O W')
    (fun c k O W' => c = .exit 0 ∧ k ≤ 10 ∧ PathI Jx own l g W.heap.size (W.heap.size + 1) (cntW k) O W')
    ?hI ?hIx ?hIb ?hIxb ?h0
    (fun x a' _ => a' = { tmps := #[.func (.yield l) #[] #[], .pointer (some ⟨g, 0, none⟩), .pointer (some ⟨W.heap.size, 0, none⟩), .int .i64 x, undef, .func (.func 37) #[] #[], .int .i64 x, undef, undef, undef, undef, undef, undef, undef, undef, undef, undef, undef, undef], defers := [] }) (fun _ _ _ _ _ _ _ h => h) ?assign ?body ?done ?stop
  case hI => exact pathI_stable J hJ own l g _ _ (by omega) hgl _
  case hIx =>
    intro c k O O' A B h hm ho1 ho2
    exact ⟨h.1, h.2.1, pathI_stable Jx hJx own l g _ _ (by omega) hgl cntW k O O' A B h.2.2 hm ho1 ho2⟩
  case hIb =>
    intro k O r o W' _ h
    exact pathI_put J hJ own l g _ _ (by omega) hgl _ O W' _ (by simp) (by simp) o h
  case hIxb =>
    intro c k O r o W' _ h
    exact ⟨h.1, h.2.1, pathI_put Jx hJx own l g _ _ (by omega) hgl _ O W' _ (by simp) (by simp) o h.2.2⟩
  case h0 =>
    intro W' hb hs
    simp only [World.size_alloc] at hb hs
    refine ⟨fun i => W.heap.size ≤ i ∧ i < W'.heap.size, fun i h => h.elim, fun i h1 h2 => ⟨h1, by omega⟩, fun i h => h.1, fun i h => h.elim, by omega, ?_, ?_, ?_⟩
    · have hbb : Below W.heap.size W W' := ((Below.refl _ _).alloc (Nat.le_refl _) _).trans (hb.mono (by omega))
      exact hJ 0 _ _ W W' h0 (Moves.of_below hbb) (fun i h => h.elim) (fun i h => Or.inr h.1)
    · rw [hb.block _ (by omega)]; exact heap_alloc_last _ _
    · rw [hb.block _ (by omega), heap_alloc_old _ _ _ hgl]; exact hgW
  case assign =>
    intro k x O W' hx hi _ _ _
    gi_wp2
    exact ⟨hi, Keeps.refl _ _, trivial⟩
  case body =>
    rintro k x O a' W' hx hl hd hol hod hi rfl
    have hk : k < 10 := by
      have := (List.getElem?_eq_some_iff.1 hx).1
      rwa [tenL_len] at this
    rw [tenL_at hk] at hx
    obtain rfl : (k : Int) + 1 = x := by simpa using hx
    clear hx
    obtain ⟨O2, h1, h2, h3, h4, h5, h6, h7, h8⟩ := hi
    have HO := Lib.hid (And.intro h1 (And.intro h2 (And.intro h3 h4)))
    clear h1 h2 h3 h4
    have hcg : W'.cell? ⟨g, 0, none⟩ = some (.bool own) := by rw [cell_of_row _ _ _ _ _ _ h8]; rfl
    have H78 := Lib.hid (And.intro h7 h8)
    clear h7 h8
    simp only [World.size_alloc]
    by_cases h49 : k = 4 ∨ k = 9
    · have hz0 := path_no own h49
      have hcn : cntW (k + 1) = cntW k := by simp [cntW, h49]
      have HC := Lib.hid hcn
      clear h49 hcn
      gi_wp2_with (refine ⟨trivial, rfl, ?_⟩; gi_at_call 15; refine (CallsIn.inRound _ (callsIn_wide.2 (waits15 _ _ _))).mono ?_; rintro e w2 ⟨rfl, hb2⟩)
      refine ⟨fun _ h => (by cases h), ?_⟩
      gi_wp2
      refine ⟨Keeps.of_below hb2, ?_⟩
      show PathI J own l g W.heap.size (W.heap.size + 1) (cntW (k + 1)) O _
      rw [HC.out]
      exact keeps_pathI (J := J) (k := 0) HO.out.1 HO.out.2.1 HO.out.2.2.1 HO.out.2.2.2 h5 (by omega) hgl H78.out.1 H78.out.2 (Keeps.of_below hb2) (hJ _ O2 O2 _ _ h6 (Moves.of_below hb2) (fun _ h => h) (fun _ h => Or.inl h))
    · have hp := path_at own hk (fun e => h49 (Or.inl e)) (fun e => h49 (Or.inr e))
      have hne : (waitsI own ((k : Int) + 1) != 0) = true := by simpa using hp.2
      have hcn : cntW (k + 1) = cntW k + 1 := by simp [cntW, h49]
      have HC := Lib.hid hcn
      have HP := Lib.hid hp
      clear h49 hcn hp
      gi_wp2_with fail
      refine ⟨trivial, rfl, ?_⟩
      refine (CallsIn.inRound _ (callsIn_wide.2 (waits15 _ _ _))).mono ?_
      rintro e w2 ⟨rfl, hb2⟩
      have h7' := (hb2.block _ (by omega)).trans H78.out.1
      have h8' := (hb2.block _ (by omega)).trans H78.out.2
      have hc2 : w2.cell? ⟨W.heap.size, 0, none⟩ = some (.func (.yield l) #[] #[]) := by rw [cell_of_row _ _ _ _ _ _ h7']; rfl
      have H78' := Lib.hid (And.intro h7' h8')
      have hJ2 := hJ _ O2 O2 _ _ h6 (Moves.of_below hb2) (fun _ h => h) (fun _ h => Or.inl h)
      clear h7' h8'
      obtain ⟨fn, tmps, assign, body, hy, hR⟩ := hY (cntW k) _ O2 w2 HP.out.1 hJ2
      simp only [encP] at hy
      have hz2 := hb2.size
      gi_wp2
      refine ⟨rfl, hR.mono ?_⟩
      rintro e W3 (⟨rfl, hJ3, hk3⟩ | ⟨rfl, hJ3, hk3⟩)
      · gi_wp2
        have hkk : Keeps (fun i => O2 i ∨ i = g) W' W3 := (Keeps.of_below hb2).trans hk3
        refine ⟨hkk.mono (fun i hi => ?_), ?_⟩
        · rcases hi with h | h | h | h
          · exact Or.inl (HO.out.1 i h)
          · exact h.elim
          · exact Or.inl (HO.out.2.1 i (by omega) (by omega))
          · exact Or.inl (HO.out.2.1 i (by omega) (by omega))
        · show PathI J own l g W.heap.size (W.heap.size + 1) (cntW (k + 1)) O _
          rw [HC.out]
          exact keeps_pathI (J := J) (k := 0) HO.out.1 HO.out.2.1 HO.out.2.2.1 HO.out.2.2.2 h5 (by omega) hgl H78.out.1 H78.out.2 hkk hJ3
      · gi_wp2
        have hkk : Keeps (fun i => O2 i ∨ i = g) W' W3 := (Keeps.of_below hb2).trans hk3
        refine ⟨hkk.mono (fun i hi => ?_), ?_⟩
        · rcases hi with h | h | h | h
          · exact Or.inl (HO.out.1 i h)
          · exact h.elim
          · exact Or.inl (HO.out.2.1 i (by omega) (by omega))
          · exact Or.inl (HO.out.2.1 i (by omega) (by omega))
        · refine ⟨rfl, by omega, ?_⟩
          show PathI Jx own l g W.heap.size (W.heap.size + 1) (cntW (k + 1)) O _
          rw [HC.out]
          exact keeps_pathI (J := J) (k := 0) HO.out.1 HO.out.2.1 HO.out.2.2.1 HO.out.2.2.2 h5 (by omega) hgl H78.out.1 H78.out.2 hkk hJ3
  case done =>
    intro O W' hi hod hD
    simp only [World.size_alloc] at hD hod
    obtain ⟨O2, h1, h2, h3, h4, h5, h6, h7, h8⟩ := pathI_put J hJ own l g _ _ (by omega) hgl _ O W' (W.heap.size + 1) (by omega) (by omega) (.deferred none) hi
    clear h1 h3 h4 h7 h8 hi
    have H := Lib.hid h6
    clear h6 h2
    gi_wp2
    simp only [World.size_alloc]
    refine leaves_mark hD (results_none rfl _ _ _) ?_
    exact ⟨⟨_, rfl⟩, O2, .inl H.out⟩
  case stop =>
    rintro c k O W' hkx ⟨rfl, hk10, hi⟩ hod hD
    simp only [World.size_alloc] at hD hod
    obtain ⟨O2, h1, h2, h3, h4, h5, h6, h7, h8⟩ := pathI_put Jx hJx own l g _ _ (by omega) hgl _ O W' (W.heap.size + 1) (by omega) (by omega) (.deferred none) hi
    clear h1 h3 h4 h7 h8 hi
    have H := Lib.hid h6
    clear h6 h2
    gi_wp2
    simp only [World.size_alloc]
    refine leaves_mark hD (results_none rfl _ _ _) ?_
    exact ⟨⟨_, rfl⟩, O2, .inr ⟨_, by rw [hlen]; exact cntW_le hk10, H.out⟩⟩

end Go.Proofs.Ytpnfdffbbhedoaa
