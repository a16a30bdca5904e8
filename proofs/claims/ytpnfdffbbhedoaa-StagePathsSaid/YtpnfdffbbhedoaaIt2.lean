/-
  The path's law.
-/
import Derived.Test.YtpnfdffbbhedoaaIt1
import Derived.Test.YtpnfdffbbhedoaaExt
namespace Go.Proofs.Ytpnfdffbbhedoaa
open Go.RowKit Go.Shelf
attribute [local go_sem] Oper.semAt_some

abbrev wantC : Array Value := #[.int .i64 1, .int .i64 2, .int .i64 3, .int .i64 4, .int .i64 6, .int .i64 7, .int .i64 8, .int .i64 9]

theorem funcNil (b : Nat) (w : World) : (binOp .eql 48 (.func (.func 32) #[] #[.pointer (some ⟨b, 0, none⟩)]) .nilFunc).run Try.prog w = .ok (.bool false) w := by kernel_rfl

/-- Between two rounds of the inner loop: k have come. -/
def I6 (W : World) (t : Nat) (many : Int) (k : Nat) (O : Nat → Prop) (W' : World) : Prop :=
  Below W.heap.size W W' ∧ W'.heap[W.heap.size]? = some (.cells #[.int .i64 k] 3 (0, 0)) ∧ (∀ i, O i → W.heap.size + 3 ≤ i) ∧ W.heap.size + 3 ≤ W'.heap.size ∧ (t = 0 → k = 0 ∨ (k : Int) < many)
/-- A round has left. -/
def X6 (W : World) (t : Nat) (many : Int) (c : Code) (k : Nat) (O : Nat → Prop) (W' : World) : Prop :=
  Below W.heap.size W W' ∧ W'.heap[W.heap.size]? = some (.cells #[.int .i64 k] 3 (0, 0)) ∧ (∀ i, O i → W.heap.size + 3 ≤ i) ∧ W.heap.size + 3 ≤ W'.heap.size ∧ c = .exit 2 ∧ t = 0 ∧ 1 ≤ k ∧ k ≤ 8 ∧ many ≤ k ∧ (k = 1 ∨ (k : Int) - 1 < many)

theorem below_moves {W A B : World} {O : Nat → Prop} (h : Below W.heap.size W A) (hm : Moves O A B) (ho : ∀ i, O i → W.heap.size ≤ i) : Below W.heap.size W B :=
  ⟨hm.os.trans h.os, hm.tape.trans h.tape, hm.output.trans h.output, Nat.le_trans h.size hm.size, fun k hk => (hm.block k (Nat.lt_of_lt_of_le hk h.size) (fun e => by have := ho k e; omega)).trans (h.block k hk)⟩

theorem core6_moves {W A B : World} {O O' : Nat → Prop} {x : Obj} (h : Below W.heap.size W A ∧ A.heap[W.heap.size]? = some x ∧ (∀ i, O i → W.heap.size + 3 ≤ i) ∧ W.heap.size + 3 ≤ A.heap.size)
    (hm : Moves O A B) (ho : ∀ i, O' i → O i ∨ A.heap.size ≤ i) : Below W.heap.size W B ∧ B.heap[W.heap.size]? = some x ∧ (∀ i, O' i → W.heap.size + 3 ≤ i) ∧ W.heap.size + 3 ≤ B.heap.size :=
  ⟨below_moves h.1 hm (fun i e => by have := h.2.2.1 i e; omega), (hm.block _ (by have := h.2.2.2; omega) (fun e => by have := h.2.2.1 _ e; omega)).trans h.2.1,
    fun i hi => by rcases ho i hi with e | e; exact h.2.2.1 i e; have := h.2.2.2; omega, Nat.le_trans h.2.2.2 hm.size⟩

theorem I6_stable (W : World) (t : Nat) (many : Int) : Stable (I6 W t many) := by
  rintro k O O' A B ⟨h1, h2, h3, h4, h5⟩ hm _ ho
  obtain ⟨g1, g2, g3, g4⟩ := core6_moves ⟨h1, h2, h3, h4⟩ hm ho
  exact ⟨g1, g2, g3, g4, h5⟩
theorem X6_stable (W : World) (t : Nat) (many : Int) (c : Code) : Stable (X6 W t many c) := by
  rintro k O O' A B ⟨h1, h2, h3, h4, h5⟩ hm _ ho
  obtain ⟨g1, g2, g3, g4⟩ := core6_moves ⟨h1, h2, h3, h4⟩ hm ho
  exact ⟨g1, g2, g3, g4, h5⟩
theorem core6_put {W A : World} {O : Nat → Prop} {x : Obj} (d : Nat) (hd : W.heap.size < d) (o : Obj) (h : Below W.heap.size W A ∧ A.heap[W.heap.size]? = some x ∧ (∀ i, O i → W.heap.size + 3 ≤ i) ∧ W.heap.size + 3 ≤ A.heap.size) :
    Below W.heap.size W (A.putObj d o) ∧ (A.putObj d o).heap[W.heap.size]? = some x ∧ (∀ i, O i → W.heap.size + 3 ≤ i) ∧ W.heap.size + 3 ≤ (A.putObj d o).heap.size :=
  ⟨below_moves h.1 (moves_putObj (l := d) o) (fun i e => by omega), (World.putObj_heap_other (by omega)).trans h.2.1, h.2.2.1, by simpa using h.2.2.2⟩

theorem path_want (own : Bool) {k : Nat} {x1 x2 : Int} (h : (pathL own)[k]? = some (x1, x2)) : k < 8 ∧ wantC[k]? = some (.int .i64 x1) ∧ x2 = waitsI own x1 := by
  have hk : k < 8 := (List.getElem?_eq_some_iff.1 h).1
  have hk8 : k = 0 ∨ k = 1 ∨ k = 2 ∨ k = 3 ∨ k = 4 ∨ k = 5 ∨ k = 6 ∨ k = 7 := by omega
  rcases hk8 with rfl | rfl | rfl | rfl | rfl | rfl | rfl | rfl <;> simp [pathL] at h <;> obtain ⟨rfl, rfl⟩ := h <;> exact ⟨by decide, rfl, rfl⟩

/-- At the head of a round of the outer loop: m rounds are left. -/
def S6 (w : World) (own : Bool) (many : Int) (m : Nat) (a : Act) (W : World) : Prop :=
  ∃ (t bt : Nat) (ds : List Nat) (u8 u9 u10 u11 u12 u13 u14 u15 u16 u17 u18 u19 u20 u21 u22 u23 u24 u25 u26 u27 u28 u29 u30 u31 u32 u33 u34 u35 u36 u37 u38 u39 u40 u41 u42 u43 u44 u45 u46 u47 u48 u49 u50 u51 u52 u53 u54 u55 u56 u57 u58 u59 u60 u61 u62 u63 u64 u65 u66 u67 u68 : Value), m + t = 3 ∧ m ≠ 0 ∧
    a = { tmps := #[.bool own, .int .i64 many, .pointer (some ⟨w.heap.size, 0, none⟩), .pointer (some ⟨w.heap.size + 1, 0, none⟩), .pointer (some ⟨w.heap.size + 2, 0, none⟩), .func (.func 32) #[] #[.pointer (some ⟨w.heap.size + 3, 0, none⟩)], .pointer (some ⟨w.heap.size + 4, 0, none⟩), .pointer (some ⟨bt, 0, none⟩), u8, u9, u10, u11, u12, u13, u14, u15, u16, u17, u18, u19, u20, u21, u22, u23, u24, u25, u26, u27, u28, u29, u30, u31, u32, u33, u34, u35, u36, u37, u38, u39, u40, u41, u42, u43, u44, u45, u46, u47, u48, u49, u50, u51, u52, u53, u54, u55, u56, u57, u58, u59, u60, u61, u62, u63, u64, u65, u66, u67, u68], defers := ds.map fun D => { target := .collected D, args := #[] } } ∧
    Below w.heap.size w W ∧ W.heap[w.heap.size]? = some (.cells #[.bool own] 4 (0, 0)) ∧ W.heap[w.heap.size + 1]? = some (.cells #[.int .i64 many] 3 (0, 0)) ∧
    (∃ r, W.heap[w.heap.size + 2]? = some (.cells #[.bool r] 4 (0, 0))) ∧ W.heap[w.heap.size + 3]? = some (.cells #[.bool own] 4 (0, 0)) ∧
    W.heap[w.heap.size + 4]? = some (.cells wantC 50 (0, 0)) ∧ W.heap[bt]? = some (.cells #[.int .i64 t] 3 (0, 0)) ∧ w.heap.size + 4 < bt ∧
    ds.Nodup ∧ (∀ D ∈ ds, W.heap[D]? = some (.deferred (some []))) ∧ (∀ D ∈ ds, w.heap.size ≤ D)

theorem s6_tail {w W W2 : World} {own : Bool} {many : Int} {r : Bool} {ds : List Nat} (t' : Nat) (hb : Below w.heap.size w W)
    (hh : W.heap[w.heap.size]? = some (.cells #[.bool own] 4 (0, 0)) ∧ W.heap[w.heap.size + 1]? = some (.cells #[.int .i64 many] 3 (0, 0)) ∧ W.heap[w.heap.size + 2]? = some (.cells #[.bool r] 4 (0, 0)) ∧
      W.heap[w.heap.size + 3]? = some (.cells #[.bool own] 4 (0, 0)) ∧ W.heap[w.heap.size + 4]? = some (.cells wantC 50 (0, 0)))
    (hnd : ds.Nodup) (hds : ∀ D ∈ ds, W.heap[D]? = some (.deferred (some []))) (hdw : ∀ D ∈ ds, w.heap.size ≤ D)
    (hB2 : Below W.heap.size W W2) (hD : W2.heap[W.heap.size + 1]? = some (.deferred (some []))) (X : Obj) (hX : X = .cells #[.int .i64 t'] 3 (0, 0)) :
    Below w.heap.size w (W2.alloc X) ∧ (W2.alloc X).heap[w.heap.size]? = some (.cells #[.bool own] 4 (0, 0)) ∧ (W2.alloc X).heap[w.heap.size + 1]? = some (.cells #[.int .i64 many] 3 (0, 0)) ∧
    (∃ r, (W2.alloc X).heap[w.heap.size + 2]? = some (.cells #[.bool r] 4 (0, 0))) ∧ (W2.alloc X).heap[w.heap.size + 3]? = some (.cells #[.bool own] 4 (0, 0)) ∧
    (W2.alloc X).heap[w.heap.size + 4]? = some (.cells wantC 50 (0, 0)) ∧ (W2.alloc X).heap[W2.heap.size]? = some (.cells #[.int .i64 t'] 3 (0, 0)) ∧ w.heap.size + 4 < W2.heap.size ∧
    ((W.heap.size + 1) :: ds).Nodup ∧ (∀ D ∈ (W.heap.size + 1) :: ds, (W2.alloc X).heap[D]? = some (.deferred (some []))) ∧ (∀ D ∈ (W.heap.size + 1) :: ds, w.heap.size ≤ D) := by
  obtain ⟨h0, h1, h2, h3, h4⟩ := hh
  have l4 : w.heap.size + 4 < W.heap.size := (Array.getElem?_eq_some_iff.1 h4).1
  have z2 := hB2.size
  have zz := hb.size
  have lD : W.heap.size + 1 < W2.heap.size := (Array.getElem?_eq_some_iff.1 hD).1
  have go : ∀ k o, k < W.heap.size → W.heap[k]? = some o → (W2.alloc X).heap[k]? = some o := fun k o hk h => heap_past (by omega) ((hB2.block k hk).trans h)
  refine ⟨(hb.trans (hB2.mono zz)).alloc (by omega) _, go _ _ (by omega) h0, go _ _ (by omega) h1, ⟨r, go _ _ (by omega) h2⟩, go _ _ (by omega) h3, go _ _ (by omega) h4, by rw [hX]; exact heap_at _ rfl, by omega, ?_, ?_, ?_⟩
  · refine List.nodup_cons.2 ⟨fun h => ?_, hnd⟩
    have := (Array.getElem?_eq_some_iff.1 (hds _ h)).1
    omega
  · intro D hD'
    rcases List.mem_cons.1 hD' with rfl | h
    · exact heap_past lD hD
    · exact go _ _ (Array.getElem?_eq_some_iff.1 (hds _ h)).1 (hds _ h)
  · intro D hD'
    rcases List.mem_cons.1 hD' with rfl | h
    · omega
    · exact hdw _ h

set_option maxRecDepth 100000 in
set_option maxHeartbeats 4000000 in
theorem paths6 (own : Bool) (many : Int) (w : World) (hm1 : -9223372036854775808 ≤ many) (hm2 : many ≤ 9223372036854775807) :
    Calls Try.prog 6 #[.bool own, .int .i64 many] w fun e w' => e = .returned (.bool true) ∧ Below w.heap.size w w' := by
  refine (callsIn_wide (n := 0)).1 ?_
  refine callsIn_of_wp_marks Try.func6 rfl trivial ?_ rfl
  simp only [Try.ntmps6, List.size_toArray, List.length_cons, List.length_nil, Nat.reduceAdd, Nat.reduceSub, Array.replicate_succ, Array.replicate_zero, List.push_toArray, List.append_toArray, List.nil_append, List.cons_append]
  gi_wp2_with (refine ⟨trivial, rfl, ?_⟩; gi_at_call 22; refine (callsIn_wide.2 (path22 _ _)).mono ?_; rintro e w' ⟨rfl, rfl⟩)
  refine wpIn_loop_rounds 3 (roundsIn_by (S6 w own many) (fun a w h => ?hz) ?hs 3 _ _ ?hstart)
  case hz =>
    obtain ⟨_, _, _, _, _, _, _, _, _, _, _, _, _, _, _, _, _, _, _, _, _, _, _, _, _, _, _, _, _, _, _, _, _, _, _, _, _, _, _, _, _, _, _, _, _, _, _, _, _, _, _, _, _, _, _, _, _, _, _, _, _, _, _, _, _, h, _⟩ := h
    exact h rfl
  case hstart =>
    refine ⟨0, w.heap.size + 5, [], _, _, _, _, _, _, _, _, _, _, _, _, _, _, _, _, _, _, _, _, _, _, _, _, _, _, _, _, _, _, _, _, _, _, _, _, _, _, _, _, _, _, _, _, _, _, _, _, _, _, _, _, _, _, _, _, _, _, _, _, _, rfl, by decide, rfl, by go_grown, ?_, ?_, ⟨false, ?_⟩, ?_, ?_, ?_, by omega, List.nodup_nil, by simp, by simp⟩
    all_goals repeat (first | (refine heap_at _ ?_; focus (simp only [World.size_alloc]; done)) | (refine heap_past ?_ ?_; focus (simp only [World.size_alloc]; omega)))
  case hs =>
    rintro m a W ⟨t, bt, ds, u8, u9, u10, u11, u12, u13, u14, u15, u16, u17, u18, u19, u20, u21, u22, u23, u24, u25, u26, u27, u28, u29, u30, u31, u32, u33, u34, u35, u36, u37, u38, u39, u40, u41, u42, u43, u44, u45, u46, u47, u48, u49, u50, u51, u52, u53, u54, u55, u56, u57, u58, u59, u60, u61, u62, u63, u64, u65, u66, u67, u68, hmt, hm0, rfl, hb, h0, h1, ⟨r, h2⟩, h3, h4, h5, hbt, hnd, hds, hdw⟩
    have hdb : ∀ D ∈ ds, D ≠ w.heap.size + 2 := fun D hD e => by
      have := hds D hD
      rw [e, h2] at this
      cases this
    have HD := Lib.hid (And.intro hnd (And.intro hds hdb))
    have HW := Lib.hid hdw
    clear hnd hds hdb hdw
    have hB : w.heap.size + 4 < W.heap.size := (Array.getElem?_eq_some_iff.1 h4).1
    have hbtW : bt < W.heap.size := (Array.getElem?_eq_some_iff.1 h5).1
    have c7 : W.cell? ⟨bt, 0, none⟩ = some (.int .i64 t) := by rw [cell_of_row _ _ _ _ _ _ h5]; rfl
    have HH := Lib.hid (And.intro h0 (And.intro h1 (And.intro h2 (And.intro h3 (And.intro h4 h5)))))
    clear h0 h1 h2 h3 h4 h5
    by_cases ht2 : t = 2
    · obtain rfl := ht2
      obtain rfl : m = 0 := by omega
      gi_wp2_with fail
      refine ⟨trivial, rfl, ?_⟩
      refine (callsIn_wide.2 (works8 _)).mono ?_
      rintro e w1 ⟨rfl, hb1⟩
      have h2' := (hb1.block _ (by omega)).trans HH.out.2.2.1
      have c2 : w1.cell? ⟨w.heap.size + 2, 0, none⟩ = some (.bool r) := by rw [cell_of_row _ _ _ _ _ _ h2']; rfl
      have f2 : w1.frozen? ⟨w.heap.size + 2, 0, none⟩ = false := frozen_of_row _ _ _ _ _ h2'
      have H2 := Lib.hid h2'
      clear h2'
      gi_wp2
      refine leaves_marks ds _ HD.out.1 (fun D hD => ?_) (fun w' hm => ?_)
      · have hl := (Array.getElem?_eq_some_iff.1 (HD.out.2.1 D hD)).1
        rw [heap_setCell_other _ _ _ _ (HD.out.2.2 D hD), hb1.block D hl]
        exact HD.out.2.1 D hD
      · have hk : w'.heap[w.heap.size + 2]? = some (.cells #[.bool true] 4 (0, 0)) := by
          rw [hm.block _ (by simp [World.setCell]; have := hb1.size; omega) (fun hd => HD.out.2.2 _ hd rfl), heap_setCell_same _ _ _ _ _ _ H2.out]; rfl
        refine ⟨.bool true, ?_, rfl, ?_⟩
        · have ck : w'.cell? ⟨w.heap.size + 2, 0, none⟩ = some (.bool true) := by rw [cell_of_row _ _ _ _ _ _ hk]; rfl
          simp [results, Try.results6, go_sem, ck]
        · refine ⟨hm.os.trans (hb1.os.trans hb.os), hm.tape.trans (hb1.tape.trans hb.tape), hm.output.trans (hb1.output.trans hb.output), ?_, fun k hk' => ?_⟩
          · have z1 := hm.size
            have z2 := hb1.size
            have z3 := hb.size
            simp only [World.size_setCell] at z1
            omega
          · have z2 := hb1.size
            rw [hm.block k (by simp only [World.size_setCell]; omega) (fun hd => ?_), heap_setCell_other _ _ _ _ (by show k ≠ w.heap.size + 2; omega), hb1.block k (by omega), hb.block k hk']
            have := HW.out k hd
            omega
    · have hlen : (pathL own).length = 8 := rfl
      have ht01 : t = 0 ∨ t = 1 := by omega
      have hlt2 : ((t : Int) < 2) := by omega
      have hfn := funcNil
      gi_wp2_with fail
      clear hfn
      have HT := Lib.hid ht01
      clear ht01
      refine wpIn_rangeIter (gf := 32) (lb := #[.pointer (some ⟨w.heap.size + 3, 0, none⟩)]) (encs := encP) (xs := pathL own) (R := fun i => i = w.heap.size + 3) (w0 := W) rfl (enters_of Try.func32 (by kernel_rfl) rfl) (path32 own _ W HH.out.2.2.2.1)
        (fun i h => by subst h; simp only [World.size_alloc]; omega) ((Below.refl _ _).alloc (Nat.le_refl _) _) (fun _ => rfl) (I6 W t many) (X6 W t many) (I6_stable W t many) (X6_stable W t many) ?hIb ?hIxb ?h0
        (fun x a' _ => a' = { tmps := #[.bool own, .int .i64 many, .pointer (some ⟨w.heap.size, 0, none⟩), .pointer (some ⟨w.heap.size + 1, 0, none⟩), .pointer (some ⟨w.heap.size + 2, 0, none⟩), .func (.func 32) #[] #[.pointer (some ⟨w.heap.size + 3, 0, none⟩)], .pointer (some ⟨w.heap.size + 4, 0, none⟩), .pointer (some ⟨bt, 0, none⟩), .pointer (some ⟨W.heap.size, 0, none⟩), .int .i64 x.1, .int .i64 x.2, u11, u12, u13, .int .i64 t, .bool true, u16, u17, .func (.func 32) #[] #[.pointer (some ⟨w.heap.size + 3, 0, none⟩)], .bool false, .func (.func 32) #[] #[.pointer (some ⟨w.heap.size + 3, 0, none⟩)], .int .i64 x.1, .int .i64 x.2, u23, u24, u25, u26, u27, u28, u29, u30, u31, u32, u33, u34, u35, u36, u37, u38, u39, u40, u41, u42, u43, u44, u45, u46, u47, u48, u49, u50, u51, u52, u53, u54, u55, u56, u57, u58, u59, u60, u61, u62, u63, u64, u65, u66, u67, u68], defers := [] }) (fun _ _ _ _ _ _ _ h => h) ?assign ?body ?done ?stop
      case hIb =>
        rintro k O r' o W' _ ⟨h1, h2, h3, h4, h5⟩
        obtain ⟨g1, g2, g3, g4⟩ := core6_put (W := W) ((W.alloc (.cells #[.int .i64 0] 3)).heap.size + 1) (by simp only [World.size_alloc]; omega) o ⟨h1, h2, h3, h4⟩
        exact ⟨g1, g2, g3, g4, h5⟩
      case hIxb =>
        rintro c k O r' o W' _ ⟨h1, h2, h3, h4, h5⟩
        obtain ⟨g1, g2, g3, g4⟩ := core6_put (W := W) ((W.alloc (.cells #[.int .i64 0] 3)).heap.size + 1) (by simp only [World.size_alloc]; omega) o ⟨h1, h2, h3, h4⟩
        exact ⟨g1, g2, g3, g4, h5⟩
      case h0 =>
        intro W' hb' hs
        simp only [World.size_alloc] at hb' hs
        refine ⟨((Below.refl _ _).alloc (Nat.le_refl _) _).trans (hb'.mono (by omega)), ?_, fun i h => h.elim, by omega, fun _ => Or.inl rfl⟩
        rw [hb'.block _ (by omega)]; exact heap_alloc_last _ _
      case assign =>
        rintro k ⟨x1, x2⟩ O W' hx hi _ _ _
        simp only [encP]
        gi_wp2
        exact ⟨hi, Keeps.refl _ _, trivial⟩
      case body =>
        rintro k ⟨x1, x2⟩ O a' W' hx hl hd hol hod hi rfl
        dsimp only
        obtain ⟨hk8, hw1, rfl⟩ := path_want own hx
        clear hx hl hd
        simp only [World.size_alloc] at hol hod
        obtain ⟨j1, j2, j3, j4, j5⟩ := hi
        have k0 : W'.cell? ⟨w.heap.size, 0, none⟩ = some (.bool own) := by rw [cell_of_row _ _ _ _ _ _ ((j1.block _ (by omega)).trans HH.out.1)]; rfl
        have k1 : W'.cell? ⟨w.heap.size + 1, 0, none⟩ = some (.int .i64 many) := by rw [cell_of_row _ _ _ _ _ _ ((j1.block _ (by omega)).trans HH.out.2.1)]; rfl
        have k4 : W'.cell? ⟨w.heap.size + 4, k, none⟩ = some (.int .i64 x1) := by rw [cell_of_row _ _ _ _ _ _ ((j1.block _ (by omega)).trans HH.out.2.2.2.2.1)]; exact hw1
        have k5 : W'.cell? ⟨bt, 0, none⟩ = some (.int .i64 t) := by rw [cell_of_row _ _ _ _ _ _ ((j1.block _ (by omega)).trans HH.out.2.2.2.2.2)]; rfl
        have kn : W'.cell? ⟨W.heap.size, 0, none⟩ = some (.int .i64 k) := by rw [cell_of_row _ _ _ _ _ _ j2]; rfl
        have HJ := Lib.hid (And.intro j2 (And.intro j3 j5))
        clear j2 j3 j5 hw1
        have g8 : decide ((8 : Int) ≤ (k : Int)) = false := by simp; omega
        have mix : Try.prog.follows .mixedOrders = true := by kernel_rfl
        gi_wp2_with fail
        have hjs := j1.size
        have q0 : ∀ x : Ext W'.heap.size W', x.world.cell? ⟨w.heap.size, 0, none⟩ = some (.bool own) := fun x => x.cell (by show w.heap.size < _; omega) k0
        have q4 : ∀ x : Ext W'.heap.size W', x.world.cell? ⟨w.heap.size + 4, k, none⟩ = some (.int .i64 x1) := fun x => x.cell (by show w.heap.size + 4 < _; omega) k4
        have qn : ∀ x : Ext W'.heap.size W', x.world.cell? ⟨W.heap.size, 0, none⟩ = some (.int .i64 k) := fun x => x.cell (by show W.heap.size < _; omega) kn
        refine wpIn_region_ext mix (by kernel_rfl) (by kernel_rfl) ?_
        repeat (first | go_big_quiet_step ((go_at_call 16; exact ext_call _ (Nat.le_refl _) (refWaits16 _ _ _))) | quiet_step ((go_at_call 16; exact ext_call _ (Nat.le_refl _) (refWaits16 _ _ _))))
        refine wpQuiet_nil ?_
        rintro ⟨w2, hbd⟩
        dsimp only
        clear q0 q4 qn mix g8 k0 k4 hjs
        have hz2 := hbd.size
        have hBz := hb.size
        have l7 : w2.cell? ⟨bt, 0, none⟩ = some (.int .i64 t) := (hbd.cell (p := ⟨bt, 0, none⟩) (by show bt < _; have := j1.size; omega)).trans k5
        have l3 : w2.cell? ⟨w.heap.size + 1, 0, none⟩ = some (.int .i64 many) := (hbd.cell (p := ⟨w.heap.size + 1, 0, none⟩) (by show w.heap.size + 1 < _; have := j1.size; omega)).trans k1
        have e8 := (hbd.block _ (by omega)).trans HJ.out.1
        have l8 : w2.cell? ⟨W.heap.size, 0, none⟩ = some (.int .i64 k) := by rw [cell_of_row _ _ _ _ _ _ e8]; rfl
        have f8 : w2.frozen? ⟨W.heap.size, 0, none⟩ = false := frozen_of_row _ _ _ _ _ e8
        have E8 := Lib.hid e8
        clear e8 k1 k5 kn
        have ne1 : bt ≠ W.heap.size := by omega
        have ne2 : w.heap.size + 1 ≠ W.heap.size := by omega
        have HB := Lib.hid hbd
        clear hbd
        have core : Below W.heap.size W (w2.setCell ⟨W.heap.size, 0, none⟩ (.int .i64 ((k : Int) + 1))) ∧ (w2.setCell ⟨W.heap.size, 0, none⟩ (.int .i64 ((k : Int) + 1))).heap[W.heap.size]? = some (.cells #[.int .i64 ((k + 1 : Nat) : Int)] 3 (0, 0)) := by
          refine ⟨(j1.trans (HB.out.mono (by omega))).setCell (p := ⟨W.heap.size, 0, none⟩) (Nat.le_refl _) _, ?_⟩
          rw [heap_setCell_same _ _ _ _ _ _ E8.out]
          simp
        have hkeep : Keeps (fun i => O i ∨ i = w.heap.size + 3 ∨ i = W.heap.size + 1 + 1 ∨ i = W.heap.size + 1) W' (w2.setCell ⟨W.heap.size, 0, none⟩ (.int .i64 ((k : Int) + 1))) := by
          refine ⟨by simp only [World.size_setCell]; omega, fun i hi hl => ?_⟩
          rw [heap_setCell_other _ _ _ _ (by show i ≠ W.heap.size; rcases hi with h | h | h | h; have := HJ.out.2.1 i h; omega; all_goals omega), HB.out.block i hl]
        have HC := Lib.hid (And.intro core hkeep)
        clear core hkeep
        rcases HT.out with rfl | rfl
        · by_cases hmk : many ≤ (k : Int) + 1
          · gi_wp2
            exact ⟨HC.out.2, HC.out.1.1, HC.out.1.2, HJ.out.2.1, by simp only [World.size_setCell]; omega, rfl, rfl, by omega, by omega, by omega, by have := HJ.out.2.2 (by trivial); omega⟩
          · gi_wp2
            exact ⟨HC.out.2, HC.out.1.1, HC.out.1.2, HJ.out.2.1, by simp only [World.size_setCell]; omega, fun _ => Or.inr (by omega)⟩
        · gi_wp2
          exact ⟨HC.out.2, HC.out.1.1, HC.out.1.2, HJ.out.2.1, by simp only [World.size_setCell]; omega, fun h => by cases h⟩
      case done =>
        rintro O W2 ⟨hB2, hn, _, _, h5⟩ _ hD
        simp only [World.size_alloc] at hD
        rw [hlen] at hn h5
        have hz2 := hB2.size
        have c7 : W2.cell? ⟨bt, 0, none⟩ = some (.int .i64 t) := (hB2.cell (p := ⟨bt, 0, none⟩) hbtW).trans c7
        have c1 : W2.cell? ⟨w.heap.size + 1, 0, none⟩ = some (.int .i64 many) := by rw [hB2.cell (p := ⟨w.heap.size + 1, 0, none⟩) (by show w.heap.size + 1 < _; omega), cell_of_row _ _ _ _ _ _ HH.out.2.1]; rfl
        have c8 : W2.cell? ⟨W.heap.size, 0, none⟩ = some (.int .i64 8) := by rw [cell_of_row _ _ _ _ _ _ hn]; rfl
        have HDD := Lib.hid hD
        have HB2 := Lib.hid hB2
        clear hn hD hB2

        rcases HT.out with rfl | rfl
        · have h8 : 8 < many := by
            rcases h5 rfl with h | h
            · cases h
            · simpa using h
          clear h5
          gi_wp2
          exact ⟨1, W2.heap.size, (W.heap.size + 1) :: ds, _, _, _, _, _, _, _, _, _, _, _, _, _, _, _, _, _, _, _, _, _, _, _, _, _, _, _, _, _, _, _, _, _, _, _, _, _, _, _, _, _, _, _, _, _, _, _, _, _, _, _, _, _, _, _, _, _, _, _, _, _, by omega, by omega, rfl, s6_tail 1 hb ⟨HH.out.1, HH.out.2.1, HH.out.2.2.1, HH.out.2.2.2.1, HH.out.2.2.2.2.1⟩ HD.out.1 HD.out.2.1 HW.out HB2.out HDD.out _ rfl⟩

        · clear h5
          gi_wp2
          exact ⟨2, W2.heap.size, (W.heap.size + 1) :: ds, _, _, _, _, _, _, _, _, _, _, _, _, _, _, _, _, _, _, _, _, _, _, _, _, _, _, _, _, _, _, _, _, _, _, _, _, _, _, _, _, _, _, _, _, _, _, _, _, _, _, _, _, _, _, _, _, _, _, _, _, _, by omega, by omega, rfl, s6_tail 2 hb ⟨HH.out.1, HH.out.2.1, HH.out.2.2.1, HH.out.2.2.2.1, HH.out.2.2.2.2.1⟩ HD.out.1 HD.out.2.1 HW.out HB2.out HDD.out _ rfl⟩

      case stop =>
        rintro c k O W2 _ ⟨hB2, hn, _, _, rfl, rfl, hk1, hk8, hmk, hkm⟩ _ hD
        simp only [World.size_alloc] at hD
        have hz2 := hB2.size
        have c7 : W2.cell? ⟨bt, 0, none⟩ = some (.int .i64 ((0 : Nat) : Int)) := (hB2.cell (p := ⟨bt, 0, none⟩) hbtW).trans c7
        have c1 : W2.cell? ⟨w.heap.size + 1, 0, none⟩ = some (.int .i64 many) := by rw [hB2.cell (p := ⟨w.heap.size + 1, 0, none⟩) (by show w.heap.size + 1 < _; omega), cell_of_row _ _ _ _ _ _ HH.out.2.1]; rfl
        have c8 : W2.cell? ⟨W.heap.size, 0, none⟩ = some (.int .i64 k) := by rw [cell_of_row _ _ _ _ _ _ hn]; rfl
        have HDD := Lib.hid hD
        have HB2 := Lib.hid hB2
        clear hn hD hB2

        gi_wp2
        all_goals exact ⟨1, W2.heap.size, (W.heap.size + 1) :: ds, _, _, _, _, _, _, _, _, _, _, _, _, _, _, _, _, _, _, _, _, _, _, _, _, _, _, _, _, _, _, _, _, _, _, _, _, _, _, _, _, _, _, _, _, _, _, _, _, _, _, _, _, _, _, _, _, _, _, _, _, _, by omega, by omega, rfl, s6_tail 1 hb ⟨HH.out.1, HH.out.2.1, HH.out.2.2.1, HH.out.2.2.2.1, HH.out.2.2.2.2.1⟩ HD.out.1 HD.out.2.1 HW.out HB2.out HDD.out _ rfl⟩


end Go.Proofs.Ytpnfdffbbhedoaa
