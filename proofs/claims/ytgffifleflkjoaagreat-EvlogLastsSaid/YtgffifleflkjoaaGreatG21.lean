/-
  evlog: what a tape without bytes tells.
  A range over a function, whose values are told by what they lay in memory.
  evlog: the tapes, one after another.
-/
import Derived.Test.YtgffifleflkjoaaGreatG01
import Derived.Test.YtgffifleflkjoaaGreatG06
import Derived.Test.YtgffifleflkjoaaGreatG20
import Derived.Laws.EntriesVeiled
import Derived.OwnWalk

namespace Go.Proofs.YtgffifleflkjoaaGreat
open Go.RowKit Dm

set_option maxRecDepth 100000 in
theorem split_nil (w : World) (v : Value) (F : Nat → Prop) (h : BytesAt w.heap F v []) :
    Calls Tryz.prog 108 #[v] w fun e w' => e = .returned (.tuple #[.slice none 0 0, .int .i64 0, .int .i64 0]) ∧ w = w' := by
  have FC := Lib.hid (first_nil w v F h)
  go_enter Tryz.func108, Tryz.ntmps108
  go_wp2_with (go_at_call 144; refine FC.out.mono ?_; rintro e w1 ⟨rfl, rfl⟩)
  go_ret3
  exact ⟨rfl, rfl⟩

set_option maxRecDepth 100000 in
theorem next_nil {w : World} {g1 g2 : Nat} {v : Value} {F : Nat → Prop} (h : BytesAt w.heap F v []) (c1 : w.cell? ⟨g1, 0, none⟩ = some v) (c2 : w.cell? ⟨g2, 0, none⟩ = some (.int .i64 0)) :
    Calls Tryz.prog 107 #[.pointer (some ⟨g1, 0, none⟩), .pointer (some ⟨g2, 0, none⟩)] w fun e w' => e = .panicked gaveUp ∧ w = w' := by
  have SC := Lib.hid (split_nil w v F h)
  rcases h with ⟨rfl, _⟩ | ⟨b, o, cap, cs, t, fr, rfl, h1, h2, h3⟩
  · go_enter Tryz.func107, Tryz.ntmps107
    go_wp2_with (first
      | (go_at_call 108; refine SC.out.mono ?_; rintro e w1 ⟨rfl, rfl⟩)
      | (go_at_call 109; refine (must_no w).mono ?_; rintro e w1 ⟨rfl, rfl⟩))
    exact ⟨rfl, rfl, rfl⟩
  · simp only [List.length_nil] at SC c1
    go_enter Tryz.func107, Tryz.ntmps107
    go_wp2_with (first
      | (go_at_call 108; refine SC.out.mono ?_; rintro e w1 ⟨rfl, rfl⟩)
      | (go_at_call 109; refine (must_no w).mono ?_; rintro e w1 ⟨rfl, rfl⟩))
    exact ⟨rfl, rfl, rfl⟩

set_option maxRecDepth 100000 in
theorem begins_nil {w : World} {g1 g2 : Nat} {v q : Value} {F : Nat → Prop} (h : BytesAt w.heap F v []) (c1 : w.cell? ⟨g1, 0, none⟩ = some v) (c2 : w.cell? ⟨g2, 0, none⟩ = some (.int .i64 0)) :
    Calls Tryz.prog 112 #[q, .func (.func 107) #[] #[.pointer (some ⟨g1, 0, none⟩), .pointer (some ⟨g2, 0, none⟩)]] w fun e w' => e = .panicked gaveUp ∧ w = w' := by
  have NC := Lib.hid (next_nil h c1 c2)
  have eg := enters_of Tryz.func107 (by kernel_rfl) rfl
  go_enter Tryz.func112, Tryz.ntmps112
  go_wp2_with (refine NC.out.mono ?_; rintro e w1 ⟨rfl, rfl⟩)
  exact ⟨rfl, rfl, rfl⟩

set_option maxRecDepth 100000 in
theorem beginsIn_nil {w : World} {g1 g2 g3 : Nat} {v q : Value} {F : Nat → Prop} (h : BytesAt w.heap F v []) (c1 : w.cell? ⟨g1, 0, none⟩ = some v) (c2 : w.cell? ⟨g2, 0, none⟩ = some (.int .i64 0))
    (c3 : w.cell? ⟨g3, 0, none⟩ = some (.func (.func 107) #[] #[.pointer (some ⟨g1, 0, none⟩), .pointer (some ⟨g2, 0, none⟩)])) :
    Calls Tryz.prog 111 #[q, .pointer (some ⟨g3, 0, none⟩)] w fun e w' => e = .panicked gaveUp ∧ w = w' := by
  have BC := Lib.hid (begins_nil (q := q) h c1 c2)
  go_enter Tryz.func111, Tryz.ntmps111
  go_wp2_with (go_at_call 112; refine BC.out.mono ?_; rintro e w1 ⟨rfl, rfl⟩)
  exact ⟨rfl, rfl, rfl⟩

abbrev tInt : Nat := 3
abbrev tNext : Nat := 176

/-- What a tape tells that is not whole. -/
abbrev tapeNone (at' : Int) : Value := .agg #[.int .i64 at', .int .i64 0, .map none, .int .i64 0, .int .i64 0]

set_option maxRecDepth 100000 in
set_option maxHeartbeats 2000000 in
theorem read_nil {w : World} {v : Value} {at' : Int} {F : Nat → Prop} (h : BytesAt w.heap F v []) :
    Calls Tryz.prog 69 #[.int .i64 at', v] w fun e w' => e = .returned (tapeNone at') ∧ Below w.heap.size w w' := by
  obtain ⟨va, vc, rfl⟩ := h.slice
  have hmf : ∀ (fn : Fn) (first cap : Array Value) (w : World), (Instr.makeFunc fn first cap).run Tryz.prog w = .ok (.func fn first cap) w := fun _ _ _ _ => rfl
  have H := Lib.hid h
  clear h
  go_enter Tryz.func69, Tryz.ntmps69
  go_upto_region 4 with fail
  obtain ⟨W, hW⟩ : ∃ W, ((((w.alloc (.cells #[.slice va 0 vc] tBytes)).alloc (.cells #[.int .i64 0, .int .i64 0, .map none, .int .i64 0, .int .i64 0] tTape)).alloc (.cells #[.int .i64 at', .int .i64 0, .map none, .int .i64 0, .int .i64 0] tTape)).alloc (.cells #[.int .i64 0] tInt)).alloc
      (.cells #[.func (.func 107) #[] #[.pointer (some ⟨w.heap.size, 0, none⟩), .pointer (some ⟨w.heap.size + 1 + 1 + 1, 0, none⟩)]] tNext) = W := ⟨_, rfl⟩
  rw [hW]
  have B : Below w.heap.size w W := by rw [← hW]; exact (((((Below.refl _ _).alloc (Nat.le_refl _) _).alloc (by simp) _).alloc (by simp; omega) _).alloc (by simp; omega) _).alloc (by simp; omega) _
  have s : W.heap.size = w.heap.size + 5 := by rw [← hW]; simp
  have r0 : W.heap[w.heap.size]? = some (.cells #[.slice va 0 vc] tBytes (0, 0)) := by rw [← hW]; exact heap_past (by simp; omega) (heap_past (by simp; omega) (heap_past (by simp; omega) (heap_past (by simp) (heap_alloc_last w _))))
  have r1 : W.heap[w.heap.size + 1]? = some (.cells #[.int .i64 0, .int .i64 0, .map none, .int .i64 0, .int .i64 0] tTape (0, 0)) := by rw [← hW]; exact heap_past (by simp <;> omega) (heap_past (by simp <;> omega) (heap_past (by simp <;> omega) (heap_at (w := w.alloc _) _ (by simp))))
  have r3 : W.heap[w.heap.size + 1 + 1 + 1]? = some (.cells #[.int .i64 0] tInt (0, 0)) := by rw [← hW]; exact heap_past (by simp) (heap_at (w := (((w.alloc _).alloc _).alloc _)) _ (by simp))
  have r4 : W.heap[w.heap.size + 1 + 1 + 1 + 1]? = some (.cells #[.func (.func 107) #[] #[.pointer (some ⟨w.heap.size, 0, none⟩), .pointer (some ⟨w.heap.size + 1 + 1 + 1, 0, none⟩)]] tNext (0, 0)) := by rw [← hW]; exact heap_at (w := ((((w.alloc _).alloc _).alloc _).alloc _)) _ (by simp)
  have y : BytesAt W.heap F (.slice va 0 vc) [] := H.out.keeps (fun k _ hl => B.block k hl) (fun k hk _ => hk)
  have eg := enters_of Tryz.func111 (by kernel_rfl) rfl
  have B2 : Below W.heap.size W (W.alloc (.cells #[.bool false] tBool)) := (Below.refl _ _).alloc (Nat.le_refl _) _
  have BC := beginsIn_nil (w := W.alloc (.cells #[.bool false] tBool)) (q := .pointer (some ⟨w.heap.size + 1 + 1, 0, none⟩)) (g1 := w.heap.size) (g2 := w.heap.size + 1 + 1 + 1) (g3 := w.heap.size + 1 + 1 + 1 + 1) (y.keeps (fun k _ hl => B2.block k hl) (fun k hk _ => hk))
    (cell_past B2 (row_cell r0 rfl)) (cell_past B2 (row_cell r3 rfl)) (cell_past B2 (row_cell r4 rfl))
  have TC := Lib.hid (tried_no (w := W) (fs := #[]) (cs := #[.pointer (some ⟨w.heap.size + 1 + 1, 0, none⟩), .pointer (some ⟨w.heap.size + 1 + 1 + 1 + 1, 0, none⟩)]) (R := fun w' => W.alloc (.cells #[.bool false] tBool) = w') eg (by rw [Array.empty_append]; exact BC) (fun w' e => by rw [← e]; exact heap_alloc_last W _))
  have H1 := Lib.hid (And.intro B (And.intro s r1))
  clear hW B s r0 r1 r3 r4 y B2 BC eg
  go_wp2_with (first
    | (go_at_call 110; refine TC.out.mono ?_; rintro e w1 ⟨rfl, W2, e2, e3⟩
       have b1 : Below W.heap.size W w1 := by
         rw [e3, ← e2]
         exact ⟨rfl, rfl, rfl, by simp, fun k hk => (heap_setCell_other _ _ k _ (by simp; omega)).trans (Below.heap_alloc _ _ _ hk)⟩
       have q1 := (b1.block _ (by have := H1.out.2.1; omega)).trans H1.out.2.2
       have H2 := Lib.hid b1
       clear b1 e2 e3)
    | (refine wpList_store_midA rfl tTape (.tmp 4) (.tmp 16) rfl (w.heap.size + 1) 0 #[.int .i64 at', .int .i64 0, .map none, .int .i64 0, .int .i64 0] rfl rfl tTape _ q1 infoTape (by simp) (by simp [Value.oneCell']) ?_
       intro W3 HW3 HM3 HS3))
  have k3 : W3.heap[w.heap.size + 1]? = some (.cells #[.int .i64 at', .int .i64 0, .map none, .int .i64 0, .int .i64 0] tTape (0, 0)) := HW3.out
  refine bodyPost_ret (results_cell_row rfl _ _ (w.heap.size + 1) _ _ _ _ rfl k3 Tryz.underlying68 rfl infoTape) rfl ?_
  exact ⟨rfl, Moves.new (H1.out.1.trans (H2.out.mono H1.out.1.size)) HM3 (by omega)⟩

end Go.Proofs.YtgffifleflkjoaaGreat

namespace Go.Proofs.YtgffifleflkjoaaGreat
open Go.RowKit

/-- The contract of an iterator that tells N things, each of such values as V says, reading the blocks R and owning what it makes. -/
def IterV (P : Program) (gf : Nat) (lb : Array Value) (V : Nat → Array Value → (Nat → Prop) → World → Prop) (N : Nat) (R : Nat → Prop) (w : World) : Prop :=
  ∀ (l : Nat) (J Jx : Nat → (Nat → Prop) → World → Prop) (W : World), Below w.heap.size w W → Stable J → Stable Jx →
    (∀ k x O W1, k < N → V k x O W1 → J k O W1 → YieldAt Fence.wide 0 P l x W1 fun e W' =>
      (e = .returned (.bool true) ∧ J (k + 1) O W' ∧ Keeps (fun i => O i ∨ R i) W1 W') ∨ (e = .returned (.bool false) ∧ Jx (k + 1) O W' ∧ Keeps (fun i => O i ∨ R i) W1 W')) →
    J 0 (fun _ => False) W →
    CallsIn Fence.wide 0 P gf (#[.func (.yield l) #[] #[]] ++ lb) W fun e W' => (∃ v, e = .returned v) ∧ ∃ O, (J N O W' ∨ ∃ k, k ≤ N ∧ Jx k O W')

theorem wpIn_rangeIterV {P : Program} {g : Operand} {ps : Array Tmp} {assign body : Code} {Q : Exit → Act → World → Prop} {a : Act} {w : World}
    {gf : Nat} {lb : Array Value} (hg : a.eval g = .func (.func gf) #[] lb) (eg : ∀ args w, (callFunc gf args).run P w = .ok (.enter gf args) w)
    {V : Nat → Array Value → (Nat → Prop) → World → Prop} {N : Nat} {R : Nat → Prop} {w0 : World} (hseq : IterV P gf lb V N R w0) (hR : ∀ i, R i → i < w.heap.size) (hb0 : Below w0.heap.size w0 w) (hps : ∀ k x O W, V k x O W → x.size = ps.size)
    (I : Nat → (Nat → Prop) → World → Prop) (Ix : Code → Nat → (Nat → Prop) → World → Prop) (hI : Stable I) (hIx : ∀ c, Stable (Ix c))
    (hIb : ∀ k O (r : Loop) (o : Obj) W, W.heap[w.heap.size + 1]? = some (.loop r) → I k O W → I k O (W.putObj (w.heap.size + 1) o))
    (hIxb : ∀ c k O (r : Loop) (o : Obj) W, W.heap[w.heap.size + 1]? = some (.loop r) → Ix c k O W → Ix c k O (W.putObj (w.heap.size + 1) o))
    (h0 : ∀ W, Below w.heap.size w W → W.heap.size = w.heap.size + 2 → I 0 (fun _ => False) W) (Ax : Nat → (Nat → Prop) → Array Value → Act → World → Prop) (hAx : ∀ k O x a', Blind (Ax k O x a'))
    (hassign : ∀ (k : Nat) (x : Array Value) (O : Nat → Prop) (W : World), k < N → V k x O W → I k O W → w.heap.size + 1 < W.heap.size → ¬ O (w.heap.size + 1) → ¬ O w.heap.size →
      assign.wpIn (Fence.wide.inRound (w.heap.size + 1)) 0 P (Exit.then (fun a' W' => I k O W' ∧ Keeps (fun i => O i ∨ R i ∨ i = w.heap.size + 1 ∨ i = w.heap.size) W W' ∧ Ax k O x a' W') (fun _ _ _ => False)) { tmps := (ps.zip x).foldl (fun t (p, v) => t.setIfInBounds p v) a.tmps, defers := [] } W)
    (hbody : ∀ (k : Nat) (x : Array Value) (O : Nat → Prop) (a' : Act) (W : World), k < N → (∃ r, W.heap[w.heap.size + 1]? = some (.loop r)) → (∃ o, W.heap[w.heap.size]? = some (.deferred o)) → ¬ O (w.heap.size + 1) → ¬ O w.heap.size → I k O W → Ax k O x a' W →
      body.wpIn (Fence.wide.inRound (w.heap.size + 1)) 0 P (iterPost (fun i => O i ∨ R i ∨ i = w.heap.size + 1 ∨ i = w.heap.size) I Ix ([] : List Unit) k O W) a' W)
    (hdone : ∀ (O : Nat → Prop) (W : World), I N O W → ¬ O w.heap.size → W.heap[w.heap.size]? = some (.deferred (some [])) → Q .normal { a with defers := { target := .collected w.heap.size, args := #[] } :: a.defers } W)
    (hstop : ∀ (c : Code) (k : Nat) (O : Nat → Prop) (W : World), k ≤ N → Ix c k O W → ¬ O w.heap.size → W.heap[w.heap.size]? = some (.deferred (some [])) → c.wpIn Fence.wide 0 P Q { a with defers := { target := .collected w.heap.size, args := #[] } :: a.defers } W) :
    (Code.rangeFunc g ps assign body).wpIn Fence.wide 0 P Q a w := by
  refine wpIn_rangeFunc ?_
  intro fn hfn
  show ∃ (l : Nat) (mark : List Deferred) (w₁ : World) (d : Deferred) (w₁' : World) (f : FuncId) (args : Array Value) (w₂ : World),
      (Instr.enterLoop fn a.tmps ps assign body none).run P w = .ok (l, mark) w₁ ∧ _
  obtain ⟨rec, hrec⟩ : ∃ rec : LoopState → Option Code → Loop, rec = fun st pe => { state := st, pending := pe, fn, tmps := a.tmps, params := ps, assign, body, defers := w.heap.size } := ⟨_, rfl⟩
  obtain ⟨W1, hW1⟩ : ∃ W1, (w.alloc (.deferred (some []))).alloc (.loop (rec .ready none)) = W1 := ⟨_, rfl⟩
  have hL1 : W1.heap[w.heap.size + 1]? = some (.loop (rec .ready none)) := by
    rw [← hW1]; have := World.alloc_heap_new (w.alloc (.deferred (some []))) (.loop (rec .ready none)); rwa [World.size_alloc] at this
  have hK1 : W1.heap[w.heap.size]? = some (.deferred (some [])) := by
    rw [← hW1]; exact (Below.heap_alloc _ _ _ (by simp)).trans (World.alloc_heap_new w _)
  have hbw : Below w.heap.size w W1 := by
    rw [← hW1]; exact ((Below.refl _ w).alloc (Nat.le_refl _) _).alloc (by simp) _
  have hb1 : Below w0.heap.size w0 W1 := hb0.trans (hbw.mono hb0.size)
  have hI1 := h0 W1 hbw (by rw [← hW1]; simp)
  refine ⟨w.heap.size + 1, [{ target := .collected w.heap.size, args := #[] }], W1, { target := .fn (.func gf) lb, args := #[.func (.yield (w.heap.size + 1)) #[] #[]] }, W1, gf,
    #[.func (.yield (w.heap.size + 1)) #[] #[]] ++ lb, W1, ?_, ?_, ?_, ?_, (fun h => by cases h), ?_⟩
  · rw [← hW1, hrec]; exact run_enterLoop_outer _ _ _ _ _
  · simp only [resolve, hg]
    simp [go_sem]
  · intro f' _; trivial
  · simp [invoke, go_sem, eg]
  · have stay : ∀ (O O' : Nat → Prop) (A B : World) (k : Nat) (o : Obj), A.heap[k]? = some o → ¬ O k → Moves O A B → (∀ i, O' i → O i ∨ A.heap.size ≤ i) → B.heap[k]? = some o ∧ ¬ O' k := by
      intro O O' A B k o hk hn hm ho
      have hlt : k < A.heap.size := (Array.getElem?_eq_some_iff.1 hk).1
      exact ⟨(hm.block k hlt hn).trans hk, fun e => by rcases ho k e with h | h; exact hn h; omega⟩
    refine (hseq (w.heap.size + 1)
      (fun k O W => I k O W ∧ (W.heap[w.heap.size + 1]? = some (.loop (rec .ready none)) ∧ ¬ O (w.heap.size + 1)) ∧ (W.heap[w.heap.size]? = some (.deferred (some [])) ∧ ¬ O w.heap.size))
      (fun k O W => ∃ c, Ix c k O W ∧ (W.heap[w.heap.size + 1]? = some (.loop (rec .done (some c))) ∧ ¬ O (w.heap.size + 1)) ∧ (W.heap[w.heap.size]? = some (.deferred (some [])) ∧ ¬ O w.heap.size))
      W1 hb1
      (fun k O O' A B hs hm ho1 ho2 => ⟨hI k O O' A B hs.1 hm ho1 ho2, stay O O' A B _ _ hs.2.1.1 hs.2.1.2 hm ho2, stay O O' A B _ _ hs.2.2.1 hs.2.2.2 hm ho2⟩)
      (fun k O O' A B hs hm ho1 ho2 => by
        obtain ⟨c, hc, hl, hk⟩ := hs
        exact ⟨c, hIx c k O O' A B hc hm ho1 ho2, stay O O' A B _ _ hl.1 hl.2 hm ho2, stay O O' A B _ _ hk.1 hk.2 hm ho2⟩)
      ?_ ⟨hI1, ⟨hL1, fun h => h⟩, ⟨hK1, fun h => h⟩⟩).mono ?_
    · rintro k x O W hN hx ⟨hi, ⟨hl, hol⟩, ⟨hk, hok⟩⟩
      have hlt : w.heap.size + 1 < W.heap.size := (Array.getElem?_eq_some_iff.1 hl).1
      have hnR : ¬ R (w.heap.size + 1) := fun h => by have := hR _ h; omega
      have hy := run_yield (P := P) (args := x) hl (by rw [hrec]; exact hps k x O W hx)
      rw [hrec] at hy
      refine ⟨fn, _, assign, body, hy, roundIn_of_wpIn hfn (wpIn_mono (hassign k x O W hN hx hi hlt hol hok) ?_)⟩
      clear hy
      intro e a' Wa hp
      cases e with
      | ret => exact hp.elim
      | exit id => exact hp.elim
      | goto t => exact hp.elim
      | panic ch => exact hp.elim
      | outgrown => exact hp.elim
      | normal =>
        obtain ⟨hia, hka, hax⟩ := hp
        have hla := (hka.block _ (Or.inr (Or.inr (Or.inl rfl))) hlt).trans hl
        have hda := (hka.block _ (Or.inr (Or.inr (Or.inr rfl))) (by omega)).trans hk
        have hlta : w.heap.size + 1 < Wa.heap.size := (Array.getElem?_eq_some_iff.1 hla).1
        refine ⟨_, run_beginRound hla (by rw [hrec]), ?_⟩
        generalize hWb : Wa.putObj (w.heap.size + 1) (.loop { rec .ready none with state := .busy }) = Wb
        have hl2 : Wb.heap[w.heap.size + 1]? = some (.loop { rec .ready none with state := .busy }) := by rw [← hWb]; exact World.putObj_heap_same hlta
        have hk2 : Wb.heap[w.heap.size]? = some (.deferred (some [])) := by rw [← hWb]; exact (World.putObj_heap_other (by omega)).trans hda
        have hib : I k O Wb := by rw [← hWb]; exact hIb k O _ _ _ hla hia
        have hab : Ax k O x a' Wb := by rw [← hWb]; exact hAx k O x a' _ _ _ _ hla hax
        have hkb : Keeps (fun i => O i ∨ R i) W Wb := by
          rw [← hWb]
          exact (hka.mono (fun i hi => by rcases hi with h | h; exact Or.inl h; exact Or.inr (Or.inl h))).trans (keeps_putObj _ (fun h => by rcases h with h | h; exact hol h; exact hnR h))
        refine wpIn_mono (hbody k x O a' Wb hN ⟨_, hl2⟩ ⟨_, hk2⟩ hol hok hib hab) ?_
        have fin : ∀ (jump : Option Code) (W3 : World), Keeps (fun i => O i ∨ R i ∨ i = w.heap.size + 1 ∨ i = w.heap.size) Wb W3 →
            (Instr.endRound (w.heap.size + 1) jump).run P W3 = .ok (.bool jump.isNone) (W3.putObj (w.heap.size + 1) (.loop (rec (if jump.isNone then .ready else .done) jump))) ∧
            W3.heap[w.heap.size + 1]? = some (.loop { rec .ready none with state := .busy }) ∧
            (W3.putObj (w.heap.size + 1) (.loop (rec (if jump.isNone then .ready else .done) jump))).heap[w.heap.size + 1]? = some (.loop (rec (if jump.isNone then .ready else .done) jump)) ∧
            (W3.putObj (w.heap.size + 1) (.loop (rec (if jump.isNone then .ready else .done) jump))).heap[w.heap.size]? = some (.deferred (some [])) ∧
            Keeps (fun i => O i ∨ R i) W (W3.putObj (w.heap.size + 1) (.loop (rec (if jump.isNone then .ready else .done) jump))) := by
          intro jump W3 hk3
          have hl3 := (hk3.block _ (Or.inr (Or.inr (Or.inl rfl))) (Array.getElem?_eq_some_iff.1 hl2).1).trans hl2
          have hd3 := (hk3.block _ (Or.inr (Or.inr (Or.inr rfl))) (Array.getElem?_eq_some_iff.1 hk2).1).trans hk2
          have := run_endRound (P := P) jump hl3
          refine ⟨by rw [hrec] at this ⊢; exact this, hl3, World.putObj_heap_same (Array.getElem?_eq_some_iff.1 hl3).1, (World.putObj_heap_other (by omega)).trans hd3, ?_⟩
          exact (hkb.trans (hk3.mono (fun i hi => by rcases hi with h | h; exact Or.inl h; exact Or.inr (Or.inl h)))).trans (keeps_putObj _ (fun h => by rcases h with h | h; exact hol h; exact hnR h))
        rintro e a3 W3 hp
        cases e with
        | normal =>
          obtain ⟨hk3, hi3⟩ := hp
          obtain ⟨hr, hl3, hl4, hk4, hkk⟩ := fin none W3 hk3
          exact ⟨_, _, hr, .inl ⟨rfl, ⟨hIb _ _ _ _ _ hl3 hi3, ⟨hl4, hol⟩, ⟨hk4, hok⟩⟩, hkk⟩⟩
        | ret =>
          obtain ⟨hk3, hi3⟩ := hp
          obtain ⟨hr, hl3, hl4, hk4, hkk⟩ := fin (some .ret) W3 hk3
          exact ⟨_, _, hr, .inr ⟨rfl, ⟨.ret, hIxb _ _ _ _ _ _ hl3 hi3, ⟨hl4, hol⟩, ⟨hk4, hok⟩⟩, hkk⟩⟩
        | exit id =>
          obtain ⟨hk3, hi3⟩ := hp
          obtain ⟨hr, hl3, hl4, hk4, hkk⟩ := fin (some (.exit id)) W3 hk3
          exact ⟨_, _, hr, .inr ⟨rfl, ⟨.exit id, hIxb _ _ _ _ _ _ hl3 hi3, ⟨hl4, hol⟩, ⟨hk4, hok⟩⟩, hkk⟩⟩
        | goto t =>
          obtain ⟨hk3, hi3⟩ := hp
          obtain ⟨hr, hl3, hl4, hk4, hkk⟩ := fin (some (.goto t)) W3 hk3
          exact ⟨_, _, hr, .inr ⟨rfl, ⟨.goto t, hIxb _ _ _ _ _ _ hl3 hi3, ⟨hl4, hol⟩, ⟨hk4, hok⟩⟩, hkk⟩⟩
        | panic ch => exact hp.elim
        | outgrown => exact hp.elim
    · rintro e W2 ⟨⟨v, rfl⟩, O, (⟨hi, ⟨hl, hol⟩, ⟨hk, hok⟩⟩ | ⟨k, hkx, c, hi, ⟨hl, hol⟩, ⟨hk, hok⟩⟩)⟩
      · exact ⟨none, _, by have := run_endLoop (P := P) hl (by rw [hrec]; simp); rw [hrec] at this; exact this, hdone O _ (hIb _ _ _ _ _ hl hi) hok ((World.putObj_heap_other (by omega)).trans hk)⟩
      · exact ⟨some c, _, by have := run_endLoop (P := P) hl (by rw [hrec]; simp); rw [hrec] at this; exact this, hstop c k O _ hkx (hIxb _ _ _ _ _ _ hl hi) hok ((World.putObj_heap_other (by omega)).trans hk)⟩

end Go.Proofs.YtgffifleflkjoaaGreat

namespace Go.Proofs.YtgffifleflkjoaaGreat
open Go.RowKit Dm Go.Shelf
attribute [local go_sem] Oper.semAt_some

/-- What a tape tells. -/
structure Em.T where
  gen : Nat
  rows : Em.Rows
  batches : Nat
  fin : Nat
def Em.T.none : Em.T := ⟨0, .map [], 0, 0⟩

/-- A tape's value; its rows lie behind B. -/
def TapeV (B : Nat) (k : Nat) (t : Em.T) (v : Value) (w : World) : Prop :=
  ∃ mv, v = .agg #[.int .i64 k, .int .i64 t.gen, mv, .int .i64 t.batches, .int .i64 t.fin] ∧ ((mv = .map Option.none ∧ t = Em.T.none) ∨ ∃ m, mv = .map (some m) ∧ RowsIn w m (Maps.size t.rows) t.rows ∧ B ≤ m)

def ReadsC (b : List UInt8) (k : Nat) (t : Em.T) : Prop :=
  ∀ (W : World) (v : Value) (G : Nat → Prop), BytesAt W.heap G v b → Calls Tryz.prog 69 #[.int .i64 k, v] W fun e w' => (∃ v', e = .returned v' ∧ TapeV W.heap.size k t v' w') ∧ Below W.heap.size W w'

theorem reads_nil (k : Nat) : ReadsC [] k Em.T.none := fun W v G h => (read_nil h).mono fun _ _ hh => ⟨⟨_, hh.1, _, rfl, Or.inl ⟨rfl, rfl⟩⟩, hh.2⟩

theorem TapeV.later {B B' k : Nat} {t : Em.T} {v : Value} {w w' : World} (h : TapeV B k t v w) (hb : Below w.heap.size w w') (hB : B' ≤ B) : TapeV B' k t v w' := by
  obtain ⟨mv, rfl, h⟩ := h
  refine ⟨mv, rfl, ?_⟩
  rcases h with h | ⟨m, rfl, h1, h2⟩
  · exact Or.inl h
  · exact Or.inr ⟨m, rfl, rows_below h1 hb h1.lt, by omega⟩

theorem tapes_c (pd : Nat) (w : World) : Calls Tryz.prog 33 #[.pointer (some ⟨pd, 0, none⟩)] w fun e w' =>
    e = .returned (.func (.func 68) #[] #[.pointer (some ⟨w.heap.size, 0, none⟩)]) ∧ w.alloc (.cells #[.pointer (some ⟨pd, 0, none⟩)] 23) = w' := by
  have hmf : ∀ (fn : Fn) (first cap : Array Value) (w : World), (Instr.makeFunc fn first cap).run Tryz.prog w = .ok (.func fn first cap) w := fun _ _ _ _ => rfl
  go_enter Tryz.func33, Tryz.ntmps33
  go_wp2
  go_ret
  exact ⟨rfl, rfl⟩

/-- The blocks that are read between the tapes. -/
def TapesR (pd md g n : Nat) (F : Nat → Prop) : Nat → Prop := fun i => i = pd ∨ i = md ∨ i = g ∨ (F i ∧ i < n)

theorem disk_keeps {A B : World} {pd md g n : Nat} {d : D} {F : Nat → Prop} (x : DiskAt A.heap pd md d (fun i => F i ∧ i < n)) (hk : Keeps (TapesR pd md g n F) A B) : DiskAt B.heap pd md d (fun i => F i ∧ i < n) := by
  obtain ⟨l1, l2, _, _, _⟩ := x.lt
  exact x.keeps (hk.block pd (Or.inl rfl) l1) (hk.block md (Or.inr (Or.inl rfl)) l2) (fun k h hl => hk.block k (Or.inr (Or.inr (Or.inr h))) hl) (fun _ h _ => h) (fun _ h => Or.inl h)

set_option maxRecDepth 100000 in
set_option maxHeartbeats 2000000 in
theorem tapes1_c {w : World} {pd md g : Nat} {d : D} {F : Nat → Prop} {ts : Nat → Em.T} (x : DiskAt w.heap pd md d F) (hg : w.cell? ⟨g, 0, none⟩ = some (.pointer (some ⟨pd, 0, none⟩))) (hts : ∀ k : Nat, k < 2 → ReadsC (d.stand.tp k) k (ts k)) :
    IterV Tryz.prog 68 #[.pointer (some ⟨g, 0, none⟩)] (fun k x O W => (∃ v, x = #[v] ∧ TapeV w.heap.size k (ts k) v W) ∧ ∀ i, ¬ O i) 2 (TapesR pd md g w.heap.size F) w := by
  intro l J Jx W hW hJ hJx hY h0
  have lg : g < w.heap.size := block_lt_of_cell hg
  have x0 : DiskAt W.heap pd md d (fun i => F i ∧ i < w.heap.size) := by
    have lt := x.lt
    exact x.keeps (hW.block pd lt.1) (hW.block md lt.2.1) (fun k _ hl => hW.block k hl) (fun k hk hl => ⟨hk, hl⟩) (fun k hk => Or.inl hk.1)
  have f0 := (hW.cell (p := ⟨g, 0, none⟩) lg).trans hg
  have sW := hW.size
  clear x hg
  refine callsIn_of_wp Tryz.func68 rfl trivial ?_ rfl
  simp only [Tryz.ntmps68, List.size_toArray, List.length_cons, List.length_nil, Nat.reduceAdd, Nat.reduceSub, Array.replicate_succ, Array.replicate_zero, List.push_toArray, List.append_toArray, List.nil_append, List.cons_append]
  gi_wp2
  refine wpIn_scope (wpIn_label_seq ?_)
  gi_wp2
  gi_loopw [6] (fun p wr => ∃ k : Nat, p = .int .i64 (k : Int) ∧ k ≤ 2 ∧ J k (fun _ => False) wr ∧ DiskAt wr.heap pd md d (fun i => F i ∧ i < w.heap.size) ∧ wr.cell? ⟨g, 0, none⟩ = some (.pointer (some ⟨pd, 0, none⟩)) ∧ w.heap.size ≤ wr.heap.size) (fun p _ => 3 - (intOf p).toNat)
  case atStart => exact ⟨0, rfl, by omega, h0, x0, f0, sW⟩
  case round =>
    obtain ⟨k, rfl, hk, hJk, xk, fk, sk⟩ := hrel
    by_cases hlt : k < 2
    · have TC := Lib.hid (tape_c xk k)
      rw [if_neg (by omega), if_neg (by omega)] at TC
      have RC := Lib.hid (fun W v G h => (callsIn_wide (n := 0)).2 (hts k hlt W v G h))
      have HH := Lib.hid (And.intro hJk (And.intro xk (And.intro fk sk)))
      have TC' := Lib.hid ((callsIn_wide (n := 0)).2 TC.out)
      have hYk := Lib.hid (fun (v : Value) (W1 : World) (hv : TapeV w.heap.size k (ts k) v W1) (hj : J k (fun _ => False) W1) => hY k #[v] (fun _ => False) W1 hlt ⟨⟨v, rfl, hv⟩, fun _ h => h⟩ hj)
      have k0 : (k : Int) < 2 := by omega
      clear hJk xk sk TC hY h0 x0 f0
      generalize hl : d.stand.tp k = bs at *
      gi_wp2_with (first
        | (refine ⟨trivial, rfl, ?_⟩; gi_at_call 61; refine TC'.out.mono ?_; rintro e w1 ⟨v1, rfl, b1, y1⟩
           have H1 := Lib.hid (And.intro b1 y1.bytes)
           clear b1 y1)
        | (refine ⟨trivial, rfl, ?_⟩; gi_at_call 69; refine (RC.out w1 v1 _ H1.out.2).mono ?_; rintro e w2 ⟨⟨v2, rfl, t2⟩, b2⟩
           have B2 : Below wr.heap.size wr w2 := H1.out.1.trans (b2.mono H1.out.1.size)
           have hj := hJ k _ (fun _ => False) wr w2 HH.out.1 (Moves.of_below B2) (fun _ h => h) (fun _ h => Or.inl h)
           obtain ⟨fn, tmps, assign, body, hy, hR⟩ := hYk.out v2 w2 (t2.later (Below.refl _ _) (by have := H1.out.1.size; have := HH.out.2.2.2; omega)) hj
           have H2 := Lib.hid (And.intro B2 hR)
           clear t2 b2 B2 hj hR))
      refine ⟨rfl, H2.out.2.mono ?_⟩
      have xk2 : DiskAt w2.heap pd md d (fun i => F i ∧ i < w.heap.size) := HH.out.2.1.below H2.out.1
      have fk2 := cell_past H2.out.1 HH.out.2.2.1
      have sk2 : w.heap.size ≤ w2.heap.size := Nat.le_trans HH.out.2.2.2 H2.out.1.size
      have H3 := Lib.hid (And.intro xk2 (And.intro fk2 sk2))
      clear xk2 fk2 sk2
      rintro e W' (⟨rfl, hJ', hk'⟩ | ⟨rfl, hJx', hk'⟩)
      · have hw1 : IntKind.i64.wrap ((k : Int) + 1) = ((k + 1 : Nat) : Int) := IntWalk.i64_in _ (by omega)
        gi_wp2
        obtain ⟨xk2, fk2, sk2⟩ := H3.out
        refine ⟨⟨k + 1, by simp, by omega, hJ', disk_keeps (g := g) xk2 (hk'.mono fun i hi => Or.inr hi), ?_, Nat.le_trans sk2 hk'.size⟩, ?_⟩
        · exact (World.cell?_of_block (hk'.block g (Or.inr (Or.inr (Or.inr (Or.inl rfl)))) (by omega))).trans fk2
        · simp [intOf]; omega
      · gi_wp2
        simp +zetaDelta only [Exit.noGoto_normal]; refine bodyPost_end (results_none rfl _ _ _) rfl ?_
        exact ⟨⟨_, rfl⟩, _, .inr ⟨k + 1, by omega, hJx'⟩⟩
    · obtain rfl : k = 2 := by omega
      gi_wp2
      simp +zetaDelta only [Exit.noGoto_normal]; refine bodyPost_end (results_none rfl _ _ _) rfl ?_
      exact ⟨⟨_, rfl⟩, _, .inl hJk⟩

end Go.Proofs.YtgffifleflkjoaaGreat
