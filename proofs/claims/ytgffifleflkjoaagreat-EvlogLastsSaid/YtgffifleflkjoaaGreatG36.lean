/-
  evlog: what a tape tells.
  evlog: read, of whatever tape.
  evlog: mend: what stands behind the end is cut.
  evlog: mend.
-/
import Derived.Test.YtgffifleflkjoaaGreatG34
import Derived.Deep.LoopGhost

namespace Go.Proofs.YtgffifleflkjoaaGreat
open Go.RowKit Dm

abbrev nextF (g1 g2 : Nat) : Value := .func (.func 107) #[] #[.pointer (some ⟨g1, 0, none⟩), .pointer (some ⟨g2, 0, none⟩)]

theorem beginsIn_yes {w : World} {T g1 g2 g7 : Nat} {R : World → Prop} (c3 : w.cell? ⟨g7, 0, none⟩ = some (nextF g1 g2)) (BC : Calls Tryz.prog 112 #[.pointer (some ⟨T, 0, none⟩), nextF g1 g2] w fun e w' => e = .returned (.tuple #[]) ∧ R w') :
    Calls Tryz.prog 111 #[.pointer (some ⟨T, 0, none⟩), .pointer (some ⟨g7, 0, none⟩)] w fun e w' => e = .returned (.tuple #[]) ∧ R w' := by
  go_enter Tryz.func111, Tryz.ntmps111
  go_wp2_with (go_at_call 112; refine BC.mono ?_; rintro e w1 ⟨rfl, h1⟩)
  go_end0
  exact ⟨rfl, h1⟩

theorem beginsIn_no {w : World} {T g1 g2 g7 : Nat} {R : World → Prop} (c3 : w.cell? ⟨g7, 0, none⟩ = some (nextF g1 g2)) (BC : Calls Tryz.prog 112 #[.pointer (some ⟨T, 0, none⟩), nextF g1 g2] w fun e w' => e = .panicked gaveUp ∧ R w') :
    Calls Tryz.prog 111 #[.pointer (some ⟨T, 0, none⟩), .pointer (some ⟨g7, 0, none⟩)] w fun e w' => e = .panicked gaveUp ∧ R w' := by
  go_enter Tryz.func111, Tryz.ntmps111
  go_wp2_with (go_at_call 112; refine BC.mono ?_; rintro e w1 ⟨rfl, h1⟩)
  exact ⟨rfl, rfl, h1⟩

theorem goesIn_yes {w : World} {T g1 g2 g7 : Nat} {R : World → Prop} (c3 : w.cell? ⟨g7, 0, none⟩ = some (nextF g1 g2)) (BC : Calls Tryz.prog 114 #[.pointer (some ⟨T, 0, none⟩), nextF g1 g2] w fun e w' => e = .returned (.tuple #[]) ∧ R w') :
    Calls Tryz.prog 113 #[.pointer (some ⟨T, 0, none⟩), .pointer (some ⟨g7, 0, none⟩)] w fun e w' => e = .returned (.tuple #[]) ∧ R w' := by
  go_enter Tryz.func113, Tryz.ntmps113
  go_wp2_with (go_at_call 114; refine BC.mono ?_; rintro e w1 ⟨rfl, h1⟩)
  go_end0
  exact ⟨rfl, h1⟩

theorem goesIn_no {w : World} {T g1 g2 g7 : Nat} {R : World → Prop} (c3 : w.cell? ⟨g7, 0, none⟩ = some (nextF g1 g2)) (BC : Calls Tryz.prog 114 #[.pointer (some ⟨T, 0, none⟩), nextF g1 g2] w fun e w' => e = .panicked gaveUp ∧ R w') :
    Calls Tryz.prog 113 #[.pointer (some ⟨T, 0, none⟩), .pointer (some ⟨g7, 0, none⟩)] w fun e w' => e = .panicked gaveUp ∧ R w' := by
  go_enter Tryz.func113, Tryz.ntmps113
  go_wp2_with (go_at_call 114; refine BC.mono ?_; rintro e w1 ⟨rfl, h1⟩)
  exact ⟨rfl, rfl, h1⟩

/-- What is turned of the tape that is read, between two Batches. -/
structure ReadSt (W : World) (g1 T g2 : Nat) (at' : Int) (gen : Nat) (l : List UInt8) (fin n endv : Nat) (D : Em.Rows) (wr : World) : Prop where
  next : NextAt wr g1 g2 l fin
  row : ∃ m, wr.heap[T]? = some (.cells (tapeC at' gen (.map (some m)) n endv) tTape (0, 0)) ∧ RowsIn wr m (Maps.size D) D ∧ W.heap.size ≤ m
  mv : Moves (fun k => k = T ∨ k = g2 ∨ W.heap.size ≤ k) W wr

theorem tryB (W : World) (X : World) (o : Obj) {O : Nat → Prop} (h : Moves O W X) (b : Nat) (hb : W.heap.size ≤ b) (v : Value) : Moves (fun k => O k ∨ W.heap.size ≤ k) W (X.setCell ⟨b, 0, none⟩ v) :=
  (h.mono (fun _ h => Or.inl h)).trans ((setCell_moves X b 0 v).mono (fun k hk => Or.inr (by omega))) (fun _ _ h => h)

/-- A tape's Head has been read. -/
theorem tried_begins {W : World} {g1 T g2 g7 gen fin : Nat} {at' : Int} {l : List UInt8} {D : Em.Rows} (h : NextAt W g1 g2 l 0) (hl : l.length ≤ 1000000000)
    (hT : W.heap[T]? = some (.cells (tapeC at' 0 (.map none) 0 0) tTape (0, 0))) (h1 : g1 < T) (h2 : T < g2) (c3 : W.cell? ⟨g7, 0, none⟩ = some (nextF g1 g2)) (hr : Em.rbegin l = some (gen, D, fin)) :
    Calls Tryz.prog 110 #[.func (.func 111) #[] #[.pointer (some ⟨T, 0, none⟩), .pointer (some ⟨g7, 0, none⟩)]] W fun e w' => e = .returned (.bool true) ∧ ReadSt W g1 T g2 at' gen l fin 0 0 D w' := by
  have B : Below W.heap.size W (W.alloc (.cells #[.bool false] tBool)) := (Below.refl _ _).alloc (Nat.le_refl _) _
  have lg := lt_of_row h.far
  have BC := begins_yes (h.later B) hl ((B.block T (lt_of_row hT)).trans hT) h1 h2 hr
  refine (tried_yes (w := W) (R := fun w' => NextAt w' g1 g2 l fin ∧ (∃ m', w'.heap[T]? = some (.cells (tapeC at' gen (.map (some m')) 0 0) tTape (0, 0)) ∧ RowsIn w' m' (Maps.size D) D ∧ (W.alloc (.cells #[.bool false] tBool)).heap.size ≤ m') ∧ Moves (fun k => k = T ∨ k = g2) (W.alloc (.cells #[.bool false] tBool)) w') (fs := #[]) (cs := #[.pointer (some ⟨T, 0, none⟩), .pointer (some ⟨g7, 0, none⟩)]) (enters_of Tryz.func111 (by kernel_rfl) rfl) (by rw [Array.empty_append]; exact beginsIn_yes (cell_past B c3) BC)
    (fun w' hw => (hw.2.2.block W.heap.size (by simp) (by omega)).trans (heap_alloc_last W _))).mono ?_
  rintro e w' ⟨rfl, X, ⟨nx, ⟨m, rT, rm, hm⟩, mx⟩, rfl⟩
  have ms := setCell_moves X W.heap.size 0 (.bool true)
  simp only [World.size_alloc] at hm
  refine ⟨rfl, nx.moves ms (fun k hk => by have := h.lt; omega), ⟨m, (ms.block T (lt_of_row rT) (by omega)).trans rT, rows_off rm ms (by omega), by omega⟩, ?_⟩
  exact (((Moves.of_below B).trans mx (fun _ _ h => h)).mono (O' := fun k => k = T ∨ k = g2 ∨ W.heap.size ≤ k) (fun k hk => by rcases hk with h | h; exact Or.inl h; exact Or.inr (Or.inl h))).trans (ms.mono (fun k hk => Or.inr (Or.inr (by omega)))) (fun _ _ h => h)

theorem tried_begins_no {W : World} {g1 T g2 g7 : Nat} {at' : Int} {l : List UInt8} (h : NextAt W g1 g2 l 0) (hl : l.length ≤ 1000000000)
    (hT : W.heap[T]? = some (.cells (tapeC at' 0 (.map none) 0 0) tTape (0, 0))) (h1 : g1 < T) (h2 : T < g2) (c3 : W.cell? ⟨g7, 0, none⟩ = some (nextF g1 g2)) (hr : Em.rbegin l = none) :
    Calls Tryz.prog 110 #[.func (.func 111) #[] #[.pointer (some ⟨T, 0, none⟩), .pointer (some ⟨g7, 0, none⟩)]] W fun e w' => e = .returned (.bool false) ∧ Moves (fun k => k = g2) W w' := by
  have B : Below W.heap.size W (W.alloc (.cells #[.bool false] tBool)) := (Below.refl _ _).alloc (Nat.le_refl _) _
  have lg := lt_of_row h.far
  have BC := begins_no (h.later B) hl ((B.block T (lt_of_row hT)).trans hT) h1 h2 hr
  refine (tried_no (w := W) (R := fun w' => Moves (fun k => k = g2) (W.alloc (.cells #[.bool false] tBool)) w') (fs := #[]) (cs := #[.pointer (some ⟨T, 0, none⟩), .pointer (some ⟨g7, 0, none⟩)]) (enters_of Tryz.func111 (by kernel_rfl) rfl) (by rw [Array.empty_append]; exact beginsIn_no (cell_past B c3) BC)
    (fun w' hw => (hw.block W.heap.size (by simp) (by omega)).trans (heap_alloc_last W _))).mono ?_
  rintro e w' ⟨rfl, X, mx, rfl⟩
  exact ⟨rfl, ((Moves.of_below B).trans mx (fun _ _ h => h)).trans (setCell_moves X W.heap.size 0 (.bool false)) (fun i hi h => by omega)⟩

/-- A Batch has been read, or not. -/
theorem tried_goes {W : World} {g1 T g2 g7 gen fin n endv m : Nat} {at' : Int} {l : List UInt8} {D : Em.Rows} (h : NextAt W g1 g2 l fin) (hl : l.length ≤ 1000000000) (hs : Maps.size D ≤ 256) (hn : n ≤ 1000000000)
    (hT : W.heap[T]? = some (.cells (tapeC at' gen (.map (some m)) n endv) tTape (0, 0))) (hm : RowsIn W m (Maps.size D) D) (h1 : g1 < T) (h2 : T < g2) (c3 : W.cell? ⟨g7, 0, none⟩ = some (nextF g1 g2)) :
    Calls Tryz.prog 110 #[.func (.func 113) #[] #[.pointer (some ⟨T, 0, none⟩), .pointer (some ⟨g7, 0, none⟩)]] W fun e w' =>
      match Em.rgoes l fin D with
      | none => e = .returned (.bool false) ∧ Moves (fun k => k = g2) W w'
      | some r => e = .returned (.bool true) ∧ ReadSt W g1 T g2 at' gen l r.2 (n + 1) endv r.1 w' := by
  have B : Below W.heap.size W (W.alloc (.cells #[.bool false] tBool)) := (Below.refl _ _).alloc (Nat.le_refl _) _
  have lg := lt_of_row h.far
  have rT := (B.block T (lt_of_row hT)).trans hT
  have rm := rows_below hm B hm.lt
  cases hr : Em.rgoes l fin D with
  | none =>
    have BC := goes_no (h.later B) hl rT rm hs h2 hr
    refine (tried_no (w := W) (R := fun w' => Moves (fun k => k = g2) (W.alloc (.cells #[.bool false] tBool)) w') (fs := #[]) (cs := #[.pointer (some ⟨T, 0, none⟩), .pointer (some ⟨g7, 0, none⟩)]) (enters_of Tryz.func113 (by kernel_rfl) rfl) (by rw [Array.empty_append]; exact goesIn_no (cell_past B c3) BC)
      (fun w' hw => (hw.block W.heap.size (by simp) (by omega)).trans (heap_alloc_last W _))).mono ?_
    rintro e w' ⟨rfl, X, mx, rfl⟩
    exact ⟨rfl, ((Moves.of_below B).trans mx (fun _ _ h => h)).trans (setCell_moves X W.heap.size 0 (.bool false)) (fun i hi h => by omega)⟩
  | some r =>
    obtain ⟨D', fin'⟩ := r
    have BC := goes_yes (h.later B) hl rT rm hs h1 h2 hn hr
    refine (tried_yes (w := W) (R := fun w' => NextAt w' g1 g2 l fin' ∧ (∃ m', w'.heap[T]? = some (.cells (tapeC at' gen (.map (some m')) (n + 1) endv) tTape (0, 0)) ∧ RowsIn w' m' (Maps.size D') D' ∧ (W.alloc (.cells #[.bool false] tBool)).heap.size ≤ m') ∧ Moves (fun k => k = T ∨ k = g2) (W.alloc (.cells #[.bool false] tBool)) w') (fs := #[]) (cs := #[.pointer (some ⟨T, 0, none⟩), .pointer (some ⟨g7, 0, none⟩)]) (enters_of Tryz.func113 (by kernel_rfl) rfl) (by rw [Array.empty_append]; exact goesIn_yes (cell_past B c3) BC)
      (fun w' hw => (hw.2.2.block W.heap.size (by simp) (by omega)).trans (heap_alloc_last W _))).mono ?_
    rintro e w' ⟨rfl, X, ⟨nx, ⟨m', rT', rm', hm'⟩, mx⟩, rfl⟩
    have ms := setCell_moves X W.heap.size 0 (.bool true)
    simp only [World.size_alloc] at hm'
    refine ⟨rfl, nx.moves ms (fun k hk => by have := h.lt; omega), ⟨m', (ms.block T (lt_of_row rT') (by omega)).trans rT', rows_off rm' ms (by omega), by omega⟩, ?_⟩
    exact (((Moves.of_below B).trans mx (fun _ _ h => h)).mono (O' := fun k => k = T ∨ k = g2 ∨ W.heap.size ≤ k) (fun k hk => by rcases hk with h | h; exact Or.inl h; exact Or.inr (Or.inl h))).trans (ms.mono (fun k hk => Or.inr (Or.inr (by omega)))) (fun _ _ h => h)

end Go.Proofs.YtgffifleflkjoaaGreat

namespace Go.Proofs.YtgffifleflkjoaaGreat
open Go.RowKit Dm

/-- Where the reading of Batches stands. -/
structure MoreRel (W : World) (g1 T g2 : Nat) (at' : Int) (gen : Nat) (l : List UInt8) (want : Em.Rows × Nat × Nat) (b : Bool) (ghost : Nat) (fin n endv : Nat) (D : Em.Rows) (wr : World) : Prop where
  goes : b = true → NextAt wr g1 g2 l fin ∧ ghost = l.length - fin + 1 ∧ ∃ f, l.length < f + fin ∧ want = Em.rmore l f fin D n
  ends : b = false → ghost = 0 ∧ want = (D, n, endv)
  rows : Em.RowsOk D ∧ Maps.size D ≤ 256 ∧ n ≤ fin ∧ fin ≤ l.length
  row : ∃ m, wr.heap[T]? = some (.cells (tapeC at' gen (.map (some m)) n endv) tTape (0, 0)) ∧ RowsIn wr m (Maps.size D) D ∧ W.heap.size ≤ m
  mv : Moves (fun k => k = T ∨ k = g2 ∨ W.heap.size ≤ k) W wr

set_option maxRecDepth 100000 in
set_option maxHeartbeats 4000000 in
theorem reads_all {l : List UInt8} (hl : l.length ≤ 900000000) (at' : Nat) : ReadsC l at' (rtape l) := by
  intro w v G h
  obtain ⟨va, vc, rfl⟩ := h.slice
  have hmf : ∀ (fn : Fn) (first cap : Array Value) (w : World), (Instr.makeFunc fn first cap).run Tryz.prog w = .ok (.func fn first cap) w := fun _ _ _ _ => rfl
  obtain ⟨W, hW⟩ : ∃ W, ((((w.alloc (.cells #[.slice va l.length vc] tBytes)).alloc (.cells #[.int .i64 0, .int .i64 0, .map none, .int .i64 0, .int .i64 0] tTape)).alloc (.cells #[.int .i64 at', .int .i64 0, .map none, .int .i64 0, .int .i64 0] tTape)).alloc (.cells #[.int .i64 0] tInt)).alloc
      (.cells #[nextF w.heap.size (w.heap.size + 1 + 1 + 1)] tNext) = W := ⟨_, rfl⟩
  have B : Below w.heap.size w W := by rw [← hW]; exact (((((Below.refl _ _).alloc (Nat.le_refl _) _).alloc (by simp) _).alloc (by simp; omega) _).alloc (by simp; omega) _).alloc (by simp; omega) _
  have s : W.heap.size = w.heap.size + 5 := by rw [← hW]; simp
  have r0 : W.heap[w.heap.size]? = some (.cells #[.slice va l.length vc] tBytes (0, 0)) := by rw [← hW]; exact heap_past (by simp; omega) (heap_past (by simp; omega) (heap_past (by simp; omega) (heap_past (by simp) (heap_alloc_last w _))))
  have r1 : W.heap[w.heap.size + 1]? = some (.cells #[.int .i64 0, .int .i64 0, .map none, .int .i64 0, .int .i64 0] tTape (0, 0)) := by rw [← hW]; exact heap_past (by simp <;> omega) (heap_past (by simp <;> omega) (heap_past (by simp <;> omega) (heap_at (w := w.alloc _) _ (by simp))))
  have r2 : W.heap[w.heap.size + 1 + 1]? = some (.cells (tapeC at' 0 (.map none) 0 0) tTape (0, 0)) := by rw [← hW]; exact heap_past (by simp <;> omega) (heap_past (by simp <;> omega) (heap_at (w := (w.alloc _).alloc _) _ (by simp)))
  have r3 : W.heap[w.heap.size + 1 + 1 + 1]? = some (.cells #[.int .i64 0] tInt (0, 0)) := by rw [← hW]; exact heap_past (by simp) (heap_at (w := (((w.alloc _).alloc _).alloc _)) _ (by simp))
  have r4 : W.heap[w.heap.size + 1 + 1 + 1 + 1]? = some (.cells #[nextF w.heap.size (w.heap.size + 1 + 1 + 1)] tNext (0, 0)) := by rw [← hW]; exact heap_at (w := ((((w.alloc _).alloc _).alloc _).alloc _)) _ (by simp)
  have y : BytesAt W.heap (fun k => k < w.heap.size) (.slice va l.length vc) l := h.keeps (fun k _ hl => B.block k hl) (fun k hk hl => hl)
  have NX : NextAt W w.heap.size (w.heap.size + 1 + 1 + 1) l 0 := ⟨⟨_, row_cell r0 rfl, y⟩, r3, by omega, Nat.zero_le _⟩
  have c3 : W.cell? ⟨w.heap.size + 1 + 1 + 1 + 1, 0, none⟩ = some (nextF w.heap.size (w.heap.size + 1 + 1 + 1)) := row_cell r4 rfl
  have HW := Lib.hid hW
  have HB := Lib.hid (And.intro B (And.intro s r1))
  cases hb : Em.rbegin l with
  | none =>
    have TC := Lib.hid (tried_begins_no NX (by omega) r2 (by omega) (by omega) c3 hb)
    have HT := Lib.hid (show rtape l = Em.T.none by unfold rtape; rw [hb])
    clear hW B s r0 r1 r2 r3 r4 y NX c3 hb h
    go_enter Tryz.func69, Tryz.ntmps69
    go_upto_region 4 with fail
    rw [HW.out]
    go_wp2_with (first
      | (go_at_call 110; refine TC.out.mono ?_; rintro e w1 ⟨rfl, m1⟩
         have q1 := (m1.block (w.heap.size + 1) (by have := HB.out.2.1; omega) (by omega)).trans HB.out.2.2
         have H2 := Lib.hid m1
         clear m1)
      | (refine wpList_store_midA rfl tTape (.tmp 4) (.tmp 16) rfl (w.heap.size + 1) 0 #[.int .i64 at', .int .i64 0, .map none, .int .i64 0, .int .i64 0] rfl rfl tTape _ q1 infoTape (by simp) (by simp [Value.oneCell']) ?_
         intro W3 HW3 HM3 HS3))
    have k3 : W3.heap[w.heap.size + 1]? = some (.cells #[.int .i64 at', .int .i64 0, .map none, .int .i64 0, .int .i64 0] tTape (0, 0)) := HW3.out
    refine bodyPost_ret (results_cell_row rfl _ _ (w.heap.size + 1) _ _ _ _ rfl k3 Tryz.underlying68 rfl infoTape) rfl ?_
    refine ⟨⟨_, rfl, _, by rw [HT.out]; rfl, Or.inl ⟨rfl, HT.out⟩⟩, ?_⟩
    exact (((Moves.of_below (O := fun _ => False) HB.out.1).trans H2.out (fun i hi h => by omega)).trans HM3 (fun i hi h => by omega)).below
  | some p =>
    obtain ⟨gen, D0, fin0⟩ := p
    have TC := Lib.hid (tried_begins NX (by omega) r2 (by omega) (by omega) c3 hb)
    obtain ⟨ok1, ok2, ok3, ok4, ok5⟩ := rbegin_ok hb
    have HT := Lib.hid (show rtape l = ⟨gen, (Em.rmore l (l.length + 1) fin0 D0 0).1, (Em.rmore l (l.length + 1) fin0 D0 0).2.1, (Em.rmore l (l.length + 1) fin0 D0 0).2.2⟩ by unfold rtape; rw [hb])
    obtain ⟨want, hwant⟩ : ∃ want, Em.rmore l (l.length + 1) fin0 D0 0 = want := ⟨_, rfl⟩
    have HWT := Lib.hid hwant
    have HO := Lib.hid (And.intro ok1 ok3)
    have C3 := Lib.hid r4
    have HLL := Lib.hid hl
    have hltot : l.length ≤ 900000000 := hl
    clear hW B s r0 r1 r2 r3 r4 y NX c3 hb h ok1 ok2 ok3 ok4 ok5 hwant
    go_enter Tryz.func69, Tryz.ntmps69
    go_upto_region 4 with fail
    rw [HW.out]
    go_wp2_with (go_at_call 110; refine TC.out.mono ?_; rintro e w1 ⟨rfl, st1⟩; have S1 := Lib.hid st1; clear st1)
    have ST := Lib.hid (show MoreRel W w.heap.size (w.heap.size + 1 + 1) (w.heap.size + 1 + 1 + 1) at' gen l want true (l.length - fin0 + 1) fin0 0 0 D0 w1 from
      ⟨fun _ => ⟨S1.out.next, rfl, l.length + 1, by omega, HWT.out.symm⟩, (fun h => by cases h), ⟨HO.out.1, HO.out.2, Nat.zero_le _, S1.out.next.le⟩, S1.out.row, S1.out.mv⟩)
    clear S1 TC
    go_loopg [8] (l.length - fin0 + 1) (fun gh s8 wr => ∃ (b : Bool) (fin n endv : Nat) (D : Em.Rows), s8 = .bool b ∧ MoreRel W w.heap.size (w.heap.size + 1 + 1) (w.heap.size + 1 + 1 + 1) at' gen l want b gh fin n endv D wr)
    case atStart => exact ⟨true, _, _, _, _, rfl, ST.out⟩
    case round =>
      obtain ⟨b, fin, n, endv, D, rfl, hrel⟩ := hrel
      obtain ⟨m, rT, rm, hm⟩ := hrel.row
      have szz := HB.out.2.1
      cases b
      · obtain ⟨_, hw⟩ := hrel.ends rfl
        have q1 := (hrel.mv.block (w.heap.size + 1) (by omega) (by omega)).trans HB.out.2.2
        have k0 := row_cell rT (j := 0) rfl
        have k1 := row_cell rT (j := 1) rfl
        have k2 := row_cell rT (j := 2) rfl
        have k3 := row_cell rT (j := 3) rfl
        have k4 := row_cell rT (j := 4) rfl
        have HR := Lib.hid (And.intro hrel.mv (And.intro rm (And.intro hm hw)))
        clear hrel rT rm hm hw szz
        go_wp2_with (refine wpList_store_midA rfl tTape (.tmp 4) (.tmp 22) rfl (w.heap.size + 1) 0 (tapeC at' gen (.map (some m)) n endv) rfl rfl tTape _ q1 infoTape (by simp) (by simp [Value.oneCell']) ?_
                     intro W3 HW3 HM3 HS3)
        have k3 : W3.heap[w.heap.size + 1]? = some (.cells (tapeC at' gen (.map (some m)) n endv) tTape (0, 0)) := HW3.out
        refine bodyPost_ret (results_cell_row rfl _ _ (w.heap.size + 1) _ _ _ _ rfl k3 Tryz.underlying68 rfl infoTape) rfl ?_
        obtain ⟨mv, rm, hm, hw⟩ := HR.out
        have sB := HB.out.1.size
        have szz := HB.out.2.1
        have ht : rtape l = ⟨gen, D, n, endv⟩ := by rw [HT.out, HWT.out, hw]
        refine ⟨⟨_, rfl, .map (some m), by rw [ht], Or.inr ⟨m, rfl, by rw [ht]; exact rows_off rm HM3 (by omega), by omega⟩⟩, ?_⟩
        exact (((Moves.of_below (O := fun _ => False) HB.out.1).trans mv (fun i hi h => by omega)).trans HM3 (fun i hi h => by omega)).below
      · obtain ⟨nx, hgh, f, hf, hw⟩ := hrel.goes rfl
        obtain ⟨o1, o2, o3, o4⟩ := hrel.rows
        have c3 : wr.cell? ⟨w.heap.size + 1 + 1 + 1 + 1, 0, none⟩ = some (nextF w.heap.size (w.heap.size + 1 + 1 + 1)) := row_cell ((hrel.mv.block _ (lt_of_row C3.out) (by omega)).trans C3.out) rfl
        have u3 := row_cell nx.far (j := 0) rfl
        have u4 := row_cell rT (j := 4) rfl
        have z4 := row_free rT 4
        have ms := setCell_moves wr (w.heap.size + 1 + 1) 4 (.int .i64 (fin : Int))
        have rT2 := heap_setCell_same _ _ 4 _ tTape (.int .i64 (fin : Int)) rT
        have nx2 := nx.moves ms (fun k hk => by omega)
        have rm2 := rows_off rm ms (by omega)
        have TG := Lib.hid (tried_goes (W := wr.setCell ⟨w.heap.size + 1 + 1, 4, none⟩ (.int .i64 (fin : Int))) (gen := gen) (n := n) (endv := fin) (at' := (at' : Int)) nx2 (by omega) o2 (by omega) rT2 rm2 (by omega) (by omega) ((World.cell?_of_block (ms.block (w.heap.size + 1 + 1 + 1 + 1) (block_lt_of_cell c3) (by omega))).trans c3))
        have HR := Lib.hid (And.intro hrel.mv (And.intro ms (And.intro rT2 (And.intro rm2 (And.intro hm (And.intro hw (And.intro hf (And.intro o1 (And.intro hgh (And.intro o3 (And.intro o4 o2)))))))))))
        clear hrel rT rm hm hw hf nx o1 o2 o3 o4 ms rT2 nx2 rm2 szz hgh
        cases hr : Em.rgoes l fin D with
        | none =>
          rw [hr] at TG
          have HG := Lib.hid hr
          clear hr
          go_wp2_with (go_at_call 110; refine TG.out.mono ?_; rintro e w6 ⟨rfl, m6⟩; have H6 := Lib.hid m6; clear m6)
          obtain ⟨mv, ms, rT2, rm2, hm, hw, hf, o1, hgh, o3, o4, o2⟩ := HR.out
          have szz := HB.out.2.1
          go_roundg 0
          case measure => omega
          case rel =>
            refine ⟨false, fin, n, fin, D, rfl, (fun h => by cases h), fun _ => ⟨rfl, ?_⟩, ⟨o1, ?_, o3, o4⟩, ⟨m, (H6.out.block _ (lt_of_row rT2) (by omega)).trans rT2, rows_off rm2 H6.out (by omega), hm⟩, ?_⟩
            · obtain ⟨f', rfl⟩ : ∃ f', f = f' + 1 := ⟨f - 1, by omega⟩
              rw [hw, Em.rmore, HG.out]
            · exact o2
            · exact (mv.trans (ms.mono (O' := fun k => k = w.heap.size + 1 + 1 ∨ k = w.heap.size + 1 + 1 + 1 ∨ W.heap.size ≤ k) (fun _ h => Or.inl h)) (fun _ _ h => h)).trans (H6.out.mono (fun _ h => Or.inr (Or.inl h))) (fun _ _ h => h)
        | some r =>
          obtain ⟨D', fin'⟩ := r
          rw [hr] at TG
          have HG := Lib.hid hr
          clear hr
          go_wp2_with (go_at_call 110; refine TG.out.mono ?_; rintro e w6 ⟨rfl, s6⟩; have S6 := Lib.hid s6; clear s6)
          obtain ⟨mv, ms, rT2, rm2, hm, hw, hf, o1, hgh, o3, o4, o2⟩ := HR.out
          obtain ⟨p1, p2, p3⟩ := rgoes_ok HG.out o1
          obtain ⟨m', rT6, rm6, hm6⟩ := S6.out.row
          have le6 := S6.out.next.le
          have sv := mv.size
          have s2 := ms.size
          go_roundg (l.length - fin' + 1)
          case measure => omega
          case rel =>
            refine ⟨true, fin', n + 1, fin, D', rfl, fun _ => ⟨S6.out.next, rfl, f - 1, by omega, ?_⟩, (fun h => by cases h), ⟨p1, p2, by omega, le6⟩, ⟨m', rT6, rm6, by omega⟩, ?_⟩
            · obtain ⟨f', rfl⟩ : ∃ f', f = f' + 1 := ⟨f - 1, by omega⟩
              rw [hw, Em.rmore, HG.out]
              rfl
            · exact (mv.trans (ms.mono (O' := fun k => k = w.heap.size + 1 + 1 ∨ k = w.heap.size + 1 + 1 + 1 ∨ W.heap.size ≤ k) (fun _ h => Or.inl h)) (fun _ _ h => h)).trans (S6.out.mv.mono (fun k h => by rcases h with h | h | h; exact Or.inl h; exact Or.inr (Or.inl h); exact Or.inr (Or.inr (by omega)))) (fun _ _ h => h)

end Go.Proofs.YtgffifleflkjoaaGreat

namespace Go.Proofs.YtgffifleflkjoaaGreat
open Go.RowKit Dm

/-- A disk whose tape is cut to so many bytes, if it has others. -/
def Em.mended (d : D) (t n : Nat) : D × Int := if (d.stand.tp t).length = n then (d, 0) else Em.next (d.cut t n) D.sync

set_option maxRecDepth 100000 in
set_option maxHeartbeats 2000000 in
theorem mendIn_c {w : World} {pl pd md b1 : Nat} {d : D} {F : Nat → Prop} {t n : Nat} (x : DiskAt w.heap pd md d F) (c1 : w.cell? ⟨b1, 0, none⟩ = some (.pointer (some ⟨pl, 0, none⟩)))
    (c0 : w.cell? ⟨pl, 0, none⟩ = some (.int .i64 t)) (c4 : w.cell? ⟨pl, 4, none⟩ = some (.int .i64 n)) (c5 : w.cell? ⟨pl, 5, none⟩ = some (.pointer (some ⟨pd, 0, none⟩))) (hw : d.waits.length ≤ 1000000000) :
    Calls Tryz.prog 75 #[.pointer (some ⟨b1, 0, none⟩)] w (Left w pd md F (d.cut t n)) := by
  have AC := Lib.hid (cut_c (w := w.drew) x t n (by omega))
  have f1 := wd_drew c1
  have f0 := wd_drew c0
  have f4 := wd_drew c4
  have f5 := wd_drew c5
  have X := Lib.hid x
  clear x c0 c1 c4 c5
  have ne : Nonempty (Wd (fun w' => w' = w.drew)) := ⟨⟨_, rfl⟩⟩
  go_enter Tryz.func75, Tryz.ntmps75
  go_wp2
  refine wp_region_hoist (fun w' => ∃ x : Wd (fun w' => w' = w.drew), w' = x.world) [14, 15] (by kernel_rfl) ?_
  refine wpAnyI_reads [0, 1, 2, 3, 4, 5, 6, 7, 8, 9, 10, 11, 12, 13] 2 _ ⟨⟨_, rfl⟩, rfl⟩ (by kernel_rfl) ?_
  simp only [List.filterMap_cons, List.filterMap_nil, List.getElem?_toArray, List.getElem?_cons_succ, List.getElem?_cons_zero]
  iterate 14 (with_reducible refine wpHoist_step (fun K hK => ?_); simp only [hoists, sameUpon]; go_simp; refine hK _ ?_; clear hK K)
  with_reducible refine wpHoist_nil ?_
  refine wpAnyI_one 14 1 _ _ rfl (by kernel_rfl) ?_
  refine wpList_plain rfl fun K hK => ?_
  go_simp
  refine AC.out.mono ?_
  rintro e w1 ⟨rfl, m1, x1⟩
  have L := Lib.hid (left_drew (e := .returned (.int .i64 (d.cut t n).2)) X.out ⟨rfl, m1, x1⟩)
  clear m1 x1
  refine hK _ _ (wpList_nil ⟨rfl, fun h => absurd (by decide) h, ?_⟩)
  clear hK K
  refine wpAnyI_pure [15] 0 _ (by kernel_rfl) ?_
  simp only [List.filterMap_cons, List.filterMap_nil, List.getElem?_toArray, List.getElem?_cons_succ, List.getElem?_cons_zero]
  repeat (refine wpHoist_step (fun K hK => ?_); simp only [hoists, sameUpon]; go_simp; refine hK _ ?_; clear hK K)
  refine wpHoist_nil ?_
  refine ⟨by kernel_rfl, ?_⟩
  go_wp2
  go_ret
  exact L.out

end Go.Proofs.YtgffifleflkjoaaGreat

namespace Go.Proofs.YtgffifleflkjoaaGreat
open Go.RowKit Dm

theorem mend_does {w : World} {pl pd md b1 : Nat} {t n : Nat} (c1 : w.cell? ⟨b1, 0, none⟩ = some (.pointer (some ⟨pl, 0, none⟩)))
    (c0 : w.cell? ⟨pl, 0, none⟩ = some (.int .i64 t)) (c4 : w.cell? ⟨pl, 4, none⟩ = some (.int .i64 n)) (c5 : w.cell? ⟨pl, 5, none⟩ = some (.pointer (some ⟨pd, 0, none⟩)))
    (h1 : b1 ≠ pd ∧ b1 ≠ md) (h5 : pl ≠ pd ∧ pl ≠ md) :
    Does w pd md (.func (.func 75) #[] #[.pointer (some ⟨b1, 0, none⟩)]) (fun d => d.cut t n) :=
  ⟨⟨_, _, _, rfl, enters_of Tryz.func75 (by kernel_rfl) rfl, fun W d F hm x hw =>
    mendIn_c x (moved_cell hm c1 h1.1 h1.2) (moved_cell hm c0 h5.1 h5.2) (moved_cell hm c4 h5.1 h5.2) (moved_cell hm c5 h5.1 h5.2) hw⟩, fun d => cut_waits d t n⟩

/-- The first of two: the tape is cut, and synced. -/
theorem mended_c {w : World} {pl pd md b1 g cap : Nat} {d : D} {F : Nat → Prop} {t n : Nat} {tt : TypeId} (x : DiskAt w.heap pd md d F) (hw : d.waits.length ≤ 900000000)
    (c1 : w.cell? ⟨b1, 0, none⟩ = some (.pointer (some ⟨pl, 0, none⟩))) (c0 : w.cell? ⟨pl, 0, none⟩ = some (.int .i64 t)) (c4 : w.cell? ⟨pl, 4, none⟩ = some (.int .i64 n))
    (c5 : w.cell? ⟨pl, 5, none⟩ = some (.pointer (some ⟨pd, 0, none⟩))) (h1 : b1 ≠ pd ∧ b1 ≠ md) (h5 : pl ≠ pd ∧ pl ≠ md) (hg : g ≠ pd ∧ g ≠ md)
    (hr : w.heap[g]? = some (.cells #[.func (.func 75) #[] #[.pointer (some ⟨b1, 0, none⟩)], .func (.func 60) #[.pointer (some ⟨pd, 0, none⟩)] #[]] tt (0, 0))) :
    Calls Tryz.prog 71 #[.slice (some ⟨g, 0, none⟩) 2 cap] w (Left w pd md F (Em.next (d.cut t n) D.sync)) := by
  have := firstOf_c (w := w) (g := g) (cap := cap) (acts := [fun d => d.cut t n, D.sync])
    (fvs := [.func (.func 75) #[] #[.pointer (some ⟨b1, 0, none⟩)], .func (.func 60) #[.pointer (some ⟨pd, 0, none⟩)] #[]]) x hw hr hg
    (fun i f hf => by
      match i, hf with
      | 0, hf => cases hf; rfl
      | 1, hf => cases hf; rfl
      | i + 2, hf => simp at hf) rfl
    (fun i f a hf ha => by
      match i, hf, ha with
      | 0, hf, ha => cases hf; cases ha; exact mend_does c1 c0 c4 c5 h1 h5
      | 1, hf, ha => cases hf; cases ha; exact sync_does w pd md
      | i + 2, hf, ha => simp at hf) (by simp)
  rw [chain_two] at this
  exact this

theorem mended_good {e : Em.E} (h : e.good) (d : D) : ({ e with d := d } : Em.E).good := ⟨h.tp, h.gen, h.batches, h.fin, h.rows, h.few⟩

set_option maxRecDepth 100000 in
set_option maxHeartbeats 4000000 in
theorem mend_c {w : World} {pl pd md : Nat} {e : Em.E} {F : Nat → Prop} (x : LogAt w pl pd md e F) (hw : e.d.waits.length ≤ 900000000) :
    Calls Tryz.prog 35 #[.pointer (some ⟨pl, 0, none⟩)] w (LogLeft w pl pd md F ({ e with d := (Em.mended e.d e.tp e.fin).1 }, (Em.mended e.d e.tp e.fin).2)) := by
  obtain ⟨W, hW⟩ : ∃ W, w.alloc (.cells #[.pointer (some ⟨pl, 0, none⟩)] tPLog) = W := ⟨_, rfl⟩
  have BW : Below w.heap.size w W := by rw [← hW]; exact (Below.refl _ _).alloc (Nat.le_refl _) _
  have sW : W.heap.size = w.heap.size + 1 := by rw [← hW]; simp
  have c1 : W.cell? ⟨w.heap.size, 0, none⟩ = some (.pointer (some ⟨pl, 0, none⟩)) := by rw [← hW]; exact row_cell (heap_alloc_last w _) rfl
  obtain ⟨m, row, rows, n1, n2, n3⟩ := x.row
  have lpl := lt_of_row row
  have rowW : W.heap[pl]? = some (.cells (logC e.tp e.gen (.map (some m)) e.batches e.fin pd e.gone) tLog (0, 0)) := (BW.block pl lpl).trans row
  have g1 : ∀ y : Wd (Below W.heap.size W), y.world.cell? ⟨w.heap.size, 0, none⟩ = some (.pointer (some ⟨pl, 0, none⟩)) := fun y => cell_past y.ok c1
  have g0 : ∀ y : Wd (Below W.heap.size W), y.world.cell? ⟨pl, 0, none⟩ = some (.int .i64 e.tp) := fun y => cell_past y.ok (row_cell rowW rfl)
  have g4 : ∀ y : Wd (Below W.heap.size W), y.world.cell? ⟨pl, 4, none⟩ = some (.int .i64 e.fin) := fun y => cell_past y.ok (row_cell rowW rfl)
  have g5 : ∀ y : Wd (Below W.heap.size W), y.world.cell? ⟨pl, 5, none⟩ = some (.pointer (some ⟨pd, 0, none⟩)) := fun y => cell_past y.ok (row_cell rowW rfl)
  have SC := Lib.hid (size_c (w := W.drew) (t := e.tp) (pl := pl) (show DiskAt W.heap pd md e.d F from x.disk.below BW) (row_cell rowW rfl) (by have := x.good.tp; omega))
  have X := Lib.hid x
  have H := Lib.hid (And.intro hw (And.intro BW (And.intro sW (And.intro c1 (And.intro row (And.intro rows (And.intro n1 (And.intro n2 (And.intro n3 rowW)))))))))
  have ne : Nonempty (Wd (Below W.heap.size W)) := ⟨⟨_, Below.refl _ _⟩⟩
  have hmf : ∀ (fn : Fn) (first cap : Array Value) (w : World), (Instr.makeFunc fn first cap).run Tryz.prog w = .ok (.func fn first cap) w := fun _ _ _ _ => rfl
  clear x hw BW sW c1 row rows rowW lpl
  have HW := Lib.hid hW
  clear hW
  by_cases h0 : (e.d.stand.tp e.tp).length = e.fin
  · have HE := Lib.hid (show Em.mended e.d e.tp e.fin = (e.d, 0) by unfold Em.mended; rw [if_pos h0])
    rw [h0] at SC
    clear h0
    go_enter Tryz.func35, Tryz.ntmps35
    go_wp2
    rw [HW.out]
    refine wp_region_hoist (fun w' => ∃ x : Wd (Below W.heap.size W), w' = x.world) [12] (by kernel_rfl) ?_
    refine wpAnyI_reads [0, 1, 2, 3, 4, 5, 7, 8, 9, 10, 11] 2 _ ⟨⟨_, (Below.refl _ _).drew⟩, rfl⟩ (by kernel_rfl) ?_
    simp only [List.filterMap_cons, List.filterMap_nil, List.getElem?_toArray, List.getElem?_cons_succ, List.getElem?_cons_zero]
    iterate 11 (with_reducible refine wpHoist_step (fun K hK => ?_); simp only [hoists, sameUpon]; go_simp; refine hK _ ?_; clear hK K)
    with_reducible refine wpHoist_nil ?_
    refine wpAnyI_one 6 1 _ _ rfl (by kernel_rfl) ?_
    refine wpList_plain rfl fun K hK => ?_
    go_simp
    refine SC.out.mono ?_
    rintro r w1 ⟨rfl, b1⟩
    have HB := Lib.hid (show Below W.heap.size W w1 from (Below.refl _ _).drew.trans b1)
    clear b1
    refine hK _ _ (wpList_nil ⟨rfl, fun _ => ⟨⟨_, HB.out⟩, rfl⟩, ?_⟩)
    clear hK K
    refine wpAnyI_pure [12] 0 _ (by kernel_rfl) ?_
    simp only [List.filterMap_cons, List.filterMap_nil, List.getElem?_toArray, List.getElem?_cons_succ, List.getElem?_cons_zero]
    repeat (refine wpHoist_step (fun K hK => ?_); simp only [hoists, sameUpon]; go_simp; refine hK _ ?_; clear hK K)
    refine wpHoist_nil ?_
    refine ⟨by kernel_rfl, ?_⟩
    go_wp2
    go_ret
    rw [HE.out]
    have B := H.out.2.1.trans (HB.out.mono H.out.2.1.size)
    have lpl := lt_of_row H.out.2.2.2.2.1
    exact ⟨rfl, Moves.of_below B, ⟨mended_good X.out.good _, X.out.disk.plus B, ⟨m, (B.block pl lpl).trans H.out.2.2.2.2.1, rows_below H.out.2.2.2.2.2.1 B H.out.2.2.2.2.2.1.lt, H.out.2.2.2.2.2.2.1, H.out.2.2.2.2.2.2.2.1, H.out.2.2.2.2.2.2.2.2.1⟩, X.out.ne.1, X.out.ne.2.1, fun h => by
      rcases h with h | h
      · exact X.out.ne.2.2 h
      · omega⟩⟩
  · have HE := Lib.hid (show Em.mended e.d e.tp e.fin = Em.next (e.d.cut e.tp e.fin) D.sync by unfold Em.mended; rw [if_neg h0])
    have h0' : ¬ ((e.d.stand.tp e.tp).length : Int) = e.fin := by omega
    clear h0
    generalize (e.d.stand.tp e.tp).length = N at *
    go_enter Tryz.func35, Tryz.ntmps35
    go_wp2
    rw [HW.out]
    refine wp_region_hoist (fun w' => ∃ x : Wd (Below W.heap.size W), w' = x.world) [12] (by kernel_rfl) ?_
    refine wpAnyI_reads [0, 1, 2, 3, 4, 5, 7, 8, 9, 10, 11] 2 _ ⟨⟨_, (Below.refl _ _).drew⟩, rfl⟩ (by kernel_rfl) ?_
    simp only [List.filterMap_cons, List.filterMap_nil, List.getElem?_toArray, List.getElem?_cons_succ, List.getElem?_cons_zero]
    iterate 11 (with_reducible refine wpHoist_step (fun K hK => ?_); simp only [hoists, sameUpon]; go_simp; refine hK _ ?_; clear hK K)
    with_reducible refine wpHoist_nil ?_
    refine wpAnyI_one 6 1 _ _ rfl (by kernel_rfl) ?_
    refine wpList_plain rfl fun K hK => ?_
    go_simp
    refine SC.out.mono ?_
    rintro r w1 ⟨rfl, b1⟩
    have HB := Lib.hid (show Below W.heap.size W w1 from (Below.refl _ _).drew.trans b1)
    have k1 := g1 ⟨w1, HB.out⟩
    have k5 := g5 ⟨w1, HB.out⟩
    clear b1
    refine hK _ _ (wpList_nil ⟨rfl, fun _ => ⟨⟨_, HB.out⟩, rfl⟩, ?_⟩)
    clear hK K
    refine wpAnyI_pure [12] 0 _ (by kernel_rfl) ?_
    simp only [List.filterMap_cons, List.filterMap_nil, List.getElem?_toArray, List.getElem?_cons_succ, List.getElem?_cons_zero]
    repeat (refine wpHoist_step (fun K hK => ?_); simp only [hoists, sameUpon]; go_simp; refine hK _ ?_; clear hK K)
    refine wpHoist_nil ?_
    refine ⟨by kernel_rfl, ?_⟩
    clear g0 g1 g4 g5 ne
    obtain ⟨W6, hW6⟩ : ∃ V, w1.alloc (.cells #[.func (.func 75) #[] #[.pointer (some ⟨w.heap.size, 0, none⟩)], .func (.func 60) #[.pointer (some ⟨pd, 0, none⟩)] #[]] tSteps) = V := ⟨_, rfl⟩
    have r6 := heap_alloc_last w1 (.cells #[.func (.func 75) #[] #[.pointer (some ⟨w.heap.size, 0, none⟩)], .func (.func 60) #[.pointer (some ⟨pd, 0, none⟩)] #[]] tSteps)
    rw [hW6] at r6
    have B6' : Below w1.heap.size w1 W6 := by rw [← hW6]; exact (Below.refl _ _).alloc (Nat.le_refl _) _
    have B6 : Below W.heap.size W W6 := HB.out.trans (B6'.mono HB.out.size)
    have B : Below w.heap.size w W6 := H.out.2.1.trans (B6.mono H.out.2.1.size)
    have rowW := H.out.2.2.2.2.2.2.2.2.2
    have lx := X.out.disk.lt
    have sW := H.out.2.2.1
    have s1 := HB.out.size
    have RC := Lib.hid (mended_c (cap := 2) (t := e.tp) (n := e.fin) (X.out.disk.below B) H.out.1 (cell_past B6 H.out.2.2.2.1) (cell_past B6 (row_cell rowW rfl)) (cell_past B6 (row_cell rowW rfl)) (cell_past B6 (row_cell rowW rfl))
      ⟨by omega, by omega⟩ ⟨X.out.ne.1, X.out.ne.2.1⟩ ⟨by omega, by omega⟩ r6)
    have H6 := Lib.hid (And.intro B (And.intro hW6 s1))
    clear B B6 B6' r6 hW6 rowW lx sW s1
    go_wp2_with (go_at_call 71; rw [H6.out.2.1]; refine RC.out.mono ?_; rintro r w7 ⟨rfl, m7, x7⟩; have L := Lib.hid (And.intro m7 x7); clear m7 x7)
    go_ret
    rw [HE.out]
    obtain ⟨m7, x7⟩ := L.out
    have B := H6.out.1
    have row := H.out.2.2.2.2.1
    have lpl := lt_of_row row
    refine ⟨rfl, (Moves.of_below B).trans (m7.mono fun i hi => Or.inr hi) (fun _ _ h => h), ⟨mended_good X.out.good _, wide_disk X.out.disk x7 B.size, ⟨m, ?_, ?_, H.out.2.2.2.2.2.2.1, H.out.2.2.2.2.2.2.2.1, H.out.2.2.2.2.2.2.2.2.1⟩, X.out.ne.1, X.out.ne.2.1, fun h => by
      rcases h with h | h
      · exact X.out.ne.2.2 h
      · omega⟩⟩
    · exact (m7.block pl (by have := B.size; omega) (fun e => by rcases e with e | e; exact X.out.ne.1 e; exact X.out.ne.2.1 e)).trans ((B.block pl lpl).trans row)
    · exact rows_moved (rows_below H.out.2.2.2.2.2.1 B H.out.2.2.2.2.2.1.lt) m7 H.out.2.2.2.2.2.2.1 H.out.2.2.2.2.2.2.2.1

end Go.Proofs.YtgffifleflkjoaaGreat
