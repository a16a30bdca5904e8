/-
  wire: a writer.
  wire: texts and truths that a writer lays; all of it; a frame.
  wire: a frame; evlog: the frame of what a closure lays.
  evlog: the frame of what a closure lays; changes in memory; a batch's bytes.
  evlog: what lays a batch.
  evlog: a batch's bytes; which batches may be.
-/
import Derived.Test.YtgffifleflkjoaaGreatG11
import Derived.Test.YtgffifleflkjoaaGreatG14
import Derived.Deep.MidRow

namespace Go.Proofs.YtgffifleflkjoaaGreat
open Go.RowKit

abbrev tWriter : Nat := 224
abbrev tInt64 : Nat := 2

theorem BytesAt.slice3 {h : Array Obj} {F : Nat → Prop} {v : Value} {l : List UInt8} (x : BytesAt h F v l) : ∃ a n c, v = .slice a n c := let ⟨a, c, e⟩ := x.slice; ⟨a, _, c, e⟩

/-- A writer of so many bytes: what it writes lies from its own block on. -/
def WriterAt (w : World) (q : Nat) (l : List UInt8) : Prop := ∃ v, w.heap[q]? = some (.cells #[v, .bool true] tWriter (0, 0)) ∧ OwnB w q v l

/-- What a writer's calls turn: its own block, and bytes behind it. -/
structure Writes (w w' : World) (q : Nat) : Prop where
  below : Below q w w'
  kept : ∀ (k : Nat) (cs : Array Value) (t : TypeId) (fr : Nat × Nat), w.heap[k]? = some (.cells cs t fr) → t ≠ tByte → k ≠ q → w'.heap[k]? = some (.cells cs t fr)

theorem Writes.refl (w : World) (q : Nat) : Writes w w q := ⟨Below.refl _ _, fun _ _ _ _ h _ _ => h⟩
theorem Writes.trans {A B C : World} {q : Nat} (h : Writes A B q) (k : Writes B C q) : Writes A C q := ⟨h.below.trans k.below, fun i cs t fr a b c => k.kept i cs t fr (h.kept i cs t fr a b c) b c⟩
theorem Writes.of_below {w w' : World} {q : Nat} (h : Below w.heap.size w w') (hq : q ≤ w.heap.size) : Writes w w' q :=
  ⟨h.mono hq, fun k cs t fr a _ _ => (h.block k (lt_of_row a)).trans a⟩

def Wrote (w : World) (q : Nat) (l : List UInt8) (e : Ending) (w' : World) : Prop := e = .returned (.int .i64 0) ∧ WriterAt w' q l ∧ Writes w w' q

theorem own_ne {w : World} {base q : Nat} {v : Value} {l : List UInt8} {cs : Array Value} {t : TypeId} {fr : Nat × Nat} (ho : OwnB w base v l) (h : w.heap[q]? = some (.cells cs t fr)) (ht : t ≠ tByte) : v.ownBlock ≠ some q := by
  intro e
  rcases ho.2 with ⟨h1, _⟩ | ⟨g, cap, cur, h1, _, hg, _⟩
  · rw [h1] at e; cases e
  · rw [h1] at e
    cases e
    rw [h] at hg
    cases hg
    exact ht rfl

theorem writer_set {w : World} {q : Nat} {v v' : Value} {l : List UInt8} (h : w.heap[q]? = some (.cells #[v, .bool true] tWriter (0, 0))) (o : OwnB w q v' l) : WriterAt (w.setCell ⟨q, 0, none⟩ v') q l := by
  refine ⟨v', (setCell_row v' h).1, ?_⟩
  have hn := own_ne o h (by decide)
  refine ⟨o.1, ?_⟩
  rcases o.2 with h1 | ⟨g, cap, cur, h1, h2, h3, h4, h5, h6, h7⟩
  · exact Or.inl h1
  · refine Or.inr ⟨g, cap, cur, h1, h2, ?_, h4, h5, h6, h7⟩
    have hg : g ≠ q := fun e => hn (by rw [h1, e]; rfl)
    exact (heap_setCell_other w _ g _ hg).trans h3

theorem below_set {w : World} {q : Nat} (v : Value) : Below q w (w.setCell ⟨q, 0, none⟩ v) :=
  ⟨rfl, rfl, rfl, by simp, fun k hk => heap_setCell_other w _ k _ (by simp; omega)⟩

theorem writes_set {w : World} {q : Nat} (v : Value) : Writes w (w.setCell ⟨q, 0, none⟩ v) q :=
  ⟨below_set v, fun k _ _ _ a _ c => (heap_setCell_other w _ k _ c).trans a⟩

theorem writes_adds {w w' : World} {q : Nat} {v v' : Value} {l : List UInt8} (h : Adds w w' v v') (ho : OwnB w q v l) (hq : q ≤ w.heap.size) : Writes w w' q :=
  ⟨h.below ho hq, fun _ _ _ _ a b _ => h.kept a (own_ne ho a b)⟩

theorem WriterAt.below {w w' : World} {q : Nat} {l : List UInt8} (h : WriterAt w q l) (hb : Below w.heap.size w w') : WriterAt w' q l := by
  obtain ⟨v, h1, h2⟩ := h
  exact ⟨v, (hb.block q (lt_of_row h1)).trans h1, owns_below h2 hb (Nat.le_refl _)⟩

theorem writerNew_c (w : World) : Calls Tryz.prog 152 #[] w fun e w' => e = .returned (.pointer (some ⟨w.heap.size, 0, none⟩)) ∧ WriterAt w' w.heap.size [] ∧ Below w.heap.size w w' := by
  go_enter Tryz.func152, Tryz.ntmps152
  go_wp2
  go_ret
  exact ⟨rfl, ⟨_, heap_alloc_last w _, own_nil _ _⟩, (Below.refl _ _).alloc (Nat.le_refl _) _⟩

theorem writerNone_c (q : Nat) (w : World) (h : w.cell? ⟨q, 1, none⟩ = some (.bool true)) : Calls Tryz.prog 155 #[.pointer (some ⟨q, 0, none⟩)] w fun e w' => e = .returned (.bool false) ∧ w = w' := by
  go_enter Tryz.func155, Tryz.ntmps155
  go_wp2
  go_ret
  exact ⟨rfl, rfl⟩

theorem notBad_c (n : Nat) (w : World) (h : n ≤ 4611686018427387904) : Calls Tryz.prog 157 #[.int .i64 n] w fun e w' => e = .returned (.bool false) ∧ w = w' := by
  have h0 : ¬ (n : Int) < 0 := by omega
  have h1 := top_not h
  clear h
  go_enter Tryz.func157, Tryz.ntmps157
  go_wp2
  go_ret
  exact ⟨rfl, rfl⟩

/-- Numbers in memory. -/
structure NumsAt (w : World) (b : Nat) (ns : List Nat) : Prop where
  row : ∃ (cs : Array Value) (fr : Nat × Nat), w.heap[b]? = some (.cells cs tInt64 fr) ∧ ∀ (i x : Nat), ns[i]? = some x → cs[i]? = some (Value.int .i64 (x : Nat))

theorem NumsAt.cell {w : World} {b : Nat} {ns : List Nat} (h : NumsAt w b ns) {i x : Nat} (hx : ns[i]? = some x) : w.cell? ⟨b, i, none⟩ = some (.int .i64 (x : Nat)) := by
  obtain ⟨cs, fr, h1, h2⟩ := h.row
  exact (cell_of_row _ _ _ _ _ _ h1).trans (h2 i x hx)

set_option maxRecDepth 100000 in
set_option maxHeartbeats 2000000 in
theorem index64_c {w : World} {b cap : Nat} {ns : List Nat} (h : NumsAt w b ns) (hn : ∀ x ∈ ns, x ≤ 4611686018427387904) (hl : ns.length ≤ 1000) :
    Calls Tryz.prog 181 #[.slice (some ⟨b, 0, none⟩) ns.length cap, .func (.func 157) #[] #[]] w fun e w' => e = .returned (.int .i64 (-1)) ∧ w = w' := by
  have H := Lib.hid (And.intro h hn)
  clear h hn
  generalize hN : ns.length = N at *
  have HN := Lib.hid hN
  clear hN
  go_enter Tryz.func181, Tryz.ntmps181
  go_wp2
  go_loop [5, 8] (fun _ s => ∃ i : Nat, i ≤ N ∧ s = .int .i64 (i : Int)) (fun _ s => N - (intOf s).toNat)
  case atStart => exact ⟨0, by omega, rfl⟩
  case round =>
    obtain ⟨i, hi, rfl⟩ := hrel
    by_cases hlt : i < N
    · have i0 : (0 : Int) ≤ (i : Int) := by omega
      have i1 : (i : Int) < (N : Int) := by omega
      obtain ⟨x, hx⟩ : ∃ x, ns[i]? = some x := ⟨_, List.getElem?_eq_getElem (by rw [HN.out]; exact hlt)⟩
      have hc := H.out.1.cell hx
      have NB := Lib.hid (notBad_c x w (H.out.2 x (List.mem_of_getElem? hx)))
      clear hx
      go_wp2_with (go_at_call 157; refine NB.out.mono ?_; rintro e w' ⟨rfl, rfl⟩)
      go_round
      case rel => exact ⟨i + 1, by omega, by go_num⟩
      case measure => simp [intOf]; omega
    · obtain rfl : i = N := by omega
      go_wp2
      go_ret
      exact ⟨rfl, rfl⟩

theorem contains64_c {w : World} {b cap : Nat} {ns : List Nat} (h : NumsAt w b ns) (hn : ∀ x ∈ ns, x ≤ 4611686018427387904) (hl : ns.length ≤ 1000) :
    Calls Tryz.prog 156 #[.slice (some ⟨b, 0, none⟩) ns.length cap, .func (.func 157) #[] #[]] w fun e w' => e = .returned (.bool false) ∧ w = w' := by
  have H := Lib.hid (index64_c (cap := cap) h hn hl)
  clear h hn
  go_enter Tryz.func156, Tryz.ntmps156
  go_wp2_with (go_at_call 181; refine H.out.mono ?_; rintro e w' ⟨rfl, rfl⟩)
  go_ret
  exact ⟨rfl, rfl⟩

theorem WriterAt.cells {w : World} {q : Nat} {l : List UInt8} (h : WriterAt w q l) : ∃ v, w.cell? ⟨q, 0, none⟩ = some v ∧ w.cell? ⟨q, 1, none⟩ = some (.bool true) ∧ w.frozen? ⟨q, 0, none⟩ = false ∧ w.heap[q]? = some (.cells #[v, .bool true] tWriter (0, 0)) ∧ OwnB w q v l ∧ q < w.heap.size := by
  obtain ⟨v, h1, h2⟩ := h
  exact ⟨v, (cell_of_row _ _ _ _ _ _ h1).trans rfl, (cell_of_row _ _ _ _ _ _ h1).trans rfl, row_free h1 _, h1, h2, lt_of_row h1⟩

set_option maxRecDepth 100000 in
set_option maxHeartbeats 2000000 in
theorem writerNumber_c {w : World} {q b cap : Nat} {l : List UInt8} {ns : List Nat} (hw : WriterAt w q l) (h : NumsAt w b ns) (hn : ∀ x ∈ ns, x ≤ 4611686018427387904) (hl : l.length ≤ 900000000) (hlen : ns.length ≤ 100) :
    Calls Tryz.prog 117 #[.pointer (some ⟨q, 0, none⟩), .slice (some ⟨b, 0, none⟩) ns.length cap] w (Wrote w q (l ++ ns.flatMap Wm.wnum)) := by
  obtain ⟨v0, _, c1, _, _, _, lq⟩ := hw.cells
  have CF := Lib.hid (contains64_c (cap := cap) h hn (by omega))
  have H := Lib.hid (And.intro hw (And.intro h (And.intro hn hl)))
  clear hw h hn hl
  generalize hN : ns.length = N at *
  have HN := Lib.hid hN
  clear hN
  go_enter Tryz.func117, Tryz.ntmps117
  go_wp2_with (first
    | (go_at_call 155; refine (writerNone_c q w c1).mono ?_; rintro e w' ⟨rfl, rfl⟩)
    | (go_at_call 156; refine CF.out.mono ?_; rintro e w' ⟨rfl, rfl⟩))
  go_loopw [6, 15] (fun _ s wr => ∃ i : Nat, i ≤ N ∧ s = .int .i64 (i : Int) ∧ WriterAt wr q (l ++ (ns.take i).flatMap Wm.wnum) ∧ NumsAt wr b ns ∧ Writes w wr q) (fun _ s _ => N - (intOf s).toNat)
  case atStart => exact ⟨0, by omega, rfl, by simpa using H.out.1, H.out.2.1, Writes.refl _ _⟩
  case round =>
    obtain ⟨i, hi, rfl, hw, hns, hb⟩ := hrel
    by_cases hlt : i < N
    · have i0 : (0 : Int) ≤ (i : Int) := by omega
      have i1 : (i : Int) < (N : Int) := by omega
      obtain ⟨x, hx⟩ : ∃ x, ns[i]? = some x := ⟨_, List.getElem?_eq_getElem (by rw [HN.out]; exact hlt)⟩
      have hc := hns.cell hx
      obtain ⟨v, k0, k1, k2, k3, k4, k5⟩ := hw.cells
      have hlen2 : ((ns.take i).flatMap Wm.wnum).length ≤ 900 := by
        have h1 := Em.flatMap_le Wm.wnum 9 (ns.take i) (fun y _ => (Em.wnum_len y).1)
        rw [List.length_take] at h1
        omega
      have NC := Lib.hid (number_c x wr q (Nat.le_of_lt k5) v (l ++ (ns.take i).flatMap Wm.wnum) k4 (by have := H.out.2.2.2; rw [List.length_append]; omega) (top_lt (H.out.2.2.1 x (List.mem_of_getElem? hx))))
      have HR := Lib.hid (And.intro hns (And.intro hb (And.intro k3 (And.intro k4 hx))))
      clear hw hns hb k3 k4 hx hlen2 k2
      go_wp2_with (go_at_call 158; refine NC.out.mono ?_; rintro e w1 ⟨v1, rfl, o1, b1, g1⟩
                   obtain ⟨va, vn, vc, rfl⟩ := o1.at.slice3
                   have r1 := g1.kept HR.out.2.2.1 (own_ne HR.out.2.2.2.1 HR.out.2.2.1 (by decide))
                   have f0 : w1.cell? ⟨q, 0, none⟩ = some v := (cell_of_row _ _ _ _ _ _ r1).trans rfl
                   have f1 := row_free r1 0
                   have HX := Lib.hid (And.intro r1 (And.intro o1 (And.intro b1 g1)))
                   clear r1 o1 b1 g1)
      go_roundw
      case rel =>
        refine ⟨i + 1, by omega, by go_num, ?_, ?_, HR.out.2.1.trans ((writes_adds HX.out.2.2.2 HR.out.2.2.2.1 (Nat.le_of_lt k5)).trans (writes_set _))⟩
        · have := writer_set HX.out.1 HX.out.2.1
          rwa [List.append_assoc, show (ns.take i).flatMap Wm.wnum ++ Wm.wnum x = (ns.take (i + 1)).flatMap Wm.wnum by rw [List.take_add_one, HR.out.2.2.2.2]; simp] at this
        · obtain ⟨cs, fr, r1, r2⟩ := HR.out.1.row
          have hbq : b ≠ q := fun e => by
            have := HR.out.2.2.1
            rw [← e, r1] at this
            cases this
          exact ⟨cs, fr, (heap_setCell_other _ _ b _ hbq).trans (HX.out.2.2.2.kept r1 (own_ne HR.out.2.2.2.1 r1 (by decide))), r2⟩
      case measure => simp [intOf]; omega
    · obtain rfl : i = N := by omega
      go_wp2
      go_ret
      rw [List.take_of_length_le (by rw [HN.out]; exact Nat.le_refl _)] at hw
      exact ⟨rfl, hw, hb⟩

end Go.Proofs.YtgffifleflkjoaaGreat

namespace Go.Proofs.YtgffifleflkjoaaGreat
open Go.RowKit

abbrev strOfB (s : List UInt8) : Value := .string ⟨s.toArray⟩

set_option maxRecDepth 100000 in
set_option maxHeartbeats 2000000 in
theorem writerText_c {w : World} {q : Nat} {l : List UInt8} (hw : WriterAt w q l) (s : List UInt8) (hl : l.length ≤ 900000000) (hs : s.length ≤ 1000000) :
    Calls Tryz.prog 119 #[.pointer (some ⟨q, 0, none⟩), strOfB s] w (Wrote w q (l ++ Wm.wtext s)) := by
  obtain ⟨v, c0, c1, f0, r0, o0, lq⟩ := hw.cells
  have NC := Lib.hid (number_c s.length w q (Nat.le_of_lt lq) v l o0 (by omega) (by omega))
  have H := Lib.hid (And.intro r0 (And.intro o0 (And.intro hl hs)))
  have e1 : ¬ (1048576 : Int) < (s.length : Int) := by omega
  have HL := Lib.hid (show (l ++ Wm.wnum s.length).length + s.length ≤ 1099511627776 by rw [List.length_append]; have := (Em.wnum_len s.length).1; omega)
  have HT := Lib.hid (show l ++ Wm.wtext s = l ++ Wm.wnum s.length ++ s by unfold Wm.wtext; rw [List.append_assoc])
  clear hw r0 o0 hl hs f0
  go_enter Tryz.func119, Tryz.ntmps119
  go_wp2_with (first
    | (go_at_call 155; refine (writerNone_c q w c1).mono ?_; rintro e w' ⟨rfl, rfl⟩)
    | (go_at_call 158; refine NC.out.mono ?_; rintro e w1 ⟨v1, rfl, o1, b1, g1⟩
       obtain ⟨va, vn, vc, rfl⟩ := o1.at.slice3
       have r1 := g1.kept H.out.1 (own_ne H.out.2.1 H.out.1 (by decide))
       have H1 := Lib.hid (And.intro r1 (And.intro o1 (And.intro b1 g1)))
       clear r1 o1 b1 g1)
    | (at_builtin; refine wpList_append_text rfl (.tmp 19) (.tmp 20) rfl q _ (l ++ Wm.wnum s.length) rfl H1.out.2.1 s rfl HL.out (Nat.le_trans (Nat.le_of_lt lq) H1.out.2.2.2.grown.size) ?_; intro v' w2 o2 g2
       obtain ⟨vb, vm, vd, rfl⟩ := o2.out.at.slice3
       have r2 := g2.out.kept H1.out.1 (own_ne H1.out.2.1 H1.out.1 (by decide))
       have f1 : w2.cell? ⟨q, 0, none⟩ = some v := (cell_of_row _ _ _ _ _ _ r2).trans rfl
       have f2 := row_free r2 0
       have H2 := Lib.hid (And.intro r2 (And.intro o2.out g2.out))
       clear r2 o2 g2))
  go_ret
  refine ⟨rfl, ?_, (writes_adds H1.out.2.2.2 H.out.2.1 (Nat.le_of_lt lq)).trans ((writes_adds H2.out.2.2 H1.out.2.1 (Nat.le_trans (Nat.le_of_lt lq) H1.out.2.2.2.grown.size)).trans (writes_set _))⟩
  rw [HT.out]
  exact writer_set H2.out.1 H2.out.2.1

set_option maxRecDepth 100000 in
set_option maxHeartbeats 2000000 in
theorem writerTruth_c {w : World} {q b cap : Nat} {l : List UInt8} (x : Bool) (hw : WriterAt w q l) (h : w.heap[b]? = some (.cells #[.bool x] 4 (0, 0))) (hl : l.length ≤ 900000000) :
    Calls Tryz.prog 128 #[.pointer (some ⟨q, 0, none⟩), .slice (some ⟨b, 0, none⟩) 1 cap] w (Wrote w q (l ++ Wm.wtruth x)) := by
  have c1 : w.cell? ⟨q, 1, none⟩ = some (.bool true) := let ⟨_, _, c, _⟩ := hw.cells; c
  have H := Lib.hid (And.intro hw (And.intro h hl))
  clear hw h hl
  go_enter Tryz.func128, Tryz.ntmps128
  go_wp2_with (go_at_call 155; refine (writerNone_c q w c1).mono ?_; rintro e w' ⟨rfl, rfl⟩)
  go_loopw [6, 7, 12] (fun _ _ s wr => ∃ i : Nat, i ≤ 1 ∧ s = .int .i64 (i : Int) ∧ WriterAt wr q (l ++ if i = 0 then [] else Wm.wtruth x) ∧ (i = 0 → wr = w) ∧ Writes w wr q) (fun _ _ s _ => 1 - (intOf s).toNat)
  case atStart => exact ⟨0, by omega, rfl, by simpa using H.out.1, fun _ => rfl, Writes.refl _ _⟩
  case round =>
    obtain ⟨i, hi, rfl, hw, h0, hb⟩ := hrel
    by_cases hlt : i < 1
    · obtain rfl : i = 0 := by omega
      obtain rfl := h0 rfl
      obtain ⟨v, k0, k1, k2, k3, k4, k5⟩ := H.out.1.cells
      have hc : wr.cell? ⟨b, 0, none⟩ = some (.bool x) := (cell_of_row _ _ _ _ _ _ H.out.2.1).trans rfl
      have HR := Lib.hid (And.intro k3 k4)
      clear hw h0 hb k3 k4 k2
      cases x
      · go_wp2_with (at_builtin; refine wpList_append_grow rfl (.tmp 21) (.tmp 23) rfl q _ l rfl (owns_below HR.out.2 ((Below.refl _ _).alloc (Nat.le_refl _) _) (Nat.le_refl _)) _ [0] (fun _ => True) rfl (one_byte wr _ _ rfl) (by have := H.out.2.2; simp; omega) (by simp; omega) ?_; intro v' w2 ho hg
                     obtain ⟨vb, vm, vd, rfl⟩ := ho.out.at.slice3
                     have G := (((Adds.refl wr v).alloc _).trans hg.out)
                     have r2 := G.kept HR.out.1 (own_ne HR.out.2 HR.out.1 (by decide))
                     have f1 : w2.cell? ⟨q, 0, none⟩ = some v := (cell_of_row _ _ _ _ _ _ r2).trans rfl
                     have f2 := row_free r2 0
                     have H2 := Lib.hid (And.intro r2 (And.intro ho.out G))
                     clear r2 ho hg G)
        go_roundw
        case rel => exact ⟨0 + 1, by omega, by go_num, writer_set H2.out.1 H2.out.2.1, fun h => absurd h (by omega), (writes_adds H2.out.2.2 HR.out.2 (Nat.le_of_lt k5)).trans (writes_set _)⟩
        case measure => simp [intOf]
      · go_wp2_with (at_builtin; refine wpList_append_grow rfl (.tmp 21) (.tmp 23) rfl q _ l rfl (owns_below HR.out.2 ((Below.refl _ _).alloc (Nat.le_refl _) _) (Nat.le_refl _)) _ [1] (fun _ => True) rfl (one_byte wr _ _ rfl) (by have := H.out.2.2; simp; omega) (by simp; omega) ?_; intro v' w2 ho hg
                     obtain ⟨vb, vm, vd, rfl⟩ := ho.out.at.slice3
                     have G := (((Adds.refl wr v).alloc _).trans hg.out)
                     have r2 := G.kept HR.out.1 (own_ne HR.out.2 HR.out.1 (by decide))
                     have f1 : w2.cell? ⟨q, 0, none⟩ = some v := (cell_of_row _ _ _ _ _ _ r2).trans rfl
                     have f2 := row_free r2 0
                     have H2 := Lib.hid (And.intro r2 (And.intro ho.out G))
                     clear r2 ho hg G)
        go_roundw
        case rel => exact ⟨0 + 1, by omega, by go_num, writer_set H2.out.1 H2.out.2.1, fun h => absurd h (by omega), (writes_adds H2.out.2.2 HR.out.2 (Nat.le_of_lt k5)).trans (writes_set _)⟩
        case measure => simp [intOf]
    · obtain rfl : i = 1 := by omega
      go_wp2
      go_ret
      exact ⟨rfl, by simpa using hw, hb⟩

/-- All that was laid: bytes. -/
theorem writerAll_c {w : World} {q : Nat} {l : List UInt8} (hw : WriterAt w q l) (hl : l.length ≤ 900000000) :
    Calls Tryz.prog 154 #[.pointer (some ⟨q, 0, none⟩)] w (GivesBytes w l) := by
  obtain ⟨v, c0, c1, f0, r0, o0, lq⟩ := hw.cells
  have CL := Lib.hid (clone_c o0.at (by omega))
  clear hw r0 o0 f0
  go_enter Tryz.func154, Tryz.ntmps154
  go_wp2_with (first
    | (go_at_call 155; refine (writerNone_c q w c1).mono ?_; rintro e w' ⟨rfl, rfl⟩)
    | (go_at_call 98; refine CL.out.mono ?_; rintro e w1 ⟨v1, rfl, b1, y1⟩))
  go_ret
  exact ⟨_, rfl, b1, y1⟩

end Go.Proofs.YtgffifleflkjoaaGreat

namespace Go.Proofs.YtgffifleflkjoaaGreat
open Go.RowKit

/-- What Frame tells. -/
def FramedB (w : World) (l : List UInt8) (e : Ending) (w' : World) : Prop :=
  ∃ v, e = .returned (.tuple #[v, .int .i64 (if 8192 < l.length then 3 else 0)]) ∧ OwnB w' w.heap.size v (Em.framed l) ∧ Below w.heap.size w w'

set_option maxRecDepth 100000 in
set_option maxHeartbeats 2000000 in
theorem wireFrame_c {w : World} {F : Nat → Prop} {v : Value} {l : List UInt8} (h : BytesAt w.heap F v l) (hl : l.length ≤ 900000000) : Calls Tryz.prog 153 #[v] w (FramedB w l) := by
  obtain ⟨a, cap, rfl⟩ := h.slice
  by_cases h8 : 8192 < l.length
  · have e1 : (8192 : Int) < (l.length : Int) := by omega
    have HF := Lib.hid (show Em.framed l = [] by unfold Em.framed; rw [if_pos h8])
    have H8 := Lib.hid h8
    clear h h8 hl
    generalize hN : l.length = N at *
    go_enter Tryz.func153, Tryz.ntmps153
    go_wp2
    go_ret2
    refine ⟨.slice none 0 0, by rw [hN, if_pos H8.out]; rfl, ?_, Below.refl _ _⟩
    rw [HF.out]
    exact own_nil _ _
  · have e1 : ¬ (8192 : Int) < (l.length : Int) := by omega
    have HF := Lib.hid (show Em.framed l = Wm.frame l by unfold Em.framed; rw [if_neg h8])
    have H := Lib.hid (And.intro h (And.intro h8 hl))
    clear h h8 hl
    generalize hN : l.length = N at *
    have HN := Lib.hid hN
    have op1 : OnePart (w.alloc (.cells #[.slice a N cap] tBytes)) F (.slice (some ⟨w.heap.size, 0, none⟩) 1 1) l :=
      ⟨w.heap.size, _, rfl, (cell_of_row _ _ _ _ _ _ (heap_alloc_last w _)).trans rfl, H.out.1.below ((Below.refl _ _).alloc (Nat.le_refl _) _)⟩
    have SL := Lib.hid (crcSeal_c op1 (by omega))
    clear op1 hN
    go_enter Tryz.func153, Tryz.ntmps153
    go_wp2_with (first
      | (go_at_call 180; refine SL.out.mono ?_; rintro e w1 ⟨v1, rfl, o1, b1⟩
         obtain ⟨va, vc, rfl⟩ := o1.at.slice
         have z1 := Em.sealed_len l
         have H1 := Lib.hid (And.intro o1 (And.intro ((((Below.refl w.heap.size w).alloc (Nat.le_refl _) _).trans (b1.mono (by simp)))) z1))
         have NC := Lib.hid (number_c (Cm.sealed l).length w1 w1.heap.size (Nat.le_refl _) (.slice none 0 0) [] (own_nil _ _) (by simp) (by rw [z1]; have := H.out.2.2; have := HN.out; omega))
         clear o1 b1 z1)
      | (go_at_call 158; refine NC.out.mono ?_; rintro e w2 ⟨v2, rfl, o2, b2, _⟩
         have H2 := Lib.hid (And.intro o2 (And.intro b2 (H1.out.2.1.trans (b2.mono H1.out.2.1.size))))
         clear o2 b2)
      | (at_builtin; refine wpList_append_bytes rfl (.tmp 13) (.tmp 14) rfl w.heap.size w1.heap.size w H2.out.2.2 H1.out.2.1.size _ ([] ++ Wm.wnum (Cm.sealed l).length) rfl H2.out.1 _ (Cm.sealed l) _ rfl (H1.out.1.at.below H2.out.2.1) (by rw [H1.out.2.2]; have := (Em.wnum_len (Cm.sealed l).length).1; rw [H1.out.2.2] at this; have := H.out.2.2; have := HN.out; simp; omega) H2.out.2.1.size ?_; intro v' w4 ho hb1 hb2))
    go_ret2
    refine ⟨v', by rw [HN.out, if_neg (by have := H.out.2.1; have := HN.out; omega)]; rfl, ?_, hb1⟩
    rw [HF.out]
    have := ho.out
    exact owns_below this (Below.refl _ _) H1.out.2.1.size

end Go.Proofs.YtgffifleflkjoaaGreat

namespace Go.Proofs.YtgffifleflkjoaaGreat
open Go.RowKit

set_option maxRecDepth 100000 in
set_option maxHeartbeats 2000000 in
theorem frame_c {w : World} {fn : Nat} {lb : Array Value} {body : List UInt8} (eg : ∀ args w, (callFunc fn args).run Tryz.prog w = .ok (.enter fn args) w) (hl : body.length ≤ 900000000)
    (hbody : ∀ W, Below w.heap.size w W → WriterAt W w.heap.size [] → Calls Tryz.prog fn (#[.pointer (some ⟨w.heap.size, 0, none⟩)] ++ lb) W fun e w' => e = .returned (.tuple #[]) ∧ WriterAt w' w.heap.size body ∧ Below w.heap.size W w') :
    Calls Tryz.prog 115 #[.func (.func fn) #[] lb] w (GivesB w (Em.framed body)) := by
  have HB := Lib.hid hbody
  clear hbody
  go_enter Tryz.func115, Tryz.ntmps115
  go_wp2_with (first
    | (go_at_call 152; refine (writerNew_c w).mono ?_; rintro e w1 ⟨rfl, q1, b1⟩
       have BC := Lib.hid (HB.out w1 b1 q1)
       have H1 := Lib.hid b1
       clear q1 b1)
    | (go_at_call 154; refine (writerAll_c H2.out.1 hl).mono ?_; rintro e w3 ⟨v3, rfl, b3, y3⟩
       have H3 := Lib.hid (And.intro (H2.out.2.trans (b3.mono H2.out.2.size)) y3)
       clear b3 y3)
    | (go_at_call 153; refine (wireFrame_c H3.out.2 hl).mono ?_; rintro e w4 ⟨v4, rfl, o4, b4⟩
       have H4 := Lib.hid (And.intro (H3.out.1.trans (b4.mono H3.out.1.size)) o4)
       clear b4 o4)
    | (refine BC.out.mono ?_; rintro e w2 ⟨rfl, q2, b2⟩
       have H2 := Lib.hid (And.intro q2 (H1.out.trans b2))
       clear q2 b2))
  all_goals
    go_ret
    exact ⟨_, rfl, owns_below H4.out.2 (Below.refl _ _) H3.out.1.size, H4.out.1⟩

abbrev tChange : Nat := 33

/-- Changes in memory, in a block of F. -/
def ChangesAt (w : World) (F : Nat → Prop) (v : Value) (l : List Em.Change) : Prop :=
  ((∃ a c, v = .slice a 0 c) ∧ l = []) ∨ ∃ (b o cap : Nat) (cs : Array Value) (t : TypeId) (fr : Nat × Nat), v = .slice (some ⟨b, o, none⟩) l.length cap ∧ l.length ≤ cap ∧ cap ≤ 9223372036854775807 ∧ F b ∧ w.heap[b]? = some (.cells cs t fr) ∧
    ∀ (i : Nat) (c : Em.Change), l[i]? = some c → cs[o + i * 3]? = some (strOfB c.key) ∧ cs[o + i * 3 + 1]? = some (strOfB c.value) ∧ cs[o + i * 3 + 2]? = some (Value.bool c.gone)

theorem ChangesAt.slice {w : World} {F : Nat → Prop} {v : Value} {l : List Em.Change} (h : ChangesAt w F v l) : ∃ a c, v = .slice a l.length c := by
  rcases h with ⟨⟨_, _, rfl⟩, rfl⟩ | ⟨b, o, cap, cs, t, fr, rfl, _⟩
  · exact ⟨_, _, rfl⟩
  · exact ⟨_, _, rfl⟩

theorem ChangesAt.below {w w' : World} {F : Nat → Prop} {v : Value} {l : List Em.Change} {B : Nat} (h : ChangesAt w F v l) (hb : Below B w w') (hF : ∀ k, F k → k < w.heap.size → k < B) : ChangesAt w' F v l := by
  rcases h with h | ⟨b, o, cap, cs, t, fr, h1, h2, h3, h4, h5, h6⟩
  · exact Or.inl h
  · exact Or.inr ⟨b, o, cap, cs, t, fr, h1, h2, h3, h4, (hb.block b (hF b h4 (lt_of_row h5))).trans h5, h6⟩

theorem ChangesAt.at {w : World} {F : Nat → Prop} {a : Option Addr} {n cap : Nat} {l : List Em.Change} (h : ChangesAt w F (.slice a n cap) l) {i : Nat} {c : Em.Change} (hi : l[i]? = some c) :
    ∃ b o, a = some ⟨b, o, none⟩ ∧ F b ∧ b < w.heap.size ∧ w.rangeAt b (o + i * 3) [strOfB c.key, strOfB c.value, .bool c.gone] := by
  rcases h with ⟨_, rfl⟩ | ⟨b, o, cap', cs, t, fr, h1, h2, h3, h4, h5, h6⟩
  · simp at hi
  · cases h1
    obtain ⟨g1, g2, g3⟩ := h6 i c hi
    refine ⟨b, o, rfl, h4, lt_of_row h5, fun j v hj => ?_⟩
    match j, hj with
    | 0, hj => cases hj; exact (cell_of_row _ _ _ _ _ _ h5).trans g1
    | 1, hj => cases hj; exact (cell_of_row _ _ _ _ _ _ h5).trans g2
    | 2, hj => cases hj; exact (cell_of_row _ _ _ _ _ _ h5).trans g3
    | j + 3, hj => simp at hj

end Go.Proofs.YtgffifleflkjoaaGreat

namespace Go.Proofs.YtgffifleflkjoaaGreat
open Go.RowKit

theorem infoChange : (Tryz.prog.info? tChange).map (·.size) = some 3 := by kernel_rfl

/-- What lays a batch: its closure's one variable holds the changes. -/
theorem laid_take {l : List Em.Change} {i : Nat} {c : Em.Change} (h : l[i]? = some c) : (l.take (i + 1)).flatMap Em.laid = (l.take i).flatMap Em.laid ++ (Wm.wtruth c.gone ++ Wm.wtext c.key ++ (if c.gone = true then [] else Wm.wtext c.value)) := by
  rw [List.take_add_one, h]
  simp [Em.laid]

set_option maxRecDepth 100000 in
set_option maxHeartbeats 4000000 in
theorem batchedIn_c {w : World} {q g : Nat} {F : Nat → Prop} {v : Value} {l : List Em.Change} (hw : WriterAt w q []) (hg : w.cell? ⟨g, 0, none⟩ = some v) (hgq : g < q) (h : ChangesAt w F v l) (hF : ∀ k, F k → k < w.heap.size → k < q) (hr : Em.right l = 0) :
    Calls Tryz.prog 127 #[.pointer (some ⟨q, 0, none⟩), .pointer (some ⟨g, 0, none⟩)] w fun e w' => e = .returned (.tuple #[]) ∧ WriterAt w' q (Em.batchBody l) ∧ Below q w w' := by
  obtain ⟨a, cap, rfl⟩ := h.slice
  have lq : q < w.heap.size := let ⟨_, _, _, _, _, _, x⟩ := hw.cells; x
  obtain ⟨r1, r2⟩ := Em.right_zero hr
  have H := Lib.hid (And.intro hw (And.intro h (And.intro hF (And.intro r1 r2))))
  have lens : ∀ i, ((l.take i).flatMap Em.laid).length ≤ 64 * 4179 := fun i => by
    have h1 := Em.flatMap_le Em.laid 4179 (l.take i) (fun c hc => Em.laid_len (r2 c (List.mem_of_mem_take hc)).2)
    have h2 : (l.take i).length * 4179 ≤ 64 * 4179 := Nat.mul_le_mul_right _ (by rw [List.length_take]; omega)
    omega
  have LN := Lib.hid lens
  clear hw h hF r2 lens hr
  generalize hN : l.length = N at *
  have HN := Lib.hid hN
  have W0 : WriterAt (w.alloc (.cells #[.int .i64 3, .int .i64 N] tInt64)) q [] := H.out.1.below ((Below.refl _ _).alloc (Nat.le_refl _) _)
  have N0 : NumsAt (w.alloc (.cells #[.int .i64 3, .int .i64 N] tInt64)) w.heap.size [3, N] := ⟨_, _, heap_alloc_last w _, fun i x hx => by
    match i, hx with
    | 0, hx => cases hx; rfl
    | 1, hx => cases hx; rfl
    | i + 2, hx => simp at hx⟩
  have WN := Lib.hid (writerNumber_c (cap := 2) W0 N0 (by intro x hx; simp at hx; omega) (by simp) (by simp))
  clear W0 N0 hN
  go_enter Tryz.func127, Tryz.ntmps127
  go_wp2_with (go_at_call 117; refine WN.out.mono ?_; rintro e w1 ⟨rfl, q1, s1⟩
               have B1 := Lib.hid (((Below.refl _ _).alloc (Nat.le_of_lt lq) _).trans s1.below)
               have g1 : w1.cell? ⟨g, 0, none⟩ = some (.slice a N cap) := (B1.out.cell (p := ⟨g, 0, none⟩) hgq).trans hg
               have H1 := Lib.hid q1
               clear q1 s1)
  go_loopw [4, 12] (fun _ s wr => ∃ i : Nat, i ≤ N ∧ s = .int .i64 (i : Int) ∧ WriterAt wr q (Wm.wnum 3 ++ Wm.wnum N ++ (l.take i).flatMap Em.laid) ∧ Below q w wr) (fun _ s _ => N - (intOf s).toNat)
  case atStart => exact ⟨0, by omega, rfl, by simpa using H1.out, B1.out⟩
  case round =>
    obtain ⟨i, hi, rfl, hw, hb⟩ := hrel
    by_cases hlt : i < N
    · have i0 : (0 : Int) ≤ (i : Int) := by omega
      have i1 : (i : Int) < (N : Int) := by omega
      obtain ⟨c, hc⟩ : ∃ c, l[i]? = some c := ⟨_, List.getElem?_eq_getElem (by rw [HN.out]; exact hlt)⟩
      have cb := (H.out.2.2.2.2 c (List.mem_of_getElem? hc))
      have ck := Em.long_not cb.2
      have ch : ChangesAt wr F (.slice a N cap) l := by have := H.out.2.1; exact this.below hb H.out.2.2.1
      obtain ⟨b, o, rfl, fb, lb, rg⟩ := ch.at hc
      have wq : q < wr.heap.size := let ⟨_, _, _, _, _, _, x⟩ := hw.cells; x
      obtain ⟨k, vv, gn⟩ := c
      simp only at ck rg
      have HT := Lib.hid (laid_take hc)
      have len1 : (Wm.wnum 3 ++ Wm.wnum N ++ (l.take i).flatMap Em.laid).length ≤ 800000 := by
        have h1 := LN.out i
        have h2 := (Em.wnum_len 3).1
        have h3 := (Em.wnum_len N).1
        rw [List.length_append, List.length_append]; omega
      obtain ⟨B, hB⟩ : ∃ B, Wm.wnum 3 ++ Wm.wnum N ++ (l.take i).flatMap Em.laid = B := ⟨_, rfl⟩
      rw [hB] at hw len1
      have HBB := Lib.hid hB
      clear hB
      have ZC : (wr.alloc (.cells #[strOfB k, strOfB vv, .bool gn] tChange)).heap[wr.heap.size]? = some (.cells #[strOfB k, strOfB vv, .bool gn] tChange (0, 0)) := heap_alloc_last wr _
      have z2 : (wr.alloc (.cells #[strOfB k, strOfB vv, .bool gn] tChange)).cell? ⟨wr.heap.size, 2, none⟩ = some (.bool gn) := (cell_of_row _ _ _ _ _ _ ZC).trans rfl
      have W2 : WriterAt ((wr.alloc (.cells #[strOfB k, strOfB vv, .bool gn] tChange)).alloc (.cells #[.bool gn] 4)) q B := hw.below (((Below.refl _ _).alloc (Nat.le_refl _) _).alloc (by simp) _)
      have TR := Lib.hid (writerTruth_c (b := wr.heap.size + 1) (cap := 1) gn W2 (by have := heap_alloc_last (wr.alloc (.cells #[strOfB k, strOfB vv, .bool gn] tChange)) (.cells #[.bool gn] 4); simpa using this) (by omega))
      have HR := Lib.hid (And.intro hb (And.intro ZC (And.intro ck len1)))
      have BK := Lib.hid (((Below.refl wr.heap.size wr).alloc (Nat.le_refl _) (.cells #[strOfB k, strOfB vv, .bool gn] tChange)).alloc (by simp) (.cells #[.bool gn] 4))
      have ZK := Lib.hid ((((Below.refl _ _).alloc (Nat.le_refl _) _ : Below _ _ ((wr.alloc (.cells #[strOfB k, strOfB vv, .bool gn] tChange)).alloc (.cells #[.bool gn] 4))).block _ (lt_of_row ZC)).trans ZC)
      have RG := Lib.hid rg
      have wn : wr.heap.size ≠ q := by omega
      clear hw hb ZC W2 len1 ck rg hc cb ch
      cases gn
      · go_wp2_with (first
          | (refine wpList_load_mid rfl tChange (.tmp 14) rfl b (o + i * 3) rfl _ _ RG.out Tryz.underlying33 rfl infoChange ?_)
          | (refine wpList_store_new rfl tChange (.tmp 4) (.tmp 15) rfl _ #[strOfB k, strOfB vv, .bool false] rfl rfl tChange infoChange rfl rfl ?_)
          | (go_at_call 128; (with_reducible refine TR.out.mono ?_); rintro e w3 ⟨rfl, q3, s3⟩
             have ZD := s3.kept _ _ _ _ ZK.out (by decide) wn
             have y0 : w3.cell? ⟨wr.heap.size, 0, none⟩ = some (strOfB k) := (cell_of_row _ _ _ _ _ _ ZD).trans rfl
             have H3 := Lib.hid (And.intro q3 (And.intro s3 ZD))
             have T1 := Lib.hid (writerText_c q3 k (by have := HR.out.2.2.2; rw [List.length_append]; simp [Wm.wtruth]; omega) (by have := HR.out.2.2.1; omega))
             clear q3 s3 ZD)
          | (go_at_call 119; (with_reducible refine T1.out.mono ?_); rintro e w4 ⟨rfl, q4, s4⟩
             have ZE := s4.kept _ _ _ _ H3.out.2.2 (by decide) wn
             have x1 : w4.cell? ⟨wr.heap.size, 1, none⟩ = some (strOfB vv) := (cell_of_row _ _ _ _ _ _ ZE).trans rfl
             have x2 : w4.cell? ⟨wr.heap.size, 2, none⟩ = some (.bool false) := (cell_of_row _ _ _ _ _ _ ZE).trans rfl
             have H4 := Lib.hid (And.intro q4 s4)
             have T2 := Lib.hid (writerText_c q4 vv (by have := HR.out.2.2.2; have := Em.wtext_len k; have := HR.out.2.2.1; rw [List.length_append, List.length_append]; simp [Wm.wtruth]; omega) (by have := HR.out.2.2.1; omega))
             clear q4 s4 ZE)
          | (go_at_call 119; (with_reducible refine T2.out.mono ?_); rintro e w5 ⟨rfl, q5, s5⟩
             have H5 := Lib.hid (And.intro q5 s5)
             clear q5 s5))
        go_roundw
        case rel =>
          refine ⟨i + 1, by omega, by go_num, ?_, HR.out.1.trans ((BK.out.mono (Nat.le_of_lt wq)).trans (H3.out.2.1.below.trans (H4.out.2.below.trans H5.out.2.below)))⟩
          have := H5.out.1
          rw [HT.out, ← List.append_assoc, HBB.out]
          simpa [List.append_assoc] using this
        case measure => simp [intOf]; omega
      · go_wp2_with (first
          | (refine wpList_load_mid rfl tChange (.tmp 14) rfl b (o + i * 3) rfl _ _ RG.out Tryz.underlying33 rfl infoChange ?_)
          | (refine wpList_store_new rfl tChange (.tmp 4) (.tmp 15) rfl _ #[strOfB k, strOfB vv, .bool true] rfl rfl tChange infoChange rfl rfl ?_)
          | (go_at_call 128; (with_reducible refine TR.out.mono ?_); rintro e w3 ⟨rfl, q3, s3⟩
             have ZD := s3.kept _ _ _ _ ZK.out (by decide) wn
             have y0 : w3.cell? ⟨wr.heap.size, 0, none⟩ = some (strOfB k) := (cell_of_row _ _ _ _ _ _ ZD).trans rfl
             have H3 := Lib.hid (And.intro q3 (And.intro s3 ZD))
             have T1 := Lib.hid (writerText_c q3 k (by have := HR.out.2.2.2; rw [List.length_append]; simp [Wm.wtruth]; omega) (by have := HR.out.2.2.1; omega))
             clear q3 s3 ZD)
          | (go_at_call 119; (with_reducible refine T1.out.mono ?_); rintro e w4 ⟨rfl, q4, s4⟩
             have ZE := s4.kept _ _ _ _ H3.out.2.2 (by decide) wn
             have x2 : w4.cell? ⟨wr.heap.size, 2, none⟩ = some (.bool true) := (cell_of_row _ _ _ _ _ _ ZE).trans rfl
             have H4 := Lib.hid (And.intro q4 s4)
             clear q4 s4 ZE))
        go_roundw
        case rel =>
          refine ⟨i + 1, by omega, by go_num, ?_, HR.out.1.trans ((BK.out.mono (Nat.le_of_lt wq)).trans (H3.out.2.1.below.trans H4.out.2.below))⟩
          have := H4.out.1
          rw [HT.out, ← List.append_assoc, HBB.out]
          simpa [List.append_assoc] using this
        case measure => simp [intOf]; omega
    · obtain rfl : i = N := by omega
      go_wp2
      go_end0
      rw [List.take_of_length_le (by rw [HN.out]; exact Nat.le_refl _)] at hw
      refine ⟨rfl, ?_, hb⟩
      unfold Em.batchBody
      rw [HN.out]
      exact hw

end Go.Proofs.YtgffifleflkjoaaGreat

namespace Go.Proofs.YtgffifleflkjoaaGreat
open Go.RowKit

theorem batched_c {w : World} {F : Nat → Prop} {v : Value} {l : List Em.Change} (h : ChangesAt w F v l) (hr : Em.right l = 0) : Calls Tryz.prog 79 #[v] w (GivesB w (Em.batched l)) := by
  have h' : ChangesAt w (fun k => k < w.heap.size) v l := by
    rcases h with h | ⟨b, o, cap, cs, t, fr, h1, h2, h3, h4, h5, h6⟩
    · exact Or.inl h
    · exact Or.inr ⟨b, o, cap, cs, t, fr, h1, h2, h3, lt_of_row h5, h5, h6⟩
  clear h
  obtain ⟨a, cap, rfl⟩ := h'.slice
  have eg := enters_of Tryz.func127 (by kernel_rfl) rfl
  have W0 := Lib.hid (heap_alloc_last w (.cells #[.slice a l.length cap] 34))
  have FC := Lib.hid (frame_c (w := w.alloc (.cells #[.slice a l.length cap] 34)) (fn := 127) (lb := #[.pointer (some ⟨w.heap.size, 0, none⟩)]) eg
    (by have := Em.batchBody_len hr; omega) (fun W hb q1 => batchedIn_c q1 (((hb.cell (p := ⟨w.heap.size, 0, none⟩) (by simp)).trans ((cell_of_row _ _ _ _ _ _ W0.out).trans rfl))) (by simp) (h'.below (((Below.refl w.heap.size w).alloc (Nat.le_refl _) _).trans (hb.mono (by simp))) (fun _ a _ => a)) (fun k a _ => by simp; omega) hr))
  have H := Lib.hid h'
  clear h' eg
  have hmf : ∀ (fn : Fn) (first cap : Array Value) (w : World), (Instr.makeFunc fn first cap).run Tryz.prog w = .ok (.func fn first cap) w := fun _ _ _ _ => rfl
  go_enter Tryz.func79, Tryz.ntmps79
  go_wp2_with (go_at_call 115; refine FC.out.mono ?_; rintro e w1 ⟨v1, rfl, o1, b1⟩)
  go_ret
  exact ⟨_, rfl, owns_below o1 (Below.refl _ _) (by simp), ((Below.refl _ _).alloc (Nat.le_refl _) _).trans (b1.mono (by simp))⟩

theorem empty_beq (s : List UInt8) : ((⟨s.toArray⟩ : ByteArray) == ⟨#[]⟩) = s.isEmpty := by
  show ((⟨s⟩ : Array UInt8) == ⟨[]⟩) = _
  cases s <;> simp

set_option maxRecDepth 100000 in
set_option maxHeartbeats 1000000 in
theorem wrong_c (w : World) (c : Em.Change) : Calls Tryz.prog 124 #[.agg #[strOfB c.key, strOfB c.value, .bool c.gone]] w fun e w' => e = .returned (.bool c.wrong) ∧ Below w.heap.size w w' := by
  obtain ⟨k, v, g⟩ := c
  have HB := Lib.hid ((Below.refl w.heap.size w).alloc (Nat.le_refl _) (.cells #[strOfB k, strOfB v, .bool g] tChange))
  have Z := heap_alloc_last w (.cells #[strOfB k, strOfB v, .bool g] tChange)
  have z0 : (w.alloc (.cells #[strOfB k, strOfB v, .bool g] tChange)).cell? ⟨w.heap.size, 0, none⟩ = some (strOfB k) := (cell_of_row _ _ _ _ _ _ Z).trans rfl
  have z1 : (w.alloc (.cells #[strOfB k, strOfB v, .bool g] tChange)).cell? ⟨w.heap.size, 1, none⟩ = some (strOfB v) := (cell_of_row _ _ _ _ _ _ Z).trans rfl
  have z2 : (w.alloc (.cells #[strOfB k, strOfB v, .bool g] tChange)).cell? ⟨w.heap.size, 2, none⟩ = some (.bool g) := (cell_of_row _ _ _ _ _ _ Z).trans rfl
  clear Z
  have qk := empty_beq k
  have qv := empty_beq v
  go_enter Tryz.func124, Tryz.ntmps124
  go_wp2
  all_goals
    go_ret
    refine ⟨?_, (Below.refl _ _).alloc (Nat.le_refl _) _⟩
    simp_all [Em.Change.wrong]

set_option maxRecDepth 100000 in
set_option maxHeartbeats 1000000 in
theorem long_c (w : World) (c : Em.Change) : Calls Tryz.prog 125 #[.agg #[strOfB c.key, strOfB c.value, .bool c.gone]] w fun e w' => e = .returned (.bool c.long) ∧ Below w.heap.size w w' := by
  obtain ⟨k, v, g⟩ := c
  have Z := heap_alloc_last w (.cells #[strOfB k, strOfB v, .bool g] tChange)
  have z0 : (w.alloc (.cells #[strOfB k, strOfB v, .bool g] tChange)).cell? ⟨w.heap.size, 0, none⟩ = some (strOfB k) := (cell_of_row _ _ _ _ _ _ Z).trans rfl
  have z1 : (w.alloc (.cells #[strOfB k, strOfB v, .bool g] tChange)).cell? ⟨w.heap.size, 1, none⟩ = some (strOfB v) := (cell_of_row _ _ _ _ _ _ Z).trans rfl
  clear Z
  by_cases h1 : 64 < k.length
  · have d1 : (64 : Int) < (k.length : Int) := by omega
    go_enter Tryz.func125, Tryz.ntmps125
    go_wp2
    go_ret
    refine ⟨?_, (Below.refl _ _).alloc (Nat.le_refl _) _⟩
    rw [show (Em.Change.mk k v g).long = true by simp [Em.Change.long, h1]]
    rfl
  · have d1 : ¬ (64 : Int) < (k.length : Int) := by omega
    have d2 : decide ((4096 : Int) < (v.length : Int)) = (Em.Change.mk k v g).long := by
      simp only [Em.Change.long, decide_eq_false h1, Bool.false_or]
      exact decide_eq_decide.2 (by omega)
    go_enter Tryz.func125, Tryz.ntmps125
    go_wp2
    go_ret
    refine ⟨?_, (Below.refl _ _).alloc (Nat.le_refl _) _⟩
    rw [← d2]
    rfl

end Go.Proofs.YtgffifleflkjoaaGreat
