/-
  evlog: a record.
  evlog: the next record of a tape.
  evlog: a change of a record.
  evlog: no change of a record.
-/
import Derived.Test.YtgffifleflkjoaaGreatG27
import Derived.Test.YtgffifleflkjoaaGreatG30

namespace Go.Proofs.YtgffifleflkjoaaGreat
open Go.RowKit Dm

/-- A cell that is no byte may be turned. -/
theorem BytesAt.apart {w : World} {F : Nat → Prop} {v : Value} {l : List UInt8} {g : Nat} {c : Array Value} {ty : TypeId} {fr : Nat × Nat} (h : BytesAt w.heap F v l) (r : w.heap[g]? = some (.cells c ty fr)) (hf : fr = (0, 0)) (hc : ∀ x : UInt8, c[0]? ≠ some (bval x)) (u : Value) :
    BytesAt (w.setCell ⟨g, 0, none⟩ u).heap F v l := by
  subst hf
  rcases h with h | ⟨b, o, cap, cs, t, fr', h1, h2, h3, h4, h5, h6⟩
  · exact Or.inl h
  · by_cases hb : b = g
    · subst hb
      rw [r] at h5
      cases h5
      refine Or.inr ⟨b, o, cap, _, ty, (0, 0), h1, h2, h3, h4, heap_setCell_same w b 0 c ty u r, fun i x hi => ?_⟩
      have h7 := h6 i x hi
      have hne : o + i ≠ 0 := fun e => by rw [e] at h7; exact hc x h7
      rw [Array.getElem?_setIfInBounds_ne (by omega)]
      exact h7
    · exact Or.inr ⟨b, o, cap, cs, t, fr', h1, h2, h3, h4, (heap_setCell_other _ _ b _ hb).trans h5, h6⟩

theorem RdAt.apart {w : World} {q g : Nat} {l : List UInt8} {c : Array Value} {ty : TypeId} (h : RdAt w q l) (hg : q ≠ g) (r : w.heap[g]? = some (.cells c ty (0, 0))) (hc : ∀ x : UInt8, c[0]? ≠ some (bval x)) (u : Value) : RdAt (w.setCell ⟨g, 0, none⟩ u) q l := by
  obtain ⟨v, e, y⟩ := h
  exact ⟨v, (heap_setCell_other _ _ q _ hg).trans e, y.apart r rfl hc u⟩

set_option maxRecDepth 100000 in
set_option maxHeartbeats 1000000 in
theorem record_yes {w : World} {F : Nat → Prop} {v : Value} {l r : List UInt8} {kind : Nat} (h : BytesAt w.heap F v l) (hl : l.length ≤ 1000000000) (hr : Wm.rnum 3 l = some (kind, r)) :
    Calls Tryz.prog 147 #[v, .int .i64 kind] w fun e w' => ∃ q, e = .returned (.agg #[.pointer (some ⟨q, 0, none⟩)]) ∧ RdAt w' q r ∧ w.heap.size ≤ q ∧ Below w.heap.size w w' := by
  obtain ⟨W, hW⟩ : ∃ W, w.alloc (.cells #[.pointer none] tERd) = W := ⟨_, rfl⟩
  have B : Below w.heap.size w W := by rw [← hW]; exact (Below.refl _ _).alloc (Nat.le_refl _) _
  have r4 : W.heap[w.heap.size]? = some (.cells #[.pointer none] tERd (0, 0)) := by rw [← hW]; exact heap_alloc_last w _
  have s : W.heap.size = w.heap.size + 1 := by rw [← hW]; simp
  have RC := Lib.hid (wread_c (h.below B) hl)
  have HB := Lib.hid (And.intro B (And.intro r4 s))
  have HW := Lib.hid hW
  clear h B r4 s hW
  go_enter Tryz.func147, Tryz.ntmps147
  go_upto_region 1 with fail
  rw [HW.out]
  go_wp2_with (first
    | (go_at_call 173; refine RC.out.mono ?_; rintro e w1 ⟨q, rfl, x1, hq, b1⟩
       have B2 : Below w1.heap.size w1 (w1.alloc (.cells #[.pointer (some ⟨q, 0, none⟩)] tERd)) := (Below.refl _ _).alloc (Nat.le_refl _) _
       have NC := Lib.hid (enum_yes (x1.later B2) hl hr)
       have H1 := Lib.hid (And.intro x1 (And.intro hq (And.intro b1 B2)))
       have k5 := row_cell (heap_alloc_last w1 (.cells #[.pointer (some ⟨q, 0, none⟩)] tERd)) (j := 0) rfl
       have lq := x1.lt
       clear x1 b1 B2)
    | (go_at_call 148; refine NC.out.mono ?_; rintro e w2 ⟨rfl, x2, m2⟩
       have j5 := (World.cell?_of_block (m2.block w1.heap.size (by simp) (by omega))).trans k5
       have s1 := H1.out.2.2.1.size
       have r4 := (m2.block w.heap.size (by have := HB.out.2.2; simp; omega) (by have := H1.out.2.1; have := HB.out.2.2; omega)).trans ((Below.heap_alloc _ _ _ (by have := HB.out.2.2; omega)).trans ((H1.out.2.2.1.block _ (by have := HB.out.2.2; omega)).trans HB.out.2.1))
       have j4 := row_cell r4 (j := 0) rfl
       have z4 := row_free r4 0
       have H2 := Lib.hid (And.intro x2 (And.intro m2 (And.intro r4 s1)))
       clear x2 m2 r4 s1 k5 lq)
    | (go_at_call 109; refine (must_yes _).mono ?_; rintro e w' ⟨rfl, rfl⟩))
  obtain ⟨x2, m2, r4, s1⟩ := H2.out
  obtain ⟨x1, hq, b1, B2⟩ := H1.out
  obtain ⟨B, r0, sz⟩ := HB.out
  have ms := setCell_moves w2 w.heap.size 0 (.pointer (some ⟨q, 0, none⟩))
  have r5 := heap_setCell_same _ _ 0 _ tERd (.pointer (some ⟨q, 0, none⟩)) r4
  refine bodyPost_ret (results_cell_row rfl _ _ w.heap.size _ _ _ _ rfl r5 Tryz.underlying214 rfl (by kernel_rfl)) rfl ?_
  refine ⟨q, rfl, x2.apart (by omega) r4 (fun x => by simp [bval]) _, by omega, ?_⟩
  have b3 : Below w.heap.size w (w1.alloc (.cells #[.pointer (some ⟨q, 0, none⟩)] tERd)) := (B.trans (b1.mono B.size)).trans (B2.mono (B.trans (b1.mono B.size)).size)
  exact (((Moves.of_below (O := fun _ => False) b3).trans m2 (fun i hi h => by omega)).trans ms (fun i hi h => by omega)).below

set_option maxRecDepth 100000 in
set_option maxHeartbeats 1000000 in
theorem record_no {w : World} {F : Nat → Prop} {v : Value} {l : List UInt8} {kind : Nat} (h : BytesAt w.heap F v l) (hl : l.length ≤ 1000000000) (hr : ∀ r, Wm.rnum 3 l ≠ some (kind, r)) :
    Calls Tryz.prog 147 #[v, .int .i64 kind] w fun e w' => e = .panicked gaveUp ∧ Below w.heap.size w w' := by
  obtain ⟨W, hW⟩ : ∃ W, w.alloc (.cells #[.pointer none] tERd) = W := ⟨_, rfl⟩
  have B : Below w.heap.size w W := by rw [← hW]; exact (Below.refl _ _).alloc (Nat.le_refl _) _
  have s : W.heap.size = w.heap.size + 1 := by rw [← hW]; simp
  have RC := Lib.hid (wread_c (h.below B) hl)
  have HB := Lib.hid (And.intro B s)
  have HW := Lib.hid hW
  clear h B s hW
  have low : ∀ (w1 w2 : World) (q : Nat), Below W.heap.size W w1 → W.heap.size ≤ q → Moves (fun k => k = q) (w1.alloc (.cells #[.pointer (some ⟨q, 0, none⟩)] tERd)) w2 → Below w.heap.size w w2 := by
    intro w1 w2 q b1 hq m2
    have b3 : Below w.heap.size w (w1.alloc (.cells #[.pointer (some ⟨q, 0, none⟩)] tERd)) := (HB.out.1.trans (b1.mono HB.out.1.size)).alloc (HB.out.1.trans (b1.mono HB.out.1.size)).size _
    exact ((Moves.of_below (O := fun _ => False) b3).trans m2 (fun i hi h => by have := HB.out.2; omega)).below
  have LOW := Lib.hid low
  clear low
  cases hn : Wm.rnum 3 l with
  | none =>
    have HN := Lib.hid hn
    clear hn hr
    go_enter Tryz.func147, Tryz.ntmps147
    go_upto_region 1 with fail
    rw [HW.out]
    go_wp2_with (first
      | (go_at_call 173; refine RC.out.mono ?_; rintro e w1 ⟨q, rfl, x1, hq, b1⟩
         have B2 : Below w1.heap.size w1 (w1.alloc (.cells #[.pointer (some ⟨q, 0, none⟩)] tERd)) := (Below.refl _ _).alloc (Nat.le_refl _) _
         have NC := Lib.hid (enum_no (x1.later B2) hl HN.out)
         have H1 := Lib.hid (And.intro hq b1)
         have k5 := row_cell (heap_alloc_last w1 (.cells #[.pointer (some ⟨q, 0, none⟩)] tERd)) (j := 0) rfl
         clear x1 b1 B2)
      | (go_at_call 148; refine NC.out.mono ?_; rintro e w2 ⟨rfl, m2⟩))
    exact ⟨rfl, rfl, LOW.out _ _ _ H1.out.2 H1.out.1 m2⟩
  | some p =>
    obtain ⟨k, r⟩ := p
    have hk : k ≠ kind := fun e => by subst e; exact hr r hn
    have g1 : ((k : Int) == (kind : Int)) = false := by rw [beq_eq_false_iff_ne]; omega
    have HN := Lib.hid hn
    clear hn hr hk
    go_enter Tryz.func147, Tryz.ntmps147
    go_upto_region 1 with fail
    rw [HW.out]
    go_wp2_with (first
      | (go_at_call 173; refine RC.out.mono ?_; rintro e w1 ⟨q, rfl, x1, hq, b1⟩
         have B2 : Below w1.heap.size w1 (w1.alloc (.cells #[.pointer (some ⟨q, 0, none⟩)] tERd)) := (Below.refl _ _).alloc (Nat.le_refl _) _
         have NC := Lib.hid (enum_yes (x1.later B2) hl HN.out)
         have H1 := Lib.hid (And.intro hq b1)
         have k5 := row_cell (heap_alloc_last w1 (.cells #[.pointer (some ⟨q, 0, none⟩)] tERd)) (j := 0) rfl
         clear x1 b1 B2)
      | (go_at_call 148; refine NC.out.mono ?_; rintro e w2 ⟨rfl, _, m2⟩; have H2 := Lib.hid m2; clear m2)
      | (go_at_call 109; refine (must_no _).mono ?_; rintro e w' ⟨rfl, rfl⟩))
    exact ⟨rfl, rfl, LOW.out _ _ _ H1.out.2 H1.out.1 H2.out⟩

end Go.Proofs.YtgffifleflkjoaaGreat

namespace Go.Proofs.YtgffifleflkjoaaGreat
open Go.RowKit Dm

/-- A tape that is read: its bytes, how far. -/
structure NextAt (w : World) (g1 g2 : Nat) (l : List UInt8) (fin : Nat) : Prop where
  tape : ∃ v, w.cell? ⟨g1, 0, none⟩ = some v ∧ BytesAt w.heap (fun k => k < g1) v l
  far : w.heap[g2]? = some (.cells #[.int .i64 fin] tInt (0, 0))
  lt : g1 < g2
  le : fin ≤ l.length

theorem NextAt.moves {w w' : World} {g1 g2 : Nat} {l : List UInt8} {fin : Nat} {O : Nat → Prop} (h : NextAt w g1 g2 l fin) (hm : Moves O w w') (ho : ∀ k, k ≤ g1 ∨ k = g2 → ¬ O k) : NextAt w' g1 g2 l fin := by
  obtain ⟨v, c, y⟩ := h.tape
  exact ⟨⟨v, (World.cell?_of_block (hm.block g1 (block_lt_of_cell c) (ho g1 (Or.inl (Nat.le_refl _))))).trans c, y.keeps (fun k hk hl => hm.block k hl (ho k (Or.inl (Nat.le_of_lt hk)))) (fun _ hk _ => hk)⟩, (hm.block g2 (lt_of_row h.far) (ho g2 (Or.inr rfl))).trans h.far, h.lt, h.le⟩

theorem NextAt.later {w w' : World} {g1 g2 : Nat} {l : List UInt8} {fin : Nat} (h : NextAt w g1 g2 l fin) (hb : Below w.heap.size w w') : NextAt w' g1 g2 l fin := h.moves (Moves.of_below (O := fun _ => False) hb) (fun _ _ h => h)

theorem split_pos {b body : List UInt8} {n : Nat} (h : Wm.split b = some (body, n)) : 0 < n ∧ n ≤ b.length ∧ body.length ≤ b.length := by
  have hs : Wm.split b = (if (Wm.first b).2 ≤ 0 ∨ (Wm.first b).1 < 4 ∨ (Wm.first b).1 > 8196 then none
    else if (b.length : Int) - (Wm.first b).2 < (Wm.first b).1 then none
    else match Wm.opened ((b.drop (Wm.first b).2.toNat).take (Wm.first b).1) with | some body => some (body, (Wm.first b).2.toNat + (Wm.first b).1) | none => none) := rfl
  rw [hs] at h
  by_cases h1 : (Wm.first b).2 ≤ 0 ∨ (Wm.first b).1 < 4 ∨ (Wm.first b).1 > 8196
  · rw [if_pos h1] at h; cases h
  · rw [if_neg h1] at h
    by_cases h2 : (b.length : Int) - (Wm.first b).2 < (Wm.first b).1
    · rw [if_pos h2] at h; cases h
    · rw [if_neg h2] at h
      obtain ⟨q1, q2⟩ := not_or.1 h1
      cases ho : Wm.opened ((b.drop (Wm.first b).2.toNat).take (Wm.first b).1) with
      | none => rw [ho] at h; cases h
      | some x =>
        rw [ho] at h
        have e := Option.some.inj h
        have e1 : x = body := congrArg Prod.fst e
        have e2 : (Wm.first b).2.toNat + (Wm.first b).1 = n := congrArg Prod.snd e
        have hx : x.length ≤ b.length := by
          unfold Wm.opened at ho
          split at ho
          · cases ho
          · split at ho
            · have := Option.some.inj ho
              rw [← this, List.length_take, List.length_take, List.length_drop]
              omega
            · cases ho
        rw [← e1]
        refine ⟨by omega, by omega, hx⟩

set_option maxRecDepth 100000 in
set_option maxHeartbeats 1000000 in
theorem next_yes {w : World} {g1 g2 : Nat} {l body : List UInt8} {fin n : Nat} (h : NextAt w g1 g2 l fin) (hl : l.length ≤ 1000000000) (hs : Wm.split (l.drop fin) = some (body, n)) :
    Calls Tryz.prog 107 #[.pointer (some ⟨g1, 0, none⟩), .pointer (some ⟨g2, 0, none⟩)] w fun e w' => ∃ v', e = .returned v' ∧ BytesAt w'.heap (fun k => w.heap.size ≤ k) v' body ∧ NextAt w' g1 g2 l (fin + n) ∧ Moves (fun k => k = g2) w w' := by
  obtain ⟨hn0, hn1, _⟩ := split_pos hs
  have H := Lib.hid h
  obtain ⟨⟨v, c1, y⟩, r2, hlt, hle⟩ := h
  have hdl : (l.drop fin).length = l.length - fin := List.length_drop
  obtain ⟨ya, yc, rfl⟩ := y.slice
  obtain ⟨b, o, rfl, hcap, hcap2, _⟩ := y.row (by omega)
  have back := y.back (n := fin) hle
  rw [← hdl] at back
  have SC := Lib.hid (split_c back (by omega))
  have HS := Lib.hid hs
  have c2 := row_cell r2 (j := 0) rfl
  have l2 := lt_of_row r2
  have R2 := Lib.hid r2
  have HN := Lib.hid (And.intro hn1 (And.intro hle hdl))
  rw [hdl] at SC hn1
  clear hs back y r2 hdl
  generalize hL : l.length = L at *
  have HL := Lib.hid hL
  clear hL
  have d1 : ¬ (yc : Int) = (fin : Int) := by omega
  have d2 : (fin : Int) ≤ (L : Int) := by omega
  have d3 : ¬ (fin : Int) < 0 := by omega
  have d6 : (fin : Int) ≤ (yc : Int) := by omega
  have d7 : (0 : Int) ≤ (fin : Int) := by omega
  have d4 : (0 : Int) < (n : Int) := by omega
  have d5 : IntKind.i64.wrap ((fin : Int) + (n : Int)) = ((fin + n : Nat) : Int) := IntWalk.i64_in _ (by omega)
  clear hn1 hl hle d4
  go_enter Tryz.func107, Tryz.ntmps107
  go_wp2_with (first
    | (go_at_call 108; refine SC.out.mono ?_; intro e w1 h1; unfold SplitB at h1; rw [HS.out] at h1; obtain ⟨b1, v1, rfl, y1⟩ := h1
       have r2 := (b1.block g2 l2).trans R2.out
       have j2 := row_cell r2 (j := 0) rfl
       have z2 := row_free r2 0
       have H1 := Lib.hid (And.intro b1 (And.intro y1 r2))
       clear b1 y1 r2)
    | (go_at_call 109; refine (must_yes _).mono ?_; rintro e w' ⟨rfl, rfl⟩))
  go_ret
  obtain ⟨b1, y1, r2⟩ := H1.out
  have ms := setCell_moves w1 g2 0 (.int .i64 ((fin + n : Nat) : Int))
  have lt := H.out.lt
  have h2 := (H.out.later b1).tape
  obtain ⟨v0, k0, y0⟩ := h2
  have mv : Moves (fun k => k = g2) w (w1.setCell ⟨g2, 0, none⟩ (.int .i64 ((fin + n : Nat) : Int))) := (Moves.of_below b1).trans ms (fun _ _ h => h)
  refine ⟨v1, rfl, y1.keeps (fun k hk hkl => ms.block k hkl (by have := lt_of_row R2.out; omega)) (fun _ hk _ => hk), ⟨⟨v0, (World.cell?_of_block (ms.block g1 (block_lt_of_cell k0) (by omega))).trans k0, y0.keeps (fun k hk hkl => ms.block k hkl (by omega)) (fun _ hk _ => hk)⟩, heap_setCell_same _ _ 0 _ tInt _ r2, lt, ?_⟩, mv⟩
  have hdl := HN.out.2.2
  have h3 := HN.out.1
  have h4 := HN.out.2.1
  have h5 := HL.out
  omega

set_option maxRecDepth 100000 in
set_option maxHeartbeats 1000000 in
theorem next_no {w : World} {g1 g2 : Nat} {l : List UInt8} {fin : Nat} (h : NextAt w g1 g2 l fin) (hl : l.length ≤ 1000000000) (hs : Wm.split (l.drop fin) = none) :
    Calls Tryz.prog 107 #[.pointer (some ⟨g1, 0, none⟩), .pointer (some ⟨g2, 0, none⟩)] w fun e w' => e = .panicked gaveUp ∧ Below w.heap.size w w' := by
  obtain ⟨⟨v, c1, y⟩, r2, hlt, hle⟩ := h
  have c2 := row_cell r2 (j := 0) rfl
  have hdl : (l.drop fin).length = l.length - fin := List.length_drop
  clear r2 hlt
  have SPL : ∀ (u : Value), BytesAt w.heap (fun k => k < g1) u (l.drop fin) → Calls Tryz.prog 108 #[u] w fun e w' => Below w.heap.size w w' ∧ e = .returned (.tuple #[.slice none 0 0, .int .i64 0, .int .i64 (Wm.splitErr (l.drop fin))]) := fun u hu => by
    refine (split_c hu (by omega)).mono ?_
    intro e w1 h1
    unfold SplitB at h1
    rw [hs] at h1
    exact h1
  generalize Wm.splitErr (l.drop fin) = er at SPL
  rcases y with ⟨rfl, rfl⟩ | ⟨b, o, cap, cs, t, fr, rfl, h1, h2, h3, h4, h5⟩
  · have e0 : fin = 0 := by simpa using hle
    subst e0
    have SC := Lib.hid (SPL (.slice none 0 0) (Or.inl ⟨rfl, rfl⟩))
    clear SPL hdl hl hle hs
    go_enter Tryz.func107, Tryz.ntmps107
    by_cases he : er = 0
    · subst he
      go_wp2_with (first
        | (go_at_call 108; refine SC.out.mono ?_; rintro e w1 ⟨b1, rfl⟩)
        | (go_at_call 109; refine (must_no _).mono ?_; rintro e w' ⟨rfl, rfl⟩))
      exact ⟨rfl, rfl, b1⟩
    · go_wp2_with (first
        | (go_at_call 108; refine SC.out.mono ?_; rintro e w1 ⟨b1, rfl⟩)
        | (go_at_call 109; refine (must_no _).mono ?_; rintro e w' ⟨rfl, rfl⟩))
      exact ⟨rfl, rfl, b1⟩
  · have y : BytesAt w.heap (fun k => k < g1) (.slice (some ⟨b, o, none⟩) l.length cap) l := Or.inr ⟨b, o, cap, cs, t, fr, rfl, h1, h2, h3, h4, h5⟩
    have back := y.back (n := fin) hle
    have empty : l.length - fin = 0 → BytesAt w.heap (fun k => k < g1) (.slice (some ⟨b, o, none⟩) (l.length - fin) (cap - fin)) (l.drop fin) := fun e0 => by
      rw [List.drop_of_length_le (show l.length ≤ fin by omega)]
      exact Or.inr ⟨b, o, cap - fin, cs, t, fr, by rw [e0]; rfl, Nat.zero_le _, Nat.le_trans (Nat.sub_le _ _) h2, h3, h4, fun i x hi => by simp at hi⟩
    have SC := Lib.hid (SPL _ back)
    have SE := Lib.hid (fun e0 => SPL _ (empty e0))
    clear SPL back empty y h3 h4 h5 hdl hs
    generalize l.length = L at *
    have d2 : (fin : Int) ≤ (L : Int) := by omega
    have d3 : ¬ (fin : Int) < 0 := by omega
    have d6 : (fin : Int) ≤ (cap : Int) := by omega
    have d7 : (0 : Int) ≤ (fin : Int) := by omega
    go_enter Tryz.func107, Tryz.ntmps107
    by_cases hc : cap = fin
    · have d1 : (cap : Int) = (fin : Int) := by omega
      have S0 := Lib.hid (SE.out (by omega))
      clear hc hle hl h1 h2 SE SC
      by_cases he : er = 0
      · subst he
        go_wp2_with (first
          | (go_at_call 108; refine S0.out.mono ?_; rintro e w1 ⟨b1, rfl⟩)
          | (go_at_call 109; refine (must_no _).mono ?_; rintro e w' ⟨rfl, rfl⟩))
        exact ⟨rfl, rfl, b1⟩
      · go_wp2_with (first
          | (go_at_call 108; refine S0.out.mono ?_; rintro e w1 ⟨b1, rfl⟩)
          | (go_at_call 109; refine (must_no _).mono ?_; rintro e w' ⟨rfl, rfl⟩))
        exact ⟨rfl, rfl, b1⟩
    · have d1 : ¬ (cap : Int) = (fin : Int) := by omega
      clear hc hle hl h1 h2 SE
      by_cases he : er = 0
      · subst he
        go_wp2_with (first
          | (go_at_call 108; refine SC.out.mono ?_; rintro e w1 ⟨b1, rfl⟩)
          | (go_at_call 109; refine (must_no _).mono ?_; rintro e w' ⟨rfl, rfl⟩))
        exact ⟨rfl, rfl, b1⟩
      · go_wp2_with (first
          | (go_at_call 108; refine SC.out.mono ?_; rintro e w1 ⟨b1, rfl⟩)
          | (go_at_call 109; refine (must_no _).mono ?_; rintro e w' ⟨rfl, rfl⟩))
        exact ⟨rfl, rfl, b1⟩

end Go.Proofs.YtgffifleflkjoaaGreat

namespace Go.Proofs.YtgffifleflkjoaaGreat
open Go.RowKit Dm

theorem rtruth_len {l r : List UInt8} {b : Bool} (h : Wm.rtruth l = some (b, r)) : r.length ≤ l.length := by
  cases l with
  | nil => cases h
  | cons c l =>
    have h' : (if c > 1 then none else some (c == 1, l)) = some (b, r) := h
    by_cases hc : c > 1
    · rw [if_pos hc] at h'; cases h'
    · rw [if_neg hc] at h'
      have e : l = r := congrArg Prod.snd (Option.some.inj h')
      subst e
      simp

theorem rtext_len {l r s : List UInt8} {most : Nat} (h : Wm.rtext most l = some (s, r)) : r.length ≤ l.length ∧ s.length ≤ most := by
  rw [rtext_eq] at h
  cases hn : Wm.rnum most l with
  | none => rw [hn] at h; cases h
  | some p =>
    obtain ⟨n, r0⟩ := p
    rw [hn] at h
    simp only at h
    obtain ⟨k1, k2, _⟩ := rnum_len hn
    by_cases hq : n > r0.length
    · rw [if_pos hq] at h; cases h
    · rw [if_neg hq] at h
      have e := Option.some.inj h
      have e1 : r0.take n = s := congrArg Prod.fst e
      have e2 : r0.drop n = r := congrArg Prod.snd e
      rw [← e1, ← e2, List.length_drop, List.length_take]
      omega

theorem set_row {w : World} {g : Nat} {C : Array Value} {t : TypeId} (r : w.heap[g]? = some (.cells C t (0, 0))) (j : Nat) (v : Value) : ∃ W, w.setCell ⟨g, j, none⟩ v = W ∧ W.heap[g]? = some (.cells (C.setIfInBounds j v) t (0, 0)) ∧ Moves (fun k => k = g) w W :=
  ⟨_, rfl, heap_setCell_same w g j C t v r, setCell_moves w g j v⟩

abbrev chgC (k v : Value) (g : Bool) : Array Value := #[k, v, .bool g]

set_option maxRecDepth 100000 in
set_option maxHeartbeats 2000000 in
theorem change_yes {w : World} {q : Nat} {l r : List UInt8} {c : Em.Change} (h : RdAt w q l) (hl : l.length ≤ 1000000000) (hr : Em.rchange l = some (c, r)) :
    Calls Tryz.prog 151 #[.agg #[.pointer (some ⟨q, 0, none⟩)]] w fun e w' => e = .returned (.agg #[strOfB c.key, strOfB c.value, .bool c.gone]) ∧ RdAt w' q r ∧ Moves (fun k => k = q) w w' := by
  have lq := h.lt
  obtain ⟨W, hW⟩ : ∃ W, (w.alloc (.cells #[.pointer (some ⟨q, 0, none⟩)] tERd)).alloc (.cells (chgC (.string ⟨#[]⟩) (.string ⟨#[]⟩) false) tChange) = W := ⟨_, rfl⟩
  have B : Below w.heap.size w W := by rw [← hW]; exact ((Below.refl _ _).alloc (Nat.le_refl _) _).alloc (by simp) _
  have r1 : W.heap[w.heap.size]? = some (.cells #[.pointer (some ⟨q, 0, none⟩)] tERd (0, 0)) := by rw [← hW]; exact heap_past (by simp) (heap_alloc_last w _)
  have r2 : W.heap[w.heap.size + 1]? = some (.cells (chgC (.string ⟨#[]⟩) (.string ⟨#[]⟩) false) tChange (0, 0)) := by rw [← hW]; exact heap_at (w := w.alloc _) _ (by simp)
  have c1 := row_cell r1 (j := 0) rfl
  unfold Em.rchange at hr
  cases ht : Wm.rtruth l with
  | none => rw [ht] at hr; cases hr
  | some p =>
    obtain ⟨g, ra⟩ := p
    rw [ht] at hr
    simp only at hr
    cases hk : Wm.rtext 64 ra with
    | none => rw [hk] at hr; cases hr
    | some p =>
      obtain ⟨k, rb⟩ := p
      rw [hk] at hr
      simp only at hr
      have la := rtruth_len ht
      have lb := (rtext_len hk).1
      have TC := Lib.hid (truth_yes (h.later B) hl ht)
      have KC := Lib.hid (fun (X : World) (hx : RdAt X q ra) => etext_yes hx (by omega) hk)
      have HB := Lib.hid (And.intro B (And.intro r1 (And.intro r2 lq)))
      have HW := Lib.hid hW
      clear h B r1 r2 lq hW ht hk
      cases g with
      | true =>
        rw [if_pos rfl] at hr
        obtain ⟨rfl, rfl⟩ : (⟨k, [], true⟩ : Em.Change) = c ∧ rb = r := by
          have := Option.some.inj hr
          exact ⟨congrArg Prod.fst this, congrArg Prod.snd this⟩
        clear hr
        go_enter Tryz.func151, Tryz.ntmps151
        go_upto_region 1 with fail
        rw [HW.out]
        go_wp2_with (first
          | (go_at_call 179; refine TC.out.mono ?_; rintro e w1 ⟨rfl, x1, m1⟩
             have j1 := (World.cell?_of_block (m1.block w.heap.size (lt_of_row HB.out.2.1) (by have := HB.out.2.2.2; omega))).trans c1
             have H1 := Lib.hid (And.intro x1 m1)
             clear x1 m1 c1)
          | (go_at_call 109; refine (must_yes _).mono ?_; rintro e w' ⟨rfl, rfl⟩)
          | (go_at_call 150; refine (KC.out _ H1.out.1).mono ?_; rintro e w2 ⟨rfl, x2, m2⟩
             have t2 := (m2.block (w.heap.size + 1) (by have := lt_of_row HB.out.2.2.1; have := H1.out.2.size; omega) (by have := HB.out.2.2.2; omega)).trans ((H1.out.2.block (w.heap.size + 1) (lt_of_row HB.out.2.2.1) (by have := HB.out.2.2.2; omega)).trans HB.out.2.2.1)
             have k1 := row_cell t2 (j := 1) rfl
             have k0 := row_cell t2 (j := 0) rfl
             have k2 := row_cell t2 (j := 2) rfl
             have z0 := row_free t2 0
             have z1 := row_free t2 1
             have z2 := row_free t2 2
             have H2 := Lib.hid (And.intro x2 (And.intro m2 t2))
             clear x2 m2 t2 j1))
        obtain ⟨x2, m2, t2⟩ := H2.out
        obtain ⟨V1, e1, u1, n1⟩ := set_row t2 2 (.bool true)
        obtain ⟨V2, e2, u2, n2⟩ := set_row u1 0 (strOfB k)
        obtain ⟨V3, e3, u3, n3⟩ := set_row u2 0 (strOfB k)
        obtain ⟨V4, e4, u4, n4⟩ := set_row u3 1 (.string ⟨#[]⟩)
        obtain ⟨V5, e5, u5, n5⟩ := set_row u4 2 (.bool true)
        rw [e1, e2, e3, e4, e5]
        refine bodyPost_ret (results_cell_row rfl _ _ (w.heap.size + 1) _ _ _ _ rfl u5 Tryz.underlying33 rfl (by kernel_rfl)) rfl ?_
        obtain ⟨B, r1, r2, lq⟩ := HB.out
        have n15 := (((n1.trans n2 (fun _ _ h => h)).trans n3 (fun _ _ h => h)).trans n4 (fun _ _ h => h)).trans n5 (fun _ _ h => h)
        exact ⟨rfl, x2.moves n15 (fun i hi => by omega), ((((Moves.of_below B).trans H1.out.2 (fun _ _ h => h)).trans m2 (fun _ _ h => h)).trans n15 (fun i hi h => by omega))⟩
      | false =>
        rw [if_neg (by decide)] at hr
        cases hv : Wm.rtext 4096 rb with
        | none => rw [hv] at hr; cases hr
        | some p =>
          obtain ⟨v, rc⟩ := p
          rw [hv] at hr
          simp only at hr
          obtain ⟨rfl, rfl⟩ : (⟨k, v, false⟩ : Em.Change) = c ∧ rc = r := by
            have := Option.some.inj hr
            exact ⟨congrArg Prod.fst this, congrArg Prod.snd this⟩
          have VC := Lib.hid (fun (X : World) (hx : RdAt X q rb) => etext_yes hx (by omega) hv)
          clear hr hv
          go_enter Tryz.func151, Tryz.ntmps151
          go_upto_region 1 with fail
          rw [HW.out]
          go_upto_region 4 with (first
            | (go_at_call 179; refine TC.out.mono ?_; rintro e w1 ⟨rfl, x1, m1⟩
               have j1 := (World.cell?_of_block (m1.block w.heap.size (lt_of_row HB.out.2.1) (by have := HB.out.2.2.2; omega))).trans c1
               have H1 := Lib.hid (And.intro x1 m1)
               clear x1 m1)
            | (go_at_call 109; refine (must_yes _).mono ?_; rintro e w' ⟨rfl, rfl⟩)
            | (go_at_call 150; refine (KC.out _ H1.out.1).mono ?_; rintro e w2 ⟨rfl, x2, m2⟩
               have t2 := (m2.block (w.heap.size + 1) (by have := lt_of_row HB.out.2.2.1; have := H1.out.2.size; omega) (by have := HB.out.2.2.2; omega)).trans ((H1.out.2.block (w.heap.size + 1) (lt_of_row HB.out.2.2.1) (by have := HB.out.2.2.2; omega)).trans HB.out.2.2.1)
               have q1 := (World.cell?_of_block (m2.block w.heap.size (by have := lt_of_row HB.out.2.1; have := H1.out.2.size; omega) (by have := HB.out.2.2.2; omega))).trans j1
               have k0 := row_cell t2 (j := 0) rfl
               have k2 := row_cell t2 (j := 2) rfl
               have z0 := row_free t2 0
               have z2 := row_free t2 2
               have H2 := Lib.hid (And.intro x2 (And.intro m2 (And.intro t2 q1)))
               clear x2 m2 t2 q1 j1 c1))
          obtain ⟨x2, m2, t2, q1⟩ := H2.out
          obtain ⟨V1, e1, u1, n1⟩ := set_row t2 2 (.bool false)
          obtain ⟨V2, e2, u2, n2⟩ := set_row u1 0 (strOfB k)
          rw [e1, e2]
          have n12 := n1.trans n2 (fun _ _ h => h)
          have lw := lt_of_row HB.out.2.2.1
          have q2 := (World.cell?_of_block (n12.block w.heap.size (block_lt_of_cell q1) (by omega))).trans q1
          have x3 := x2.moves n12 (fun i hi => by have := HB.out.2.2.2; omega)
          have HV := Lib.hid (And.intro x3 (And.intro u2 n12))
          clear x2 m2 t2 q1 e1 e2 u1 u2 n1 n2 n12 x3 k0 k2 z0 z2 lw
          go_wp2_with (go_at_call 150; refine (VC.out _ HV.out.1).mono ?_; rintro e w3 ⟨rfl, x4, m4⟩
                       have t4 := (m4.block (w.heap.size + 1) (lt_of_row HV.out.2.1) (by have := HB.out.2.2.2; omega)).trans HV.out.2.1
                       have k0 := row_cell t4 (j := 0) rfl
                       have k1 := row_cell t4 (j := 1) rfl
                       have k2 := row_cell t4 (j := 2) rfl
                       have z0 := row_free t4 0
                       have z1 := row_free t4 1
                       have z2 := row_free t4 2
                       have H4 := Lib.hid (And.intro x4 (And.intro m4 t4))
                       clear x4 m4 t4)
          obtain ⟨x4, m4, t4⟩ := H4.out
          obtain ⟨Y1, f1, g1, p1⟩ := set_row t4 1 (strOfB v)
          obtain ⟨Y2, f2, g2, p2⟩ := set_row g1 0 (strOfB k)
          obtain ⟨Y3, f3, g3, p3⟩ := set_row g2 1 (strOfB v)
          obtain ⟨Y4, f4, g4, p4⟩ := set_row g3 2 (.bool false)
          rw [f1, f2, f3, f4]
          refine bodyPost_ret (results_cell_row rfl _ _ (w.heap.size + 1) _ _ _ _ rfl g4 Tryz.underlying33 rfl (by kernel_rfl)) rfl ?_
          obtain ⟨B, r1, r2, lq⟩ := HB.out
          obtain ⟨x2, m2, t2, q1⟩ := H2.out
          have p14 := ((p1.trans p2 (fun _ _ h => h)).trans p3 (fun _ _ h => h)).trans p4 (fun _ _ h => h)
          exact ⟨rfl, x4.moves p14 (fun i hi => by omega), ((((((Moves.of_below B).trans H1.out.2 (fun _ _ h => h)).trans m2 (fun _ _ h => h)).trans HV.out.2.2 (fun i hi h => by omega)).trans m4 (fun _ _ h => h)).trans p14 (fun i hi h => by omega))⟩

end Go.Proofs.YtgffifleflkjoaaGreat

namespace Go.Proofs.YtgffifleflkjoaaGreat
open Go.RowKit Dm

set_option maxRecDepth 100000 in
set_option maxHeartbeats 2000000 in
theorem change_no {w : World} {q : Nat} {l : List UInt8} (h : RdAt w q l) (hl : l.length ≤ 1000000000) (hr : Em.rchange l = none) :
    Calls Tryz.prog 151 #[.agg #[.pointer (some ⟨q, 0, none⟩)]] w fun e w' => e = .panicked gaveUp ∧ Moves (fun k => k = q) w w' := by
  have lq := h.lt
  obtain ⟨W, hW⟩ : ∃ W, (w.alloc (.cells #[.pointer (some ⟨q, 0, none⟩)] tERd)).alloc (.cells (chgC (.string ⟨#[]⟩) (.string ⟨#[]⟩) false) tChange) = W := ⟨_, rfl⟩
  have B : Below w.heap.size w W := by rw [← hW]; exact ((Below.refl _ _).alloc (Nat.le_refl _) _).alloc (by simp) _
  have r1 : W.heap[w.heap.size]? = some (.cells #[.pointer (some ⟨q, 0, none⟩)] tERd (0, 0)) := by rw [← hW]; exact heap_past (by simp) (heap_alloc_last w _)
  have r2 : W.heap[w.heap.size + 1]? = some (.cells (chgC (.string ⟨#[]⟩) (.string ⟨#[]⟩) false) tChange (0, 0)) := by rw [← hW]; exact heap_at (w := w.alloc _) _ (by simp)
  have c1 := row_cell r1 (j := 0) rfl
  unfold Em.rchange at hr
  cases ht : Wm.rtruth l with
  | none =>
    have TC := Lib.hid (truth_no (h.later B) hl ht)
    have HB := Lib.hid B
    have HW := Lib.hid hW
    clear h B r1 r2 lq hW ht hr
    go_enter Tryz.func151, Tryz.ntmps151
    go_upto_region 1 with fail
    rw [HW.out]
    go_wp2_with (first
      | (go_at_call 179; refine TC.out.mono ?_; rintro e w1 ⟨rfl, m1⟩; have H1 := Lib.hid m1; clear m1 c1)
      | (go_at_call 109; refine (must_no _).mono ?_; rintro e w' ⟨rfl, rfl⟩))
    exact ⟨rfl, rfl, (Moves.of_below HB.out).trans H1.out (fun _ _ h => h)⟩
  | some p =>
    obtain ⟨g, ra⟩ := p
    rw [ht] at hr
    simp only at hr
    have la := rtruth_len ht
    have TC := Lib.hid (truth_yes (h.later B) hl ht)
    have HB := Lib.hid (And.intro B (And.intro r1 (And.intro r2 lq)))
    have HW := Lib.hid hW
    clear h B r1 r2 lq hW ht
    cases hk : Wm.rtext 64 ra with
    | none =>
      have KC := Lib.hid (fun (X : World) (hx : RdAt X q ra) => etext_no hx (by omega) hk)
      clear hr hk
      go_enter Tryz.func151, Tryz.ntmps151
      go_upto_region 1 with fail
      rw [HW.out]
      go_wp2_with (first
        | (go_at_call 179; refine TC.out.mono ?_; rintro e w1 ⟨rfl, x1, m1⟩
           have j1 := (World.cell?_of_block (m1.block w.heap.size (lt_of_row HB.out.2.1) (by have := HB.out.2.2.2; omega))).trans c1
           have H1 := Lib.hid (And.intro x1 m1)
           clear x1 m1 c1)
        | (go_at_call 109; refine (must_yes _).mono ?_; rintro e w' ⟨rfl, rfl⟩)
        | (go_at_call 150; refine (KC.out _ H1.out.1).mono ?_; rintro e w2 ⟨rfl, m2⟩))
      exact ⟨rfl, rfl, ((Moves.of_below HB.out.1).trans H1.out.2 (fun _ _ h => h)).trans m2 (fun _ _ h => h)⟩
    | some p =>
      obtain ⟨k, rb⟩ := p
      rw [hk] at hr
      simp only at hr
      have lb := (rtext_len hk).1
      have KC := Lib.hid (fun (X : World) (hx : RdAt X q ra) => etext_yes hx (by omega) hk)
      clear hk
      cases g with
      | true => rw [if_pos rfl] at hr; cases hr
      | false =>
        rw [if_neg (by decide)] at hr
        have hv : Wm.rtext 4096 rb = none := by
          cases hv : Wm.rtext 4096 rb with
          | none => rfl
          | some p => rw [hv] at hr; cases hr
        have VC := Lib.hid (fun (X : World) (hx : RdAt X q rb) => etext_no hx (by omega) hv)
        clear hr hv
        go_enter Tryz.func151, Tryz.ntmps151
        go_upto_region 1 with fail
        rw [HW.out]
        go_upto_region 4 with (first
          | (go_at_call 179; refine TC.out.mono ?_; rintro e w1 ⟨rfl, x1, m1⟩
             have j1 := (World.cell?_of_block (m1.block w.heap.size (lt_of_row HB.out.2.1) (by have := HB.out.2.2.2; omega))).trans c1
             have H1 := Lib.hid (And.intro x1 m1)
             clear x1 m1)
          | (go_at_call 109; refine (must_yes _).mono ?_; rintro e w' ⟨rfl, rfl⟩)
          | (go_at_call 150; refine (KC.out _ H1.out.1).mono ?_; rintro e w2 ⟨rfl, x2, m2⟩
             have t2 := (m2.block (w.heap.size + 1) (by have := lt_of_row HB.out.2.2.1; have := H1.out.2.size; omega) (by have := HB.out.2.2.2; omega)).trans ((H1.out.2.block (w.heap.size + 1) (lt_of_row HB.out.2.2.1) (by have := HB.out.2.2.2; omega)).trans HB.out.2.2.1)
             have q1 := (World.cell?_of_block (m2.block w.heap.size (by have := lt_of_row HB.out.2.1; have := H1.out.2.size; omega) (by have := HB.out.2.2.2; omega))).trans j1
             have k0 := row_cell t2 (j := 0) rfl
             have k2 := row_cell t2 (j := 2) rfl
             have z0 := row_free t2 0
             have z2 := row_free t2 2
             have H2 := Lib.hid (And.intro x2 (And.intro m2 (And.intro t2 q1)))
             clear x2 m2 t2 q1 j1 c1))
        obtain ⟨x2, m2, t2, q1⟩ := H2.out
        obtain ⟨V1, e1, u1, n1⟩ := set_row t2 2 (.bool false)
        obtain ⟨V2, e2, u2, n2⟩ := set_row u1 0 (strOfB k)
        rw [e1, e2]
        have n12 := n1.trans n2 (fun _ _ h => h)
        have lw := lt_of_row HB.out.2.2.1
        have q2 := (World.cell?_of_block (n12.block w.heap.size (block_lt_of_cell q1) (by omega))).trans q1
        have x3 := x2.moves n12 (fun i hi => by have := HB.out.2.2.2; omega)
        have HV := Lib.hid (And.intro x3 (And.intro u2 n12))
        clear x2 m2 t2 q1 e1 e2 u1 u2 n1 n2 n12 x3 k0 k2 z0 z2 lw
        go_wp2_with (go_at_call 150; refine (VC.out _ HV.out.1).mono ?_; rintro e w3 ⟨rfl, m4⟩)
        obtain ⟨B, r1, r2, lq⟩ := HB.out
        obtain ⟨x2, m2, t2, q1⟩ := H2.out
        exact ⟨rfl, rfl, (((((Moves.of_below B).trans H1.out.2 (fun _ _ h => h)).trans m2 (fun _ _ h => h)).trans HV.out.2.2 (fun i hi h => by omega)).trans m4 (fun _ _ h => h))⟩

end Go.Proofs.YtgffifleflkjoaaGreat
