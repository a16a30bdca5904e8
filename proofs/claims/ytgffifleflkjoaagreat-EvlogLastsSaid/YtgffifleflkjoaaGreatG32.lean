/-
  evlog: a Batch of a tape.
  evlog: no Batch of a tape.
-/
import Derived.Test.YtgffifleflkjoaaGreatG24
import Derived.Test.YtgffifleflkjoaaGreatG31

namespace Go.Proofs.YtgffifleflkjoaaGreat
open Go.RowKit Dm

theorem rchange_len {b r : List UInt8} {c : Em.Change} (h : Em.rchange b = some (c, r)) : r.length ≤ b.length ∧ c.key.length ≤ 64 ∧ c.value.length ≤ 4096 := by
  unfold Em.rchange at h
  cases ht : Wm.rtruth b with
  | none => rw [ht] at h; cases h
  | some p =>
    obtain ⟨g, ra⟩ := p
    rw [ht] at h
    simp only at h
    have la := rtruth_len ht
    cases hk : Wm.rtext 64 ra with
    | none => rw [hk] at h; cases h
    | some p =>
      obtain ⟨k, rb⟩ := p
      rw [hk] at h
      simp only at h
      obtain ⟨lb, lk⟩ := rtext_len hk
      cases g with
      | true =>
        rw [if_pos rfl] at h
        have e := Option.some.inj h
        have e1 : (⟨k, [], true⟩ : Em.Change) = c := congrArg Prod.fst e
        have e2 : rb = r := congrArg Prod.snd e
        subst e1; subst e2
        exact ⟨by omega, lk, by simp⟩
      | false =>
        rw [if_neg (by decide)] at h
        cases hv : Wm.rtext 4096 rb with
        | none => rw [hv] at h; cases h
        | some p =>
          obtain ⟨v, rc⟩ := p
          rw [hv] at h
          obtain ⟨lc, lv⟩ := rtext_len hv
          have e := Option.some.inj h
          have e1 : (⟨k, v, false⟩ : Em.Change) = c := congrArg Prod.fst e
          have e2 : rc = r := congrArg Prod.snd e
          subst e1; subst e2
          exact ⟨by omega, lk, lv⟩

theorem rchanges_len : ∀ {n : Nat} {b r : List UInt8} {l : List Em.Change}, Em.rchanges n b = some (l, r) → r.length ≤ b.length ∧ l.length = n ∧ ∀ c ∈ l, c.key.length ≤ 64 ∧ c.value.length ≤ 4096
  | 0, b, r, l, h => by
    have e := Option.some.inj h
    have e1 : [] = l := congrArg Prod.fst e
    have e2 : b = r := congrArg Prod.snd e
    subst e1; subst e2
    exact ⟨Nat.le_refl _, rfl, fun c hc => by cases hc⟩
  | n + 1, b, r, l, h => by
    rw [Em.rchanges] at h
    cases hc : Em.rchange b with
    | none => rw [hc] at h; cases h
    | some p =>
      obtain ⟨c, rb⟩ := p
      rw [hc] at h
      simp only at h
      cases hm : Em.rchanges n rb with
      | none => rw [hm] at h; cases h
      | some p =>
        obtain ⟨l', r'⟩ := p
        rw [hm] at h
        have e := Option.some.inj h
        have e1 : c :: l' = l := congrArg Prod.fst e
        have e2 : r' = r := congrArg Prod.snd e
        subst e1; subst e2
        obtain ⟨k1, k2, k3⟩ := rchanges_len hm
        obtain ⟨j1, j2, j3⟩ := rchange_len hc
        refine ⟨by omega, by simp [k2], fun x hx => ?_⟩
        rcases List.mem_cons.1 hx with rfl | hx
        · exact ⟨j2, j3⟩
        · exact k3 x hx

/-- What stands in a tape that is read. -/
abbrev tapeC (at' : Int) (gen : Nat) (rows : Value) (batches fin : Nat) : Array Value := #[.int .i64 at', .int .i64 gen, rows, .int .i64 batches, .int .i64 fin]

theorem OwnC.moves {w w' : World} {base : Nat} {v : Value} {l : List Em.Change} {O : Nat → Prop} (h : OwnC w base v l) (hm : Moves O w w') (ho : ∀ k, base ≤ k → ¬ O k) : OwnC w' base v l := by
  refine ⟨h.1, ?_⟩
  rcases h.2 with h1 | ⟨g, cap, cur, h1, h2, h3, h4⟩
  · exact Or.inl h1
  · exact Or.inr ⟨g, cap, cur, h1, h2, (hm.block g (lt_of_row h3) (ho g h2)).trans h3, h4⟩

theorem below_base {B : Nat} {w w' : World} (h : Below B w w') (hs : B ≤ w.heap.size) : Moves (fun k => B ≤ k) w w' := ⟨h.os, h.tape, h.output, h.size, fun i _ hn => h.block i (by omega)⟩

theorem opt_map_nil {b : List UInt8} {N : Nat} : (Em.rchanges N b).map (fun p => (([] : List Em.Change) ++ p.1, p.2)) = Em.rchanges N b := by
  cases Em.rchanges N b with
  | none => rfl
  | some p => rfl

/-- Between two changes that are read. -/
structure ChgRel (W2 : World) (q N : Nat) (b0 : List UInt8) (i : Nat) (v : Value) (wr : World) (acc : List Em.Change) (r : List UInt8) : Prop where
  own : OwnC wr W2.heap.size v acc
  rd : RdAt wr q r
  eqn : Em.rchanges N b0 = (Em.rchanges (N - i) r).map fun p => (acc ++ p.1, p.2)
  mv : Moves (fun k => k = q ∨ W2.heap.size ≤ k) W2 wr
  len : acc.length = i ∧ r.length ≤ b0.length

set_option maxRecDepth 100000 in
set_option maxHeartbeats 4000000 in
theorem goes_yes {w : World} {T g1 g2 m gen batches endv fin fin' : Nat} {at' : Int} {l : List UInt8} {D D' : Em.Rows} (h : NextAt w g1 g2 l fin) (hl : l.length ≤ 1000000000)
    (hT : w.heap[T]? = some (.cells (tapeC at' gen (.map (some m)) batches endv) tTape (0, 0))) (hm : RowsIn w m (Maps.size D) D) (hs : Maps.size D ≤ 256) (h1 : g1 < T) (h2 : T < g2) (hb : batches ≤ 1000000000) (hr : Em.rgoes l fin D = some (D', fin')) :
    Calls Tryz.prog 114 #[.pointer (some ⟨T, 0, none⟩), .func (.func 107) #[] #[.pointer (some ⟨g1, 0, none⟩), .pointer (some ⟨g2, 0, none⟩)]] w fun e w' =>
      e = .returned (.tuple #[]) ∧ NextAt w' g1 g2 l fin' ∧ (∃ m', w'.heap[T]? = some (.cells (tapeC at' gen (.map (some m')) (batches + 1) endv) tTape (0, 0)) ∧ RowsIn w' m' (Maps.size D') D' ∧ w.heap.size ≤ m') ∧ Moves (fun k => k = T ∨ k = g2) w w' := by
  unfold Em.rgoes at hr
  cases hsp : Wm.split (l.drop fin) with
  | none => rw [hsp] at hr; cases hr
  | some p =>
    obtain ⟨body, n⟩ := p
    rw [hsp] at hr
    simp only at hr
    obtain ⟨_, _, lbody⟩ := split_pos hsp
    have lb : body.length ≤ 1000000000 := by rw [List.length_drop] at lbody; omega
    have NX := Lib.hid (next_yes h hl hsp)
    have eg := enters_of Tryz.func107 (by kernel_rfl) rfl
    cases hbt : Em.rbatch body with
    | none => rw [hbt] at hr; cases hr
    | some c =>
      rw [hbt] at hr
      simp only at hr
      by_cases hd : Em.doneErr D c = 0
      · rw [if_pos hd] at hr
        obtain ⟨rfl, rfl⟩ : Em.behind D c = D' ∧ fin + n = fin' := by
          have := Option.some.inj hr
          exact ⟨congrArg Prod.fst this, congrArg Prod.snd this⟩
        unfold Em.rbatch at hbt
        cases hk : Wm.rnum 3 body with
        | none => rw [hk] at hbt; cases hbt
        | some p =>
          obtain ⟨kd, ra⟩ := p
          rw [hk] at hbt
          simp only at hbt
          by_cases hk3 : kd ≠ 3
          · rw [if_pos hk3] at hbt; cases hbt
          · rw [if_neg hk3] at hbt
            have hk3 : kd = 3 := by omega
            subst hk3
            cases hn : Wm.rnum 64 ra with
            | none => rw [hn] at hbt; cases hbt
            | some p =>
              obtain ⟨N, rb⟩ := p
              rw [hn] at hbt
              simp only at hbt
              cases hcs : Em.rchanges N rb with
              | none => rw [hcs] at hbt; cases hbt
              | some p =>
                obtain ⟨cs, rest⟩ := p
                rw [hcs] at hbt
                simp only at hbt
                by_cases he : rest = []
                · rw [if_pos he] at hbt
                  obtain rfl : cs = c := Option.some.inj hbt
                  subst he
                  have la := rnum_len hk
                  have lbb := rnum_len hn
                  have RC := Lib.hid (fun (X : World) (F : Nat → Prop) (v : Value) (hv : BytesAt X.heap F v body) => record_yes hv lb hk)
                  have MC := Lib.hid (fun (X : World) (q : Nat) (hx : RdAt X q ra) => enum_yes hx (by omega) hn)
                  have HH := Lib.hid (And.intro h (And.intro hT (And.intro hm (And.intro hs (And.intro hd (And.intro hcs (And.intro lb (And.intro la lbb))))))))
                  have N64 : N ≤ 64 := lbb.2.1
                  clear h hT hm hs hd hcs hr hbt hk hn hsp lb la lbb hl lbody
                  go_enter Tryz.func114, Tryz.ntmps114
                  go_upto_region 1 with (first
                    | (with_reducible refine NX.out.mono ?_; rintro e w1 ⟨v1, rfl, y1, x1, m1⟩; have H1 := Lib.hid (And.intro y1 (And.intro x1 m1)); clear y1 x1 m1)
                    | (go_at_call 147; refine (RC.out _ _ _ H1.out.1).mono ?_; rintro e w2 ⟨q, rfl, x2, hq, b2⟩; have H2 := Lib.hid (And.intro x2 (And.intro hq b2)); clear x2 hq b2))
                  obtain ⟨W2, hW2⟩ : ∃ W, w2.alloc (.cells #[.pointer (some ⟨q, 0, none⟩)] tERd) = W := ⟨_, rfl⟩
                  have B2 : Below w2.heap.size w2 W2 := by rw [← hW2]; exact (Below.refl _ _).alloc (Nat.le_refl _) _
                  have r4 : W2.heap[w2.heap.size]? = some (.cells #[.pointer (some ⟨q, 0, none⟩)] tERd (0, 0)) := by rw [← hW2]; exact heap_alloc_last w2 _
                  have lq := H2.out.1.lt
                  rw [hW2]
                  obtain ⟨g4, hg4⟩ : ∃ g, w2.heap.size = g := ⟨_, rfl⟩
                  have NC := Lib.hid (MC.out W2 q (H2.out.1.later B2))
                  rw [hg4] at r4 lq ⊢
                  have c4 := row_cell r4 (j := 0) rfl
                  have l4 := lt_of_row r4
                  have HB := Lib.hid (And.intro B2 (And.intro r4 (And.intro lq (And.intro hg4 l4))))
                  clear B2 r4 lq hW2 hg4 l4
                  go_upto_region 3 with (go_at_call 148; refine NC.out.mono ?_; rintro e w3 ⟨rfl, x3, m3⟩; have H3 := Lib.hid (And.intro x3 m3); clear x3 m3 c4)
                  obtain ⟨b2', r4, lq, hg4, l4⟩ := HB.out
                  have ST := Lib.hid (show ChgRel W2 q N rb 0 (.slice none 0 0) w3 [] rb from ⟨ownC_nil _ _, H3.out.1, opt_map_nil.symm, H3.out.2.mono (fun _ h => Or.inl h), rfl, Nat.le_refl _⟩)
                  clear b2' r4 lq hg4 l4
                  go_loopw [5, 13] (fun v s wr => ∃ (i : Nat) (acc : List Em.Change) (r : List UInt8), i ≤ N ∧ s = .int .i64 (i : Int) ∧ ChgRel W2 q N rb i v wr acc r) (fun _ s _ => N - (intOf s).toNat)
                  case atStart => exact ⟨0, [], rb, Nat.zero_le _, rfl, ST.out⟩
                  case round =>
                    obtain ⟨i, acc, r, hi, rfl, hrel⟩ := hrel
                    have j4 : wr.cell? ⟨g4, 0, none⟩ = some (.pointer (some ⟨q, 0, none⟩)) := (World.cell?_of_block (hrel.mv.block g4 HB.out.2.2.2.2 (by have := HB.out.2.2.1; have := HB.out.2.2.2.2; omega))).trans (row_cell HB.out.2.1 rfl)
                    by_cases hlt : i < N
                    · have i0 : (0 : Int) ≤ (i : Int) := by omega
                      have i1 : (i : Int) < (N : Int) := by omega
                      obtain ⟨j, hj⟩ : ∃ j, N - i = j + 1 := ⟨N - i - 1, by omega⟩
                      have heq := hrel.eqn
                      rw [hj, Em.rchanges, HH.out.2.2.2.2.2.1] at heq
                      cases hc : Em.rchange r with
                      | none => rw [hc] at heq; cases heq
                      | some p =>
                        obtain ⟨c, r'⟩ := p
                        rw [hc] at heq
                        simp only at heq
                        obtain ⟨lr, _, _⟩ := rchange_len hc
                        have lrb := hrel.len.2
                        have lba := HH.out.2.2.2.2.2.2.2.2.1
                        have lbb := HH.out.2.2.2.2.2.2.2.1.1
                        have lbc := HH.out.2.2.2.2.2.2.1
                        have CC := Lib.hid (change_yes hrel.rd (by omega) hc)
                        have HR := Lib.hid (And.intro hrel (And.intro heq (And.intro lr hc)))
                        clear hrel heq hc lr lrb lba lbb lbc
                        go_wp2_with (first
                          | (go_at_call 151; refine CC.out.mono ?_; rintro e w4 ⟨rfl, x4, m4⟩
                             have o4 := HR.out.1.own.moves m4 (fun k hk => by have := HB.out.2.2.1; have := HB.out.2.2.2.2; omega)
                             have H4 := Lib.hid (And.intro x4 (And.intro m4 o4))
                             clear x4 m4 o4)
                          | (at_builtin; refine wpList_append_chg rfl (.tmp 15) (.tmp 18) rfl W2.heap.size _ acc c rfl (H4.out.2.2.moves (Moves.of_below (O := fun _ => False) ((Below.refl _ _).alloc (Nat.le_refl _) _)) (fun _ _ h => h)) w4.heap.size 1 rfl (heap_alloc_last w4 _) (by have := HR.out.1.len.1; omega) (by have := H4.out.2.1.size; have := HR.out.1.mv.size; simp; omega) (Below.refl _ (w4.alloc (.cells #[strOfB c.key, strOfB c.value, .bool c.gone] tChange))) ?_; intro v5 w5 h5 h6))
                        go_roundw
                        case rel =>
                          have b4 : Below w4.heap.size w4 (w4.alloc (.cells #[strOfB c.key, strOfB c.value, .bool c.gone] tChange)) := (Below.refl _ _).alloc (Nat.le_refl _) _
                          have bm := below_base h6.out (by have := H4.out.2.1.size; have := HR.out.1.mv.size; simp; omega)
                          have lq := HB.out.2.2.1
                          have l4 := HB.out.2.2.2.2
                          refine ⟨i + 1, acc ++ [c], r', by omega, by go_num, h5.out, (H4.out.1.later b4).moves bm (fun k hk => by omega), ?_, ?_, by rw [List.length_append, HR.out.1.len.1]; rfl, by have := HR.out.2.2.1; have := HR.out.1.len.2; omega⟩
                          · rw [HR.out.1.eqn, hj, Em.rchanges, HR.out.2.2.2, show N - (i + 1) = j by omega]
                            simp only
                            cases Em.rchanges j r' with
                            | none => rfl
                            | some p => simp
                          · exact ((HR.out.1.mv.trans (H4.out.2.1.mono (O' := fun k => k = q ∨ W2.heap.size ≤ k) (fun _ h => Or.inl h)) (fun _ _ h => h)).trans (Moves.of_below (O := fun k => k = q ∨ W2.heap.size ≤ k) b4) (fun _ _ h => h)).trans (bm.mono (fun _ h => Or.inr h)) (fun _ _ h => h)
                        case measure => simp [intOf]; omega
                    · obtain rfl : i = N := by omega
                      have heq := hrel.eqn
                      rw [Nat.sub_self, HH.out.2.2.2.2.2.1] at heq
                      obtain ⟨e1, e2⟩ : cs = acc ∧ ([] : List UInt8) = r := by
                        have := Option.some.inj heq
                        exact ⟨(congrArg Prod.fst this).trans (List.append_nil _), congrArg Prod.snd this⟩
                      subst e1
                      subst e2
                      obtain ⟨hN, hT, hm, hs, hd, hcs, lb, la, lbb⟩ := HH.out
                      have BW : Below w1.heap.size w1 wr := (((Moves.of_below (O := fun k => w1.heap.size ≤ k) (H2.out.2.2)).trans (Moves.of_below (O := fun k => w1.heap.size ≤ k) HB.out.1) (fun _ _ h => h)).trans (hrel.mv.mono (O' := fun k => w1.heap.size ≤ k) (fun k hk => by have := H2.out.2.1; have := HB.out.1.size; have := H2.out.2.2.size; rcases hk with h | h <;> omega)) (fun _ _ h => h)).low (O' := fun _ => False) (fun i hi h => by omega) |>.below
                      have rT1 := (H1.out.2.2.block T (lt_of_row hT) (by omega)).trans hT
                      have rT := (BW.block T (lt_of_row rT1)).trans rT1
                      have hmg : m ≠ g2 := by
                        intro e
                        subst e
                        obtain ⟨es, clock, k1, _⟩ := hm
                        rw [hN.far] at k1
                        cases k1
                      have rm := rows_below (rows_off hm H1.out.2.2 hmg) BW (by have := hm.lt; have := H1.out.2.2.size; omega)
                      have nx := H1.out.2.1.later BW
                      have EC := Lib.hid (end_yes hrel.rd)
                      have DC := Lib.hid (fun (X : World) (hb : Below wr.heap.size wr X) => done_c (rows_below rm hb rm.lt) (by omega) (hrel.own.at.later hb) (by have := hrel.len.1; omega) (fun c hc => by have := (rchanges_len hcs).2.2 c hc; omega))
                      have HX := Lib.hid (And.intro rT (And.intro nx (And.intro BW (And.intro H1.out.2.2 (And.intro hd (And.intro (lt_of_row hT) h2))))))
                      obtain ⟨oa, oc, rfl⟩ := hrel.own.at.slice
                      generalize cs.length = cl at *
                      clear hrel heq hN hT hm hs hd hcs lb la lbb rT1 rT rm nx BW hmg
                      go_upto_region 9 with (first
                        | (go_at_call 149; refine EC.out.mono ?_; rintro e w6 ⟨rfl, b6⟩
                           have t2 := row_cell ((b6.block T (lt_of_row HX.out.1)).trans HX.out.1) (j := 2) rfl
                           have D6 := Lib.hid (DC.out w6 b6)
                           have B6 := Lib.hid b6
                           clear b6)
                        | (go_at_call 109; refine (must_yes _).mono ?_; rintro e w' ⟨rfl, rfl⟩)
                        | (go_at_call 37; refine D6.out.mono ?_; intro e w7 h7; obtain ⟨b7, h7⟩ := h7
                           obtain ⟨m', rfl, hm', r7⟩ := h7.elim (fun h => absurd HX.out.2.2.2.2.1 h.1) (fun h => h.2)
                           have H7 := Lib.hid (And.intro b7 (And.intro hm' r7))
                           clear b7 h7 hm' r7 t2))
                      have bb : Below wr.heap.size wr w7 := B6.out.trans (H7.out.1.mono B6.out.size)
                      have rT7 := (bb.block T (lt_of_row HX.out.1)).trans HX.out.1
                      have u3 := row_cell rT7 (j := 3) rfl
                      have u2 := row_cell rT7 (j := 2) rfl
                      have z2 := row_free rT7 2
                      have z3 := row_free rT7 3
                      have hw1 : IntKind.i64.wrap ((batches : Int) + 1) = ((batches + 1 : Nat) : Int) := IntWalk.i64_in _ (by omega)
                      have HE := Lib.hid (And.intro bb rT7)
                      clear bb rT7
                      go_wp2
                      go_end0
                      obtain ⟨bb, rT7⟩ := HE.out
                      obtain ⟨V1, e1, y1, n1⟩ := set_row rT7 2 (.map (some m'))
                      obtain ⟨V2, e2, y2, n2⟩ := set_row y1 3 (.int .i64 ((batches : Int) + 1))
                      rw [e1, e2]
                      have n12 := n1.trans n2 (fun _ _ h => h)
                      obtain ⟨b7, hm7, r7⟩ := H7.out
                      have lm := r7.lt
                      have sr := HX.out.2.2.1.size
                      have s1 := HX.out.2.2.2.1.size
                      have s6 := B6.out.size
                      have lT := HX.out.2.2.2.2.2.1
                      have h2' := HX.out.2.2.2.2.2.2
                      have lg := lt_of_row HX.out.2.1.far
                      refine ⟨rfl, (HX.out.2.1.later bb).moves n12 (fun k hk => by omega), ⟨m', y2, rows_off r7 n12 (by omega), by omega⟩, ?_⟩
                      exact ((((HX.out.2.2.2.1.mono (O' := fun k => k = T ∨ k = g2) (fun _ h => Or.inr h)).trans (Moves.of_below (O := fun k => k = T ∨ k = g2) HX.out.2.2.1) (fun _ _ h => h)).trans (Moves.of_below (O := fun k => k = T ∨ k = g2) bb) (fun _ _ h => h)).trans (n12.mono (O' := fun k => k = T ∨ k = g2) (fun _ h => Or.inl h)) (fun _ _ h => h))
                · rw [if_neg he] at hbt; cases hbt
      · rw [if_neg hd] at hr; cases hr

end Go.Proofs.YtgffifleflkjoaaGreat

namespace Go.Proofs.YtgffifleflkjoaaGreat
open Go.RowKit Dm

theorem only_far {w w1 wX : World} {g2 : Nat} {O : Nat → Prop} (h : Moves (fun k => k = g2) w w1) (k : Moves O w1 wX) (ho : ∀ i, O i → w1.heap.size ≤ i) : Moves (fun k => k = g2) w wX :=
  h.trans k (fun i hi hO => by have := ho i hO; have := h.size; omega)

set_option maxRecDepth 100000 in
set_option maxHeartbeats 4000000 in
theorem goes_no {w : World} {T g1 g2 m gen batches endv fin : Nat} {at' : Int} {l : List UInt8} {D : Em.Rows} (h : NextAt w g1 g2 l fin) (hl : l.length ≤ 1000000000)
    (hT : w.heap[T]? = some (.cells (tapeC at' gen (.map (some m)) batches endv) tTape (0, 0))) (hm : RowsIn w m (Maps.size D) D) (hs : Maps.size D ≤ 256) (h2 : T < g2) (hr : Em.rgoes l fin D = none) :
    Calls Tryz.prog 114 #[.pointer (some ⟨T, 0, none⟩), .func (.func 107) #[] #[.pointer (some ⟨g1, 0, none⟩), .pointer (some ⟨g2, 0, none⟩)]] w fun e w' => e = .panicked gaveUp ∧ Moves (fun k => k = g2) w w' := by
  have eg := enters_of Tryz.func107 (by kernel_rfl) rfl
  cases hsp : Wm.split (l.drop fin) with
  | none =>
    have NX := Lib.hid (next_no h hl hsp)
    clear h hT hm hs hr hsp
    go_enter Tryz.func114, Tryz.ntmps114
    go_wp2_with (with_reducible refine NX.out.mono ?_; rintro e w1 ⟨rfl, b1⟩)
    exact ⟨rfl, rfl, Moves.of_below b1⟩
  | some p =>
    obtain ⟨body, n⟩ := p
    obtain ⟨_, _, lbody⟩ := split_pos hsp
    have lb : body.length ≤ 1000000000 := by rw [List.length_drop] at lbody; omega
    have NX := Lib.hid (next_yes h hl hsp)
    by_cases hk : ∃ ra, Wm.rnum 3 body = some (3, ra)
    · obtain ⟨ra, hk⟩ := hk
      have la := rnum_len hk
      have RC := Lib.hid (fun (X : World) (F : Nat → Prop) (v : Value) (hv : BytesAt X.heap F v body) => record_yes hv lb hk)
      cases hn : Wm.rnum 64 ra with
      | none =>
        have MC := Lib.hid (fun (X : World) (q : Nat) (hx : RdAt X q ra) => enum_no hx (by omega) hn)
        clear h hT hm hs hr hsp hk hn lb la hl lbody
        go_enter Tryz.func114, Tryz.ntmps114
        go_upto_region 1 with (first
          | (with_reducible refine NX.out.mono ?_; rintro e w1 ⟨v1, rfl, y1, x1, m1⟩; have H1 := Lib.hid (And.intro y1 (And.intro x1 m1)); clear y1 x1 m1)
          | (go_at_call 147; refine (RC.out _ _ _ H1.out.1).mono ?_; rintro e w2 ⟨q, rfl, x2, hq, b2⟩; have H2 := Lib.hid (And.intro x2 (And.intro hq b2)); clear x2 hq b2))
        obtain ⟨W2, hW2⟩ : ∃ W, w2.alloc (.cells #[.pointer (some ⟨q, 0, none⟩)] tERd) = W := ⟨_, rfl⟩
        have B2 : Below w2.heap.size w2 W2 := by rw [← hW2]; exact (Below.refl _ _).alloc (Nat.le_refl _) _
        have r4 : W2.heap[w2.heap.size]? = some (.cells #[.pointer (some ⟨q, 0, none⟩)] tERd (0, 0)) := by rw [← hW2]; exact heap_alloc_last w2 _
        have lq := H2.out.1.lt
        rw [hW2]
        obtain ⟨g4, hg4⟩ : ∃ g, w2.heap.size = g := ⟨_, rfl⟩
        have NC := Lib.hid (MC.out W2 q (H2.out.1.later B2))
        rw [hg4] at r4 lq ⊢
        have c4 := row_cell r4 (j := 0) rfl
        have l4 := lt_of_row r4
        have HB := Lib.hid (And.intro B2 (And.intro r4 (And.intro lq (And.intro hg4 l4))))
        clear B2 r4 lq hW2 hg4 l4
        go_wp2_with (go_at_call 148; refine NC.out.mono ?_; rintro e w3 ⟨rfl, m3⟩)
        exact ⟨rfl, rfl, only_far H1.out.2.2 (((Moves.of_below (O := fun k => w1.heap.size ≤ k) H2.out.2.2).trans (Moves.of_below (O := fun k => w1.heap.size ≤ k) HB.out.1) (fun _ _ h => h)).trans (m3.mono (O' := fun k => w1.heap.size ≤ k) (fun k hk => by have := H2.out.2.1; omega)) (fun _ _ h => h)) (fun _ h => h)⟩
      | some p =>
        obtain ⟨N, rb⟩ := p
        have lbb := rnum_len hn
        have MC := Lib.hid (fun (X : World) (q : Nat) (hx : RdAt X q ra) => enum_yes hx (by omega) hn)
        have HH := Lib.hid (And.intro h (And.intro hT (And.intro hm (And.intro hs (And.intro hr (And.intro hsp (And.intro lb (And.intro la (And.intro lbb (And.intro hk hn))))))))))
        have N64 : N ≤ 64 := lbb.2.1
        clear h hT hm hs hr hk hn hsp lb la lbb hl lbody
        go_enter Tryz.func114, Tryz.ntmps114
        go_upto_region 1 with (first
          | (with_reducible refine NX.out.mono ?_; rintro e w1 ⟨v1, rfl, y1, x1, m1⟩; have H1 := Lib.hid (And.intro y1 (And.intro x1 m1)); clear y1 x1 m1)
          | (go_at_call 147; refine (RC.out _ _ _ H1.out.1).mono ?_; rintro e w2 ⟨q, rfl, x2, hq, b2⟩; have H2 := Lib.hid (And.intro x2 (And.intro hq b2)); clear x2 hq b2))
        obtain ⟨W2, hW2⟩ : ∃ W, w2.alloc (.cells #[.pointer (some ⟨q, 0, none⟩)] tERd) = W := ⟨_, rfl⟩
        have B2 : Below w2.heap.size w2 W2 := by rw [← hW2]; exact (Below.refl _ _).alloc (Nat.le_refl _) _
        have r4 : W2.heap[w2.heap.size]? = some (.cells #[.pointer (some ⟨q, 0, none⟩)] tERd (0, 0)) := by rw [← hW2]; exact heap_alloc_last w2 _
        have lq := H2.out.1.lt
        rw [hW2]
        obtain ⟨g4, hg4⟩ : ∃ g, w2.heap.size = g := ⟨_, rfl⟩
        have NC := Lib.hid (MC.out W2 q (H2.out.1.later B2))
        rw [hg4] at r4 lq ⊢
        have c4 := row_cell r4 (j := 0) rfl
        have l4 := lt_of_row r4
        have HB := Lib.hid (And.intro B2 (And.intro r4 (And.intro lq (And.intro hg4 l4))))
        clear B2 r4 lq hW2 hg4 l4
        go_upto_region 3 with (go_at_call 148; refine NC.out.mono ?_; rintro e w3 ⟨rfl, x3, m3⟩; have H3 := Lib.hid (And.intro x3 m3); clear x3 m3 c4)
        obtain ⟨b2', r4, lq, hg4, l4⟩ := HB.out
        have ST := Lib.hid (show ChgRel W2 q N rb 0 (.slice none 0 0) w3 [] rb from ⟨ownC_nil _ _, H3.out.1, opt_map_nil.symm, H3.out.2.mono (fun _ h => Or.inl h), rfl, Nat.le_refl _⟩)
        clear b2' r4 lq hg4 l4
        have FAR := Lib.hid (show ∀ wX wY, Moves (fun k => k = q ∨ W2.heap.size ≤ k) W2 wX → Moves (fun k => k = q) wX wY → Moves (fun k => k = g2) w wY from fun wX wY h h' =>
          only_far H1.out.2.2 (((Moves.of_below (O := fun k => w1.heap.size ≤ k) H2.out.2.2).trans (Moves.of_below (O := fun k => w1.heap.size ≤ k) HB.out.1) (fun _ _ h => h)).trans ((h.mono (O' := fun k => w1.heap.size ≤ k) (fun k hk => by have := H2.out.2.1; have := HB.out.1.size; have := H2.out.2.2.size; rcases hk with h | h <;> omega)).trans (h'.mono (O' := fun k => w1.heap.size ≤ k) (fun k hk => by have := H2.out.2.1; omega)) (fun _ _ h => h)) (fun _ _ h => h)) (fun _ h => h))
        go_loopw [5, 13] (fun v s wr => ∃ (i : Nat) (acc : List Em.Change) (r : List UInt8), i ≤ N ∧ s = .int .i64 (i : Int) ∧ ChgRel W2 q N rb i v wr acc r) (fun _ s _ => N - (intOf s).toNat)
        case atStart => exact ⟨0, [], rb, Nat.zero_le _, rfl, ST.out⟩
        case round =>
          obtain ⟨i, acc, r, hi, rfl, hrel⟩ := hrel
          have j4 : wr.cell? ⟨g4, 0, none⟩ = some (.pointer (some ⟨q, 0, none⟩)) := (World.cell?_of_block (hrel.mv.block g4 HB.out.2.2.2.2 (by have := HB.out.2.2.1; have := HB.out.2.2.2.2; omega))).trans (row_cell HB.out.2.1 rfl)
          have lrb := hrel.len.2
          have lba := HH.out.2.2.2.2.2.2.2.2.1.1
          have lbb := HH.out.2.2.2.2.2.2.2.1.1
          have lbc := HH.out.2.2.2.2.2.2.1
          by_cases hlt : i < N
          · have i0 : (0 : Int) ≤ (i : Int) := by omega
            have i1 : (i : Int) < (N : Int) := by omega
            obtain ⟨j, hj⟩ : ∃ j, N - i = j + 1 := ⟨N - i - 1, by omega⟩
            cases hc : Em.rchange r with
            | none =>
              have CC := Lib.hid (change_no hrel.rd (by omega) hc)
              have HM := Lib.hid hrel.mv
              clear hrel hc lrb lba lbb lbc
              go_wp2_with (go_at_call 151; refine CC.out.mono ?_; rintro e w4 ⟨rfl, m4⟩)
              exact ⟨rfl, rfl, FAR.out _ _ HM.out m4⟩
            | some p =>
              obtain ⟨c, r'⟩ := p
              obtain ⟨lr, _, _⟩ := rchange_len hc
              have CC := Lib.hid (change_yes hrel.rd (by omega) hc)
              have HR := Lib.hid (And.intro hrel (And.intro lr hc))
              clear hrel hc lr lrb lba lbb lbc
              go_wp2_with (first
                | (go_at_call 151; refine CC.out.mono ?_; rintro e w4 ⟨rfl, x4, m4⟩
                   have o4 := HR.out.1.own.moves m4 (fun k hk => by have := HB.out.2.2.1; have := HB.out.2.2.2.2; omega)
                   have H4 := Lib.hid (And.intro x4 (And.intro m4 o4))
                   clear x4 m4 o4)
                | (at_builtin; refine wpList_append_chg rfl (.tmp 15) (.tmp 18) rfl W2.heap.size _ acc c rfl (H4.out.2.2.moves (Moves.of_below (O := fun _ => False) ((Below.refl _ _).alloc (Nat.le_refl _) _)) (fun _ _ h => h)) w4.heap.size 1 rfl (heap_alloc_last w4 _) (by have := HR.out.1.len.1; omega) (by have := H4.out.2.1.size; have := HR.out.1.mv.size; simp; omega) (Below.refl _ (w4.alloc (.cells #[strOfB c.key, strOfB c.value, .bool c.gone] tChange))) ?_; intro v5 w5 h5 h6))
              go_roundw
              case rel =>
                have b4 : Below w4.heap.size w4 (w4.alloc (.cells #[strOfB c.key, strOfB c.value, .bool c.gone] tChange)) := (Below.refl _ _).alloc (Nat.le_refl _) _
                have bm := below_base h6.out (by have := H4.out.2.1.size; have := HR.out.1.mv.size; simp; omega)
                have lq := HB.out.2.2.1
                have l4 := HB.out.2.2.2.2
                refine ⟨i + 1, acc ++ [c], r', by omega, by go_num, h5.out, (H4.out.1.later b4).moves bm (fun k hk => by omega), ?_, ?_, by rw [List.length_append, HR.out.1.len.1]; rfl, by have := HR.out.2.1; have := HR.out.1.len.2; omega⟩
                · rw [HR.out.1.eqn, hj, Em.rchanges, HR.out.2.2, show N - (i + 1) = j by omega]
                  simp only
                  cases Em.rchanges j r' with
                  | none => rfl
                  | some p => simp
                · exact ((HR.out.1.mv.trans (H4.out.2.1.mono (O' := fun k => k = q ∨ W2.heap.size ≤ k) (fun _ h => Or.inl h)) (fun _ _ h => h)).trans (Moves.of_below (O := fun k => k = q ∨ W2.heap.size ≤ k) b4) (fun _ _ h => h)).trans (bm.mono (fun _ h => Or.inr h)) (fun _ _ h => h)
              case measure => simp [intOf]; omega
          · obtain rfl : i = N := by omega
            have heq := hrel.eqn
            rw [Nat.sub_self] at heq
            have heq : Em.rchanges i rb = some (acc, r) := by rw [heq]; simp [Em.rchanges]
            obtain ⟨hN, hT, hm, hs, hr, hsp, lb, la, lbb', hk, hn⟩ := HH.out
            have hbt : Em.rbatch body = if r = [] then some acc else none := by
              unfold Em.rbatch
              rw [hk]
              simp only [ne_eq, not_true, if_false]
              rw [hn]
              simp only
              rw [heq]
            by_cases hre : r = []
            · subst hre
              rw [if_pos rfl] at hbt
              have hd : Em.doneErr D acc ≠ 0 := by
                intro hd
                unfold Em.rgoes at hr
                rw [hsp] at hr
                simp only at hr
                rw [hbt] at hr
                simp only at hr
                rw [if_pos hd] at hr
                cases hr
              have BW : Below w1.heap.size w1 wr := (((Moves.of_below (O := fun k => w1.heap.size ≤ k) H2.out.2.2).trans (Moves.of_below (O := fun k => w1.heap.size ≤ k) HB.out.1) (fun _ _ h => h)).trans (hrel.mv.mono (O' := fun k => w1.heap.size ≤ k) (fun k hk => by have := H2.out.2.1; have := HB.out.1.size; have := H2.out.2.2.size; rcases hk with h | h <;> omega)) (fun _ _ h => h)).low (O' := fun _ => False) (fun i hi h => by omega) |>.below
              have rT1 := (H1.out.2.2.block T (lt_of_row hT) (by omega)).trans hT
              have rT := (BW.block T (lt_of_row rT1)).trans rT1
              have hmg : m ≠ g2 := by
                intro e
                subst e
                obtain ⟨es, clock, k1, _⟩ := hm
                rw [hN.far] at k1
                cases k1
              have rm := rows_below (rows_off hm H1.out.2.2 hmg) BW (by have := hm.lt; have := H1.out.2.2.size; omega)
              have EC := Lib.hid (end_yes hrel.rd)
              have DC := Lib.hid (fun (X : World) (hb : Below wr.heap.size wr X) => done_c (rows_below rm hb rm.lt) (by omega) (hrel.own.at.later hb) (by have := hrel.len.1; omega) (fun c hc => by have := (rchanges_len heq).2.2 c hc; omega))
              have HX := Lib.hid (And.intro rT (And.intro hrel.mv hd))
              obtain ⟨oa, oc, rfl⟩ := hrel.own.at.slice
              have hdz : ((Em.doneErr D acc) == 0) = false := by rw [beq_eq_false_iff_ne]; exact hd
              have hdz' : ¬ Em.doneErr D acc = 0 := hd
              generalize acc.length = cl at *
              clear hrel heq hN hT hm hs hd lb la lbb lbb' rT1 rT rm BW hmg hr hsp hk hn hbt lrb lba lbc
              go_wp2_with (first
                | (go_at_call 149; refine EC.out.mono ?_; rintro e w6 ⟨rfl, b6⟩
                   have t2 := row_cell ((b6.block T (lt_of_row HX.out.1)).trans HX.out.1) (j := 2) rfl
                   have D6 := Lib.hid (DC.out w6 b6)
                   have B6 := Lib.hid b6
                   clear b6)
                | (go_at_call 109; refine (must_yes _).mono ?_; rintro e w' ⟨rfl, rfl⟩)
                | (go_at_call 109; refine (must_no _).mono ?_; rintro e w' ⟨rfl, rfl⟩)
                | (go_at_call 37; refine D6.out.mono ?_; intro e w7 h7; obtain ⟨b7, h7⟩ := h7
                   obtain rfl := h7.elim (fun h => h.2) (fun h => absurd h.1 HX.out.2.2)
                   have H7 := Lib.hid b7
                   clear b7 h7 t2))
              exact ⟨rfl, rfl, FAR.out _ _ HX.out.2.1 (Moves.of_below (B6.out.trans (H7.out.mono B6.out.size)))⟩
            · have EC := Lib.hid (end_no hrel.rd hre)
              have HM := Lib.hid hrel.mv
              clear hrel heq hN hT hm hs lb la lbb lbb' hr hsp hk hn hbt lrb lba lbc
              go_wp2_with (first
                | (go_at_call 149; refine EC.out.mono ?_; rintro e w6 ⟨rfl, m6⟩; have H6 := Lib.hid m6; clear m6)
                | (go_at_call 109; refine (must_no _).mono ?_; rintro e w' ⟨rfl, rfl⟩))
              exact ⟨rfl, rfl, FAR.out _ _ HM.out H6.out⟩
    · have RC := Lib.hid (fun (X : World) (F : Nat → Prop) (v : Value) (hv : BytesAt X.heap F v body) => record_no (kind := 3) hv lb (fun r e => hk ⟨r, e⟩))
      clear h hT hm hs hr hsp hk lb hl lbody
      go_enter Tryz.func114, Tryz.ntmps114
      go_wp2_with (first
        | (with_reducible refine NX.out.mono ?_; rintro e w1 ⟨v1, rfl, y1, x1, m1⟩; have H1 := Lib.hid (And.intro y1 (And.intro x1 m1)); clear y1 x1 m1)
        | (go_at_call 147; refine (RC.out _ _ _ H1.out.1).mono ?_; rintro e w2 ⟨rfl, b2⟩))
      exact ⟨rfl, rfl, H1.out.2.2.trans (Moves.of_below b2) (fun _ _ h => h)⟩

end Go.Proofs.YtgffifleflkjoaaGreat
