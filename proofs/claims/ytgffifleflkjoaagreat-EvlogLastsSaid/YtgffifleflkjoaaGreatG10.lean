/-
  Crash.
-/
import Derived.Test.YtgffifleflkjoaaGreatG09

namespace Go.Proofs.YtgffifleflkjoaaGreat
open Go.RowKit Dm

set_option maxRecDepth 100000 in
set_option maxHeartbeats 4000000 in
theorem crash_c {p m : Nat} {d : D} {F : Nat → Prop} {w : World} (x : DiskAt w.heap p m d F) (c : Crash) {kv : Value} (hk : BoolsAt w.heap kv c.keep) (ht0 : -9223372036854775808 ≤ c.torn) (ht1 : c.torn ≤ 9223372036854775807) (hp0 : -9223372036854775808 ≤ c.part) (hp1 : c.part ≤ 9223372036854775807) (hn : d.waits.length ≤ 1000000000000) :
    Calls Tryz.prog 19 #[.pointer (some ⟨p, 0, none⟩), .agg #[kv, .int .i64 c.torn, .int .i64 c.part]] w (CrashPost w F (d.crash c)) := by
  have hb0 : Below w.heap.size w (w.alloc (.cells #[kv, .int .i64 c.torn, .int .i64 c.part] tCrash)) := (Below.refl _ _).alloc (Nat.le_refl _) _
  have X := Lib.hid x
  have HK := Lib.hid hk
  have hl := x.lt
  have k16 := (hb0.cell (p := ⟨p, 16, none⟩) hl.1).trans x.cell16.1
  have hi : (Tryz.prog.info? tStand).map (·.size) = some 5 := by kernel_rfl
  have HI := Lib.hid hi
  clear hi
  have ok := x.ok
  obtain ⟨_, t0, t1, t2, t3, ml, l0, l1, l2, l3, wv, stops, after, c1, c2, c3, c4, c5, c6, c7, c8, c9, b0, b1, b2, b3, b4, b5, b6, b7, st⟩ := x
  obtain ⟨es2, clock2, q3, q4⟩ := c5
  have c1' := (hb0.block p hl.1).trans c1
  have CP := Lib.hid (copied_c p 5 ml (Or.inr rfl) l0 l1 l2 l3 es2 clock2 _ (row_cell c1' rfl) (row_cell c1' rfl) (row_cell c1' rfl) (row_cell c1' rfl) (row_cell c1' rfl) ((hb0.block _ (lt_of_row q3)).trans q3) (by simp [b4.one, b5.one, b6.one, b7.one]))
  have ALL := Lib.hid (And.intro c1 (And.intro q3 (And.intro q4 (And.intro b4 (And.intro b5 (And.intro b6 (And.intro b7 st)))))))
  have OK := Lib.hid ok
  clear c1 c2 c3 c4 c6 c7 c8 c9 b0 b1 b2 b3 b4 b5 b6 b7 q3 q4 c1' hk ok
  go_enter Tryz.func19, Tryz.ntmps19
  go_upto_region 5 with (first
    | (go_at_call 45; refine (none_at p true _ k16).mono ?_; rintro e w' ⟨rfl, rfl⟩)
    | (go_at_call 31; refine CP.out.mono ?_; rintro e W1 ⟨rfl, hb1, r1⟩)
    | (refine wpList_store_abs rfl tStand (.tmp 6) (.tmp 17) rfl W1.heap.size #[.map (some (w.heap.size + 1 + 1)), l0, l1, l2, l3] rfl rfl tStand stand0 (heap_alloc_last W1 _) HI.out (by kernel_rfl) (by have := ALL.out; simp [this.2.2.2.1.one, this.2.2.2.2.1.one, this.2.2.2.2.2.1.one, this.2.2.2.2.2.2.1.one]; rfl) ?_
       intro W2 HW HM HS))
  obtain ⟨cs0, z2⟩ := crash_start (d := d) (F := F) (ml := ml) ⟨es2, clock2, ALL.out.2.1, ALL.out.2.2.1⟩ ALL.out.2.1 ALL.out.2.2.2.1 ALL.out.2.2.2.2.1 ALL.out.2.2.2.2.2.1 ALL.out.2.2.2.2.2.2.1 hb1 (by simpa using r1) HW.out HM HS
  generalize hq : W1.heap.size = q at *
  generalize he0 : W2.heap.size = e0 at *
  subst z2
  obtain ⟨W3, hW3⟩ : ∃ W3, W2.alloc (.cells #[.bool false, .bool false, .bool false, .bool false] tB4) = W3 := ⟨_, rfl⟩
  simp only [tB4] at hW3 cs0
  rw [hW3] at cs0 ⊢
  obtain ⟨sa, sc, rfl, hsc, hnil⟩ := st.slice
  have k10 : W3.cell? ⟨p, 10, none⟩ = some (.slice sa d.waits.length sc) := (cs0.below.cell (p := ⟨p, 10, none⟩) hl.1).trans (row_cell ALL.out.1 rfl)
  have REL := Lib.hid (show CrRel w d F kv c q (w.heap.size + 1 + 1) (q + 1) 0 W3 from ⟨_, _, cs0, CrInv.start OK.out, rfl⟩)
  clear hW3 hq he0 HM HS HW r1 hb1 cs0 k16 hb0 CP HI st
  have HN := Lib.hid hnil
  clear hnil
  go_wp2
  go_loopg [23] d.waits.length (fun g s wr => ∃ k : Nat, s = .int .i64 (k : Int) ∧ g + k = d.waits.length ∧ CrRel w d F kv c q (w.heap.size + 1 + 1) (q + 1) k wr)
  case atStart => exact ⟨0, rfl, rfl, REL.out⟩
  case round =>
    obtain ⟨k, rfl, hg, hrel⟩ := hrel
    by_cases hlt : k < d.waits.length
    · obtain ⟨x, en, cs, inv, eqn⟩ := hrel
      obtain ⟨s, hs⟩ : ∃ s, d.waits[k]? = some s := ⟨_, List.getElem?_eq_getElem hlt⟩
      have stp : StepsAt wr.heap (CrF F w q (w.heap.size + 1 + 1) (q + 1)) (.slice sa d.waits.length sc) d.waits := ALL.out.2.2.2.2.2.2.2.keeps (fun k _ hl => cs.below.block k hl) (fun k h hl => Or.inl ⟨h, hl⟩)
      obtain ⟨b, o, c', tt, fr, rfl, hrow, hst⟩ : ∃ b o c' tt fr, sa = some ⟨b, o, none⟩ ∧ wr.heap[b]? = some (.cells c' tt fr) ∧ ∃ a0 a1 a2 a3 a4 a5 a6, wr.rangeAt b (o + k * 7) (stepL a0 a1 a2 a3 a4 a5 a6) ∧ StepAt wr.heap (CrF F w q (w.heap.size + 1 + 1) (q + 1)) s a0 a1 a2 a3 a4 a5 a6 := by
        rcases stp with ⟨h1, h2⟩ | ⟨b, o, cap, c', tt, fr, h1, h2, h3, g2, g3, g4⟩
        · rw [h2] at hlt; simp at hlt
        · obtain ⟨a0, a1, a2, a3, a4, a5, a6, e0, e1, e2, e3, e4, e5, e6, e7⟩ := g4 k s hs
          refine ⟨b, o, c', tt, fr, by simpa using (Value.slice.inj h1).1, g3, a0, a1, a2, a3, a4, a5, a6, ?_, e7⟩
          intro j v hj
          rw [cell_of_row _ _ _ _ _ _ g3]
          match j, hj with
          | 0, hj => cases hj; exact e0
          | 1, hj => cases hj; exact e1
          | 2, hj => cases hj; exact e2
          | 3, hj => cases hj; exact e3
          | 4, hj => cases hj; exact e4
          | 5, hj => cases hj; exact e5
          | 6, hj => cases hj; exact e6
          | n + 7, hj => cases hj
      obtain ⟨a0, a1, a2, a3, a4, a5, a6, rng, hst⟩ := hst
      have ST := Lib.hid (And.intro rng (And.intro hst hst.ones))
      have CS := Lib.hid (And.intro cs (And.intro inv (And.intro eqn (And.intro hs (And.intro hg stp)))))
      clear rng hst cs inv eqn hs hrow stp hg
      go_upto_region 8 with (first
        | (refine wpList_load_mid rfl tStep (.tmp 26) rfl b (o + k * 7) rfl (stepL a0 a1 a2 a3 a4 a5 a6) _ ST.out.1 Tryz.underlying115 rfl (by rw [infoStep1]; rfl) ?_)
        | (refine wpList_store_abs rfl tStep (.tmp 9) (.tmp 27) rfl wr.heap.size (stepL a0 a1 a2 a3 a4 a5 a6).toArray rfl rfl tStep _ (heap_alloc_last wr _) (by rw [infoStep1]; rfl) (by rfl) (all_oneCell_toArray ST.out.2.2) ?_
           intro W5 HW5 HM5 HS5))
      have hb5 : Below wr.heap.size wr W5 := Moves.new ((Below.refl _ _).alloc (Nat.le_refl _) _) HM5 (Nat.le_refl _)
      have cs5 := CS.out.1.next hb5
      have st5 : StepAt W5.heap (CrF F w q (w.heap.size + 1 + 1) (q + 1)) s a0 a1 a2 a3 a4 a5 a6 := ST.out.2.1.keeps (fun k _ hl => hb5.block k hl) (fun _ h _ => h)
      have C5 := Lib.hid (And.intro cs5 (And.intro st5 (And.intro hb5 HW5.out)))
      have g2 : a2 = .int .i64 (if s.what = 1 then -1 else s.n) := by
        rcases st5.2.2.2.2 with ⟨g1, g2, _⟩ | ⟨g1, g2, _⟩ | ⟨g1, g2, _⟩
        · rw [if_pos g1]; exact g2
        · rw [if_neg (by omega)]; exact g2
        · rw [if_neg (by omega)]; exact g2
      have sok : s.ok d.many := OK.out.waits s (List.mem_of_getElem? CS.out.2.2.2.1)
      have SOK := Lib.hid sok
      have k2 : W5.cell? ⟨wr.heap.size, 2, none⟩ = some a2 := row_cell HW5.out rfl
      rw [g2] at k2
      have G2 := Lib.hid g2
      clear HM5 HS5 hb5 st5 g2
      by_cases h1 : s.what = 1
      · rw [if_pos h1] at k2
        have H1 := Lib.hid h1
        clear h1 cs5 sok
        go_upto_region 9 with fail
        go_cut [10] (fun s10 wx => s10 = .bool (c.isTorn d.waits.length k) ∧ ∃ nq, wx = W5.drewN nq)
        case first =>
          have kp : W5.cell? ⟨w.heap.size, 2, none⟩ = some (.int .i64 c.part) := row_cell C5.out.1.box rfl
          have kt : W5.cell? ⟨w.heap.size, 1, none⟩ = some (.int .i64 c.torn) := row_cell C5.out.1.box rfl
          have kw : W5.cell? ⟨p, 10, none⟩ = some (.slice (some ⟨b, o, none⟩) d.waits.length sc) := (C5.out.1.below.cell (p := ⟨p, 10, none⟩) hl.1).trans (row_cell ALL.out.1 rfl)
          by_cases hpp : 0 ≤ c.part
          · by_cases hpk : (k : Int) = pick c.torn d.waits.length
            · have e1 : c.isTorn d.waits.length k = true := by simp [Crash.isTorn, hpp, hpk.symm]
              have E1 := Lib.hid e1
              have e2 : decide (0 ≤ c.part) = true := by simpa using hpp
              have e3 : ((k : Int) == pick c.torn d.waits.length) = true := by simpa using hpk
              clear e1 hpk
              go_quiet ((go_at_call 46; exact Calls.quiet_of_same ((picked_c _ _ _ ht0 ht1 (by omega) (by omega)).mono fun e w' h => ⟨h.1, h.2.symm⟩)))
              go_wp2_with fail
              go_meet
              exact ⟨by rw [E1.out], _, rfl⟩
            · have e1 : c.isTorn d.waits.length k = false := by simp [Crash.isTorn, hpk]
              have E1 := Lib.hid e1
              have e2 : decide (0 ≤ c.part) = true := by simpa using hpp
              have e3 : ((k : Int) == pick c.torn d.waits.length) = false := by simpa using hpk
              clear e1 hpk
              go_quiet ((go_at_call 46; exact Calls.quiet_of_same ((picked_c _ _ _ ht0 ht1 (by omega) (by omega)).mono fun e w' h => ⟨h.1, h.2.symm⟩)))
              go_wp2_with fail
              go_meet
              exact ⟨by rw [E1.out], _, rfl⟩
          · have e1 : c.isTorn d.waits.length k = false := by simp [Crash.isTorn, hpp]
            have E1 := Lib.hid e1
            have e2 : decide (0 ≤ c.part) = false := by simpa using hpp
            clear e1
            go_quiet (fail)
            go_wp2_with fail
            go_meet
            exact ⟨by rw [E1.out], _, rfl⟩
        case rest =>
          obtain ⟨rfl, nq, rfl⟩ := hcut
          obtain ⟨W6, hW6⟩ : ∃ W6, W5.drewN nq = W6 := ⟨_, rfl⟩
          have hb6 : Below W5.heap.size W5 W6 := by rw [← hW6]; exact below_drewN (Below.refl _ _) nq
          have C6 := Lib.hid (And.intro (C5.out.1.next hb6) (And.intro (C5.out.2.1.keeps (fun k _ hl => hb6.block k hl) (fun _ h _ => h)) (And.intro (C5.out.2.2.1.trans (hb6.mono C5.out.2.2.1.size)) ((hb6.block _ (lt_of_row C5.out.2.2.2)).trans C5.out.2.2.2))))
          rw [hW6]
          clear hW6 hb6 C5 HW5 k2
          obtain ⟨ka, kc, rfl⟩ := HK.out.slice
          have kk : W6.cell? ⟨w.heap.size, 0, none⟩ = some (.slice ka c.keep.length kc) := row_cell C6.out.1.box rfl
          go_upto_region 10 with fail
          go_cut [11] (fun s11 wx => s11 = .bool (c.kept k) ∧ ∃ nq, wx = W6.drewN nq)
          case first =>
            by_cases hpp : 0 < c.keep.length
            · obtain ⟨kb, ko, rfl, hkc⟩ : ∃ kb ko, ka = some ⟨kb, ko, none⟩ ∧ ∀ (i : Nat) (x : Bool), c.keep[i]? = some x → W6.cell? ⟨kb, ko + i, none⟩ = some (.bool x) := by
                rcases HK.out with ⟨h1, h2⟩ | ⟨kb, ko, cap, cc, tt2, fr2, h1, h2, h3⟩
                · rw [h2] at hpp; cases hpp
                · refine ⟨kb, ko, (Value.slice.inj h1).1, fun i x hi => ?_⟩
                  rw [C6.out.1.below.cell (p := ⟨kb, ko + i, none⟩) (lt_of_row h2), cell_of_row _ _ _ _ _ _ h2]
                  exact h3 i x hi
              have hj : k % c.keep.length < c.keep.length := Nat.mod_lt _ hpp
              have kcell := hkc (k % c.keep.length) c.keep[k % c.keep.length] (List.getElem?_eq_getElem hj)
              have ev : c.kept k = c.keep[k % c.keep.length] := by
                have e0 : max 1 c.keep.length = c.keep.length := by omega
                simp [Crash.kept, hpp, e0, List.getD_eq_getElem?_getD, List.getElem?_eq_getElem hj]
              have EV := Lib.hid ev
              have e2 : decide (0 < (c.keep.length : Int)) = true := by simp; omega
              have hif : (if 1 < (c.keep.length : Int) then (c.keep.length : Int) else 1) = (c.keep.length : Int) := by
                by_cases h : 1 < (c.keep.length : Int)
                · rw [if_pos h]
                · rw [if_neg h]; omega
              have hne : ¬ ((c.keep.length : Int) = 0) := by omega
              have htm : (k : Int).tmod (c.keep.length : Int) = ((k % c.keep.length : Nat) : Int) := by rw [Int.tmod_eq_emod_of_nonneg (by omega)]; rfl
              clear ev hkc
              generalize c.keep[k % c.keep.length] = kv' at *
              generalize k % c.keep.length = j at *
              have hj0 : (0 : Int) ≤ (j : Int) := by omega
              have hj1 : (j : Int) < (c.keep.length : Int) := by omega
              go_quiet (fail)
              go_wp2_with fail
              go_meet
              exact ⟨by rw [EV.out], _, rfl⟩
            · have e0 : c.keep = [] := List.length_eq_zero_iff.1 (by omega)
              have e1 : c.kept k = false := by simp [Crash.kept, e0]
              have E1 := Lib.hid e1
              have e2 : decide (0 < (c.keep.length : Int)) = false := by simp; omega
              clear e1 e0
              go_quiet (fail)
              go_wp2_with fail
              go_meet
              exact ⟨by rw [E1.out], _, rfl⟩
          case rest =>
            obtain ⟨rfl, nq, rfl⟩ := hcut
            obtain ⟨W7, hW7⟩ : ∃ W7, W6.drewN nq = W7 := ⟨_, rfl⟩
            have hb7 : Below W6.heap.size W6 W7 := by rw [← hW7]; exact below_drewN (Below.refl _ _) nq
            have C7 := Lib.hid (And.intro (C6.out.1.next hb7) (And.intro (C6.out.2.1.keeps (fun k _ hl => hb7.block k hl) (fun _ h _ => h)) (And.intro (C6.out.2.2.1.trans (hb7.mono C6.out.2.2.1.size)) ((hb7.block _ (lt_of_row C6.out.2.2.2)).trans C6.out.2.2.2))))
            rw [hW7]
            clear hW7 hb7 C6 kk
            have room1 := OK.out.room1
            have hx : ∀ t, (x.tp t).length ≤ 1048576 := fun t => by have := CS.out.2.1.room OK.out t; omega
            obtain ⟨fn, lb, e0', eg, hdo⟩ := does_c s d.many SOK.out q _ x _ tStand [] W7 a0 a1 a2 a3 a4 a5 a6 C7.out.2.1 hx C7.out.1.stand
            obtain ⟨fn2, lb2, e1', eg2, hpa⟩ := part_c s d.many SOK.out q _ x _ tStand [] W7 a0 a1 a2 a3 a4 a5 a6 c.part hp0 hp1 C7.out.2.1 hx CS.out.2.1.sec C7.out.1.stand
            have HDO := Lib.hid hdo
            have HPA := Lib.hid hpa
            have k20 : W7.cell? ⟨wr.heap.size, 0, none⟩ = some a0 := row_cell C7.out.2.2.2 rfl
            have k21 : W7.cell? ⟨wr.heap.size, 1, none⟩ = some a1 := row_cell C7.out.2.2.2 rfl
            have k22 : W7.cell? ⟨wr.heap.size, 2, none⟩ = some a2 := row_cell C7.out.2.2.2 rfl
            have kp : W7.cell? ⟨w.heap.size, 2, none⟩ = some (.int .i64 c.part) := row_cell C7.out.1.box rfl
            have stay : ∀ (x' : St) (W8 : World) (e : Ending), Did W7 q (w.heap.size + 1 + 1) x' (CrF F w q (w.heap.size + 1 + 1) (q + 1)) tStand [] e W8 → W8.cell? ⟨wr.heap.size, 2, none⟩ = some a2 := fun _ _ _ hd => by
              have lq : q < wr.heap.size := by obtain ⟨t0, t1, t2, t3, c1, _⟩ := CS.out.1.stand; exact lt_of_row c1
              have lm : w.heap.size + 1 + 1 < wr.heap.size := by obtain ⟨t0, t1, t2, t3, c1, ⟨es, cl, g, _⟩, _⟩ := CS.out.1.stand; exact lt_of_row g
              exact row_cell ((hd.moves.block _ (lt_of_row C7.out.2.2.2) (fun e => by omega)).trans C7.out.2.2.2) rfl
            have STAY := Lib.hid stay
            have tv : a2 = .int .i64 (-1) := by rw [G2.out, if_pos H1.out]
            rw [e0'] at k20
            rw [e1'] at k21
            rw [tv] at k22
            clear stay hdo hpa e0' e1' hx
            cases hT : c.isTorn d.waits.length k
            · cases hK : c.kept k
              · have HT := Lib.hid (And.intro hT hK)
                clear hT hK
                go_wp2
                go_roundg (d.waits.length - (k + 1))
                case measure => have := CS.out.2.2.2.2.1; omega
                case rel => exact ⟨k + 1, by go_num, by have := CS.out.2.2.2.2.1; omega, CrRel.next OK.out CS.out.2.1 CS.out.2.2.1 CS.out.2.2.2.1 (fun h => h.1 H1.out) C7.out.1 (by simp [crashX, HT.out.1, HT.out.2]) (by simp [crashE, H1.out])⟩
              · have HT := Lib.hid (And.intro hT hK)
                clear hT hK
                go_wp2_with (refine HDO.out.mono ?_
                             rintro e W8 hd
                             have er := hd.ret
                             subst er
                             have k28 := (STAY.out _ _ _ hd).trans (congrArg some tv)
                             have cs8 := C7.out.1.did hd
                             have C8 := Lib.hid cs8
                             clear cs8 hd)
                go_roundg (d.waits.length - (k + 1))
                case measure => have := CS.out.2.2.2.2.1; omega
                case rel => exact ⟨k + 1, by go_num, by have := CS.out.2.2.2.2.1; omega, CrRel.next OK.out CS.out.2.1 CS.out.2.2.1 CS.out.2.2.2.1 (fun h => h.1 H1.out) C8.out (by simp [crashX, HT.out.1, HT.out.2]) (by simp [crashE, H1.out])⟩
            · have HT := Lib.hid hT
              clear hT
              go_wp2_with (refine HPA.out.mono ?_
                           rintro e W8 hd
                           have er := hd.ret
                           subst er
                           have k28 := (STAY.out _ _ _ hd).trans (congrArg some tv)
                           have cs8 := C7.out.1.did hd
                           have C8 := Lib.hid cs8
                           clear cs8 hd)
              go_roundg (d.waits.length - (k + 1))
              case measure => have := CS.out.2.2.2.2.1; omega
              case rel => exact ⟨k + 1, by go_num, by have := CS.out.2.2.2.2.1; omega, CrRel.next OK.out CS.out.2.1 CS.out.2.2.1 CS.out.2.2.2.1 (fun h => h.1 H1.out) C8.out (by simp [crashX, HT.out]) (by simp [crashE, H1.out])⟩
      · rw [if_neg h1] at k2
        obtain ⟨t, et, ht⟩ : ∃ t : Nat, s.n = t ∧ t < 4 := by
          rcases sok with h | h | h
          · exact absurd h.1 h1
          · exact ⟨s.n.toNat, by omega, by omega⟩
          · exact ⟨s.n.toNat, by omega, by omega⟩
        rw [et] at k2
        have k3 := cs5.endAt t ht
        have t0' : (0 : Int) ≤ t := by omega
        have t1' : (t : Int) < 4 := by omega
        have H1 := Lib.hid (And.intro h1 (And.intro et ht))
        clear h1 cs5 sok et
        cases hen : en t
        · rw [hen] at k3
          have HE := Lib.hid hen
          clear hen
          go_upto_region 9 with fail
          go_cut [10] (fun s10 wx => s10 = .bool (c.isTorn d.waits.length k) ∧ ∃ nq, wx = W5.drewN nq)
          case first =>
            have kp : W5.cell? ⟨w.heap.size, 2, none⟩ = some (.int .i64 c.part) := row_cell C5.out.1.box rfl
            have kt : W5.cell? ⟨w.heap.size, 1, none⟩ = some (.int .i64 c.torn) := row_cell C5.out.1.box rfl
            have kw : W5.cell? ⟨p, 10, none⟩ = some (.slice (some ⟨b, o, none⟩) d.waits.length sc) := (C5.out.1.below.cell (p := ⟨p, 10, none⟩) hl.1).trans (row_cell ALL.out.1 rfl)
            by_cases hpp : 0 ≤ c.part
            · by_cases hpk : (k : Int) = pick c.torn d.waits.length
              · have e1 : c.isTorn d.waits.length k = true := by simp [Crash.isTorn, hpp, hpk.symm]
                have E1 := Lib.hid e1
                have e2 : decide (0 ≤ c.part) = true := by simpa using hpp
                have e3 : ((k : Int) == pick c.torn d.waits.length) = true := by simpa using hpk
                clear e1 hpk
                go_quiet ((go_at_call 46; exact Calls.quiet_of_same ((picked_c _ _ _ ht0 ht1 (by omega) (by omega)).mono fun e w' h => ⟨h.1, h.2.symm⟩)))
                go_wp2_with fail
                go_meet
                exact ⟨by rw [E1.out], _, rfl⟩
              · have e1 : c.isTorn d.waits.length k = false := by simp [Crash.isTorn, hpk]
                have E1 := Lib.hid e1
                have e2 : decide (0 ≤ c.part) = true := by simpa using hpp
                have e3 : ((k : Int) == pick c.torn d.waits.length) = false := by simpa using hpk
                clear e1 hpk
                go_quiet ((go_at_call 46; exact Calls.quiet_of_same ((picked_c _ _ _ ht0 ht1 (by omega) (by omega)).mono fun e w' h => ⟨h.1, h.2.symm⟩)))
                go_wp2_with fail
                go_meet
                exact ⟨by rw [E1.out], _, rfl⟩
            · have e1 : c.isTorn d.waits.length k = false := by simp [Crash.isTorn, hpp]
              have E1 := Lib.hid e1
              have e2 : decide (0 ≤ c.part) = false := by simpa using hpp
              clear e1
              go_quiet (fail)
              go_wp2_with fail
              go_meet
              exact ⟨by rw [E1.out], _, rfl⟩
          case rest =>
            obtain ⟨rfl, nq, rfl⟩ := hcut
            obtain ⟨W6, hW6⟩ : ∃ W6, W5.drewN nq = W6 := ⟨_, rfl⟩
            have hb6 : Below W5.heap.size W5 W6 := by rw [← hW6]; exact below_drewN (Below.refl _ _) nq
            have C6 := Lib.hid (And.intro (C5.out.1.next hb6) (And.intro (C5.out.2.1.keeps (fun k _ hl => hb6.block k hl) (fun _ h _ => h)) (And.intro (C5.out.2.2.1.trans (hb6.mono C5.out.2.2.1.size)) ((hb6.block _ (lt_of_row C5.out.2.2.2)).trans C5.out.2.2.2))))
            rw [hW6]
            clear hW6 hb6 C5 HW5 k2 k3
            obtain ⟨ka, kc, rfl⟩ := HK.out.slice
            have kk : W6.cell? ⟨w.heap.size, 0, none⟩ = some (.slice ka c.keep.length kc) := row_cell C6.out.1.box rfl
            go_upto_region 10 with fail
            go_cut [11] (fun s11 wx => s11 = .bool (c.kept k) ∧ ∃ nq, wx = W6.drewN nq)
            case first =>
              by_cases hpp : 0 < c.keep.length
              · obtain ⟨kb, ko, rfl, hkc⟩ : ∃ kb ko, ka = some ⟨kb, ko, none⟩ ∧ ∀ (i : Nat) (x : Bool), c.keep[i]? = some x → W6.cell? ⟨kb, ko + i, none⟩ = some (.bool x) := by
                  rcases HK.out with ⟨h1, h2⟩ | ⟨kb, ko, cap, cc, tt2, fr2, h1, h2, h3⟩
                  · rw [h2] at hpp; cases hpp
                  · refine ⟨kb, ko, (Value.slice.inj h1).1, fun i x hi => ?_⟩
                    rw [C6.out.1.below.cell (p := ⟨kb, ko + i, none⟩) (lt_of_row h2), cell_of_row _ _ _ _ _ _ h2]
                    exact h3 i x hi
                have hj : k % c.keep.length < c.keep.length := Nat.mod_lt _ hpp
                have kcell := hkc (k % c.keep.length) c.keep[k % c.keep.length] (List.getElem?_eq_getElem hj)
                have ev : c.kept k = c.keep[k % c.keep.length] := by
                  have e0 : max 1 c.keep.length = c.keep.length := by omega
                  simp [Crash.kept, hpp, e0, List.getD_eq_getElem?_getD, List.getElem?_eq_getElem hj]
                have EV := Lib.hid ev
                have e2 : decide (0 < (c.keep.length : Int)) = true := by simp; omega
                have hif : (if 1 < (c.keep.length : Int) then (c.keep.length : Int) else 1) = (c.keep.length : Int) := by
                  by_cases h : 1 < (c.keep.length : Int)
                  · rw [if_pos h]
                  · rw [if_neg h]; omega
                have hne : ¬ ((c.keep.length : Int) = 0) := by omega
                have htm : (k : Int).tmod (c.keep.length : Int) = ((k % c.keep.length : Nat) : Int) := by rw [Int.tmod_eq_emod_of_nonneg (by omega)]; rfl
                clear ev hkc
                generalize c.keep[k % c.keep.length] = kv' at *
                generalize k % c.keep.length = j at *
                have hj0 : (0 : Int) ≤ (j : Int) := by omega
                have hj1 : (j : Int) < (c.keep.length : Int) := by omega
                go_quiet (fail)
                go_wp2_with fail
                go_meet
                exact ⟨by rw [EV.out], _, rfl⟩
              · have e0 : c.keep = [] := List.length_eq_zero_iff.1 (by omega)
                have e1 : c.kept k = false := by simp [Crash.kept, e0]
                have E1 := Lib.hid e1
                have e2 : decide (0 < (c.keep.length : Int)) = false := by simp; omega
                clear e1 e0
                go_quiet (fail)
                go_wp2_with fail
                go_meet
                exact ⟨by rw [E1.out], _, rfl⟩
            case rest =>
              obtain ⟨rfl, nq, rfl⟩ := hcut
              obtain ⟨W7, hW7⟩ : ∃ W7, W6.drewN nq = W7 := ⟨_, rfl⟩
              have hb7 : Below W6.heap.size W6 W7 := by rw [← hW7]; exact below_drewN (Below.refl _ _) nq
              have C7 := Lib.hid (And.intro (C6.out.1.next hb7) (And.intro (C6.out.2.1.keeps (fun k _ hl => hb7.block k hl) (fun _ h _ => h)) (And.intro (C6.out.2.2.1.trans (hb7.mono C6.out.2.2.1.size)) ((hb7.block _ (lt_of_row C6.out.2.2.2)).trans C6.out.2.2.2))))
              rw [hW7]
              clear hW7 hb7 C6 kk
              have room1 := OK.out.room1
              have hx : ∀ t, (x.tp t).length ≤ 1048576 := fun t => by have := CS.out.2.1.room OK.out t; omega
              obtain ⟨fn, lb, e0', eg, hdo⟩ := does_c s d.many SOK.out q _ x _ tStand [] W7 a0 a1 a2 a3 a4 a5 a6 C7.out.2.1 hx C7.out.1.stand
              obtain ⟨fn2, lb2, e1', eg2, hpa⟩ := part_c s d.many SOK.out q _ x _ tStand [] W7 a0 a1 a2 a3 a4 a5 a6 c.part hp0 hp1 C7.out.2.1 hx CS.out.2.1.sec C7.out.1.stand
              have HDO := Lib.hid hdo
              have HPA := Lib.hid hpa
              have k20 : W7.cell? ⟨wr.heap.size, 0, none⟩ = some a0 := row_cell C7.out.2.2.2 rfl
              have k21 : W7.cell? ⟨wr.heap.size, 1, none⟩ = some a1 := row_cell C7.out.2.2.2 rfl
              have k22 : W7.cell? ⟨wr.heap.size, 2, none⟩ = some a2 := row_cell C7.out.2.2.2 rfl
              have kp : W7.cell? ⟨w.heap.size, 2, none⟩ = some (.int .i64 c.part) := row_cell C7.out.1.box rfl
              have stay : ∀ (x' : St) (W8 : World) (e : Ending), Did W7 q (w.heap.size + 1 + 1) x' (CrF F w q (w.heap.size + 1 + 1) (q + 1)) tStand [] e W8 → W8.cell? ⟨wr.heap.size, 2, none⟩ = some a2 := fun _ _ _ hd => by
                have lq : q < wr.heap.size := by obtain ⟨t0, t1, t2, t3, c1, _⟩ := CS.out.1.stand; exact lt_of_row c1
                have lm : w.heap.size + 1 + 1 < wr.heap.size := by obtain ⟨t0, t1, t2, t3, c1, ⟨es, cl, g, _⟩, _⟩ := CS.out.1.stand; exact lt_of_row g
                exact row_cell ((hd.moves.block _ (lt_of_row C7.out.2.2.2) (fun e => by omega)).trans C7.out.2.2.2) rfl
              have STAY := Lib.hid stay
              have tv : a2 = .int .i64 (t : Int) := by rw [G2.out, if_neg H1.out.1, H1.out.2.1]
              rw [e0'] at k20
              rw [e1'] at k21
              rw [tv] at k22
              clear stay hdo hpa e0' e1' hx
              cases hT : c.isTorn d.waits.length k
              · cases hK : c.kept k
                · have HT := Lib.hid (And.intro hT hK)
                  clear hT hK
                  have k30 := C7.out.1.endAt t H1.out.2.2
                  have f30 := row_free C7.out.1.ends t
                  go_wp2
                  go_roundg (d.waits.length - (k + 1))
                  case measure => have := CS.out.2.2.2.2.1; omega
                  case rel => exact ⟨k + 1, by go_num, by have := CS.out.2.2.2.2.1; omega, CrRel.next OK.out CS.out.2.1 CS.out.2.2.1 CS.out.2.2.2.1 (fun h => by have := h.2; rw [H1.out.2.1, HE.out] at this; cases this) (C7.out.1.endSet t H1.out.2.2 true) (by simp [crashX, HT.out.1, HT.out.2]) (by simp [crashE, H1.out.1, H1.out.2.1, HT.out.1, HT.out.2])⟩
                · have HT := Lib.hid (And.intro hT hK)
                  clear hT hK
                  go_wp2_with (refine HDO.out.mono ?_
                               rintro e W8 hd
                               have er := hd.ret
                               subst er
                               have k28 := (STAY.out _ _ _ hd).trans (congrArg some tv)
                               have cs8 := C7.out.1.did hd
                               have k38 := cs8.endAt t H1.out.2.2
                               have f38 := row_free cs8.ends t
                               have C8 := Lib.hid cs8
                               clear cs8 hd)
                  go_roundg (d.waits.length - (k + 1))
                  case measure => have := CS.out.2.2.2.2.1; omega
                  case rel => exact ⟨k + 1, by go_num, by have := CS.out.2.2.2.2.1; omega, CrRel.next OK.out CS.out.2.1 CS.out.2.2.1 CS.out.2.2.2.1 (fun h => by have := h.2; rw [H1.out.2.1, HE.out] at this; cases this) (C8.out.endSet t H1.out.2.2 false) (by simp [crashX, HT.out.1, HT.out.2]) (by simp [crashE, H1.out.1, H1.out.2.1, HT.out.1, HT.out.2])⟩
              · have HT := Lib.hid hT
                clear hT
                go_wp2_with (refine HPA.out.mono ?_
                             rintro e W8 hd
                             have er := hd.ret
                             subst er
                             have k28 := (STAY.out _ _ _ hd).trans (congrArg some tv)
                             have cs8 := C7.out.1.did hd
                             have k38 := cs8.endAt t H1.out.2.2
                             have f38 := row_free cs8.ends t
                             have C8 := Lib.hid cs8
                             clear cs8 hd)
                go_roundg (d.waits.length - (k + 1))
                case measure => have := CS.out.2.2.2.2.1; omega
                case rel => exact ⟨k + 1, by go_num, by have := CS.out.2.2.2.2.1; omega, CrRel.next OK.out CS.out.2.1 CS.out.2.2.1 CS.out.2.2.2.1 (fun h => by have := h.2; rw [H1.out.2.1, HE.out] at this; cases this) (C8.out.endSet t H1.out.2.2 true) (by simp [crashX, HT.out]) (by simp [crashE, H1.out.1, H1.out.2.1, HT.out])⟩
        · rw [hen] at k3
          have HE := Lib.hid hen
          clear hen
          go_wp2
          go_roundg (d.waits.length - (k + 1))
          case measure => have := CS.out.2.2.2.2.1; omega
          case rel =>
            refine ⟨k + 1, by go_num, by have := CS.out.2.2.2.2.1; omega, x, en, C5.out.1, CS.out.2.1.skip CS.out.2.2.2.1 ⟨H1.out.1, by rw [H1.out.2.1]; exact HE.out⟩, ?_⟩
            rw [← CS.out.2.2.1, List.drop_eq_getElem_cons hlt]
            have := (List.getElem?_eq_some_iff.1 CS.out.2.2.2.1).2
            rw [this, crashGo_skip _ _ _ _ _ _ _ ⟨H1.out.1, by rw [H1.out.2.1]; exact HE.out⟩]
    · obtain ⟨x, en, cs, inv, eqn⟩ := hrel
      obtain rfl : k = d.waits.length := by omega
      rw [List.drop_length, crashGo] at eqn
      have hz := cs.below.size
      obtain ⟨u0, u1, u2, u3, r1, r2, v0, v1, v2, v3, n1, n2, n3⟩ := cs.stand
      have r2' := r2
      obtain ⟨es, clock, r3, _⟩ := r2
      have kk : ∀ (j : Nat) (v : Value), (#[.map (some (w.heap.size + 1 + 1)), u0, u1, u2, u3] : Array Value)[j]? = some v → wr.drew.cell? ⟨q, j, none⟩ = some v := fun j v hj => row_cell (w := wr.drew) r1 hj
      have CP := Lib.hid (copied_c q 0 (w.heap.size + 1 + 1) (Or.inl rfl) u0 u1 u2 u3 es clock wr.drew (kk 0 _ rfl) (kk 1 _ rfl) (kk 2 _ rfl) (kk 3 _ rfl) (kk 4 _ rfl) r3 (by simp [v0.one, v1.one, v2.one, v3.one]))
      have hi : (Tryz.prog.info? tStand).map (·.size) = some 5 := by kernel_rfl
      have ld : ∀ w', (∃ x : Wd (Below wr.heap.size wr), w' = x.world) → (Instr.loadAt tStand (.pointer (some ⟨q, 0, none⟩))).run Tryz.prog w' = .ok (.agg #[.map (some (w.heap.size + 1 + 1)), u0, u1, u2, u3]) w' := by
        rintro w' ⟨x, rfl⟩
        exact run_loadAt_row ((x.ok.block _ (lt_of_row r1)).trans r1) Tryz.underlying91 rfl hi
      have LD := Lib.hid ld
      have EN := Lib.hid (And.intro cs (And.intro inv (And.intro eqn (And.intro r1 (And.intro r2' (And.intro r3 (And.intro v0 (And.intro v1 (And.intro v2 v3)))))))))
      have lp : p < wr.heap.size := by omega
      have x11 : ∀ x : Wd (Below wr.heap.size wr), x.world.cell? ⟨p, 11, none⟩ = some (.int .i64 d.many) := fun x => (x.ok.cell (p := ⟨p, 11, none⟩) lp).trans ((cs.below.cell (p := ⟨p, 11, none⟩) hl.1).trans (row_cell ALL.out.1 rfl))
      have x12 : ∀ x : Wd (Below wr.heap.size wr), x.world.cell? ⟨p, 12, none⟩ = some (.int .i64 d.room) := fun x => (x.ok.cell (p := ⟨p, 12, none⟩) lp).trans ((cs.below.cell (p := ⟨p, 12, none⟩) hl.1).trans (row_cell ALL.out.1 rfl))
      clear kk hi ld cs inv eqn r1 r2' r3 v0 v1 v2 v3
      have ne : Nonempty (Wd (Below wr.heap.size wr)) := ⟨⟨_, Below.refl _ _⟩⟩
      go_wp2
      refine wp_region_hoist (fun w' => ∃ x : Wd (Below wr.heap.size wr), w' = x.world) [] (by kernel_rfl) ?_
      refine wpAnyI_reads [0, 2, 3, 4, 5, 6, 7, 8, 9] 5 _ ⟨⟨_, (Below.refl _ _).drew⟩, rfl⟩ (by kernel_rfl) ?_
      simp only [List.filterMap_cons, List.filterMap_nil, List.getElem?_toArray, List.getElem?_cons_succ, List.getElem?_cons_zero]
      refine wpHoist_load_run rfl tStand (.tmp 6) rfl _ LD.out ?_
      repeat (refine wpHoist_step (fun K hK => ?_); simp only [hoists, sameUpon]; go_simp; refine hK _ ?_; clear hK K)
      refine wpHoist_nil ?_
      refine wpAnyI_one 1 4 _ _ rfl (by kernel_rfl) ?_
      refine wpList_plain rfl fun K hK => ?_
      go_simp
      go_at_call 31
      refine CP.out.mono ?_
      rintro e W9 ⟨rfl, hb9, r9⟩
      have hb9' : Below wr.heap.size wr W9 := (Below.refl _ _).drew.trans hb9
      have R9 := Lib.hid r9
      clear r9 hb9
      refine hK _ _ (wpList_nil ⟨rfl, fun _ => ⟨⟨_, hb9'⟩, rfl⟩, ?_⟩)
      clear hK K
      refine wpAnyI_reads [10] 3 _ ⟨⟨_, hb9'⟩, rfl⟩ (by kernel_rfl) ?_
      simp only [List.filterMap_cons, List.filterMap_nil, List.getElem?_toArray, List.getElem?_cons_succ, List.getElem?_cons_zero]
      repeat (refine wpHoist_step (fun K hK => ?_); simp only [hoists, sameUpon]; go_simp; refine hK _ ?_; clear hK K)
      refine wpHoist_nil ?_
      refine wpAnyI_one 11 2 _ _ rfl (by kernel_rfl) ?_
      refine wpList_plain rfl fun K hK => ?_
      go_simp
      refine hK _ _ (wpList_nil ⟨rfl, fun _ => ⟨⟨_, hb9'.alloc hb9'.size _⟩, rfl⟩, ?_⟩)
      clear hK K
      refine wpAnyI_reads [12, 13] 0 _ ⟨⟨_, hb9'.alloc hb9'.size _⟩, rfl⟩ (by kernel_rfl) ?_
      simp only [List.filterMap_cons, List.filterMap_nil, List.getElem?_toArray, List.getElem?_cons_succ, List.getElem?_cons_zero]
      repeat (refine wpHoist_step (fun K hK => ?_); simp only [hoists, sameUpon]; go_simp; refine hK _ ?_; clear hK K)
      refine wpHoist_nil ?_
      refine ⟨by kernel_rfl, ?_⟩
      go_wp2
      go_ret2
      obtain ⟨cs, inv, eqn, r1, r2', r3, v0, v1, v2, v3⟩ := EN.out
      exact crash_end OK.out cs inv eqn r1 r2' r3 v0 v1 v2 v3 hb9' R9.out

end Go.Proofs.YtgffifleflkjoaaGreat
