/-
  The document's disk: Crash, the walk.
  The document's disk: Sync; a sector.
-/
import Derived.Test.YtiefhmbpaoecfaaG17
import Derived.Test.YtiefhmbpaoecfaaG18
import Derived.Deep.LoopGhost
import Derived.Deep.CutRange

namespace Go.Proofs.Ytiefhmbpaoecfaa
open Go.RowKit Dm

set_option maxRecDepth 100000 in
set_option maxHeartbeats 8000000 in
theorem rcrash_c {w : World} {F : Nat → Prop} {v : Value} {d : D} (hr : RefAt w.heap F v d) (ok : d.ok) (hn : d.waits.length ≤ 1000000000000) (c : Crash) {kv : Value} (hk : BoolsAt w.heap kv c.keep) (hkl : c.keep.length ≤ 1000000) (ht0 : -9223372036854775808 ≤ c.torn) (ht1 : c.torn ≤ 9223372036854775807) (hp0 : -9223372036854775808 ≤ c.part) (hp1 : c.part ≤ 9223372036854775807) :
    Calls Try.prog 39 #[v, .agg #[kv, .int .i64 c.torn, .int .i64 c.part]] w fun e w' => ∃ v', e = .returned v' ∧ Below w.heap.size w w' ∧ RefAt w'.heap (plus F w w') v' (d.crash c) := by
  obtain ⟨sv, t0, t1, t2, t3, wv, rfl, rb, st⟩ := hr
  obtain ⟨wa, wc, rfl, hwc, hwc2⟩ := st.slice
  obtain ⟨ka, kc, rfl⟩ := hk.slice
  have ones := rb.ones
  generalize hC : refC d.many d.room sv t0 t1 t2 t3 (.slice wa d.waits.length wc) d.dead d.stops = C
  have mid : ∀ X : World, X.heap[w.heap.size]? = some (.cells C tRDisk (0, 0)) → X.rangeAt w.heap.size 2 [sv, t0, t1, t2, t3] ∧ X.cell? ⟨w.heap.size, 7, none⟩ = some (.slice wa d.waits.length wc) ∧ X.cell? ⟨w.heap.size, 0, none⟩ = some (.int .i64 d.many) ∧ X.cell? ⟨w.heap.size, 1, none⟩ = some (.int .i64 d.room) := fun X hX => by
    rw [← hC] at hX
    refine ⟨fun j u hj => ?_, row_cell hX rfl, row_cell hX rfl, row_cell hX rfl⟩
    rw [cell_of_row _ _ _ _ _ _ hX]
    match j, hj with
    | 0, hj => cases hj; rfl
    | 1, hj => cases hj; rfl
    | 2, hj => cases hj; rfl
    | 3, hj => cases hj; rfl
    | 4, hj => cases hj; rfl
    | n + 5, hj => cases hj
  have HD := Lib.hid (And.intro rb (And.intro st (And.intro ones (And.intro mid (And.intro ok hk)))))
  have hl0 : (0 : Int) ≤ (d.waits.length : Int) := by omega
  have hl1 : (d.waits.length : Int) ≤ 1000000000000 := by omega
  have hkl1 : (c.keep.length : Int) ≤ 1000000 := by omega
  have RS := fun W1 hm hw => rcr_start (w := w) (W1 := W1) (F := F) (d := d) (kv := .slice ka c.keep.length kc) (c := c) (C := C) rb hm hw
  have RS := Lib.hid RS
  have qq : ((((w.alloc (.cells C tRDisk)).alloc (.cells #[.slice ka c.keep.length kc, .int .i64 c.torn, .int .i64 c.part] tCrash)).alloc (.cells ref0 tRDisk))).heap[w.heap.size]? = some (.cells C tRDisk (0, 0)) := heap_past (by simp <;> omega) (heap_past (by simp) (heap_alloc_last w _))
  have QQ := Lib.hid qq
  clear rb st ones mid ok hC qq hk
  go_enter Try.func39, Try.ntmps39
  go_upto_region 3 with (first
    | (refine wpList_load_mid rfl tRBytes (.tmp 12) rfl w.heap.size 2 rfl [sv, t0, t1, t2, t3] _ (HD.out.2.2.2.1 _ QQ.out).1 Try.underlying39 rfl infoRB ?_)
    | (refine wpList_store_abs rfl tRBytes (.tmp 5) (.tmp 13) rfl (w.heap.size + 1 + 1 + 1) #[sv, t0, t1, t2, t3] rfl rfl tRBytes bytes0 (heap_at (w := ((w.alloc (.cells C tRDisk)).alloc (.cells #[.slice ka c.keep.length kc, .int .i64 c.torn, .int .i64 c.part] tCrash)).alloc (.cells ref0 tRDisk)) _ (by simp)) infoRB rfl HD.out.2.2.1 ?_
       intro W1 HW1 HM1 HS1))
  have cs0 := RS.out W1 HM1 HW1.out
  have REL := Lib.hid (show RCrRel w F d C (.slice ka c.keep.length kc) c W1.heap.size 0 (W1.alloc (.cells #[.bool false, .bool false, .bool false, .bool false] tB4)) from ⟨_, _, cs0, CrInv.start HD.out.2.2.2.2.1, rfl⟩)
  have ez : W1.heap.size = w.heap.size + 1 + 1 + 1 + 1 := by rw [HS1]; simp
  rw [ez] at REL
  clear cs0 HM1 HS1 HW1 RS QQ ez
  generalize (W1.alloc (.cells #[.bool false, .bool false, .bool false, .bool false] tB4)) = W2 at *
  generalize w.heap.size + 1 + 1 + 1 + 1 = e0 at *
  go_wp2
  go_loopg [7] d.waits.length (fun g s wr => ∃ k : Nat, s = .int .i64 (k : Int) ∧ g + k = d.waits.length ∧ RCrRel w F d C (.slice ka c.keep.length kc) c e0 k wr)
  case atStart => exact ⟨0, rfl, rfl, REL.out⟩
  case round =>
    obtain ⟨k, rfl, hg, hrel⟩ := hrel
    obtain ⟨x, en, cs, inv, eqn⟩ := hrel
    have c7 := (HD.out.2.2.2.1 _ cs.r0).2.1
    by_cases hlt : k < d.waits.length
    · obtain ⟨s, hs⟩ : ∃ s, d.waits[k]? = some s := ⟨_, List.getElem?_eq_getElem hlt⟩
      have stp : RStepsAt wr.heap (RcF F w e0) (.slice wa d.waits.length wc) d.waits := HD.out.2.1.keeps (fun k _ hl => cs.below.block k hl) (fun k h hl => Or.inl ⟨h, hl⟩)
      obtain ⟨_, b, o, u, rfl, lb, bu, rng⟩ := stp.at hs
      have sok : s.ok d.many := HD.out.2.2.2.2.1.waits s (List.mem_of_getElem? hs)
      have hk0 : (0 : Int) ≤ (k : Int) := by omega
      have hk1 : (k : Int) < (d.waits.length : Int) := by omega
      have CS := Lib.hid (And.intro cs (And.intro inv (And.intro eqn (And.intro hs (And.intro hg (And.intro bu rng))))))
      have SOK := Lib.hid sok
      have u1 : u.oneCell' = true := bu.one
      have U1 := Lib.hid u1
      clear cs inv eqn hs hg bu rng stp u1
      go_upto_region 7 with (first
        | (refine wpList_load_mid rfl tRStep (.tmp 24) rfl b (o + k * 4) rfl [.int .i64 s.what, .int .i64 s.n, .int .i64 s.many, u] _ CS.out.2.2.2.2.2.2 Try.underlying97 rfl infoRStep1 ?_)
        | (refine wpList_store_abs rfl tRStep (.tmp 8) (.tmp 25) rfl wr.heap.size #[.int .i64 s.what, .int .i64 s.n, .int .i64 s.many, u] rfl rfl tRStep _ (heap_alloc_last wr _) infoRStep1 (by rfl) (by simp [U1.out]; simp [Value.oneCell']) ?_
           intro W5 HW5 HM5 HS5))
      have hb5 : Below wr.heap.size wr W5 := Moves.new ((Below.refl _ _).alloc (Nat.le_refl _) _) HM5 (Nat.le_refl _)
      have C5 := Lib.hid (And.intro (CS.out.1.next hb5) (And.intro HW5.out (CS.out.2.2.2.2.2.1.keeps (F' := RcF F w e0) (fun k _ hl => hb5.block k hl) (fun _ h _ => h))))
      have kw : W5.cell? ⟨wr.heap.size, 0, none⟩ = some (.int .i64 s.what) := row_cell HW5.out rfl
      have kn : W5.cell? ⟨wr.heap.size, 1, none⟩ = some (.int .i64 s.n) := row_cell HW5.out rfl
      clear HM5 HS5 HW5 hb5 c7
      by_cases h1 : s.what = 1
      · have hneq : (s.what != 1) = false := by simpa using h1
        have H1 := Lib.hid (And.intro h1 trivial)
        have NSK := Lib.hid (show ¬ (s.what ≠ 1 ∧ en s.n = true) from fun h => h.1 h1)
        clear h1 kn
        go_upto_region 9 with fail
        go_cut [10] (fun s10 wx => s10 = .bool (c.isTorn d.waits.length k) ∧ W5 = wx)
        case first =>
          have kp : W5.cell? ⟨w.heap.size + 1, 2, none⟩ = some (.int .i64 c.part) := row_cell C5.out.1.r1 rfl
          have kt : W5.cell? ⟨w.heap.size + 1, 1, none⟩ = some (.int .i64 c.torn) := row_cell C5.out.1.r1 rfl
          have k7 := (HD.out.2.2.2.1 _ C5.out.1.r0).2.1
          by_cases hpp : 0 ≤ c.part
          · have PK := Lib.hid (fun W => rpick_c c.torn d.waits.length W ht0 ht1 (by omega) (by omega))
            by_cases hpk : (k : Int) = pick c.torn d.waits.length
            · have e1 : c.isTorn d.waits.length k = true := by simp [Crash.isTorn, hpp, hpk.symm]
              have E1 := Lib.hid e1
              have e3 : ((k : Int) == pick c.torn d.waits.length) = true := by simpa using hpk
              clear e1 hpk
              generalize pick c.torn d.waits.length = pk at *
              go_wp2_with (go_at_call 61; refine (PK.out _).mono ?_; rintro e w' ⟨rfl, rfl⟩)
              go_meet
              exact ⟨by rw [E1.out], rfl⟩
            · have e1 : c.isTorn d.waits.length k = false := by simp [Crash.isTorn, hpk]
              have E1 := Lib.hid e1
              have e3 : ((k : Int) == pick c.torn d.waits.length) = false := by simpa using hpk
              clear e1 hpk
              generalize pick c.torn d.waits.length = pk at *
              go_wp2_with (go_at_call 61; refine (PK.out _).mono ?_; rintro e w' ⟨rfl, rfl⟩)
              go_meet
              exact ⟨by rw [E1.out], rfl⟩
          · have e1 : c.isTorn d.waits.length k = false := by simp [Crash.isTorn, hpp]
            have E1 := Lib.hid e1
            clear e1
            go_wp2_with fail
            go_meet
            exact ⟨by rw [E1.out], rfl⟩
        case rest =>
          obtain ⟨rfl, rfl⟩ := hcut
          have kk : W5.cell? ⟨w.heap.size + 1, 0, none⟩ = some (.slice ka c.keep.length kc) := row_cell C5.out.1.r1 rfl
          go_upto_region 10 with fail
          go_cut [11] (fun s11 wx => s11 = .bool (c.kept k) ∧ ∃ nq, wx = W5.drewN nq)
          case first =>
            by_cases hpp : 0 < c.keep.length
            · obtain ⟨kb, ko, rfl, hkc⟩ : ∃ kb ko, ka = some ⟨kb, ko, none⟩ ∧ ∀ (i : Nat) (x : Bool), c.keep[i]? = some x → W5.cell? ⟨kb, ko + i, none⟩ = some (.bool x) := by
                rcases HD.out.2.2.2.2.2 with ⟨h1, h2⟩ | ⟨kb, ko, cap, cc, tt2, fr2, h1, h2, h3⟩
                · rw [h2] at hpp; cases hpp
                · refine ⟨kb, ko, (Value.slice.inj h1).1, fun i x hi => ?_⟩
                  rw [C5.out.1.below.cell (p := ⟨kb, ko + i, none⟩) (lt_of_row h2), cell_of_row _ _ _ _ _ _ h2]
                  exact h3 i x hi
              have hj : k % c.keep.length < c.keep.length := Nat.mod_lt _ hpp
              have kcell := hkc (k % c.keep.length) c.keep[k % c.keep.length] (List.getElem?_eq_getElem hj)
              have ev : c.kept k = c.keep[k % c.keep.length] := by
                have e0 : max 1 c.keep.length = c.keep.length := by omega
                simp [Crash.kept, hpp, e0, List.getD_eq_getElem?_getD, List.getElem?_eq_getElem hj]
              have EV := Lib.hid ev
              have e2 : decide (0 < (c.keep.length : Int)) = true := by simp; omega
              have hif : (if 1 < (c.keep.length : Int) then (c.keep.length : Int) else 1) = (c.keep.length : Int) := by
                by_cases h : 1 < (c.keep.length : Int)
                · rw [if_pos h]
                · rw [if_neg h]; omega
              have hne : ¬ ((c.keep.length : Int) = 0) := by omega
              have htm : (k : Int).tmod (c.keep.length : Int) = ((k % c.keep.length : Nat) : Int) := by rw [Int.tmod_eq_emod_of_nonneg (by omega)]; rfl
              clear ev hkc
              generalize c.keep[k % c.keep.length] = kv' at *
              generalize k % c.keep.length = j at *
              have hj0 : (0 : Int) ≤ (j : Int) := by omega
              have hj1 : (j : Int) < (c.keep.length : Int) := by omega
              go_quiet (fail)
              go_wp2_with fail
              go_meet
              exact ⟨by rw [EV.out], _, rfl⟩
            · have e0 : c.keep = [] := List.length_eq_zero_iff.1 (by omega)
              have e1 : c.kept k = false := by simp [Crash.kept, e0]
              have E1 := Lib.hid e1
              have e2 : decide (0 < (c.keep.length : Int)) = false := by simp; omega
              clear e1 e0
              go_quiet (fail)
              go_wp2_with fail
              go_meet
              exact ⟨by rw [E1.out], _, rfl⟩
          case rest =>
            obtain ⟨rfl, nq, rfl⟩ := hcut
            obtain ⟨W7, hW7⟩ : ∃ W7, W5.drewN nq = W7 := ⟨_, rfl⟩
            have hb7 : Below W5.heap.size W5 W7 := by rw [← hW7]; exact below_drewN (Below.refl _ _) nq
            have C7 := Lib.hid (And.intro (C5.out.1.next hb7) (And.intro ((hb7.block _ (lt_of_row C5.out.2.1)).trans C5.out.2.1) (C5.out.2.2.keeps (F' := RcF F w e0) (fun k _ hl => hb7.block k hl) (fun _ h _ => h))))
            rw [hW7]
            clear hW7 hb7 C5 kk kw
            have room1 := HD.out.2.2.2.2.1.room1
            have hx : ∀ t, (x.tp t).length ≤ 1048576 := fun t => by have := CS.out.2.1.room HD.out.2.2.2.2.1 t; omega
            obtain ⟨sv7, y0, y1, y2, y3, r7, rb7⟩ := C7.out.1.rb
            have ne7 : w.heap.size + 1 + 1 + 1 < wr.heap.size := by obtain ⟨_, _, _, _, _, r, _⟩ := CS.out.1.rb; exact lt_of_row r
            have kp : W7.cell? ⟨w.heap.size + 1, 2, none⟩ = some (.int .i64 c.part) := row_cell C7.out.1.r1 rfl
            have HDO := Lib.hid (rdone_c rb7 HD.out.2.2.2.2.1.many1 SOK.out C7.out.2.2 hx)
            have HPA := Lib.hid (rpart_c rb7 HD.out.2.2.2.2.1.many1 SOK.out C7.out.2.2 hx CS.out.2.1.sec c.part hp0 hp1)
            have R7 := Lib.hid (And.intro r7 ne7)
            clear rb7 r7 ne7 hx room1
            cases hT : c.isTorn d.waits.length k
            · cases hK : c.kept k
              · have HT := Lib.hid (And.intro hT hK)
                clear hT hK
                obtain ⟨W8, eW8⟩ : ∃ W8, W8 = W7 := ⟨_, rfl⟩
                subst eW8
                have C8 := Lib.hid (And.intro C7.out.1 C7.out.2.1)
                clear kp HDO HPA C7
                go_wp2
                go_roundg (d.waits.length - (k + 1))
                case measure => have := CS.out.2.2.2.2.1; omega
                case rel => exact ⟨k + 1, by go_num, by have := CS.out.2.2.2.2.1; omega, RCrRel.next HD.out.2.2.2.2.1 CS.out.2.1 CS.out.2.2.1 CS.out.2.2.2.1 NSK.out C8.out.1 (by simp [crashX, HT.out.1, HT.out.2]) (by simp [crashE, H1.out.1])⟩
              · have HT := Lib.hid (And.intro hT hK)
                clear hT hK
                go_upto_region 15 with (first
                  | (refine wpList_load_row rfl tRBytes (.tmp 5) rfl (w.heap.size + 1 + 1 + 1) rfl tRBytes _ (0, 0) _ R7.out.1 Try.underlying39 rfl infoRB ?_)
                  | (refine wpList_load_row rfl tRStep (.tmp 8) rfl wr.heap.size rfl tRStep _ (0, 0) _ C7.out.2.1 Try.underlying97 rfl infoRStep1 ?_)
                  | (go_at_call 63; refine HDO.out.mono ?_; rintro e W1 ⟨sv1, z0, z1, z2, z3, rfl, hb1, rb1⟩)
                  | (refine wpList_store_abs rfl tRBytes (.tmp 5) (.tmp 76) rfl (w.heap.size + 1 + 1 + 1) #[sv1, z0, z1, z2, z3] rfl rfl tRBytes _ ((hb1.block _ (lt_of_row R7.out.1)).trans R7.out.1) infoRB rfl rb1.ones ?_
                     intro W8 HW8 HM8 HS8
                     have C8 := Lib.hid (And.intro (C7.out.1.did hb1 rb1 HM8 HW8.out) ((HM8.block _ (by have := hb1.size; have := lt_of_row C7.out.2.1; omega) (by have := R7.out.2; omega)).trans ((hb1.block _ (lt_of_row C7.out.2.1)).trans C7.out.2.1)))
                     clear hb1 rb1 HW8 HM8 HS8 kp HDO HPA C7))
                go_wp2
                go_roundg (d.waits.length - (k + 1))
                case measure => have := CS.out.2.2.2.2.1; omega
                case rel => exact ⟨k + 1, by go_num, by have := CS.out.2.2.2.2.1; omega, RCrRel.next HD.out.2.2.2.2.1 CS.out.2.1 CS.out.2.2.1 CS.out.2.2.2.1 NSK.out C8.out.1 (by simp [crashX, HT.out.1, HT.out.2]) (by simp [crashE, H1.out.1])⟩
            · have HT := Lib.hid hT
              clear hT
              go_upto_region 15 with (first
                | (refine wpList_load_row rfl tRBytes (.tmp 5) rfl (w.heap.size + 1 + 1 + 1) rfl tRBytes _ (0, 0) _ R7.out.1 Try.underlying39 rfl infoRB ?_)
                | (refine wpList_load_row rfl tRStep (.tmp 8) rfl wr.heap.size rfl tRStep _ (0, 0) _ C7.out.2.1 Try.underlying97 rfl infoRStep1 ?_)
                | (go_at_call 62; refine HPA.out.mono ?_; rintro e W1 ⟨sv1, z0, z1, z2, z3, rfl, hb1, rb1⟩)
                | (refine wpList_store_abs rfl tRBytes (.tmp 5) (.tmp 71) rfl (w.heap.size + 1 + 1 + 1) #[sv1, z0, z1, z2, z3] rfl rfl tRBytes _ ((hb1.block _ (lt_of_row R7.out.1)).trans R7.out.1) infoRB rfl rb1.ones ?_
                   intro W8 HW8 HM8 HS8
                   have C8 := Lib.hid (And.intro (C7.out.1.did hb1 rb1 HM8 HW8.out) ((HM8.block _ (by have := hb1.size; have := lt_of_row C7.out.2.1; omega) (by have := R7.out.2; omega)).trans ((hb1.block _ (lt_of_row C7.out.2.1)).trans C7.out.2.1)))
                   clear hb1 rb1 HW8 HM8 HS8 kp HDO HPA C7))
              go_wp2
              go_roundg (d.waits.length - (k + 1))
              case measure => have := CS.out.2.2.2.2.1; omega
              case rel => exact ⟨k + 1, by go_num, by have := CS.out.2.2.2.2.1; omega, RCrRel.next HD.out.2.2.2.2.1 CS.out.2.1 CS.out.2.2.1 CS.out.2.2.2.1 NSK.out C8.out.1 (by simp [crashX, HT.out]) (by simp [crashE, H1.out.1])⟩

      · obtain ⟨t, et, ht⟩ : ∃ t : Nat, s.n = t ∧ t < 4 := by
          rcases SOK.out with h | h | h
          · exact absurd h.1 h1
          · exact ⟨s.n.toNat, by omega, by omega⟩
          · exact ⟨s.n.toNat, by omega, by omega⟩
        have hneq : (s.what != 1) = true := by simpa using h1
        rw [et] at kn
        have k3 := C5.out.1.endAt t ht
        have t0' : (0 : Int) ≤ t := by omega
        have t1' : (t : Int) < 4 := by omega
        cases hen : en t
        · rw [hen] at k3
          have NSK := Lib.hid (show ¬ (s.what ≠ 1 ∧ en s.n = true) from fun h => by have := h.2; rw [et, hen] at this; cases this)
          have H1 := Lib.hid (And.intro h1 (And.intro et (And.intro ht hen)))
          clear h1 et hen
          go_upto_region 9 with fail
          go_cut [10] (fun s10 wx => s10 = .bool (c.isTorn d.waits.length k) ∧ W5 = wx)
          case first =>
            have kp : W5.cell? ⟨w.heap.size + 1, 2, none⟩ = some (.int .i64 c.part) := row_cell C5.out.1.r1 rfl
            have kt : W5.cell? ⟨w.heap.size + 1, 1, none⟩ = some (.int .i64 c.torn) := row_cell C5.out.1.r1 rfl
            have k7 := (HD.out.2.2.2.1 _ C5.out.1.r0).2.1
            by_cases hpp : 0 ≤ c.part
            · have PK := Lib.hid (fun W => rpick_c c.torn d.waits.length W ht0 ht1 (by omega) (by omega))
              by_cases hpk : (k : Int) = pick c.torn d.waits.length
              · have e1 : c.isTorn d.waits.length k = true := by simp [Crash.isTorn, hpp, hpk.symm]
                have E1 := Lib.hid e1
                have e3 : ((k : Int) == pick c.torn d.waits.length) = true := by simpa using hpk
                clear e1 hpk
                generalize pick c.torn d.waits.length = pk at *
                go_wp2_with (go_at_call 61; refine (PK.out _).mono ?_; rintro e w' ⟨rfl, rfl⟩)
                go_meet
                exact ⟨by rw [E1.out], rfl⟩
              · have e1 : c.isTorn d.waits.length k = false := by simp [Crash.isTorn, hpk]
                have E1 := Lib.hid e1
                have e3 : ((k : Int) == pick c.torn d.waits.length) = false := by simpa using hpk
                clear e1 hpk
                generalize pick c.torn d.waits.length = pk at *
                go_wp2_with (go_at_call 61; refine (PK.out _).mono ?_; rintro e w' ⟨rfl, rfl⟩)
                go_meet
                exact ⟨by rw [E1.out], rfl⟩
            · have e1 : c.isTorn d.waits.length k = false := by simp [Crash.isTorn, hpp]
              have E1 := Lib.hid e1
              clear e1
              go_wp2_with fail
              go_meet
              exact ⟨by rw [E1.out], rfl⟩
          case rest =>
            obtain ⟨rfl, rfl⟩ := hcut
            have kk : W5.cell? ⟨w.heap.size + 1, 0, none⟩ = some (.slice ka c.keep.length kc) := row_cell C5.out.1.r1 rfl
            go_upto_region 10 with fail
            go_cut [11] (fun s11 wx => s11 = .bool (c.kept k) ∧ ∃ nq, wx = W5.drewN nq)
            case first =>
              by_cases hpp : 0 < c.keep.length
              · obtain ⟨kb, ko, rfl, hkc⟩ : ∃ kb ko, ka = some ⟨kb, ko, none⟩ ∧ ∀ (i : Nat) (x : Bool), c.keep[i]? = some x → W5.cell? ⟨kb, ko + i, none⟩ = some (.bool x) := by
                  rcases HD.out.2.2.2.2.2 with ⟨h1, h2⟩ | ⟨kb, ko, cap, cc, tt2, fr2, h1, h2, h3⟩
                  · rw [h2] at hpp; cases hpp
                  · refine ⟨kb, ko, (Value.slice.inj h1).1, fun i x hi => ?_⟩
                    rw [C5.out.1.below.cell (p := ⟨kb, ko + i, none⟩) (lt_of_row h2), cell_of_row _ _ _ _ _ _ h2]
                    exact h3 i x hi
                have hj : k % c.keep.length < c.keep.length := Nat.mod_lt _ hpp
                have kcell := hkc (k % c.keep.length) c.keep[k % c.keep.length] (List.getElem?_eq_getElem hj)
                have ev : c.kept k = c.keep[k % c.keep.length] := by
                  have e0 : max 1 c.keep.length = c.keep.length := by omega
                  simp [Crash.kept, hpp, e0, List.getD_eq_getElem?_getD, List.getElem?_eq_getElem hj]
                have EV := Lib.hid ev
                have e2 : decide (0 < (c.keep.length : Int)) = true := by simp; omega
                have hif : (if 1 < (c.keep.length : Int) then (c.keep.length : Int) else 1) = (c.keep.length : Int) := by
                  by_cases h : 1 < (c.keep.length : Int)
                  · rw [if_pos h]
                  · rw [if_neg h]; omega
                have hne : ¬ ((c.keep.length : Int) = 0) := by omega
                have htm : (k : Int).tmod (c.keep.length : Int) = ((k % c.keep.length : Nat) : Int) := by rw [Int.tmod_eq_emod_of_nonneg (by omega)]; rfl
                clear ev hkc
                generalize c.keep[k % c.keep.length] = kv' at *
                generalize k % c.keep.length = j at *
                have hj0 : (0 : Int) ≤ (j : Int) := by omega
                have hj1 : (j : Int) < (c.keep.length : Int) := by omega
                go_quiet (fail)
                go_wp2_with fail
                go_meet
                exact ⟨by rw [EV.out], _, rfl⟩
              · have e0 : c.keep = [] := List.length_eq_zero_iff.1 (by omega)
                have e1 : c.kept k = false := by simp [Crash.kept, e0]
                have E1 := Lib.hid e1
                have e2 : decide (0 < (c.keep.length : Int)) = false := by simp; omega
                clear e1 e0
                go_quiet (fail)
                go_wp2_with fail
                go_meet
                exact ⟨by rw [E1.out], _, rfl⟩
            case rest =>
              obtain ⟨rfl, nq, rfl⟩ := hcut
              obtain ⟨W7, hW7⟩ : ∃ W7, W5.drewN nq = W7 := ⟨_, rfl⟩
              have hb7 : Below W5.heap.size W5 W7 := by rw [← hW7]; exact below_drewN (Below.refl _ _) nq
              have C7 := Lib.hid (And.intro (C5.out.1.next hb7) (And.intro ((hb7.block _ (lt_of_row C5.out.2.1)).trans C5.out.2.1) (C5.out.2.2.keeps (F' := RcF F w e0) (fun k _ hl => hb7.block k hl) (fun _ h _ => h))))
              rw [hW7]
              clear hW7 hb7 C5 kk kw
              have room1 := HD.out.2.2.2.2.1.room1
              have hx : ∀ t, (x.tp t).length ≤ 1048576 := fun t => by have := CS.out.2.1.room HD.out.2.2.2.2.1 t; omega
              obtain ⟨sv7, y0, y1, y2, y3, r7, rb7⟩ := C7.out.1.rb
              have ne7 : w.heap.size + 1 + 1 + 1 < wr.heap.size := by obtain ⟨_, _, _, _, _, r, _⟩ := CS.out.1.rb; exact lt_of_row r
              have kp : W7.cell? ⟨w.heap.size + 1, 2, none⟩ = some (.int .i64 c.part) := row_cell C7.out.1.r1 rfl
              have HDO := Lib.hid (rdone_c rb7 HD.out.2.2.2.2.1.many1 SOK.out C7.out.2.2 hx)
              have HPA := Lib.hid (rpart_c rb7 HD.out.2.2.2.2.1.many1 SOK.out C7.out.2.2 hx CS.out.2.1.sec c.part hp0 hp1)
              have R7 := Lib.hid (And.intro r7 ne7)
              clear rb7 r7 ne7 hx room1
              cases hT : c.isTorn d.waits.length k
              · cases hK : c.kept k
                · have HT := Lib.hid (And.intro hT hK)
                  clear hT hK
                  obtain ⟨W8, eW8⟩ : ∃ W8, W8 = W7 := ⟨_, rfl⟩
                  subst eW8
                  have C8 := Lib.hid (And.intro C7.out.1 C7.out.2.1)
                  clear kp HDO HPA C7
                  have kn8 : W8.cell? ⟨wr.heap.size, 1, none⟩ = some (.int .i64 (t : Int)) := by rw [← H1.out.2.1]; exact row_cell C8.out.2 rfl
                  have ke8 := C8.out.1.endAt t H1.out.2.2.1
                  have fe8 : W8.frozen? ⟨e0, t, none⟩ = false := row_free C8.out.1.ends _
                  go_wp2
                  go_roundg (d.waits.length - (k + 1))
                  case measure => have := CS.out.2.2.2.2.1; omega
                  case rel => exact ⟨k + 1, by go_num, by have := CS.out.2.2.2.2.1; omega, RCrRel.next HD.out.2.2.2.2.1 CS.out.2.1 CS.out.2.2.1 CS.out.2.2.2.1 NSK.out (C8.out.1.endSet t H1.out.2.2.1 true) (by simp [crashX, HT.out.1, HT.out.2]) (by simp [crashE, H1.out.1, HT.out.1, HT.out.2, H1.out.2.1])⟩
                · have HT := Lib.hid (And.intro hT hK)
                  clear hT hK
                  go_upto_region 15 with (first
                    | (refine wpList_load_row rfl tRBytes (.tmp 5) rfl (w.heap.size + 1 + 1 + 1) rfl tRBytes _ (0, 0) _ R7.out.1 Try.underlying39 rfl infoRB ?_)
                    | (refine wpList_load_row rfl tRStep (.tmp 8) rfl wr.heap.size rfl tRStep _ (0, 0) _ C7.out.2.1 Try.underlying97 rfl infoRStep1 ?_)
                    | (go_at_call 63; refine HDO.out.mono ?_; rintro e W1 ⟨sv1, z0, z1, z2, z3, rfl, hb1, rb1⟩)
                    | (refine wpList_store_abs rfl tRBytes (.tmp 5) (.tmp 76) rfl (w.heap.size + 1 + 1 + 1) #[sv1, z0, z1, z2, z3] rfl rfl tRBytes _ ((hb1.block _ (lt_of_row R7.out.1)).trans R7.out.1) infoRB rfl rb1.ones ?_
                       intro W8 HW8 HM8 HS8
                       have C8 := Lib.hid (And.intro (C7.out.1.did hb1 rb1 HM8 HW8.out) ((HM8.block _ (by have := hb1.size; have := lt_of_row C7.out.2.1; omega) (by have := R7.out.2; omega)).trans ((hb1.block _ (lt_of_row C7.out.2.1)).trans C7.out.2.1)))
                       clear hb1 rb1 HW8 HM8 HS8 kp HDO HPA C7))
                  go_wp2
                  go_roundg (d.waits.length - (k + 1))
                  case measure => have := CS.out.2.2.2.2.1; omega
                  case rel => exact ⟨k + 1, by go_num, by have := CS.out.2.2.2.2.1; omega, RCrRel.next HD.out.2.2.2.2.1 CS.out.2.1 CS.out.2.2.1 CS.out.2.2.2.1 NSK.out C8.out.1 (by simp [crashX, HT.out.1, HT.out.2]) (by
                    simp only [crashE, HT.out.1, HT.out.2, H1.out.1, ne_eq, not_false_eq_true, if_true, Bool.not_true, Bool.or_false]
                    exact (upd_idle (H1.out.2.1 ▸ H1.out.2.2.2)).symm)⟩
              · have HT := Lib.hid hT
                clear hT
                go_upto_region 15 with (first
                  | (refine wpList_load_row rfl tRBytes (.tmp 5) rfl (w.heap.size + 1 + 1 + 1) rfl tRBytes _ (0, 0) _ R7.out.1 Try.underlying39 rfl infoRB ?_)
                  | (refine wpList_load_row rfl tRStep (.tmp 8) rfl wr.heap.size rfl tRStep _ (0, 0) _ C7.out.2.1 Try.underlying97 rfl infoRStep1 ?_)
                  | (go_at_call 62; refine HPA.out.mono ?_; rintro e W1 ⟨sv1, z0, z1, z2, z3, rfl, hb1, rb1⟩)
                  | (refine wpList_store_abs rfl tRBytes (.tmp 5) (.tmp 71) rfl (w.heap.size + 1 + 1 + 1) #[sv1, z0, z1, z2, z3] rfl rfl tRBytes _ ((hb1.block _ (lt_of_row R7.out.1)).trans R7.out.1) infoRB rfl rb1.ones ?_
                     intro W8 HW8 HM8 HS8
                     have C8 := Lib.hid (And.intro (C7.out.1.did hb1 rb1 HM8 HW8.out) ((HM8.block _ (by have := hb1.size; have := lt_of_row C7.out.2.1; omega) (by have := R7.out.2; omega)).trans ((hb1.block _ (lt_of_row C7.out.2.1)).trans C7.out.2.1)))
                     clear hb1 rb1 HW8 HM8 HS8 kp HDO HPA C7))
                have kn8 : W8.cell? ⟨wr.heap.size, 1, none⟩ = some (.int .i64 (t : Int)) := by rw [← H1.out.2.1]; exact row_cell C8.out.2 rfl
                have ke8 := C8.out.1.endAt t H1.out.2.2.1
                have fe8 : W8.frozen? ⟨e0, t, none⟩ = false := row_free C8.out.1.ends _
                go_wp2
                go_roundg (d.waits.length - (k + 1))
                case measure => have := CS.out.2.2.2.2.1; omega
                case rel => exact ⟨k + 1, by go_num, by have := CS.out.2.2.2.2.1; omega, RCrRel.next HD.out.2.2.2.2.1 CS.out.2.1 CS.out.2.2.1 CS.out.2.2.2.1 NSK.out (C8.out.1.endSet t H1.out.2.2.1 true) (by simp [crashX, HT.out]) (by simp [crashE, H1.out.1, HT.out, H1.out.2.1])⟩

        · rw [hen] at k3
          have SK := Lib.hid (show s.what ≠ 1 ∧ en s.n = true from ⟨h1, by rw [et]; exact hen⟩)
          clear h1 et hen
          go_wp2
          go_roundg (d.waits.length - (k + 1))
          case measure => have := CS.out.2.2.2.2.1; omega
          case rel => exact ⟨k + 1, by go_num, by have := CS.out.2.2.2.2.1; omega, RCrRel.skip CS.out.2.1 CS.out.2.2.1 CS.out.2.2.2.1 SK.out C5.out.1⟩
    · obtain rfl : k = d.waits.length := by omega
      have ex : x = crashGo c d.waits.length d.waits 0 d.lasts (fun _ => false) := by
        rw [← eqn, List.drop_eq_nil_iff.2 (Nat.le_refl _)]
        rfl
      obtain ⟨sv7, y0, y1, y2, y3, r7, rb7⟩ := cs.rb
      have c0 := (HD.out.2.2.2.1 _ cs.r0).2.2.1
      have c1 := (HD.out.2.2.2.1 _ cs.r0).2.2.2
      have E := Lib.hid (And.intro cs (And.intro r7 (And.intro rb7 ex)))
      clear cs inv eqn r7 rb7 ex hg
      have onesF : (refC d.many d.room sv7 y0 y1 y2 y3 (.slice none 0 0) false (-1)).all (·.oneCell') = true := ref_ones1 E.out.2.2.1 rfl _ _ _ _
      have OF := Lib.hid onesF
      clear onesF
      go_wp2_with (first
        | (refine wpList_load_row rfl tRBytes (.tmp 5) rfl (w.heap.size + 1 + 1 + 1) rfl tRBytes _ (0, 0) _ E.out.2.1 Try.underlying39 rfl infoRB ?_)
        | (refine wpList_store_abs rfl tRDisk (.tmp 4) (.tmp 93) rfl (w.heap.size + 1 + 1) (refC d.many d.room sv7 y0 y1 y2 y3 (.slice none 0 0) false (-1)) rfl rfl tRDisk ref0 E.out.1.r2 infoRD rfl OF.out ?_
           intro W9 HW9 HM9 HS9))
      refine bodyPost_ret (results_cell_row rfl _ _ (w.heap.size + 1 + 1) _ _ _ _ rfl HW9.out Try.underlying42 rfl infoRD) rfl ?_
      have hf := E.out.1.far
      have hz := E.out.1.below.size
      have hz9 := HM9.size
      refine ⟨_, rfl, Moves.new E.out.1.below HM9 (by omega), sv7, y0, y1, y2, y3, .slice none 0 0, rfl, ?_, Or.inl ⟨rfl, rfl⟩⟩
      have hx : (d.crash c).lasts = x := E.out.2.2.2.symm
      rw [hx]
      refine E.out.2.2.1.keeps (fun k hk hl => HM9.block k hl (fun e => by rcases hk with hk | hk <;> omega)) (fun k hk hl => ?_)
      rcases hk with hk | hk
      · exact Or.inl hk.1
      · exact Or.inr ⟨by omega, by omega⟩

end Go.Proofs.Ytiefhmbpaoecfaa

namespace Go.Proofs.Ytiefhmbpaoecfaa
open Go.RowKit Dm

theorem RefIn.at0 {w W0 X : World} {F : Nat → Prop} {C : Array Value} {d : D} (h : RefIn w W0 F C d) (hb : Below W0.heap.size W0 X) : RefAt X.heap (fun k => F k ∧ k < w.heap.size) (.agg C) d :=
  h.ref.keeps (fun k _ hl => (hb.block k (by have := h.size; omega)).trans (h.below.block k hl)) (fun k hk hl => ⟨hk, hl⟩)

set_option maxRecDepth 100000 in
set_option maxHeartbeats 2000000 in
theorem rsync_c {w : World} {F : Nat → Prop} {v : Value} {d : D} (hr : RefAt w.heap F v d) (ok : d.ok) (hn : d.waits.length ≤ 1000000000000) : Calls Try.prog 37 #[v] w (GivesRef w F d.sync) := by
  obtain ⟨C, rfl, hin⟩ := refIn_of hr
  obtain ⟨W0, hW0⟩ : ∃ W0, refW w C = W0 := ⟨_, rfl⟩
  rw [hW0] at hin
  have HIN := Lib.hid hin
  have OK := Lib.hid (And.intro ok hn)
  have GO := Lib.hid (rgoes_c (hin.at (Below.refl _ _)) ok)
  clear hin hr ok hn
  rcases goes_two d with h0 | h0
  · have GO2 := Lib.hid (GO.out.mono (R' := fun e w' => GivesRef W0 (InF F w) (d.goes.1, 0) e w') fun e w' ⟨v, h1, h2⟩ => ⟨v, by rw [h0] at h1; exact h1, h2⟩)
    have e2 : d.sync = ({ d.goes.1 with lasts := d.stand, waits := [] }, 0) := by unfold D.sync; rw [if_pos h0]
    rw [e2]
    clear GO e2 h0
    go_enter Try.func37, Try.ntmps37
    go_upto_region 1 with fail
    clear hW0
    go_upto_region 4 with (first
      | (refine wpList_load_row rfl tRDisk (.tmp 1) rfl w.heap.size rfl tRDisk C (0, 0) _ HIN.out.r0 Try.underlying42 rfl (by rw [infoRD, HIN.out.csz]) ?_)
      | (go_at_call 60; refine GO2.out.mono ?_; rintro e W1 ⟨v1, rfl, hb1, sv1, u0, u1, u2, u3, wv1, rfl, rb1, st1⟩
         have R1 := Lib.hid (And.intro hb1 (And.intro rb1 st1))
         clear hb1 rb1 st1)
      | (refine wpList_store_abs rfl tRDisk (.tmp 4) (.tmp 9) rfl W1.heap.size _ rfl rfl tRDisk ref0 (heap_alloc_last W1 _) infoRD rfl (ref_ones R1.out.2.1 R1.out.2.2 _ _ _ _) ?_
         intro W2 HW2 HM2 HS2
         have z2 : W2.heap.size = W1.heap.size + 1 := by rw [HS2]; simp
         have hb2 : Below W0.heap.size W0 W2 := Moves.new (R1.out.1.alloc R1.out.1.size _) HM2 R1.out.1.size
         have R2 := Lib.hid (And.intro hb2 (And.intro HW2.out z2))
         clear HM2 HS2 HW2 z2 hb2)
      | (refine wpList_load_row rfl tRDisk (.tmp 1) rfl w.heap.size rfl tRDisk C (0, 0) _ ((R2.out.1.block _ (lt_of_row HIN.out.r0)).trans HIN.out.r0) Try.underlying42 rfl (by rw [infoRD, HIN.out.csz]) ?_)
      | (go_at_call 40; refine (stands_c (HIN.out.at0 R2.out.1) OK.out.1 OK.out.2).mono ?_; rintro e X1 ⟨sv, t0, t1, t2, t3, rfl, hbx, rbx⟩
         have RX := Lib.hid (And.intro hbx (And.intro rbx ((hbx.block _ (lt_of_row R2.out.2.1)).trans R2.out.2.1)))
         clear hbx rbx)
      | (refine wpList_store_midA rfl tRBytes (.tmp 15) (.tmp 14) rfl W1.heap.size 2 #[sv, t0, t1, t2, t3] rfl rfl tRDisk _ RX.out.2.2 infoRB (by simp [refC]) RX.out.2.1.ones ?_
         intro W3 HW3 HM3 HS3
         have k7 : ∃ v, W3.cell? ⟨W1.heap.size, 7, none⟩ = some v := ⟨_, row_cell HW3.out rfl⟩
         have f7 : W3.frozen? ⟨W1.heap.size, 7, none⟩ = false := row_free HW3.out _
         obtain ⟨v7, k7⟩ := k7
         have R3 := Lib.hid (And.intro HM3 HS3)
         clear HM3 HS3))
    have s0 := heap_setCell_same W3 W1.heap.size 7 _ tRDisk (.slice none 0 0) HW3.out
    have S0 : Hid ((W3.setCell ⟨W1.heap.size, 7, none⟩ (.slice none 0 0)).heap[W1.heap.size]? = some (.cells (refC d.goes.1.many d.goes.1.room sv t0 t1 t2 t3 (.slice none 0 0) d.goes.1.dead d.goes.1.stops) tRDisk (0, 0))) := s0
    have z0 := HIN.out.size
    have z1 := R1.out.1.size
    have z2 := R2.out.2.2
    have z3 := RX.out.1.size
    have s1 : (W3.setCell ⟨W1.heap.size, 7, none⟩ (.slice none 0 0)).heap[w.heap.size + 1]? = some (.cells ref0 tRDisk (0, 0)) := by
      rw [heap_setCell_other _ _ _ _ (by show w.heap.size + 1 ≠ W1.heap.size; omega), R3.out.1.block _ (by omega) (by omega), RX.out.1.block _ (by omega), R2.out.1.block _ (by omega)]
      exact HIN.out.r1
    have S1 := Lib.hid s1
    have blk : ∀ k, k < X1.heap.size → k ≠ W1.heap.size → (W3.setCell ⟨W1.heap.size, 7, none⟩ (.slice none 0 0)).heap[k]? = X1.heap[k]? := fun k hk hne => by
      rw [heap_setCell_other _ _ _ _ hne, R3.out.1.block _ hk hne]
    have bw : Below w.heap.size w (W3.setCell ⟨W1.heap.size, 7, none⟩ (.slice none 0 0)) := by
      refine ⟨R3.out.1.os.trans (RX.out.1.os.trans (R2.out.1.os.trans HIN.out.below.os)), R3.out.1.tape.trans (RX.out.1.tape.trans (R2.out.1.tape.trans HIN.out.below.tape)), R3.out.1.output.trans (RX.out.1.output.trans (R2.out.1.output.trans HIN.out.below.output)), ?_, fun k hk => ?_⟩
      · have := R3.out.1.size; simp; omega
      · rw [blk k (by omega) (by omega), RX.out.1.block _ (by omega), R2.out.1.block _ (by omega)]
        exact HIN.out.below.block k hk
    have sz7 : (W3.setCell ⟨W1.heap.size, 7, none⟩ (.slice none 0 0)).heap.size = X1.heap.size := by have := R3.out.2; simp; omega
    have HB := Lib.hid (And.intro bw (And.intro blk sz7))
    clear s0 s1 blk bw sz7 k7 f7
    generalize (W3.setCell ⟨W1.heap.size, 7, none⟩ (.slice none 0 0)) = W7 at *
    go_wp2_with (first
      | (refine wpList_load_row rfl tRDisk (.tmp 4) rfl W1.heap.size rfl tRDisk _ (0, 0) _ S0.out Try.underlying42 rfl infoRD ?_)
      | (refine wpList_store_abs rfl tRDisk (.tmp 2) (.tmp 17) rfl (w.heap.size + 1) _ rfl rfl tRDisk ref0 S1.out infoRD rfl (ref_ones1 RX.out.2.1 rfl _ _ _ _) ?_
         intro W8 HW8 HM8 HS8))
    refine bodyPost_ret (results_cell_tmp rfl _ _ (w.heap.size + 1) _ _ _ _ _ rfl rfl HW8.out Try.underlying42 rfl infoRD) rfl ?_
    have z8 := HM8.size
    have z9 := HB.out.2.2
    refine ⟨_, rfl, Moves.new HB.out.1 HM8 (by omega), sv, t0, t1, t2, t3, .slice none 0 0, rfl, ?_, Or.inl ⟨rfl, rfl⟩⟩
    rw [goes_many]
    refine RX.out.2.1.keeps (fun k hk hl => ?_) (fun k hk hl => ?_)
    · rw [HM8.block k (by omega) ?_, HB.out.2.1 k hl ?_]
      · rcases hk with hk | hk <;> omega
      · rcases hk with hk | hk <;> omega
    · rcases hk with hk | hk
      · exact Or.inl hk.1
      · exact Or.inr ⟨by omega, by omega⟩
  · have GO2 := Lib.hid (GO.out.mono (R' := fun e w' => GivesRef W0 (InF F w) (d.goes.1, 281) e w') fun e w' ⟨v, h1, h2⟩ => ⟨v, by rw [h0] at h1; exact h1, h2⟩)
    have e2 : d.sync = (d.goes.1, 281) := by unfold D.sync; rw [if_neg (by omega), h0]
    rw [e2]
    clear GO e2 h0
    go_enter Try.func37, Try.ntmps37
    go_upto_region 1 with fail
    clear hW0
    go_wp2_with (first
      | (refine wpList_load_row rfl tRDisk (.tmp 1) rfl w.heap.size rfl tRDisk C (0, 0) _ HIN.out.r0 Try.underlying42 rfl (by rw [infoRD, HIN.out.csz]) ?_)
      | (go_at_call 60; refine GO2.out.mono ?_; rintro e W1 ⟨v1, rfl, hb1, hr1⟩
         obtain ⟨sv1, u0, u1, u2, u3, wv1, ev, rb1, st1⟩ := id hr1
         subst ev
         have R1 := Lib.hid (And.intro hb1 (And.intro (ref_ones rb1 st1) hr1))
         clear hb1 rb1 st1 hr1)
      | (refine wpList_store_abs rfl tRDisk (.tmp 4) (.tmp 9) rfl W1.heap.size _ rfl rfl tRDisk ref0 (heap_alloc_last W1 _) infoRD rfl (R1.out.2.1 _ _ _ _) ?_
         intro W2 HW2 HM2 HS2
         have z2 : W2.heap.size = W1.heap.size + 1 := by rw [HS2]; simp
         have hb2 : Below W1.heap.size W1 W2 := Moves.new ((Below.refl _ _).alloc (Nat.le_refl _) _) HM2 (Nat.le_refl _)
         have R2 := Lib.hid (And.intro hb2 (And.intro HW2.out z2))
         clear HM2 HS2 HW2 z2 hb2)
      | (refine wpList_load_row rfl tRDisk (.tmp 4) rfl W1.heap.size rfl tRDisk _ (0, 0) _ R2.out.2.1 Try.underlying42 rfl infoRD ?_)
      | (refine wpList_store_abs rfl tRDisk (.tmp 2) (.tmp 17) rfl (w.heap.size + 1) _ rfl rfl tRDisk ref0 ((R2.out.1.block _ (by have := R1.out.1.size; have := HIN.out.size; omega)).trans ((R1.out.1.block _ (lt_of_row HIN.out.r1)).trans HIN.out.r1)) infoRD rfl (R1.out.2.1 _ _ _ _) ?_
         intro W8 HW8 HM8 HS8))
    refine bodyPost_ret (results_cell_tmp rfl _ _ (w.heap.size + 1) _ _ _ _ _ rfl rfl HW8.out Try.underlying42 rfl infoRD) rfl ?_
    exact ref_give HIN.out.below HIN.out.size (R1.out.1.trans (R2.out.1.mono R1.out.1.size)) (R1.out.2.2.keeps (F' := plus (InF F w) W0 W1) (fun k _ hl => R2.out.1.block k hl) (fun _ h _ => h)) (plus_inF (by have := HIN.out.size; omega)) HM8

end Go.Proofs.Ytiefhmbpaoecfaa
