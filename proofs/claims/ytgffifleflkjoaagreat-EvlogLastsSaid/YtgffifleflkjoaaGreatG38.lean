/-
  EvlogLasts: the walk (printed by genlasts.py).
-/
import Derived.Test.YtgffifleflkjoaaGreatG10
import Derived.Test.YtgffifleflkjoaaGreatG26
import Derived.Test.YtgffifleflkjoaaGreatG27
import Derived.Test.YtgffifleflkjoaaGreatG37
import Derived.Deep.DeepCutAuto

namespace Go.Proofs.YtgffifleflkjoaaGreat
open Go.RowKit Dm
attribute [local go_sem] Oper.semAt_some

/-- Between two commits: the engine, what the document's rows are, what they may be. -/
structure LsRel (w0 : World) (pl pd md : Nat) (i : Nat) (wr : World) (e : Em.E) (F : Nat → Prop) (sv mv : Value) (Rm : Em.Pairs) : Prop where
  log : LogAt wr pl pd md e F
  waits : e.d.waits.length ≤ 3 * i
  lasts : Lasts e Rm
  sure : PairsAt wr (fun b => b ≠ pl ∧ b ≠ pd ∧ b ≠ md) sv (Em.tell e.rows)
  maybe : PairsAt wr (fun b => b ≠ pl ∧ b ≠ pd ∧ b ≠ md) mv Rm
  few : Rm.length ≤ 256
  below : Below w0.heap.size w0 wr
  new : w0.heap.size ≤ pl ∧ w0.heap.size ≤ pd ∧ w0.heap.size ≤ md

theorem LsRel.tell {w0 wr : World} {pl pd md i : Nat} {e : Em.E} {F : Nat → Prop} {sv mv : Value} {Rm : Em.Pairs} (h : LsRel w0 pl pd md i wr e F sv mv Rm) : (Em.tell e.rows).length ≤ 256 := by rw [Em.tell_len]; exact h.log.good.few

theorem LsRel.later {w0 wr w1 : World} {pl pd md i : Nat} {e : Em.E} {F : Nat → Prop} {sv mv : Value} {Rm : Em.Pairs} (h : LsRel w0 pl pd md i wr e F sv mv Rm) (hb : Below wr.heap.size wr w1) : LsRel w0 pl pd md i w1 e F sv mv Rm :=
  ⟨log_off h.log (Moves.of_below (O := fun _ => False) hb) (fun h => h) (fun h => h) (fun h => h) (fun _ _ h => h) (fun _ h => h.elim), h.waits, h.lasts, h.sure.later hb, h.maybe.later hb, h.few, h.below.trans (hb.mono h.below.size), h.new⟩

theorem rall_few {D : Em.Rows} (h : Em.RowsOk D) (ht : Maps.Tidy D) (hs : Maps.size D ≤ 256) (l : List Em.Change) : (Em.rall (Em.tell D) l).1.length ≤ 256 := by
  rw [Em.rall_tell h ht]
  by_cases q : Em.doneErr D l = 0
  · rw [if_pos q]
    show (Em.tell (Em.behind D l)).length ≤ 256
    rw [Em.tell_len]
    exact (Em.doneErr_zero q).2
  · rw [if_neg q]
    show (Em.tell D).length ≤ 256
    rw [Em.tell_len]
    exact hs

/-- A commit; the document's batch behind it. -/
theorem LsRel.step {w0 wr w5 w6 : World} {pl pd md i : Nat} {e : Em.E} {F : Nat → Prop} {sv mv sv' mv' : Value} {Rm Rm' : Em.Pairs} {l : List Em.Change} {E1 : Em.E} (h : LsRel w0 pl pd md i wr e F sv mv Rm) (m5 : Moves (PLM pl pd md) wr w5)
    (he : E1 = (e.commit l).1) (x5 : LogAt w5 pl pd md E1 (plus F wr w5)) (b6 : Below w5.heap.size w5 w6) (hl : Lasts E1 Rm') (hs : PairsAt w6 (fun b => b ≠ pl ∧ b ≠ pd ∧ b ≠ md) sv' (Em.tell E1.rows))
    (hm : PairsAt w6 (fun b => b ≠ pl ∧ b ≠ pd ∧ b ≠ md) mv' Rm') (hf : Rm'.length ≤ 256) : LsRel w0 pl pd md (i + 1) w6 E1 (plus F wr w5) sv' mv' Rm' := by
  have z := h.new
  refine ⟨log_off x5 (Moves.of_below (O := fun _ => False) b6) (fun h => h) (fun h => h) (fun h => h) (fun _ _ h => h) (fun _ h => h.elim), ?_, hl, hs, hm, hf, below_more (below_of_moves h.below m5 (fun k hk => by rcases hk with e | e | e <;> omega)) b6, z⟩
  subst he
  have := Em.commit_waits e l
  have := h.waits
  omega

theorem LsRel.carry {w0 wr w5 w6 : World} {pl pd md i : Nat} {e : Em.E} {F : Nat → Prop} {sv mv v : Value} {Rm R : Em.Pairs} (_h : LsRel w0 pl pd md i wr e F sv mv Rm) (m5 : Moves (PLM pl pd md) wr w5) (b6 : Below w5.heap.size w5 w6)
    (p : PairsAt wr (fun b => b ≠ pl ∧ b ≠ pd ∧ b ≠ md) v R) : PairsAt w6 (fun b => b ≠ pl ∧ b ≠ pd ∧ b ≠ md) v R :=
  (p.moves m5 (fun b hb _ e => by rcases e with e | e | e; exact hb.1 e; exact hb.2.1 e; exact hb.2.2 e)).later b6

theorem LsRel.fresh {w0 wr w5 w6 : World} {pl pd md i : Nat} {e : Em.E} {F : Nat → Prop} {sv mv v : Value} {Rm R : Em.Pairs} (h : LsRel w0 pl pd md i wr e F sv mv Rm) (m5 : Moves (PLM pl pd md) wr w5)
    (p : PairsAt w6 (fun b => (b ≠ pl ∧ b ≠ pd ∧ b ≠ md) ∨ w5.heap.size ≤ b) v R) : PairsAt w6 (fun b => b ≠ pl ∧ b ≠ pd ∧ b ≠ md) v R := by
  have lx := h.log.disk.lt
  have lp := lt_of_row h.log.row.choose_spec.1
  have s5 := m5.size
  refine p.weak (fun b hb _ => ?_)
  rcases hb with hb | hb
  · exact hb
  · exact ⟨by omega, by omega, by omega⟩

theorem tapes_short {h : Array Obj} {p m : Nat} {d : D} {F : Nat → Prop} (x : DiskAt h p m d F) (hd : d.waits = []) (hr : d.room ≤ 1000000) : ∀ k : Nat, (d.stand.tp k).length ≤ 1000000 := by
  intro k
  have := x.ok.tape 0 k
  have e : d.upto 0 = d.stand := by unfold D.upto D.stand; rw [hd]; rfl
  rw [e] at this
  omega

set_option maxRecDepth 100000 in
set_option maxHeartbeats 8000000 in
theorem lasts_go {w : World} {av kv : Value} {Q : List ActQ} (hv : ActsIn w av Q) (hq : (Q.length + 1) * 80 ≤ 140737488355328) (room : Int) (_hroom : i64' room) (stop : Int) (hstop : i64' stop) (c : Crash) (hk : BoolsAt w.heap kv c.keep) (hkl : c.keep.length ≤ 9223372036854775807) (ht : i64' c.torn) (hp : i64' c.part) :
    Calls Tryz.prog 5 #[.int .i64 room, av, .int .i64 stop, .agg #[kv, .int .i64 c.torn, .int .i64 c.part]] w fun e w' => e = .returned (.bool true) ∧ Below w.heap.size w w' := by
  obtain ⟨va, vc, rfl⟩ := hv.slice
  obtain ⟨ka, kc, rfl⟩ := hk.slice
  obtain ⟨W1, hW1⟩ : ∃ W, w.alloc (.cells #[.slice ka c.keep.length kc, .int .i64 c.torn, .int .i64 c.part] tCrash) = W := ⟨_, rfl⟩
  have B1 : Below w.heap.size w W1 := by rw [← hW1]; exact (Below.refl _ _).alloc (Nat.le_refl _) _
  have r7 : W1.heap[w.heap.size]? = some (.cells #[.slice ka c.keep.length kc, .int .i64 c.torn, .int .i64 c.part] tCrash (0, 0)) := by rw [← hW1]; exact heap_alloc_last w _
  have k7 := row_cell r7 (j := 0) rfl
  obtain ⟨bb, hbb⟩ : ∃ bb, Em.fewE (Q.map (·.1)) 60 = bb := ⟨_, rfl⟩
  have FW := Lib.hid (few19_c (hv.later B1) 60 (by omega))
  rw [hbb] at FW
  obtain ⟨kn, hkn⟩ : ∃ kn, c.keep.length = kn := ⟨_, rfl⟩
  have H0 := Lib.hid (And.intro hv (And.intro hbb (And.intro hk (And.intro ht (And.intro hp hkn)))))
  have H1 := Lib.hid (And.intro B1 r7)
  have HW1 := Lib.hid hW1
  clear hv hbb hk ht hp B1 r7 hW1
  rw [hkn] at HW1 H1 k7 hkl ⊢
  clear hkn
  generalize hqn : Q.length = n at *
  have HN := Lib.hid hqn
  clear hqn
  go_enter Tryz.func5, Tryz.ntmps5
  go_upto_region 1 with fail
  rw [HW1.out]
  have WC := Lib.hid (fun X => works19_c X)
  by_cases hbad : bb = false ∨ room < 100 ∨ 20000 < room ∨ 40 < kn
  · cases bb
    · go_wp2_with (first
        | (go_at_call 13; refine FW.out.mono ?_; rintro e w' ⟨rfl, rfl⟩)
        | (go_at_call 8; refine (WC.out _).mono ?_; rintro e w3 ⟨rfl, b3⟩))
      go_ret
      exact ⟨rfl, H1.out.1.trans (b3.mono H1.out.1.size)⟩
    · by_cases h1 : room < 100
      · clear hbad
        go_wp2_with (first
          | (go_at_call 13; refine FW.out.mono ?_; rintro e w' ⟨rfl, rfl⟩)
          | (go_at_call 8; refine (WC.out _).mono ?_; rintro e w3 ⟨rfl, b3⟩))
        go_ret
        exact ⟨rfl, H1.out.1.trans (b3.mono H1.out.1.size)⟩
      · by_cases h2 : 20000 < room
        · clear hbad
          go_wp2_with (first
            | (go_at_call 13; refine FW.out.mono ?_; rintro e w' ⟨rfl, rfl⟩)
            | (go_at_call 8; refine (WC.out _).mono ?_; rintro e w3 ⟨rfl, b3⟩))
          go_ret
          exact ⟨rfl, H1.out.1.trans (b3.mono H1.out.1.size)⟩
        · have h3 : (40 : Int) < (kn : Int) := by rcases hbad with h | h | h | h; cases h; exact absurd h h1; exact absurd h h2; omega
          clear hbad
          go_wp2_with (first
            | (go_at_call 13; refine FW.out.mono ?_; rintro e w' ⟨rfl, rfl⟩)
            | (go_at_call 8; refine (WC.out _).mono ?_; rintro e w3 ⟨rfl, b3⟩))
          go_ret
          exact ⟨rfl, H1.out.1.trans (b3.mono H1.out.1.size)⟩
  · obtain ⟨rfl, h1, h2, h3⟩ : bb = true ∧ ¬ room < 100 ∧ ¬ 20000 < room ∧ ¬ (40 : Int) < (kn : Int) := by
      refine ⟨?_, fun h => hbad (Or.inr (Or.inl h)), fun h => hbad (Or.inr (Or.inr (Or.inl h))), fun h => hbad (Or.inr (Or.inr (Or.inr (by omega))))⟩
      cases bb
      · exact absurd (Or.inl rfl) hbad
      · rfl
    clear hbad
    obtain ⟨rm, rfl⟩ : ∃ rm : Nat, room = (rm : Int) := ⟨room.toNat, by omega⟩
    have hrm : 100 ≤ rm ∧ rm ≤ 20000 := by omega
    have NW := Lib.hid (new_c 0 rm W1 (by unfold newErr; rw [if_neg (by omega)]))
    go_upto_region 4 with (first
      | (go_at_call 13; refine FW.out.mono ?_; rintro e w' ⟨rfl, rfl⟩)
      | (go_at_call 9; refine NW.out.mono ?_; rintro e w3 ⟨pd, md, rfl, hb3, hp, hm, x3⟩))
    have x3 : DiskAt w3.heap pd md (Dm.new 0 rm) (fun k => k < w3.heap.size ∧ k ≠ pd ∧ k ≠ md) := x3.weak (fun k hk hl => ⟨hl, hk.2⟩) (fun h => h.2.1 rfl) (fun h => h.2.2 rfl)
    obtain ⟨q1, q2, q3, q4, q5⟩ := Em.begun_fine (s := 0) (room := rm) hrm.1
    have SD := begun_sound (room := rm) hrm.1
    have OC := Lib.hid (open_c (ts := fun _ => Em.T.none) x3 (by show 0 ≤ _; decide) (fun i h => h.1) (fun k _ => reads_nil k) rfl)
    have H3 := Lib.hid (And.intro hb3 (And.intro hp hm))
    clear hb3 hp hm x3 NW FW
    go_upto_region 5 with (go_at_call 10; refine OC.out.mono ?_; rintro e w4 ⟨m4, o4, _⟩; obtain ⟨pl, F4, rfl, x4, hpl, hF4, _⟩ := o4 q1)
    have s3 := H3.out.1.size
    have D4 : Below W1.heap.size W1 w4 := below_pm H3.out.1 m4 H3.out.2.1 H3.out.2.2
    obtain ⟨E0, hE0⟩ : ∃ E0, (Em.begun (Dm.new 0 rm)).1 = E0 := ⟨_, rfl⟩
    rw [hE0] at x4 q2 q3 SD
    have H4 := Lib.hid (And.intro D4 (And.intro (show W1.heap.size ≤ pl by omega) (And.intro x4 (And.intro SD (And.intro q3 (And.intro q2.disk.waits q2.disk.room))))))
    clear m4 o4 hpl hF4 OC D4 x4 hE0 q1 q2 q3 q4 q5 SD s3
    go_cut [9, 67] (fun s9 s67 wx => s9 = .pointer (some ⟨pd, 0, none⟩) ∧ s67 = .bool false ∧ ∃ (E1 : Em.E) (F1 : Nat → Prop), LogAt wx pl pd md E1 F1 ∧ Sound E1 ∧ E1.rows = .map [] ∧ E1.d.waits = [] ∧ E1.d.room = rm ∧ Below W1.heap.size W1 wx)
    case first =>
      by_cases hs : 0 ≤ stop
      · obtain ⟨t1, t2⟩ := H4.out.2.2.2.1.stop hs
        have SC := Lib.hid (stop_c H4.out.2.2.1.disk stop hstop.2)
        rw [t1] at SC
        clear t1
        have T2 := Lib.hid t2
        clear t2
        go_wp2_with (first
          | (go_at_call 12; refine (num19_c _ _).mono ?_; rintro e w' ⟨rfl, rfl⟩)
          | (go_at_call 16; refine SC.out.mono ?_; rintro e w5 h5; obtain ⟨rfl, m5, x5⟩ := log_left_disk H4.out.2.2.1 h5; have H5 := Lib.hid (And.intro m5 x5); clear m5 x5 h5))
        go_meet
        exact ⟨rfl, rfl, _, _, H5.out.2, T2.out, H4.out.2.2.2.2.1, H4.out.2.2.2.2.2.1, H4.out.2.2.2.2.2.2, below_of_moves H4.out.1 H5.out.1 (fun k hk => by have := H4.out.2.1; have := H3.out.2; rcases hk with e | e | e <;> omega)⟩
      · go_wp2_with (go_at_call 12; refine (num19_c _ _).mono ?_; rintro e w' ⟨rfl, rfl⟩)
        go_meet
        exact ⟨rfl, rfl, E0, F4, H4.out.2.2.1, H4.out.2.2.2.1, H4.out.2.2.2.2.1, H4.out.2.2.2.2.2.1, H4.out.2.2.2.2.2.2, H4.out.1⟩
    case rest =>
      obtain ⟨rfl, rfl, E1, F1, x5, SD, hr, hw, hrm5, b5⟩ := hcut
      have ST := Lib.hid (And.intro (show LsRel W1 pl pd md 0 wc E1 F1 (.slice none 0 0) (.slice none 0 0) [] from ⟨x5, by rw [hw]; exact Nat.le_refl _, SD.lasts _, Or.inl ⟨rfl, by rw [hr]; exact Em.tell_none⟩, Or.inl ⟨rfl, rfl⟩, Nat.zero_le _, b5, ⟨H4.out.2.1, H3.out.2.1, H3.out.2.2⟩⟩) (show E1.d.room ≤ 20000 by rw [hrm5]; omega))
      clear x5 SD hr hw hrm5 b5 H4 h1 h2 h3
      have SM := Lib.hid (Em.fewE_small H0.out.2.1)
      have SMQ := Lib.hid (show ∀ q ∈ Q, q.1.l.length ≤ 70 ∧ q.1.crash.keep.length ≤ 40 ∧ ∀ c ∈ q.1.l, c.key.length ≤ 70 ∧ c.value.length ≤ 200 from fun q hq => Em.ActE.small_of (SM.out.1 _ (List.mem_map.2 ⟨q, hq, rfl⟩)))
      have n60 : n ≤ 60 := by
        have h := SM.out.2
        rw [List.length_map, HN.out] at h
        omega
      go_wp2
      go_loopw [13, 14, 15] (fun sv mv s wr => ∃ (i : Nat) (e : Em.E) (F : Nat → Prop) (Rm : Em.Pairs), i ≤ n ∧ s = .int .i64 (i : Int) ∧ LsRel W1 pl pd md i wr e F sv mv Rm ∧ e.d.room ≤ 20000) (fun _ _ s _ => n - (intOf s).toNat)
      case atStart => exact ⟨0, _, _, _, Nat.zero_le _, rfl, ST.out⟩
      case round =>
        obtain ⟨i, e, F, Rm, hi, rfl, hrel, hroom⟩ := hrel
        obtain ⟨sa, sc, e1⟩ := hrel.sure.slice
        obtain ⟨ma, mk, e2⟩ := hrel.maybe.slice
        subst e1
        subst e2
        have GC := Lib.hid (gone_c hrel.log)
        by_cases hlt : i < n
        · have i0 : (0 : Int) ≤ (i : Int) := by omega
          have i1 : (i : Int) < (n : Int) := by omega
          cases hgo : e.gone
          · rw [hgo] at GC
            obtain ⟨⟨x, lv, kv'⟩, hqi⟩ : ∃ q, Q[i]? = some q := ⟨_, List.getElem?_eq_getElem (by rw [HN.out]; exact hlt)⟩
            obtain ⟨b, o, rfl, lb, rg, is⟩ := H0.out.1.at hqi
            obtain ⟨la, lc, e1⟩ := is.l.slice
            simp only at e1
            subst e1
            have BW : Below w.heap.size w wr := H1.out.1.trans (hrel.below.mono H1.out.1.size)
            have kl := rg 1 _ rfl
            have k1 : wr.cell? ⟨b, o + i * 6 + 1, none⟩ = some (.slice la x.l.length lc) := (BW.cell (p := ⟨b, o + i * 6 + 1, none⟩) lb).trans kl
            have isl : ChangesAt w (fun _ => True) (.slice la x.l.length lc) x.l := is.l
            obtain ⟨g1, _, g3⟩ := SMQ.out _ (List.mem_of_getElem? hqi)
            simp only at g1 g3
            have CC := Lib.hid (commit_c hrel.log (by have := hrel.waits; omega) (isl.later BW) (by omega) (fun c hc => by have := g3 c hc; omega))
            have HS := Lib.hid (lasts_step (l := x.l) (hrel.lasts.sound hgo))
            have RF := rall_few hrel.log.good.rows hrel.lasts.tidy hrel.log.good.few x.l
            have HR := Lib.hid hrel
            have HX := Lib.hid (And.intro isl (And.intro BW (And.intro lb (And.intro g1 (And.intro kl (And.intro RF hroom))))))
            clear hrel isl BW rg is hqi g3 hgo kl RF hroom
            obtain ⟨xl, hxl⟩ : ∃ xl, x.l.length = xl := ⟨_, rfl⟩
            rw [hxl] at k1 CC
            have HXL := Lib.hid hxl
            clear hxl
            obtain ⟨R1, hR1⟩ : ∃ R1, e.commit x.l = R1 := ⟨_, rfl⟩
            have HC := Lib.hid hR1
            rw [hR1] at CC HS
            clear hR1
            go_upto_region 12 with (first
              | (go_at_call 17; refine GC.out.mono ?_; rintro en w' ⟨rfl, rfl⟩)
              | (go_at_call 11; refine CC.out.mono ?_; rintro en w5 ⟨rfl, m5, x5⟩))
            have B5w : Below W1.heap.size W1 w5 := below_of_moves HR.out.below m5 (fun k hk => by have := HR.out.new; rcases hk with e | e | e <;> omega)
            have BW5 : Below w.heap.size w w5 := H1.out.1.trans (B5w.mono H1.out.1.size)
            have k5 : w5.cell? ⟨b, o + i * 6 + 1, none⟩ = some (.slice la xl lc) := by rw [← HXL.out]; exact cell_past BW5 HX.out.2.2.2.2.1
            have AC := Lib.hid (rall_c (HR.out.sure.moves m5 (fun b hb _ e => by rcases e with e | e | e; exact hb.1 e; exact hb.2.1 e; exact hb.2.2 e)) (by have := HR.out.tell; omega) (HX.out.1.later BW5) (by have := HX.out.2.2.2.1; omega))
            have H5 := Lib.hid (And.intro m5 x5)
            clear m5 x5 B5w BW5 k1
            rw [HXL.out] at AC
            obtain ⟨no, hno⟩ : ∃ no, (Em.rall (Em.tell e.rows) x.l).2 = no := ⟨_, rfl⟩
            rw [hno] at AC
            have HNO := Lib.hid hno
            clear hno
            go_upto_region 14 with (go_at_call 14; refine AC.out.mono ?_; rintro e' w6 ⟨v', rfl, p6, b6⟩)
            have P6 := HR.out.fresh H5.out.1 p6
            obtain ⟨wa, wk, e1⟩ := p6.slice
            subst e1
            have S6 := Lib.hid (HR.out.carry H5.out.1 b6 HR.out.sure)
            have H6 := Lib.hid (And.intro P6 b6)
            clear P6 p6 b6 AC k5
            by_cases hc : R1.2 = 0
            · obtain ⟨z1, z2, z3⟩ := HS.out.1 hc
              have STEP := Lib.hid (HR.out.step (l := x.l) H5.out.1 (by rw [HC.out]) H5.out.2 H6.out.2 z3 (by rw [z2]; exact H6.out.1) H6.out.1 HX.out.2.2.2.2.2.1)
              rw [HNO.out] at z1
              subst z1
              have RC := Lib.hid (rows19_c STEP.out.log STEP.out.sure (by have := STEP.out.tell; omega))
              rw [z2, decide_eq_true rfl] at RC
              clear z2 z3
              generalize (Em.rall (Em.tell e.rows) x.l).1.length = wn at *
              go_wp2_with (first
                | (go_at_call 12; refine (num19_c _ _).mono ?_; rintro e w' ⟨rfl, rfl⟩)
                | (go_at_call 18; refine RC.out.mono ?_; rintro e' w7 ⟨rfl, b7⟩))
              go_roundw
              case rel => exact ⟨i + 1, R1.1, _, _, by omega, by go_num, STEP.out.later b7, by rw [← HC.out, commit_room]; exact HX.out.2.2.2.2.2.2⟩
              case measure => simp [intOf]; omega
            · by_cases h281 : R1.2 = 281
              · obtain ⟨z2, z3⟩ := HS.out.2.1 h281
                have STEP := Lib.hid (HR.out.step (l := x.l) H5.out.1 (by rw [HC.out]) H5.out.2 H6.out.2 z3 (by rw [z2]; exact S6.out) H6.out.1 HX.out.2.2.2.2.2.1)
                have RC := Lib.hid (rows19_c STEP.out.log STEP.out.sure (by have := STEP.out.tell; omega))
                rw [z2, decide_eq_true rfl] at RC
                clear z2 z3 hc
                generalize (Em.rall (Em.tell e.rows) x.l).1.length = wn at *
                generalize (Em.tell e.rows).length = sn at *
                go_wp2_with (first
                  | (go_at_call 12; refine (num19_c _ _).mono ?_; rintro e w' ⟨rfl, rfl⟩)
                  | (go_at_call 18; refine RC.out.mono ?_; rintro e' w7 ⟨rfl, b7⟩))
                go_roundw
                case rel => exact ⟨i + 1, R1.1, _, _, by omega, by go_num, STEP.out.later b7, by rw [← HC.out, commit_room]; exact HX.out.2.2.2.2.2.2⟩
                case measure => simp [intOf]; omega
              · obtain ⟨z2, z3⟩ := HS.out.2.2 hc h281
                have STEP := Lib.hid (HR.out.step (l := x.l) H5.out.1 (by rw [HC.out]) H5.out.2 H6.out.2 z3 (by rw [z2]; exact S6.out) S6.out HR.out.tell)
                have RC := Lib.hid (rows19_c STEP.out.log STEP.out.sure (by have := STEP.out.tell; omega))
                rw [z2, decide_eq_true rfl] at RC
                clear z2 z3
                generalize (Em.rall (Em.tell e.rows) x.l).1.length = wn at *
                generalize (Em.tell e.rows).length = sn at *
                go_wp2_with (first
                  | (go_at_call 12; refine (num19_c _ _).mono ?_; rintro e w' ⟨rfl, rfl⟩)
                  | (go_at_call 18; refine RC.out.mono ?_; rintro e' w7 ⟨rfl, b7⟩))
                go_roundw
                case rel => exact ⟨i + 1, R1.1, _, _, by omega, by go_num, STEP.out.later b7, by rw [← HC.out, commit_room]; exact HX.out.2.2.2.2.2.2⟩
                case measure => simp [intOf]; omega
          · rw [hgo] at GC
            clear hgo
            have BW : Below w.heap.size w wr := H1.out.1.trans (hrel.below.mono H1.out.1.size)
            have ka7 := cell_past hrel.below (row_cell H1.out.2 (j := 0) rfl)
            have kb7 := cell_past hrel.below (row_cell H1.out.2 (j := 1) rfl)
            have kc7 := cell_past hrel.below (row_cell H1.out.2 (j := 2) rfl)
            have CR := Lib.hid (crash_c hrel.log.disk c (H0.out.2.2.1.later BW) H0.out.2.2.2.1.1 H0.out.2.2.2.1.2 H0.out.2.2.2.2.1.1 H0.out.2.2.2.2.1.2 (by have := hrel.waits; omega))
            have AF := hrel.lasts.after c
            have HR := Lib.hid hrel
            have HAF := Lib.hid (And.intro AF hroom)
            clear hrel BW AF hroom
            rw [H0.out.2.2.2.2.2] at CR
            go_upto_region 21 with (first
              | (go_at_call 17; refine GC.out.mono ?_; rintro en w' ⟨rfl, rfl⟩)
              | (go_at_call 19; refine CR.out.mono ?_; rintro en w8 ⟨p', m', F8, rfl, b8, hp8, hm8, x8, hF8⟩))
            have TS := tapes_short x8 rfl (by have := HAF.out.2; show e.d.room ≤ 1000000; omega)
            have OC := Lib.hid (openAny_c (ts := fun k => rtape ((e.d.crash c).stand.tp k)) x8 (Nat.zero_le _) (fun k hk => by rcases hF8 k hk with h | h; have := b8.size; omega; omega) (fun k hk => reads_all (by have := TS k; omega) k) (took_good (fun k _ => TS k)))
            have OT : (Em.openedT (e.d.crash c) (bestT (fun k => rtape ((e.d.crash c).stand.tp k)) 2)).2 = 0 ∧ (Em.tell (Em.openedT (e.d.crash c) (bestT (fun k => rtape ((e.d.crash c).stand.tp k)) 2)).1.rows = Em.tell e.rows ∨ Em.tell (Em.openedT (e.d.crash c) (bestT (fun k => rtape ((e.d.crash c).stand.tp k)) 2)).1.rows = Rm) := by
              rcases HAF.out.1 with h | h
              · exact ⟨(opened_tells (d := e.d.crash c) rfl rfl h).1, Or.inl (opened_tells (d := e.d.crash c) rfl rfl h).2⟩
              · exact ⟨(opened_tells (d := e.d.crash c) rfl rfl h).1, Or.inr (opened_tells (d := e.d.crash c) rfl rfl h).2⟩
            generalize Em.openedT (e.d.crash c) (bestT (fun k => rtape ((e.d.crash c).stand.tp k)) 2) = R9 at OC OT
            obtain ⟨o1, o2⟩ := OT
            have H8 := Lib.hid (And.intro b8 (And.intro hp8 (And.intro hm8 o2)))
            clear b8 hp8 hm8 x8 hF8 TS o2
            go_upto_region 22 with (go_at_call 10; refine OC.out.mono ?_; rintro en w9 ⟨m9, o9, _⟩; obtain ⟨pl9, F9, rfl, x9, hpl9, hF9, _⟩ := o9 o1)
            have P9 : ∀ {v : Value} {R : Em.Pairs}, PairsAt wr (fun b => b ≠ pl ∧ b ≠ pd ∧ b ≠ md) v R → PairsAt w9 (fun b => b < wr.heap.size) v R := fun h =>
              ((h.weak (fun b _ hl => hl)).later H8.out.1).moves m9 (fun b hb _ e => by have := H8.out.2.1; have := H8.out.2.2.1; rcases e with e | e <;> omega)
            have S9 := Lib.hid (And.intro (P9 HR.out.sure) (P9 HR.out.maybe))
            have B9 := Lib.hid (show Below w.heap.size w w9 from H1.out.1.trans (Below.mono (HR.out.below.trans (Below.mono (below_pm H8.out.1 m9 H8.out.2.1 H8.out.2.2.1) HR.out.below.size)) H1.out.1.size))
            have RS := Lib.hid (rows19_c x9 S9.out.1 (by have := HR.out.tell; omega))
            have RM := Lib.hid (fun (W : World) (hb : Below w9.heap.size w9 W) => rows19_c (w := W) (log_off x9 (Moves.of_below (O := fun _ => False) hb) (fun h => h) (fun h => h) (fun h => h) (fun _ _ h => h) (fun _ h => h.elim)) (S9.out.2.later hb) (by have := HR.out.few; omega))
            clear m9 o9 x9 hpl9 hF9 OC CR o1 P9
            by_cases hs : Em.tell R9.1.rows = Em.tell e.rows
            · rw [hs, decide_eq_true rfl] at RS
              clear hs
              generalize (Em.tell e.rows).length = sn at *
              go_wp2_with (first
                | (go_at_call 12; refine (num19_c _ _).mono ?_; rintro e w' ⟨rfl, rfl⟩)
                | (go_at_call 18; refine RS.out.mono ?_; rintro e' w10 ⟨rfl, b10⟩)
                | (go_at_call 8; refine (WC.out _).mono ?_; rintro e w11 ⟨rfl, b11⟩))
              go_ret
              exact ⟨rfl, B9.out.trans (Below.mono (b10.trans (b11.mono b10.size)) B9.out.size)⟩
            · have hm : Em.tell R9.1.rows = Rm := H8.out.2.2.2.resolve_left hs
              rw [decide_eq_false hs] at RS
              have RM' := Lib.hid (show ∀ (W : World), Below w9.heap.size w9 W → Calls Tryz.prog 18 #[.pointer (some ⟨pl9, 0, none⟩), .slice ma Rm.length mk] W (fun en w' => en = .returned (.bool true) ∧ Below W.heap.size W w') from fun W hb => (RM.out W hb).mono (fun en w' h => ⟨by rw [h.1, decide_eq_true hm], h.2⟩))
              clear hs hm RM
              generalize (Em.tell e.rows).length = sn at *
              go_wp2_with (first
                | (go_at_call 12; refine (num19_c _ _).mono ?_; rintro e w' ⟨rfl, rfl⟩)
                | (go_at_call 18; (with_reducible refine RS.out.mono ?_); rintro e' w10 ⟨rfl, b10⟩)
                | (go_at_call 18; refine (RM'.out _ b10).mono ?_; rintro e' w12 ⟨rfl, b12⟩)
                | (go_at_call 8; refine (WC.out _).mono ?_; rintro e w11 ⟨rfl, b11⟩))
              go_ret
              exact ⟨rfl, B9.out.trans (Below.mono (b10.trans (Below.mono (b12.trans (b11.mono b12.size)) b10.size)) B9.out.size)⟩
        · obtain rfl : i = n := by omega
          clear GC
          have BW : Below w.heap.size w wr := H1.out.1.trans (hrel.below.mono H1.out.1.size)
          have ka7 := cell_past hrel.below (row_cell H1.out.2 (j := 0) rfl)
          have kb7 := cell_past hrel.below (row_cell H1.out.2 (j := 1) rfl)
          have kc7 := cell_past hrel.below (row_cell H1.out.2 (j := 2) rfl)
          have CR := Lib.hid (crash_c hrel.log.disk c (H0.out.2.2.1.later BW) H0.out.2.2.2.1.1 H0.out.2.2.2.1.2 H0.out.2.2.2.2.1.1 H0.out.2.2.2.2.1.2 (by have := hrel.waits; omega))
          have AF := hrel.lasts.after c
          have HR := Lib.hid hrel
          have HAF := Lib.hid (And.intro AF hroom)
          clear hrel BW AF hroom
          rw [H0.out.2.2.2.2.2] at CR
          go_upto_region 21 with (first
            | (go_at_call 17; refine GC.out.mono ?_; rintro en w' ⟨rfl, rfl⟩)
            | (go_at_call 19; refine CR.out.mono ?_; rintro en w8 ⟨p', m', F8, rfl, b8, hp8, hm8, x8, hF8⟩))
          have TS := tapes_short x8 rfl (by have := HAF.out.2; show e.d.room ≤ 1000000; omega)
          have OC := Lib.hid (openAny_c (ts := fun k => rtape ((e.d.crash c).stand.tp k)) x8 (Nat.zero_le _) (fun k hk => by rcases hF8 k hk with h | h; have := b8.size; omega; omega) (fun k hk => reads_all (by have := TS k; omega) k) (took_good (fun k _ => TS k)))
          have OT : (Em.openedT (e.d.crash c) (bestT (fun k => rtape ((e.d.crash c).stand.tp k)) 2)).2 = 0 ∧ (Em.tell (Em.openedT (e.d.crash c) (bestT (fun k => rtape ((e.d.crash c).stand.tp k)) 2)).1.rows = Em.tell e.rows ∨ Em.tell (Em.openedT (e.d.crash c) (bestT (fun k => rtape ((e.d.crash c).stand.tp k)) 2)).1.rows = Rm) := by
            rcases HAF.out.1 with h | h
            · exact ⟨(opened_tells (d := e.d.crash c) rfl rfl h).1, Or.inl (opened_tells (d := e.d.crash c) rfl rfl h).2⟩
            · exact ⟨(opened_tells (d := e.d.crash c) rfl rfl h).1, Or.inr (opened_tells (d := e.d.crash c) rfl rfl h).2⟩
          generalize Em.openedT (e.d.crash c) (bestT (fun k => rtape ((e.d.crash c).stand.tp k)) 2) = R9 at OC OT
          obtain ⟨o1, o2⟩ := OT
          have H8 := Lib.hid (And.intro b8 (And.intro hp8 (And.intro hm8 o2)))
          clear b8 hp8 hm8 x8 hF8 TS o2
          go_upto_region 22 with (go_at_call 10; refine OC.out.mono ?_; rintro en w9 ⟨m9, o9, _⟩; obtain ⟨pl9, F9, rfl, x9, hpl9, hF9, _⟩ := o9 o1)
          have P9 : ∀ {v : Value} {R : Em.Pairs}, PairsAt wr (fun b => b ≠ pl ∧ b ≠ pd ∧ b ≠ md) v R → PairsAt w9 (fun b => b < wr.heap.size) v R := fun h =>
            ((h.weak (fun b _ hl => hl)).later H8.out.1).moves m9 (fun b hb _ e => by have := H8.out.2.1; have := H8.out.2.2.1; rcases e with e | e <;> omega)
          have S9 := Lib.hid (And.intro (P9 HR.out.sure) (P9 HR.out.maybe))
          have B9 := Lib.hid (show Below w.heap.size w w9 from H1.out.1.trans (Below.mono (HR.out.below.trans (Below.mono (below_pm H8.out.1 m9 H8.out.2.1 H8.out.2.2.1) HR.out.below.size)) H1.out.1.size))
          have RS := Lib.hid (rows19_c x9 S9.out.1 (by have := HR.out.tell; omega))
          have RM := Lib.hid (fun (W : World) (hb : Below w9.heap.size w9 W) => rows19_c (w := W) (log_off x9 (Moves.of_below (O := fun _ => False) hb) (fun h => h) (fun h => h) (fun h => h) (fun _ _ h => h) (fun _ h => h.elim)) (S9.out.2.later hb) (by have := HR.out.few; omega))
          clear m9 o9 x9 hpl9 hF9 OC CR o1 P9
          by_cases hs : Em.tell R9.1.rows = Em.tell e.rows
          · rw [hs, decide_eq_true rfl] at RS
            clear hs
            generalize (Em.tell e.rows).length = sn at *
            go_wp2_with (first
              | (go_at_call 12; refine (num19_c _ _).mono ?_; rintro e w' ⟨rfl, rfl⟩)
              | (go_at_call 18; refine RS.out.mono ?_; rintro e' w10 ⟨rfl, b10⟩)
              | (go_at_call 8; refine (WC.out _).mono ?_; rintro e w11 ⟨rfl, b11⟩))
            go_ret
            exact ⟨rfl, B9.out.trans (Below.mono (b10.trans (b11.mono b10.size)) B9.out.size)⟩
          · have hm : Em.tell R9.1.rows = Rm := H8.out.2.2.2.resolve_left hs
            rw [decide_eq_false hs] at RS
            have RM' := Lib.hid (show ∀ (W : World), Below w9.heap.size w9 W → Calls Tryz.prog 18 #[.pointer (some ⟨pl9, 0, none⟩), .slice ma Rm.length mk] W (fun en w' => en = .returned (.bool true) ∧ Below W.heap.size W w') from fun W hb => (RM.out W hb).mono (fun en w' h => ⟨by rw [h.1, decide_eq_true hm], h.2⟩))
            clear hs hm RM
            generalize (Em.tell e.rows).length = sn at *
            go_wp2_with (first
              | (go_at_call 12; refine (num19_c _ _).mono ?_; rintro e w' ⟨rfl, rfl⟩)
              | (go_at_call 18; (with_reducible refine RS.out.mono ?_); rintro e' w10 ⟨rfl, b10⟩)
              | (go_at_call 18; refine (RM'.out _ b10).mono ?_; rintro e' w12 ⟨rfl, b12⟩)
              | (go_at_call 8; refine (WC.out _).mono ?_; rintro e w11 ⟨rfl, b11⟩))
            go_ret
            exact ⟨rfl, B9.out.trans (Below.mono (b10.trans (Below.mono (b12.trans (b11.mono b12.size)) b10.size)) B9.out.size)⟩

end Go.Proofs.YtgffifleflkjoaaGreat
