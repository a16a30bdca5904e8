/-
  evlog: the bound of rows.
-/
import Derived.Test.YtgffifleflkjoaaGreatG20

namespace Go.Proofs.YtgffifleflkjoaaGreat
open Go.RowKit Dm

/-- Between two of the eight batches. -/
def RoundRel (w : World) (pl p m i : Nat) (wr : World) : Prop :=
  ∃ (E : Em.E) (F : Nat → Prop), LogAt wr pl p m E F ∧ Em.Fine E 1048576 ∧ E.rows = Em.rowsAt i ∧ E.batches = i ∧ E.fin ≤ 100 + 2000 * i ∧ Below w.heap.size w wr

theorem u8_in (n : Nat) (h : n < 256) : IntKind.u8.wrap (n : Int) = (n : Int) := by simp [IntKind.wrap, IntKind.bits, IntKind.signed]; omega

/-- Two bytes as they are written. -/
theorem two_row {w : World} {F : Nat → Prop} {g a b : Nat} {A B : Int} {t : TypeId} {fr : Nat × Nat} (ha : a < 256) (hb : b < 256) (hA : A = a) (hB : B = b) (hr : w.heap[g]? = some (.cells #[.int .u8 A, .int .u8 B] t fr)) (hF : F g) : BytesAt w.heap F (.slice (some ⟨g, 0, none⟩) 2 2) [UInt8.ofNat a, UInt8.ofNat b] := by
  subst hA; subst hB
  refine Or.inr ⟨g, 0, 2, _, t, fr, rfl, by simp, by decide, hF, hr, ?_⟩
  intro i x hi
  match i, hi with
  | 0, hi =>
    cases hi
    show some (Value.int .u8 a) = some (bval (UInt8.ofNat a))
    simp [bval, Nat.mod_eq_of_lt ha]
  | 1, hi =>
    cases hi
    show some (Value.int .u8 b) = some (bval (UInt8.ofNat b))
    simp [bval, Nat.mod_eq_of_lt hb]
  | i + 2, hi => simp at hi

theorem roundL_take {i k : Nat} (h : k < Em.roundN i) : (Em.roundL i).take (k + 1) = (Em.roundL i).take k ++ [Em.key2 i k] := by
  unfold Em.roundL
  rw [List.take_add_one]
  simp [h]

set_option maxRecDepth 100000 in
set_option maxHeartbeats 4000000 in
theorem bounds_rows (w : World) {mo : Int} {n : Nat} (hn : 1 + mo = n) (hm1 : -1 ≤ mo) (hm2 : mo ≤ 1) (hd : Em.doneErr (Em.rowsAt 8) (Em.lastL n) = if 0 < mo then 3 else 0) (hl : mo ≤ 0 → (Em.batchBody (Em.lastL n)).length ≤ 8192) :
    Calls Tryz.prog 3 #[.int .i64 mo, .int .i64 3] w fun e w' => e = .returned (.bool true) ∧ Below w.heap.size w w' := by
  have g1 : decide (mo < -1) = false := by simp; omega
  have g2 : decide (1 < mo) = false := by simp; omega
  have g3 : IntKind.i64.wrap (1 + mo) = (n : Int) := by rw [← hn]; exact IntWalk.i64_in _ (by omega)
  have NW := Lib.hid (new_c 0 1048576 w rfl)
  go_enter Tryz.func3, Tryz.ntmps3
  go_upto_region 4 with (go_at_call 9; refine NW.out.mono ?_; rintro e w1 ⟨p, m, rfl, hb1, hp, hm, x1⟩)
  have lx := x1.lt
  have x1 : DiskAt w1.heap p m (Dm.new 0 1048576) (fun k => k < w1.heap.size ∧ k ≠ p ∧ k ≠ m) := x1.weak (fun k hk hl => ⟨hl, hk.2⟩) (fun h => h.2.1 rfl) (fun h => h.2.2 rfl)
  obtain ⟨q1, q2, q3, q4, q5⟩ := Em.begun_fine (s := 0) (room := 1048576) (by decide)
  have OC := Lib.hid (open_c (ts := fun _ => Em.T.none) x1 (by show 0 ≤ _; decide) (fun i h => h.1) (fun k _ => reads_nil k) rfl)
  have H1 := Lib.hid (And.intro hb1 (And.intro hp hm))
  clear hb1 hp hm x1 lx NW
  go_upto_region 5 with (go_at_call 10; refine OC.out.mono ?_; rintro e w2 ⟨m2, o2, _⟩; obtain ⟨pl, F2, rfl, x2, hpl, hF2, _⟩ := o2 q1)
  have H2 := Lib.hid (And.intro (below_pm H1.out.1 m2 H1.out.2.1 H1.out.2.2) (show w.heap.size ≤ pl from Nat.le_trans H1.out.1.size hpl))
  clear m2 o2 hpl hF2 OC
  obtain ⟨E0, hE0⟩ : ∃ E0, (Em.begun (Dm.new 0 1048576)).1 = E0 := ⟨_, rfl⟩
  rw [show ((1048576 : Nat) : Int) = 1048576 from rfl] at q2 q3 q4 q5
  rw [hE0] at x2 q2 q3 q4 q5
  clear hE0 q1
  have ST := Lib.hid (show RoundRel w pl p m 0 w2 from ⟨E0, F2, x2, q2, q3, q4, q5, H2.out.1⟩)
  have HP := Lib.hid (And.intro hd hl)
  clear x2 q2 q3 q4 q5 hd hl
  by_cases hm : 0 < mo
  all_goals
    go_wp2
    go_loopg [13] 8 (fun g s wr => ∃ i : Nat, s = .int .i64 (i : Int) ∧ g + i = 8 ∧ RoundRel w pl p m i wr)
    case atStart => exact ⟨0, rfl, rfl, ST.out⟩
    case round =>
      obtain ⟨i, rfl, hg, hrel⟩ := hrel
      by_cases hlt : i < 8
      · have i1 : (i : Int) < 8 := by omega
        have i2 : IntKind.i64.wrap ((i : Int) + 1) = ((i + 1 : Nat) : Int) := IntWalk.i64_in _ (by omega)
        have i3 : IntKind.i64.wrap (32 * (i : Int)) = 32 * (i : Int) := IntWalk.i64_in _ (by omega)
        have i4 := u8_in (i + 1) (by omega)
        have HR := Lib.hid hrel
        clear hrel
        obtain ⟨W0, hW0⟩ : ∃ W0, W0 = wr := ⟨wr, rfl⟩
        subst hW0
        have hN : Em.roundN i ≤ 32 ∧ 32 * i + Em.roundN i ≤ 255 ∧ (Em.roundN i < 32 → 32 * i + Em.roundN i = 255) := by unfold Em.roundN; omega
        go_wp2
        go_loopg [14, 15] (Em.roundN i) (fun g v s wq => ∃ k : Nat, s = .int .i64 (k : Int) ∧ g + k = Em.roundN i ∧ OwnC wq W0.heap.size v ((Em.roundL i).take k) ∧ Below W0.heap.size W0 wq)
        case atStart => exact ⟨0, rfl, by omega, ownC_nil _ _, Below.refl _ _⟩
        case round =>
          obtain ⟨k, rfl, hgk, hown, hb⟩ := hrel
          by_cases hlk : k < Em.roundN i
          · have k1 : (k : Int) < 32 := by omega
            have k2 : IntKind.i64.wrap (32 * (i : Int) + (k : Int)) = 32 * (i : Int) + (k : Int) := IntWalk.i64_in _ (by omega)
            have k3 : 32 * (i : Int) + (k : Int) < 255 := by omega
            have k4 : IntKind.i64.wrap ((k : Int) + 1) = ((k + 1 : Nat) : Int) := IntWalk.i64_in _ (by omega)
            have k5 := u8_in (k + 1) (by omega)
            have b1 : Below wr.heap.size wr (wr.alloc (.cells #[.int .u8 ((i : Int) + 1), .int .u8 ((k : Int) + 1)] tByte)) := (Below.refl _ _).alloc (Nat.le_refl _) _
            have hcv := run_string_of (two_row (a := i + 1) (b := k + 1) (by omega) (by omega) (by omega) (by omega) (heap_alloc_last wr (.cells #[.int .u8 ((i : Int) + 1), .int .u8 ((k : Int) + 1)] tByte)) (F := fun _ => True) trivial)
            obtain ⟨ca, hca⟩ : ∃ x : UInt8, UInt8.ofNat (i + 1) = x := ⟨_, rfl⟩
            obtain ⟨cb, hcb⟩ : ∃ x : UInt8, UInt8.ofNat (k + 1) = x := ⟨_, rfl⟩
            have HC := Lib.hid (show Em.key2 i k = ⟨[ca, cb], [], false⟩ by unfold Em.key2; rw [hca, hcb])
            rw [hca, hcb] at hcv
            clear hca hcb
            obtain ⟨wa, hwa⟩ : ∃ W, wr.alloc (.cells #[.int .u8 ((i : Int) + 1), .int .u8 ((k : Int) + 1)] tByte) = W := ⟨_, rfl⟩
            rw [hwa] at b1 hcv
            have b2 : ∀ c, Below wa.heap.size wa (wa.alloc c) := fun c => (Below.refl _ _).alloc (Nat.le_refl _) c
            have HI := Lib.hid (And.intro hown (And.intro hb b1))
            have HK := Lib.hid (roundL_take hlk)
            have hlen : ((Em.roundL i).take k).length ≤ 1000000 := by rw [List.length_take]; omega
            clear hown hb b1
            go_wp2_with (at_builtin; go_loud (refine wpList_append_chg rfl (.tmp 60) (.tmp 70) rfl W0.heap.size _ ((Em.roundL i).take k) ⟨[ca, cb], [], false⟩ rfl ((HI.out.1.later HI.out.2.2).later (b2 _)) wa.heap.size 1 rfl (heap_alloc_last wa _) hlen (by have := HI.out.2.1.size; have := HI.out.2.2.size; simp; omega) ((HI.out.2.1.trans (HI.out.2.2.mono HI.out.2.1.size)).trans ((b2 _).mono (Nat.le_trans HI.out.2.1.size HI.out.2.2.size))) ?_); intro v' w' h1 h2)
            go_roundg (Em.roundN i - (k + 1))
            case rel => exact ⟨k + 1, by go_num, by omega, by rw [HK.out, HC.out]; exact h1.out, h2.out⟩
            case measure => omega
          · obtain hkN : k = Em.roundN i := by omega
            subst hkN
            have hlN : (Em.roundL i).length = Em.roundN i := by unfold Em.roundL; simp
            rw [List.take_of_length_le (by rw [hlN]; exact Nat.le_refl _)] at hown
            obtain ⟨E, F, xE, fE, rE, bE, nE, wE⟩ := HR.out
            have hrl := Em.rounds_len i hlt
            obtain ⟨r1, r2, r3, r4, r5⟩ := fE.commit (l := Em.roundL i) (by rw [rE]; exact Em.rounds_done i hlt) (by omega) (by omega) (by omega)
            have CC := Lib.hid (commit_c (log_below xE hb) (by rw [fE.disk.waits]; decide) hown.at (by omega) (by
              intro c hc
              unfold Em.roundL at hc
              obtain ⟨j, _, rfl⟩ := List.mem_map.1 hc
              unfold Em.key2
              exact ⟨by show 2 ≤ _; decide, by show 0 ≤ _; decide⟩))
            have HB := Lib.hid (below_more wE hb)
            have hfin : (Em.E.commit E (Em.roundL i)).1.fin ≤ 100 + 2000 * (i + 1) := by omega
            rw [rE, ← Em.rowsAt_succ] at r3
            rw [bE] at r4
            have HF := Lib.hid (And.intro r2 (And.intro r3 (And.intro r4 hfin)))
            generalize Em.E.commit E (Em.roundL i) = R1 at *
            clear hown hb r2 r3 r4 r5 hfin xE fE rE bE nE wE HR hrl
            have k2 : IntKind.i64.wrap (32 * (i : Int) + (Em.roundN i : Int)) = 32 * (i : Int) + (Em.roundN i : Int) := IntWalk.i64_in _ (by omega)
            by_cases hN32 : Em.roundN i < 32
            all_goals
              first
                | have k1 : (Em.roundN i : Int) < 32 := by omega
                | have k1 : ¬ (Em.roundN i : Int) < 32 := by omega
              first
                | have k3 : ¬ 32 * (i : Int) + (Em.roundN i : Int) < 255 := by omega
                | skip
              go_wp2_with (first
                | (go_at_call 11; refine CC.out.mono ?_; rintro e w3 ⟨rfl, m3, x3⟩
                   have B3 := below_plm HB.out m3 H2.out.2 H1.out.2.1 H1.out.2.2
                   have X3 := Lib.hid x3
                   clear m3 x3)
                | (go_at_call 12; refine (num19_c _ _).mono ?_; rintro e w' ⟨rfl, rfl⟩))
              go_roundg (8 - (i + 1))
              case measure => omega
              case rel => exact ⟨i + 1, by go_num, by omega, _, _, X3.out, HF.out.1, HF.out.2.1, HF.out.2.2.1, HF.out.2.2.2, B3⟩
      · obtain rfl : i = 8 := by omega
        obtain ⟨E, F, xE, fE, rE, bE, nE, wE⟩ := hrel
        obtain ⟨hd, hl⟩ := HP.out
        have hcode := Em.commit_code (l := Em.lastL n) (c := if 0 < mo then 3 else 0) fE (by rw [rE]; exact hd) (fun h => hl (by by_cases q : 0 < mo; (rw [if_pos q] at h; cases h); omega)) (by omega) (by omega)
        first
          | rw [if_pos hm] at hcode
          | rw [if_neg (by omega)] at hcode
        have hwait : E.d.waits.length ≤ 800000000 := by rw [fE.disk.waits]; decide
        have HE := Lib.hid (And.intro xE (And.intro wE hwait))
        clear xE fE rE bE nE wE hd hl hwait
        obtain ⟨W0, hW0⟩ : ∃ W0, W0 = wr := ⟨wr, rfl⟩
        subst hW0
        go_wp2
        go_loopg [16, 17] n (fun g v s wq => ∃ k : Nat, s = .int .i64 (k : Int) ∧ g + k = n ∧ OwnC wq W0.heap.size v (Em.lastL k) ∧ Below W0.heap.size W0 wq)
        case atStart => exact ⟨0, rfl, by omega, ownC_nil _ _, Below.refl _ _⟩
        case round =>
          obtain ⟨k, rfl, hgk, hown, hb⟩ := hrel
          by_cases hlk : k < n
          · have k1 : (k : Int) < (n : Int) := by omega
            have k4 : IntKind.i64.wrap ((k : Int) + 1) = ((k + 1 : Nat) : Int) := IntWalk.i64_in _ (by omega)
            have k5 := u8_in k (by omega)
            have b1 : Below wr.heap.size wr (wr.alloc (.cells #[.int .u8 200, .int .u8 (k : Int)] tByte)) := (Below.refl _ _).alloc (Nat.le_refl _) _
            have hcv := run_string_of (two_row (a := 200) (b := k) (by omega) (by omega) rfl rfl (heap_alloc_last wr (.cells #[.int .u8 200, .int .u8 (k : Int)] tByte)) (F := fun _ => True) trivial)
            obtain ⟨ca, hca⟩ : ∃ x : UInt8, UInt8.ofNat 200 = x := ⟨_, rfl⟩
            obtain ⟨cb, hcb⟩ : ∃ x : UInt8, UInt8.ofNat k = x := ⟨_, rfl⟩
            have HC := Lib.hid (show Em.lastL (k + 1) = Em.lastL k ++ [⟨[ca, cb], [], false⟩] by unfold Em.lastL; rw [List.range_succ, List.map_append, ← hca, ← hcb]; rfl)
            rw [hca, hcb] at hcv
            clear hca hcb
            obtain ⟨wa, hwa⟩ : ∃ W, wr.alloc (.cells #[.int .u8 200, .int .u8 (k : Int)] tByte) = W := ⟨_, rfl⟩
            rw [hwa] at b1 hcv
            have b2 : ∀ c, Below wa.heap.size wa (wa.alloc c) := fun c => (Below.refl _ _).alloc (Nat.le_refl _) c
            have HI := Lib.hid (And.intro hown (And.intro hb b1))
            have hlen : (Em.lastL k).length ≤ 1000000 := by unfold Em.lastL; simp; omega
            clear hown hb b1
            go_wp2_with (at_builtin; go_loud (refine wpList_append_chg rfl (.tmp 83) (.tmp 89) rfl W0.heap.size _ (Em.lastL k) ⟨[ca, cb], [], false⟩ rfl ((HI.out.1.later HI.out.2.2).later (b2 _)) wa.heap.size 1 rfl (heap_alloc_last wa _) hlen (by have := HI.out.2.1.size; have := HI.out.2.2.size; simp; omega) ((HI.out.2.1.trans (HI.out.2.2.mono HI.out.2.1.size)).trans ((b2 _).mono (Nat.le_trans HI.out.2.1.size HI.out.2.2.size))) ?_); intro v' w' h1 h2)
            go_roundg (n - (k + 1))
            case measure => omega
            case rel => exact ⟨k + 1, by go_num, by omega, by rw [HC.out]; exact h1.out, h2.out⟩
          · obtain rfl : k = n := by omega
            have k1 : ¬ (k : Int) < (k : Int) := by omega
            have CC := Lib.hid (commit_c (log_below HE.out.1 hb) HE.out.2.2 hown.at (by unfold Em.lastL; simp; omega) (by
              intro c hc
              unfold Em.lastL at hc
              obtain ⟨j, _, rfl⟩ := List.mem_map.1 hc
              exact ⟨by show 2 ≤ _; decide, by show 0 ≤ _; decide⟩))
            have HB := Lib.hid (below_more HE.out.2.1 hb)
            clear hown hb
            generalize Em.E.commit E (Em.lastL k) = R1 at *
            go_wp2_with (first
              | (go_at_call 11; refine CC.out.mono ?_; rintro e w3 ⟨rfl, m3, x3⟩
                 have B3 := below_plm HB.out m3 H2.out.2 H1.out.2.1 H1.out.2.2
                 have WC := Lib.hid (works19_c w3)
                 clear m3 x3)
              | (go_at_call 12; refine (num19_c _ _).mono ?_; rintro e w' ⟨rfl, rfl⟩)
              | (go_at_call 8; refine WC.out.mono ?_; rintro e w4 ⟨rfl, b4⟩))
            go_ret
            exact ⟨rfl, below_more B3 b4⟩

end Go.Proofs.YtgffifleflkjoaaGreat
