/-
  DiskCrashes: the calls, and what crashes leave.
-/
import Derived.Test.YtiefhmbpaoecfaaG26

namespace Go.Proofs.Ytiefhmbpaoecfaa
open Go.RowKit Dm

def CrashesRel (w : World) (p m gw : Nat) (l : List ActM) (n : Nat) (g : Nat) (s5 s7 s8 s11 : Value) (wr : World) : Prop :=
  ∃ k : Nat, s5 = .pointer (some ⟨p, 0, none⟩) ∧ s11 = .int .i64 (k : Int) ∧ g + k = n ∧ CMem w wr p m gw (csAt l k).d (csAt l k).lasts (csAt l k).was s7 s8

theorem cmem_start {w w1 w2 w3 w4 : World} {p m m' : Nat} {C : Array Value} (hb1 : Below w.heap.size w w1) (hp : w.heap.size ≤ p) (hm : w.heap.size ≤ m) (x1 : DiskAt w1.heap p m (Dm.new 8 600) (fun k => k < w1.heap.size ∧ k ≠ p ∧ k ≠ m))
    (hb2 : Below w1.heap.size w1 w2) (hm' : w1.heap.size ≤ m') (x2 : DiskAt w2.heap w1.heap.size m' (Dm.new 8 600) (CopyF (fun k => k < w1.heap.size ∧ k ≠ p ∧ k ≠ m) w1 w2 w1.heap.size m')) (hb3 : Below w2.heap.size w2 w3)
    (hr : RefAt w3.heap (plus (fun k => k < w1.heap.size ∧ k ≠ p ∧ k ≠ m) w2 w3) (.agg C) (Dm.new 8 600)) (hC : C.size = 10) (hb4 : Below w3.heap.size w3 w4) (r4 : w4.heap[w3.heap.size]? = some (.cells C tRDisk (0, 0))) :
    CMem w w4 p m w3.heap.size (Dm.new 8 600) (Dm.new 8 600) [] (.pointer (some ⟨w1.heap.size, 0, none⟩)) (.slice none 0 0) := by
  have z1 := hb1.size
  have z2 := hb2.size
  have z3 := hb3.size
  have z4 := hb4.size
  have l1 := x1.lt
  have l2 := x2.lt
  have l4 := lt_of_row r4
  have hb24 : Below w2.heap.size w2 w4 := hb3.trans (hb4.mono z3)
  have hb14 : Below w1.heap.size w1 w4 := hb2.trans (hb24.mono z2)
  refine ⟨hb1.trans (hb14.mono z1), ⟨hp, hm, by omega, l4, by omega, by omega⟩, ⟨fun k => (k < w1.heap.size ∧ k ≠ p ∧ k ≠ m) ∨ (w2.heap.size ≤ k ∧ k < w3.heap.size), C, ?_, r4, ?_, hC, fun k hk => ⟨by omega, fun ho => ?_⟩⟩, ⟨w1.heap.size, rfl, m', _, x2.below hb24, fun k hk => ?_⟩, ⟨[], rfl, ⟨rfl, Or.inl ⟨rfl, rfl⟩⟩, fun i q e h1 _ => by simp at h1⟩, fun k hk => by cases hk⟩
  · exact (x1.below hb14).weak (fun k hk hl => Or.inl hk) (by omega) (by omega)
  · exact hr.keeps (fun k hk hl => hb4.block k hl) (fun k hk hl => hk)
  · rcases ho with e | e | e | e
    · omega
    · omega
    · omega
    · cases e
  · have hO : ∀ j, Ow p m w3.heap.size (.slice none 0 0) j → j = p ∨ j = m ∨ j = w3.heap.size := fun j hj => by
      rcases hj with e | e | e | e
      · exact Or.inl e
      · exact Or.inr (Or.inl e)
      · exact Or.inr (Or.inr e)
      · cases e
    have key : k < w2.heap.size ∧ k ≠ p ∧ k ≠ m := by
      rcases hk with e | e | e
      · omega
      · omega
      · rcases e with e | e <;> omega
    exact ⟨by omega, fun ho => by have := hO k ho; omega⟩

def SecsRel (xs : CS) (c : Crash) (W : World) (g : Nat) (s21 s22 : Value) (wx : World) : Prop := ∃ s : Nat, s22 = .int .i64 (s : Int) ∧ g + s = 8 ∧ s21 = .int .i64 ((xs.tornN c s : Nat) : Int) ∧ Below W.heap.size W wx
def HoldRel (xs : CS) (b : List UInt8) (s : Int) (n : Nat) (W : World) (g : Nat) (s25 s26 : Value) (wx : World) : Prop := ∃ j : Nat, s26 = .int .i64 (j : Int) ∧ g + j = n ∧ s25 = .bool (xs.knownS b s j) ∧ Below W.heap.size W wx
def TapeRel (W : World) (g : Nat) (s27 : Value) (wx : World) : Prop := ∃ s : Nat, s27 = .int .i64 (s : Int) ∧ g + s = 4 ∧ Below W.heap.size W wx
def BegRel (xs : CS) (b : List UInt8) (s : Int) (n : Nat) (W : World) (g : Nat) (s30 s31 : Value) (wx : World) : Prop := ∃ j : Nat, s31 = .int .i64 (j : Int) ∧ g + j = n ∧ s30 = .bool (xs.knownT b s j) ∧ Below W.heap.size W wx

set_option maxRecDepth 100000 in
set_option maxHeartbeats 16000000 in
theorem crashes_few {v kv : Value} {l : List ActM} {c : Crash} {w : World} (hv : ActsAt w.heap v l) (hk : BoolsAt w.heap kv c.keep) (hf : fewB l 30 = true) (hkl : c.keep.length ≤ 40)
    (ht0 : -9223372036854775808 ≤ c.torn) (ht1 : c.torn ≤ 9223372036854775807) (hp0 : -9223372036854775808 ≤ c.part) (hp1 : c.part ≤ 9223372036854775807) :
    Calls Try.prog 3 #[v, .agg #[kv, .int .i64 c.torn, .int .i64 c.part]] w fun e w' => e = .returned (.bool true) ∧ Below w.heap.size w w' := by
  obtain ⟨ka, kcap, rfl⟩ := hk.slice
  obtain ⟨va, vcap, rfl⟩ := hv.slice
  obtain ⟨hsm, hl30⟩ := fewB_small hf
  have hl30' : l.length ≤ 30 := by omega
  have hb0 : Below w.heap.size w (w.alloc (.cells #[.slice ka c.keep.length kcap, .int .i64 c.torn, .int .i64 c.part] tCrash)) := (Below.refl _ _).alloc (Nat.le_refl _) _
  have rb0 : (w.alloc (.cells #[.slice ka c.keep.length kcap, .int .i64 c.torn, .int .i64 c.part] tCrash)).heap[w.heap.size]? = some (.cells #[.slice ka c.keep.length kcap, .int .i64 c.torn, .int .i64 c.part] tCrash (0, 0)) := heap_alloc_last w _
  have kb0 : (w.alloc (.cells #[.slice ka c.keep.length kcap, .int .i64 c.torn, .int .i64 c.part] tCrash)).cell? ⟨w.heap.size, 0, none⟩ = some (.slice ka c.keep.length kcap) := row_cell rb0 rfl
  obtain ⟨W0, hW0⟩ : ∃ W0, w.alloc (.cells #[.slice ka c.keep.length kcap, .int .i64 c.torn, .int .i64 c.part] tCrash) = W0 := ⟨_, rfl⟩
  rw [hW0] at hb0 rb0 kb0
  have FW := Lib.hid (few_c (hv.keeps (fun k hl => hb0.block k hl)) 30 (by omega))
  rw [hf] at FW
  have NW := Lib.hid (new_c 8 600 W0 rfl)
  have IN := Lib.hid (And.intro hv (And.intro hk (And.intro hsm (And.intro hb0 rb0))))
  have BD := Lib.hid (And.intro (And.intro ht0 ht1) (And.intro hp0 hp1))
  have hkk1 : ¬ (40 : Int) < (c.keep.length : Int) := by omega
  generalize hkn : c.keep.length = kn at *
  have KN := Lib.hid hkn
  generalize hn : l.length = n at *
  have HN := Lib.hid hn
  clear hv hk hsm hb0 rb0 hkn hn ht0 ht1 hp0 hp1 hf hl30
  go_enter Try.func3, Try.ntmps3
  go_upto_region 1 with fail
  clear hW0
  go_upto_region 4 with (first
    | (go_at_call 6; refine FW.out.mono ?_; rintro e w' ⟨rfl, rfl⟩)
    | (go_at_call 8; refine NW.out.mono ?_; rintro e w1 ⟨p, m, rfl, hb1, hp, hm, x1⟩))
  clear kb0 FW NW
  have lx := x1.lt
  have x1' := x1.weak (F' := fun k => k < w1.heap.size ∧ k ≠ p ∧ k ≠ m) (fun k hk hl => ⟨hl, hk.2⟩) (fun h => h.2.1 rfl) (fun h => h.2.2 rfl)
  have CP := Lib.hid (copy_c x1')
  have X1 := Lib.hid (And.intro hb1 (And.intro hp (And.intro hm x1')))
  clear hb1 hp hm x1 x1' lx
  go_upto_region 8 with (first
    | (go_at_call 9; refine (num_c _ _).mono ?_; rintro e w' ⟨rfl, rfl⟩)
    | (go_at_call 10; refine CP.out.mono ?_; rintro e w2 ⟨m', rfl, hb2, hm', x2⟩))
  have RN := Lib.hid (rnew_c 8 600 w2 (fun k => k < w1.heap.size ∧ k ≠ p ∧ k ≠ m) rfl)
  have X2 := Lib.hid (And.intro hb2 (And.intro hm' x2))
  clear hb2 hm' x2 CP
  go_upto_region 9 with (first
    | (go_at_call 11; refine RN.out.mono ?_; rintro e w3 ⟨v3, rfl, hb3, hr3⟩
       obtain ⟨sv3, u0, u1, u2, u3, wv3, ev, rb3, st3⟩ := id hr3
       subst ev
       have R3 := Lib.hid (And.intro hb3 (And.intro (ref_ones rb3 st3) hr3))
       clear hb3 rb3 st3 hr3)
    | (refine wpList_store_abs rfl tRDisk (.tmp 9) (.tmp 53) rfl w3.heap.size _ rfl rfl tRDisk ref0 (heap_alloc_last w3 _) infoRD rfl (R3.out.2.1 _ _ _ _) ?_
       intro w4 HW4 HM4 HS4
       have hb4 : Below w3.heap.size w3 w4 := Moves.new ((Below.refl _ _).alloc (Nat.le_refl _) _) HM4 (Nat.le_refl _)))
  have cm0 := cmem_start X1.out.1 X1.out.2.1 X1.out.2.2.1 X1.out.2.2.2 X2.out.1 X2.out.2.1 X2.out.2.2 R3.out.1 R3.out.2.2 rfl hb4 HW4.out
  have CM0 := Lib.hid cm0
  clear cm0 R3 X2 X1 HM4 HS4 HW4 hb4 RN
  generalize w3.heap.size = gw at *
  generalize (some ⟨w1.heap.size, 0, none⟩ : Option Addr) = q0 at *
  generalize (refC _ _ sv3 u0 u1 u2 u3 wv3 _ _) = C3
  go_wp2
  go_loopg [5, 7, 8, 11] n (CrashesRel W0 p m gw l n)
  case atStart => exact ⟨0, rfl, rfl, rfl, CM0.out⟩
  case round =>
    obtain ⟨k, rfl, rfl, hg, cm⟩ := hrel
    by_cases hlt : k < n
    · have hkl : k < l.length := by rw [HN.out]; exact hlt
      obtain ⟨y, hy⟩ : ∃ y, l[k]? = some y := ⟨_, List.getElem?_eq_getElem hkl⟩
      obtain ⟨b, o, cap, bv, ykv, ev, hblt, rng, hbv, hykv, yok⟩ := IN.out.1.row hy
      obtain ⟨rfl, hx1, hx2⟩ := Value.slice.inj ev
      clear hx1 hx2
      have hbW0 : b < W0.heap.size := by have := IN.out.2.2.2.1.size; omega
      have rng0 : W0.rangeAt b (o + k * 8) _ := fun j u hj => (IN.out.2.2.2.1.cell (p := ⟨b, o + k * 8 + j, none⟩) hblt).trans (rng j u hj)
      have rngr : wr.rangeAt b (o + k * 8) _ := fun j u hj => (cm.below.cell (p := ⟨b, o + k * 8 + j, none⟩) hbW0).trans (rng0 j u hj)
      have kw : wr.cell? ⟨b, o + k * 8, none⟩ = some (.int .i64 y.what) := rngr 0 _ rfl
      have hbl : y.b.length ≤ 1048576 := by
        have := IN.out.2.2.1 y (List.mem_of_getElem? hy)
        simp only [ActM.small, Bool.and_eq_true, decide_eq_true_eq] at this
        omega
      have hbvr : BytesIn wr.heap (fun _ => True) bv y.b := hbv.keeps (fun k _ hl => by rw [cm.below.block k (by have := IN.out.2.2.2.1.size; omega), IN.out.2.2.2.1.block k hl]) (fun _ h _ => h)
      have hk0 : (0 : Int) ≤ (k : Int) := by omega
      have hk1 : (k : Int) < (n : Int) := by omega
      have CM := Lib.hid (And.intro cm hg)
      have CW := Lib.hid (csAt_waits l k)
      have Y := Lib.hid (And.intro hy (And.intro rngr (And.intro hbvr (And.intro yok (And.intro hbl hbW0)))))
      clear cm hg rng rng0 rngr hbvr hbv hykv yok ev hy hbl
      by_cases h5 : y.what = 5
      · rw [h5] at kw
        have H5 := Lib.hid h5
        clear h5
        go_wp2
        go_roundg (n - (k + 1))
        case measure => have := CM.out.2; omega
        case rel =>
          refine ⟨k + 1, rfl, by go_num, by have := CM.out.2; omega, ?_⟩
          rw [csAt_succ Y.out.1]
          unfold CS.act
          rw [if_pos H5.out]
          exact CM.out.1
      · have h5b : (y.what == 5) = false := by simpa using h5
        have H5 := Lib.hid h5
        clear h5
        obtain ⟨F, C, x, rgw, hr, csz, hF⟩ := CM.out.1.disk
        have WT := Lib.hid (waits_c x)
        have AC := Lib.hid (act_c (w := wr.drew) x hr (by have := CW.out; omega) y Y.out.2.2.2.1 H5.out Y.out.2.2.1 Y.out.2.2.2.2.1 ykv)
        have G := Lib.hid (And.intro x (And.intro rgw (And.intro hr (And.intro csz hF))))
        have LD9 : Hid (∀ w', (∃ x : Wd (ActCls gw b wr), w' = x.world) → (Instr.loadAt tRDisk (.pointer (some ⟨gw, 0, none⟩))).run Try.prog w' = .ok (.agg C) w') := by
          rintro w' ⟨x, rfl⟩
          exact run_loadAt_row (x.ok.1.trans rgw) Try.underlying42 rfl (by rw [infoRD, csz])
        have LDA : Hid (∀ w', (∃ x : Wd (ActCls gw b wr), w' = x.world) → (Instr.loadAt tAct (.pointer (some ⟨b, o + k * 8, none⟩))).run Try.prog w' = .ok (.agg #[.int .i64 y.what, .int .i64 y.sec, .int .i64 y.n, bv, .bool y.raw, ykv, .int .i64 y.crash.torn, .int .i64 y.crash.part]) w') := by
          rintro w' ⟨x, rfl⟩
          exact run_loadAt_mid x.world b (o + k * 8) tAct [.int .i64 y.what, .int .i64 y.sec, .int .i64 y.n, bv, .bool y.raw, ykv, .int .i64 y.crash.torn, .int .i64 y.crash.part] _ (fun j v hj => by
            have := Y.out.2.1 j v hj
            unfold World.cell? at this ⊢
            rw [x.ok.2]
            exact this) Try.underlying46 rfl infoAct
        have ne : Nonempty (Wd (ActCls gw b wr)) := ⟨⟨wr, rfl, rfl⟩⟩
        clear x rgw hr csz hF
        go_upto_region 14 with (go_at_call 12; refine WT.out.mono ?_; rintro e w' ⟨rfl, rfl⟩)
        clear kw
        refine wp_region_hoist (fun w' => ∃ x : Wd (ActCls gw b wr), w' = x.world) [7, 8, 9, 10, 11, 12] (by kernel_rfl) ?_
        refine wpAnyI_reads [0, 1, 2, 3, 4, 5] 7 _ ⟨⟨_, (⟨rfl, rfl⟩ : ActCls gw b wr wr.drew)⟩, rfl⟩ (by kernel_rfl) ?_
        simp only [List.filterMap_cons, List.filterMap_nil, List.getElem?_toArray, List.getElem?_cons_succ, List.getElem?_cons_zero]
        refine wpHoist_step (fun K hK => ?_); simp only [hoists, sameUpon]; go_simp; refine hK _ ?_; clear hK K
        refine wpHoist_load_run rfl tRDisk (.tmp 9) rfl _ LD9.out ?_
        refine wpHoist_step (fun K hK => ?_); simp only [hoists, sameUpon]; go_simp; refine hK _ ?_; clear hK K
        refine wpHoist_step (fun K hK => ?_); simp only [hoists, sameUpon]; go_simp; refine hK _ ?_; clear hK K
        refine wpHoist_step (fun K hK => ?_); simp only [hoists, sameUpon]; go_simp; refine hK _ ?_; clear hK K
        refine wpHoist_load_run rfl tAct (.tmp 74) rfl _ LDA.out ?_
        refine wpHoist_nil ?_
        refine wpAnyI_one 6 6 _ _ rfl (by kernel_rfl) ?_
        refine wpList_plain rfl fun K hK => ?_
        go_simp
        go_at_call 13
        refine AC.out.mono ?_
        rintro e w5 ⟨v5, F5, rfl, mv5', x5, hr5, hF5⟩
        have mv5 : Moves (fun k => k = p ∨ k = m) wr w5 := ⟨mv5'.os, mv5'.tape, mv5'.output, mv5'.size, mv5'.block⟩
        clear mv5'
        obtain ⟨sv5, y0, y1, y2, y3, wv5, ev, rb5, st5⟩ := id hr5
        subst ev
        have on5 := ref_ones rb5 st5
        have lt0 := G.out.1.lt
        have cl5 : ActCls gw b wr w5 := ⟨mv5.block gw CM.out.1.new.2.2.2.1 (by have := CM.out.1.new; omega), mv5.block b (by have := Y.out.2.2.2.2.2; have := CM.out.1.below.size; omega) (by have := Y.out.2.2.2.2.2; have := CM.out.1.new; omega)⟩
        have A5 := Lib.hid (And.intro mv5 (And.intro x5 (And.intro hr5 (And.intro hF5 (And.intro on5 cl5)))))
        clear mv5 x5 hr5 hF5 rb5 st5 on5 lt0
        refine hK _ _ (wpList_nil ⟨rfl, fun _ => ⟨⟨_, cl5⟩, rfl⟩, ?_⟩)
        clear hK K
        clear cl5
        refine wpAnyI_pure [7, 8, 9, 10, 11] 1 _ (by kernel_rfl) ?_
        simp only [List.filterMap_cons, List.filterMap_nil, List.getElem?_toArray, List.getElem?_cons_succ, List.getElem?_cons_zero]
        repeat (refine wpHoist_step (fun K hK => ?_); simp only [hoists, sameUpon]; go_simp; refine hK _ ?_; clear hK K)
        refine wpHoist_nil ?_
        refine wpAnyI_one 12 0 _ _ rfl (by kernel_rfl) ?_
        refine wpList_store_abs rfl tRDisk (.tmp 9) (.tmp 78) rfl gw _ rfl rfl tRDisk C (A5.out.2.2.2.2.2.1.trans G.out.2.1) infoRD (by rw [G.out.2.2.2.1]; rfl) (A5.out.2.2.2.2.1 _ _ _ _) ?_
        intro w6 HW6 HM6 HS6
        have cm6 := CM.out.1.acted G.out.2.2.2.2 A5.out.1 A5.out.2.1 A5.out.2.2.1 A5.out.2.2.2.1 HM6 HS6 HW6.out rfl
        refine wpList_nil ⟨rfl, fun h => absurd (by decide) h, by kernel_rfl, ?_⟩
        have NX : csAt l (k + 1) = (csAt l k).next (actD (csAt l k).d y) := by
          rw [csAt_succ Y.out.1]
          unfold CS.act
          rw [if_neg H5.out]
        have NX := Lib.hid NX
        clear HW6 HM6 HS6 LD9 LDA WT AC ne
        obtain ⟨F6, C6, x6, r6, hr6, cs6, hF6⟩ := cm6.disk
        have W6 := Lib.hid (waits_c x6)
        have CP := Lib.hid (copy_c x6)
        have wle := act_waits (csAt l k).d y
        generalize hd' : actD (csAt l k).d y = d' at *
        have D6 := Lib.hid (And.intro cm6 (And.intro x6 hF6))
        clear hd' cm6 x6 r6 hr6 cs6 hF6 G A5
        have N0 := CW.out
        generalize hn0 : (csAt l k).d.waits.length = n0 at *
        generalize hn1 : d'.waits.length = n1 at *
        have HNN := Lib.hid (And.intro hn0 hn1)
        clear hn0 hn1
        by_cases e0 : n1 = 0
        · subst e0
          go_upto_region 15 with fail
          go_wp2_with (first
            | (go_at_call 12; refine W6.out.mono ?_; rintro e w' ⟨rfl, rfl⟩)
            | (go_at_call 10; refine CP.out.mono ?_; rintro e w7 ⟨m7, rfl, hb7, hm7, x7⟩))
          have cm7 := Lib.hid (D6.out.1.synced D6.out.2.1 D6.out.2.2 hb7 hm7 x7)
          clear hb7 hm7 x7
          go_roundg (n - (k + 1))
          case measure => have := CM.out.2; omega
          case rel =>
            refine ⟨k + 1, rfl, by go_num, by have := CM.out.2; omega, ?_⟩
            rw [NX.out]
            unfold CS.next
            rw [if_pos HNN.out.2]
            exact cm7.out
        · have hne : ((n1 : Int) == 0) = false := by simpa using e0
          by_cases e1 : n0 < n1
          · have hgt : (n0 : Int) < (n1 : Int) := by omega
            obtain ⟨qs, hq, ro, hqs⟩ := D6.out.1.was
            have RO := Lib.hid (And.intro hq (And.intro ro hqs))
            have hql : qs.length ≤ 30 := by rw [hq, (csAt_inv l k).len, HNN.out.1]; omega
            clear hq ro hqs
            go_upto_region 15 with fail
            go_wp2_with (first
              | (go_at_call 12; refine W6.out.mono ?_; rintro e w' ⟨rfl, rfl⟩)
              | (go_at_call 10; refine CP.out.mono ?_; rintro e w7 ⟨m7, rfl, hb7, hm7, x7⟩
                 have ro7 := owns_below (owns_below RO.out.2.1 hb7 (Nat.le_refl _)) ((Below.refl _ w7).alloc (Nat.le_refl _) (.cells #[.pointer (some ⟨w6.heap.size, 0, none⟩)] tPtr)) (Nat.le_refl _)
                 have B7 := Lib.hid (And.intro hb7 (And.intro hm7 (And.intro x7 ro7)))
                 clear hb7 hm7 x7 ro7)
              | (refine wpList_append_where rfl (.tmp 91) (.tmp 94) 34 rfl W0.heap.size tPtr (.pointer none) 1 8 Try.underlying34 infoPtr rfl (by decide) u8 qs.length (qs.map ptrv) rfl B7.out.2.2.2 ⟨w7.heap.size, 0, none⟩ 1 1 [ptrv w6.heap.size] rfl rfl (fun j u hj => by
                    cases j with
                    | zero => cases hj; rw [addr_add]; exact row_cell (c := #[ptrv w6.heap.size]) (heap_alloc_last w7 _) rfl
                    | succ j => simp at hj) (fun u hu => by obtain rfl := List.mem_singleton.1 hu; rfl) (by unfold maxLen; omega) (by omega) (by have := B7.out.1.size; have := D6.out.1.below.size; simp; omega) ?_
                 intro v8 w8 ro8 hg8 hw8))
            have cm8 := Lib.hid (D6.out.1.pushed D6.out.2.1 D6.out.2.2 B7.out.1 B7.out.2.1 B7.out.2.2.1 ((Below.refl _ w7).alloc (Nat.le_refl _) _) RO.out.1 RO.out.2.2 ro8.out hg8.out hw8.out)
            clear ro8 hg8 hw8
            go_roundg (n - (k + 1))
            case measure => have := CM.out.2; omega
            case rel =>
              refine ⟨k + 1, rfl, by go_num, by have := CM.out.2; omega, ?_⟩
              rw [NX.out]
              unfold CS.next
              rw [if_neg (by rw [HNN.out.2]; exact e0), if_pos (by rw [HNN.out.1, HNN.out.2]; exact e1)]
              exact cm8.out
          · have hgt : ¬ (n0 : Int) < (n1 : Int) := by omega
            go_upto_region 15 with fail
            go_wp2_with (go_at_call 12; refine W6.out.mono ?_; rintro e w' ⟨rfl, rfl⟩)
            go_roundg (n - (k + 1))
            case measure => have := CM.out.2; omega
            case rel =>
              refine ⟨k + 1, rfl, by go_num, by have := CM.out.2; omega, ?_⟩
              rw [NX.out]
              unfold CS.next
              rw [if_neg (by rw [HNN.out.2]; exact e0), if_neg (by rw [HNN.out.1, HNN.out.2]; exact e1)]
              exact D6.out.1
    · obtain rfl : k = n := by omega
      have ci := csAt_inv l k
      have cw := csAt_waits l k
      generalize csAt l k = xs at *
      obtain ⟨wa, wcap, rfl, ce⟩ := cm.cend ci
      obtain ⟨q, mq, G, rfl, xl⟩ := ce.lasts
      obtain ⟨mp, F, xd⟩ := ce.disk
      have rbx : wr.heap[w.heap.size]? = some (.cells #[.slice ka kn kcap, .int .i64 c.torn, .int .i64 c.part] tCrash (0, 0)) := (ce.below.block _ (lt_of_row IN.out.2.2.2.2)).trans IN.out.2.2.2.2
      have bkr : BoolsAt wr.heap (.slice ka kn kcap) c.keep := IN.out.2.1.keeps (fun k hl => by rw [ce.below.block k (by have := IN.out.2.2.2.1.size; omega), IN.out.2.2.2.1.block k hl])
      have hwl : xs.d.waits.length ≤ 1000000000000 := by omega
      have hlw : xs.was.length ≤ 1000 := by rw [ci.len]; omega
      have CE := Lib.hid (And.intro ce (And.intro xd (And.intro xl (And.intro rbx (And.intro bkr hwl)))))
      clear cm hg ce xd xl rbx bkr hwl ci CM0 cw
      have C1 := Lib.hid (crash_c CE.out.2.1 cNone (kv := .slice none 0 0) (Or.inl ⟨⟨_, _, rfl⟩, rfl⟩) (by decide) (by decide) (by decide) (by decide) CE.out.2.2.2.2.2)
      generalize hwn : xs.was.length = wn at *
      have HWN := Lib.hid hwn
      clear hwn
      go_upto_region 20 with (go_at_call 14; refine C1.out.mono ?_; rintro e wa1 ⟨p1, m1, F1, rfl, hb1, hp1, hm1, x1, hF1⟩)
      have hbT : Below wa1.heap.size wa1 (wa1.alloc (.cells #[.bool true] 4)) := (Below.refl _ _).alloc (Nat.le_refl _) _
      have C2 := Lib.hid (crash_c (w := wa1.alloc (.cells #[.bool true] 4)) (CE.out.2.1.below (hb1.trans (hbT.mono hb1.size))) cAll (kv := .slice (some ⟨wa1.heap.size, 0, none⟩) 1 1) (Or.inr ⟨wa1.heap.size, 0, 1, #[.bool true], 4, (0, 0), rfl, heap_alloc_last wa1 _, fun i y hi => by
        cases i with
        | zero => cases hi; rfl
        | succ i => simp [cAll] at hi⟩) (by decide) (by decide) (by decide) (by decide) CE.out.2.2.2.2.2)
      have Y1 := Lib.hid (And.intro (hb1.trans (hbT.mono hb1.size)) (x1.below hbT))
      clear C1 hb1 hp1 hm1 x1 hF1 hbT
      go_upto_region 21 with (go_at_call 14; refine C2.out.mono ?_; rintro e wa2 ⟨p2, m2, F2, rfl, hb2, hp2, hm2, x2, hF2⟩)
      have hb02 := Y1.out.1.trans (hb2.mono Y1.out.1.size)
      have C3 := Lib.hid (crash_c (w := wa2) (CE.out.2.1.below hb02) c (CE.out.2.2.2.2.1.keeps (fun k hl => hb02.block k hl)) BD.out.1.1 BD.out.1.2 BD.out.2.1 BD.out.2.2 CE.out.2.2.2.2.2)
      have rb2 := (hb02.block _ (lt_of_row CE.out.2.2.2.1)).trans CE.out.2.2.2.1
      have Y2 := Lib.hid (And.intro hb02 (And.intro (Y1.out.2.below hb2) (And.intro x2 rb2)))
      clear C2 Y1 hb2 hp2 hm2 x2 hF2 hb02 rb2
      go_upto_region 22 with (first
        | (refine wpList_load_row rfl tCrash (.tmp 3) rfl w.heap.size rfl tCrash _ (0, 0) _ Y2.out.2.2.2 Try.underlying25 rfl (by kernel_rfl) ?_)
        | (go_at_call 14; refine C3.out.mono ?_; rintro e wa3 ⟨p3, m3, F3, rfl, hb3, hp3, hm3, x3, hF3⟩))
      have hb03 := Y2.out.1.trans (hb3.mono Y2.out.1.size)
      have N3 := Y2.out.2.1.below hb3
      have A3 := Y2.out.2.2.1.below hb3
      have L3 := CE.out.2.2.1.below hb03
      have D3 := CE.out.2.1.below hb03
      have inv := CE.out.1.inv
      have S1 := Lib.hid (stands_law_c N3 L3 inv.many inv.lmany (fun n _ => by rw [crash_none_stand, inv.stand]) (fun n _ => by rw [crash_none_stand, inv.stand]))
      have S2 := Lib.hid (fun (W : World) (hb : Below wa3.heap.size wa3 W) => stands_law_c (A3.below hb) (D3.below hb) inv.many inv.many (fun n _ => by rw [crash_all_stand]) (fun n _ => by rw [crash_all_stand]))
      have T3 := Lib.hid (fun (W : World) (hb : Below wa3.heap.size wa3 W) => (waits_c (x3.below hb)).mono (R' := fun e w' => e = .returned (.int .i64 0) ∧ W = w') (fun e w' h => h))
      have E3 := Lib.hid (fun (W : World) (hb : Below wa3.heap.size wa3 W) => (dead_c (x3.below hb)).mono (R' := fun e w' => e = .returned (.bool false) ∧ W = w') (fun e w' h => h))
      have rb3 := (hb03.block _ (lt_of_row CE.out.2.2.2.1)).trans CE.out.2.2.2.1
      have Y3 := Lib.hid (And.intro hb03 (And.intro x3 rb3))
      clear Y2 C3 hb3 hp3 hm3 x3 hF3 hb03 N3 A3 L3 D3 inv rb3
      go_upto_region 24 with (first
        | (go_at_call 9; refine (num_c _ _).mono ?_; rintro e w' ⟨rfl, rfl⟩)
        | (go_at_call 15; refine S1.out.mono ?_; rintro e wa4 ⟨rfl, hb4⟩
           have S2b := Lib.hid (S2.out wa4 hb4)
           have B4 := Lib.hid hb4
           clear S1 S2 hb4)
        | (go_at_call 15; refine S2b.out.mono ?_; rintro e wa5 ⟨rfl, hb5⟩
           have B5 := Lib.hid (B4.out.trans (hb5.mono B4.out.size))
           have T5 := Lib.hid (T3.out wa5 B5.out)
           have E5 := Lib.hid (E3.out wa5 B5.out)
           clear S2b B4 hb5 T3 E3)
        | (go_at_call 12; refine T5.out.mono ?_; rintro e w' ⟨rfl, rfl⟩)
        | (go_at_call 16; refine E5.out.mono ?_; rintro e w' ⟨rfl, rfl⟩))
      clear T5 E5
      have hb05 := Y3.out.1.trans (B5.out.mono Y3.out.1.size)
      have C6 := Lib.hid (crash_c (w := wa5) (Y3.out.2.1.below B5.out) c (CE.out.2.2.2.2.1.keeps (fun k hl => hb05.block k hl)) BD.out.1.1 BD.out.1.2 BD.out.2.1 BD.out.2.2 (Nat.zero_le _))
      have rb5 := (hb05.block _ (lt_of_row CE.out.2.2.2.1)).trans CE.out.2.2.2.1
      have Y5 := Lib.hid (And.intro hb05 (And.intro (Y3.out.2.1.below B5.out) rb5))
      clear Y3 B5 hb05 rb5
      go_upto_region 25 with (first
        | (refine wpList_load_row rfl tCrash (.tmp 3) rfl w.heap.size rfl tCrash _ (0, 0) _ Y5.out.2.2 Try.underlying25 rfl (by kernel_rfl) ?_)
        | (go_at_call 14; refine C6.out.mono ?_; rintro e wa6 ⟨p6, m6, F6, rfl, hb6, hp6, hm6, x6, hF6⟩))
      have S6 := Lib.hid (stands_law_c x6 (Y5.out.2.1.below hb6) CE.out.1.inv.many CE.out.1.inv.many (fun n _ => by rw [crash_again]) (fun n _ => by rw [crash_again]))
      have Y6 := Lib.hid (And.intro (Y5.out.1.trans (hb6.mono Y5.out.1.size)) (Y5.out.2.1.below hb6))
      clear Y5 C6 hb6 hp6 hm6 x6 hF6
      go_upto_region 28 with (first
        | (go_at_call 9; refine (num_c _ _).mono ?_; rintro e w' ⟨rfl, rfl⟩)
        | (go_at_call 15; refine S6.out.mono ?_; rintro e wa7 ⟨rfl, hb7⟩))
      have Y7 := Lib.hid (And.intro (Y6.out.1.trans (hb7.mono Y6.out.1.size)) (Y6.out.2.below hb7))
      clear Y6 S6 hb7
      go_wp2
      go_loopg [21, 22] 8 (SecsRel xs c wa7)
      case atStart => exact ⟨0, rfl, rfl, rfl, Below.refl _ _⟩
      case round =>
        obtain ⟨s, rfl, hgs, rfl, rels⟩ := hrel
        have hks0 : (0 : Int) ≤ (s : Int) := by omega
        by_cases hs8 : s < 8
        · have hks1 : (s : Int) < 8 := by omega
          have RD := Lib.hid (read_c (Y7.out.2.below rels) (s : Int))
          rw [show (xs.d.crash c).many = 8 from CE.out.1.inv.many, if_neg (by omega), if_neg (by omega)] at RD
          have LS := Lib.hid (CE.out.2.2.1.below (Y7.out.1.trans (rels.mono Y7.out.1.size)))
          have TS := Lib.hid (xs.tornN_succ c s)
          have tn0 : xs.tornN c s ≤ s := by
            have := List.length_filter_le (fun s : Nat => !xs.knownS ((xs.d.crash c).stand.sec (s : Int)) (s : Int) xs.was.length) (List.range s)
            simpa [CS.tornN] using this
          rw [HWN.out] at TS
          generalize (xs.d.crash c).stand.sec (s : Int) = bb at *
          generalize xs.tornN c s = tn at *
          have RS := Lib.hid (And.intro rels hgs)
          clear rels hgs
          go_upto_region 32 with (go_at_call 17; refine RD.out.mono ?_; rintro e wy ⟨v1, rfl, hby, f1⟩)
          obtain ⟨ra, rc, ev⟩ := f1.bytes.slice
          subst ev
          have HL := Lib.hid (holds_c (LS.out.below hby) (s : Int) hks0 (by rw [CE.out.1.inv.lmany]; exact hks1) f1.bytes)
          rw [show (xs.lasts.stand.sec (s : Int) == bb) = xs.knownS bb (s : Int) 0 by simp [CS.knownS]] at HL
          have FY := Lib.hid (And.intro hby f1)
          clear hby f1
          go_upto_region 33 with (go_at_call 18; refine HL.out.mono ?_; rintro e wz ⟨rfl, hbz⟩)
          have ZZ := Lib.hid hbz
          clear hbz HL RD
          go_wp2
          go_loopg [25, 26] wn (HoldRel xs bb (s : Int) wn wz)
          case atStart => exact ⟨0, rfl, rfl, rfl, Below.refl _ _⟩
          case round =>
            obtain ⟨j, rfl, hgj, rfl, relj⟩ := hrel
            have hkj0 : (0 : Int) ≤ (j : Int) := by omega
            have tot := FY.out.1.trans ((ZZ.out.trans (relj.mono ZZ.out.size)).mono FY.out.1.size)
            by_cases hjw : j < wn
            · have hkj1 : (j : Int) < (wn : Int) := by omega
              obtain ⟨e, he⟩ : ∃ e, xs.was[j]? = some e := ⟨_, List.getElem?_eq_getElem (by rw [HWN.out]; exact hjw)⟩
              obtain ⟨g, qj, mqj, Gj, rfl, hg, kq, xj⟩ := CE.out.1.was j e he
              have big := Y7.out.1.trans ((RS.out.1.trans (tot.mono RS.out.1.size)).mono Y7.out.1.size)
              have kq' := (big.cell (p := ⟨g, j, none⟩) hg).trans kq
              have HJ := Lib.hid (holds_c (xj.below big) (s : Int) hks0 (by rw [CE.out.1.inv.wmany e (List.mem_of_getElem? he)]; exact hks1) (FY.out.2.bytes.below (ZZ.out.trans (relj.mono ZZ.out.size))))
              have KS := Lib.hid (CS.knownS_succ xs bb (s : Int) he)
              have RJ := Lib.hid (And.intro relj hgj)
              clear relj hgj tot big kq xj he hg
              generalize e.stand.sec (s : Int) = es at *
              by_cases hb : xs.knownS bb (s : Int) j = true
              · go_wp2
                go_roundg (wn - (j + 1))
                case measure => have := RJ.out.2; omega
                case rel => exact ⟨j + 1, by go_num, by have := RJ.out.2; omega, by rw [KS.out, hb]; rfl, RJ.out.1⟩
              · have hb' : xs.knownS bb (s : Int) j = false := by simpa using hb
                clear hb
                go_wp2_with (go_at_call 18; refine HJ.out.mono ?_; rintro e wv ⟨rfl, hbv⟩)
                go_roundg (wn - (j + 1))
                case measure => have := RJ.out.2; omega
                case rel => exact ⟨j + 1, by go_num, by have := RJ.out.2; omega, by rw [KS.out, hb']; rfl, RJ.out.1.trans (hbv.mono RJ.out.1.size)⟩
            · obtain rfl : j = wn := by omega
              have RJ := Lib.hid relj
              clear relj hgj tot
              by_cases hb : xs.knownS bb (s : Int) j = true
              · rw [hb] at TS
                go_wp2
                go_roundg (8 - (s + 1))
                case measure => have := RS.out.2; omega
                case rel => exact ⟨s + 1, by go_num, by have := RS.out.2; omega, by rw [TS.out]; rfl, RS.out.1.trans ((FY.out.1.trans ((ZZ.out.trans (RJ.out.mono ZZ.out.size)).mono FY.out.1.size)).mono RS.out.1.size)⟩
              · have hb' : xs.knownS bb (s : Int) j = false := by simpa using hb
                clear hb
                rw [hb'] at TS
                have htn : (tn : Int) ≤ 8 := by omega
                go_wp2
                go_roundg (8 - (s + 1))
                case measure => have := RS.out.2; omega
                case rel => exact ⟨s + 1, by go_num, by have := RS.out.2; omega, by rw [TS.out]; go_num, RS.out.1.trans ((FY.out.1.trans ((ZZ.out.trans (RJ.out.mono ZZ.out.size)).mono FY.out.1.size)).mono RS.out.1.size)⟩
        · obtain rfl : s = 8 := by omega
          have tle := CS.torn_le CE.out.1.inv c 8
          have tle1 : ((xs.tornN c 8 : Nat) : Int) ≤ 1 := by have : xs.tornN c 8 ≤ 1 := tle; omega
          have tle0 : (0 : Int) ≤ ((xs.tornN c 8 : Nat) : Int) := by omega
          generalize xs.tornN c 8 = tn at *
          obtain ⟨wb, ewb⟩ : ∃ wb, wb = wr := ⟨_, rfl⟩
          subst ewb
          have RB := Lib.hid (And.intro (Y7.out.1.trans (rels.mono Y7.out.1.size)) (Y7.out.2.below rels))
          clear rels hgs tle Y7
          go_wp2
          go_loopg [27] 4 (TapeRel wb)
          case atStart => exact ⟨0, rfl, rfl, Below.refl _ _⟩
          case round =>
            obtain ⟨s, rfl, hgs, rels⟩ := hrel
            have hks0 : (0 : Int) ≤ (s : Int) := by omega
            by_cases hs8 : s < 4
            · have hks1 : (s : Int) < 4 := by omega
              have RD := Lib.hid (tape_c (RB.out.2.below rels) (s : Int))
              rw [if_neg (by omega), if_neg (by omega)] at RD
              have LS := Lib.hid (CE.out.2.2.1.below (RB.out.1.trans (rels.mono RB.out.1.size)))
              have KT := Lib.hid (CS.tapes_known CE.out.1.inv CE.out.1.ok c (s : Int))
              rw [HWN.out] at KT
              have hbl : ((xs.d.crash c).stand.tp (s : Int)).length ≤ 1048576 := stand_len RB.out.2.ok s
              generalize (xs.d.crash c).stand.tp (s : Int) = bb at *
              have RS := Lib.hid (And.intro rels hgs)
              clear rels hgs
              go_upto_region 43 with (go_at_call 19; refine RD.out.mono ?_; rintro e wy ⟨v1, rfl, hby, f1⟩)
              obtain ⟨ra, rc, ev⟩ := f1.bytes.slice
              subst ev
              have HL := Lib.hid (begins_c (LS.out.below hby) (s : Int) hks0 (by omega) f1.bytes hbl)
              rw [show preB (xs.lasts.stand.tp (s : Int)) bb = xs.knownT bb (s : Int) 0 by simp [CS.knownT]] at HL
              have FY := Lib.hid (And.intro hby f1)
              clear hby f1
              go_upto_region 44 with (go_at_call 20; refine HL.out.mono ?_; rintro e wz ⟨rfl, hbz⟩)
              have ZZ := Lib.hid hbz
              clear hbz HL RD
              go_wp2
              go_loopg [30, 31] wn (BegRel xs bb (s : Int) wn wz)
              case atStart => exact ⟨0, rfl, rfl, rfl, Below.refl _ _⟩
              case round =>
                obtain ⟨j, rfl, hgj, rfl, relj⟩ := hrel
                have hkj0 : (0 : Int) ≤ (j : Int) := by omega
                have tot := FY.out.1.trans ((ZZ.out.trans (relj.mono ZZ.out.size)).mono FY.out.1.size)
                by_cases hjw : j < wn
                · have hkj1 : (j : Int) < (wn : Int) := by omega
                  obtain ⟨e, he⟩ : ∃ e, xs.was[j]? = some e := ⟨_, List.getElem?_eq_getElem (by rw [HWN.out]; exact hjw)⟩
                  obtain ⟨g, qj, mqj, Gj, rfl, hg, kq, xj⟩ := CE.out.1.was j e he
                  have big := RB.out.1.trans ((RS.out.1.trans (tot.mono RS.out.1.size)).mono RB.out.1.size)
                  have kq' := (big.cell (p := ⟨g, j, none⟩) hg).trans kq
                  have HJ := Lib.hid (begins_c (xj.below big) (s : Int) hks0 (by omega) (FY.out.2.bytes.below (ZZ.out.trans (relj.mono ZZ.out.size))) hbl)
                  have KS := Lib.hid (CS.knownT_succ xs bb (s : Int) he)
                  have RJ := Lib.hid (And.intro relj hgj)
                  clear relj hgj tot big kq xj he hg
                  generalize preB (e.stand.tp (s : Int)) bb = es at *
                  by_cases hb : xs.knownT bb (s : Int) j = true
                  · go_wp2
                    go_roundg (wn - (j + 1))
                    case measure => have := RJ.out.2; omega
                    case rel => exact ⟨j + 1, by go_num, by have := RJ.out.2; omega, by rw [KS.out, hb]; rfl, RJ.out.1⟩
                  · have hb' : xs.knownT bb (s : Int) j = false := by simpa using hb
                    clear hb
                    go_wp2_with (go_at_call 20; refine HJ.out.mono ?_; rintro e wv ⟨rfl, hbv⟩)
                    go_roundg (wn - (j + 1))
                    case measure => have := RJ.out.2; omega
                    case rel => exact ⟨j + 1, by go_num, by have := RJ.out.2; omega, by rw [KS.out, hb']; rfl, RJ.out.1.trans (hbv.mono RJ.out.1.size)⟩
                · obtain rfl : j = wn := by omega
                  have RJ := Lib.hid relj
                  have hb := KT.out
                  clear relj hgj tot
                  go_wp2
                  go_roundg (4 - (s + 1))
                  case measure => have := RS.out.2; omega
                  case rel => exact ⟨s + 1, by go_num, by have := RS.out.2; omega, RS.out.1.trans ((FY.out.1.trans ((ZZ.out.trans (RJ.out.mono ZZ.out.size)).mono FY.out.1.size)).mono RS.out.1.size)⟩
            · obtain rfl : s = 4 := by omega
              have RS := Lib.hid (RB.out.1.trans (rels.mono RB.out.1.size))
              have WK := Lib.hid (works_c wr)
              clear rels hgs
              go_wp2_with (go_at_call 7; refine WK.out.mono ?_; rintro e wq ⟨rfl, hbq⟩)
              go_ret
              have h1 := CE.out.1.below.trans (RS.out.mono CE.out.1.below.size)
              have h2 := h1.trans (hbq.mono h1.size)
              exact ⟨rfl, IN.out.2.2.2.1.trans (h2.mono IN.out.2.2.2.1.size)⟩

end Go.Proofs.Ytiefhmbpaoecfaa
