/-
  evlog: a head with its rows.
  New.
  Sync.
  evlog: steps on a disk, one after another, as long as none answers an error.
  A region that draws its order: operations that read no memory may be taken first, whatever else may come.
-/
import Derived.Test.YtgffifleflkjoaaGreatG02
import Derived.Test.YtgffifleflkjoaaGreatG08
import Derived.Test.YtgffifleflkjoaaGreatG09
import Derived.Test.YtgffifleflkjoaaGreatG12

namespace Go.Proofs.YtgffifleflkjoaaGreat
open Go.RowKit

theorem rowOf_take {D : Em.Rows} {ks : List (List UInt8)} {i : Nat} {k : List UInt8} (h : ks[i]? = some k) : (ks.take (i + 1)).flatMap (Em.rowOf D) = (ks.take i).flatMap (Em.rowOf D) ++ Em.rowOf D k := by
  rw [List.take_add_one, h]
  simp

theorem RowsV.sorted {w : World} {v : Value} {D : Em.Rows} (h : RowsV w v D) (hs : Maps.size D ≤ 1000000) : Calls Tryz.prog 44 #[v] w (SortedK w D) := by
  rcases h with ⟨rfl, rfl⟩ | ⟨m, n, rfl, h⟩
  · exact sortedNil_c w
  · exact sorted_c h hs

set_option maxRecDepth 100000 in
set_option maxHeartbeats 4000000 in
theorem folded_c {w : World} {v : Value} {D : Em.Rows} {gen : Nat} (h : RowsV w v D) (hD : Em.RowsOk D) (hs : Maps.size D ≤ 256) (hgen : gen ≤ 2147483647) : Calls Tryz.prog 70 #[.int .i64 gen, v] w (GivesB w (Em.folded gen D)) := by
  obtain ⟨mo, rfl⟩ : ∃ mo, v = .map mo := by rcases h with ⟨rfl, _⟩ | ⟨m, n, rfl, _⟩ <;> exact ⟨_, rfl⟩
  have eg1 := enters_of Tryz.func116 (by kernel_rfl) rfl
  have eg2 := enters_of Tryz.func118 (by kernel_rfl) rfl
  obtain ⟨W0, hW0⟩ : ∃ W0, (w.alloc (.cells #[.int .i64 gen] 2)).alloc (.cells #[.map mo] 66) = W0 := ⟨_, rfl⟩
  have z0 : W0.heap.size = w.heap.size + 2 := by rw [← hW0]; simp
  have B0 : Below w.heap.size w W0 := by rw [← hW0]; exact ((Below.refl _ _).alloc (Nat.le_refl _) _).alloc (by simp) _
  have k0 : W0.cell? ⟨w.heap.size, 0, none⟩ = some (.int .i64 gen) := by rw [← hW0]; exact row_cell (heap_past (by simp) (heap_alloc_last w _)) rfl
  have k1 : W0.cell? ⟨w.heap.size + 1, 0, none⟩ = some (.map mo) := by rw [← hW0]; exact row_cell (heap_at (w := w.alloc _) _ (by simp)) rfl
  have h0 := h.later B0
  have FC := Lib.hid (frame_c (w := W0) (fn := 116) (lb := #[.pointer (some ⟨w.heap.size, 0, none⟩), .pointer (some ⟨w.heap.size + 1, 0, none⟩)]) (body := Wm.wnum 1 ++ Wm.wnum gen ++ Wm.wnum (Maps.size D)) eg1
    (by have := (Em.wnum_len 1).1; have := (Em.wnum_len gen).1; have := (Em.wnum_len (Maps.size D)).1; rw [List.length_append, List.length_append]; omega)
    (fun W hb q1 => headIn_c q1 ((hb.cell (p := ⟨w.heap.size, 0, none⟩) (by simp; omega)).trans k0) ((hb.cell (p := ⟨w.heap.size + 1, 0, none⟩) (by simp; omega)).trans k1) (h0.later hb) (by omega) (by omega)))
  have H := Lib.hid (And.intro h0 (And.intro hD (And.intro hs (And.intro B0 (And.intro z0 k1)))))
  have EG := Lib.hid eg2
  have lens : ∀ i, (Em.framed (Wm.wnum 1 ++ Wm.wnum gen ++ Wm.wnum (Maps.size D)) ++ ((Em.skeys D).take i).flatMap (Em.rowOf D)).length ≤ 2300000 := fun i => by
    have h1 := Em.framed_len (Wm.wnum 1 ++ Wm.wnum gen ++ Wm.wnum (Maps.size D))
    have h2 := Em.flatMap_le (Em.rowOf D) 8205 ((Em.skeys D).take i) (fun k _ => Em.framed_len _)
    have h3 : ((Em.skeys D).take i).length * 8205 ≤ 256 * 8205 := Nat.mul_le_mul_right _ (by rw [List.length_take, Em.skeys_len]; omega)
    rw [List.length_append]
    omega
  have LN := Lib.hid lens
  have HF := Lib.hid (show Em.folded gen D = Em.framed (Wm.wnum 1 ++ Wm.wnum gen ++ Wm.wnum (Maps.size D)) ++ (Em.skeys D).flatMap (Em.rowOf D) from rfl)
  have HW0 := Lib.hid hW0
  clear h hD hs k0 k1 h0 eg1 eg2 lens B0
  have hmf : ∀ (fn : Fn) (first cap : Array Value) (w : World), (Instr.makeFunc fn first cap).run Tryz.prog w = .ok (.func fn first cap) w := fun _ _ _ _ => rfl
  generalize Em.framed (Wm.wnum 1 ++ Wm.wnum gen ++ Wm.wnum (Maps.size D)) = head at *
  go_enter Tryz.func70, Tryz.ntmps70
  go_wp2_with (first
    | (go_at_call 115; refine FC.out.mono ?_; rintro e w1 ⟨v1, rfl, o1, b1⟩
       have c1 : w1.cell? ⟨w.heap.size + 1, 0, none⟩ = some (.map mo) := (b1.cell (p := ⟨w.heap.size + 1, 0, none⟩) (by simp; have := H.out.2.2.2.2.1; omega)).trans H.out.2.2.2.2.2
       have SC := Lib.hid ((H.out.1.later b1).sorted (by have := H.out.2.2.1; omega))
       have H1 := Lib.hid (And.intro o1 b1)
       clear o1 b1)
    | (go_at_call 44; refine SC.out.mono ?_; rintro e w2 ⟨kv, rfl, y2, b2⟩
       obtain ⟨ka, kc, rfl⟩ := y2.slice
       have H2 := Lib.hid (And.intro y2 (And.intro b2 (H1.out.2.trans (b2.mono H1.out.2.size))))
       clear y2 b2))
  have hlen : (Em.skeys D).length ≤ 256 := by rw [Em.skeys_len]; exact H.out.2.2.1
  generalize hN : (Em.skeys D).length = N at *
  have HN := Lib.hid hN
  clear hN
  go_loopw [5, 7, 13] (fun x _ s wr => ∃ i : Nat, i ≤ N ∧ s = .int .i64 (i : Int) ∧ OwnB wr W0.heap.size x (head ++ ((Em.skeys D).take i).flatMap (Em.rowOf D)) ∧ KeysAt wr (.slice ka N kc) (Em.skeys D) ∧ Below W0.heap.size W0 wr) (fun _ _ s _ => N - (intOf s).toNat)
  case atStart => exact ⟨0, by omega, rfl, by simpa using owns_below H1.out.1 H2.out.2.1 (Nat.le_refl _), H2.out.1, H2.out.2.2⟩
  case round =>
    obtain ⟨i, hi, rfl, hown, hkeys, hb⟩ := hrel
    by_cases hlt : i < N
    · have i0 : (0 : Int) ≤ (i : Int) := by omega
      have i1 : (i : Int) < (N : Int) := by omega
      obtain ⟨k, hk⟩ : ∃ k, (Em.skeys D)[i]? = some k := ⟨_, List.getElem?_eq_getElem (by rw [HN.out]; exact hlt)⟩
      have kmem := Em.skeys_mem H.out.2.1 (List.mem_of_getElem? hk)
      obtain ⟨b, rfl, hc⟩ := hkeys.at hk
      obtain ⟨m, n, hmo, hmap⟩ : ∃ m n, mo = some m ∧ RowsIn W0 m n D := by
        rcases H.out.1 with ⟨_, h2⟩ | ⟨m, n, h1, h2⟩
        · rw [h2] at hk
          simp [Em.skeys, strKeys] at hk
        · cases h1
          exact ⟨m, n, rfl, h2⟩
      have lm := hmap.lt
      have FR := Lib.hid (frame_c (w := wr.alloc (.cells #[strOfB k] tStr)) (fn := 118) (lb := #[.pointer (some ⟨wr.heap.size, 0, none⟩), .pointer (some ⟨w.heap.size + 1, 0, none⟩)]) (body := Wm.wnum 2 ++ Wm.wtext k ++ Wm.wtext (Em.valueOf D k)) EG.out
        (by have := Em.rowBody_len H.out.2.1 kmem.2; omega)
        (fun W hbW q1 => rowIn_c q1 ((hbW.cell (p := ⟨wr.heap.size, 0, none⟩) (by simp)).trans (row_cell (heap_alloc_last wr _) rfl))
          ((((hb.trans ((Below.refl _ _).alloc hb.size _)).trans (hbW.mono (by simp; have := hb.size; omega))).cell (p := ⟨w.heap.size + 1, 0, none⟩) (by simp; omega)).trans (by rw [H.out.2.2.2.2.2, hmo]))
          (rows_below hmap ((hb.trans ((Below.refl _ _).alloc hb.size _)).trans (hbW.mono (by simp; have := hb.size; omega))) lm)
          (by simp) (by simp; have := hb.size; omega) (by simp; have := hb.size; omega) (by omega) H.out.2.1))
      have HT := Lib.hid (rowOf_take (D := D) hk)
      have HA := Lib.hid (And.intro hown (And.intro hkeys hb))
      clear hown hkeys hb hk kmem hmo hmap lm
      go_wp2_with (first
        | (go_at_call 115; refine FR.out.mono ?_; rintro e w3 ⟨v3, rfl, o3, b3⟩
           have H3 := Lib.hid (And.intro o3 (((Below.refl wr.heap.size wr).alloc (Nat.le_refl _) _).trans (b3.mono (by simp))))
           clear o3 b3)
        | (at_builtin; refine wpList_append_grow rfl (.tmp 17) (.tmp 19) rfl W0.heap.size _ (head ++ ((Em.skeys D).take i).flatMap (Em.rowOf D)) rfl (owns_below HA.out.1 H3.out.2 (Nat.le_refl _)) _ _ _ rfl H3.out.1.at (by have h1 := LN.out i; have h2 : (Em.framed (Wm.wnum 2 ++ Wm.wtext k ++ Wm.wtext (Em.valueOf D k))).length ≤ 8205 := Em.framed_len _; omega) (Nat.le_trans HA.out.2.2.size H3.out.2.size) ?_
           intro v4 w4 o4 g4
           have own3 := owns_below HA.out.1 H3.out.2 (Nat.le_refl _)
           have H4 := Lib.hid (And.intro o4.out (And.intro ((HA.out.2.1.later H3.out.2).adds own3 g4.out) ((HA.out.2.2.trans (H3.out.2.mono HA.out.2.2.size)).trans (g4.out.below own3 (Nat.le_trans HA.out.2.2.size H3.out.2.size)))))
           clear o4 g4 own3))
      go_roundw
      case rel => exact ⟨i + 1, by omega, by go_num, by rw [HT.out, ← List.append_assoc]; exact H4.out.1, H4.out.2.1, H4.out.2.2⟩
      case measure => simp [intOf]; omega
    · obtain rfl : i = N := by omega
      go_wp2
      go_ret
      rw [List.take_of_length_le (by rw [HN.out]; exact Nat.le_refl _), ← HF.out] at hown
      exact ⟨_, rfl, owns_below hown (Below.refl _ _) H.out.2.2.2.1.size, H.out.2.2.2.1.trans (hb.mono H.out.2.2.2.1.size)⟩

end Go.Proofs.YtgffifleflkjoaaGreat

namespace Go.Proofs.YtgffifleflkjoaaGreat
open Go.RowKit Dm

abbrev tStand : Nat := 91
abbrev slN : Value := .slice none 0 0

theorem new_bad (s b : Int) (w : World) (h : s < 0 ∨ (¬ s < 0 ∧ 4096 < s) ∨ (¬ s < 0 ∧ ¬ 4096 < s ∧ b < 0) ∨ (¬ s < 0 ∧ ¬ 4096 < s ∧ ¬ b < 0 ∧ 1048576 < b)) :
    Calls Tryz.prog 9 #[.int .i64 s, .int .i64 b] w fun e w' => e = .returned (.tuple #[.pointer none, .int .i64 2]) ∧ w = w' := by
  rcases h with h | ⟨h1, h2⟩ | ⟨h1, h2, h3⟩ | ⟨h1, h2, h3, h4⟩
  all_goals
    go_enter Tryz.func9, Tryz.ntmps9
    go_wp2
    go_ret2
    exact ⟨rfl, rfl⟩

abbrev newC (m ml : Nat) (s b : Int) : Array Value := diskC m slN slN slN slN ml slN slN slN slN slN s b false false 0

set_option maxRecDepth 100000 in
set_option maxHeartbeats 2000000 in
theorem new_good (s b : Int) (w : World) (h1 : ¬ s < 0) (h2 : ¬ 4096 < s) (h3 : ¬ b < 0) (h4 : ¬ 1048576 < b) :
    Calls Tryz.prog 9 #[.int .i64 s, .int .i64 b] w fun e w' => ∃ p m ml, e = .returned (.tuple #[.pointer (some ⟨p, 0, none⟩), .int .i64 0]) ∧ Below w.heap.size w w' ∧ w.heap.size ≤ m ∧ m < ml ∧ ml < p ∧
      w'.heap[p]? = some (.cells (newC m ml s b) tDisk (0, 0)) ∧ w'.heap[m]? = some (.map #[] 0) ∧ w'.heap[ml]? = some (.map #[] 0) := by
  have hmm := @run_makeMap Tryz.prog
  have hi : (Tryz.prog.info? tStand).map (·.size) = some 5 := by kernel_rfl
  have HI := Lib.hid hi
  clear hi
  go_enter Tryz.func9, Tryz.ntmps9
  go_wp2_with (refine wpList_store_abs rfl tStand (.tmp 6) (.tmp 22) rfl (w.heap.size + 1) #[.map (some w.heap.size), slN, slN, slN, slN] rfl rfl tStand stand0 (heap_at (w := w.alloc (.map #[] 0)) _ (by simp)) HI.out (by kernel_rfl) (by kernel_rfl) ?_
               intro W1 HW HM1 HS)
  have hb1 : Below w.heap.size w W1 := Moves.new (((Below.refl _ _).alloc (Nat.le_refl _) _).alloc (by simp) _) HM1 (by omega)
  have z1 : W1.heap.size = w.heap.size + 2 := by rw [HS]; simp
  have r1 : W1.heap[w.heap.size]? = some (.map #[] 0) := (HM1.block w.heap.size (by simp; omega) (fun e => by omega)).trans (heap_past (by simp) (heap_alloc_last w _))
  have r2 := HW.out
  clear HM1 HS HW hmm
  have H1 := Lib.hid (And.intro hb1 (And.intro z1 (And.intro r1 r2)))
  have k : ∀ j v, (#[.map (some w.heap.size), slN, slN, slN, slN] : Array Value)[j]? = some v → W1.drew.cell? ⟨w.heap.size + 1, j, none⟩ = some v := fun j v hj => row_cell (w := W1.drew) r2 hj
  have CP := Lib.hid (copied_c (w.heap.size + 1) 0 w.heap.size (Or.inl rfl) slN slN slN slN #[] 0 W1.drew (k 0 _ rfl) (k 1 _ rfl) (k 2 _ rfl) (k 3 _ rfl) (k 4 _ rfl) r1 (by kernel_rfl))
  have ld : ∀ w', (∃ x : Wd (Below W1.heap.size W1), w' = x.world) → (Instr.loadAt tStand (.pointer (some ⟨w.heap.size + 1, 0, none⟩))).run Tryz.prog w' = .ok (.agg #[.map (some w.heap.size), slN, slN, slN, slN]) w' := by
    rintro w' ⟨x, rfl⟩
    exact run_loadAt_row ((x.ok.block _ (lt_of_row r2)).trans r2) Tryz.underlying91 rfl HI.out
  have LD := Lib.hid ld
  clear k ld hb1 z1 r1 r2
  have ne : Nonempty (Wd (Below W1.heap.size W1)) := ⟨⟨_, Below.refl _ _⟩⟩
  refine wp_region_hoist (fun w' => ∃ x : Wd (Below W1.heap.size W1), w' = x.world) [] (by kernel_rfl) ?_
  refine wpAnyI_reads [0, 2, 3] 5 _ ⟨⟨_, (Below.refl _ _).drew⟩, rfl⟩ (by kernel_rfl) ?_
  simp only [List.filterMap_cons, List.filterMap_nil, List.getElem?_toArray, List.getElem?_cons_succ, List.getElem?_cons_zero]
  refine wpHoist_load_run rfl tStand (.tmp 6) rfl _ LD.out ?_
  repeat (refine wpHoist_step (fun K hK => ?_); simp only [hoists, sameUpon]; go_simp; refine hK _ ?_; clear hK K)
  refine wpHoist_nil ?_
  refine wpAnyI_one 1 4 _ _ rfl (by kernel_rfl) ?_
  refine wpList_plain rfl fun K hK => ?_
  go_simp
  go_at_call 31
  refine CP.out.mono ?_
  rintro e W2 ⟨rfl, hb2, r3⟩
  have hb2' : Below W1.heap.size W1 W2 := (Below.refl _ _).drew.trans hb2
  have R3 := Lib.hid r3
  clear r3 hb2
  refine hK _ _ (wpList_nil ⟨rfl, fun _ => ⟨⟨_, hb2'⟩, rfl⟩, ?_⟩)
  clear hK K
  refine wpAnyI_reads [4] 3 _ ⟨⟨_, hb2'⟩, rfl⟩ (by kernel_rfl) ?_
  simp only [List.filterMap_cons, List.filterMap_nil, List.getElem?_toArray, List.getElem?_cons_succ, List.getElem?_cons_zero]
  repeat (refine wpHoist_step (fun K hK => ?_); simp only [hoists, sameUpon]; go_simp; refine hK _ ?_; clear hK K)
  refine wpHoist_nil ?_
  refine wpAnyI_one 5 2 _ _ rfl (by kernel_rfl) ?_
  refine wpList_plain rfl fun K hK => ?_
  go_simp
  refine hK _ _ (wpList_nil ⟨rfl, fun _ => ⟨⟨_, hb2'.alloc hb2'.size _⟩, rfl⟩, ?_⟩)
  clear hK K
  refine wpAnyI_reads [6, 7] 0 _ ⟨⟨_, hb2'.alloc hb2'.size _⟩, rfl⟩ (by kernel_rfl) ?_
  simp only [List.filterMap_cons, List.filterMap_nil, List.getElem?_toArray, List.getElem?_cons_succ, List.getElem?_cons_zero]
  repeat (refine wpHoist_step (fun K hK => ?_); simp only [hoists, sameUpon]; go_simp; refine hK _ ?_; clear hK K)
  refine wpHoist_nil ?_
  refine ⟨by kernel_rfl, ?_⟩
  go_wp2
  go_ret2
  obtain ⟨b1, z1, r1, r2⟩ := H1.out
  have r3 : W2.heap[W1.heap.size + 1]? = some (.map #[] 0) := R3.out
  have z2 := hb2'.size
  have lt3 : W1.heap.size + 1 < W2.heap.size := lt_of_row r3
  refine ⟨W2.heap.size, w.heap.size, W1.heap.size + 1, rfl, b1.trans ((hb2'.alloc hb2'.size _).mono (by omega)), Nat.le_refl _, by omega, lt3, heap_alloc_last _ _, ?_, heap_past lt3 r3⟩
  exact heap_past (by omega) ((hb2'.block _ (by omega)).trans r1)

theorem secMap_empty {h : Array Obj} {m : Nat} (hm : h[m]? = some (.map #[] 0)) : SecMap h m (fun _ => zeros) :=
  ⟨#[], 0, hm, (fun e he => by simp at he), (fun e he => by simp at he), (fun _ _ => rfl), by simp, by simp⟩

theorem new_ok (s b : Int) (h1 : ¬ s < 0) (h2 : ¬ 4096 < s) (h3 : ¬ b < 0) (h4 : ¬ 1048576 < b) : (Dm.new s b).ok :=
  ⟨by show 0 ≤ s; omega, by show s ≤ 4096; omega, by show 0 ≤ b; omega, by show b ≤ 1048576; omega, fun n => List.length_replicate, fun k t => (by show ((List.foldl St.done St.empty (List.take k [])).tp t).length ≤ b; rw [List.take_nil]; show (0 : Int) ≤ b; omega), (fun s hs => by cases hs), (by show (-1 : Int) ≤ -1; omega), (by show (-1 : Int) ≤ 9223372036854775807; omega)⟩

/-- Blocks of a disk that was made behind w, but its own. -/
def NewF (w : World) (p m : Nat) : Nat → Prop := fun k => w.heap.size ≤ k ∧ k ≠ p ∧ k ≠ m

theorem new_c (s b : Int) (w : World) (h : newErr s b = 0) :
    Calls Tryz.prog 9 #[.int .i64 s, .int .i64 b] w fun e w' => ∃ p m, e = .returned (.tuple #[.pointer (some ⟨p, 0, none⟩), .int .i64 0]) ∧ Below w.heap.size w w' ∧ w.heap.size ≤ p ∧ w.heap.size ≤ m ∧ DiskAt w'.heap p m (Dm.new s b) (NewF w p m) := by
  have hh : ¬ (s < 0 ∨ s > 4096 ∨ b < 0 ∨ b > 1048576) := by
    intro hh
    unfold newErr at h
    rw [if_pos hh] at h
    cases h
  refine (new_good s b w (by omega) (by omega) (by omega) (by omega)).mono ?_
  rintro e w' ⟨p, m, ml, rfl, hb, g1, g2, g3, c1, c2, c3⟩
  refine ⟨p, m, rfl, hb, by omega, g1, new_ok s b (by omega) (by omega) (by omega) (by omega), slN, slN, slN, slN, ml, slN, slN, slN, slN, slN, false, 0, c1, rfl, (fun h => by cases h), secMap_empty c2, secMap_empty c3, ⟨by omega, by omega, by omega⟩, (fun h => h.2.2 rfl), (fun h => h.2.1 rfl), by omega,
    Or.inl ⟨rfl, rfl⟩, Or.inl ⟨rfl, rfl⟩, Or.inl ⟨rfl, rfl⟩, Or.inl ⟨rfl, rfl⟩, Or.inl ⟨rfl, rfl⟩, Or.inl ⟨rfl, rfl⟩, Or.inl ⟨rfl, rfl⟩, Or.inl ⟨rfl, rfl⟩, Or.inl ⟨rfl, rfl⟩⟩

theorem new_err (s b : Int) (w : World) (h : newErr s b ≠ 0) :
    Calls Tryz.prog 9 #[.int .i64 s, .int .i64 b] w fun e w' => e = .returned (.tuple #[.pointer none, .int .i64 2]) ∧ w = w' := by
  have hh : s < 0 ∨ s > 4096 ∨ b < 0 ∨ b > 1048576 := by
    refine Classical.byContradiction fun hh => h ?_
    unfold newErr
    rw [if_neg hh]
  exact new_bad s b w (by omega)

end Go.Proofs.YtgffifleflkjoaaGreat

namespace Go.Proofs.YtgffifleflkjoaaGreat
open Go.RowKit Dm

theorem sync_dead (p : Nat) (c : Int) (w : World) (R : World → Prop) (hc : c = 281) (h : w.cell? ⟨p, 16, none⟩ = some (.bool true))
    (hg : Calls Tryz.prog 102 #[.pointer (some ⟨p, 0, none⟩)] w fun e w' => e = .returned (.int .i64 c) ∧ R w') :
    Calls Tryz.prog 60 #[.pointer (some ⟨p, 0, none⟩)] w fun e w' => e = .returned (.int .i64 281) ∧ R w' := by
  subst hc
  have HG := Lib.hid hg
  clear hg
  go_enter Tryz.func60, Tryz.ntmps60
  go_wp2_with (first | (go_at_call 45; refine (none_at p true _ h).mono ?_; rintro e w' ⟨rfl, rfl⟩) | (go_at_call 102; refine HG.out.mono ?_; rintro e w' ⟨rfl, hr⟩))
  go_ret
  exact ⟨rfl, hr⟩

/-- Cells of a disk, one by one. -/
def diskL (m : Nat) (t0 t1 t2 t3 : Value) (ml : Nat) (l0 l1 l2 l3 wv : Value) (many most : Int) (dead stops : Bool) (after : Int) : List Value := .map (some m) :: t0 :: t1 :: t2 :: t3 :: diskR ml l0 l1 l2 l3 wv many most dead stops after

def SyncPost (p m : Nat) (R1 : World → Prop) (P1 : World → Nat → Value → Value → Value → Value → Value → Value → Value → Value → Value → Int → Int → Bool → Bool → Int → Array MapEntry → Nat → Prop) (e : Ending) (w' : World) : Prop :=
  e = .returned (.int .i64 0) ∧ ∃ W1 t0 t1 t2 t3 ml l0 l1 l2 l3 wv many most dead stops after es clock ml',
      R1 W1 ∧ P1 W1 ml t0 t1 t2 t3 l0 l1 l2 l3 wv many most dead stops after es clock ∧ Moves (fun k => k = p) W1 w' ∧ W1.heap.size ≤ ml' ∧ w'.heap[ml']? = some (.map es clock) ∧
      w'.heap[p]? = some (.cells (diskL m t0 t1 t2 t3 ml' t0 t1 t2 t3 (.slice none 0 0) many most dead stops after).toArray tDisk (0, 0))

set_option maxRecDepth 100000 in
set_option maxHeartbeats 2000000 in
theorem sync_live (p m : Nat) (t0 t1 t2 t3 : Value) (w : World) (R1 : World → Prop) (P1 : World → Nat → Value → Value → Value → Value → Value → Value → Value → Value → Value → Int → Int → Bool → Bool → Int → Array MapEntry → Nat → Prop) (h : w.cell? ⟨p, 16, none⟩ = some (.bool true))
    (hg : Calls Tryz.prog 102 #[.pointer (some ⟨p, 0, none⟩)] w fun e w' => e = .returned (.int .i64 0) ∧ R1 w')
    (hr : ∀ W1, R1 W1 → ∃ t0 t1 t2 t3 ml l0 l1 l2 l3 wv many most dead stops after es clock, W1.heap[p]? = some (.cells (diskL m t0 t1 t2 t3 ml l0 l1 l2 l3 wv many most dead stops after).toArray tDisk (0, 0)) ∧ W1.heap[m]? = some (.map es clock) ∧ #[t0, t1, t2, t3].all (·.oneCell') = true ∧
      P1 W1 ml t0 t1 t2 t3 l0 l1 l2 l3 wv many most dead stops after es clock) :
    Calls Tryz.prog 60 #[.pointer (some ⟨p, 0, none⟩)] w (SyncPost p m R1 P1) := by
  have hi : (Tryz.prog.info? tStand).map (·.size) = some 5 := by kernel_rfl
  have HI := Lib.hid hi
  have HG := Lib.hid hg
  have HR := Lib.hid hr
  clear hi hg hr
  go_enter Tryz.func60, Tryz.ntmps60
  go_wp2_with (first
    | (go_at_call 45; refine (none_at p true _ h).mono ?_; rintro e w' ⟨rfl, rfl⟩)
    | (go_at_call 102; refine HG.out.mono ?_; rintro e W1 ⟨rfl, q1⟩
       obtain ⟨t0, t1, t2, t3, ml, l0, l1, l2, l3, wv, many, most, dead, stops, after, es, clock, c1, c2, c3, q2⟩ := HR.out W1 q1
       have Q := Lib.hid (And.intro q1 q2)
       have C := Lib.hid (And.intro c1 (And.intro c2 c3))
       clear c1 c2 c3 q1 q2)
    | (go_at_call 31
       refine (copied_c p 0 m (Or.inl rfl) t0 t1 t2 t3 es clock W1 (row_cell C.out.1 rfl) (row_cell C.out.1 rfl) (row_cell C.out.1 rfl) (row_cell C.out.1 rfl) (row_cell C.out.1 rfl) C.out.2.1 C.out.2.2).mono ?_
       rintro e W2 ⟨rfl, hb2, r2⟩
       have C2 := Lib.hid (And.intro hb2 (And.intro r2 ((hb2.block p (lt_of_row C.out.1)).trans C.out.1)))
       clear hb2 r2)
    | (refine wpList_store_midA rfl tStand (.tmp 18) (.tmp 16) rfl p 5 #[.map (some (W1.heap.size + 1)), t0, t1, t2, t3] rfl rfl tDisk _ C2.out.2.2 HI.out (by simp [diskL, diskR]) (by have := C.out.2.2; simp at this ⊢; exact ⟨rfl, this⟩) ?_
       intro W3 HW HM HS
       have k10 : ∃ v, W3.cell? ⟨p, 10, none⟩ = some v := ⟨_, row_cell HW.out rfl⟩
       have f10 : W3.frozen? ⟨p, 10, none⟩ = false := row_free HW.out _
       obtain ⟨v10, k10⟩ := k10
       have HM3 := Lib.hid (And.intro HM HS)
       clear HM HS))
  go_ret
  obtain ⟨q1, q2⟩ := Q.out
  obtain ⟨b2, r2, r3⟩ := C2.out
  obtain ⟨m3, z3⟩ := HM3.out
  have y := heap_setCell_same W3 p 10 _ tDisk (.slice none 0 0) HW.out
  have hp : p < W1.heap.size := lt_of_row C.out.1
  refine ⟨rfl, W1, t0, t1, t2, t3, ml, l0, l1, l2, l3, wv, many, most, dead, stops, after, es, clock, W1.heap.size + 1, q1, q2, ?_, by omega, ?_, ?_⟩
  · have s2 := b2.size
    exact ⟨(m3.os.trans b2.os), m3.tape.trans b2.tape, m3.output.trans b2.output, by have := m3.size; simp; omega, fun k hk hn => by rw [heap_setCell_other _ _ _ _ hn, m3.block k (by omega) hn, b2.block k hk]⟩
  · rw [heap_setCell_other _ _ _ _ (by show W1.heap.size + 1 ≠ p; omega), m3.block _ (lt_of_row r2) (by omega), r2]
  · rw [y]
    simp [diskL, diskR, spl]

theorem BytesAt.one {h : Array Obj} {F : Nat → Prop} {v : Value} {l : List UInt8} (x : BytesAt h F v l) : v.oneCell' = true := by
  obtain ⟨a, c, rfl⟩ := x.slice
  rfl

theorem sync_ok {d : D} (h : d.ok) (d' : D) (e1 : d'.many = d.many) (e2 : d'.room = d.room) (e3 : d'.lasts = d.stand) (e4 : d'.waits = []) (h1 : -1 ≤ d'.stops) (h2 : d'.stops ≤ 9223372036854775807) : d'.ok := by
  refine ⟨by rw [e1]; exact h.many0, by rw [e1]; exact h.many1, by rw [e2]; exact h.room0, by rw [e2]; exact h.room1, by rw [e3]; exact stand_secs h, fun k t => ?_, fun y hy => ?_, h1, h2⟩
  · unfold D.upto
    rw [e2, e3, e4, List.take_nil]
    exact stand_tapes h t
  · rw [e4] at hy; cases hy

/-- All lasts. -/
theorem sync_c {p m : Nat} {d : D} {F : Nat → Prop} {w : World} (x : DiskAt w.heap p m d F) : Calls Tryz.prog 60 #[.pointer (some ⟨p, 0, none⟩)] w (Left w p m F d.sync) := by
  obtain ⟨lp, lm, hne, np, nm⟩ := x.lt
  obtain ⟨k16, _⟩ := x.cell16
  have hg := goes_c x
  have pn : ∀ w' : World, ¬ plus F w w' p ∧ ¬ plus F w w' m := fun w' => ⟨fun h => by rcases h with h | h; exact np h; omega, fun h => by rcases h with h | h; exact nm h; omega⟩
  rcases goes_two d with h0 | h0
  · have e2 : d.sync = ({ d.goes.1 with lasts := d.stand, waits := [] }, 0) := by unfold D.sync; rw [if_pos h0]
    rw [e2]
    rw [h0] at hg
    refine (sync_live p m .nilFunc .nilFunc .nilFunc .nilFunc w _ (fun W1 ml t0 t1 t2 t3 l0 l1 l2 l3 wv many most dead stops after es clock => many = d.many ∧ most = d.room ∧ dead = d.goes.1.dead ∧ StandAt W1.heap p m d.stand F tDisk (diskR ml l0 l1 l2 l3 wv many most dead stops after) ∧
      (d.goes.1.stops = if stops then after else -1) ∧ (stops = true → 0 ≤ after) ∧ BytesAt W1.heap F t0 (d.stand.tp 0) ∧ BytesAt W1.heap F t1 (d.stand.tp 1) ∧ BytesAt W1.heap F t2 (d.stand.tp 2) ∧ BytesAt W1.heap F t3 (d.stand.tp 3) ∧ W1.heap[m]? = some (.map es clock) ∧ SecMap W1.heap m d.stand.sec) k16 hg ?_).mono ?_
    · rintro W1 ⟨hm1, hz1, hd1⟩
      obtain ⟨ml, l0, l1, l2, l3, wv, stops, after, sa, ra⟩ := hd1.parts
      rw [goes_stand, goes_many, goes_room] at sa
      have sa' := sa
      obtain ⟨t0, t1, t2, t3, c1, c2, b0, b1, b2, b3, n1, n2, n3⟩ := sa
      have c2' := c2
      obtain ⟨es, clock, c3, _⟩ := c2
      exact ⟨t0, t1, t2, t3, ml, l0, l1, l2, l3, wv, d.many, d.room, d.goes.1.dead, stops, after, es, clock, c1, c3, by simp [b0.one, b1.one, b2.one, b3.one], rfl, rfl, rfl, sa', ra.hst, ra.haf, b0, b1, b2, b3, c3, c2'⟩
    · rintro e w' ⟨rfl, W1, t0, t1, t2, t3, ml, l0, l1, l2, l3, wv, many, most, dead, stops, after, es, clock, ml', ⟨hm1, hz1, hd1⟩, ⟨rfl, rfl, rfl, sa, hst, haf, b0, b1, b2, b3, c3, c2⟩, mv, g1, g2, g3⟩
      have s1 := mv.size
      have hmv : Moves (fun k => k = p ∨ k = m) w w' := (hm1.mono (fun _ => Or.inl)).trans mv (fun i _ e => Or.inl e)
      have g1' := goes_ok x.ok
      have keep : ∀ k, F k → k < W1.heap.size → w'.heap[k]? = W1.heap[k]? := fun k hk hl => mv.block k hl (fun e => np (e ▸ hk))
      have big : ∀ k, F k → k < W1.heap.size → plus F w w' k := fun k h _ => Or.inl h
      have st : ({ d.goes.1 with lasts := d.stand, waits := [] } : D).stand = d.stand := rfl
      have hl' : ml' < w'.heap.size := lt_of_row g2
      have sm : SecMap w'.heap ml' d.stand.sec := by
        obtain ⟨es', cl', y1, y2⟩ := c2
        rw [c3] at y1
        simp only [Option.some.injEq, Obj.map.injEq] at y1
        obtain ⟨rfl, rfl⟩ := y1
        exact ⟨es, clock, g2, y2⟩
      refine ⟨rfl, hmv, DiskAt.of (ml := ml') (l0 := t0) (l1 := t1) (l2 := t2) (l3 := t3) (wv := .slice none 0 0) (stops := stops) (after := after) ?_ ?_ ?_⟩
      · exact sync_ok x.ok _ (goes_many d) (goes_room d) rfl rfl g1'.stops g1'.stops1
      · rw [st]
        refine ⟨t0, t1, t2, t3, ?_, c2.stays (mv.block m (by omega) hne), b0.keeps keep big, b1.keeps keep big, b2.keeps keep big, b3.keeps keep big, (pn w').2, (pn w').1, hne⟩
        simp only [goes_many, goes_room]
        exact g3
      · exact ⟨hst, haf, sm, Or.inr ⟨by omega, hl'⟩, b0.keeps keep big, b1.keeps keep big, b2.keeps keep big, b3.keeps keep big, Or.inl ⟨rfl, rfl⟩⟩
  · have hne0 : ¬ d.goes.2 = 0 := by omega
    have e2 : d.sync = (d.goes.1, d.goes.2) := by unfold D.sync; rw [if_neg hne0]
    rw [e2]
    refine (sync_dead p d.goes.2 w _ h0 k16 hg).mono ?_
    rintro e w' ⟨rfl, hm1, hz1, hd1⟩
    exact ⟨by rw [h0], hm1.mono (fun _ => Or.inl), hd1.weak (fun k h _ => Or.inl h) (pn _).1 (pn _).2⟩

end Go.Proofs.YtgffifleflkjoaaGreat

namespace Go.Proofs.YtgffifleflkjoaaGreat
open Go.RowKit Dm

abbrev PM (pd md : Nat) : Nat → Prop := fun k => k = pd ∨ k = md

theorem left_then {w W w' : World} {p m : Nat} {d : D} {F : Nat → Prop} {r : D × Int} {e : Ending} (x : DiskAt w.heap p m d F) (hm : Moves (PM p m) w W) (h : Left W p m (plus F w W) r e w') : Left w p m F r e w' := by
  obtain ⟨l1, l2, l3, l4, l5⟩ := x.lt
  obtain ⟨h1, h2, h3⟩ := h
  have hs := hm.size
  have hs2 := h2.size
  refine ⟨h1, hm.trans h2 (fun i _ hi => hi), h3.weak (fun k hk hl => ?_) ?_ ?_⟩
  · rcases hk with (hk | hk) | hk
    · exact Or.inl hk
    · exact Or.inr ⟨hk.1, hl⟩
    · exact Or.inr ⟨by omega, hl⟩
  · intro h
    rcases h with h | h
    · exact l4 h
    · omega
  · intro h
    rcases h with h | h
    · exact l5 h
    · omega

/-- A function value that does a step on a disk, in each world that comes of w by steps on that disk. -/
structure Does (w : World) (pd md : Nat) (fv : Value) (act : D → D × Int) : Prop where
  run : ∃ fn fs cs, fv = .func (.func fn) fs cs ∧ (∀ args w, (callFunc fn args).run Tryz.prog w = .ok (.enter fn args) w) ∧
    ∀ (W : World) (d : D) (F : Nat → Prop), Moves (PM pd md) w W → DiskAt W.heap pd md d F → d.waits.length ≤ 1000000000 → Calls Tryz.prog fn (fs ++ cs) W (Left W pd md F (act d))
  few : ∀ d, (act d).1.waits.length ≤ d.waits.length + 1

def chain : List (D → D × Int) → D → D × Int
  | [], d => (d, 0)
  | a :: l, d => if (a d).2 = 0 then chain l (a d).1 else a d

theorem chain_snoc {l : List (D → D × Int)} {a : D → D × Int} : ∀ {d d' : D}, chain l d = (d', 0) → chain (l ++ [a]) d = a d' := by
  induction l with
  | nil =>
    intro d d' h
    cases h
    show (if (a d).2 = 0 then ((a d).1, 0) else a d) = a d
    by_cases q : (a d).2 = 0
    · rw [if_pos q, ← q]
    · rw [if_neg q]
  | cons b l ih =>
    intro d d' h
    rw [List.cons_append]
    unfold chain at h ⊢
    by_cases q : (b d).2 = 0
    · rw [if_pos q] at h ⊢
      exact ih h
    · rw [if_neg q] at h
      rw [h] at q
      exact absurd rfl q

theorem chain_stop {l r : List (D → D × Int)} : ∀ {d : D}, (chain l d).2 ≠ 0 → chain (l ++ r) d = chain l d := by
  induction l with
  | nil => intro d h; exact absurd rfl h
  | cons b l ih =>
    intro d h
    rw [List.cons_append]
    unfold chain at h ⊢
    by_cases q : (b d).2 = 0
    · rw [if_pos q] at h ⊢
      rw [if_pos q]
      exact ih h
    · rw [if_neg q, if_neg q]

set_option maxRecDepth 100000 in
set_option maxHeartbeats 4000000 in
theorem firstOf_c {w : World} {pd md g cap : Nat} {d : D} {F : Nat → Prop} {fvs : List Value} {acts : List (D → D × Int)} {cs : Array Value} {t : TypeId} {fr : Nat × Nat} (x : DiskAt w.heap pd md d F) (hw : d.waits.length ≤ 900000000) (hg : w.heap[g]? = some (.cells cs t fr)) (hgp : g ≠ pd ∧ g ≠ md)
    (hcs : ∀ (i : Nat) (f : Value), fvs[i]? = some f → cs[i]? = some f) (hl : fvs.length = acts.length) (hd : ∀ (i : Nat) (f : Value) (a : D → D × Int), fvs[i]? = some f → acts[i]? = some a → Does w pd md f a) (hn : acts.length ≤ 100) :
    Calls Tryz.prog 71 #[.slice (some ⟨g, 0, none⟩) acts.length cap] w (Left w pd md F (chain acts d)) := by
  have H := Lib.hid (And.intro x (And.intro hg (And.intro hcs (And.intro hl hd))))
  have HW := Lib.hid hw
  clear x hg hcs hl hd hw
  generalize hN : acts.length = N at *
  have HN := Lib.hid hN
  clear hN
  go_enter Tryz.func71, Tryz.ntmps71
  go_wp2
  go_loopw [4, 5, 8] (fun _ _ s wr => ∃ i : Nat, i ≤ N ∧ s = .int .i64 (i : Int) ∧ ∃ d', chain (acts.take i) d = (d', 0) ∧ d'.waits.length ≤ d.waits.length + i ∧ DiskAt wr.heap pd md d' (plus F w wr) ∧ Moves (PM pd md) w wr) (fun _ _ s _ => N - (intOf s).toNat)
  case atStart => exact ⟨0, by omega, rfl, d, rfl, Nat.le_refl _, H.out.1.plus (Below.refl _ _), Moves.refl _ _⟩
  case round =>
    obtain ⟨i, hi, rfl, d', hch, hwt, hx, hm⟩ := hrel
    by_cases hlt : i < N
    · have i0 : (0 : Int) ≤ (i : Int) := by omega
      have i1 : (i : Int) < (N : Int) := by omega
      obtain ⟨f, hf⟩ : ∃ f, fvs[i]? = some f := ⟨_, List.getElem?_eq_getElem (by have := H.out.2.2.2.1; have := HN.out; omega)⟩
      obtain ⟨a, ha⟩ : ∃ a, acts[i]? = some a := ⟨_, List.getElem?_eq_getElem (by have := HN.out; omega)⟩
      have D0 := H.out.2.2.2.2 i f a hf ha
      obtain ⟨fn, fs, cc, rfl, eg, hrun⟩ := D0.run
      have hc : wr.cell? ⟨g, i, none⟩ = some (.func (.func fn) fs cc) := (cell_of_row _ _ _ _ _ _ ((hm.block g (lt_of_row H.out.2.1) (fun e => by rcases e with e | e; exact hgp.1 e; exact hgp.2 e)).trans H.out.2.1)).trans (H.out.2.2.1 i _ hf)
      have R := Lib.hid (hrun wr d' (plus F w wr) hm hx (by have := HW.out; omega))
      have HA := Lib.hid (And.intro hch (And.intro hwt (And.intro hm (And.intro ha (D0.few d')))))
      clear hch hwt hx hm hf ha D0 hrun
      by_cases q : (a d').2 = 0
      · have Q := Lib.hid q
        unfold Left at R
        rw [q] at R
        clear q
        go_wp2_with (refine R.out.mono ?_; rintro e w1 ⟨rfl, m1, x1⟩; have H1 := Lib.hid (And.intro m1 x1); clear m1 x1)
        go_roundw
        case rel =>
          have hs := HA.out.2.2.1.size
          have hs2 := H1.out.1.size
          obtain ⟨l1, l2, l3, l4, l5⟩ := H.out.1.lt
          refine ⟨i + 1, by omega, by go_num, (a d').1, ?_, by have := HA.out.2.2.2.2; have := HA.out.2.1; omega, H1.out.2.weak (fun k hk hl => ?_) ?_ ?_, HA.out.2.2.1.trans H1.out.1 (fun _ _ h => h)⟩
          · rw [List.take_add_one, HA.out.2.2.2.1]
            show chain (acts.take i ++ [a]) d = _
            rw [chain_snoc HA.out.1, ← Q.out]
          · rcases hk with (hk | hk) | hk
            · exact Or.inl hk
            · exact Or.inr ⟨hk.1, hl⟩
            · exact Or.inr ⟨by omega, hl⟩
          · intro h; rcases h with h | h; exact l4 h; omega
          · intro h; rcases h with h | h; exact l5 h; omega
        case measure => simp [intOf]; omega
      · have Q := Lib.hid q
        go_wp2_with (refine R.out.mono ?_; rintro e w1 ⟨rfl, m1, x1⟩; have H1 := Lib.hid (And.intro m1 x1); clear m1 x1)
        go_ret
        have e1 : chain (acts.take (i + 1)) d = a d' := by
          rw [List.take_add_one, HA.out.2.2.2.1]
          exact chain_snoc HA.out.1
        have e2 : chain acts d = a d' := by
          conv => lhs; rw [← List.take_append_drop (i + 1) acts]
          rw [chain_stop (by rw [e1]; exact Q.out), e1]
        rw [e2]
        exact left_then H.out.1 HA.out.2.2.1 ⟨rfl, H1.out.1, H1.out.2⟩
    · obtain rfl : i = N := by omega
      go_wp2
      go_ret
      rw [List.take_of_length_le (by rw [HN.out]; exact Nat.le_refl _)] at hch
      rw [hch]
      exact ⟨rfl, hm, hx⟩

end Go.Proofs.YtgffifleflkjoaaGreat

namespace Go.Proofs.YtgffifleflkjoaaGreat
open Go.RowKit

section
variable {P : Program} {ops : Array Oper} {md : Region.Mode} {I : World → Prop} {tail : List Nat}

theorem wpAnyI_firstP {Q : Act → World → Prop} {i : Nat} {oi : Oper} {v : Value} (hi : ops[i]? = some oi) (hsel : ∀ (j : Nat) (o : Oper) cs b, ops[j]? = some o → o.op ≠ .select cs b) (hit : i ∈ tail) :
    ∀ (fuel : Nat) (listed : Array Bool) (a : Act) (w : World),
      (∀ j oj, ops[j]? = some oj → j ≠ i → listed.getD j true = false → (∀ e ∈ oj.after, Region.binds md e = true → e.on ≠ i) → oi.apart ops oj = true) →
      i ∈ Region.ready md ops listed → YieldsI P ops (fun _ => True) oi v a →
      wpAnyI P md ops I tail Q fuel (listed.setIfInBounds i true) (a.put oi.dst v) w → wpAnyI P md ops I tail Q (fuel + 1) listed a w := by
  intro fuel
  induction fuel with
  | zero =>
    intro listed a w _ hr hy H
    refine ⟨fun h => (by rw [h] at hr; cases hr), fun j hj => ?_⟩
    by_cases hji : j = i
    · subst hji; exact hy.wpOp hi trivial ⟨fun h => absurd hit h, H⟩
    · have := ready_mono hj hji
      rw [H.1] at this
      cases this
  | succ fuel ih =>
    intro listed a w hfree hr hy H
    refine ⟨fun h => (by rw [h] at hr; cases hr), fun j hj => ?_⟩
    by_cases hji : j = i
    · subst hji; exact hy.wpOp hi trivial ⟨fun h => absurd hit h, H⟩
    · have h1 := H.2 j (ready_mono hj hji)
      obtain ⟨hjun, oj, hoj, hall⟩ := mem_ready.1 hj
      have hun := (mem_ready.1 hr).1
      have hnot : ∀ e ∈ oj.after, Region.binds md e = true → e.on ≠ i := fun e he hb heq => by
        have h1 := hall e he hb
        rw [heq, getD_both hun] at h1
        cases h1
      have h2 := wpOpI_put hoj (hfree j oj hoj hji hjun hnot) (fun cs b => hsel i oi cs b hi) (fun cs b => hsel j oj cs b hoj) hy h1
      have hfree' : ∀ k ok, ops[k]? = some ok → k ≠ i → (listed.setIfInBounds j true).getD k true = false →
          (∀ e ∈ ok.after, Region.binds md e = true → e.on ≠ i) → oi.apart ops ok = true := fun k ok hk hki hun hno => by
        refine hfree k ok hk hki ?_ hno
        by_cases hjk : j = k
        · subst hjk; exact hjun
        · rw [getD_set_ne true hjk] at hun; exact hun
      refine wpOp_mono (fun a' w' h3 => ⟨fun h => h3.2.1 h, ih (listed.setIfInBounds j true) a' w' hfree' (ready_mono hr (Ne.symm hji)) h3.1 ?_⟩) h2
      rw [Array.setIfInBounds_comm _ _ hji]
      exact h3.2.2

def pureB (md : Region.Mode) (ops : Array Oper) (tail : List Nat) : List Nat → Array Bool → Bool
  | [], _ => true
  | k :: r, listed => (Region.ready md ops listed).contains k && Region.free md ops listed k && tail.contains k && pureB md ops tail r (listed.setIfInBounds k true)

theorem wpAnyI_pures {Q : Act → World → Prop} (hs : Region.noSelect ops = true) {w : World} : ∀ (ks : List Nat) (f : Nat) (listed : Array Bool) (a : Act), pureB md ops tail ks listed = true →
    wpHoist P ops (fun _ => True) (fun a' => wpAnyI P md ops I tail Q f (ks.foldl (fun l k => l.setIfInBounds k true) listed) a' w) (ks.filterMap (fun k => ops[k]?)) a → wpAnyI P md ops I tail Q (f + ks.length) listed a w
  | [], f, listed, a, _, h => h
  | k :: r, f, listed, a, hB, h => by
    simp only [pureB, Bool.and_eq_true] at hB
    obtain ⟨⟨⟨h1, h2⟩, h3⟩, h4⟩ := hB
    have hr : k ∈ Region.ready md ops listed := by simpa using h1
    have ht : k ∈ tail := by simpa using h3
    obtain ⟨_, o, ho, _⟩ := mem_ready.1 hr
    simp only [List.filterMap_cons, ho, wpHoist] at h
    have : ∃ v, YieldsI P ops (fun _ => True) o v a ∧ wpHoist P ops (fun _ => True) (fun a' => wpAnyI P md ops I tail Q f ((k :: r).foldl (fun l k => l.setIfInBounds k true) listed) a' w) (r.filterMap (fun k => ops[k]?)) (a.put o.dst v) := by
      by_cases hw : Region.wanted o (yielded ops a.tmps) = true
      · rw [if_pos hw] at h
        obtain ⟨v, hv, hn⟩ := h
        refine ⟨v, .inl ⟨hw, fun w' hw' => ?_⟩, hn⟩
        have := hv w' hw'
        generalize (execOp a.eval o).run P w' = x at this
        cases x with
        | ok n w2 =>
          cases n <;> simp only [sameUpon] at this
          case value u => rw [this.1, this.2]
        | halt x w2 => simp only [sameUpon] at this
      · rw [if_neg hw] at h
        exact ⟨undef, .inr ⟨by simpa using hw, rfl⟩, h⟩
    obtain ⟨v, hy, hn⟩ := this
    rw [show f + (k :: r).length = (f + r.length) + 1 by simp; omega]
    exact wpAnyI_firstP ho (Region.noSelect_spec hs) ht _ _ _ _ (Region.free_spec ho h2) hr hy (wpAnyI_pures hs r f _ _ h4 hn)

/-- Operations that read no memory. -/
theorem wpAnyI_pure {Q : Act → World → Prop} {w : World} {a : Act} (ks : List Nat) (f : Nat) (listed : Array Bool) (hB : (Region.noSelect ops && pureB md ops tail ks listed) = true)
    (h : wpHoist P ops (fun _ => True) (fun a' => wpAnyI P md ops I tail Q f (ks.foldl (fun l k => l.setIfInBounds k true) listed) a' w) (ks.filterMap (fun k => ops[k]?)) a) : wpAnyI P md ops I tail Q (f + ks.length) listed a w := by
  simp only [Bool.and_eq_true] at hB
  exact wpAnyI_pures hB.1 ks f listed a hB.2 h

theorem wpHoist_load_guard {Q : Act → Prop} {a : Act} {o : Oper} {rest : List Oper} (hgd : Region.wanted o (yielded ops a.tmps) = true) (ty : TypeId) (x : Operand) (ho : o.op = .load ty x) (v : Value)
    (hrun : ∀ w, I w → (Instr.loadAt ty (a.eval x)).run P w = .ok v w) (h : wpHoist P ops I Q rest (a.put o.dst v)) : wpHoist P ops I Q (o :: rest) a :=
  wpHoist_step fun K hK => by
    simp only [hgd, if_true]
    refine ⟨v, fun w hw => ?_, hK _ h⟩
    unfold execOp
    simp only [ho, Sem.run_bind, hrun w hw, Result.andThen_ok, Sem.run_pure, sameUpon, and_self]

end
end Go.Proofs.YtgffifleflkjoaaGreat
