/-
  few, of layer 19's calls.
  evlog: All: the rows, one after another, as they are when one asks.
  EvlogLeaves: what stands between two of its commits.
  A range over a function of two values, in a block that its body may leave.
  A function beside nil.
-/
import Derived.Test.YtgffifleflkjoaaGreatG01
import Derived.Test.YtgffifleflkjoaaGreatG12
import Derived.Test.YtgffifleflkjoaaGreatG16
import Derived.Test.YtgffifleflkjoaaGreatG22
import Derived.Test.YtgffifleflkjoaaGreatG25

namespace Go.Proofs.YtgffifleflkjoaaGreat
open Go.RowKit Dm

theorem few_bad {L : List Em.ActE} {x : Em.ActE} {most : Int} (hx : x ∈ L) (h : x.small = false) : Em.fewE L most = false := by
  have : L.all Em.ActE.small = false := by
    rw [Bool.eq_false_iff]
    intro h2
    have := List.all_eq_true.1 h2 x hx
    rw [h] at this
    cases this
  simp [Em.fewE, this]

theorem small_no {x : Em.ActE} (h : 70 < x.l.length ∨ 40 < x.crash.keep.length ∨ ∃ c ∈ x.l, 70 < c.key.length ∨ 200 < c.value.length) : x.small = false := by
  rw [Bool.eq_false_iff]
  intro h2
  obtain ⟨h3, h4, h5⟩ := Em.ActE.small_of h2
  rcases h with h | h | ⟨c, hc, h⟩
  · omega
  · omega
  · have := h5 c hc; omega

set_option maxRecDepth 100000 in
set_option maxHeartbeats 2000000 in
theorem few19_c {v : Value} {Q : List ActQ} {w : World} (hv : ActsIn w v Q) (most : Int) (hl : Q.length ≤ 9223372036854775807) :
    Calls Tryz.prog 13 #[v, .int .i64 most] w fun e w' => e = .returned (.bool (Em.fewE (Q.map (·.1)) most)) ∧ w = w' := by
  obtain ⟨va, vc, rfl⟩ := hv.slice
  have AT := Lib.hid (fun (i : Nat) (q : ActQ) (hi : Q[i]? = some q) => hv.at hi)
  have hl1 : (Q.length : Int) ≤ 9223372036854775807 := by omega
  clear hv
  generalize hn : Q.length = n at *
  have HN := Lib.hid hn
  clear hn
  go_enter Tryz.func13, Tryz.ntmps13
  go_wp2
  go_loop [5] (fun i => ∃ k : Nat, k ≤ n ∧ i = .int .i64 (k : Int) ∧ ∀ (j : Nat) (x : ActQ), j < k → Q[j]? = some x → x.1.small = true) (fun i => n - (intOf i).toNat)
  case atStart => exact ⟨0, Nat.zero_le _, rfl, fun j x hj => absurd hj (by omega)⟩
  case round =>
    obtain ⟨k, hk, rfl, hall⟩ := hrel
    by_cases hlt : k < n
    · obtain ⟨⟨x, lv, kv⟩, hq⟩ : ∃ q, Q[k]? = some q := ⟨_, List.getElem?_eq_getElem (by rw [HN.out]; exact hlt)⟩
      obtain ⟨b, o, rfl, lb, rg, is⟩ := AT.out k _ hq
      obtain ⟨la, lc, e1⟩ := is.l.slice
      obtain ⟨ka, kc, e2⟩ := is.keep.slice
      simp only at e1 e2
      subst e1
      subst e2
      have k1 : w.cell? ⟨b, o + k * 6 + 1, none⟩ = some (.slice la x.l.length lc) := rg 1 _ rfl
      have k3 : w.cell? ⟨b, o + k * 6 + 3, none⟩ = some (.slice ka x.crash.keep.length kc) := rg 3 _ rfl
      have isl : ChangesAt w (fun _ => True) (.slice la x.l.length lc) x.l := is.l
      have CH := Lib.hid (fun (j : Nat) (c : Em.Change) (hc : x.l[j]? = some c) => isl.at hc)
      have hb1 : x.l.length ≤ 9223372036854775807 := is.llen
      have hb2 : x.crash.keep.length ≤ 9223372036854775807 := is.klen
      have i0 : (0 : Int) ≤ (k : Int) := by omega
      have i1 : (k : Int) < (n : Int) := by omega
      have MEM := Lib.hid (show x ∈ Q.map (·.1) from List.mem_map.2 ⟨_, List.mem_of_getElem? hq, rfl⟩)
      have HQ := Lib.hid (And.intro hq hall)
      clear hq hall rg is isl lb
      generalize hbl : x.l.length = bl at *
      generalize hkk : x.crash.keep.length = kl at *
      have HB := Lib.hid (And.intro hbl hkk)
      clear hbl hkk
      by_cases h1 : 70 < bl
      · have d1 : (70 : Int) < (bl : Int) := by omega
        have BAD := Lib.hid (few_bad (most := most) MEM.out (small_no (Or.inl (by rw [HB.out.1]; exact h1))))
        clear h1
        go_wp2
        go_ret
        exact ⟨by rw [BAD.out]; rfl, rfl⟩
      · have d1 : ¬ (70 : Int) < (bl : Int) := by omega
        by_cases h2 : 40 < kl
        · have d2 : (40 : Int) < (kl : Int) := by omega
          have BAD := Lib.hid (few_bad (most := most) MEM.out (small_no (Or.inr (Or.inl (by rw [HB.out.2]; exact h2)))))
          clear h1 h2
          go_wp2
          go_ret
          exact ⟨by rw [BAD.out]; rfl, rfl⟩
        · have d2 : ¬ (40 : Int) < (kl : Int) := by omega
          go_wp2
          go_loop [6] (fun i => ∃ j : Nat, j ≤ bl ∧ i = .int .i64 (j : Int) ∧ ∀ (m : Nat) (c : Em.Change), m < j → x.l[m]? = some c → c.tiny = true) (fun i => bl - (intOf i).toNat)
          case atStart => exact ⟨0, Nat.zero_le _, rfl, fun j x hj => absurd hj (by omega)⟩
          case round =>
            obtain ⟨j, hj, rfl, htiny⟩ := hrel
            by_cases hjl : j < bl
            · obtain ⟨c, hc⟩ : ∃ c, x.l[j]? = some c := ⟨_, List.getElem?_eq_getElem (by rw [HB.out.1]; exact hjl)⟩
              obtain ⟨b2, o2, rfl, _, lb2, rg2⟩ := CH.out j c hc
              have z0 : w.cell? ⟨b2, o2 + j * 3, none⟩ = some (strOfB c.key) := rg2 0 _ rfl
              have z1 : w.cell? ⟨b2, o2 + j * 3 + 1, none⟩ = some (strOfB c.value) := rg2 1 _ rfl
              have j0 : (0 : Int) ≤ (j : Int) := by omega
              have j1 : (j : Int) < (bl : Int) := by omega
              have HC := Lib.hid (And.intro hc htiny)
              clear hc htiny rg2
              by_cases g1 : 70 < c.key.length
              · have d3 : (70 : Int) < (c.key.length : Int) := by omega
                have BAD := Lib.hid (few_bad (most := most) MEM.out (small_no (Or.inr (Or.inr ⟨c, List.mem_of_getElem? HC.out.1, Or.inl g1⟩))))
                clear g1
                go_wp2
                go_ret
                exact ⟨by rw [BAD.out]; rfl, rfl⟩
              · have d3 : ¬ (70 : Int) < (c.key.length : Int) := by omega
                by_cases g2 : 200 < c.value.length
                · have d4 : (200 : Int) < (c.value.length : Int) := by omega
                  have BAD := Lib.hid (few_bad (most := most) MEM.out (small_no (Or.inr (Or.inr ⟨c, List.mem_of_getElem? HC.out.1, Or.inr g2⟩))))
                  clear g1 g2
                  go_wp2
                  go_ret
                  exact ⟨by rw [BAD.out]; rfl, rfl⟩
                · have d4 : ¬ (200 : Int) < (c.value.length : Int) := by omega
                  have HT := Lib.hid (show c.tiny = true by simp only [Em.Change.tiny, Bool.and_eq_true, decide_eq_true_eq]; omega)
                  clear g1 g2
                  go_wp2
                  go_round
                  case rel =>
                    refine ⟨j + 1, by omega, by go_num, fun m c' hm hc' => ?_⟩
                    by_cases e : m = j
                    · subst e
                      rw [HC.out.1] at hc'
                      cases hc'
                      exact HT.out
                    · exact HC.out.2 m c' (by omega) hc'
                  case measure => simp [intOf]; omega
            · obtain rfl : j = bl := by omega
              have HS := Lib.hid (show x.small = true by
                simp only [Em.ActE.small, Bool.and_eq_true, decide_eq_true_eq, HB.out.1, HB.out.2, List.all_eq_true]
                refine ⟨⟨by omega, by omega⟩, fun c hc => ?_⟩
                obtain ⟨m, hm⟩ := List.mem_iff_getElem?.1 hc
                exact htiny m c (by have := (List.getElem?_eq_some_iff.1 hm).1; have := HB.out.1; omega) hm)
              clear htiny
              go_wp2
              go_round
              case rel =>
                refine ⟨k + 1, by omega, by go_num, fun m q' hm hq' => ?_⟩
                by_cases e : m = k
                · subst e
                  rw [HQ.out.1] at hq'
                  cases hq'
                  exact HS.out
                · exact HQ.out.2 m q' (by omega) hq'
              case measure => simp [intOf]; omega
    · obtain rfl : k = n := by omega
      have HA := Lib.hid (show (Q.map (·.1)).all Em.ActE.small = true by
        rw [List.all_eq_true]
        intro x hx
        obtain ⟨q, hq, rfl⟩ := List.mem_map.1 hx
        obtain ⟨m, hm⟩ := List.mem_iff_getElem?.1 hq
        exact hall m q (by have := (List.getElem?_eq_some_iff.1 hm).1; have := HN.out; omega) hm)
      clear hall
      go_wp2
      go_ret
      refine ⟨?_, rfl⟩
      simp [Em.fewE, HA.out, HN.out]

end Go.Proofs.YtgffifleflkjoaaGreat

namespace Go.Proofs.YtgffifleflkjoaaGreat
open Go.RowKit Dm Go.Shelf
attribute [local go_sem] Oper.semAt_some

def encP (x : Em.Bytes × Em.Bytes) : Array Value := #[strOfB x.1, strOfB x.2]

theorem all_c' {w : World} {pl pd md : Nat} {e : Em.E} {F : Nat → Prop} (x : LogAt w pl pd md e F) : Calls Tryz.prog 15 #[.pointer (some ⟨pl, 0, none⟩)] w fun en w' =>
    ∃ m, en = .returned (.func (.func 43) #[] #[.pointer (some ⟨w.heap.size, 0, none⟩)]) ∧ w.alloc (.cells #[.map (some m)] tRows) = w' ∧ RowsIn w m (Maps.size e.rows) e.rows ∧ m ≠ pd ∧ m ≠ md ∧ m ≠ pl := by
  have hmf : ∀ (fn : Fn) (first cap : Array Value) (w : World), (Instr.makeFunc fn first cap).run Tryz.prog w = .ok (.func fn first cap) w := fun _ _ _ _ => rfl
  have NC := Lib.hid x.none
  obtain ⟨m, row, rows, hne⟩ := x.row
  have f2 : w.cell? ⟨pl, 2, none⟩ = some (.map (some m)) := row_cell row rfl
  have HR := Lib.hid (And.intro rows hne)
  clear x row rows hne
  go_enter Tryz.func15, Tryz.ntmps15
  go_wp2_with (go_at_call 36; refine NC.out.mono ?_; rintro en w0 ⟨rfl, rfl⟩)
  go_ret
  exact ⟨m, rfl, rfl, HR.out.1, HR.out.2⟩

theorem KeysAt.keeps {A B : World} {K : Nat → Prop} {a : Option Addr} {n c : Nat} {ks : List (List UInt8)} (h : KeysAt A (.slice a n c) ks) (hk : Keeps K A B) (hK : ∀ b o x, a = some ⟨b, o, x⟩ → K b) : KeysAt B (.slice a n c) ks := by
  rcases h with h | ⟨b, cap, cs, h1, h2, h3⟩
  · exact Or.inl h
  · have e : a = some ⟨b, 0, none⟩ := by cases h1; rfl
    exact Or.inr ⟨b, cap, cs, h1, (hk.block b (hK b 0 none e) (lt_of_row h2)).trans h2, h3⟩

theorem rows_keeps {A B : World} {K : Nat → Prop} {m n : Nat} {D : Em.Rows} (h : RowsIn A m n D) (hk : Keeps K A B) (hK : K m) : RowsIn B m n D := by
  have lt := h.lt
  obtain ⟨es, clock, k1, F, hs, hD⟩ := h
  exact ⟨es, clock, (hk.block m hK lt).trans k1, F, hs, hD⟩

theorem sortedB_c {w : World} {m n : Nat} {D : Em.Rows} (h : RowsIn w m n D) (hn : Maps.size D ≤ 1000000) : Calls Tryz.prog 44 #[.map (some m)] w fun e w' =>
    ∃ v, e = .returned v ∧ KeysAt w' v (Em.skeys D) ∧ Below w.heap.size w w' ∧ ∀ a n c, v = .slice (some a) n c → w.heap.size ≤ a.block ∧ a.block < w'.heap.size := by
  have K := Lib.hid (callsIn_wide.1 (maps_Keys_83 (some m) w))
  have S := Lib.hid (callsIn_wide.1 (slices_Sorted_keys_82_83 m n D (plainElem Tryz.prog tStr) w h (by unfold maxLen; omega) (by omega)))
  clear h
  go_enter Tryz.func44, Tryz.ntmps44
  go_wp2_with (first
    | (go_at_call 83; refine K.out.mono ?_; rintro e w' ⟨rfl, rfl⟩)
    | (go_at_call 82; refine S.out.mono ?_; rintro e w1 ⟨v, ss, rfl, hS, hrow, hnil, hb⟩))
  go_ret
  have e1 : ss.mergeSort (fun x y => decide (x ≤ y)) = Em.skeys D := mergeSort_of_perm hS
  have e2 : ss.length = (Em.skeys D).length := by rw [← e1, List.length_mergeSort]
  rw [e1, e2] at hrow
  have hb' := ((Below.refl _ w).alloc (Nat.le_refl _) _).trans (hb.mono (by simp))
  refine ⟨v, rfl, keysAt_own hrow, hb', ?_⟩
  rintro a n' c rfl
  rcases hrow.2 with ⟨h1, _⟩ | ⟨g, cap, cur, h1, h2, h3, _⟩
  · cases h1
  · cases h1
    simp only [World.size_alloc] at h2
    exact ⟨by simp only; omega, lt_of_row h3⟩

set_option maxRecDepth 100000 in
set_option maxHeartbeats 2000000 in
theorem all2_c {w : World} {g m n : Nat} {D : Em.Rows} (hg : w.cell? ⟨g, 0, none⟩ = some (.map (some m))) (hm : RowsIn w m n D) (hs : Maps.size D ≤ 256) (hD : Em.RowsOk D) :
    Iter Tryz.prog 43 #[.pointer (some ⟨g, 0, none⟩)] encP (Em.tell D) (fun i => i = m ∨ i = g) w := by
  intro l J Jx W hW hJ hJx hY h0
  have lg : g < w.heap.size := block_lt_of_cell hg
  have f0 := (hW.cell (p := ⟨g, 0, none⟩) lg).trans hg
  have r0 := rows_below hm hW hm.lt
  have sW := hW.size
  have lm := hm.lt
  have SC := Lib.hid ((callsIn_wide (n := 0)).2 (sortedB_c r0 (by omega)))
  have HH := Lib.hid (And.intro h0 (And.intro r0 hD))
  clear hm hg h0 r0
  refine callsIn_of_wp Tryz.func43 rfl trivial ?_ rfl
  simp only [Tryz.ntmps43, List.size_toArray, List.length_cons, List.length_nil, Nat.reduceAdd, Nat.reduceSub, Array.replicate_succ, Array.replicate_zero, List.push_toArray, List.append_toArray, List.nil_append, List.cons_append]
  gi_wp2
  refine wpIn_scope (wpIn_label_seq ?_)
  gi_wp2_with (refine ⟨trivial, rfl, ?_⟩; gi_at_call 44; refine SC.out.mono ?_; rintro e w1 ⟨kv, rfl, y1, b1, l1⟩
               obtain ⟨ka, kc, rfl⟩ := y1.slice
               have H1 := Lib.hid (And.intro y1 b1)
               have L1 := Lib.hid (show ∀ b o x, ka = some ⟨b, o, x⟩ → W.heap.size ≤ b ∧ b < w1.heap.size from fun b o x e => l1 ⟨b, o, x⟩ _ _ (by rw [e]))
               clear y1 b1 l1)
  have hN : (Em.skeys D).length ≤ 256 := by rw [Em.skeys_len]; exact hs
  have hO := hJ 0 (fun _ => False) (fun k => W.heap.size ≤ k ∧ k < w1.heap.size) W w1 HH.out.1 (Moves.of_below H1.out.2) (fun _ h => h.elim) (fun _ h => Or.inr h.1)
  have R1 := rows_below HH.out.2.1 H1.out.2 (by omega)
  have G1 := (H1.out.2.cell (p := ⟨g, 0, none⟩) (by simp only; omega)).trans f0
  have HS := Lib.hid (And.intro hO (And.intro R1 (And.intro G1 H1.out.1)))
  clear hO R1 G1 f0
  generalize hn : (Em.skeys D).length = N at *
  have HN := Lib.hid hn
  clear hn
  gi_loopw [8] (fun p wr => ∃ k : Nat, p = .int .i64 (k : Int) ∧ k ≤ N ∧ J k (fun k => W.heap.size ≤ k ∧ k < w1.heap.size) wr ∧ RowsIn wr m n D ∧ wr.cell? ⟨g, 0, none⟩ = some (.map (some m)) ∧ KeysAt wr (.slice ka N kc) (Em.skeys D) ∧ w1.heap.size ≤ wr.heap.size) (fun p _ => N + 1 - (intOf p).toNat)
  case atStart => exact ⟨0, rfl, by omega, HS.out.1, HS.out.2.1, HS.out.2.2.1, HS.out.2.2.2, Nat.le_refl _⟩
  case round =>
    obtain ⟨k, rfl, hk, hJk, rk, fk, yk, sk⟩ := hrel
    by_cases hlt : k < N
    · have i0 : (0 : Int) ≤ (k : Int) := by omega
      have i1 : (k : Int) < (N : Int) := by omega
      obtain ⟨kk, hkk⟩ : ∃ x, (Em.skeys D)[k]? = some x := ⟨_, List.getElem?_eq_getElem (by rw [HN.out]; exact hlt)⟩
      obtain ⟨b, rfl, hc⟩ := yk.at hkk
      have lk := lookup_row rk kk (by have := (Em.skeys_mem HH.out.2.2 (List.mem_of_getElem? hkk)).2; omega)
      have hx : (Em.tell D)[k]? = some (kk, Em.valueOf D kk) := by unfold Em.tell; rw [List.getElem?_map, hkk]; rfl
      obtain ⟨fn, tmps, assign, body, hy, hR⟩ := hY k _ _ wr hx hJk
      simp only [encP] at hy
      have H2 := Lib.hid (And.intro rk (And.intro fk (And.intro yk sk)))
      clear rk yk sk hkk hx
      gi_wp2
      refine ⟨rfl, hR.mono ?_⟩
      rintro e W' (⟨rfl, hJ', hk'⟩ | ⟨rfl, hJx', hk'⟩)
      · have hw1 : IntKind.i64.wrap ((k : Int) + 1) = ((k + 1 : Nat) : Int) := IntWalk.i64_in _ (by omega)
        gi_wp2
        obtain ⟨rk, fk, yk, sk⟩ := H2.out
        refine ⟨⟨k + 1, by simp, by omega, hJ', rows_keeps rk hk' (Or.inr (Or.inl rfl)), ?_, yk.keeps hk' (fun b o x e => Or.inl (L1.out b o x e)), Nat.le_trans sk hk'.size⟩, ?_⟩
        · have := H1.out.2.size
          exact (World.cell?_of_block (hk'.block g (Or.inr (Or.inr rfl)) (by omega))).trans fk
        · simp [intOf]; omega
      · gi_wp2
        simp +zetaDelta only [Exit.noGoto_normal]; refine bodyPost_end (results_none rfl _ _ _) rfl ?_
        exact ⟨⟨_, rfl⟩, _, .inr ⟨k + 1, by have e : (Em.tell D).length = N := by unfold Em.tell; rw [List.length_map]; exact HN.out
                                            omega, hJx'⟩⟩
    · obtain rfl : k = N := by omega
      gi_wp2
      simp +zetaDelta only [Exit.noGoto_normal]; refine bodyPost_end (results_none rfl _ _ _) rfl ?_
      exact ⟨⟨_, rfl⟩, _, .inl (by have e : (Em.tell D).length = k := by unfold Em.tell; rw [List.length_map]; exact HN.out
                                   rw [e]; exact hJk)⟩

end Go.Proofs.YtgffifleflkjoaaGreat

namespace Go.Proofs.YtgffifleflkjoaaGreat
open Go.RowKit Dm

theorem log_clip {w : World} {pl pd md : Nat} {e : Em.E} {F : Nat → Prop} (x : LogAt w pl pd md e F) : LogAt w pl pd md e (fun k => F k ∧ k < w.heap.size) := by
  obtain ⟨l1, l2, l3, l4, l5⟩ := x.disk.lt
  exact ⟨x.good, x.disk.weak (fun k hk hl => ⟨hk, hl⟩) (fun h => l4 h.1) (fun h => l5 h.1), x.row, x.ne.1, x.ne.2.1, fun h => x.ne.2.2 h.1⟩

/-- Nothing of the engine moves. -/
theorem log_off {w w' : World} {pl pd md : Nat} {e : Em.E} {F O : Nat → Prop} (x : LogAt w pl pd md e F) (hm : Moves O w w') (h1 : ¬ O pl) (h2 : ¬ O pd) (h3 : ¬ O md) (h4 : ∀ k, F k → ¬ O k)
    (h5 : ∀ k, O k → k < w.heap.size → ∃ c t fr, w.heap[k]? = some (.cells c t fr)) : LogAt w' pl pd md e F := by
  obtain ⟨m, row, rows, hne⟩ := x.row
  have lm := rows.lt
  obtain ⟨l1, l2, _, _, _⟩ := x.disk.lt
  have hO : ¬ O m := by
    intro h
    obtain ⟨c, t, fr, hc⟩ := h5 m h lm
    obtain ⟨es, clock, k1, _⟩ := rows
    rw [k1] at hc
    cases hc
  refine ⟨x.good, x.disk.keeps (hm.block pd l1 h2) (hm.block md l2 h3) (fun k hk hl => hm.block k hl (h4 k hk)) (fun _ h _ => h) (fun _ h => Or.inl h), ⟨m, (hm.block pl (lt_of_row row) h1).trans row, ?_, hne⟩, x.ne⟩
  obtain ⟨es, clock, k1, G, hs, hD⟩ := rows
  exact ⟨es, clock, (hm.block m lm hO).trans k1, G, hs, hD⟩

/-- Between two commits: the engine, the document's rows in a cell of their own. -/
structure LvRel (w0 : World) (pl pd md q : Nat) (i : Nat) (wr : World) (e : Em.E) (F : Nat → Prop) (v : Value) : Prop where
  log : LogAt wr pl pd md e F
  waits : e.d.waits.length ≤ 3 * i
  tidy : Maps.Tidy e.rows
  row : wr.heap[q]? = some (.cells #[v] tRowL (0, 0))
  pairs : PairsAt wr (fun b => b ≠ pl ∧ b ≠ pd ∧ b ≠ md ∧ b ≠ q) v (Em.tell e.rows)
  foot : ¬ F q
  ne : q ≠ pl ∧ q ≠ pd ∧ q ≠ md
  below : Below w0.heap.size w0 wr
  new : w0.heap.size ≤ pl ∧ w0.heap.size ≤ pd ∧ w0.heap.size ≤ md ∧ w0.heap.size ≤ q

theorem LvRel.tell {w0 wr : World} {pl pd md q i : Nat} {e : Em.E} {F : Nat → Prop} {v : Value} (h : LvRel w0 pl pd md q i wr e F v) : (Em.tell e.rows).length ≤ 256 := by rw [Em.tell_len]; exact h.log.good.few

theorem below_of_moves {w0 A B : World} {O : Nat → Prop} (hb : Below w0.heap.size w0 A) (hm : Moves O A B) (hO : ∀ k, O k → w0.heap.size ≤ k) : Below w0.heap.size w0 B :=
  ⟨hm.os.trans hb.os, hm.tape.trans hb.tape, hm.output.trans hb.output, Nat.le_trans hb.size hm.size, fun k hk => (hm.block k (Nat.lt_of_lt_of_le hk hb.size) (fun h => by have := hO k h; omega)).trans (hb.block k hk)⟩

/-- A commit that did not go. -/
theorem LvRel.stay {w0 wr w1 : World} {pl pd md q i : Nat} {e e' : Em.E} {F : Nat → Prop} {v : Value} {l : List Em.Change} (h : LvRel w0 pl pd md q i wr e F v) (hm : Moves (PLM pl pd md) wr w1) (x : LogAt w1 pl pd md e' (plus F wr w1)) (he : e' = (e.commit l).1)
    (hc : (e.commit l).2 ≠ 0) : LvRel w0 pl pd md q (i + 1) w1 e' (plus F wr w1) v := by
  subst he
  obtain ⟨n1, n2, n3⟩ := h.ne
  obtain ⟨z1, z2, z3, z4⟩ := h.new
  have ht := Em.commit_tell (l := l) h.log.good h.tidy (fun _ => trivial)
  rw [if_neg hc] at ht
  have lq := lt_of_row h.row
  refine ⟨x, ?_, ht.1, (hm.block q lq (fun e => by rcases e with e | e | e <;> omega)).trans h.row, ?_, ?_, h.ne, below_of_moves h.below hm (fun k hk => by rcases hk with e | e | e <;> omega), h.new⟩
  · have := Em.commit_waits e l
    have := h.waits
    omega
  · rw [ht.2]
    exact h.pairs.moves hm (fun b hb _ e => by rcases e with e | e | e <;> omega)
  · intro hk
    rcases hk with hk | hk
    · exact h.foot hk
    · omega

/-- One that went: the document's rows are laid behind it. -/
theorem LvRel.next {w0 wr w1 w2 : World} {pl pd md q i : Nat} {e e' : Em.E} {F : Nat → Prop} {v v' : Value} {l : List Em.Change} (h : LvRel w0 pl pd md q i wr e F v) (hm : Moves (PLM pl pd md) wr w1) (x : LogAt w1 pl pd md e' (plus F wr w1)) (he : e' = (e.commit l).1)
    (hc : (e.commit l).2 = 0) (b2 : Below w1.heap.size w1 w2) (hp : PairsAt w2 (fun b => (b ≠ pl ∧ b ≠ pd ∧ b ≠ md ∧ b ≠ q) ∨ w1.heap.size ≤ b) v' (Em.rall (Em.tell e.rows) l).1) : LvRel w0 pl pd md q (i + 1) (w2.setCell ⟨q, 0, none⟩ v') e' (plus F wr w1) v' := by
  subst he
  obtain ⟨n1, n2, n3⟩ := h.ne
  obtain ⟨z1, z2, z3, z4⟩ := h.new
  have ht := Em.commit_tell (l := l) h.log.good h.tidy (fun _ => trivial)
  rw [if_pos hc] at ht
  have lq := lt_of_row h.row
  have sm := hm.size
  have r1 := (hm.block q lq (fun e => by rcases e with e | e | e <;> omega)).trans h.row
  have r2 := (b2.block q (by omega)).trans r1
  have lx := x.disk.lt
  have lp := lt_of_row x.row.choose_spec.1
  have ms := setCell_moves w2 q 0 v'
  have hF : ¬ plus F wr w1 q := by
    intro hk
    rcases hk with hk | hk
    · exact h.foot hk
    · omega
  have x2 : LogAt w2 pl pd md (e.commit l).1 (plus F wr w1) := log_off x (Moves.of_below (O := fun _ => False) b2) (fun h => h) (fun h => h) (fun h => h) (fun _ _ h => h) (fun _ h => h.elim)
  have x3 := log_off x2 ms (fun e => n1 e.symm) (fun e => n2 e.symm) (fun e => n3 e.symm) (fun k hk e => by subst e; exact hF hk) (fun k hk _ => by subst hk; exact ⟨_, _, _, r2⟩)
  refine ⟨x3, ?_, ht.1, heap_setCell_same _ _ 0 _ tRowL v' r2, ?_, hF, h.ne, below_of_moves (below_more (below_of_moves h.below hm (fun k hk => by rcases hk with e | e | e <;> omega)) b2) ms (fun k hk => by omega), h.new⟩
  · have := Em.commit_waits e l
    have := h.waits
    omega
  · rw [ht.2]
    refine (hp.weak (F' := fun b => b ≠ pl ∧ b ≠ pd ∧ b ≠ md ∧ b ≠ q) (fun b hb _ => ?_)).moves ms (fun b hb _ e => hb.2.2.2 e)
    rcases hb with hb | hb
    · exact hb
    · exact ⟨by omega, by omega, by omega, by omega⟩

theorem lt_of_row' {w : World} {k : Nat} {o : Obj} (h : w.heap[k]? = some o) : k < w.heap.size := (Array.getElem?_eq_some_iff.1 h).1

/-- The law's end: what stands in the result's cell. -/
theorem leaves_end {w W : World} {q6 : Nat} {ds : List Nat} {tmps : Array Value} (hb : Below w.heap.size w W) (hq : w.heap.size ≤ q6) (r6 : W.heap[q6]? = some (.cells #[.bool false] 4 (0, 0))) (hn : ds.Nodup)
    (hd : ∀ D ∈ ds, W.heap[D]? = some (.deferred (some [])) ∧ w.heap.size ≤ D) (ht : tmps.getD 6 undef = .pointer (some ⟨q6, 0, none⟩)) :
    LeavesInM Fence.wide 0 Tryz.prog Tryz.f4 tmps (fun e w' => e = .returned (.bool true) ∧ Below w.heap.size w w') (ds.map fun D => { target := .collected D, args := #[] }) .returning (W.setCell ⟨q6, 0, none⟩ (.bool true)) := by
  have ms := setCell_moves W q6 0 (.bool true)
  have r6' : (W.setCell ⟨q6, 0, none⟩ (.bool true)).heap[q6]? = some (.cells #[.bool true] 4 (0, 0)) := heap_setCell_same W q6 0 _ 4 (.bool true) r6
  have hne : ∀ D ∈ ds, D ≠ q6 := by
    rintro D hD rfl
    have := (hd D hD).1
    rw [r6] at this
    cases this
  refine leaves_marks ds _ hn (fun D hD => (ms.block D (lt_of_row' (hd D hD).1) (hne D hD)).trans (hd D hD).1) (fun w' hm => ⟨.bool true, ?_, rfl, ?_⟩)
  · refine results_cell_one rfl _ _ ⟨q6, 0, none⟩ (.bool true) ht ?_ (by kernel_rfl)
    exact row_cell ((hm.block q6 (lt_of_row r6') (fun h => hne q6 h rfl)).trans r6') rfl
  · exact below_of_moves (below_of_moves hb ms (fun k hk => by omega)) hm (fun k hk => (hd k hk).2)

theorem ActsIn.all {w : World} {v : Value} {Q : List ActQ} (h : ActsIn w v Q) : ∀ q ∈ Q, ActIs w q := by
  intro q hq
  rcases h with ⟨_, rfl⟩ | ⟨b, o, cap, cs, t, fr, h1, h2, h3⟩
  · cases hq
  · obtain ⟨i, hi⟩ := List.mem_iff_getElem?.1 hq
    exact (h3 i q hi).1

theorem act_src {w : World} {q : ActQ} {g : Nat} {t : TypeId} {fr : Nat × Nat} (r : w.heap[g]? = some (.cells (actCells q).toArray t fr)) (h : ∀ u ∈ actCells q, u.oneCell' = true) : SrcAt w 6 (.slice (some ⟨g, 0, none⟩) 1 1) [q].length (cellsA [q]) := by
  have e : cellsA [q] = actCells q := by simp [cellsA]
  refine Or.inr ⟨⟨g, 0, none⟩, 1, rfl, cellsA_len [q], fun j u hj => ?_, fun u hu => h u (by rw [← e]; exact hu)⟩
  rw [addr_add, cell_of_row _ _ _ _ _ _ r, Nat.zero_add]
  rw [e] at hj
  simpa using hj

/-- What the law's turns read. -/
structure TurnW (w W : World) (qw g m : Nat) (many : Int) (D : Em.Rows) (v : Value) : Prop where
  below : Below w.heap.size w W
  r4 : W.heap[w.heap.size]? = some (.cells #[.int .i64 many] 3 (0, 0))
  r6 : W.heap[w.heap.size + 1]? = some (.cells #[.bool false] 4 (0, 0))
  rq : W.heap[qw]? = some (.cells #[v] tRowL (0, 0))
  rg : W.heap[g]? = some (.cells #[.map (some m)] tRows (0, 0))
  rows : RowsIn W m (Maps.size D) D
  pairs : PairsAt W (fun _ => True) v (Em.tell D)

theorem TurnW.later {w W W' : World} {qw g m : Nat} {many : Int} {D : Em.Rows} {v : Value} (h : TurnW w W qw g m many D v) (hb : Below W.heap.size W W') : TurnW w W' qw g m many D v :=
  ⟨h.below.trans (hb.mono h.below.size), (hb.block _ (lt_of_row h.r4)).trans h.r4, (hb.block _ (lt_of_row h.r6)).trans h.r6, (hb.block _ (lt_of_row h.rq)).trans h.rq, (hb.block _ (lt_of_row h.rg)).trans h.rg, rows_below h.rows hb h.rows.lt, h.pairs.later hb⟩

end Go.Proofs.YtgffifleflkjoaaGreat

namespace Go.Proofs.YtgffifleflkjoaaGreat
open Go.RowKit Dm

theorem wpIn_rangeIter2 {α : Type} {P : Program} {g : Operand} {p q r s bl : Nat} {assign body : Code} {Q : Exit → Act → World → Prop} {a : Act} {w : World}
    {gf : Nat} {lb : Array Value} (hg : a.eval g = .func (.func gf) #[] lb) (eg : ∀ args w, (callFunc gf args).run P w = .ok (.enter gf args) w)
    {u v : α → Value} {xs : List α} {R : Nat → Prop} {w0 : World} (hseq : Iter P gf lb (fun x => #[u x, v x]) xs R w0) (hR : ∀ i, R i → i < w.heap.size) (hb0 : Below w0.heap.size w0 w)
    (I : Nat → (Nat → Prop) → World → Prop) (Ix : Nat → (Nat → Prop) → World → Prop) (hI : Stable I) (hIx : Stable Ix)
    (hIb : ∀ k O (r : Loop) (o : Obj) W, W.heap[w.heap.size + 1]? = some (.loop r) → I k O W → I k O (W.putObj (w.heap.size + 1) o))
    (hIxb : ∀ k O (r : Loop) (o : Obj) W, W.heap[w.heap.size + 1]? = some (.loop r) → Ix k O W → Ix k O (W.putObj (w.heap.size + 1) o))
    (h0 : ∀ W, Below w.heap.size w W → W.heap.size = w.heap.size + 2 → I 0 (fun _ => False) W)
    (hassign : ∀ (x : α) (l : Nat) (W : World), assign.wpIn (Fence.wide.inRound l) 0 P (Exit.then (fun a' W' => a' = { tmps := (((a.tmps.setIfInBounds p (u x)).setIfInBounds q (v x)).setIfInBounds r (u x)).setIfInBounds s (v x), defers := [] } ∧ W' = W) (fun _ _ _ => False))
      { tmps := (a.tmps.setIfInBounds p (u x)).setIfInBounds q (v x), defers := [] } W)
    (hbody : ∀ (k : Nat) (x : α) (O : Nat → Prop) (W : World), xs[k]? = some x → ¬ O (w.heap.size + 1) → ¬ O w.heap.size → I k O W →
      body.wpIn (Fence.wide.inRound (w.heap.size + 1)) 0 P (iterPost (fun i => O i ∨ R i ∨ i = w.heap.size + 1 ∨ i = w.heap.size) I (fun c k O W => c = .exit bl ∧ Ix k O W) xs k O W)
        { tmps := (((a.tmps.setIfInBounds p (u x)).setIfInBounds q (v x)).setIfInBounds r (u x)).setIfInBounds s (v x), defers := [] } W)
    (hend : ∀ (k : Nat) (O : Nat → Prop) (W : World), k ≤ xs.length → ((k = xs.length ∧ I k O W) ∨ Ix k O W) → ¬ O w.heap.size → W.heap[w.heap.size]? = some (.deferred (some [])) → Q .normal { a with defers := { target := .collected w.heap.size, args := #[] } :: a.defers } W) :
    (Code.rangeFunc g #[p, q] assign body).wpIn Fence.wide 0 P (Exit.inBlock bl Q) a w := by
  have hz : ∀ x, (#[p, q].zip #[u x, v x]).foldl (fun t (x : Nat × Value) => t.setIfInBounds x.1 x.2) a.tmps = (a.tmps.setIfInBounds p (u x)).setIfInBounds q (v x) := fun x => by simp
  refine wpIn_rangeIter hg eg hseq hR hb0 (fun _ => rfl) I (fun c k O W => c = .exit bl ∧ Ix k O W) hI (fun c k O O' A B h hm h1 h2 => ⟨h.1, hIx k O O' A B h.2 hm h1 h2⟩) hIb (fun c k O r o W h hx => ⟨hx.1, hIxb k O r o W h hx.2⟩) h0
    (fun x a' _ => a' = { tmps := (((a.tmps.setIfInBounds p (u x)).setIfInBounds q (v x)).setIfInBounds r (u x)).setIfInBounds s (v x), defers := [] }) (fun x a' W l r o _ h => h) ?_ ?_ ?_ ?_
  · intro k x O W hx hi _ _ _
    have := hassign x (w.heap.size + 1) W
    rw [← hz x] at this
    refine wpIn_mono this (fun e a' W' he => ?_)
    cases e with
    | normal =>
      obtain ⟨rfl, rfl⟩ := he
      exact ⟨hi, Keeps.refl _ _, by rw [hz x]⟩
    | ret => exact he
    | exit id => exact he
    | goto t => exact he
    | panic ch => exact he
    | outgrown => exact he
  · rintro k x O a' W hx _ _ h1 h2 hi rfl
    exact hbody k x O W hx h1 h2 hi
  · intro O W hi ho hD
    exact hend xs.length O W (Nat.le_refl _) (Or.inl ⟨rfl, hi⟩) ho hD
  · rintro c k O W hk ⟨rfl, hx⟩ ho hD
    refine wpIn_wide.2 (wp_exit ?_)
    simpa [Exit.inBlock] using hend k O W hk (Or.inr hx) ho hD

/-- Between two rounds of the law's ranges. -/
def LvI (W8 : World) (q : Nat) (C : Nat → Prop) (k : Nat) (O : Nat → Prop) (W : World) : Prop :=
  Moves (fun i => i = q) W8 W ∧ W.heap[q]? = some (.cells #[.int .i64 (k : Int)] 3 (0, 0)) ∧ (∀ i, O i → W8.heap.size ≤ i) ∧ C k

theorem lvI_stable {W8 : World} {q : Nat} {C : Nat → Prop} (hq : q < W8.heap.size) : Stable (LvI W8 q C) := by
  rintro k O O' A B ⟨h1, h2, h3, h4⟩ hm ho1 ho2
  refine ⟨h1.trans hm (fun i hi h => absurd (h3 i h) (by omega)), (hm.block q (lt_of_row h2) (fun h => absurd (h3 q h) (by omega))).trans h2, fun i hi => ?_, h4⟩
  rcases ho2 i hi with h | h
  · exact h3 i h
  · exact Nat.le_trans h1.size h

theorem lvI_put {W8 : World} {q : Nat} {C : Nat → Prop} (hq : q < W8.heap.size) (k : Nat) (O : Nat → Prop) (o : Obj) (W : World) (h : LvI W8 q C k O W) : LvI W8 q C k O (W.putObj (W8.heap.size + 1) o) := by
  obtain ⟨h1, h2, h3, h4⟩ := h
  exact ⟨h1.trans (moves_putObj (l := W8.heap.size + 1) o) (fun i hi h => by omega), (World.putObj_heap_other (by omega)).trans h2, h3, h4⟩

theorem lvI_start {W8 : World} {q : Nat} {C : Nat → Prop} (r : W8.heap[q]? = some (.cells #[.int .i64 0] 3 (0, 0))) (h0 : C 0) (W : World) (hb : Below W8.heap.size W8 W) : LvI W8 q C 0 (fun _ => False) W :=
  ⟨Moves.of_below hb, (hb.block q (lt_of_row r)).trans r, fun i h => h.elim, h0⟩

/-- What stands apart from the count is as it was. -/
theorem LvI.row {W8 W : World} {q k : Nat} {C O : Nat → Prop} (h : LvI W8 q C k O W) {b : Nat} {o : Obj} (r : W8.heap[b]? = some o) (hb : b ≠ q) : W.heap[b]? = some o := (h.1.block b (lt_of_row' r) hb).trans r

end Go.Proofs.YtgffifleflkjoaaGreat

namespace Go.Proofs.YtgffifleflkjoaaGreat
open Go.RowKit

theorem eql_func_nil (t : TypeId) {a b : Array TypeId} {v : Bool} (ht : Tryz.prog.underlying t = some (.func a b v)) (f : Fn) (x c : Array Value) (w : World) : (binOp .eql t (.func f x c) .nilFunc).run Tryz.prog w = .ok (.bool false) w := by
  unfold binOp Op.equal Op.maxDepth Op.equalIn
  simp [run_underlying ht]

end Go.Proofs.YtgffifleflkjoaaGreat
