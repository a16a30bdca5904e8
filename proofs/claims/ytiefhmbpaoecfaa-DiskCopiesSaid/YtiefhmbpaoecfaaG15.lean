/-
  The document's disk: steps as rows; Stop.
-/
import Derived.Test.YtiefhmbpaoecfaaG14

namespace Go.Proofs.Ytiefhmbpaoecfaa
open Go.RowKit Dm

def flat4 (us : List (Step × Value)) : List Value := us.flatMap (fun e => [.int .i64 e.1.what, .int .i64 e.1.n, .int .i64 e.1.many, e.2])

theorem flat4_push (us : List (Step × Value)) (e : Step × Value) : flat4 (us ++ [e]) = flat4 us ++ [.int .i64 e.1.what, .int .i64 e.1.n, .int .i64 e.1.many, e.2] := by simp [flat4]
theorem flat4_cons (a : Step × Value) (l : List (Step × Value)) : flat4 (a :: l) = .int .i64 a.1.what :: .int .i64 a.1.n :: .int .i64 a.1.many :: a.2 :: flat4 l := rfl
theorem flat4_len (us : List (Step × Value)) : (flat4 us).length = us.length * 4 := by
  induction us with
  | nil => rfl
  | cons a l ih => rw [flat4_cons]; simp [ih]; omega
theorem flat4_at (us : List (Step × Value)) (i : Nat) (e : Step × Value) (h : us[i]? = some e) :
    (flat4 us)[i * 4]? = some (.int .i64 e.1.what) ∧ (flat4 us)[i * 4 + 1]? = some (.int .i64 e.1.n) ∧ (flat4 us)[i * 4 + 2]? = some (.int .i64 e.1.many) ∧ (flat4 us)[i * 4 + 3]? = some e.2 := by
  induction us generalizing i with
  | nil => cases h
  | cons a l ih =>
    cases i with
    | zero => cases h; exact ⟨rfl, rfl, rfl, rfl⟩
    | succ i =>
      have := ih i (by simpa using h)
      have e1 : (i + 1) * 4 = i * 4 + 4 := by omega
      have e2 : i * 4 + 4 + 1 = i * 4 + 1 + 4 := by omega
      have e3 : i * 4 + 4 + 2 = i * 4 + 2 + 4 := by omega
      have e4 : i * 4 + 4 + 3 = i * 4 + 3 + 4 := by omega
      have st : ∀ j, (flat4 (a :: l))[j + 4]? = (flat4 l)[j]? := fun j => by rw [flat4_cons]; rfl
      rw [e1, e2, e3, e4, st, st, st, st]
      exact this
theorem flat4_inv (us : List (Step × Value)) (j : Nat) (u : Value) (h : (flat4 us)[j]? = some u) : ∃ e, us[j / 4]? = some e ∧ ((j % 4 = 0 ∧ u = .int .i64 e.1.what) ∨ (j % 4 = 1 ∧ u = .int .i64 e.1.n) ∨ (j % 4 = 2 ∧ u = .int .i64 e.1.many) ∨ (j % 4 = 3 ∧ u = e.2)) := by
  have hlt : j < us.length * 4 := by have := (List.getElem?_eq_some_iff.1 h).1; rwa [flat4_len] at this
  have hi : j / 4 < us.length := by omega
  obtain ⟨q0, q1, q2, q3⟩ := flat4_at us (j / 4) us[j / 4] (List.getElem?_eq_getElem hi)
  refine ⟨us[j / 4], List.getElem?_eq_getElem hi, ?_⟩
  obtain hr | hr | hr | hr : j % 4 = 0 ∨ j % 4 = 1 ∨ j % 4 = 2 ∨ j % 4 = 3 := by omega
  · have : j / 4 * 4 = j := by omega
    rw [this, h] at q0; cases q0; exact Or.inl ⟨hr, rfl⟩
  · have : j / 4 * 4 + 1 = j := by omega
    rw [this, h] at q1; cases q1; exact Or.inr (Or.inl ⟨hr, rfl⟩)
  · have : j / 4 * 4 + 2 = j := by omega
    rw [this, h] at q2; cases q2; exact Or.inr (Or.inr (Or.inl ⟨hr, rfl⟩))
  · have : j / 4 * 4 + 3 = j := by omega
    rw [this, h] at q3; cases q3; exact Or.inr (Or.inr (Or.inr ⟨hr, rfl⟩))

/-- The raw cells of a row of steps. -/
theorem RStepsAt.src {w : World} {F : Nat → Prop} {v : Value} {l : List Step} (x : RStepsAt w.heap F v l) : ∃ us : List (Step × Value), us.map (·.1) = l ∧ (∀ e ∈ us, BytesAt w.heap F e.2 e.1.b) ∧ SrcAt w 4 v l.length (flat4 us) := by
  rcases x with ⟨rfl, rfl⟩ | ⟨b, o, cap, c, t, fr, rfl, h2, h3, g2, g3, g4⟩
  · exact ⟨[], rfl, (fun e he => by cases he), Or.inl ⟨rfl, rfl, rfl⟩⟩
  · have look : ∀ i (hi : i < l.length), ∃ u, c[o + i * 4]? = some (.int .i64 l[i].what) ∧ c[o + i * 4 + 1]? = some (.int .i64 l[i].n) ∧ c[o + i * 4 + 2]? = some (.int .i64 l[i].many) ∧ c[o + i * 4 + 3]? = some u ∧ BytesAt w.heap F u l[i].b := fun i hi => by
      obtain ⟨w0, w1, w2, u, e0, e1, e2, e3, ⟨rfl, rfl, rfl, e4⟩⟩ := g4 i l[i] (List.getElem?_eq_getElem hi)
      exact ⟨u, e0, e1, e2, e3, e4⟩
    have gx : ∀ i e, (List.ofFn (fun i : Fin l.length => (l[i.1], (c[o + i.1 * 4 + 3]?).getD undef)))[i]? = some e → ∃ hi : i < l.length, e = (l[i], (c[o + i * 4 + 3]?).getD undef) := fun i e he => by
      rw [List.getElem?_ofFn] at he
      split at he
      · rename_i hi; exact ⟨hi, by simpa using he.symm⟩
      · cases he
    refine ⟨List.ofFn (fun i : Fin l.length => (l[i.1], (c[o + i.1 * 4 + 3]?).getD undef)), ?_, fun e he => ?_, Or.inr ⟨⟨b, o, none⟩, cap, rfl, by rw [flat4_len, List.length_ofFn], fun j u hj => ?_, fun u hu => ?_⟩⟩
    · apply List.ext_getElem
      · simp
      · intro i h1 h2; simp
    · obtain ⟨i, hi⟩ := List.mem_iff_getElem?.1 he
      obtain ⟨hlt, rfl⟩ := gx i e hi
      obtain ⟨u, _, _, _, q3, q4⟩ := look i hlt
      rw [q3]; exact q4
    · obtain ⟨e, he, hu⟩ := flat4_inv _ _ _ hj
      obtain ⟨hlt, rfl⟩ := gx _ e he
      obtain ⟨u', q0, q1, q2, q3, q4⟩ := look (j / 4) hlt
      rw [addr_add, cell_of_row _ _ _ _ _ _ g3]
      rcases hu with ⟨hr, rfl⟩ | ⟨hr, rfl⟩ | ⟨hr, rfl⟩ | ⟨hr, rfl⟩
      · rw [← q0]; congr 1; omega
      · rw [← q1]; congr 1; omega
      · rw [← q2]; congr 1; omega
      · rw [show o + j = o + j / 4 * 4 + 3 by omega, q3]; rfl
    · obtain ⟨j, hj⟩ := List.mem_iff_getElem?.1 hu
      obtain ⟨e, he, hu'⟩ := flat4_inv _ _ _ hj
      obtain ⟨hlt, rfl⟩ := gx _ e he
      obtain ⟨u', q0, q1, q2, q3, q4⟩ := look (j / 4) hlt
      rcases hu' with ⟨hr, rfl⟩ | ⟨hr, rfl⟩ | ⟨hr, rfl⟩ | ⟨hr, rfl⟩
      · rfl
      · rfl
      · rfl
      · simp only [q3, Option.getD_some]; exact q4.one

/-- A row of one's own reads as steps. -/
theorem rsteps_of_owns {w : World} {h : Array Obj} {F F' : Nat → Prop} {base : Nat} {v : Value} {us : List (Step × Value)} (own : w.ownsRow base tRStep 4 v us.length (flat4 us)) (hu : ∀ e ∈ us, BytesAt h F e.2 e.1.b) (hs : ∀ k, F k → k < h.size → w.heap[k]? = h[k]?) (hF : ∀ k, F k → k < h.size → F' k) (hB : ∀ k, base ≤ k → k < w.heap.size → F' k) : RStepsAt w.heap F' v (us.map (·.1)) := by
  obtain ⟨_, own⟩ := own
  rcases own with ⟨rfl, h0⟩ | ⟨g, cap, cur, rfl, hg, hh, h1, h2, h3, h4⟩
  · have : us = [] := List.eq_nil_of_length_eq_zero h0
    exact Or.inl ⟨rfl, by rw [this]; rfl⟩
  · refine Or.inr ⟨g, 0, cap, cur, tRStep, (0, 0), by simp, by simpa using h1, by unfold maxLen at h2; omega, hB g hg (lt_of_row hh), hh, fun i s hi => ?_⟩
    obtain ⟨e, he, rfl⟩ : ∃ e, us[i]? = some e ∧ e.1 = s := by simpa using hi
    have hlt : i < us.length := (List.getElem?_eq_some_iff.1 he).1
    obtain ⟨q0, q1, q2, q3⟩ := flat4_at us i e he
    rw [← h4, List.getElem?_take, if_pos (by omega)] at q0 q1 q2 q3
    exact ⟨_, _, _, e.2, by simpa using q0, by simpa using q1, by simpa using q2, by simpa using q3, rfl, rfl, rfl, (hu e (List.mem_of_getElem? he)).keeps hs hF⟩

set_option maxRecDepth 100000 in
set_option maxHeartbeats 1000000 in
theorem rstop_c {w : World} {F : Nat → Prop} {v : Value} {d : D} (hr : RefAt w.heap F v d) (n : Int) : Calls Try.prog 38 #[v, .int .i64 n] w (GivesRef w F (d.stop n)) := by
  obtain ⟨sv, t0, t1, t2, t3, wv, rfl, rb, st⟩ := hr
  have ones := ref_ones rb st d.many d.room
  obtain ⟨b0, r0, r1, z0⟩ := refW_facts w (refC d.many d.room sv t0 t1 t2 t3 wv d.dead d.stops)
  have HD := Lib.hid (And.intro rb (And.intro st (And.intro ones (And.intro b0 (And.intro r0 (And.intro r1 z0))))))
  clear rb st ones
  have k8 : (refW w (refC d.many d.room sv t0 t1 t2 t3 wv d.dead d.stops)).cell? ⟨w.heap.size, 8, none⟩ = some (.bool d.dead) := row_cell r0 rfl
  have k9 : (refW w (refC d.many d.room sv t0 t1 t2 t3 wv d.dead d.stops)).cell? ⟨w.heap.size, 9, none⟩ = some (.int .i64 d.stops) := row_cell r0 rfl
  obtain ⟨C, hC⟩ : ∃ C, refC d.many d.room sv t0 t1 t2 t3 wv d.dead d.stops = C := ⟨_, rfl⟩
  have f9 := row_free r0 9
  rw [hC] at HD k8 k9 f9
  rw [hC]
  have HC := Lib.hid hC
  clear hC
  obtain ⟨W0, hW0⟩ : ∃ W0, refW w C = W0 := ⟨_, rfl⟩
  rw [hW0] at HD k8 k9 f9
  clear b0 r0 r1 z0
  have fin : ∀ (dead : Bool) (stops : Int) (c : Int) (W : World), Moves (fun k => k = w.heap.size) W0 W → W.heap[w.heap.size]? = some (.cells (refC d.many d.room sv t0 t1 t2 t3 wv dead stops) tRDisk (0, 0)) → W.heap[w.heap.size + 1]? = some (.cells ref0 tRDisk (0, 0)) ∧
      ∀ W5, Moves (fun k => k = w.heap.size + 1) W W5 → d.stop n = ({ d with dead := dead, stops := stops }, c) → GivesRef w F (d.stop n) (.returned (.tuple #[.agg (refC d.many d.room sv t0 t1 t2 t3 wv dead stops), .int .i64 c])) W5 := by
    intro dead stops c W hm hrow
    have hbW : Below w.heap.size w W := Moves.new HD.out.2.2.2.1 hm (Nat.le_refl _)
    refine ⟨?_, fun W5 h5 he => ?_⟩
    · rw [hm.block _ (by rw [HD.out.2.2.2.2.2.2]; omega) (by omega)]; exact HD.out.2.2.2.2.2.1
    · have hb5 : Below w.heap.size w W5 := Moves.new hbW h5 (by omega)
      rw [he]
      exact ⟨_, rfl, hb5, ref_flags HD.out.1 HD.out.2.1 hb5 dead stops _ rfl⟩
  have FIN := Lib.hid fin
  clear fin
  have y0 := HD.out.2.2.2.2.1
  rw [← HC.out] at y0
  have e0 : ({ d with dead := d.dead, stops := d.stops } : D) = d := rfl
  by_cases hn : n < 0
  · have hg : d.stop n = ({ d with dead := d.dead, stops := d.stops }, 2) := by unfold D.stop; rw [if_pos hn]
    have F1 := Lib.hid (FIN.out d.dead d.stops 2 _ (Moves.refl _ _) y0)
    have Y2 := Lib.hid y0
    have HG := Lib.hid hg
    clear y0 hg e0
    go_enter Try.func38, Try.ntmps38
    go_upto_region 1 with fail
    clear hW0
    go_wp2_with (first
      | (refine wpList_load_row rfl tRDisk (.tmp 2) rfl w.heap.size rfl tRDisk _ (0, 0) _ Y2.out Try.underlying42 rfl infoRD ?_)
      | (refine wpList_store_abs rfl tRDisk (.tmp 4) (.tmp 8) rfl (w.heap.size + 1) _ rfl rfl tRDisk ref0 F1.out.1 infoRD rfl (HD.out.2.2.1 _ _) ?_
         intro W5 HW5 HM5 HS5))
    refine bodyPost_ret (results_cell_tmp rfl _ _ (w.heap.size + 1) _ _ _ _ _ rfl rfl HW5.out Try.underlying42 rfl infoRD) rfl ?_
    exact F1.out.2 W5 HM5 HG.out
  · cases hd : d.dead
    · have hg : d.stop n = ({ d with dead := d.dead, stops := n }, 0) := by unfold D.stop; rw [if_neg hn, hd]; rfl
      have y1 := heap_setCell_same W0 w.heap.size 9 _ tRDisk (.int .i64 n) y0
      have mv : Moves (fun k => k = w.heap.size) W0 (W0.setCell ⟨w.heap.size, 9, none⟩ (.int .i64 n)) := ⟨rfl, rfl, rfl, by simp, fun k hk hn => by rw [heap_setCell_other _ _ _ _ hn]⟩
      have F1 := Lib.hid (FIN.out d.dead n 0 _ mv y1)
      have Y2 : Hid ((W0.setCell ⟨w.heap.size, 9, none⟩ (.int .i64 n)).heap[w.heap.size]? = some (.cells (refC d.many d.room sv t0 t1 t2 t3 wv d.dead n) tRDisk (0, 0))) := y1
      have HG := Lib.hid hg
      rw [hd] at k8
      clear y0 y1 mv hg e0 hd
      go_enter Try.func38, Try.ntmps38
      go_upto_region 1 with fail
      clear hW0
      go_wp2_with (first
        | (refine wpList_load_row rfl tRDisk (.tmp 2) rfl w.heap.size rfl tRDisk _ (0, 0) _ Y2.out Try.underlying42 rfl infoRD ?_)
        | (refine wpList_store_abs rfl tRDisk (.tmp 4) (.tmp 14) rfl (w.heap.size + 1) _ rfl rfl tRDisk ref0 F1.out.1 infoRD rfl (HD.out.2.2.1 _ _) ?_
           intro W5 HW5 HM5 HS5))
      refine bodyPost_ret (results_cell_tmp rfl _ _ (w.heap.size + 1) _ _ _ _ _ rfl rfl HW5.out Try.underlying42 rfl infoRD) rfl ?_
      exact F1.out.2 W5 HM5 HG.out
    · have hg : d.stop n = ({ d with dead := d.dead, stops := d.stops }, 281) := by unfold D.stop; rw [if_neg hn, hd]; simp
      have F1 := Lib.hid (FIN.out d.dead d.stops 281 _ (Moves.refl _ _) y0)
      have Y2 := Lib.hid y0
      have HG := Lib.hid hg
      rw [hd] at k8
      clear y0 hg e0 hd
      go_enter Try.func38, Try.ntmps38
      go_upto_region 1 with fail
      clear hW0
      go_wp2_with (first
        | (refine wpList_load_row rfl tRDisk (.tmp 2) rfl w.heap.size rfl tRDisk _ (0, 0) _ Y2.out Try.underlying42 rfl infoRD ?_)
        | (refine wpList_store_abs rfl tRDisk (.tmp 4) (.tmp 11) rfl (w.heap.size + 1) _ rfl rfl tRDisk ref0 F1.out.1 infoRD rfl (HD.out.2.2.1 _ _) ?_
           intro W5 HW5 HM5 HS5))
      refine bodyPost_ret (results_cell_tmp rfl _ _ (w.heap.size + 1) _ _ _ _ _ rfl rfl HW5.out Try.underlying42 rfl infoRD) rfl ?_
      exact F1.out.2 W5 HM5 HG.out

end Go.Proofs.Ytiefhmbpaoecfaa
