/-
  The walk of the stage's theorem.
-/
import Derived.Test.YtpnfdffbbhedoaaW4
namespace Go.Proofs.Ytpnfdffbbhedoaa
open Go.RowKit

abbrev mirC : Array Value := #[.int .i64 0, .int .i64 3, .int .i64 4, .int .i64 1, .int .i64 2]
def mirI (x : Int) : Int := if x = 1 then 3 else if x = 2 then 4 else if x = 3 then 1 else 2

theorem ten {s : Int} (h : 1 ≤ s) (h' : s ≤ 10) : s = 1 ∨ s = 2 ∨ s = 3 ∨ s = 4 ∨ s = 5 ∨ s = 6 ∨ s = 7 ∨ s = 8 ∨ s = 9 ∨ s = 10 := by omega

/-- What a step does at both ends. -/
theorem mir_next (s x : Int) (h : 1 ≤ s) (h' : s ≤ 10) (hx : 1 ≤ x) (hx' : x ≤ 4) :
    ∃ (t : Int) (is : Bool), nextI true s x = (t, is, 0) ∧ nextI false s (mirI x) = (t, is, 0) ∧ s ≤ t ∧ t ≤ 10 := by
  have hx4 : x = 1 ∨ x = 2 ∨ x = 3 ∨ x = 4 := by omega
  rcases ten h h' with rfl | rfl | rfl | rfl | rfl | rfl | rfl | rfl | rfl | rfl <;> rcases hx4 with rfl | rfl | rfl | rfl <;> exact ⟨_, _, rfl, rfl, by decide, by decide⟩

theorem mir_cell (x : Int) (hx : 1 ≤ x) (hx' : x ≤ 4) : mirC[x.toNat]? = some (.int .i64 (mirI x)) := by
  have hx4 : x = 1 ∨ x = 2 ∨ x = 3 ∨ x = 4 := by omega
  rcases hx4 with rfl | rfl | rfl | rfl <;> rfl

theorem key5 (t : Int) : ∃ x y : Bool, standsB true t true = x ∧ standsB true t false = y ∧ standsB false t false = x ∧ standsB false t true = y ∧
    ((x = false ∧ y = false ∧ t < 2) ∨ (x = false ∧ y = true ∧ 2 ≤ t ∧ t < 4) ∨ (x = true ∧ y = true ∧ 4 ≤ t ∧ t ≤ 6) ∨ (x = false ∧ y = true ∧ 6 < t ∧ t ≤ 8) ∨ (x = false ∧ y = false ∧ 8 < t)) := by
  refine ⟨inB t 4 6, inB t 2 8, rfl, rfl, rfl, rfl, ?_⟩
  by_cases h1 : t < 2
  · exact Or.inl ⟨inB_false (by omega), inB_false (by omega), h1⟩
  · by_cases h2 : t < 4
    · exact Or.inr (Or.inl ⟨inB_false (by omega), inB_true (by omega) (by omega), by omega, h2⟩)
    · by_cases h3 : t ≤ 6
      · exact Or.inr (Or.inr (Or.inl ⟨inB_true (by omega) (by omega), inB_true (by omega) (by omega), by omega, h3⟩))
      · by_cases h4 : t ≤ 8
        · exact Or.inr (Or.inr (Or.inr (Or.inl ⟨inB_false (by omega), inB_true (by omega) (by omega), by omega, h4⟩)))
        · exact Or.inr (Or.inr (Or.inr (Or.inr ⟨inB_false (by omega), inB_false (by omega), by omega⟩)))

theorem q_false {q : Bool} {s t : Int} (hq : q = true → 6 < s) (h : s ≤ t) (h' : t ≤ 6) : q = false := by
  cases q
  · rfl
  · have := hq rfl; omega

theorem q_or {q : Bool} {s t : Int} (hq : q = true → 6 < s) (h : s ≤ t) : (q = false ∧ t ≤ 6) ∨ 6 < t := by
  by_cases h' : t ≤ 6
  · exact Or.inl ⟨q_false hq h h', h'⟩
  · exact Or.inr (by omega)

def MeetsRel (w : World) (n : Nat) (a b into out i : Value) (wr : World) : Prop :=
  ∃ (s : Int) (p q : Bool) (k : Nat), a = .int .i64 s ∧ b = .int .i64 s ∧ into = .bool p ∧ out = .bool q ∧ i = .int .i64 k ∧ 1 ≤ s ∧ s ≤ 10 ∧ (q = true → 6 < s) ∧ k ≤ n ∧
    wr.heap[w.heap.size]? = some (.cells mirC 25 (0, 0)) ∧ Below w.heap.size w wr

set_option maxRecDepth 100000 in
set_option maxHeartbeats 8000000 in
theorem meets3 (b off n c : Nat) (zs : List Int) (e : Int) (w : World) (hn : n ≤ 60) (h0 : 0 < n) (hl : zs.length = n)
    (hc : ∀ k, k < n → w.cell? ⟨b, off + k, none⟩ = some (.int .i64 (zs.getD k 0))) (he : -9223372036854775808 ≤ e) (he' : e ≤ 9223372036854775807) :
    Calls Try.prog 3 #[.slice (some ⟨b, off, none⟩) n c, .int .i64 e] w fun e w' => e = .returned (.bool true) ∧ Below w.heap.size w w' := by
  have hbl : b < w.heap.size := block_lt_of_cell (hc 0 h0)
  have HC := Lib.hid hc
  clear hc
  go_enter Try.func3, Try.ntmps3
  go_wp2_with (refine wpList_store_new rfl 25 (.tmp 5) (.tmp 28) rfl _ mirC rfl rfl _ (by kernel_rfl) (by kernel_rfl) (by kernel_rfl) ?_)
  go_loopw [6, 7, 8, 9, 10] (MeetsRel w n) (fun _ _ _ _ i _ => n - (intOf i).toNat)
  case atStart => exact ⟨1, false, false, 0, rfl, rfl, rfl, rfl, rfl, by decide, by decide, by simp, by omega, heap_alloc_last _ _, by go_grown⟩
  case round =>
    obtain ⟨s, p, q, k, rfl, rfl, rfl, rfl, rfl, hs1, hs2, hq, hk, hm, hb⟩ := hrel
    have HM := Lib.hid hm
    clear hm
    have hbz : w.heap.size < wr.heap.size := (Array.getElem?_eq_some_iff.1 HM.out).1
    by_cases hlt : k < n
    · generalize hx : zs.getD k 0 = x
      have hcell : wr.cell? ⟨b, off + k, none⟩ = some (.int .i64 x) := by rw [hb.cell (p := ⟨b, off + k, none⟩) hbl, HC.out k hlt, hx]
      clear hx
      by_cases hx1 : x < 1
      ·
        go_wp2_with fail
        refine (works8 _).mono ?_
        rintro e' w1 ⟨rfl, h1⟩
        go_wp2_with fail
        go_ret
        exact ⟨rfl, hb.trans (h1.mono (Nat.le_of_lt hbz))⟩

      · by_cases hx4 : 4 < x
        ·
          go_wp2_with fail
          refine (works8 _).mono ?_
          rintro e' w1 ⟨rfl, h1⟩
          go_wp2_with fail
          go_ret
          exact ⟨rfl, hb.trans (h1.mono (Nat.le_of_lt hbz))⟩

        · obtain ⟨t, is, e1, e2, ht1, ht2⟩ := mir_next s x hs1 hs2 (by omega) (by omega)
          have hmc := mir_cell x (by omega) (by omega)
          have HMC := Lib.hid hmc
          clear hmc
          by_cases hke : (k : Int) = e
          · have hke' : ((k : Int) == e) = true := by simp [hke]
            clear hke
            by_cases h5 : t = 5
            · obtain rfl := h5
              have e5 : endI 5 = (6, 0) := rfl
              have u1 : standsB true 6 true = true := rfl
              have u2 : standsB true 6 false = true := rfl
              have u3 : standsB false 6 false = true := rfl
              have u4 : standsB false 6 true = true := rfl
              go_wp2_with fail
              refine (next9 _ _ _ _).mono ?_
              rintro e' w1 ⟨rfl, h1⟩
              have hc1 : w1.cell? ⟨b, off + k, none⟩ = some (.int .i64 x) := by rw [h1.cell (p := ⟨b, off + k, none⟩) (by show b < _; omega)]; exact hcell
              have hm1 : w1.heap[w.heap.size]? = some (.cells mirC 25 (0, 0)) := (h1.block _ hbz).trans HM.out
              have hd1 : w1.cell? ⟨w.heap.size, x.toNat, none⟩ = some (.int .i64 (mirI x)) := by rw [cell_of_row _ _ _ _ _ _ hm1]; exact HMC.out
              have HM1 := Lib.hid hm1
              clear hm1
              have hb1 := hb.trans (h1.mono (Nat.le_of_lt hbz))
              have hz1 := h1.size
              clear hb
              go_wp2_with fail
              refine (next9 _ _ _ _).mono ?_
              rintro e' w2 ⟨rfl, h2⟩
              have hm2 : w2.heap[w.heap.size]? = some (.cells mirC 25 (0, 0)) := (h2.block _ (by omega)).trans HM1.out
              have HM2 := Lib.hid hm2
              clear hm2
              have hb2 := hb1.trans (h2.mono (by omega))
              have hz2 := h2.size
              clear hb1
              go_wp2_with (go_at_call 10; refine (num10 _ _).mono ?_; rintro e w' ⟨rfl, rfl⟩)
              refine (end11 _ _).mono ?_
              rintro e' w3 ⟨rfl, h3⟩
              have hm3 : w3.heap[w.heap.size]? = some (.cells mirC 25 (0, 0)) := (h3.block _ (by omega)).trans HM2.out
              have HM3 := Lib.hid hm3
              clear hm3 HM2
              have hb3 := hb2.trans (h3.mono (by omega))
              have hz3 := h3.size
              clear hb2
              go_wp2_with fail
              refine (end11 _ _).mono ?_
              rintro e' w4 ⟨rfl, h4⟩
              have hm4 : w4.heap[w.heap.size]? = some (.cells mirC 25 (0, 0)) := (h4.block _ (by omega)).trans HM3.out
              have HM2 := Lib.hid hm4
              clear hm4 HM3
              have hb2 := hb3.trans (h4.mono (by omega))
              clear hb3
              obtain rfl := q_false hq ht1 (by omega)
              clear hq
              go_wp2_with (first | (go_at_call 10; refine (num10 _ _).mono ?_; rintro e w' ⟨rfl, rfl⟩) | (go_at_call 12; refine (stands12 _ _ _ _).mono ?_; rintro e w' ⟨rfl, rfl⟩))
              all_goals exact ⟨⟨6, _, _, k + 1, rfl, rfl, rfl, rfl, by go_num, by omega, by omega, by simp <;> omega, by omega, HM2.out, hb2⟩, by simp [intOf]; omega⟩

            · have e5 : endI t = (0, 190) := by simp only [endI]; rw [if_neg (by omega), if_neg h5]
              clear h5
              go_wp2_with fail
              refine (next9 _ _ _ _).mono ?_
              rintro e' w1 ⟨rfl, h1⟩
              have hc1 : w1.cell? ⟨b, off + k, none⟩ = some (.int .i64 x) := by rw [h1.cell (p := ⟨b, off + k, none⟩) (by show b < _; omega)]; exact hcell
              have hm1 : w1.heap[w.heap.size]? = some (.cells mirC 25 (0, 0)) := (h1.block _ hbz).trans HM.out
              have hd1 : w1.cell? ⟨w.heap.size, x.toNat, none⟩ = some (.int .i64 (mirI x)) := by rw [cell_of_row _ _ _ _ _ _ hm1]; exact HMC.out
              have HM1 := Lib.hid hm1
              clear hm1
              have hb1 := hb.trans (h1.mono (Nat.le_of_lt hbz))
              have hz1 := h1.size
              clear hb
              go_wp2_with fail
              refine (next9 _ _ _ _).mono ?_
              rintro e' w2 ⟨rfl, h2⟩
              have hm2 : w2.heap[w.heap.size]? = some (.cells mirC 25 (0, 0)) := (h2.block _ (by omega)).trans HM1.out
              have HM2 := Lib.hid hm2
              clear hm2
              have hb2 := hb1.trans (h2.mono (by omega))
              have hz2 := h2.size
              clear hb1
              go_wp2_with (go_at_call 10; refine (num10 _ _).mono ?_; rintro e w' ⟨rfl, rfl⟩)
              refine (end11 _ _).mono ?_
              rintro e' w3 ⟨rfl, h3⟩
              have hm3 : w3.heap[w.heap.size]? = some (.cells mirC 25 (0, 0)) := (h3.block _ (by omega)).trans HM2.out
              have HM3 := Lib.hid hm3
              clear hm3 HM2
              have hb3 := hb2.trans (h3.mono (by omega))
              have hz3 := h3.size
              clear hb2
              go_wp2_with fail
              refine (end11 _ _).mono ?_
              rintro e' w4 ⟨rfl, h4⟩
              have hm4 : w4.heap[w.heap.size]? = some (.cells mirC 25 (0, 0)) := (h4.block _ (by omega)).trans HM3.out
              have HM2 := Lib.hid hm4
              clear hm4 HM3
              have hb2 := hb3.trans (h4.mono (by omega))
              clear hb3
              rcases key5 t with ⟨_, _, g1, g2, g3, g4, ⟨rfl, rfl, g5⟩ | ⟨rfl, rfl, g5, g6⟩ | ⟨rfl, rfl, g5, g6⟩ | ⟨rfl, rfl, g5, g6⟩ | ⟨rfl, rfl, g5⟩⟩
              all_goals rcases q_or hq ht1 with ⟨rfl, hle⟩ | hle
              all_goals clear hq
              all_goals first | (exfalso; omega) | skip
              all_goals as_aux_lemma =>
                go_wp2_with (first | (go_at_call 10; refine (num10 _ _).mono ?_; rintro e w' ⟨rfl, rfl⟩) | (go_at_call 12; refine (stands12 _ _ _ _).mono ?_; rintro e w' ⟨rfl, rfl⟩))
                all_goals exact ⟨⟨t, _, _, k + 1, rfl, rfl, rfl, rfl, by go_num, by omega, by omega, by simp <;> omega, by omega, HM2.out, hb2⟩, by simp [intOf]; omega⟩

          · have hke' : ((k : Int) == e) = false := by simp [hke]
            clear hke
            go_wp2_with fail
            refine (next9 _ _ _ _).mono ?_
            rintro e' w1 ⟨rfl, h1⟩
            have hc1 : w1.cell? ⟨b, off + k, none⟩ = some (.int .i64 x) := by rw [h1.cell (p := ⟨b, off + k, none⟩) (by show b < _; omega)]; exact hcell
            have hm1 : w1.heap[w.heap.size]? = some (.cells mirC 25 (0, 0)) := (h1.block _ hbz).trans HM.out
            have hd1 : w1.cell? ⟨w.heap.size, x.toNat, none⟩ = some (.int .i64 (mirI x)) := by rw [cell_of_row _ _ _ _ _ _ hm1]; exact HMC.out
            have HM1 := Lib.hid hm1
            clear hm1
            have hb1 := hb.trans (h1.mono (Nat.le_of_lt hbz))
            have hz1 := h1.size
            clear hb
            go_wp2_with fail
            refine (next9 _ _ _ _).mono ?_
            rintro e' w2 ⟨rfl, h2⟩
            have hm2 : w2.heap[w.heap.size]? = some (.cells mirC 25 (0, 0)) := (h2.block _ (by omega)).trans HM1.out
            have HM2 := Lib.hid hm2
            clear hm2
            have hb2 := hb1.trans (h2.mono (by omega))
            have hz2 := h2.size
            clear hb1
            rcases key5 t with ⟨_, _, g1, g2, g3, g4, ⟨rfl, rfl, g5⟩ | ⟨rfl, rfl, g5, g6⟩ | ⟨rfl, rfl, g5, g6⟩ | ⟨rfl, rfl, g5, g6⟩ | ⟨rfl, rfl, g5⟩⟩
            all_goals rcases q_or hq ht1 with ⟨rfl, hle⟩ | hle
            all_goals clear hq
            all_goals first | (exfalso; omega) | skip
            all_goals as_aux_lemma =>
              go_wp2_with (first | (go_at_call 10; refine (num10 _ _).mono ?_; rintro e w' ⟨rfl, rfl⟩) | (go_at_call 12; refine (stands12 _ _ _ _).mono ?_; rintro e w' ⟨rfl, rfl⟩))
              all_goals exact ⟨⟨t, _, _, k + 1, rfl, rfl, rfl, rfl, by go_num, by omega, by omega, by simp <;> omega, by omega, HM2.out, hb2⟩, by simp [intOf]; omega⟩

    ·
      go_wp2_with fail
      refine (works8 _).mono ?_
      rintro e' w1 ⟨rfl, h1⟩
      go_wp2_with fail
      go_ret
      exact ⟨rfl, hb.trans (h1.mono (Nat.le_of_lt hbz))⟩


end Go.Proofs.Ytpnfdffbbhedoaa
