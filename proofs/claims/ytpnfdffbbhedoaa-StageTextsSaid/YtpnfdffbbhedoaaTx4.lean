/-
  The law on texts.
-/
import Derived.Test.YtpnfdffbbhedoaaTx3
namespace Go.Proofs.Ytpnfdffbbhedoaa
open Go.RowKit

theorem ref_at {k : Nat} (h : k < 10) : refC[k + 1]? = some (.string (txt k)) := by
  have hk : k = 0 ∨ k = 1 ∨ k = 2 ∨ k = 3 ∨ k = 4 ∨ k = 5 ∨ k = 6 ∨ k = 7 ∨ k = 8 ∨ k = 9 := by omega
  rcases hk with rfl | rfl | rfl | rfl | rfl | rfl | rfl | rfl | rfl | rfl <;> rfl

theorem long7 (s : Int) (t : ByteArray) (w : World) (h : 100 < t.size) (ht : t.size ≤ 9223372036854775807) :
    Calls Try.prog 7 #[.int .i64 s, .string t] w fun e w' => e = .returned (.bool true) ∧ Below w.heap.size w w' := by
  go_enter Try.func7, Try.ntmps7
  go_wp2_with (go_at_call 8; refine (works8 _).mono ?_; rintro e' w1 ⟨rfl, h1⟩)
  go_ret
  exact ⟨rfl, h1⟩

def notI (t : ByteArray) (k : Nat) : Int := if backI t k = 0 then 2 else 0

theorem back_yes {t : ByteArray} {k : Nat} (h : txt k = t) : backI t (k + 1) = (k : Int) + 1 ∧ notI t (k + 1) = 0 := by
  have e : backI t (k + 1) = (k : Int) + 1 := by simp only [backI]; rw [if_pos h]
  exact ⟨e, by simp only [notI, e]; rw [if_neg (by omega)]⟩
theorem back_no {t : ByteArray} {k : Nat} (h : txt k ≠ t) : backI t (k + 1) = backI t k ∧ notI t (k + 1) = notI t k := by
  have e : backI t (k + 1) = backI t k := by simp only [backI]; rw [if_neg h]
  exact ⟨e, by simp only [notI, e]⟩

set_option maxRecDepth 100000 in
set_option maxHeartbeats 2000000 in
theorem texts7_lo (s : Int) (t : ByteArray) (w : World) (h : t.size ≤ 100) (hout : s < 1) :
    Calls Try.prog 7 #[.int .i64 s, .string t] w fun e w' => e = .returned (.bool true) ∧ Below w.heap.size w w' := by
  have hti : textI s = (⟨#[]⟩, 2) := by simp [textI, hout]
  have hp : parseI t = (backI t 10, notI t 10) := rfl
  go_enter Try.func7, Try.ntmps7
  go_wp2_with fail
  refine (text23 s _).mono ?_
  rintro e w1 ⟨rfl, h1⟩
  go_wp2_with fail
  refine (parse24 t _).mono ?_
  rintro e w2 ⟨rfl, h2⟩
  replace h2 := later h1 h2
  clear h1
  go_wp2_with fail
  refine (refTexts25 _).mono ?_
  rintro e w3 ⟨rfl, rfl⟩
  go_wp2_with (refine wpList_store_new rfl 55 (.tmp 9) (.tmp 29) rfl _ refC rfl rfl _ (by kernel_rfl) (by kernel_rfl) (by kernel_rfl) ?_)
  go_loop [12, 13, 14] (fun b n i => ∃ k : Nat, k ≤ 10 ∧ i = .int .i64 ((k : Int) + 1) ∧ b = .int .i64 (backI t k) ∧ n = .int .i64 (notI t k)) (fun _ _ i => 11 - (intOf i).toNat)
  case atStart => exact ⟨0, by omega, rfl, rfl, rfl⟩
  case round =>
    obtain ⟨k, hk, rfl, rfl, rfl⟩ := hrel
    by_cases hlt : k < 10
    · have hcell := ref_at hlt
      by_cases htk : txt k = t
      · have hq := str_eq htk
        have HB := Lib.hid (back_yes htk)
        clear htk
        go_wp2
        exact ⟨⟨k + 1, by omega, by go_num, by rw [HB.out.1], by rw [HB.out.2]⟩, by simp [intOf]; omega⟩
      · have hq := str_ne htk
        have HB := Lib.hid (back_no htk)
        clear htk
        go_wp2
        exact ⟨⟨k + 1, by omega, by go_num, by rw [HB.out.1], by rw [HB.out.2]⟩, by simp [intOf]; omega⟩
    · obtain rfl : k = 10 := by omega
      go_wp2_with (first | (go_at_call 10; refine (num10 _ _).mono ?_; rintro e w' ⟨rfl, rfl⟩) | (go_at_call 8; refine (works8 _).mono ?_; rintro e' w5 ⟨rfl, h5⟩))
      go_ret
      exact ⟨rfl, later (later h2 (by go_grown)) h5⟩


set_option maxRecDepth 100000 in
set_option maxHeartbeats 2000000 in
theorem texts7_hi (s : Int) (t : ByteArray) (w : World) (h : t.size ≤ 100) (hout : 10 < s) :
    Calls Try.prog 7 #[.int .i64 s, .string t] w fun e w' => e = .returned (.bool true) ∧ Below w.heap.size w w' := by
  have hti : textI s = (⟨#[]⟩, 2) := by simp [textI, hout]
  have hp : parseI t = (backI t 10, notI t 10) := rfl
  go_enter Try.func7, Try.ntmps7
  go_wp2_with fail
  refine (text23 s _).mono ?_
  rintro e w1 ⟨rfl, h1⟩
  go_wp2_with fail
  refine (parse24 t _).mono ?_
  rintro e w2 ⟨rfl, h2⟩
  replace h2 := later h1 h2
  clear h1
  go_wp2_with fail
  refine (refTexts25 _).mono ?_
  rintro e w3 ⟨rfl, rfl⟩
  go_wp2_with (refine wpList_store_new rfl 55 (.tmp 9) (.tmp 29) rfl _ refC rfl rfl _ (by kernel_rfl) (by kernel_rfl) (by kernel_rfl) ?_)
  go_loop [12, 13, 14] (fun b n i => ∃ k : Nat, k ≤ 10 ∧ i = .int .i64 ((k : Int) + 1) ∧ b = .int .i64 (backI t k) ∧ n = .int .i64 (notI t k)) (fun _ _ i => 11 - (intOf i).toNat)
  case atStart => exact ⟨0, by omega, rfl, rfl, rfl⟩
  case round =>
    obtain ⟨k, hk, rfl, rfl, rfl⟩ := hrel
    by_cases hlt : k < 10
    · have hcell := ref_at hlt
      by_cases htk : txt k = t
      · have hq := str_eq htk
        have HB := Lib.hid (back_yes htk)
        clear htk
        go_wp2
        exact ⟨⟨k + 1, by omega, by go_num, by rw [HB.out.1], by rw [HB.out.2]⟩, by simp [intOf]; omega⟩
      · have hq := str_ne htk
        have HB := Lib.hid (back_no htk)
        clear htk
        go_wp2
        exact ⟨⟨k + 1, by omega, by go_num, by rw [HB.out.1], by rw [HB.out.2]⟩, by simp [intOf]; omega⟩
    · obtain rfl : k = 10 := by omega
      go_wp2_with (first | (go_at_call 10; refine (num10 _ _).mono ?_; rintro e w' ⟨rfl, rfl⟩) | (go_at_call 8; refine (works8 _).mono ?_; rintro e' w5 ⟨rfl, h5⟩))
      go_ret
      exact ⟨rfl, later (later h2 (by go_grown)) h5⟩


set_option maxRecDepth 100000 in
set_option maxHeartbeats 2000000 in
theorem texts7_in (s : Int) (t : ByteArray) (w : World) (h : t.size ≤ 100) (hs1 : 1 ≤ s) (hs2 : s ≤ 10) :
    Calls Try.prog 7 #[.int .i64 s, .string t] w fun e w' => e = .returned (.bool true) ∧ Below w.heap.size w w' := by
  have hc : refC[s.toNat]? = some (.string (textI s).1) ∧ (textI s).2 = 0 := by
    obtain ⟨k, rfl⟩ : ∃ k : Nat, s = (k : Int) + 1 := ⟨(s - 1).toNat, by omega⟩
    have hn : textI ((k : Int) + 1) = (txt k, 0) := by
      simp only [textI]
      rw [if_neg (by omega), show ((k : Int) + 1).toNat - 1 = k by omega]
    rw [hn, show ((k : Int) + 1).toNat = k + 1 by omega]
    exact ⟨ref_at (by omega), rfl⟩
  obtain ⟨hc1, hc2⟩ := hc
  have hp : parseI t = (backI t 10, notI t 10) := rfl
  go_enter Try.func7, Try.ntmps7
  go_wp2_with fail
  refine (text23 s _).mono ?_
  rintro e w1 ⟨rfl, h1⟩
  go_wp2_with fail
  refine (parse24 t _).mono ?_
  rintro e w2 ⟨rfl, h2⟩
  replace h2 := later h1 h2
  clear h1
  go_wp2_with fail
  refine (refTexts25 _).mono ?_
  rintro e w3 ⟨rfl, rfl⟩
  go_wp2_with (refine wpList_store_new rfl 55 (.tmp 9) (.tmp 29) rfl _ refC rfl rfl _ (by kernel_rfl) (by kernel_rfl) (by kernel_rfl) ?_)
  go_loop [12, 13, 14] (fun b n i => ∃ k : Nat, k ≤ 10 ∧ i = .int .i64 ((k : Int) + 1) ∧ b = .int .i64 (backI t k) ∧ n = .int .i64 (notI t k)) (fun _ _ i => 11 - (intOf i).toNat)
  case atStart => exact ⟨0, by omega, rfl, rfl, rfl⟩
  case round =>
    obtain ⟨k, hk, rfl, rfl, rfl⟩ := hrel
    by_cases hlt : k < 10
    · have hcell := ref_at hlt
      by_cases htk : txt k = t
      · have hq := str_eq htk
        have HB := Lib.hid (back_yes htk)
        clear htk
        go_wp2
        exact ⟨⟨k + 1, by omega, by go_num, by rw [HB.out.1], by rw [HB.out.2]⟩, by simp [intOf]; omega⟩
      · have hq := str_ne htk
        have HB := Lib.hid (back_no htk)
        clear htk
        go_wp2
        exact ⟨⟨k + 1, by omega, by go_num, by rw [HB.out.1], by rw [HB.out.2]⟩, by simp [intOf]; omega⟩
    · obtain rfl : k = 10 := by omega
      go_wp2_with (first | (go_at_call 10; refine (num10 _ _).mono ?_; rintro e w' ⟨rfl, rfl⟩) | (go_at_call 8; refine (works8 _).mono ?_; rintro e' w5 ⟨rfl, h5⟩))
      go_ret
      exact ⟨rfl, later (later h2 (by go_grown)) h5⟩


theorem texts7 (s : Int) (t : ByteArray) (w : World) (ht : t.size ≤ 9223372036854775807) :
    Calls Try.prog 7 #[.int .i64 s, .string t] w fun e w' => e = .returned (.bool true) ∧ Below w.heap.size w w' := by
  by_cases h : 100 < t.size
  · exact long7 s t w h ht
  · by_cases hs : s < 1 ∨ 10 < s
    · rcases hs with hs | hs
      · exact texts7_lo s t w (by omega) hs
      · exact texts7_hi s t w (by omega) hs
    · exact texts7_in s t w (by omega) (by omega) (by omega)

end Go.Proofs.Ytpnfdffbbhedoaa
