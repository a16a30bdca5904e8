/-
  The other small functions of the stage, and the document's.
-/
import Derived.Test.YtpnfdffbbhedoaaW2
namespace Go.Proofs.Ytpnfdffbbhedoaa
open Go.RowKit

def endI (s : Int) : Int × Int := if s < 1 ∨ 10 < s then (0, 2) else if s = 5 then (6, 0) else (0, 190)

theorem end11 (s : Int) (w : World) :
    Calls Try.prog 11 #[.int .i64 s] w fun e w' => e = .returned (.tuple #[.int .i64 (endI s).1, .int .i64 (endI s).2]) ∧ Below w.heap.size w w' := by
  by_cases h : s < 1 ∨ 10 < s
  · have hn : endI s = (0, 2) := by simp [endI, h]
    have H := Lib.hid hn
    clear hn
    have hin : inB s 1 10 = false := inB_false h
    go_enter Try.func11, Try.ntmps11
    go_wp2_with (go_at_call 27; refine (right27 _ _).mono ?_; rintro e w' ⟨rfl, rfl⟩)
    go_ret2
    rw [H.out]
    exact ⟨rfl, by go_grown⟩
  · have hin : inB s 1 10 = true := inB_true (by omega) (by omega)
    by_cases h5 : s = 5
    · subst h5
      go_enter Try.func11, Try.ntmps11
      go_wp2_with (go_at_call 27; refine (right27 _ _).mono ?_; rintro e w' ⟨rfl, rfl⟩)
      go_ret2
      exact ⟨rfl, by go_grown⟩
    · have hn : endI s = (0, 190) := by simp [endI, h, h5]
      have H := Lib.hid hn
      clear hn
      have hne : (s != 5) = true := by simp [h5]
      go_enter Try.func11, Try.ntmps11
      go_wp2_with (go_at_call 27; refine (right27 _ _).mono ?_; rintro e w' ⟨rfl, rfl⟩)
      go_ret2
      rw [H.out]
      exact ⟨rfl, by go_grown⟩

def standsB (own : Bool) (s : Int) (ours : Bool) : Bool := if own == ours then inB s 4 6 else inB s 2 8

theorem stands12 (own : Bool) (s : Int) (ours : Bool) (w : World) :
    Calls Try.prog 12 #[.bool own, .int .i64 s, .bool ours] w fun e w' => e = .returned (.bool (standsB own s ours)) ∧ w = w' := by
  cases own <;> cases ours
  all_goals
    go_enter Try.func12, Try.ntmps12
    go_wp2_with (go_at_call 30; refine (in30 _ _ _ _).mono ?_; rintro e w' ⟨rfl, rfl⟩)
    go_ret
    exact ⟨rfl, rfl⟩

def breakI (own : Bool) (s : Int) : Int := if s < 1 ∨ 10 < s ∨ (own = false ∧ s = 1) then 0 else if own = true ∧ s = 6 then 5 else s

set_option maxHeartbeats 400000 in
theorem break20 (own : Bool) (s : Int) (w : World) :
    Calls Try.prog 20 #[.bool own, .int .i64 s] w fun e w' => e = .returned (.int .i64 (breakI own s)) ∧ Below w.heap.size w w' := by
  by_cases h : s < 1 ∨ 10 < s
  · have hn : breakI own s = 0 := by simp only [breakI]; rw [if_pos (by omega)]
    have H := Lib.hid hn
    clear hn
    have hin : inB s 1 10 = false := inB_false h
    go_enter Try.func20, Try.ntmps20
    go_wp2_with (go_at_call 27; refine (right27 _ _).mono ?_; rintro e w' ⟨rfl, rfl⟩)
    go_ret
    rw [H.out]
    exact ⟨rfl, by go_grown⟩
  · have hin : inB s 1 10 = true := inB_true (by omega) (by omega)
    by_cases h1 : s = 1
    · subst h1
      cases own
      all_goals
        go_enter Try.func20, Try.ntmps20
        go_wp2_with (first | (go_at_call 27; refine (right27 _ _).mono ?_; rintro e w' ⟨rfl, rfl⟩) | (go_at_call 26; refine (all26 _ _ _ _ (by simp [go_sem]; rfl) (by simp [go_sem]; rfl)).mono ?_; rintro e w' ⟨rfl, rfl⟩))
        go_ret
        exact ⟨rfl, by go_grown⟩
    · by_cases h6 : s = 6
      · subst h6
        cases own
        all_goals
          go_enter Try.func20, Try.ntmps20
          go_wp2_with (first | (go_at_call 27; refine (right27 _ _).mono ?_; rintro e w' ⟨rfl, rfl⟩) | (go_at_call 26; refine (all26 _ _ _ _ (by simp [go_sem]; rfl) (by simp [go_sem]; rfl)).mono ?_; rintro e w' ⟨rfl, rfl⟩))
          go_ret
          exact ⟨rfl, by go_grown⟩
      · have hn : breakI own s = s := by simp only [breakI]; rw [if_neg (by simp; omega), if_neg (by simp [h6])]
        have H := Lib.hid hn
        clear hn
        have e1 : (s == 1) = false := by simp [h1]
        have e6 : (s == 6) = false := by simp [h6]
        cases own
        all_goals
          go_enter Try.func20, Try.ntmps20
          go_wp2_with (first | (go_at_call 27; refine (right27 _ _).mono ?_; rintro e w' ⟨rfl, rfl⟩) | (go_at_call 26; refine (all26 _ _ _ _ (by simp [go_sem]; rfl) (by simp [go_sem]; rfl)).mono ?_; rintro e w' ⟨rfl, rfl⟩))
          go_ret
          rw [H.out]
          exact ⟨rfl, by go_grown⟩


def anewB (own : Bool) (s : Int) : Bool × Bool := (own && inB s 1 2, !own && inB s 6 7)

theorem among31 (s l : Int) (w : World) (g : Nat) (hg : w.cell? ⟨g, 0, none⟩ = some (.int .i64 s)) (h1 : 1 ≤ l) (h2 : l ≤ 6) :
    Calls Try.prog 31 #[.int .i64 l, .pointer (some ⟨g, 0, none⟩)] w fun e w' => e = .returned (.bool (inB s l (l + 1))) ∧ w = w' := by
  go_enter Try.func31, Try.ntmps31
  go_wp2_with (go_at_call 30; refine (in30 _ _ _ _).mono ?_; rintro e w' ⟨rfl, rfl⟩)
  go_ret
  exact ⟨rfl, rfl⟩

set_option maxHeartbeats 400000 in
theorem anew17 (own : Bool) (s : Int) (w : World) :
    Calls Try.prog 17 #[.bool own, .int .i64 s] w fun e w' => e = .returned (.tuple #[.bool (anewB own s).1, .bool (anewB own s).2]) ∧ Below w.heap.size w w' := by
  cases own
  all_goals
    go_enter Try.func17, Try.ntmps17
    go_wp2_with (go_at_call 31; refine (among31 s _ _ _ (by simp [go_sem]) (by omega) (by omega)).mono ?_; rintro e w' ⟨rfl, rfl⟩)
    go_ret2
    exact ⟨rfl, by go_grown⟩

set_option maxHeartbeats 1000000 in
theorem refWaits16_in (own : Bool) (s : Int) (h : 1 ≤ s) (h' : s ≤ 9) (h5 : (s == 5) = false) (w : World) :
    Calls Try.prog 16 #[.bool own, .int .i64 s] w fun e w' => e = .returned (.int .i64 (waitsI own s)) ∧ Below w.heap.size w w' := by
  have h10 : (s == 10) = false := by simp; omega
  have ct : rowT[s.toNat]? = some (.int .i64 (waitsI true s)) := by
    rcases nine h h' with rfl | rfl | rfl | rfl | rfl | rfl | rfl | rfl | rfl <;> simp [waitsI]
  have cf : rowF[s.toNat]? = some (.int .i64 (waitsI false s)) := by
    rcases nine h h' with rfl | rfl | rfl | rfl | rfl | rfl | rfl | rfl | rfl <;> simp [waitsI]
  cases own
  all_goals
    go_enter Try.func16, Try.ntmps16
    go_wp2_with (first | (refine wpList_store_new rfl 66 (.tmp 5) (.tmp 21) rfl _ rowT rfl rfl _ (by kernel_rfl) (by kernel_rfl) (by kernel_rfl) ?_) | (refine wpList_store_new rfl 66 (.tmp 6) (.tmp 22) rfl _ rowF rfl rfl _ (by kernel_rfl) (by kernel_rfl) (by kernel_rfl) ?_))
    go_ret
    exact ⟨rfl, by go_grown⟩

theorem refWaits16 (own : Bool) (s : Int) (w : World) :
    Calls Try.prog 16 #[.bool own, .int .i64 s] w fun e w' => e = .returned (.int .i64 (waitsI own s)) ∧ Below w.heap.size w w' := by
  by_cases h : s < 1 ∨ 9 < s ∨ s = 5
  · have hn : waitsI own s = 0 := by
      rcases h with h | h | h
      · simp [waitsI, h]
      · simp [waitsI, h]
      · subst h; cases own <;> rfl
    have H := Lib.hid hn
    clear hn
    rcases h with h | h | rfl
    · go_enter Try.func16, Try.ntmps16
      go_wp2
      go_ret
      exact ⟨by rw [H.out]; rfl, Below.refl _ _⟩
    · by_cases h10 : s = 10
      · subst h10
        go_enter Try.func16, Try.ntmps16
        go_wp2
        go_ret
        exact ⟨by rw [H.out]; rfl, Below.refl _ _⟩
      · have hg : 10 < s := by omega
        go_enter Try.func16, Try.ntmps16
        go_wp2
        go_ret
        exact ⟨by rw [H.out]; rfl, Below.refl _ _⟩
    · go_enter Try.func16, Try.ntmps16
      go_wp2
      go_ret
      exact ⟨by rw [H.out]; rfl, Below.refl _ _⟩
  · exact refWaits16_in own s (by omega) (by omega) (by simp; omega) w

set_option maxHeartbeats 400000 in
theorem refNext13 (own : Bool) (s m : Int) (w : World) :
    Calls Try.prog 13 #[.bool own, .int .i64 s, .int .i64 m] w fun e w' => e = .returned (.tuple #[.int .i64 (nextI own s m).1, .bool (nextI own s m).2.1, .int .i64 (nextI own s m).2.2]) ∧ Below w.heap.size w w' := by
  by_cases h : s < 1 ∨ 10 < s ∨ m < 1 ∨ 4 < m
  · have hn : nextI own s m = (0, false, 2) := by simp [nextI, h]
    have H := Lib.hid hn
    clear hn
    by_cases h1 : s < 1
    · go_enter Try.func13, Try.ntmps13
      go_wp2
      go_ret3
      rw [H.out]
      exact ⟨rfl, Below.refl _ _⟩
    · by_cases h2 : 10 < s
      · go_enter Try.func13, Try.ntmps13
        go_wp2
        go_ret3
        rw [H.out]
        exact ⟨rfl, Below.refl _ _⟩
      · by_cases h3 : m < 1
        · go_enter Try.func13, Try.ntmps13
          go_wp2
          go_ret3
          rw [H.out]
          exact ⟨rfl, Below.refl _ _⟩
        · have h4 : 4 < m := by omega
          go_enter Try.func13, Try.ntmps13
          go_wp2
          go_ret3
          rw [H.out]
          exact ⟨rfl, Below.refl _ _⟩
  · have g1 : 1 ≤ s := by omega
    have g2 : s ≤ 10 := by omega
    have g3 : 1 ≤ m := by omega
    have g4 : m ≤ 4 := by omega
    by_cases he : waitsI own s = m
    · have hn : nextI own s m = (s + 1, true, 0) := by simp [nextI, h, he]
      have H := Lib.hid hn
      clear hn
      have hne : (waitsI own s == m) = true := by simp [he]
      clear he h
      go_enter Try.func13, Try.ntmps13
      go_wp2_with (go_at_call 16; refine (refWaits16 _ _ _).mono ?_; rintro e w' ⟨rfl, hb⟩)
      go_ret3
      rw [H.out]
      exact ⟨rfl, hb⟩
    · have hn : nextI own s m = (s, false, 0) := by simp [nextI, h, he]
      have H := Lib.hid hn
      clear hn
      have hne : (waitsI own s == m) = false := by simp [he]
      clear he h
      go_enter Try.func13, Try.ntmps13
      go_wp2_with (go_at_call 16; refine (refWaits16 _ _ _).mono ?_; rintro e w' ⟨rfl, hb⟩)
      go_ret3
      rw [H.out]
      exact ⟨rfl, hb⟩

theorem refEnd14 (s : Int) (w : World) :
    Calls Try.prog 14 #[.int .i64 s] w fun e w' => e = .returned (.tuple #[.int .i64 (endI s).1, .int .i64 (endI s).2]) ∧ w = w' := by
  by_cases h : s < 1
  · go_enter Try.func14, Try.ntmps14
    go_wp2
    go_ret2
    simp [endI, *]
  · by_cases h' : 10 < s
    · go_enter Try.func14, Try.ntmps14
      go_wp2
      go_ret2
      simp [endI, *]
    · by_cases h5 : s = 5
      · subst h5
        go_enter Try.func14, Try.ntmps14
        go_wp2
        go_ret2
        exact ⟨rfl, rfl⟩
      · have hn : endI s = (0, 190) := by simp [endI, *]
        have H := Lib.hid hn
        have hne : (s != 5) = true := by simp [h5]
        clear hn h5
        go_enter Try.func14, Try.ntmps14
        go_wp2
        go_ret2
        rw [H.out]
        exact ⟨rfl, rfl⟩

theorem refStands19 (own : Bool) (s : Int) (ours : Bool) (w : World) :
    Calls Try.prog 19 #[.bool own, .int .i64 s, .bool ours] w fun e w' => e = .returned (.bool (standsB own s ours)) ∧ w = w' := by
  cases own <;> cases ours
  all_goals
    go_enter Try.func19, Try.ntmps19
    go_wp2
    all_goals
      go_ret
      simp [standsB, inB, *]
      try omega

theorem breakI_out {own : Bool} {s : Int} (h : s < 1 ∨ 10 < s) : breakI own s = 0 := by simp only [breakI]; rw [if_pos (by omega)]
theorem breakI_same {own : Bool} {s : Int} (h : 1 ≤ s) (h' : s ≤ 10) (h1 : s ≠ 1) (h6 : s ≠ 6) : breakI own s = s := by
  simp only [breakI]; rw [if_neg (by simp; omega), if_neg (by simp [h6])]

set_option maxHeartbeats 400000 in
theorem refBreak21 (own : Bool) (s : Int) (w : World) :
    Calls Try.prog 21 #[.bool own, .int .i64 s] w fun e w' => e = .returned (.int .i64 (breakI own s)) ∧ w = w' := by
  by_cases h : s < 1
  · have H := Lib.hid (breakI_out (own := own) (Or.inl h))
    go_enter Try.func21, Try.ntmps21
    go_wp2
    go_ret
    rw [H.out]
    exact ⟨rfl, rfl⟩
  · by_cases h' : 10 < s
    · have H := Lib.hid (breakI_out (own := own) (Or.inr h'))
      go_enter Try.func21, Try.ntmps21
      go_wp2
      go_ret
      rw [H.out]
      exact ⟨rfl, rfl⟩
    · by_cases h1 : s = 1
      · subst h1
        cases own
        all_goals
          go_enter Try.func21, Try.ntmps21
          go_wp2
          go_ret
          exact ⟨rfl, rfl⟩
      · by_cases h6 : s = 6
        · subst h6
          cases own
          all_goals
            go_enter Try.func21, Try.ntmps21
            go_wp2
            go_ret
            exact ⟨rfl, rfl⟩
        · have H := Lib.hid (breakI_same (own := own) (s := s) (by omega) (by omega) h1 h6)
          have e1 : (s == 1) = false := by simp [h1]
          have e6 : (s == 6) = false := by simp [h6]
          cases own
          all_goals
            go_enter Try.func21, Try.ntmps21
            go_wp2
            go_ret
            rw [H.out]
            exact ⟨rfl, rfl⟩

theorem two_in (s a b : Int) (h : b = a + 1) : (s == a || s == b) = inB s a b := by
  rw [Bool.eq_iff_iff]; simp [inB]; omega

theorem refAnew18 (own : Bool) (s : Int) (w : World) :
    Calls Try.prog 18 #[.bool own, .int .i64 s] w fun e w' => e = .returned (.tuple #[.bool (anewB own s).1, .bool (anewB own s).2]) ∧ w = w' := by
  have t1 := Lib.hid (two_in s 1 2 (by omega))
  have t6 := Lib.hid (two_in s 6 7 (by omega))
  cases own
  all_goals
    go_enter Try.func18, Try.ntmps18
    go_wp2
    all_goals
      go_ret2
      simp only [anewB]
      rw [← t1.out, ← t6.out]
      simp [*]

end Go.Proofs.Ytpnfdffbbhedoaa
