/-
  What a stage waits for.
-/
import Derived.Test.YtpnfdffbbhedoaaWalks
namespace Go.Proofs.Ytpnfdffbbhedoaa
open Go.RowKit

theorem sideMade (w : World) (n : Nat) (h : n = w.heap.size) :
    (Instr.mapUpdate 77 (.map (some n)) (.bool true) (.int .i64 1)).run Try.prog (w.alloc (.map #[] 0)) = .ok () (w.alloc (.map #[⟨.bool true, .int .i64 1, 0⟩] 1)) := by
  subst h
  rw [run_mapUpdate_new 77 4 3 .bool w.heap.size #[] 0 _ _ Try.underlying77 Try.underlying4 rfl (heap_alloc_last _ _) rfl, putObj_alloc _ _ _ _ rfl]
  rfl

theorem sideAsked (w : World) (n : Nat) (b : Bool) (h : n = w.heap.size) :
    (Instr.lookup 77 (.map (some n)) (.bool b) false).run Try.prog (w.alloc (.map #[⟨.bool true, .int .i64 1, 0⟩] 1)) = .ok (.int .i64 (if b then 1 else 0)) (w.alloc (.map #[⟨.bool true, .int .i64 1, 0⟩] 1)) := by
  subst h
  rw [run_lookup_at 77 4 3 .bool w.heap.size #[⟨.bool true, .int .i64 1, 0⟩] 1 (.bool b) (.int .i64 0) false (if b then some (0, .int .i64 1) else none) Try.underlying77 Try.underlying4 rfl (heap_alloc_last _ _) (by cases b <;> rfl) (by kernel_rfl)]
  cases b <;> rfl

abbrev rowT : Array Value := #[.int .i64 0, .int .i64 1, .int .i64 2, .int .i64 3, .int .i64 4, .int .i64 0, .int .i64 3, .int .i64 4, .int .i64 1, .int .i64 2]
abbrev rowF : Array Value := #[.int .i64 0, .int .i64 3, .int .i64 4, .int .i64 1, .int .i64 2, .int .i64 0, .int .i64 1, .int .i64 2, .int .i64 3, .int .i64 4]

def waitsI (own : Bool) (s : Int) : Int :=
  if s < 1 ∨ 9 < s then 0 else
  (if own then [0, 1, 2, 3, 4, 0, 3, 4, 1, 2] else [0, 3, 4, 1, 2, 0, 1, 2, 3, 4]).getD s.toNat 0

theorem row79t (w : World) : (Instr.index 79 (.agg stepsC) (.int .i64 1)).run Try.prog w = .ok (.agg rowT) w := by kernel_rfl
theorem row79f (w : World) : (Instr.index 79 (.agg stepsC) (.int .i64 0)).run Try.prog w = .ok (.agg rowF) w := by kernel_rfl

theorem nine {s : Int} (h : 1 ≤ s) (h' : s ≤ 9) : s = 1 ∨ s = 2 ∨ s = 3 ∨ s = 4 ∨ s = 5 ∨ s = 6 ∨ s = 7 ∨ s = 8 ∨ s = 9 := by omega

theorem at78t (s : Int) (h : 1 ≤ s) (h' : s ≤ 9) (w : World) : (Instr.index 78 (.agg rowT) (.int .i64 s)).run Try.prog w = .ok (.int .i64 (waitsI true s)) w := by
  rcases nine h h' with rfl | rfl | rfl | rfl | rfl | rfl | rfl | rfl | rfl <;> kernel_rfl
theorem at78f (s : Int) (h : 1 ≤ s) (h' : s ≤ 9) (w : World) : (Instr.index 78 (.agg rowF) (.int .i64 s)).run Try.prog w = .ok (.int .i64 (waitsI false s)) w := by
  rcases nine h h' with rfl | rfl | rfl | rfl | rfl | rfl | rfl | rfl | rfl <;> kernel_rfl

theorem inB_true {s a b : Int} (h : a ≤ s) (h' : s ≤ b) : inB s a b = true := by simp [inB, h, h']
theorem inB_false {s a b : Int} (h : s < a ∨ b < s) : inB s a b = false := by simp [inB]; omega

set_option maxHeartbeats 400000 in
theorem waits29_in (own : Bool) (s : Int) (h : 1 ≤ s) (h' : s ≤ 9) (w : World) :
    Calls Try.prog 29 #[.agg #[.int .i64 s, .bool own]] w fun e w' => e = .returned (.int .i64 (waitsI own s)) ∧ Below w.heap.size w w' := by
  have hmm := @run_makeMap Try.prog
  have hmu := sideMade
  have hml := sideAsked
  have hin : inB s 1 10 = true := inB_true h (by omega)
  have hne : (s == 10) = false := by simp; omega
  have r1 := row79t
  have r0 := row79f
  have a1 := at78t s h h'
  have a0 := at78f s h h'
  cases own
  all_goals
    go_enter Try.func29, Try.ntmps29
    go_wp2_with (go_at_call 27; refine (right27 _ _).mono ?_; rintro e w' ⟨rfl, rfl⟩)
    go_region_with (go_at_call 36; refine (steps36 _).mono ?_; rintro e w' ⟨rfl, rfl⟩)
    all_goals
      go_wp2
      go_ret
      exact ⟨rfl, by go_grown⟩

theorem waits29_out (own : Bool) (s : Int) (h : s < 1 ∨ 9 < s) (w : World) :
    Calls Try.prog 29 #[.agg #[.int .i64 s, .bool own]] w fun e w' => e = .returned (.int .i64 0) ∧ Below w.heap.size w w' := by
  by_cases h10 : s = 10
  · subst h10
    have hin : inB 10 1 10 = true := rfl
    go_enter Try.func29, Try.ntmps29
    go_wp2_with (go_at_call 27; refine (right27 _ _).mono ?_; rintro e w' ⟨rfl, rfl⟩)
    go_ret
    exact ⟨rfl, by go_grown⟩
  · have hin : inB s 1 10 = false := inB_false (by omega)
    go_enter Try.func29, Try.ntmps29
    go_wp2_with (go_at_call 27; refine (right27 _ _).mono ?_; rintro e w' ⟨rfl, rfl⟩)
    go_ret
    exact ⟨rfl, by go_grown⟩

theorem waits29 (own : Bool) (s : Int) (w : World) :
    Calls Try.prog 29 #[.agg #[.int .i64 s, .bool own]] w fun e w' => e = .returned (.int .i64 (waitsI own s)) ∧ Below w.heap.size w w' := by
  by_cases h : s < 1 ∨ 9 < s
  · have := waits29_out own s h w
    rwa [show waitsI own s = 0 by simp [waitsI, h]]
  · exact waits29_in own s (by omega) (by omega) w

theorem waits15 (own : Bool) (s : Int) (w : World) :
    Calls Try.prog 15 #[.bool own, .int .i64 s] w fun e w' => e = .returned (.int .i64 (waitsI own s)) ∧ Below w.heap.size w w' := by
  go_enter Try.func15, Try.ntmps15
  go_wp2_with (go_at_call 29; refine (waits29 _ _ _).mono ?_; rintro e w' ⟨rfl, hb⟩)
  go_ret
  exact ⟨rfl, hb⟩

def nextI (own : Bool) (s m : Int) : Int × Bool × Int :=
  if s < 1 ∨ 10 < s ∨ m < 1 ∨ 4 < m then (0, false, 2) else
  if waitsI own s = m then (s + 1, true, 0) else (s, false, 0)

set_option maxHeartbeats 400000 in
theorem next9 (own : Bool) (s m : Int) (w : World) :
    Calls Try.prog 9 #[.bool own, .int .i64 s, .int .i64 m] w fun e w' => e = .returned (.tuple #[.int .i64 (nextI own s m).1, .bool (nextI own s m).2.1, .int .i64 (nextI own s m).2.2]) ∧ Below w.heap.size w w' := by
  by_cases h : s < 1 ∨ 10 < s ∨ m < 1 ∨ 4 < m
  · have hn : nextI own s m = (0, false, 2) := by simp [nextI, h]
    have H := Lib.hid hn
    clear hn
    have hin : (inB s 1 10 && inB m 1 4) = false := by simp [inB]; omega
    go_enter Try.func9, Try.ntmps9
    go_wp2_with (first | (go_at_call 27; refine (right27 _ _).mono ?_; rintro e w' ⟨rfl, rfl⟩) | (go_at_call 28; refine (in28 _ _ _ _).mono ?_; rintro e w' ⟨rfl, rfl⟩) | (go_at_call 26; refine (all26 (inB s 1 10) (inB m 1 4) _ _ (by simp [go_sem]) (by simp [go_sem])).mono ?_; rintro e w' ⟨rfl, rfl⟩))
    go_ret3
    rw [H.out]
    exact ⟨rfl, by go_grown⟩
  · have hin : (inB s 1 10 && inB m 1 4) = true := by simp [inB]; omega
    have hb1 : -9223372036854775808 ≤ s := by omega
    have hb2 : s ≤ 10 := by omega
    by_cases he : waitsI own s = m
    · have hn : nextI own s m = (s + 1, true, 0) := by simp [nextI, h, he]
      have H := Lib.hid hn
      clear hn
      have hne : (waitsI own s != m) = false := by simp [he]
      clear he h
      go_enter Try.func9, Try.ntmps9
      go_wp2_with (first | (go_at_call 27; refine (right27 _ _).mono ?_; rintro e w' ⟨rfl, rfl⟩) | (go_at_call 28; refine (in28 _ _ _ _).mono ?_; rintro e w' ⟨rfl, rfl⟩) | (go_at_call 26; refine (all26 (inB s 1 10) (inB m 1 4) _ _ (by simp [go_sem]) (by simp [go_sem])).mono ?_; rintro e w' ⟨rfl, rfl⟩) | (go_at_call 29; refine (waits29 _ _ _).mono ?_; rintro e w' ⟨rfl, hb⟩))
      go_ret3
      rw [H.out]
      exact ⟨rfl, (Below.mono (by go_grown) (Nat.le_refl _)).trans (hb.mono (by simp; omega))⟩
    · have hn : nextI own s m = (s, false, 0) := by simp [nextI, h, he]
      have H := Lib.hid hn
      clear hn
      have hne : (waitsI own s != m) = true := by simp [he]
      clear he h
      go_enter Try.func9, Try.ntmps9
      go_wp2_with (first | (go_at_call 27; refine (right27 _ _).mono ?_; rintro e w' ⟨rfl, rfl⟩) | (go_at_call 28; refine (in28 _ _ _ _).mono ?_; rintro e w' ⟨rfl, rfl⟩) | (go_at_call 26; refine (all26 (inB s 1 10) (inB m 1 4) _ _ (by simp [go_sem]) (by simp [go_sem])).mono ?_; rintro e w' ⟨rfl, rfl⟩) | (go_at_call 29; refine (waits29 _ _ _).mono ?_; rintro e w' ⟨rfl, hb⟩))
      go_ret3
      rw [H.out]
      exact ⟨rfl, (Below.mono (by go_grown) (Nat.le_refl _)).trans (hb.mono (by simp; omega))⟩

end Go.Proofs.Ytpnfdffbbhedoaa
