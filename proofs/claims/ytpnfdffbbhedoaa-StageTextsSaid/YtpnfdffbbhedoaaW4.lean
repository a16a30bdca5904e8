/-
  The chapter's rows, and the first laws' walks.
-/
import Derived.Test.YtpnfdffbbhedoaaW3
namespace Go.Proofs.Ytpnfdffbbhedoaa
open Go.RowKit

theorem later {a b c : World} (h : Below a.heap.size a b) (k : Below b.heap.size b c) : Below a.heap.size a c := h.trans (k.mono h.size)

set_option maxRecDepth 100000 in
set_option maxHeartbeats 2000000 in
theorem works8 (w : World) : Calls Try.prog 8 #[] w fun e w' => e = .returned (.bool true) ∧ Below w.heap.size w w' := by
  have n1 : nextI true 1 1 = (2, true, 0) := rfl
  have n2 : nextI true 1 3 = (1, false, 0) := rfl
  have n3 : nextI true 5 1 = (5, false, 0) := rfl
  have e1 : endI 5 = (6, 0) := rfl
  have e2 : endI 4 = (0, 190) := rfl
  have e3 : endI 11 = (0, 2) := rfl
  have s1 : standsB true 2 true = false := rfl
  have s2 : standsB true 2 false = true := rfl
  have b1 : breakI false 1 = 0 := rfl
  go_enter Try.func8, Try.ntmps8
  go_wp2_with fail
  refine (next9 _ _ _ _).mono ?_; rintro e w1 ⟨rfl, h1⟩
  go_wp2_with fail
  refine (next9 _ _ _ _).mono ?_; rintro e w2 ⟨rfl, h2⟩
  replace h2 := later h1 h2; clear h1
  go_wp2_with fail
  refine (next9 _ _ _ _).mono ?_; rintro e w3 ⟨rfl, h3⟩
  replace h3 := later h2 h3; clear h2
  go_wp2_with fail
  refine (end11 _ _).mono ?_; rintro e w4 ⟨rfl, h4⟩
  replace h4 := later h3 h4; clear h3
  go_wp2_with fail
  refine (end11 _ _).mono ?_; rintro e w5 ⟨rfl, h5⟩
  replace h5 := later h4 h5; clear h4
  go_wp2_with fail
  refine (end11 _ _).mono ?_; rintro e w6 ⟨rfl, h6⟩
  replace h6 := later h5 h6; clear h5
  go_wp2_with (first | (go_at_call 10; refine (num10 _ _).mono ?_; rintro e w' ⟨rfl, rfl⟩) | (go_at_call 12; refine (stands12 _ _ _ _).mono ?_; rintro e w' ⟨rfl, rfl⟩) | (go_at_call 20; refine (break20 _ _ _).mono ?_; rintro e w7 ⟨rfl, h7⟩))
  go_ret
  exact ⟨rfl, later h6 h7⟩

set_option maxHeartbeats 1000000 in
theorem nexts4 (own : Bool) (s m : Int) (w : World) (hs : -9223372036854775808 ≤ s) (hs' : s ≤ 9223372036854775807) (hm : -9223372036854775808 ≤ m) (hm' : m ≤ 9223372036854775807) :
    Calls Try.prog 4 #[.bool own, .int .i64 s, .int .i64 m] w fun e w' => e = .returned (.bool true) ∧ Below w.heap.size w w' := by
  go_enter Try.func4, Try.ntmps4
  go_wp2_with fail
  refine (next9 _ _ _ _).mono ?_; rintro e w1 ⟨rfl, h1⟩
  go_wp2_with fail
  refine (refNext13 _ _ _ _).mono ?_; rintro e w2 ⟨rfl, h2⟩
  replace h2 := later h1 h2; clear h1
  go_wp2_with fail
  refine (end11 _ _).mono ?_; rintro e w4 ⟨rfl, h4⟩
  replace h4 := later h2 h4; clear h2
  go_wp2_with fail
  refine (refEnd14 _ _).mono ?_; rintro e w5 ⟨rfl, rfl⟩
  go_wp2_with (go_at_call 10; refine (num10 _ _).mono ?_; rintro e w' ⟨rfl, rfl⟩)
  refine (waits15 _ _ _).mono ?_; rintro e w6 ⟨rfl, h6⟩
  replace h6 := later h4 h6; clear h4
  go_wp2_with fail
  refine (refWaits16 _ _ _).mono ?_; rintro e w7 ⟨rfl, h7⟩
  replace h7 := later h6 h7; clear h6
  go_wp2_with fail
  refine (works8 _).mono ?_; rintro e w8 ⟨rfl, h8⟩
  replace h8 := later h7 h8; clear h7
  go_wp2_with fail
  go_ret
  exact ⟨rfl, h8⟩

set_option maxHeartbeats 1000000 in
theorem stands5 (own : Bool) (s : Int) (ours : Bool) (w : World) (hs : -9223372036854775808 ≤ s) (hs' : s ≤ 9223372036854775807) :
    Calls Try.prog 5 #[.bool own, .int .i64 s, .bool ours] w fun e w' => e = .returned (.bool true) ∧ Below w.heap.size w w' := by
  go_enter Try.func5, Try.ntmps5
  go_wp2_with fail
  refine (anew17 _ _ _).mono ?_; rintro e w1 ⟨rfl, h1⟩
  go_wp2_with fail
  refine (refAnew18 _ _ _).mono ?_; rintro e w2 ⟨rfl, rfl⟩
  go_wp2_with fail
  refine (stands12 _ _ _ _).mono ?_; rintro e w3 ⟨rfl, rfl⟩
  go_wp2_with fail
  refine (refStands19 _ _ _ _).mono ?_; rintro e w3 ⟨rfl, rfl⟩
  go_wp2_with fail
  refine (break20 _ _ _).mono ?_; rintro e w4 ⟨rfl, h4⟩
  replace h4 := later h1 h4; clear h1
  go_wp2_with fail
  refine (refBreak21 _ _ _).mono ?_; rintro e w5 ⟨rfl, rfl⟩
  go_wp2_with fail
  refine (works8 _).mono ?_; rintro e w8 ⟨rfl, h8⟩
  replace h8 := later h4 h8; clear h4
  go_wp2_with fail
  go_ret
  exact ⟨rfl, h8⟩

end Go.Proofs.Ytpnfdffbbhedoaa
