/-
  The contracts of the stage package's functions.
-/
import Derived.Test.YtpnfdffbbhedoaaAid
namespace Go.Proofs.Ytpnfdffbbhedoaa
open Go.RowKit

def inB (n a b : Int) : Bool := decide (a ≤ n) && decide (n ≤ b)

set_option maxHeartbeats 400000 in
theorem in30 (n a b : Int) (w : World) :
    Calls Try.prog 30 #[.int .i64 n, .int .i64 a, .int .i64 b] w fun e w' => e = .returned (.bool (inB n a b)) ∧ w = w' := by
  unfold inB
  go_enter Try.func30, Try.ntmps30
  go_wp2
  all_goals
    go_ret
    simp [*]
    try omega

set_option maxHeartbeats 400000 in
theorem in28 (n a b : Int) (w : World) :
    Calls Try.prog 28 #[.int .i64 n, .int .i64 a, .int .i64 b] w fun e w' => e = .returned (.bool (inB n a b)) ∧ w = w' := by
  unfold inB
  go_enter Try.func28, Try.ntmps28
  go_wp2
  all_goals
    go_ret
    simp [*]
    try omega

set_option maxHeartbeats 400000 in
theorem right27 (s : Int) (w : World) :
    Calls Try.prog 27 #[.agg #[.int .i64 s]] w fun e w' => e = .returned (.bool (inB s 1 10)) ∧ w.alloc (.cells #[.int .i64 s] 59) = w' := by
  go_enter Try.func27, Try.ntmps27
  go_wp2_with (go_at_call 30; refine (in30 _ _ _ _).mono ?_; rintro e w' ⟨rfl, rfl⟩)
  go_ret
  exact ⟨rfl, rfl⟩


/-- slices.Index over two truths -/
theorem idx38 (x y : Bool) (w : World) (b : Nat) (h0 : w.cell? ⟨b, 0, none⟩ = some (.bool x)) (h1 : w.cell? ⟨b, 1, none⟩ = some (.bool y)) :
    Calls Try.prog 38 #[.slice (some ⟨b, 0, none⟩) 2 2, .bool false] w fun e w' => e = .returned (.int .i64 (if x then if y then -1 else 1 else 0)) ∧ w = w' := by
  cases x <;> cases y <;>
  ( go_enter Try.func38, Try.ntmps38
    go_wp2
    go_rounds 3
    go_ret
    exact ⟨rfl, rfl⟩)

theorem cont35 (x y : Bool) (w : World) (b : Nat) (h0 : w.cell? ⟨b, 0, none⟩ = some (.bool x)) (h1 : w.cell? ⟨b, 1, none⟩ = some (.bool y)) :
    Calls Try.prog 35 #[.slice (some ⟨b, 0, none⟩) 2 2, .bool false] w fun e w' => e = .returned (.bool (!(x && y))) ∧ w = w' := by
  cases x <;> cases y <;>
  ( go_enter Try.func35, Try.ntmps35
    go_wp2_with (go_at_call 38; refine (idx38 _ _ _ _ h0 h1).mono ?_; rintro e w' ⟨rfl, rfl⟩)
    go_ret
    exact ⟨rfl, rfl⟩)

theorem all26 (x y : Bool) (w : World) (b : Nat) (h0 : w.cell? ⟨b, 0, none⟩ = some (.bool x)) (h1 : w.cell? ⟨b, 1, none⟩ = some (.bool y)) :
    Calls Try.prog 26 #[.slice (some ⟨b, 0, none⟩) 2 2] w fun e w' => e = .returned (.bool (x && y)) ∧ w = w' := by
  go_enter Try.func26, Try.ntmps26
  go_wp2_with (go_at_call 35; refine (cont35 _ _ _ _ h0 h1).mono ?_; rintro e w' ⟨rfl, rfl⟩)
  go_ret
  exact ⟨by simp, rfl⟩

theorem num10 (n : Int) (w : World) : Calls Try.prog 10 #[.int .i64 n] w fun e w' => e = .returned (.int .i64 n) ∧ w = w' := by
  go_enter Try.func10, Try.ntmps10
  go_wp2
  go_ret
  exact ⟨rfl, rfl⟩

abbrev stepsC : Array Value := #[.int .i64 0, .int .i64 3, .int .i64 4, .int .i64 1, .int .i64 2, .int .i64 0, .int .i64 1, .int .i64 2, .int .i64 3, .int .i64 4, .int .i64 0, .int .i64 1, .int .i64 2, .int .i64 3, .int .i64 4, .int .i64 0, .int .i64 3, .int .i64 4, .int .i64 1, .int .i64 2]

theorem steps36 (w : World) : Calls Try.prog 36 #[] w fun e w' => e = .returned (.agg stepsC) ∧ w.alloc (.cells stepsC 79) = w' := by
  go_enter Try.func36, Try.ntmps36
  go_wp2_with (refine wpList_store_new rfl 79 (.tmp 0) (.tmp 3) rfl _ _ rfl rfl _ (by kernel_rfl) (by kernel_rfl) (by kernel_rfl) ?_)
  refine bodyPost_ret (v := .agg stepsC) (results_cell_row Try.results36 _ _ w.heap.size _ _ _ _ rfl (heap_alloc_last _ _) Try.underlying79 rfl (by kernel_rfl)) rfl ⟨rfl, ?_⟩
  rfl

end Go.Proofs.Ytpnfdffbbhedoaa
