/- The walks of the laws DriftNumbers and DriftKeeps. -/
import Derived.Test.YtakbkdlecmlaaaaDriftRef
import Derived.WalkKit
namespace Go.Proofs.Ytakbkdlecmlaaaa
open Go.ChangeShapes Go.WideShapes Go.ChangeAt Go.RowKit
set_option linter.unusedVariables false

theorem numbers_walk (t r : Int) (w : World) :
    Calls Try.prog 3 #[.int .i64 t, .int .i64 r] w fun e w' => e = .returned (.bool true) ∧ w = w' := by
  go_enter Try.func3, Try.ntmps3
  go_wp2_with (first
    | (go_at_call 6; refine (head_any _).mono ?_; rintro e w' ⟨rfl, rfl⟩)
    | (go_at_call 7; refine (hold_any _ _ _).mono ?_; rintro e w' ⟨rfl, rfl⟩)
    | (go_at_call 9; refine (wait_any _ _ _).mono ?_; rintro e w' ⟨rfl, rfl⟩)
    | (go_at_call 8; refine (refHold_any _ _ _).mono ?_; rintro e w' ⟨rfl, rfl⟩)
    | (go_at_call 10; refine (refWait_any _ _ _).mono ?_; rintro e w' ⟨rfl, rfl⟩))
  go_ret
  exact ⟨rfl, rfl⟩

set_option maxHeartbeats 400000 in
theorem keeps_walk (time ticks r : Int) (w : World) :
    Calls Try.prog 4 #[.int .i64 time, .int .i64 ticks, .int .i64 r] w fun e w' => e = .returned (.bool true) ∧ w = w' := by
  by_cases hb : 0 ≤ r ∧ r ≤ 500 ∧ 0 ≤ time ∧ time ≤ 1099511627776 ∧ 0 ≤ ticks ∧ ticks ≤ 1099511627776
  · obtain ⟨h1, h2, h3, h4, h5, h6⟩ := hb
    obtain ⟨m1, m2⟩ := mulb r time 500 1099511627776 h1 h2 h3 h4
    have e1 : (1000 - r) * time = 1000 * time - r * time := Int.sub_mul _ _ _
    have e2 : (1000 + r) * time = 1000 * time + r * time := Int.add_mul _ _ _
    by_cases c1 : 1000 * ticks < 1000 * time - r * time <;> by_cases c2 : 1000 * time + r * time < 1000 * ticks
    all_goals
      first
      | have K : keepsB time ticks r = true := by simp only [keepsB, e1, e2, decide_eq_true_eq]; omega
      | have K : keepsB time ticks r = false := by simp only [keepsB, e1, e2, decide_eq_false_iff_not]; omega
      clear e1 e2
      go_enter Try.func4, Try.ntmps4
      go_wp2_with (first
        | (go_at_call 6; refine (head_any _).mono ?_; rintro e w' ⟨rfl, rfl⟩)
        | (go_at_call 11; refine (keeps_any _ _ _ _).mono ?_; rintro e w' ⟨rfl, rfl⟩))
      all_goals first | (go_ret; exact ⟨by simp [*], rfl⟩) | (go_ret; go_show)
  · have K : keepsB time ticks r = false := by simp only [keepsB, decide_eq_false_iff_not]; omega
    go_enter Try.func4, Try.ntmps4
    go_wp2_with (first
      | (go_at_call 6; refine (head_any _).mono ?_; rintro e w' ⟨rfl, rfl⟩)
      | (go_at_call 11; refine (keeps_any _ _ _ _).mono ?_; rintro e w' ⟨rfl, rfl⟩))
    all_goals first | (exfalso; omega) | (go_ret; exact ⟨rfl, rfl⟩)

end Go.Proofs.Ytakbkdlecmlaaaa
