/- Contracts of the package drift: Hold, Wait, Keeps (whole, for every input). -/
import Derived.Test.YtnpjigeljhlomaaRows
import Derived.WalkKit
import Derived.ProofKit
import Derived.OpenShut
import Derived.Lib.Hide
namespace Go.Proofs.Ytnpjigeljhlomaa
open Go.ChangeShapes Go.WideShapes Go.ChangeAt Go.RowKit
set_option linter.unusedVariables false

def rightB (t r : Int) : Bool := decide (0 ≤ t ∧ t ≤ 1048576 ∧ 0 ≤ r ∧ r ≤ 500)

theorem right_any (t r : Int) (w : World) :
    Calls Try.prog 34 #[.int .i64 t, .int .i64 r] w fun e w' => e = .returned (.bool (rightB t r)) ∧ w = w' := by
  by_cases h1 : 0 ≤ t <;> by_cases h2 : t ≤ 1048576 <;> by_cases h3 : 0 ≤ r <;> by_cases h4 : r ≤ 500
  all_goals
    have e : rightB t r = decide (0 ≤ t ∧ t ≤ 1048576 ∧ 0 ≤ r ∧ r ≤ 500) := rfl
    have E := Lib.hid e
    clear e
    go_enter Try.func34, Try.ntmps34
    go_wp2
    go_ret
    exact ⟨by rw [E.out]; simp; try omega, rfl⟩

theorem mulb (a b A B : Int) (h1 : 0 ≤ a) (h2 : a ≤ A) (h3 : 0 ≤ b) (h4 : b ≤ B) : 0 ≤ a * b ∧ a * b ≤ A * B :=
  ⟨Int.mul_nonneg h1 h3, Int.mul_le_mul h2 h4 h3 (by omega)⟩

theorem right_yes {t r : Int} (h : rightB t r = true) : 0 ≤ t ∧ t ≤ 1048576 ∧ 0 ≤ r ∧ r ≤ 500 := by simpa [rightB] using h

def holdV (t r : Int) : Int := if rightB t r then t * (1000 - r) / (1000 + r) else 0
def waitV (t r : Int) : Int := if rightB t r then (t * (1000 + r) + 1000 - r - 1) / (1000 - r) else 0
def keepsB (time ticks r : Int) : Bool :=
  decide (0 ≤ r ∧ r ≤ 500 ∧ 0 ≤ time ∧ time ≤ 1099511627776 ∧ 0 ≤ ticks ∧ ticks ≤ 1099511627776 ∧ (1000 - r) * time ≤ 1000 * ticks ∧ 1000 * ticks ≤ (1000 + r) * time)

theorem holdV_yes {t r : Int} (h : rightB t r = true) : holdV t r = t * (1000 - r) / (1000 + r) := by simp [holdV, h]
theorem holdV_no {t r : Int} (h : rightB t r = false) : holdV t r = 0 := by simp [holdV, h]
theorem waitV_yes {t r : Int} (h : rightB t r = true) : waitV t r = (t * (1000 + r) + 1000 - r - 1) / (1000 - r) := by simp [waitV, h]
theorem waitV_no {t r : Int} (h : rightB t r = false) : waitV t r = 0 := by simp [waitV, h]

theorem hold_any (t r : Int) (w : World) :
    Calls Try.prog 30 #[.int .i64 t, .int .i64 r] w fun e w' => e = .returned (.int .i64 (holdV t r)) ∧ w = w' := by
  by_cases hb : rightB t r = true
  · obtain ⟨h1, h2, h3, h4⟩ := right_yes hb
    obtain ⟨m1, m2⟩ := mulb t (1000 - r) 1048576 1000 h1 h2 (by omega) (by omega)
    rw [holdV_yes hb]
    go_enter Try.func30, Try.ntmps30
    go_wp2_with (go_at_call 34; refine (right_any _ _ _).mono ?_; rintro e w' ⟨rfl, rfl⟩)
    go_ret
    exact ⟨rfl, rfl⟩
  · have hb : rightB t r = false := by simpa using hb
    rw [holdV_no hb]
    go_enter Try.func30, Try.ntmps30
    go_wp2_with (go_at_call 34; refine (right_any _ _ _).mono ?_; rintro e w' ⟨rfl, rfl⟩)
    go_ret
    exact ⟨rfl, rfl⟩

theorem keepsB_eq (time ticks r : Int) : keepsB time ticks r = decide (0 ≤ r ∧ r ≤ 500 ∧ 0 ≤ time ∧ time ≤ 1099511627776 ∧ 0 ≤ ticks ∧ ticks ≤ 1099511627776 ∧ (1000 - r) * time ≤ 1000 * ticks ∧ 1000 * ticks ≤ (1000 + r) * time) := rfl

set_option maxHeartbeats 400000 in
theorem keeps_any (time ticks r : Int) (w : World) :
    Calls Try.prog 23 #[.int .i64 time, .int .i64 ticks, .int .i64 r] w fun e w' => e = .returned (.bool (keepsB time ticks r)) ∧ w = w' := by
  have E := Lib.hid (keepsB_eq time ticks r)
  by_cases hb : 0 ≤ r ∧ r ≤ 500 ∧ 0 ≤ time ∧ time ≤ 1099511627776 ∧ 0 ≤ ticks ∧ ticks ≤ 1099511627776
  · obtain ⟨h1, h2, h3, h4, h5, h6⟩ := hb
    obtain ⟨m1, m2⟩ := mulb (1000 - r) time 1000 1099511627776 (by omega) (by omega) h3 h4
    obtain ⟨m3, m4⟩ := mulb (1000 + r) time 1500 1099511627776 (by omega) (by omega) h3 h4
    by_cases c1 : (1000 - r) * time ≤ 1000 * ticks <;> by_cases c2 : 1000 * ticks ≤ (1000 + r) * time
    all_goals
      go_enter Try.func23, Try.ntmps23
      go_wp2
      go_ret
      exact ⟨by rw [E.out]; simp; try omega, rfl⟩
  · go_enter Try.func23, Try.ntmps23
    go_wp2
    all_goals
      go_ret
      exact ⟨by rw [E.out]; simp; try omega, rfl⟩

end Go.Proofs.Ytnpjigeljhlomaa
