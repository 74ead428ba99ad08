/- Contracts of the package ballot: Compare, Valid, Next. -/
import Derived.Test.YtadgaefmoobcoaaBallot
import Derived.Deep.RegionHeld3
namespace Go.Proofs.Ytadgaefmoobcoaa
open Go.ChangeShapes Go.WideShapes Go.ChangeAt Go.RowKit Go.Syn
set_option linter.unusedVariables false
set_option linter.unusedSimpArgs false




theorem compareV_eq (r n s m : Int) : firstNZ [cmpV r s, cmpV n m] = compareV r n s m := by
  unfold compareV firstNZ firstNZ firstNZ
  split
  · split <;> simp_all
  · rfl

theorem cmpV_fit (a b : Int) : I64 (cmpV a b) := by unfold cmpV I64; split <;> (try split) <;> omega


theorem valid_any (r n : Int) (w : World) :
    Calls Try.prog 29 #[.agg #[.int .i64 r, .int .i64 n]] w fun e w' => e = .returned (.bool (balB r n)) ∧ Below w.heap.size w w' := by
  have E := Lib.hid (show balB r n = decide (1 ≤ r ∧ r ≤ 1099511627776 ∧ 1 ≤ n ∧ n ≤ 9) from rfl)
  go_enter Try.func29, Try.ntmps29
  go_wp2
  all_goals
    go_ret
    exact ⟨by rw [E.out]; first | (simp [*]; done) | (simp; omega), (Below.refl _ _).alloc (Nat.le_refl _) _⟩


end Go.Proofs.Ytadgaefmoobcoaa
