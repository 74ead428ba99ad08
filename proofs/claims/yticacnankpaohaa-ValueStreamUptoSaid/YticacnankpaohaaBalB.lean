/- Contracts of the package ballot: Compare, Valid, Next. -/
import Derived.Test.YticacnankpaohaaBallot
import Derived.Deep.RegionHeld3
namespace Go.Proofs.Yticacnankpaohaa
open Go.ChangeShapes Go.WideShapes Go.ChangeAt Go.RowKit Go.Syn
set_option linter.unusedVariables false
set_option linter.unusedSimpArgs false




theorem compareV_eq (r n s m : Int) : firstNZ [cmpV r s, cmpV n m] = compareV r n s m := by
  unfold compareV firstNZ firstNZ firstNZ
  split
  · split <;> simp_all
  · rfl

theorem cmpV_fit (a b : Int) : I64 (cmpV a b) := by unfold cmpV I64; split <;> (try split) <;> omega




end Go.Proofs.Yticacnankpaohaa
