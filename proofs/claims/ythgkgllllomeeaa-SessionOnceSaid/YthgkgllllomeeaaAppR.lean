/- Right operations; contract of synodref03.Right (out of XApp). -/
import Derived.Test.YthgkgllllomeeaaRows
import Derived.Test.YthgkgllllomeeaaLibG
import Derived.Laws.Cover2
import Derived.Laws.ComplexArith
import Derived.Deep.DeepCutAuto
namespace Go.Syn
/-- An operation. -/
structure OpD where
  kind : Int
  reg : Int
  tg : Int
  re : Int
  im : Int
def OpD.cells (o : OpD) : List Value := [.int .i64 o.kind, .int .i64 o.reg, .int .i64 o.tg, .int .i64 o.re, .int .i64 o.im]
def fitB (re im : Int) : Bool := decide (-1048576 ≤ re ∧ re ≤ 1048576 ∧ -1048576 ≤ im ∧ im ≤ 1048576)
/-- The number of two parts. -/
def numV (re im : Int) : Value := if fitB re im then .complex .f64 (floatOfInt .f64 re) (floatOfInt .f64 im) else .complex .f64 0 0
def inB (x lo hi : Int) : Bool := decide (lo ≤ x ∧ x ≤ hi)
def bareB (re im : Int) : Bool := decide (re = 0 ∧ im = 0)
def opB (o : OpD) : Bool :=
  inB o.reg 0 7 &&
  if o.kind = 1 then bareB o.re o.im && decide (o.tg = 0)
  else if o.kind = 2 ∨ o.kind = 3 ∨ o.kind = 4 then fitB o.re o.im && decide (o.tg = 0)
  else if o.kind = 5 then bareB o.re o.im && inB o.tg 0 3
  else if o.kind = 6 then bareB o.re o.im && inB o.tg 0 7
  else if o.kind = 7 then fitB o.re o.im && inB o.tg 0 7
  else false
end Go.Syn
namespace Go.Proofs.Ythgkgllllomeeaa
open Go.ChangeShapes Go.WideShapes Go.ChangeAt Go.RowKit Go.Syn
set_option linter.unusedVariables false
set_option linter.unusedSimpArgs false



theorem ref03_any (re im : Int) (w : World) : Calls Try.prog 29 #[.int .i64 re, .int .i64 im] w fun e w' => e = .returned (.bool (fitB re im)) ∧ w = w' := by
  have E := Lib.hid (show fitB re im = decide (-1048576 ≤ re ∧ re ≤ 1048576 ∧ -1048576 ≤ im ∧ im ≤ 1048576) from rfl)
  go_enter Try.func29, Try.ntmps29
  go_wp2
  all_goals
    go_ret
    exact ⟨by rw [E.out]; exact ret_bool (by simp; try omega), rfl⟩

end Go.Proofs.Ythgkgllllomeeaa
