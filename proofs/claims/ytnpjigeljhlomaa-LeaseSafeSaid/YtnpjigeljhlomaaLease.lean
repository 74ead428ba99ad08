/- Contracts of the granter and of its reference. -/
import Derived.Test.YtnpjigeljhlomaaLibG
import Derived.Test.YtnpjigeljhlomaaTab
import Derived.Test.YtnpjigeljhlomaaEng17
namespace Go.Proofs.Ytnpjigeljhlomaa
open Go.ChangeShapes Go.WideShapes Go.ChangeAt Go.RowKit Go.Syn Go.Eng
set_option linter.unusedVariables false
set_option linter.unusedSimpArgs false
/-- A granter. -/
structure GrD where
  length : Int
  since : Int
  rnd : Int
  node : Int
  stands : Bool
def GrD.cells (g : GrD) : List Value := [.int .i64 g.length, .int .i64 g.since, .int .i64 g.rnd, .int .i64 g.node, .bool g.stands]
def GrD.vals (g : GrD) : List Int := [g.length, g.since, g.rnd, g.node]
structure GrD.ok (g : GrD) : Prop where
  len0 : 0 ≤ g.length
  len1 : g.length ≤ 1048576
  since : I64 g.since
def newGr (len now : Int) (anew : Bool) : GrD := ⟨max 0 (min len 1048576), now, 0, 0, anew⟩
def overV (g : GrD) (now : Int) : GrD := if now < g.since then { g with since := now } else g
def overB (g : GrD) (now : Int) : Bool := decide ((overV g now).length ≤ now - (overV g now).since)
def barsV (g : GrD) (now : Int) : GrD := if g.length = 0 ∨ g.stands = false then g else if overB g now then { overV g now with stands := false } else overV g now
def barsB (g : GrD) (r n now : Int) : Bool := if g.length = 0 ∨ g.stands = false then false else if overB g now then false else !(decide (g.rnd = r) && decide (g.node = n))
def balOk (r n : Int) : Bool := decide (1 ≤ r) && decide (r ≤ 1099511627776) && decide (1 ≤ n) && decide (n ≤ 9)
def grantB (g : GrD) (r n now : Int) : Bool := !(barsB g r n now) && !decide (g.length = 0) && balOk r n
def grantV (g : GrD) (r n now : Int) : GrD := if grantB g r n now then ⟨g.length, now, r, n, true⟩ else barsV g now
/-- The reference's granter at a time. -/
def atV (g : GrD) (now : Int) : GrD :=
  let h := if now < g.since ∧ g.stands = true then { g with since := now } else g
  if h.stands = true ∧ h.since + h.length ≤ now then { h with stands := false } else h
def rGrantB (g : GrD) (r n now : Int) : Bool := !decide (g.length = 0) && balOk r n && !((atV g now).stands && !(decide ((atV g now).rnd = r) && decide ((atV g now).node = n)))
def rGrantV (g : GrD) (r n now : Int) : GrD := if rGrantB g r n now then ⟨g.length, now, r, n, true⟩ else atV g now
def rNewGr (len now : Int) (anew : Bool) : GrD := ⟨max 0 (min len 1048576), now, 0, 0, anew && decide (0 < max 0 (min len 1048576))⟩
set_option maxRecDepth 100000 in
theorem tFar : (runF ⟨tt, fns, {}⟩ (Try.f8.body.getD .skip) Try.f8.results.toList (entry Try.f8.ntmps [.lf (.int .i64 (.var 0))] [] ⟨1, 0, 0, 0, 0⟩)) =
  (.br (.cmp .lss (.var 0) (.lit (-1152921504606846976))) (.done (.lf (.bool (.lit .true))) ⟨[], ⟨1, 0, 0, 0, 0⟩⟩) (.done (.lf (.bool (.cmp .gtr (.var 0) (.lit 1152921504606846976)))) ⟨[], ⟨1, 0, 0, 0, 0⟩⟩)) := by kernel_rfl
set_option maxRecDepth 100000 in
theorem tRVal : (runF ⟨tt, fns, {}⟩ (Try.f15.body.getD .skip) Try.f15.results.toList (entry Try.f15.ntmps [.agg [.int .i64 (.var 0), .int .i64 (.var 1)]] [] ⟨2, 0, 0, 0, 0⟩)) =
  (.br (.cmp .gtr (.var 0) (.lit 0)) (.br (.cmp .leq (.var 0) (.lit 1099511627776)) (.br (.cmp .gtr (.var 1) (.lit 0)) (.done (.lf (.bool (.cmp .leq (.var 1) (.lit 9)))) ⟨[(28, [(.int .i64 (.var 0)), (.int .i64 (.var 1))])], ⟨2, 0, 0, 0, 0⟩⟩) (.done (.lf (.bool (.lit .false))) ⟨[(28, [(.int .i64 (.var 0)), (.int .i64 (.var 1))])], ⟨2, 0, 0, 0, 0⟩⟩)) (.done (.lf (.bool (.lit .false))) ⟨[(28, [(.int .i64 (.var 0)), (.int .i64 (.var 1))])], ⟨2, 0, 0, 0, 0⟩⟩)) (.done (.lf (.bool (.lit .false))) ⟨[(28, [(.int .i64 (.var 0)), (.int .i64 (.var 1))])], ⟨2, 0, 0, 0, 0⟩⟩)) := by kernel_rfl
set_option maxRecDepth 100000 in
theorem tBVal : (runF ⟨tt, fns, {}⟩ (Try.f26.body.getD .skip) Try.f26.results.toList (entry Try.f26.ntmps [.agg [.int .i64 (.var 0), .int .i64 (.var 1)]] [] ⟨2, 0, 0, 0, 0⟩)) =
  (.br (.cmp .geq (.var 0) (.lit 1)) (.br (.cmp .leq (.var 0) (.lit 1099511627776)) (.br (.cmp .geq (.var 1) (.lit 1)) (.done (.lf (.bool (.cmp .leq (.var 1) (.lit 9)))) ⟨[(28, [(.int .i64 (.var 0)), (.int .i64 (.var 1))])], ⟨2, 0, 0, 0, 0⟩⟩) (.done (.lf (.bool (.lit .false))) ⟨[(28, [(.int .i64 (.var 0)), (.int .i64 (.var 1))])], ⟨2, 0, 0, 0, 0⟩⟩)) (.done (.lf (.bool (.lit .false))) ⟨[(28, [(.int .i64 (.var 0)), (.int .i64 (.var 1))])], ⟨2, 0, 0, 0, 0⟩⟩)) (.done (.lf (.bool (.lit .false))) ⟨[(28, [(.int .i64 (.var 0)), (.int .i64 (.var 1))])], ⟨2, 0, 0, 0, 0⟩⟩)) := by kernel_rfl
set_option maxRecDepth 100000 in
theorem tOver : (runF ⟨tt, fns, {}⟩ (Try.f25.body.getD .skip) Try.f25.results.toList (entry Try.f25.ntmps [.lf (.ptr 0 0), .lf (.int .i64 (.var 4))] [(61, [.int .i64 (.var 0), .int .i64 (.var 1), .int .i64 (.var 2), .int .i64 (.var 3), .bool (.var 0)])] ⟨5, 1, 0, 0, 0⟩)) =
  (.br (.cmp .lss (.var 4) (.var 1)) (.done (.lf (.bool (.cmp .geq (.op .sub .u64 (.conv .u64 (.var 4)) (.conv .u64 (.var 4))) (.conv .u64 (.var 0))))) ⟨[(61, [(.int .i64 (.var 0)), (.int .i64 (.var 4)), (.int .i64 (.var 2)), (.int .i64 (.var 3)), (.bool (.var 0))])], ⟨5, 1, 0, 0, 0⟩⟩) (.done (.lf (.bool (.cmp .geq (.op .sub .u64 (.conv .u64 (.var 4)) (.conv .u64 (.var 1))) (.conv .u64 (.var 0))))) ⟨[(61, [(.int .i64 (.var 0)), (.int .i64 (.var 1)), (.int .i64 (.var 2)), (.int .i64 (.var 3)), (.bool (.var 0))])], ⟨5, 1, 0, 0, 0⟩⟩)) := by kernel_rfl
set_option maxRecDepth 100000 in
theorem tBars : (runF ⟨tt, fns, {touch := [(25, [0])]}⟩ (Try.f12.body.getD .skip) Try.f12.results.toList (entry Try.f12.ntmps [.lf (.ptr 0 0), .agg [.int .i64 (.var 4), .int .i64 (.var 5)], .lf (.int .i64 (.var 6))] [(61, [.int .i64 (.var 0), .int .i64 (.var 1), .int .i64 (.var 2), .int .i64 (.var 3), .bool (.var 0)])] ⟨7, 1, 0, 0, 0⟩)) =
  (.br (.cmp .eql (.var 0) (.lit 0)) (.done (.lf (.bool (.lit .false))) ⟨[(61, [(.int .i64 (.var 0)), (.int .i64 (.var 1)), (.int .i64 (.var 2)), (.int .i64 (.var 3)), (.bool (.var 0))]), (28, [(.int .i64 (.var 4)), (.int .i64 (.var 5))])], ⟨7, 1, 0, 0, 0⟩⟩) (.br (.not (.var 0)) (.done (.lf (.bool (.lit .false))) ⟨[(61, [(.int .i64 (.var 0)), (.int .i64 (.var 1)), (.int .i64 (.var 2)), (.int .i64 (.var 3)), (.bool (.var 0))]), (28, [(.int .i64 (.var 4)), (.int .i64 (.var 5))])], ⟨7, 1, 0, 0, 0⟩⟩) (.call 25 [(.lf (.ptr 0 0)), (.lf (.int .i64 (.var 6)))] ⟨[(61, [(.int .i64 (.var 0)), (.int .i64 (.var 1)), (.int .i64 (.var 2)), (.int .i64 (.var 3)), (.bool (.var 0))]), (28, [(.int .i64 (.var 4)), (.int .i64 (.var 5))])], ⟨7, 1, 0, 0, 0⟩⟩ (.lf (.bool (.var 2))) ⟨[(61, [(.int .i64 (.var 7)), (.int .i64 (.var 8)), (.int .i64 (.var 9)), (.int .i64 (.var 10)), (.bool (.var 1))]), (28, [(.int .i64 (.var 4)), (.int .i64 (.var 5))])], ⟨11, 3, 0, 0, 0⟩⟩ (.br (.var 2) (.done (.lf (.bool (.lit .false))) ⟨[(61, [(.int .i64 (.var 7)), (.int .i64 (.var 8)), (.int .i64 (.var 9)), (.int .i64 (.var 10)), (.bool (.lit .false))]), (28, [(.int .i64 (.var 4)), (.int .i64 (.var 5))])], ⟨11, 3, 0, 0, 0⟩⟩) (.done (.lf (.bool (.not (.and (.cmp .eql (.var 9) (.var 4)) (.cmp .eql (.var 10) (.var 5)))))) ⟨[(61, [(.int .i64 (.var 7)), (.int .i64 (.var 8)), (.int .i64 (.var 9)), (.int .i64 (.var 10)), (.bool (.var 1))]), (28, [(.int .i64 (.var 4)), (.int .i64 (.var 5))])], ⟨11, 3, 0, 0, 0⟩⟩))))) := by kernel_rfl
set_option maxRecDepth 100000 in
theorem tGrant : (runF ⟨tt, fns, {touch := [(12, [0])]}⟩ (Try.f14.body.getD .skip) Try.f14.results.toList (entry Try.f14.ntmps [.lf (.ptr 0 0), .agg [.int .i64 (.var 4), .int .i64 (.var 5)], .lf (.int .i64 (.var 6))] [(61, [.int .i64 (.var 0), .int .i64 (.var 1), .int .i64 (.var 2), .int .i64 (.var 3), .bool (.var 0)])] ⟨7, 1, 0, 0, 0⟩)) =
  (.call 12 [(.lf (.ptr 0 0)), (.agg [(.int .i64 (.var 4)), (.int .i64 (.var 5))]), (.lf (.int .i64 (.var 6)))] ⟨[(61, [(.int .i64 (.var 0)), (.int .i64 (.var 1)), (.int .i64 (.var 2)), (.int .i64 (.var 3)), (.bool (.var 0))]), (28, [(.int .i64 (.var 4)), (.int .i64 (.var 5))])], ⟨7, 1, 0, 0, 0⟩⟩ (.lf (.bool (.var 2))) ⟨[(61, [(.int .i64 (.var 7)), (.int .i64 (.var 8)), (.int .i64 (.var 9)), (.int .i64 (.var 10)), (.bool (.var 1))]), (28, [(.int .i64 (.var 4)), (.int .i64 (.var 5))])], ⟨11, 3, 0, 0, 0⟩⟩ (.br (.var 2) (.done (.lf (.bool (.lit .false))) ⟨[(61, [(.int .i64 (.var 7)), (.int .i64 (.var 8)), (.int .i64 (.var 9)), (.int .i64 (.var 10)), (.bool (.var 1))]), (28, [(.int .i64 (.var 4)), (.int .i64 (.var 5))])], ⟨11, 3, 0, 0, 0⟩⟩) (.br (.cmp .eql (.var 7) (.lit 0)) (.done (.lf (.bool (.lit .false))) ⟨[(61, [(.int .i64 (.var 7)), (.int .i64 (.var 8)), (.int .i64 (.var 9)), (.int .i64 (.var 10)), (.bool (.var 1))]), (28, [(.int .i64 (.var 4)), (.int .i64 (.var 5))])], ⟨11, 3, 0, 0, 0⟩⟩) (.call 26 [(.agg [(.int .i64 (.var 4)), (.int .i64 (.var 5))])] ⟨[(61, [(.int .i64 (.var 7)), (.int .i64 (.var 8)), (.int .i64 (.var 9)), (.int .i64 (.var 10)), (.bool (.var 1))]), (28, [(.int .i64 (.var 4)), (.int .i64 (.var 5))])], ⟨11, 3, 0, 0, 0⟩⟩ (.lf (.bool (.var 3))) ⟨[(61, [(.int .i64 (.var 7)), (.int .i64 (.var 8)), (.int .i64 (.var 9)), (.int .i64 (.var 10)), (.bool (.var 1))]), (28, [(.int .i64 (.var 4)), (.int .i64 (.var 5))])], ⟨11, 4, 0, 0, 0⟩⟩ (.br (.not (.var 3)) (.done (.lf (.bool (.lit .false))) ⟨[(61, [(.int .i64 (.var 7)), (.int .i64 (.var 8)), (.int .i64 (.var 9)), (.int .i64 (.var 10)), (.bool (.var 1))]), (28, [(.int .i64 (.var 4)), (.int .i64 (.var 5))])], ⟨11, 4, 0, 0, 0⟩⟩) (.done (.lf (.bool (.lit .true))) ⟨[(61, [(.int .i64 (.var 7)), (.int .i64 (.var 6)), (.int .i64 (.var 4)), (.int .i64 (.var 5)), (.bool (.lit .true))]), (28, [(.int .i64 (.var 4)), (.int .i64 (.var 5))])], ⟨11, 4, 0, 0, 0⟩⟩)))))) := by kernel_rfl
set_option maxRecDepth 100000 in
theorem tNewGr : (runF ⟨tt, fns, {}⟩ (Try.f9.body.getD .skip) Try.f9.results.toList (entry Try.f9.ntmps [.lf (.int .i64 (.var 0)), .lf (.int .i64 (.var 1)), .lf (.bool (.var 0))] [] ⟨2, 1, 0, 0, 0⟩)) =
  (.done (.lf (.ptr 0 0)) ⟨[(61, [(.int .i64 (.mx (.lit 0) (.mn (.var 0) (.lit 1048576)))), (.int .i64 (.var 1)), (.int .i64 (.lit 0)), (.int .i64 (.lit 0)), (.bool (.var 0))])], ⟨2, 1, 0, 0, 0⟩⟩) := by kernel_rfl
set_option maxRecDepth 100000 in
theorem tBarsNil : (runF ⟨tt, fns, {}⟩ (Try.f12.body.getD .skip) Try.f12.results.toList (entry Try.f12.ntmps [.lf .nilp, .agg [.int .i64 (.var 0), .int .i64 (.var 1)], .lf (.int .i64 (.var 2))] [] ⟨3, 0, 0, 0, 0⟩)) =
  (.done (.lf (.bool (.lit .false))) ⟨[(28, [(.int .i64 (.var 0)), (.int .i64 (.var 1))])], ⟨3, 0, 0, 0, 0⟩⟩) := by kernel_rfl
set_option maxRecDepth 100000 in
theorem tGrantNil : (runF ⟨tt, fns, {}⟩ (Try.f14.body.getD .skip) Try.f14.results.toList (entry Try.f14.ntmps [.lf .nilp, .agg [.int .i64 (.var 0), .int .i64 (.var 1)], .lf (.int .i64 (.var 2))] [] ⟨3, 0, 0, 0, 0⟩)) =
  (.call 12 [(.lf .nilp), (.agg [(.int .i64 (.var 0)), (.int .i64 (.var 1))]), (.lf (.int .i64 (.var 2)))] ⟨[(28, [(.int .i64 (.var 0)), (.int .i64 (.var 1))])], ⟨3, 0, 0, 0, 0⟩⟩ (.lf (.bool (.var 0))) ⟨[(28, [(.int .i64 (.var 0)), (.int .i64 (.var 1))])], ⟨3, 1, 0, 0, 0⟩⟩ (.br (.var 0) (.done (.lf (.bool (.lit .false))) ⟨[(28, [(.int .i64 (.var 0)), (.int .i64 (.var 1))])], ⟨3, 1, 0, 0, 0⟩⟩) (.done (.lf (.bool (.lit .false))) ⟨[(28, [(.int .i64 (.var 0)), (.int .i64 (.var 1))])], ⟨3, 1, 0, 0, 0⟩⟩))) := by kernel_rfl
set_option maxRecDepth 100000 in
theorem tRNew : (runF ⟨tt, fns, {}⟩ (Try.f10.body.getD .skip) Try.f10.results.toList (entry Try.f10.ntmps [.lf (.int .i64 (.var 0)), .lf (.int .i64 (.var 1)), .lf (.bool (.var 0))] [] ⟨2, 1, 0, 0, 0⟩)) =
  (.br (.cmp .lss (.var 0) (.lit 0)) (.br (.var 0) (.done (.agg [(.int .i64 (.lit 0)), (.int .i64 (.var 1)), (.int .i64 (.lit 0)), (.int .i64 (.lit 0)), (.bool (.lit .false))]) ⟨[(30, [(.int .i64 (.lit 0)), (.int .i64 (.var 1)), (.int .i64 (.lit 0)), (.int .i64 (.lit 0)), (.bool (.lit .false))])], ⟨2, 1, 0, 0, 0⟩⟩) (.done (.agg [(.int .i64 (.lit 0)), (.int .i64 (.var 1)), (.int .i64 (.lit 0)), (.int .i64 (.lit 0)), (.bool (.lit .false))]) ⟨[(30, [(.int .i64 (.lit 0)), (.int .i64 (.var 1)), (.int .i64 (.lit 0)), (.int .i64 (.lit 0)), (.bool (.lit .false))])], ⟨2, 1, 0, 0, 0⟩⟩)) (.br (.cmp .gtr (.var 0) (.lit 1048576)) (.br (.var 0) (.done (.agg [(.int .i64 (.lit 1048576)), (.int .i64 (.var 1)), (.int .i64 (.lit 0)), (.int .i64 (.lit 0)), (.bool (.lit .true))]) ⟨[(30, [(.int .i64 (.lit 1048576)), (.int .i64 (.var 1)), (.int .i64 (.lit 0)), (.int .i64 (.lit 0)), (.bool (.lit .true))])], ⟨2, 1, 0, 0, 0⟩⟩) (.done (.agg [(.int .i64 (.lit 1048576)), (.int .i64 (.var 1)), (.int .i64 (.lit 0)), (.int .i64 (.lit 0)), (.bool (.lit .false))]) ⟨[(30, [(.int .i64 (.lit 1048576)), (.int .i64 (.var 1)), (.int .i64 (.lit 0)), (.int .i64 (.lit 0)), (.bool (.lit .false))])], ⟨2, 1, 0, 0, 0⟩⟩)) (.br (.var 0) (.done (.agg [(.int .i64 (.var 0)), (.int .i64 (.var 1)), (.int .i64 (.lit 0)), (.int .i64 (.lit 0)), (.bool (.cmp .gtr (.var 0) (.lit 0)))]) ⟨[(30, [(.int .i64 (.var 0)), (.int .i64 (.var 1)), (.int .i64 (.lit 0)), (.int .i64 (.lit 0)), (.bool (.cmp .gtr (.var 0) (.lit 0)))])], ⟨2, 1, 0, 0, 0⟩⟩) (.done (.agg [(.int .i64 (.var 0)), (.int .i64 (.var 1)), (.int .i64 (.lit 0)), (.int .i64 (.lit 0)), (.bool (.lit .false))]) ⟨[(30, [(.int .i64 (.var 0)), (.int .i64 (.var 1)), (.int .i64 (.lit 0)), (.int .i64 (.lit 0)), (.bool (.lit .false))])], ⟨2, 1, 0, 0, 0⟩⟩)))) := by kernel_rfl
set_option maxRecDepth 100000 in
theorem tRAt : (runF ⟨tt, fns, {}⟩ (Try.f11.body.getD .skip) Try.f11.results.toList (entry Try.f11.ntmps [.agg [.int .i64 (.var 0), .int .i64 (.var 1), .int .i64 (.var 2), .int .i64 (.var 3), .bool (.var 0)], .lf (.int .i64 (.var 4))] [] ⟨5, 1, 0, 0, 0⟩)) =
  (.br (.cmp .lss (.var 4) (.var 1)) (.br (.var 0) (.br (.var 0) (.br (.cmp .geq (.var 4) (.op .add .i64 (.var 4) (.var 0))) (.done (.agg [(.int .i64 (.var 0)), (.int .i64 (.var 4)), (.int .i64 (.var 2)), (.int .i64 (.var 3)), (.bool (.lit .false))]) ⟨[(30, [(.int .i64 (.var 0)), (.int .i64 (.var 4)), (.int .i64 (.var 2)), (.int .i64 (.var 3)), (.bool (.lit .false))]), (30, [(.int .i64 (.var 0)), (.int .i64 (.var 4)), (.int .i64 (.var 2)), (.int .i64 (.var 3)), (.bool (.lit .false))])], ⟨5, 1, 0, 0, 0⟩⟩) (.done (.agg [(.int .i64 (.var 0)), (.int .i64 (.var 4)), (.int .i64 (.var 2)), (.int .i64 (.var 3)), (.bool (.var 0))]) ⟨[(30, [(.int .i64 (.var 0)), (.int .i64 (.var 4)), (.int .i64 (.var 2)), (.int .i64 (.var 3)), (.bool (.var 0))]), (30, [(.int .i64 (.var 0)), (.int .i64 (.var 4)), (.int .i64 (.var 2)), (.int .i64 (.var 3)), (.bool (.var 0))])], ⟨5, 1, 0, 0, 0⟩⟩)) (.done (.agg [(.int .i64 (.var 0)), (.int .i64 (.var 4)), (.int .i64 (.var 2)), (.int .i64 (.var 3)), (.bool (.var 0))]) ⟨[(30, [(.int .i64 (.var 0)), (.int .i64 (.var 4)), (.int .i64 (.var 2)), (.int .i64 (.var 3)), (.bool (.var 0))]), (30, [(.int .i64 (.var 0)), (.int .i64 (.var 4)), (.int .i64 (.var 2)), (.int .i64 (.var 3)), (.bool (.var 0))])], ⟨5, 1, 0, 0, 0⟩⟩)) (.br (.var 0) (.br (.cmp .geq (.var 4) (.op .add .i64 (.var 1) (.var 0))) (.done (.agg [(.int .i64 (.var 0)), (.int .i64 (.var 1)), (.int .i64 (.var 2)), (.int .i64 (.var 3)), (.bool (.lit .false))]) ⟨[(30, [(.int .i64 (.var 0)), (.int .i64 (.var 1)), (.int .i64 (.var 2)), (.int .i64 (.var 3)), (.bool (.lit .false))]), (30, [(.int .i64 (.var 0)), (.int .i64 (.var 1)), (.int .i64 (.var 2)), (.int .i64 (.var 3)), (.bool (.lit .false))])], ⟨5, 1, 0, 0, 0⟩⟩) (.done (.agg [(.int .i64 (.var 0)), (.int .i64 (.var 1)), (.int .i64 (.var 2)), (.int .i64 (.var 3)), (.bool (.var 0))]) ⟨[(30, [(.int .i64 (.var 0)), (.int .i64 (.var 1)), (.int .i64 (.var 2)), (.int .i64 (.var 3)), (.bool (.var 0))]), (30, [(.int .i64 (.var 0)), (.int .i64 (.var 1)), (.int .i64 (.var 2)), (.int .i64 (.var 3)), (.bool (.var 0))])], ⟨5, 1, 0, 0, 0⟩⟩)) (.done (.agg [(.int .i64 (.var 0)), (.int .i64 (.var 1)), (.int .i64 (.var 2)), (.int .i64 (.var 3)), (.bool (.var 0))]) ⟨[(30, [(.int .i64 (.var 0)), (.int .i64 (.var 1)), (.int .i64 (.var 2)), (.int .i64 (.var 3)), (.bool (.var 0))]), (30, [(.int .i64 (.var 0)), (.int .i64 (.var 1)), (.int .i64 (.var 2)), (.int .i64 (.var 3)), (.bool (.var 0))])], ⟨5, 1, 0, 0, 0⟩⟩))) (.br (.var 0) (.br (.cmp .geq (.var 4) (.op .add .i64 (.var 1) (.var 0))) (.done (.agg [(.int .i64 (.var 0)), (.int .i64 (.var 1)), (.int .i64 (.var 2)), (.int .i64 (.var 3)), (.bool (.lit .false))]) ⟨[(30, [(.int .i64 (.var 0)), (.int .i64 (.var 1)), (.int .i64 (.var 2)), (.int .i64 (.var 3)), (.bool (.lit .false))]), (30, [(.int .i64 (.var 0)), (.int .i64 (.var 1)), (.int .i64 (.var 2)), (.int .i64 (.var 3)), (.bool (.lit .false))])], ⟨5, 1, 0, 0, 0⟩⟩) (.done (.agg [(.int .i64 (.var 0)), (.int .i64 (.var 1)), (.int .i64 (.var 2)), (.int .i64 (.var 3)), (.bool (.var 0))]) ⟨[(30, [(.int .i64 (.var 0)), (.int .i64 (.var 1)), (.int .i64 (.var 2)), (.int .i64 (.var 3)), (.bool (.var 0))]), (30, [(.int .i64 (.var 0)), (.int .i64 (.var 1)), (.int .i64 (.var 2)), (.int .i64 (.var 3)), (.bool (.var 0))])], ⟨5, 1, 0, 0, 0⟩⟩)) (.done (.agg [(.int .i64 (.var 0)), (.int .i64 (.var 1)), (.int .i64 (.var 2)), (.int .i64 (.var 3)), (.bool (.var 0))]) ⟨[(30, [(.int .i64 (.var 0)), (.int .i64 (.var 1)), (.int .i64 (.var 2)), (.int .i64 (.var 3)), (.bool (.var 0))]), (30, [(.int .i64 (.var 0)), (.int .i64 (.var 1)), (.int .i64 (.var 2)), (.int .i64 (.var 3)), (.bool (.var 0))])], ⟨5, 1, 0, 0, 0⟩⟩))) := by kernel_rfl
set_option maxRecDepth 100000 in
theorem tRGrant : (runF ⟨tt, fns, {}⟩ (Try.f13.body.getD .skip) Try.f13.results.toList (entry Try.f13.ntmps [.agg [.int .i64 (.var 0), .int .i64 (.var 1), .int .i64 (.var 2), .int .i64 (.var 3), .bool (.var 0)], .agg [.int .i64 (.var 4), .int .i64 (.var 5)], .lf (.int .i64 (.var 6))] [] ⟨7, 1, 0, 0, 0⟩)) =
  (.call 11 [(.agg [(.int .i64 (.var 0)), (.int .i64 (.var 1)), (.int .i64 (.var 2)), (.int .i64 (.var 3)), (.bool (.var 0))]), (.lf (.int .i64 (.var 6)))] ⟨[(30, [(.int .i64 (.var 0)), (.int .i64 (.var 1)), (.int .i64 (.var 2)), (.int .i64 (.var 3)), (.bool (.var 0))]), (28, [(.int .i64 (.var 4)), (.int .i64 (.var 5))]), (30, [(.int .i64 (.lit 0)), (.int .i64 (.lit 0)), (.int .i64 (.lit 0)), (.int .i64 (.lit 0)), (.bool (.lit .false))])], ⟨7, 1, 0, 0, 0⟩⟩ (.agg [(.int .i64 (.var 7)), (.int .i64 (.var 8)), (.int .i64 (.var 9)), (.int .i64 (.var 10)), (.bool (.var 1))]) ⟨[(30, [(.int .i64 (.var 0)), (.int .i64 (.var 1)), (.int .i64 (.var 2)), (.int .i64 (.var 3)), (.bool (.var 0))]), (28, [(.int .i64 (.var 4)), (.int .i64 (.var 5))]), (30, [(.int .i64 (.lit 0)), (.int .i64 (.lit 0)), (.int .i64 (.lit 0)), (.int .i64 (.lit 0)), (.bool (.lit .false))])], ⟨11, 2, 0, 0, 0⟩⟩ (.br (.cmp .eql (.var 7) (.lit 0)) (.done (.tup [(.true, [(.int .i64 (.var 7)), (.int .i64 (.var 8)), (.int .i64 (.var 9)), (.int .i64 (.var 10)), (.bool (.var 1))]), (.false, [(.bool (.lit .false))])]) ⟨[(30, [(.int .i64 (.var 7)), (.int .i64 (.var 8)), (.int .i64 (.var 9)), (.int .i64 (.var 10)), (.bool (.var 1))]), (28, [(.int .i64 (.var 4)), (.int .i64 (.var 5))]), (30, [(.int .i64 (.var 7)), (.int .i64 (.var 8)), (.int .i64 (.var 9)), (.int .i64 (.var 10)), (.bool (.var 1))])], ⟨11, 2, 0, 0, 0⟩⟩) (.call 15 [(.agg [(.int .i64 (.var 4)), (.int .i64 (.var 5))])] ⟨[(30, [(.int .i64 (.var 7)), (.int .i64 (.var 8)), (.int .i64 (.var 9)), (.int .i64 (.var 10)), (.bool (.var 1))]), (28, [(.int .i64 (.var 4)), (.int .i64 (.var 5))]), (30, [(.int .i64 (.lit 0)), (.int .i64 (.lit 0)), (.int .i64 (.lit 0)), (.int .i64 (.lit 0)), (.bool (.lit .false))])], ⟨11, 2, 0, 0, 0⟩⟩ (.lf (.bool (.var 2))) ⟨[(30, [(.int .i64 (.var 7)), (.int .i64 (.var 8)), (.int .i64 (.var 9)), (.int .i64 (.var 10)), (.bool (.var 1))]), (28, [(.int .i64 (.var 4)), (.int .i64 (.var 5))]), (30, [(.int .i64 (.lit 0)), (.int .i64 (.lit 0)), (.int .i64 (.lit 0)), (.int .i64 (.lit 0)), (.bool (.lit .false))])], ⟨11, 3, 0, 0, 0⟩⟩ (.br (.not (.var 2)) (.done (.tup [(.true, [(.int .i64 (.var 7)), (.int .i64 (.var 8)), (.int .i64 (.var 9)), (.int .i64 (.var 10)), (.bool (.var 1))]), (.false, [(.bool (.lit .false))])]) ⟨[(30, [(.int .i64 (.var 7)), (.int .i64 (.var 8)), (.int .i64 (.var 9)), (.int .i64 (.var 10)), (.bool (.var 1))]), (28, [(.int .i64 (.var 4)), (.int .i64 (.var 5))]), (30, [(.int .i64 (.var 7)), (.int .i64 (.var 8)), (.int .i64 (.var 9)), (.int .i64 (.var 10)), (.bool (.var 1))])], ⟨11, 3, 0, 0, 0⟩⟩) (.br (.var 1) (.br (.not (.and (.cmp .eql (.var 9) (.var 4)) (.cmp .eql (.var 10) (.var 5)))) (.done (.tup [(.true, [(.int .i64 (.var 7)), (.int .i64 (.var 8)), (.int .i64 (.var 9)), (.int .i64 (.var 10)), (.bool (.var 1))]), (.false, [(.bool (.lit .false))])]) ⟨[(30, [(.int .i64 (.var 7)), (.int .i64 (.var 8)), (.int .i64 (.var 9)), (.int .i64 (.var 10)), (.bool (.var 1))]), (28, [(.int .i64 (.var 4)), (.int .i64 (.var 5))]), (30, [(.int .i64 (.var 7)), (.int .i64 (.var 8)), (.int .i64 (.var 9)), (.int .i64 (.var 10)), (.bool (.var 1))])], ⟨11, 3, 0, 0, 0⟩⟩) (.done (.tup [(.true, [(.int .i64 (.var 7)), (.int .i64 (.var 6)), (.int .i64 (.var 4)), (.int .i64 (.var 5)), (.bool (.lit .true))]), (.false, [(.bool (.lit .true))])]) ⟨[(30, [(.int .i64 (.var 7)), (.int .i64 (.var 8)), (.int .i64 (.var 9)), (.int .i64 (.var 10)), (.bool (.var 1))]), (28, [(.int .i64 (.var 4)), (.int .i64 (.var 5))]), (30, [(.int .i64 (.var 7)), (.int .i64 (.var 6)), (.int .i64 (.var 4)), (.int .i64 (.var 5)), (.bool (.lit .true))])], ⟨11, 3, 0, 0, 0⟩⟩)) (.done (.tup [(.true, [(.int .i64 (.var 7)), (.int .i64 (.var 6)), (.int .i64 (.var 4)), (.int .i64 (.var 5)), (.bool (.lit .true))]), (.false, [(.bool (.lit .true))])]) ⟨[(30, [(.int .i64 (.var 7)), (.int .i64 (.var 8)), (.int .i64 (.var 9)), (.int .i64 (.var 10)), (.bool (.var 1))]), (28, [(.int .i64 (.var 4)), (.int .i64 (.var 5))]), (30, [(.int .i64 (.var 7)), (.int .i64 (.var 6)), (.int .i64 (.var 4)), (.int .i64 (.var 5)), (.bool (.lit .true))])], ⟨11, 3, 0, 0, 0⟩⟩)))))) := by kernel_rfl
theorem far_any (n : Int) (w : World) : Calls Try.prog 8 #[.int .i64 n] w (PureAt w (.bool (decide (n < -1152921504606846976) || decide (n > 1152921504606846976)))) := by
  refine calls_at (tab_ok _) Try.func8 rfl tFar (ρ := ⟨[n], [], [], [], []⟩) (ids := []) rfl (Facts.initP rfl oneNil) ?_
  refine br_i (fun g => pure_done ?_) (fun g => pure_done ?_)
  all_goals (intro ids; simp [SV.den, LV.den, IE.den, BE.den, NE.den, AE.den, compDen, cellsDen, ifn, cfn, Env.add, List.map_cons, List.map_nil, List.getD_cons_zero, List.getD_cons_succ, List.cons_append, List.nil_append, List.append_nil, cfn] at *; grind)
theorem rVal_any (r n : Int) (w : World) : Calls Try.prog 15 #[.agg #[.int .i64 r, .int .i64 n]] w (PureAt w (.bool (balOk r n))) := by
  refine calls_at (tab_ok _) Try.func15 rfl tRVal (ρ := ⟨[r, n], [], [], [], []⟩) (ids := []) rfl (Facts.initP rfl oneNil) ?_
  repeat' (first | refine par_i ?_ ?_ | refine br_i (fun g => ?_) (fun g => ?_) | refine pure_done ?_)
  all_goals (intro ids; simp [SV.den, LV.den, IE.den, BE.den, NE.den, AE.den, compDen, cellsDen, ifn, cfn, Env.add, List.map_cons, List.map_nil, List.getD_cons_zero, List.getD_cons_succ, List.cons_append, List.nil_append, List.append_nil] at *; grind [balOk])
theorem bVal_any (r n : Int) (w : World) : Calls Try.prog 26 #[.agg #[.int .i64 r, .int .i64 n]] w (PureAt w (.bool (balOk r n))) := by
  refine calls_at (tab_ok _) Try.func26 rfl tBVal (ρ := ⟨[r, n], [], [], [], []⟩) (ids := []) rfl (Facts.initP rfl oneNil) ?_
  repeat' (first | refine par_i ?_ ?_ | refine br_i (fun g => ?_) (fun g => ?_) | refine pure_done ?_)
  all_goals (intro ids; simp [SV.den, LV.den, IE.den, BE.den, NE.den, AE.den, compDen, cellsDen, ifn, cfn, Env.add, List.map_cons, List.map_nil, List.getD_cons_zero, List.getD_cons_succ, List.cons_append, List.nil_append, List.append_nil] at *; grind [balOk])
theorem beqI (a b : Int) : (a == b) = decide (a = b) := by by_cases h : a = b <;> simp [h]
theorem u64_self {x : Int} (h : 0 ≤ x ∧ x ≤ 18446744073709551615) : IntKind.u64.wrap x = x := by rw [IntKind.wrap_u64]; omega
theorem over_any (b : Nat) (g : GrD) (now : Int) (w : World) (hg : g.ok) (hn : I64 now) (h : Blk w b g.cells 61) :
    Calls Try.prog 25 #[.pointer (some ⟨b, 0, none⟩), .int .i64 now] w (At1 w b 61 (.bool (overB g now)) (overV g now).cells) := by
  refine calls_at (tab_ok _) Try.func25 rfl tOver (ρ := ⟨[g.length, g.since, g.rnd, g.node, now], [g.stands], [], [], []⟩) (ids := [b]) rfl (Facts.init1 rfl oneNil h rfl) ?_
  obtain ⟨l0, l1, s0, s1⟩ := hg
  obtain ⟨n0, n1⟩ := hn
  have hl : IntKind.u64.wrap g.length = g.length := u64_self (by omega)
  by_cases hk : now < g.since
  · have hV : overV g now = ⟨g.length, now, g.rnd, g.node, g.stands⟩ := by simp only [overV, if_pos hk]
    refine br_t (show decide (now < g.since) = true by simpa using hk) (at1_done ?_ ?_)
    · intro ids
      have h0 := u64_sub now now (by omega) (by omega)
      simp only [SV.den, LV.den, BE.den, IE.den, ifn, cfn, List.getD_cons_zero, List.getD_cons_succ, hl, h0, overB, hV]
    · intro ids; rw [hV]; rfl
  · have hV : overV g now = g := by simp only [overV, if_neg hk]
    refine br_f (show decide (now < g.since) = false by simpa using hk) (at1_done ?_ ?_)
    · intro ids
      have h0 := u64_sub now g.since (by omega) (by omega)
      simp only [SV.den, LV.den, BE.den, IE.den, ifn, cfn, List.getD_cons_zero, List.getD_cons_succ, hl, h0, overB, hV]
    · intro ids; rw [hV]; rfl
theorem bars_any (b : Nat) (g : GrD) (r n now : Int) (w : World) (hg : g.ok) (hn : I64 now) (h : Blk w b g.cells 61) :
    Calls Try.prog 12 #[.pointer (some ⟨b, 0, none⟩), .agg #[.int .i64 r, .int .i64 n], .int .i64 now] w (At1 w b 61 (.bool (barsB g r n now)) (barsV g now).cells) := by
  refine calls_at (tab_ok _) Try.func12 rfl tBars (ρ := ⟨[g.length, g.since, g.rnd, g.node, r, n, now], [g.stands], [], [], []⟩) (ids := [b]) rfl (Facts.init1 rfl oneNil h rfl) ?_
  by_cases hz : g.length = 0 ∨ g.stands = false
  · have e1 : barsB g r n now = false := by simp only [barsB, if_pos hz]
    have e2 : barsV g now = g := by simp only [barsV, if_pos hz]
    rw [e1, e2]
    refine br_i (fun q => at1_done (fun _ => rfl) (fun _ => rfl)) (fun q => br_t ?_ (at1_done (fun _ => rfl) (fun _ => rfl)))
    have : g.length ≠ 0 := by simpa [SV.den, LV.den, IE.den, BE.den, NE.den, AE.den, compDen, cellsDen, ifn, cfn, Env.add, List.map_cons, List.map_nil, List.getD_cons_zero, List.getD_cons_succ, List.cons_append, List.nil_append, List.append_nil, cfn] using q
    show (!g.stands) = true
    rw [hz.resolve_left this]; rfl
  · have h1 : g.length ≠ 0 := fun e => hz (.inl e)
    have h2 : g.stands = true := by have : ¬ g.stands = false := fun e => hz (.inr e); simpa using this
    refine br_f (show (g.length == 0) = false by simpa using h1) (br_f (show (!g.stands) = false by rw [h2]; rfl) ?_)
    refine node_at1 0 61 ⟨(overV g now).vals, [(overV g now).stands, overB g now], [], [], []⟩ (fun w b h => over_any b g now w hg hn h) (fun _ => rfl) rfl (fun _ => rfl) rfl (fun _ => rfl) (fun _ => rfl) rfl rfl oneNil ?_
    by_cases ho : overB g now = true
    · have e1 : barsB g r n now = false := by simp only [barsB, if_neg hz, if_pos ho]
      have e2 : barsV g now = { overV g now with stands := false } := by simp only [barsV, if_neg hz, if_pos ho]
      rw [e1, e2]
      exact br_t ho (at1_done (fun _ => rfl) (fun _ => rfl))
    · have e1 : barsB g r n now = !(decide (g.rnd = r) && decide (g.node = n)) := by simp only [barsB, if_neg hz, if_neg ho]
      have e2 : barsV g now = overV g now := by simp only [barsV, if_neg hz, if_neg ho]
      rw [e1, e2]
      refine br_f (show overB g now = false by simpa using ho) (at1_done ?_ (fun _ => rfl))
      intro ids
      have e3 : (overV g now).rnd = g.rnd ∧ (overV g now).node = g.node := by unfold overV; split <;> exact ⟨rfl, rfl⟩
      simp [SV.den, LV.den, IE.den, BE.den, NE.den, AE.den, compDen, cellsDen, ifn, cfn, Env.add, List.map_cons, List.map_nil, List.getD_cons_zero, List.getD_cons_succ, List.cons_append, List.nil_append, List.append_nil, cfn, GrD.vals, e3.1, e3.2]
      simp only [Bool.beq_eq_decide_eq]
theorem grant_any (b : Nat) (g : GrD) (r n now : Int) (w : World) (hg : g.ok) (hn : I64 now) (h : Blk w b g.cells 61) :
    Calls Try.prog 14 #[.pointer (some ⟨b, 0, none⟩), .agg #[.int .i64 r, .int .i64 n], .int .i64 now] w (At1 w b 61 (.bool (grantB g r n now)) (grantV g r n now).cells) := by
  refine calls_at (tab_ok _) Try.func14 rfl tGrant (ρ := ⟨[g.length, g.since, g.rnd, g.node, r, n, now], [g.stands], [], [], []⟩) (ids := [b]) rfl (Facts.init1 rfl oneNil h rfl) ?_
  have hlen : (barsV g now).length = g.length := by
    have e3 : (overV g now).length = g.length := by unfold overV; split <;> rfl
    unfold barsV; split
    · rfl
    · split <;> exact e3
  refine node_at1 0 61 ⟨(barsV g now).vals, [(barsV g now).stands, barsB g r n now], [], [], []⟩ (fun w b h => bars_any b g r n now w hg hn h) (fun _ => rfl) rfl (fun _ => rfl) rfl (fun _ => rfl) (fun _ => rfl) rfl rfl oneNil ?_
  by_cases h1 : barsB g r n now = true
  · have e1 : grantB g r n now = false := by simp [grantB, h1]
    have e2 : grantV g r n now = barsV g now := by simp [grantV, e1]
    rw [e1, e2]
    exact br_t h1 (at1_done (fun _ => rfl) (fun _ => rfl))
  · rw [Bool.not_eq_true] at h1
    refine br_f h1 ?_
    by_cases h2 : g.length = 0
    · have e1 : grantB g r n now = false := by simp [grantB, h2]
      have e2 : grantV g r n now = barsV g now := by simp [grantV, e1]
      rw [e1, e2]
      exact br_t (show ((barsV g now).length == 0) = true by rw [hlen]; simpa using h2) (at1_done (fun _ => rfl) (fun _ => rfl))
    · refine br_f (show ((barsV g now).length == 0) = false by rw [hlen]; simpa using h2) ?_
      refine node_val ⟨[], [balOk r n], [], [], []⟩ (fun w => bVal_any r n w) (fun _ => rfl) (fun _ => rfl) rfl rfl rfl oneNil ?_
      by_cases h3 : balOk r n = true
      · have e1 : grantB g r n now = true := by simp [grantB, h1, h2, h3]
        have e2 : grantV g r n now = ⟨g.length, now, r, n, true⟩ := by simp [grantV, e1]
        rw [e1, e2]
        refine br_f (show (!balOk r n) = false by rw [h3]; rfl) (at1_done (fun _ => rfl) (fun _ => ?_))
        simp [SV.den, LV.den, IE.den, BE.den, NE.den, AE.den, compDen, cellsDen, ifn, cfn, Env.add, List.map_cons, List.map_nil, List.getD_cons_zero, List.getD_cons_succ, List.cons_append, List.nil_append, List.append_nil, GrD.vals, GrD.cells, hlen]
      · rw [Bool.not_eq_true] at h3
        have e1 : grantB g r n now = false := by simp [grantB, h3]
        have e2 : grantV g r n now = barsV g now := by simp [grantV, e1]
        rw [e1, e2]
        exact br_t (show (!balOk r n) = true by rw [h3]; rfl) (at1_done (fun _ => rfl) (fun _ => rfl))
theorem bars_nil (r n now : Int) (w : World) : Calls Try.prog 12 #[.pointer none, .agg #[.int .i64 r, .int .i64 n], .int .i64 now] w (PureAt w (.bool false)) := by
  refine calls_at (tab_ok _) Try.func12 rfl tBarsNil (ρ := ⟨[r, n, now], [], [], [], []⟩) (ids := []) rfl (Facts.initP rfl oneNil) ?_
  exact pure_done (fun _ => rfl)
theorem grant_nil (r n now : Int) (w : World) : Calls Try.prog 14 #[.pointer none, .agg #[.int .i64 r, .int .i64 n], .int .i64 now] w (PureAt w (.bool false)) := by
  refine calls_at (tab_ok _) Try.func14 rfl tGrantNil (ρ := ⟨[r, n, now], [], [], [], []⟩) (ids := []) rfl (Facts.initP rfl oneNil) ?_
  refine node_val ⟨[], [false], [], [], []⟩ (fun w => bars_nil r n now w) (fun _ => rfl) (fun _ => rfl) rfl rfl rfl oneNil ?_
  exact br_f rfl (pure_done (fun _ => rfl))
theorem newGr_any (len now : Int) (anew : Bool) (w : World) : Calls Try.prog 9 #[.int .i64 len, .int .i64 now, .bool anew] w (NewB w 61 (newGr len now anew).cells) := by
  refine calls_at (tab_ok _) Try.func9 rfl tNewGr (ρ := ⟨[len, now], [anew], [], [], []⟩) (ids := []) rfl (Facts.initP rfl oneNil) ?_
  exact new_done rfl (fun _ => rfl) (fun _ => rfl)
theorem rNew_any (len now : Int) (anew : Bool) (w : World) : Calls Try.prog 10 #[.int .i64 len, .int .i64 now, .bool anew] w (PureAt w (.agg (rNewGr len now anew).cells.toArray)) := by
  refine calls_at (tab_ok _) Try.func10 rfl tRNew (ρ := ⟨[len, now], [anew], [], [], []⟩) (ids := []) rfl (Facts.initP rfl oneNil) ?_
  repeat' (first | refine par_i ?_ ?_ | refine br_i (fun g => ?_) (fun g => ?_) | refine pure_done ?_)
  all_goals (intro ids; simp [SV.den, LV.den, IE.den, BE.den, NE.den, AE.den, compDen, cellsDen, ifn, cfn, Env.add, List.map_cons, List.map_nil, List.getD_cons_zero, List.getD_cons_succ, List.cons_append, List.nil_append, List.append_nil, cfn, rNewGr, GrD.cells] at *; grind)
theorem rAt_any (g : GrD) (now : Int) (w : World) (hg : g.ok) (hn : I64 now) (hs : -1152921504606846976 ≤ g.since ∧ g.since ≤ 1152921504606846976) (hn2 : -1152921504606846976 ≤ now ∧ now ≤ 1152921504606846976) :
    Calls Try.prog 11 #[.agg g.cells.toArray, .int .i64 now] w (PureAt w (.agg (atV g now).cells.toArray)) := by
  refine calls_at (tab_ok _) Try.func11 rfl tRAt (ρ := ⟨[g.length, g.since, g.rnd, g.node, now], [g.stands], [], [], []⟩) (ids := []) rfl (Facts.initP rfl oneNil) ?_
  obtain ⟨l0, l1, s0, s1⟩ := hg
  have w1 : IntKind.i64.wrap (now + g.length) = now + g.length := wrap_i64 (by omega)
  have w2 : IntKind.i64.wrap (g.since + g.length) = g.since + g.length := wrap_i64 (by omega)
  repeat' (first | refine par_i ?_ ?_ | refine br_i (fun g => ?_) (fun g => ?_) | refine pure_done ?_)
  all_goals (intro ids; simp [SV.den, LV.den, IE.den, BE.den, NE.den, AE.den, compDen, cellsDen, ifn, cfn, Env.add, List.map_cons, List.map_nil, List.getD_cons_zero, List.getD_cons_succ, List.cons_append, List.nil_append, List.append_nil, cfn, w1, w2] at *; grind [atV, GrD.cells])
theorem rGrant_any (g : GrD) (r n now : Int) (w : World) (hg : g.ok) (hn : I64 now) (hs : -1152921504606846976 ≤ g.since ∧ g.since ≤ 1152921504606846976) (hn2 : -1152921504606846976 ≤ now ∧ now ≤ 1152921504606846976) :
    Calls Try.prog 13 #[.agg g.cells.toArray, .agg #[.int .i64 r, .int .i64 n], .int .i64 now] w (PureAt w (.tuple #[.agg (rGrantV g r n now).cells.toArray, .bool (rGrantB g r n now)])) := by
  refine calls_at (tab_ok _) Try.func13 rfl tRGrant (ρ := ⟨[g.length, g.since, g.rnd, g.node, r, n, now], [g.stands], [], [], []⟩) (ids := []) rfl (Facts.initP rfl oneNil) ?_
  have hlen : (atV g now).length = g.length := by simp only [atV]; split <;> split <;> rfl
  refine node_val ⟨(atV g now).vals, [(atV g now).stands], [], [], []⟩ (fun w => rAt_any g now w hg hn hs hn2) (fun _ => rfl) (fun _ => rfl) rfl rfl rfl oneNil ?_
  by_cases h2 : g.length = 0
  · have e1 : rGrantB g r n now = false := by simp [rGrantB, h2]
    have e2 : rGrantV g r n now = atV g now := by simp [rGrantV, e1]
    rw [e1, e2]
    exact br_t (show ((atV g now).length == 0) = true by rw [hlen]; simpa using h2) (pure_done (fun _ => rfl))
  · refine br_f (show ((atV g now).length == 0) = false by rw [hlen]; simpa using h2) ?_
    refine node_val ⟨[], [balOk r n], [], [], []⟩ (fun w => rVal_any r n w) (fun _ => rfl) (fun _ => rfl) rfl rfl rfl oneNil ?_
    by_cases h3 : balOk r n = true
    · refine br_f (show (!balOk r n) = false by rw [h3]; rfl) ?_
      by_cases h4 : (atV g now).stands = true
      · refine br_t h4 ?_
        cases h5 : (decide ((atV g now).rnd = r) && decide ((atV g now).node = n)) with
        | true =>
          have e1 : rGrantB g r n now = true := by simp only [rGrantB, h2, h3, h4, h5]; rfl
          have e2 : rGrantV g r n now = ⟨g.length, now, r, n, true⟩ := by simp [rGrantV, e1]
          rw [e1, e2]
          refine br_f (show (!(((atV g now).rnd == r) && ((atV g now).node == n))) = false by rw [beqI, beqI, h5]; rfl) (pure_done (fun _ => ?_))
          simp [SV.den, LV.den, IE.den, BE.den, NE.den, AE.den, compDen, cellsDen, ifn, cfn, Env.add, List.map_cons, List.map_nil, List.getD_cons_zero, List.getD_cons_succ, List.cons_append, List.nil_append, List.append_nil, GrD.vals, GrD.cells, hlen]
        | false =>
          have e1 : rGrantB g r n now = false := by simp only [rGrantB, h2, h3, h4, h5]; rfl
          have e2 : rGrantV g r n now = atV g now := by simp [rGrantV, e1]
          rw [e1, e2]
          refine br_t (show (!(((atV g now).rnd == r) && ((atV g now).node == n))) = true by rw [beqI, beqI, h5]; rfl) (pure_done (fun _ => ?_))
          simp [SV.den, LV.den, IE.den, BE.den, NE.den, AE.den, compDen, cellsDen, ifn, cfn, Env.add, List.map_cons, List.map_nil, List.getD_cons_zero, List.getD_cons_succ, List.cons_append, List.nil_append, List.append_nil, GrD.vals, GrD.cells, h4]
      · have e1 : rGrantB g r n now = true := by simp [rGrantB, h2, h3, h4]
        have e2 : rGrantV g r n now = ⟨g.length, now, r, n, true⟩ := by simp [rGrantV, e1]
        rw [e1, e2]
        refine br_f (show (atV g now).stands = false by simpa using h4) (pure_done (fun _ => ?_))
        simp [SV.den, LV.den, IE.den, BE.den, NE.den, AE.den, compDen, cellsDen, ifn, cfn, Env.add, List.map_cons, List.map_nil, List.getD_cons_zero, List.getD_cons_succ, List.cons_append, List.nil_append, List.append_nil, GrD.vals, GrD.cells, hlen]
    · rw [Bool.not_eq_true] at h3
      have e1 : rGrantB g r n now = false := by simp [rGrantB, h3]
      have e2 : rGrantV g r n now = atV g now := by simp [rGrantV, e1]
      rw [e1, e2]
      exact br_t (show (!balOk r n) = true by rw [h3]; rfl) (pure_done (fun _ => rfl))
end Go.Proofs.Ytnpjigeljhlomaa
