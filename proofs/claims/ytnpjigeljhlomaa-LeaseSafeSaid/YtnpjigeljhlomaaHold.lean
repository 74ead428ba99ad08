/- Contracts of the holder. -/
import Derived.Test.YtnpjigeljhlomaaLease
import Derived.Test.YtnpjigeljhlomaaEng20
import Derived.Test.YtnpjigeljhlomaaBalB
import Derived.Test.YtnpjigeljhlomaaClone
import Derived.Test.YtnpjigeljhlomaaDriftRef
namespace Go.Proofs.Ytnpjigeljhlomaa
open Go.ChangeShapes Go.WideShapes Go.ChangeAt Go.RowKit Go.Syn Go.Eng
set_option linter.unusedVariables false
set_option linter.unusedSimpArgs false
set_option maxRecDepth 100000 in
theorem tHValid : (runF ⟨tt, fns, {loops := [(5, ⟨[(5, .sl)], []⟩)], gen := [(15, .nxt [.lf (.int .i64), .lf (.int .i64)]), (17, .tup [.lf (.int .i64), .lf (.int .i64)])]}⟩ (Try.f19.body.getD .skip) Try.f19.results.toList (entry Try.f19.ntmps [.lf (.ptr 0 0), .lf (.int .i64 (.var 1))] [(69, [.sl 0 (.var 0) (.var 1), .int .i64 (.var 0), .val 0])] ⟨2, 0, 1, 2, 1⟩)) =
  (.gen (.range 67 (.tmp 13)) 0 [(13, (.lf (.val 0)))] ⟨[(69, [(.sl 0 (.var 0) (.var 1)), (.int .i64 (.var 0)), (.val 0)])], ⟨2, 0, 1, 2, 1⟩⟩ (.some (.lf (.val 1))) ⟨[(69, [(.sl 0 (.var 0) (.var 1)), (.int .i64 (.var 0)), (.val 0)])], ⟨2, 0, 2, 2, 1⟩⟩ (.loop 5 ⟨[], [], [], [(.lit 0), (.lit 0)], [.nil]⟩ ⟨[(69, [(.sl 0 (.var 0) (.var 1)), (.int .i64 (.var 0)), (.val 0)])], ⟨2, 0, 2, 2, 1⟩⟩ ⟨[(69, [(.sl 0 (.var 0) (.var 1)), (.int .i64 (.var 0)), (.val 0)])], ⟨2, 0, 2, 4, 2⟩⟩ (.gen (.next (.tmp 14) .false) 0 [(14, (.lf (.val 1)))] ⟨[(69, [(.sl 0 (.var 0) (.var 1)), (.int .i64 (.var 0)), (.val 0)])], ⟨2, 0, 2, 4, 2⟩⟩ (.some (.nxt (.var 0) [(.false, [(.int .i64 (.var 2))]), (.false, [(.int .i64 (.var 3))])])) ⟨[(69, [(.sl 0 (.var 0) (.var 1)), (.int .i64 (.var 0)), (.val 0)])], ⟨4, 1, 2, 4, 2⟩⟩ (.br (.var 0) (.gen (.entry (.tmp 14)) 0 [(14, (.lf (.val 1)))] ⟨[(69, [(.sl 0 (.var 0) (.var 1)), (.int .i64 (.var 0)), (.val 0)])], ⟨4, 1, 2, 4, 2⟩⟩ (.some (.tup [(.false, [(.int .i64 (.var 4))]), (.false, [(.int .i64 (.var 5))])])) ⟨[(69, [(.sl 0 (.var 0) (.var 1)), (.int .i64 (.var 0)), (.val 0)])], ⟨6, 1, 2, 4, 2⟩⟩ (.br (.cmp .geq (.var 1) (.var 5)) (.br (.cmp .lss (.op .sub .u64 (.conv .u64 (.var 1)) (.conv .u64 (.var 5))) (.conv .u64 (.var 0))) (.gen (.call ⟨(.builtin .append), #[(.tmp 36), (.tmp 38)], #[41, 41]⟩) 41 [(36, (.lf (.sl 1 (.var 2) (.var 3)))), (38, (.lf (.nsl 1 0 1 1)))] ⟨[(69, [(.sl 0 (.var 0) (.var 1)), (.int .i64 (.var 0)), (.val 0)]), (3, [(.int .i64 (.var 4))])], ⟨6, 1, 2, 4, 2⟩⟩ (.some (.lf (.sl 2 (.var 4) (.var 5)))) ⟨[(69, [(.sl 0 (.var 0) (.var 1)), (.int .i64 (.var 0)), (.val 0)]), (3, [(.int .i64 (.var 4))])], ⟨6, 1, 2, 6, 3⟩⟩ (.again 5 ⟨[], [], [], [(.var 4), (.var 5)], [(.var 2)]⟩ ⟨[(69, [(.sl 0 (.var 0) (.var 1)), (.int .i64 (.var 0)), (.val 0)]), (3, [(.int .i64 (.var 4))])], ⟨6, 1, 2, 6, 3⟩⟩)) (.again 5 ⟨[], [], [], [(.var 2), (.var 3)], [(.var 1)]⟩ ⟨[(69, [(.sl 0 (.var 0) (.var 1)), (.int .i64 (.var 0)), (.val 0)])], ⟨6, 1, 2, 4, 2⟩⟩)) (.again 5 ⟨[], [], [], [(.var 2), (.var 3)], [(.var 1)]⟩ ⟨[(69, [(.sl 0 (.var 0) (.var 1)), (.int .i64 (.var 0)), (.val 0)])], ⟨6, 1, 2, 4, 2⟩⟩))) (.call 31 [(.lf (.sl 0 (.var 0) (.var 1))), (.lf (.sl 1 (.var 2) (.var 3)))] ⟨[(69, [(.sl 0 (.var 0) (.var 1)), (.int .i64 (.var 0)), (.val 0)])], ⟨4, 1, 2, 4, 2⟩⟩ (.lf (.bool (.var 1))) ⟨[(69, [(.sl 0 (.var 0) (.var 1)), (.int .i64 (.var 0)), (.val 0)])], ⟨4, 2, 2, 4, 2⟩⟩ (.done (.lf (.bool (.var 1))) ⟨[(69, [(.sl 0 (.var 0) (.var 1)), (.int .i64 (.var 0)), (.val 0)])], ⟨4, 2, 2, 4, 2⟩⟩)))))) := by kernel_rfl
set_option maxRecDepth 100000 in
theorem tHGranted : (runF ⟨tt, fns, {}⟩ (Try.f20.body.getD .skip) Try.f20.results.toList (entry Try.f20.ntmps [.lf (.ptr 0 0), .lf (.int .i64 (.var 1)), .lf (.int .i64 (.var 2))] [(69, [.sl 0 (.var 0) (.var 1), .int .i64 (.var 0), .val 0])] ⟨3, 0, 1, 2, 1⟩)) =
  (.call 32 [(.lf (.sl 0 (.var 0) (.var 1))), (.lf (.int .i64 (.var 1)))] ⟨[(69, [(.sl 0 (.var 0) (.var 1)), (.int .i64 (.var 0)), (.val 0)])], ⟨3, 0, 1, 2, 1⟩⟩ (.lf (.bool (.var 0))) ⟨[(69, [(.sl 0 (.var 0) (.var 1)), (.int .i64 (.var 0)), (.val 0)])], ⟨3, 1, 1, 2, 1⟩⟩ (.br (.not (.var 0)) (.done (.lf (.bool (.lit .false))) ⟨[(69, [(.sl 0 (.var 0) (.var 1)), (.int .i64 (.var 0)), (.val 0)])], ⟨3, 1, 1, 2, 1⟩⟩) (.gen (.lookup 67 (.tmp 24) (.tmp 25) .true) 71 [(24, (.lf (.val 0))), (25, (.lf (.int .i64 (.var 1))))] ⟨[(69, [(.sl 0 (.var 0) (.var 1)), (.int .i64 (.var 0)), (.val 0)])], ⟨3, 1, 1, 2, 1⟩⟩ (.some (.tup [(.false, [(.int .i64 (.var 3))]), (.false, [(.bool (.var 1))])])) ⟨[(69, [(.sl 0 (.var 0) (.var 1)), (.int .i64 (.var 0)), (.val 0)])], ⟨4, 2, 1, 2, 1⟩⟩ (.br (.not (.var 1)) (.gen (.mapUpdate 67 (.tmp 39) (.tmp 40) (.tmp 41)) 0 [(39, (.lf (.val 0))), (40, (.lf (.int .i64 (.var 1)))), (41, (.lf (.int .i64 (.var 2))))] ⟨[(69, [(.sl 0 (.var 0) (.var 1)), (.int .i64 (.var 0)), (.val 0)])], ⟨4, 2, 1, 2, 1⟩⟩ .none ⟨[(69, [(.sl 0 (.var 0) (.var 1)), (.int .i64 (.var 0)), (.val 0)])], ⟨4, 2, 1, 2, 1⟩⟩ (.done (.lf (.bool (.lit .true))) ⟨[(69, [(.sl 0 (.var 0) (.var 1)), (.int .i64 (.var 0)), (.val 0)])], ⟨4, 2, 1, 2, 1⟩⟩)) (.br (.cmp .gtr (.var 2) (.var 3)) (.gen (.mapUpdate 67 (.tmp 39) (.tmp 40) (.tmp 41)) 0 [(39, (.lf (.val 0))), (40, (.lf (.int .i64 (.var 1)))), (41, (.lf (.int .i64 (.var 2))))] ⟨[(69, [(.sl 0 (.var 0) (.var 1)), (.int .i64 (.var 0)), (.val 0)])], ⟨4, 2, 1, 2, 1⟩⟩ .none ⟨[(69, [(.sl 0 (.var 0) (.var 1)), (.int .i64 (.var 0)), (.val 0)])], ⟨4, 2, 1, 2, 1⟩⟩ (.done (.lf (.bool (.lit .true))) ⟨[(69, [(.sl 0 (.var 0) (.var 1)), (.int .i64 (.var 0)), (.val 0)])], ⟨4, 2, 1, 2, 1⟩⟩)) (.done (.lf (.bool (.lit .true))) ⟨[(69, [(.sl 0 (.var 0) (.var 1)), (.int .i64 (.var 0)), (.val 0)])], ⟨4, 2, 1, 2, 1⟩⟩)))))) := by kernel_rfl
set_option maxRecDepth 100000 in
theorem tHClear : (runF ⟨tt, fns, {}⟩ (Try.f18.body.getD .skip) Try.f18.results.toList (entry Try.f18.ntmps [.lf (.ptr 0 0)] [(69, [.sl 0 (.var 0) (.var 1), .int .i64 (.var 0), .val 0])] ⟨1, 0, 1, 2, 1⟩)) =
  (.gen (.call ⟨(.builtin .clear), #[(.tmp 7)], #[67]⟩) 0 [(7, (.lf (.val 0)))] ⟨[(69, [(.sl 0 (.var 0) (.var 1)), (.int .i64 (.var 0)), (.val 0)])], ⟨1, 0, 1, 2, 1⟩⟩ (.some (.tup [])) ⟨[(69, [(.sl 0 (.var 0) (.var 1)), (.int .i64 (.var 0)), (.val 0)])], ⟨1, 0, 1, 2, 1⟩⟩ (.done (.tup []) ⟨[(69, [(.sl 0 (.var 0) (.var 1)), (.int .i64 (.var 0)), (.val 0)])], ⟨1, 0, 1, 2, 1⟩⟩)) := by kernel_rfl
set_option maxRecDepth 100000 in
theorem tHNew : (runF ⟨tt, fns, {}⟩ (Try.f17.body.getD .skip) Try.f17.results.toList (entry Try.f17.ntmps [.lf (.sl 0 (.var 0) (.var 1)), .lf (.int .i64 (.var 0)), .lf (.int .i64 (.var 1))] [] ⟨2, 0, 0, 2, 1⟩)) =
  (.call 29 [(.lf (.sl 0 (.var 0) (.var 1)))] ⟨[], ⟨2, 0, 0, 2, 1⟩⟩ (.lf (.int .i64 (.var 2))) ⟨[], ⟨3, 0, 0, 2, 1⟩⟩ (.br (.cmp .neq (.var 2) (.lit 0)) (.done (.lf .nilp) ⟨[], ⟨3, 0, 0, 2, 1⟩⟩) (.gen (.call ⟨(.builtin .append), #[(.const (.slice .none 0 0)), (.tmp 10)], #[66, 41]⟩) 66 [(10, (.lf (.sl 0 (.var 0) (.var 1))))] ⟨[], ⟨3, 0, 0, 2, 1⟩⟩ (.some (.lf (.sl 1 (.var 2) (.var 3)))) ⟨[], ⟨3, 0, 0, 4, 2⟩⟩ (.call 30 [(.lf (.int .i64 (.var 0))), (.lf (.int .i64 (.var 1)))] ⟨[], ⟨3, 0, 0, 4, 2⟩⟩ (.lf (.int .i64 (.var 3))) ⟨[], ⟨4, 0, 0, 4, 2⟩⟩ (.gen (.makeMap 67 .none) 67 [] ⟨[], ⟨4, 0, 0, 4, 2⟩⟩ (.some (.lf (.val 0))) ⟨[], ⟨4, 0, 1, 4, 2⟩⟩ (.done (.lf (.ptr 0 0)) ⟨[(69, [(.sl 1 (.var 2) (.var 3)), (.int .i64 (.var 3)), (.val 0)])], ⟨4, 0, 1, 4, 2⟩⟩)))))) := by kernel_rfl
set_option maxRecDepth 100000 in
theorem tHValid0 : (runF ⟨tt, fns, {}⟩ (Try.f19.body.getD .skip) Try.f19.results.toList (entry Try.f19.ntmps [.lf .nilp, .lf (.int .i64 (.var 0))] [] ⟨1, 0, 0, 0, 0⟩)) =
  (.done (.lf (.bool (.lit .false))) ⟨[], ⟨1, 0, 0, 0, 0⟩⟩) := by kernel_rfl
set_option maxRecDepth 100000 in
theorem tHGranted0 : (runF ⟨tt, fns, {}⟩ (Try.f20.body.getD .skip) Try.f20.results.toList (entry Try.f20.ntmps [.lf .nilp, .lf (.int .i64 (.var 0)), .lf (.int .i64 (.var 1))] [] ⟨2, 0, 0, 0, 0⟩)) =
  (.done (.lf (.bool (.lit .false))) ⟨[], ⟨2, 0, 0, 0, 0⟩⟩) := by kernel_rfl
set_option maxRecDepth 100000 in
theorem tHClear0 : (runF ⟨tt, fns, {}⟩ (Try.f18.body.getD .skip) Try.f18.results.toList (entry Try.f18.ntmps [.lf .nilp] [] ⟨0, 0, 0, 0, 0⟩)) =
  (.done (.tup []) ⟨[], ⟨0, 0, 0, 0, 0⟩⟩) := by kernel_rfl
set_option maxRecDepth 100000 in
theorem tLHead : (runF ⟨tt, fns, {ret := [(9, .one (.newp 61 [.int .i64, .int .i64, .int .i64, .int .i64, .bool])), (17, .one (.newp 69 [.sl, .int .i64, .val]))], touch := [(12, [0]), (14, [0])]}⟩ (Try.f7.body.getD .skip) Try.f7.results.toList (entry Try.f7.ntmps [] [] ⟨0, 0, 0, 0, 0⟩)) =
  (.call 9 [(.lf (.int .i64 (.lit 10))), (.lf (.int .i64 (.lit 0))), (.lf (.bool (.lit .false)))] ⟨[], ⟨0, 0, 0, 0, 0⟩⟩ (.lf (.ptr 0 0)) ⟨[(61, [(.int .i64 (.var 0)), (.int .i64 (.var 1)), (.int .i64 (.var 2)), (.int .i64 (.var 3)), (.bool (.var 0))])], ⟨4, 1, 0, 0, 0⟩⟩ (.call 17 [(.lf (.nsl 1 0 3 3)), (.lf (.int .i64 (.lit 10))), (.lf (.int .i64 (.lit 0)))] ⟨[(61, [(.int .i64 (.var 0)), (.int .i64 (.var 1)), (.int .i64 (.var 2)), (.int .i64 (.var 3)), (.bool (.var 0))]), (3, [(.int .i64 (.lit 1)), (.int .i64 (.lit 2)), (.int .i64 (.lit 3))])], ⟨4, 1, 0, 0, 0⟩⟩ (.lf (.ptr 2 0)) ⟨[(61, [(.int .i64 (.var 0)), (.int .i64 (.var 1)), (.int .i64 (.var 2)), (.int .i64 (.var 3)), (.bool (.var 0))]), (3, [(.int .i64 (.lit 1)), (.int .i64 (.lit 2)), (.int .i64 (.lit 3))]), (69, [(.sl 0 (.var 0) (.var 1)), (.int .i64 (.var 4)), (.val 0)])], ⟨5, 1, 1, 2, 1⟩⟩ (.call 14 [(.lf (.ptr 0 0)), (.agg [(.int .i64 (.lit 1)), (.int .i64 (.lit 2))]), (.lf (.int .i64 (.lit 5)))] ⟨[(61, [(.int .i64 (.var 0)), (.int .i64 (.var 1)), (.int .i64 (.var 2)), (.int .i64 (.var 3)), (.bool (.var 0))]), (3, [(.int .i64 (.lit 1)), (.int .i64 (.lit 2)), (.int .i64 (.lit 3))]), (69, [(.sl 0 (.var 0) (.var 1)), (.int .i64 (.var 4)), (.val 0)]), (28, [(.int .i64 (.lit 1)), (.int .i64 (.lit 2))]), (28, [(.int .i64 (.lit 2)), (.int .i64 (.lit 3))])], ⟨5, 1, 1, 2, 1⟩⟩ (.lf (.bool (.var 2))) ⟨[(61, [(.int .i64 (.var 5)), (.int .i64 (.var 6)), (.int .i64 (.var 7)), (.int .i64 (.var 8)), (.bool (.var 1))]), (3, [(.int .i64 (.lit 1)), (.int .i64 (.lit 2)), (.int .i64 (.lit 3))]), (69, [(.sl 0 (.var 0) (.var 1)), (.int .i64 (.var 4)), (.val 0)]), (28, [(.int .i64 (.lit 1)), (.int .i64 (.lit 2))]), (28, [(.int .i64 (.lit 2)), (.int .i64 (.lit 3))])], ⟨9, 3, 1, 2, 1⟩⟩ (.br (.not (.var 2)) (.done (.lf (.bool (.lit .false))) ⟨[(61, [(.int .i64 (.var 5)), (.int .i64 (.var 6)), (.int .i64 (.var 7)), (.int .i64 (.var 8)), (.bool (.var 1))]), (3, [(.int .i64 (.lit 1)), (.int .i64 (.lit 2)), (.int .i64 (.lit 3))]), (69, [(.sl 0 (.var 0) (.var 1)), (.int .i64 (.var 4)), (.val 0)]), (28, [(.int .i64 (.lit 1)), (.int .i64 (.lit 2))]), (28, [(.int .i64 (.lit 2)), (.int .i64 (.lit 3))])], ⟨9, 3, 1, 2, 1⟩⟩) (.call 12 [(.lf (.ptr 0 0)), (.agg [(.int .i64 (.lit 2)), (.int .i64 (.lit 3))]), (.lf (.int .i64 (.lit 14)))] ⟨[(61, [(.int .i64 (.var 5)), (.int .i64 (.var 6)), (.int .i64 (.var 7)), (.int .i64 (.var 8)), (.bool (.var 1))]), (3, [(.int .i64 (.lit 1)), (.int .i64 (.lit 2)), (.int .i64 (.lit 3))]), (69, [(.sl 0 (.var 0) (.var 1)), (.int .i64 (.var 4)), (.val 0)]), (28, [(.int .i64 (.lit 1)), (.int .i64 (.lit 2))]), (28, [(.int .i64 (.lit 2)), (.int .i64 (.lit 3))])], ⟨9, 3, 1, 2, 1⟩⟩ (.lf (.bool (.var 4))) ⟨[(61, [(.int .i64 (.var 9)), (.int .i64 (.var 10)), (.int .i64 (.var 11)), (.int .i64 (.var 12)), (.bool (.var 3))]), (3, [(.int .i64 (.lit 1)), (.int .i64 (.lit 2)), (.int .i64 (.lit 3))]), (69, [(.sl 0 (.var 0) (.var 1)), (.int .i64 (.var 4)), (.val 0)]), (28, [(.int .i64 (.lit 1)), (.int .i64 (.lit 2))]), (28, [(.int .i64 (.lit 2)), (.int .i64 (.lit 3))])], ⟨13, 5, 1, 2, 1⟩⟩ (.br (.not (.var 4)) (.done (.lf (.bool (.lit .false))) ⟨[(61, [(.int .i64 (.var 9)), (.int .i64 (.var 10)), (.int .i64 (.var 11)), (.int .i64 (.var 12)), (.bool (.var 3))]), (3, [(.int .i64 (.lit 1)), (.int .i64 (.lit 2)), (.int .i64 (.lit 3))]), (69, [(.sl 0 (.var 0) (.var 1)), (.int .i64 (.var 4)), (.val 0)]), (28, [(.int .i64 (.lit 1)), (.int .i64 (.lit 2))]), (28, [(.int .i64 (.lit 2)), (.int .i64 (.lit 3))])], ⟨13, 5, 1, 2, 1⟩⟩) (.call 12 [(.lf (.ptr 0 0)), (.agg [(.int .i64 (.lit 1)), (.int .i64 (.lit 2))]), (.lf (.int .i64 (.lit 14)))] ⟨[(61, [(.int .i64 (.var 9)), (.int .i64 (.var 10)), (.int .i64 (.var 11)), (.int .i64 (.var 12)), (.bool (.var 3))]), (3, [(.int .i64 (.lit 1)), (.int .i64 (.lit 2)), (.int .i64 (.lit 3))]), (69, [(.sl 0 (.var 0) (.var 1)), (.int .i64 (.var 4)), (.val 0)]), (28, [(.int .i64 (.lit 1)), (.int .i64 (.lit 2))]), (28, [(.int .i64 (.lit 2)), (.int .i64 (.lit 3))])], ⟨13, 5, 1, 2, 1⟩⟩ (.lf (.bool (.var 6))) ⟨[(61, [(.int .i64 (.var 13)), (.int .i64 (.var 14)), (.int .i64 (.var 15)), (.int .i64 (.var 16)), (.bool (.var 5))]), (3, [(.int .i64 (.lit 1)), (.int .i64 (.lit 2)), (.int .i64 (.lit 3))]), (69, [(.sl 0 (.var 0) (.var 1)), (.int .i64 (.var 4)), (.val 0)]), (28, [(.int .i64 (.lit 1)), (.int .i64 (.lit 2))]), (28, [(.int .i64 (.lit 2)), (.int .i64 (.lit 3))])], ⟨17, 7, 1, 2, 1⟩⟩ (.br (.var 6) (.done (.lf (.bool (.lit .false))) ⟨[(61, [(.int .i64 (.var 13)), (.int .i64 (.var 14)), (.int .i64 (.var 15)), (.int .i64 (.var 16)), (.bool (.var 5))]), (3, [(.int .i64 (.lit 1)), (.int .i64 (.lit 2)), (.int .i64 (.lit 3))]), (69, [(.sl 0 (.var 0) (.var 1)), (.int .i64 (.var 4)), (.val 0)]), (28, [(.int .i64 (.lit 1)), (.int .i64 (.lit 2))]), (28, [(.int .i64 (.lit 2)), (.int .i64 (.lit 3))])], ⟨17, 7, 1, 2, 1⟩⟩) (.call 12 [(.lf (.ptr 0 0)), (.agg [(.int .i64 (.lit 2)), (.int .i64 (.lit 3))]), (.lf (.int .i64 (.lit 15)))] ⟨[(61, [(.int .i64 (.var 13)), (.int .i64 (.var 14)), (.int .i64 (.var 15)), (.int .i64 (.var 16)), (.bool (.var 5))]), (3, [(.int .i64 (.lit 1)), (.int .i64 (.lit 2)), (.int .i64 (.lit 3))]), (69, [(.sl 0 (.var 0) (.var 1)), (.int .i64 (.var 4)), (.val 0)]), (28, [(.int .i64 (.lit 1)), (.int .i64 (.lit 2))]), (28, [(.int .i64 (.lit 2)), (.int .i64 (.lit 3))])], ⟨17, 7, 1, 2, 1⟩⟩ (.lf (.bool (.var 8))) ⟨[(61, [(.int .i64 (.var 17)), (.int .i64 (.var 18)), (.int .i64 (.var 19)), (.int .i64 (.var 20)), (.bool (.var 7))]), (3, [(.int .i64 (.lit 1)), (.int .i64 (.lit 2)), (.int .i64 (.lit 3))]), (69, [(.sl 0 (.var 0) (.var 1)), (.int .i64 (.var 4)), (.val 0)]), (28, [(.int .i64 (.lit 1)), (.int .i64 (.lit 2))]), (28, [(.int .i64 (.lit 2)), (.int .i64 (.lit 3))])], ⟨21, 9, 1, 2, 1⟩⟩ (.br (.var 8) (.done (.lf (.bool (.lit .false))) ⟨[(61, [(.int .i64 (.var 17)), (.int .i64 (.var 18)), (.int .i64 (.var 19)), (.int .i64 (.var 20)), (.bool (.var 7))]), (3, [(.int .i64 (.lit 1)), (.int .i64 (.lit 2)), (.int .i64 (.lit 3))]), (69, [(.sl 0 (.var 0) (.var 1)), (.int .i64 (.var 4)), (.val 0)]), (28, [(.int .i64 (.lit 1)), (.int .i64 (.lit 2))]), (28, [(.int .i64 (.lit 2)), (.int .i64 (.lit 3))])], ⟨21, 9, 1, 2, 1⟩⟩) (.call 20 [(.lf (.ptr 2 0)), (.lf (.int .i64 (.lit 1))), (.lf (.int .i64 (.lit 4)))] ⟨[(61, [(.int .i64 (.var 17)), (.int .i64 (.var 18)), (.int .i64 (.var 19)), (.int .i64 (.var 20)), (.bool (.var 7))]), (3, [(.int .i64 (.lit 1)), (.int .i64 (.lit 2)), (.int .i64 (.lit 3))]), (69, [(.sl 0 (.var 0) (.var 1)), (.int .i64 (.var 4)), (.val 0)]), (28, [(.int .i64 (.lit 1)), (.int .i64 (.lit 2))]), (28, [(.int .i64 (.lit 2)), (.int .i64 (.lit 3))])], ⟨21, 9, 1, 2, 1⟩⟩ (.lf (.bool (.var 9))) ⟨[(61, [(.int .i64 (.var 17)), (.int .i64 (.var 18)), (.int .i64 (.var 19)), (.int .i64 (.var 20)), (.bool (.var 7))]), (3, [(.int .i64 (.lit 1)), (.int .i64 (.lit 2)), (.int .i64 (.lit 3))]), (69, [(.sl 0 (.var 0) (.var 1)), (.int .i64 (.var 4)), (.val 0)]), (28, [(.int .i64 (.lit 1)), (.int .i64 (.lit 2))]), (28, [(.int .i64 (.lit 2)), (.int .i64 (.lit 3))])], ⟨21, 10, 1, 2, 1⟩⟩ (.br (.var 9) (.call 20 [(.lf (.ptr 2 0)), (.lf (.int .i64 (.lit 3))), (.lf (.int .i64 (.lit 6)))] ⟨[(61, [(.int .i64 (.var 17)), (.int .i64 (.var 18)), (.int .i64 (.var 19)), (.int .i64 (.var 20)), (.bool (.var 7))]), (3, [(.int .i64 (.lit 1)), (.int .i64 (.lit 2)), (.int .i64 (.lit 3))]), (69, [(.sl 0 (.var 0) (.var 1)), (.int .i64 (.var 4)), (.val 0)]), (28, [(.int .i64 (.lit 1)), (.int .i64 (.lit 2))]), (28, [(.int .i64 (.lit 2)), (.int .i64 (.lit 3))])], ⟨21, 10, 1, 2, 1⟩⟩ (.lf (.bool (.var 10))) ⟨[(61, [(.int .i64 (.var 17)), (.int .i64 (.var 18)), (.int .i64 (.var 19)), (.int .i64 (.var 20)), (.bool (.var 7))]), (3, [(.int .i64 (.lit 1)), (.int .i64 (.lit 2)), (.int .i64 (.lit 3))]), (69, [(.sl 0 (.var 0) (.var 1)), (.int .i64 (.var 4)), (.val 0)]), (28, [(.int .i64 (.lit 1)), (.int .i64 (.lit 2))]), (28, [(.int .i64 (.lit 2)), (.int .i64 (.lit 3))])], ⟨21, 11, 1, 2, 1⟩⟩ (.br (.var 10) (.call 19 [(.lf (.ptr 2 0)), (.lf (.int .i64 (.lit 13)))] ⟨[(61, [(.int .i64 (.var 17)), (.int .i64 (.var 18)), (.int .i64 (.var 19)), (.int .i64 (.var 20)), (.bool (.var 7))]), (3, [(.int .i64 (.lit 1)), (.int .i64 (.lit 2)), (.int .i64 (.lit 3))]), (69, [(.sl 0 (.var 0) (.var 1)), (.int .i64 (.var 4)), (.val 0)]), (28, [(.int .i64 (.lit 1)), (.int .i64 (.lit 2))]), (28, [(.int .i64 (.lit 2)), (.int .i64 (.lit 3))])], ⟨21, 11, 1, 2, 1⟩⟩ (.lf (.bool (.var 11))) ⟨[(61, [(.int .i64 (.var 17)), (.int .i64 (.var 18)), (.int .i64 (.var 19)), (.int .i64 (.var 20)), (.bool (.var 7))]), (3, [(.int .i64 (.lit 1)), (.int .i64 (.lit 2)), (.int .i64 (.lit 3))]), (69, [(.sl 0 (.var 0) (.var 1)), (.int .i64 (.var 4)), (.val 0)]), (28, [(.int .i64 (.lit 1)), (.int .i64 (.lit 2))]), (28, [(.int .i64 (.lit 2)), (.int .i64 (.lit 3))])], ⟨21, 12, 1, 2, 1⟩⟩ (.br (.var 11) (.call 19 [(.lf (.ptr 2 0)), (.lf (.int .i64 (.lit 14)))] ⟨[(61, [(.int .i64 (.var 17)), (.int .i64 (.var 18)), (.int .i64 (.var 19)), (.int .i64 (.var 20)), (.bool (.var 7))]), (3, [(.int .i64 (.lit 1)), (.int .i64 (.lit 2)), (.int .i64 (.lit 3))]), (69, [(.sl 0 (.var 0) (.var 1)), (.int .i64 (.var 4)), (.val 0)]), (28, [(.int .i64 (.lit 1)), (.int .i64 (.lit 2))]), (28, [(.int .i64 (.lit 2)), (.int .i64 (.lit 3))])], ⟨21, 12, 1, 2, 1⟩⟩ (.lf (.bool (.var 12))) ⟨[(61, [(.int .i64 (.var 17)), (.int .i64 (.var 18)), (.int .i64 (.var 19)), (.int .i64 (.var 20)), (.bool (.var 7))]), (3, [(.int .i64 (.lit 1)), (.int .i64 (.lit 2)), (.int .i64 (.lit 3))]), (69, [(.sl 0 (.var 0) (.var 1)), (.int .i64 (.var 4)), (.val 0)]), (28, [(.int .i64 (.lit 1)), (.int .i64 (.lit 2))]), (28, [(.int .i64 (.lit 2)), (.int .i64 (.lit 3))])], ⟨21, 13, 1, 2, 1⟩⟩ (.done (.lf (.bool (.not (.var 12)))) ⟨[(61, [(.int .i64 (.var 17)), (.int .i64 (.var 18)), (.int .i64 (.var 19)), (.int .i64 (.var 20)), (.bool (.var 7))]), (3, [(.int .i64 (.lit 1)), (.int .i64 (.lit 2)), (.int .i64 (.lit 3))]), (69, [(.sl 0 (.var 0) (.var 1)), (.int .i64 (.var 4)), (.val 0)]), (28, [(.int .i64 (.lit 1)), (.int .i64 (.lit 2))]), (28, [(.int .i64 (.lit 2)), (.int .i64 (.lit 3))])], ⟨21, 13, 1, 2, 1⟩⟩)) (.done (.lf (.bool (.lit .false))) ⟨[(61, [(.int .i64 (.var 17)), (.int .i64 (.var 18)), (.int .i64 (.var 19)), (.int .i64 (.var 20)), (.bool (.var 7))]), (3, [(.int .i64 (.lit 1)), (.int .i64 (.lit 2)), (.int .i64 (.lit 3))]), (69, [(.sl 0 (.var 0) (.var 1)), (.int .i64 (.var 4)), (.val 0)]), (28, [(.int .i64 (.lit 1)), (.int .i64 (.lit 2))]), (28, [(.int .i64 (.lit 2)), (.int .i64 (.lit 3))])], ⟨21, 12, 1, 2, 1⟩⟩))) (.done (.lf (.bool (.lit .false))) ⟨[(61, [(.int .i64 (.var 17)), (.int .i64 (.var 18)), (.int .i64 (.var 19)), (.int .i64 (.var 20)), (.bool (.var 7))]), (3, [(.int .i64 (.lit 1)), (.int .i64 (.lit 2)), (.int .i64 (.lit 3))]), (69, [(.sl 0 (.var 0) (.var 1)), (.int .i64 (.var 4)), (.val 0)]), (28, [(.int .i64 (.lit 1)), (.int .i64 (.lit 2))]), (28, [(.int .i64 (.lit 2)), (.int .i64 (.lit 3))])], ⟨21, 11, 1, 2, 1⟩⟩))) (.done (.lf (.bool (.lit .false))) ⟨[(61, [(.int .i64 (.var 17)), (.int .i64 (.var 18)), (.int .i64 (.var 19)), (.int .i64 (.var 20)), (.bool (.var 7))]), (3, [(.int .i64 (.lit 1)), (.int .i64 (.lit 2)), (.int .i64 (.lit 3))]), (69, [(.sl 0 (.var 0) (.var 1)), (.int .i64 (.var 4)), (.val 0)]), (28, [(.int .i64 (.lit 1)), (.int .i64 (.lit 2))]), (28, [(.int .i64 (.lit 2)), (.int .i64 (.lit 3))])], ⟨21, 10, 1, 2, 1⟩⟩))))))))))))) := by kernel_rfl
/-- The nodes whose leases stand. -/
def standL (m : List (Int × Int)) (hold now : Int) : List Int := (m.filter fun p => decide (p.2 ≤ now ∧ now - p.2 < hold)).map (·.1)
theorem enoughB_congr {ms a b : List Int} (h : ∀ x, x ∈ a ↔ x ∈ b) : enoughB ms a = enoughB ms b := by
  have : (fun m => hasB a m) = fun m => hasB b m := by funext m; simp only [hasB, h]
  unfold enoughB inCount; rw [this]
structure HoldAt (w : World) (hb : Nat) (a : Option Addr) (cap : Nat) (ms : List Int) (hold : Int) (bm : Nat) (m : List (Int × Int)) : Prop where
  blk : Blk w hb [.slice a ms.length cap, .int .i64 hold, .map (some bm)] 69
  ints : Ints w a ms
  imap : IMap w bm m
  s1 : bm ≠ hb
  s2 : ms ≠ [] → Go.Syn.blk a ≠ hb ∧ Go.Syn.blk a ≠ bm
def holdHX (a : Option Addr) (ms : List Int) (bm : Nat) (m : List (Int × Int)) : HX := (HX.ints a ms).and (HX.imap bm m)
theorem HoldAt.sep {w : World} {hb : Nat} {a : Option Addr} {cap : Nat} {ms : List Int} {hold : Int} {bm : Nat} {m : List (Int × Int)} (h : HoldAt w hb a cap ms hold bm m) : ∀ k, (holdHX a ms bm m).F k → k < w.heap.size ∧ k ≠ hb := by
  intro k hk
  rcases hk with ⟨h1, rfl⟩ | hk
  · have h0 : 0 < ms.length := List.length_pos_iff.2 h1
    exact ⟨(h.ints.at_ h0).2.1, (h.s2 h1).1⟩
  · have : k = bm := hk
    subst this
    exact ⟨h.imap.lt, h.s1⟩
def ValidI (W : World) (a : Option Addr) (ms : List Int) (bm : Nat) (m : List (Int × Int)) (es : Array MapEntry) (clock i : Nat) (hold now : Int) (vs : Vals) (hx : HX) (n : Nat) : Prop :=
  ∃ (a' : Option Addr) (cap' : Nat) (ns : List Int) (seen : Array Nat), vs = ⟨[], [], [], [ns.length, cap'], [a']⟩ ∧ n = (leftOf es seen).size ∧ ns.length + n ≤ es.size ∧
    hx = (((holdHX a ms bm m).and (HX.blk bm (.map es clock))).and (HX.own W.heap.size 3 a' ns.length cap' (ns.map (Value.int .i64)))).and (HX.blk i (.mapIter (some bm) clock seen clock)) ∧
    (∀ k, abk a' = some k → ¬ ((holdHX a ms bm m).and (HX.blk bm (.map es clock))).F k ∧ k ≠ i) ∧
    (∀ x, x ∈ ns ↔ ∃ e v, e ∈ es.toList ∧ seen.contains e.born = true ∧ e.key = .int .i64 x ∧ e.val = .int .i64 v ∧ v ≤ now ∧ now - v < hold)
set_option maxHeartbeats 2000000 in
set_option maxRecDepth 100000 in
theorem hvalid_any (hb : Nat) (a : Option Addr) (cap : Nat) (ms : List Int) (hold : Int) (bm : Nat) (m : List (Int × Int)) (now : Int) (w : World) (H : HoldAt w hb a cap ms hold bm m) (hh : 0 ≤ hold ∧ hold ≤ 9223372036854775807) (hn : I64 now) (hm : ∀ p ∈ m, I64 p.1 ∧ I64 p.2) (hl : m.length ≤ 1000) :
    Calls Try.prog 19 #[.pointer (some ⟨hb, 0, none⟩), .int .i64 now] w (PureAt w (.bool (enoughB ms (standL m hold now)))) := by
  refine calls_at (tab_ok _) Try.func19 rfl tHValid (ρ := ⟨[hold, now], [], [.map (some bm)], [ms.length, cap], [a]⟩) (ids := [hb]) (hx := holdHX a ms bm m) (M := fun x => x = hb) rfl
    (Facts.initx rfl (fun v hv => by simp only [List.mem_singleton] at hv; subst hv; rfl) H.blk rfl rfl ⟨H.ints, H.imap⟩ H.sep) ?_
  refine node_range bm m (fun w h => h.2) (fun _ => rfl) Try.underlying67 (fun _ _ => rfl) rfl rfl (fun _ => rfl) (.inr rfl) ?_
  intro i es clock hi hdis hst hmm
  have hlen : es.size = m.length := by have := congrArg List.length hmm; simpa using this
  refine ⟨ValidI w a ms bm m es clock i hold now, fun ids w2 hp hf => ?_, ?_⟩
  · refine ⟨((((holdHX a ms bm m).and (HX.blk bm (.map es clock))).and (HX.own w.heap.size 3 none 0 0 [])).and (HX.blk i (.mapIter (some bm) clock #[] clock))), (leftOf es #[]).size, ⟨⟨⟨hf.x.1, World.ownsRow_nil w2 w.heap.size 3 1⟩, hf.x.2⟩, fun k hk => ?_⟩, none, 0, [], #[], rfl, rfl, ?_, rfl, ?_, ?_⟩
    · rcases hk with (hk | hk) | hk
      · exact hf.sep k (.inl hk)
      · cases hk
      · exact hf.sep k (.inr hk)
    · simp only [List.length_nil, Nat.zero_add]; unfold leftOf; exact Array.size_filter_le
    · intro k hk; cases hk
    · intro x; constructor
      · intro h; cases h
      · rintro ⟨e, v, h1, h2, _⟩; simp at h2
  · rintro vs hx' n hcnt ⟨a', cap', ns, seen, rfl, rfl, hle, rfl, hdis', hmem⟩
    refine node_next i bm clock seen es clock (fun w h => h.1.2) hst hi (fun q => ?_) m hmm (fun _ => rfl) (fun _ _ _ => rfl) (fun _ _ _ => rfl) rfl rfl (fun _ _ _ => rfl) (fun h0 => ?_) (fun e k v he hee hk hv => ?_)
    · rcases q with (q | q) | q
      · exact hdis q
      · exact hdis (.inr q)
      · exact (hdis' i q).2 rfl
    · refine br_f rfl ?_
      have hfit : ∀ x ∈ ns, I64 x := fun x hx => by
        obtain ⟨e, v, h1, _, h3, _⟩ := (hmem x).1 hx
        obtain ⟨j, hj⟩ := List.mem_iff_getElem?.1 h1
        obtain ⟨p, p1, p2, _⟩ := entry_at hmm hj
        rw [h3] at p2
        rw [(Value.int.inj p2).2]
        exact (hm p (List.mem_of_getElem? p1)).1
      refine node_pure ⟨[], [enoughB ms ns], [], [], []⟩ rfl rfl rfl oneNil (fun ids w2 hp hf => ?_) ?_
      · refine (enough_any a cap ms a' cap' ns w2 hf.x.1.1.1.1 (ints_own hf.x.1.2 (by omega) hfit)).mono ?_
        rintro e w' ⟨rfl, rfl⟩
        exact ⟨rfl, Below.refl _ _⟩
      · intro ids w2 hp hf
        refine ⟨?_, ((Chg.same hf.chg ?_).below)⟩
        · show Ending.returned (.bool (enoughB ms ns)) = _
          congr 2
          refine enoughB_congr fun x => (hmem x).trans ⟨fun ⟨e, v, h1, h2, h3, h4, h5⟩ => ?_, fun hx => ?_⟩
          · obtain ⟨j, hj⟩ := List.mem_iff_getElem?.1 h1
            obtain ⟨p, p1, p2, p3⟩ := entry_at hmm hj
            rw [h3] at p2; rw [h4] at p3
            have q1 := (Value.int.inj p2).2; have q2 := (Value.int.inj p3).2
            refine List.mem_map.2 ⟨p, List.mem_filter.2 ⟨List.mem_of_getElem? p1, by simp only [decide_eq_true_eq]; omega⟩, q1.symm⟩
          · obtain ⟨p, h1, rfl⟩ := List.mem_map.1 hx
            obtain ⟨h1, h2⟩ := List.mem_filter.1 h1
            simp only [decide_eq_true_eq] at h2
            have : ent p ∈ es.toList.map (fun e => (e.key, e.val)) := by rw [hmm]; exact List.mem_map.2 ⟨p, h1, rfl⟩
            obtain ⟨e, e1, e2⟩ := List.mem_map.1 this
            simp only [ent, Prod.mk.injEq] at e2
            exact ⟨e, p.2, e1, all_seen es seen h0 e e1, e2.1, e2.2, h2.1, h2.2⟩
        · have := hf.blkAt 0 rfl
          rw [idAt0 hp] at this
          exact this.trans H.blk.symm
    · refine br_t rfl ?_
      refine node_entry i bm clock seen es clock e k v (fun w h => ⟨h.1.1.2, h.2⟩) hst hee hk hv (fun _ => rfl) (fun _ => rfl) rfl rfl rfl ?_
      have hlt := left_shrinks es seen e he
      have old : ∀ x, (v ≤ now ∧ now - v < hold → x ≠ k) → (x ∈ ns ↔ ∃ e' v', e' ∈ es.toList ∧ (seen.push e.born).contains e'.born = true ∧ e'.key = .int .i64 x ∧ e'.val = .int .i64 v' ∧ v' ≤ now ∧ now - v' < hold) := by
        intro x hx
        refine (hmem x).trans ⟨fun ⟨e', v', h1, h2, h3⟩ => ⟨e', v', h1, (con_push _ _ _).2 (.inl h2), h3⟩, fun ⟨e', v', h1, h2, h3, h4, h5⟩ => ?_⟩
        rcases (con_push _ _ _).1 h2 with h2 | h2
        · exact ⟨e', v', h1, h2, h3, h4, h5⟩
        · obtain rfl := bornEq hst hee h1 h2
          rw [h3] at hk; rw [h4] at hv
          have q1 := (Value.int.inj hk).2; have q2 := (Value.int.inj hv).2
          subst q1 q2
          exact absurd rfl (hx h5)
      have skip : ¬ (v ≤ now ∧ now - v < hold) → ∀ vs, vs = ⟨[], [], [], [ns.length, cap'], [a']⟩ → ∀ (w2 : World) (ids : List Nat) hx2, hx2 = (((holdHX a ms bm m).and (HX.blk bm (.map es clock))).and (HX.own w.heap.size 3 a' ns.length cap' (ns.map (Value.int .i64)))).and (HX.blk i (.mapIter (some bm) clock (seen.push e.born) clock)) → HXok hx2 w2 ids →
          ∃ hx', HXok hx' w2 ids ∧ ∃ I, lkup 5 [(5, fun vs' hx'' => ∃ n', n' < (leftOf es seen).size ∧ ValidI w a ms bm m es clock i hold now vs' hx'' n')] = some I ∧ I vs hx' := by
        rintro hno vs rfl w2 ids hx2 rfl hok
        exact ⟨_, hok, _, rfl, _, hlt, a', cap', ns, seen.push e.born, rfl, rfl, by omega, rfl, hdis', fun x => old x (fun h => absurd h hno)⟩
      by_cases h1 : v ≤ now
      · refine br_t (show decide (now ≥ v) = true by simpa using h1) ?_
        have hiv : I64 v := by
          obtain ⟨j, hj⟩ := List.mem_iff_getElem?.1 hee
          obtain ⟨p, p1, _, p3⟩ := entry_at hmm hj
          rw [hv] at p3
          rw [(Value.int.inj p3).2]
          exact (hm p (List.mem_of_getElem? p1)).2
        obtain ⟨v0, v1⟩ := hiv
        obtain ⟨n0, n1⟩ := hn
        have hh2 := u64_sub now v (by omega) (by omega)
        have e1 : IntKind.u64.wrap hold = hold := u64_self (by omega)
        by_cases h2 : now - v < hold
        · refine br_t (show decide (IntKind.u64.wrap (IntKind.u64.wrap now - IntKind.u64.wrap v) < IntKind.u64.wrap hold) = true by rw [hh2, e1]; simpa using h2) ?_
          rw [HX.and_right_comm]
          refine node_push (rest := ((holdHX a ms bm m).and (HX.blk bm (.map es clock))).and (HX.blk i (.mapIter (some bm) clock (seen.push e.born) clock))) rfl Try.underlying41 info_int a' ns.length cap' (ns.map (Value.int .i64)) k 1 (fun _ => rfl) (fun _ => rfl) rfl (fun _ => rfl) (fun q hq hF => ?_) (by omega) (fun _ _ _ => rfl) rfl rfl (fun _ _ => rfl) (fun a2 cap2 hd2 => ?_)
          · rcases hF with hF | hF
            · exact (hdis' q hq).1 hF
            · exact (hdis' q hq).2 hF
          · rw [HX.and_right_comm]
            intro ids w2 hp hf
            refine ⟨_, ⟨hf.x, hf.sep⟩, _, rfl, _, hlt, a2, cap2, ns ++ [k], seen.push e.born, ?_, rfl, by simp; omega, ?_, fun q hq => ⟨fun hF => hd2 q hq (.inl hF), fun hF => hd2 q hq (.inr hF)⟩, fun x => ?_⟩
            · simp [Vec.den, Env.add, NE.den, AE.den]
            · rw [List.length_append, List.map_append]; rfl
            · by_cases hxk : x = k
              · subst hxk
                exact ⟨fun _ => ⟨e, v, hee, (con_push _ _ _).2 (.inr rfl), hk, hv, h1, h2⟩, fun _ => by simp⟩
              · rw [← old x (fun _ => hxk)]
                simp [hxk]
        · refine br_f (show decide (IntKind.u64.wrap (IntKind.u64.wrap now - IntKind.u64.wrap v) < IntKind.u64.wrap hold) = false by rw [hh2, e1]; simpa using h2) ?_
          intro ids w2 hp hf
          exact skip (fun q => h2 q.2) _ rfl w2 ids _ rfl ⟨hf.x, hf.sep⟩
      · refine br_f (show decide (now ≥ v) = false by simpa using h1) ?_
        intro ids w2 hp hf
        exact skip (fun q => h1 q.1) _ rfl w2 ids _ rfl ⟨hf.x, hf.sep⟩
def hgrantV (ms : List Int) (m : List (Int × Int)) (node asked : Int) : List (Int × Int) :=
  if hasB ms node then (if (lk m node).isSome = false ∨ asked > (lk m node).getD 0 then putm m node asked else m) else m
def HoldR (w : World) (hb : Nat) (a : Option Addr) (cap : Nat) (ms : List Int) (hold : Int) (bm : Nat) (m : List (Int × Int)) (V : Value) (e : Ending) (w' : World) : Prop := e = .returned V ∧ HoldAt w' hb a cap ms hold bm m ∧ w.grownBy w' (some bm)
theorem hold_done {w : World} {hb : Nat} {a : Option Addr} {cap : Nat} {ms : List Int} {hold : Int} {bm : Nat} {m m' : List (Int × Int)} {V : Value} {v : SV} {ρ : Env} {L : Stack} {cs : List LV} {n : Cnt} (H : HoldAt w hb a cap ms hold bm m) (hv : ∀ ids, v.den ρ ids = V) (hc : ∀ ids, cellsDen ρ ids cs = [.slice a ms.length cap, .int .i64 hold, .map (some bm)]) :
    (Tree.done v ⟨[(69, cs)], n⟩).holds ⟨Try.prog, w, fun x => x = hb ∨ x = bm, HoldR w hb a cap ms hold bm m' V⟩ ρ [hb] (holdHX a ms bm m') L := fun ids w' hp hf => by
  have h0 := hf.blkAt 0 rfl
  rw [idAt0 hp, hc ids] at h0
  exact ⟨by rw [hv ids], ⟨h0, hf.x.1, hf.x.2, H.s1, H.s2⟩, Chg.grown1 hf.chg (h0.trans H.blk.symm)⟩
set_option maxRecDepth 100000 in
theorem hgranted_any (hb : Nat) (a : Option Addr) (cap : Nat) (ms : List Int) (hold : Int) (bm : Nat) (m : List (Int × Int)) (node asked : Int) (w : World) (H : HoldAt w hb a cap ms hold bm m) :
    Calls Try.prog 20 #[.pointer (some ⟨hb, 0, none⟩), .int .i64 node, .int .i64 asked] w (HoldR w hb a cap ms hold bm (hgrantV ms m node asked) (.bool (hasB ms node))) := by
  refine calls_at (tab_ok _) Try.func20 rfl tHGranted (ρ := ⟨[hold, node, asked], [], [.map (some bm)], [ms.length, cap], [a]⟩) (ids := [hb]) (hx := holdHX a ms bm m) (M := fun x => x = hb ∨ x = bm) rfl
    (Facts.initx rfl (fun v hv => by simp only [List.mem_singleton] at hv; subst hv; rfl) H.blk rfl (.inl rfl) ⟨H.ints, H.imap⟩ H.sep) ?_
  refine node_pure ⟨[], [hasB ms node], [], [], []⟩ rfl rfl rfl oneNil (fun ids w2 hp hf => ?_) ?_
  · refine (has_any a cap ms node w2 hf.x.1).mono ?_
    rintro e w' ⟨rfl, rfl⟩
    exact ⟨rfl, Below.refl _ _⟩
  rcases Bool.eq_false_or_eq_true (hasB ms node) with h1 | h1
  · refine br_f (show (!hasB ms node) = false by rw [h1]; rfl) ?_
    refine node_lookup bm m node (fun w h => h.2) (fun _ => rfl) (fun _ => rfl) Try.underlying67 Try.underlying3 (fun w => rfl) (fun _ => rfl) rfl rfl rfl ?_
    have up : ∀ {ρ : Env} {L : Stack}, True → True := fun _ => trivial
    by_cases h2 : (lk m node).isSome = false
    · have e1 : hgrantV ms m node asked = putm m node asked := by unfold hgrantV; rw [if_pos h1, if_pos (.inl h2)]
      rw [e1]
      refine br_t (show (!(lk m node).isSome) = true by rw [h2]; rfl) ?_
      refine node_update (holdHX a ms bm (putm m node asked)) bm m node asked (fun w h => h.2) (.inr rfl) (fun _ _ => .inr (.inr rfl)) (fun _ => rfl) (fun _ => rfl) (fun _ => rfl) Try.underlying67 Try.underlying3 (fun w w' h h1 h2 => ⟨Ints.loc h.1 fun hne => h2.block _ ((h.1.at_ (List.length_pos_iff.2 hne)).2.1) (fun q => (H.s2 hne).2 (Option.some.inj q)), h1⟩) (fun k hk => hk) rfl rfl rfl ?_
      exact hold_done H (fun _ => h1 ▸ rfl) (fun _ => rfl)
    · refine br_f (show (!(lk m node).isSome) = false by rw [Bool.not_eq_false] at h2; rw [h2]; rfl) ?_
      by_cases h3 : asked > (lk m node).getD 0
      · have e1 : hgrantV ms m node asked = putm m node asked := by unfold hgrantV; rw [if_pos h1, if_pos (.inr h3)]
        rw [e1]
        refine br_t (show decide (asked > (lk m node).getD 0) = true by simpa using h3) ?_
        refine node_update (holdHX a ms bm (putm m node asked)) bm m node asked (fun w h => h.2) (.inr rfl) (fun _ _ => .inr (.inr rfl)) (fun _ => rfl) (fun _ => rfl) (fun _ => rfl) Try.underlying67 Try.underlying3 (fun w w' h h1 h2 => ⟨Ints.loc h.1 fun hne => h2.block _ ((h.1.at_ (List.length_pos_iff.2 hne)).2.1) (fun q => (H.s2 hne).2 (Option.some.inj q)), h1⟩) (fun k hk => hk) rfl rfl rfl ?_
        exact hold_done H (fun _ => h1 ▸ rfl) (fun _ => rfl)
      · have e1 : hgrantV ms m node asked = m := by unfold hgrantV; rw [if_pos h1, if_neg (fun q => q.elim h2 h3)]
        rw [e1]
        refine br_f (show decide (asked > (lk m node).getD 0) = false by simpa using h3) ?_
        exact hold_done H (fun _ => h1 ▸ rfl) (fun _ => rfl)
  · have e1 : hgrantV ms m node asked = m := by unfold hgrantV; rw [if_neg (by rw [h1]; simp)]
    rw [e1]
    refine br_t (show (!hasB ms node) = true by rw [h1]; rfl) ?_
    exact hold_done H (fun _ => h1 ▸ rfl) (fun _ => rfl)
set_option maxRecDepth 100000 in
theorem hclear_any (hb : Nat) (a : Option Addr) (cap : Nat) (ms : List Int) (hold : Int) (bm : Nat) (m : List (Int × Int)) (w : World) (H : HoldAt w hb a cap ms hold bm m) :
    Calls Try.prog 18 #[.pointer (some ⟨hb, 0, none⟩)] w (HoldR w hb a cap ms hold bm [] (.tuple #[])) := by
  refine calls_at (tab_ok _) Try.func18 rfl tHClear (ρ := ⟨[hold], [], [.map (some bm)], [ms.length, cap], [a]⟩) (ids := [hb]) (hx := holdHX a ms bm m) (M := fun x => x = hb ∨ x = bm) rfl
    (Facts.initx rfl (fun v hv => by simp only [List.mem_singleton] at hv; subst hv; rfl) H.blk rfl (.inl rfl) ⟨H.ints, H.imap⟩ H.sep) ?_
  refine node_clear (holdHX a ms bm []) bm m rfl (fun w h => h.2) (.inr rfl) (fun _ _ => .inr (.inr rfl)) (fun _ => rfl) Try.underlying67 (fun w w' h h1 h2 => ⟨Ints.loc h.1 fun hne => h2.block _ ((h.1.at_ (List.length_pos_iff.2 hne)).2.1) (fun q => (H.s2 hne).2 (Option.some.inj q)), h1⟩) (fun k hk => hk) rfl rfl rfl ?_
  exact hold_done H (fun _ => rfl) (fun _ => rfl)
def NewHold (w : World) (ms : List Int) (hold : Int) (e : Ending) (w' : World) : Prop :=
  ∃ hb a' cap' bm, e = .returned (.pointer (some ⟨hb, 0, none⟩)) ∧ HoldAt w' hb a' cap' ms hold bm [] ∧ Below w.heap.size w w' ∧ w.heap.size ≤ hb ∧ w.heap.size ≤ bm ∧ w.heap.size ≤ Go.Syn.blk a'
theorem ints_sep {w : World} {a : Option Addr} {ms : List Int} (h : Ints w a ms) : ∀ k, (HX.ints a ms).F k → k < w.heap.size := by
  rintro k ⟨h1, rfl⟩
  exact (h.at_ (List.length_pos_iff.2 h1)).2.1
set_option maxRecDepth 100000 in
theorem hnew_no (a : Option Addr) (cap : Nat) (ms : List Int) (len rho : Int) (w : World) (H : Ints w a ms) (hs : setOkB ms = false) :
    Calls Try.prog 17 #[.slice a ms.length cap, .int .i64 len, .int .i64 rho] w (PureAt w (.pointer none)) := by
  refine calls_at (tab_ok _) Try.func17 rfl tHNew (ρ := ⟨[len, rho], [], [], [ms.length, cap], [a]⟩) (ids := []) (hx := HX.ints a ms) rfl (Facts.initq rfl oneNil H (ints_sep H)) ?_
  refine node_pure ⟨[checkV ms], [], [], [], []⟩ rfl rfl rfl oneNil (fun ids w2 hp hf => ?_) ?_
  · refine (check_any a cap ms w2 hf.x).mono ?_
    rintro e w' ⟨rfl, rfl⟩
    exact ⟨rfl, Below.refl _ _⟩
  exact br_t (show (checkV ms != 0) = true by simp [checkV, hs]) (pure_done (fun _ => rfl))
set_option maxRecDepth 100000 in
theorem hnew_yes (a : Option Addr) (cap : Nat) (ms : List Int) (len rho : Int) (w : World) (H : Ints w a ms) (hs : setOkB ms = true) :
    Calls Try.prog 17 #[.slice a ms.length cap, .int .i64 len, .int .i64 rho] w (NewHold w ms (holdV len rho)) := by
  refine calls_at (tab_ok _) Try.func17 rfl tHNew (ρ := ⟨[len, rho], [], [], [ms.length, cap], [a]⟩) (ids := []) (hx := HX.ints a ms) rfl (Facts.initq rfl oneNil H (ints_sep H)) ?_
  have hS := setOkB_iff.1 hs
  refine node_pure ⟨[checkV ms], [], [], [], []⟩ rfl rfl rfl oneNil (fun ids w2 hp hf => ?_) ?_
  · refine (check_any a cap ms w2 hf.x).mono ?_
    rintro e w' ⟨rfl, rfl⟩
    exact ⟨rfl, Below.refl _ _⟩
  refine br_f (show (checkV ms != 0) = false by simp [checkV, hs]) ?_
  refine node_appnil rfl Try.underlying66 Try.underlying41 info_int a cap ms (fun w h => h) hS.1 (by have := hS.2.1; omega) (fun _ => rfl) (fun _ => rfl) (fun _ _ _ => rfl) rfl rfl (fun _ _ => rfl) (fun i cap' hi hni => ?_)
  refine node_pure ⟨[holdV len rho], [], [], [], []⟩ rfl rfl rfl oneNil (fun ids w2 hp hf => ?_) ?_
  · refine (hold_any len rho w2).mono ?_
    rintro e w' ⟨rfl, rfl⟩
    exact ⟨rfl, Below.refl _ _⟩
  refine node_makeMap (fun _ _ => rfl) rfl rfl (fun _ => rfl) (fun bm hb hnb => ?_)
  intro ids w' hp hf
  have hne : ms ≠ [] := fun e => by rw [e] at hS; exact absurd hS.1 (by decide)
  have hmem := idAt_mem (ids := ids) (n := 0) (by rw [hf.len]; decide)
  refine ⟨idAt ids 0, some ⟨i, 0, none⟩, cap', bm, rfl, ⟨hf.blkAt 0 rfl, hf.x.1.2, hf.x.2, fun e => ?_, fun _ => ⟨fun e => ?_, fun e => ?_⟩⟩, hf.chg.below, (hf.own _ hmem).resolve_right (fun e => e), hb, hi⟩
  · exact (hf.sep bm (.inr rfl)).2 (e ▸ hmem)
  · exact (hf.sep i (.inl (.inr ⟨hne, rfl⟩))).2 (by have e2 : i = idAt ids 0 := e; rw [e2]; exact hmem)
  · exact hnb (.inr ⟨hne, (show bm = i from (show i = bm from e).symm)⟩)
theorem hvalid_nil (now : Int) (w : World) : Calls Try.prog 19 #[.pointer none, .int .i64 now] w (PureAt w (.bool false)) := by
  refine calls_at (tab_ok _) Try.func19 rfl tHValid0 (ρ := ⟨[now], [], [], [], []⟩) (ids := []) rfl (Facts.initP rfl oneNil) ?_
  exact pure_done (fun _ => rfl)
theorem hgranted_nil (node asked : Int) (w : World) : Calls Try.prog 20 #[.pointer none, .int .i64 node, .int .i64 asked] w (PureAt w (.bool false)) := by
  refine calls_at (tab_ok _) Try.func20 rfl tHGranted0 (ρ := ⟨[node, asked], [], [], [], []⟩) (ids := []) rfl (Facts.initP rfl oneNil) ?_
  exact pure_done (fun _ => rfl)
theorem hclear_nil (w : World) : Calls Try.prog 18 #[.pointer none] w (PureAt w (.tuple #[])) := by
  refine calls_at (tab_ok _) Try.func18 rfl tHClear0 (ρ := ⟨[], [], [], [], []⟩) (ids := []) rfl (Facts.initP rfl oneNil) ?_
  exact pure_done (fun _ => rfl)
end Go.Proofs.Ytnpjigeljhlomaa
