/- The walk of LeaseHolds. -/
import Derived.Test.YtnpjigeljhlomaaHoldL
import Derived.Test.YtnpjigeljhlomaaLeRuns
namespace Go.Proofs.Ytnpjigeljhlomaa
open Go.ChangeShapes Go.WideShapes Go.ChangeAt Go.RowKit Go.Syn Go.Eng
set_option linter.unusedVariables false
set_option linter.unusedSimpArgs false
set_option maxRecDepth 100000 in
theorem tLH : (runF ⟨tt, fns, {ret := [(17, .one (.newp 69 [.sl, .int .i64, .val]))], loops := [(11, ⟨[(12, .int .i64)], [0]⟩)], joins := [(25, ⟨[], [0]⟩)]}⟩ (Try.f5.body.getD .skip) Try.f5.results.toList (entry Try.f5.ntmps [.lf (.sl 0 (.var 0) (.var 1)), .lf (.int .i64 (.var 0)), .lf (.int .i64 (.var 1)), .lf (.sl 1 (.var 2) (.var 3))] [] ⟨2, 0, 0, 4, 2⟩)) =
  (.call 7 [] ⟨[], ⟨2, 0, 0, 4, 2⟩⟩ (.lf (.bool (.var 0))) ⟨[], ⟨2, 1, 0, 4, 2⟩⟩ (.br (.not (.var 0)) (.done (.lf (.bool (.lit .false))) ⟨[], ⟨2, 1, 0, 4, 2⟩⟩) (.call 16 [(.lf (.sl 0 (.var 0) (.var 1))), (.lf (.int .i64 (.var 0))), (.lf (.int .i64 (.var 1)))] ⟨[], ⟨2, 1, 0, 4, 2⟩⟩ (.tup [(.true, [(.sl 2 (.var 4) (.var 5)), (.int .i64 (.var 2)), (.sl 3 (.var 6) (.var 7)), (.sl 4 (.var 8) (.var 9))]), (.false, [(.bool (.var 1))])]) ⟨[], ⟨3, 2, 0, 10, 5⟩⟩ (.gen (.call ⟨(.builtin .append), #[(.tmp 25), (.tmp 26)], #[41, 41]⟩) 41 [(25, (.lf (.nsl 1 0 0 0))), (26, (.lf (.sl 0 (.var 0) (.var 1))))] ⟨[(43, [(.sl 2 (.var 4) (.var 5)), (.int .i64 (.var 2)), (.sl 3 (.var 6) (.var 7)), (.sl 4 (.var 8) (.var 9))]), (3, [])], ⟨3, 2, 0, 10, 5⟩⟩ (.some (.lf (.sl 5 (.var 10) (.var 11)))) ⟨[(43, [(.sl 2 (.var 4) (.var 5)), (.int .i64 (.var 2)), (.sl 3 (.var 6) (.var 7)), (.sl 4 (.var 8) (.var 9))]), (3, [])], ⟨3, 2, 0, 12, 6⟩⟩ (.call 17 [(.lf (.sl 5 (.var 10) (.var 11))), (.lf (.int .i64 (.var 0))), (.lf (.int .i64 (.var 1)))] ⟨[(43, [(.sl 2 (.var 4) (.var 5)), (.int .i64 (.var 2)), (.sl 3 (.var 6) (.var 7)), (.sl 4 (.var 8) (.var 9))]), (3, [])], ⟨3, 2, 0, 12, 6⟩⟩ (.lf (.ptr 2 0)) ⟨[(43, [(.sl 2 (.var 4) (.var 5)), (.int .i64 (.var 2)), (.sl 3 (.var 6) (.var 7)), (.sl 4 (.var 8) (.var 9))]), (3, []), (69, [(.sl 6 (.var 12) (.var 13)), (.int .i64 (.var 3)), (.val 0)])], ⟨4, 2, 1, 14, 7⟩⟩ (.br (.not (.var 1)) (.done (.lf (.bool (.lit .false))) ⟨[(43, [(.sl 2 (.var 4) (.var 5)), (.int .i64 (.var 2)), (.sl 3 (.var 6) (.var 7)), (.sl 4 (.var 8) (.var 9))]), (3, []), (69, [(.sl 6 (.var 12) (.var 13)), (.int .i64 (.var 3)), (.val 0)])], ⟨4, 2, 1, 14, 7⟩⟩) (.loop 11 ⟨[(.lit 0), (.var 2)], [], [], [(.var 4), (.var 5), (.var 6), (.var 7), (.var 8), (.var 9)], [(.var 2), (.var 3), (.var 4)]⟩ ⟨[(43, [(.sl 2 (.var 4) (.var 5)), (.int .i64 (.var 2)), (.sl 3 (.var 6) (.var 7)), (.sl 4 (.var 8) (.var 9))]), (3, []), (69, [(.sl 6 (.var 12) (.var 13)), (.int .i64 (.var 3)), (.val 0)])], ⟨4, 2, 1, 14, 7⟩⟩ ⟨[(43, [(.sl 7 (.var 14) (.var 15)), (.int .i64 (.var 5)), (.sl 8 (.var 16) (.var 17)), (.sl 9 (.var 18) (.var 19))]), (3, []), (69, [(.sl 6 (.var 12) (.var 13)), (.int .i64 (.var 3)), (.val 0)])], ⟨6, 2, 1, 20, 10⟩⟩ (.br (.cmp .lss (.var 4) (.nat 2)) (.br (.cmp .lss (.var 4) (.lit 60)) (.need (.inb 1 (.var 4) (.nat 2)) (.ld .false (.adr 1 (.var 4) 5 0) [(.int .i64 (.var 6)), (.int .i64 (.var 7)), (.int .i64 (.var 8)), (.int .i64 (.var 9)), (.int .i64 (.var 10))] ⟨[(43, [(.sl 7 (.var 14) (.var 15)), (.int .i64 (.var 5)), (.sl 8 (.var 16) (.var 17)), (.sl 9 (.var 18) (.var 19))]), (3, []), (69, [(.sl 6 (.var 12) (.var 13)), (.int .i64 (.var 3)), (.val 0)])], ⟨6, 2, 1, 20, 10⟩⟩ ⟨[(43, [(.sl 7 (.var 14) (.var 15)), (.int .i64 (.var 5)), (.sl 8 (.var 16) (.var 17)), (.sl 9 (.var 18) (.var 19))]), (3, []), (69, [(.sl 6 (.var 12) (.var 13)), (.int .i64 (.var 3)), (.val 0)])], ⟨11, 2, 1, 20, 10⟩⟩ (.call 8 [(.lf (.int .i64 (.var 10)))] ⟨[(43, [(.sl 7 (.var 14) (.var 15)), (.int .i64 (.var 5)), (.sl 8 (.var 16) (.var 17)), (.sl 9 (.var 18) (.var 19))]), (3, []), (69, [(.sl 6 (.var 12) (.var 13)), (.int .i64 (.var 3)), (.val 0)]), (33, [(.int .i64 (.var 6)), (.int .i64 (.var 7)), (.int .i64 (.var 8)), (.int .i64 (.var 9)), (.int .i64 (.var 10))])], ⟨11, 2, 1, 20, 10⟩⟩ (.lf (.bool (.var 2))) ⟨[(43, [(.sl 7 (.var 14) (.var 15)), (.int .i64 (.var 5)), (.sl 8 (.var 16) (.var 17)), (.sl 9 (.var 18) (.var 19))]), (3, []), (69, [(.sl 6 (.var 12) (.var 13)), (.int .i64 (.var 3)), (.val 0)]), (33, [(.int .i64 (.var 6)), (.int .i64 (.var 7)), (.int .i64 (.var 8)), (.int .i64 (.var 9)), (.int .i64 (.var 10))])], ⟨11, 3, 1, 20, 10⟩⟩ (.br (.var 2) (.again 11 ⟨[(.op .add .i64 (.var 4) (.lit 1)), (.var 5)], [], [], [(.var 14), (.var 15), (.var 16), (.var 17), (.var 18), (.var 19)], [(.var 7), (.var 8), (.var 9)]⟩ ⟨[(43, [(.sl 7 (.var 14) (.var 15)), (.int .i64 (.var 5)), (.sl 8 (.var 16) (.var 17)), (.sl 9 (.var 18) (.var 19))]), (3, []), (69, [(.sl 6 (.var 12) (.var 13)), (.int .i64 (.var 3)), (.val 0)]), (33, [(.int .i64 (.var 6)), (.int .i64 (.var 7)), (.int .i64 (.var 8)), (.int .i64 (.var 9)), (.int .i64 (.var 10))])], ⟨11, 3, 1, 20, 10⟩⟩) (.join 25 ⟨[(43, [(.sl 7 (.var 14) (.var 15)), (.int .i64 (.var 5)), (.sl 8 (.var 16) (.var 17)), (.sl 9 (.var 18) (.var 19))]), (3, []), (69, [(.sl 6 (.var 12) (.var 13)), (.int .i64 (.var 3)), (.val 0)]), (33, [(.int .i64 (.var 6)), (.int .i64 (.var 7)), (.int .i64 (.var 8)), (.int .i64 (.var 9)), (.int .i64 (.var 10))])], ⟨11, 3, 1, 20, 10⟩⟩ ⟨[(43, [(.sl 10 (.var 20) (.var 21)), (.int .i64 (.var 11)), (.sl 11 (.var 22) (.var 23)), (.sl 12 (.var 24) (.var 25))]), (3, []), (69, [(.sl 6 (.var 12) (.var 13)), (.int .i64 (.var 3)), (.val 0)]), (33, [(.int .i64 (.var 6)), (.int .i64 (.var 7)), (.int .i64 (.var 8)), (.int .i64 (.var 9)), (.int .i64 (.var 10))])], ⟨12, 3, 1, 26, 13⟩⟩ (.br (.cmp .eql (.var 6) (.lit 2)) (.call 21 [(.agg [(.sl 7 (.var 14) (.var 15)), (.int .i64 (.var 5)), (.sl 8 (.var 16) (.var 17)), (.sl 9 (.var 18) (.var 19))]), (.lf (.int .i64 (.var 9))), (.lf (.int .i64 (.var 10)))] ⟨[(43, [(.sl 7 (.var 14) (.var 15)), (.int .i64 (.var 5)), (.sl 8 (.var 16) (.var 17)), (.sl 9 (.var 18) (.var 19))]), (3, []), (69, [(.sl 6 (.var 12) (.var 13)), (.int .i64 (.var 3)), (.val 0)]), (33, [(.int .i64 (.var 6)), (.int .i64 (.var 7)), (.int .i64 (.var 8)), (.int .i64 (.var 9)), (.int .i64 (.var 10))])], ⟨11, 3, 1, 20, 10⟩⟩ (.tup [(.true, [(.sl 10 (.var 20) (.var 21)), (.int .i64 (.var 11)), (.sl 11 (.var 22) (.var 23)), (.sl 12 (.var 24) (.var 25))]), (.false, [(.bool (.var 3))])]) ⟨[(43, [(.sl 7 (.var 14) (.var 15)), (.int .i64 (.var 5)), (.sl 8 (.var 16) (.var 17)), (.sl 9 (.var 18) (.var 19))]), (3, []), (69, [(.sl 6 (.var 12) (.var 13)), (.int .i64 (.var 3)), (.val 0)]), (33, [(.int .i64 (.var 6)), (.int .i64 (.var 7)), (.int .i64 (.var 8)), (.int .i64 (.var 9)), (.int .i64 (.var 10))])], ⟨12, 4, 1, 26, 13⟩⟩ (.call 20 [(.lf (.ptr 2 0)), (.lf (.int .i64 (.var 9))), (.lf (.int .i64 (.var 10)))] ⟨[(43, [(.sl 10 (.var 20) (.var 21)), (.int .i64 (.var 11)), (.sl 11 (.var 22) (.var 23)), (.sl 12 (.var 24) (.var 25))]), (3, []), (69, [(.sl 6 (.var 12) (.var 13)), (.int .i64 (.var 3)), (.val 0)]), (33, [(.int .i64 (.var 6)), (.int .i64 (.var 7)), (.int .i64 (.var 8)), (.int .i64 (.var 9)), (.int .i64 (.var 10))]), (43, [(.sl 10 (.var 20) (.var 21)), (.int .i64 (.var 11)), (.sl 11 (.var 22) (.var 23)), (.sl 12 (.var 24) (.var 25))])], ⟨12, 4, 1, 26, 13⟩⟩ (.lf (.bool (.var 4))) ⟨[(43, [(.sl 10 (.var 20) (.var 21)), (.int .i64 (.var 11)), (.sl 11 (.var 22) (.var 23)), (.sl 12 (.var 24) (.var 25))]), (3, []), (69, [(.sl 6 (.var 12) (.var 13)), (.int .i64 (.var 3)), (.val 0)]), (33, [(.int .i64 (.var 6)), (.int .i64 (.var 7)), (.int .i64 (.var 8)), (.int .i64 (.var 9)), (.int .i64 (.var 10))]), (43, [(.sl 10 (.var 20) (.var 21)), (.int .i64 (.var 11)), (.sl 11 (.var 22) (.var 23)), (.sl 12 (.var 24) (.var 25))])], ⟨12, 5, 1, 26, 13⟩⟩ (.br (.not (.eqb (.var 4) (.var 3))) (.done (.lf (.bool (.lit .false))) ⟨[(43, [(.sl 10 (.var 20) (.var 21)), (.int .i64 (.var 11)), (.sl 11 (.var 22) (.var 23)), (.sl 12 (.var 24) (.var 25))]), (3, []), (69, [(.sl 6 (.var 12) (.var 13)), (.int .i64 (.var 3)), (.val 0)]), (33, [(.int .i64 (.var 6)), (.int .i64 (.var 7)), (.int .i64 (.var 8)), (.int .i64 (.var 9)), (.int .i64 (.var 10))]), (43, [(.sl 10 (.var 20) (.var 21)), (.int .i64 (.var 11)), (.sl 11 (.var 22) (.var 23)), (.sl 12 (.var 24) (.var 25))])], ⟨12, 5, 1, 26, 13⟩⟩) (.again 25 ⟨[(.var 11)], [], [], [(.var 20), (.var 21), (.var 22), (.var 23), (.var 24), (.var 25)], [(.var 10), (.var 11), (.var 12)]⟩ ⟨[(43, [(.sl 10 (.var 20) (.var 21)), (.int .i64 (.var 11)), (.sl 11 (.var 22) (.var 23)), (.sl 12 (.var 24) (.var 25))]), (3, []), (69, [(.sl 6 (.var 12) (.var 13)), (.int .i64 (.var 3)), (.val 0)]), (33, [(.int .i64 (.var 6)), (.int .i64 (.var 7)), (.int .i64 (.var 8)), (.int .i64 (.var 9)), (.int .i64 (.var 10))]), (43, [(.sl 10 (.var 20) (.var 21)), (.int .i64 (.var 11)), (.sl 11 (.var 22) (.var 23)), (.sl 12 (.var 24) (.var 25))])], ⟨12, 5, 1, 26, 13⟩⟩)))) (.br (.cmp .eql (.var 6) (.lit 4)) (.call 18 [(.lf (.ptr 2 0))] ⟨[(43, [(.sl 7 (.var 14) (.var 15)), (.int .i64 (.var 5)), (.sl 8 (.var 16) (.var 17)), (.sl 9 (.var 18) (.var 19))]), (3, []), (69, [(.sl 6 (.var 12) (.var 13)), (.int .i64 (.var 3)), (.val 0)]), (33, [(.int .i64 (.var 6)), (.int .i64 (.var 7)), (.int .i64 (.var 8)), (.int .i64 (.var 9)), (.int .i64 (.var 10))])], ⟨11, 3, 1, 20, 10⟩⟩ (.tup []) ⟨[(43, [(.sl 7 (.var 14) (.var 15)), (.int .i64 (.var 5)), (.sl 8 (.var 16) (.var 17)), (.sl 9 (.var 18) (.var 19))]), (3, []), (69, [(.sl 6 (.var 12) (.var 13)), (.int .i64 (.var 3)), (.val 0)]), (33, [(.int .i64 (.var 6)), (.int .i64 (.var 7)), (.int .i64 (.var 8)), (.int .i64 (.var 9)), (.int .i64 (.var 10))])], ⟨11, 3, 1, 20, 10⟩⟩ (.again 25 ⟨[(.var 5)], [], [], [(.var 14), (.var 15), (.lit 0), (.lit 0), (.lit 0), (.lit 0)], [(.var 7), .nil, .nil]⟩ ⟨[(43, [(.sl 7 (.var 14) (.var 15)), (.int .i64 (.var 5)), .nilsl, .nilsl]), (3, []), (69, [(.sl 6 (.var 12) (.var 13)), (.int .i64 (.var 3)), (.val 0)]), (33, [(.int .i64 (.var 6)), (.int .i64 (.var 7)), (.int .i64 (.var 8)), (.int .i64 (.var 9)), (.int .i64 (.var 10))])], ⟨11, 3, 1, 20, 10⟩⟩)) (.again 25 ⟨[(.var 5)], [], [], [(.var 14), (.var 15), (.var 16), (.var 17), (.var 18), (.var 19)], [(.var 7), (.var 8), (.var 9)]⟩ ⟨[(43, [(.sl 7 (.var 14) (.var 15)), (.int .i64 (.var 5)), (.sl 8 (.var 16) (.var 17)), (.sl 9 (.var 18) (.var 19))]), (3, []), (69, [(.sl 6 (.var 12) (.var 13)), (.int .i64 (.var 3)), (.val 0)]), (33, [(.int .i64 (.var 6)), (.int .i64 (.var 7)), (.int .i64 (.var 8)), (.int .i64 (.var 9)), (.int .i64 (.var 10))])], ⟨11, 3, 1, 20, 10⟩⟩))) (.call 19 [(.lf (.ptr 2 0)), (.lf (.int .i64 (.var 10)))] ⟨[(43, [(.sl 10 (.var 20) (.var 21)), (.int .i64 (.var 11)), (.sl 11 (.var 22) (.var 23)), (.sl 12 (.var 24) (.var 25))]), (3, []), (69, [(.sl 6 (.var 12) (.var 13)), (.int .i64 (.var 3)), (.val 0)]), (33, [(.int .i64 (.var 6)), (.int .i64 (.var 7)), (.int .i64 (.var 8)), (.int .i64 (.var 9)), (.int .i64 (.var 10))])], ⟨12, 3, 1, 26, 13⟩⟩ (.lf (.bool (.var 3))) ⟨[(43, [(.sl 10 (.var 20) (.var 21)), (.int .i64 (.var 11)), (.sl 11 (.var 22) (.var 23)), (.sl 12 (.var 24) (.var 25))]), (3, []), (69, [(.sl 6 (.var 12) (.var 13)), (.int .i64 (.var 3)), (.val 0)]), (33, [(.int .i64 (.var 6)), (.int .i64 (.var 7)), (.int .i64 (.var 8)), (.int .i64 (.var 9)), (.int .i64 (.var 10))])], ⟨12, 4, 1, 26, 13⟩⟩ (.call 22 [(.agg [(.sl 10 (.var 20) (.var 21)), (.int .i64 (.var 11)), (.sl 11 (.var 22) (.var 23)), (.sl 12 (.var 24) (.var 25))]), (.lf (.int .i64 (.var 10)))] ⟨[(43, [(.sl 10 (.var 20) (.var 21)), (.int .i64 (.var 11)), (.sl 11 (.var 22) (.var 23)), (.sl 12 (.var 24) (.var 25))]), (3, []), (69, [(.sl 6 (.var 12) (.var 13)), (.int .i64 (.var 3)), (.val 0)]), (33, [(.int .i64 (.var 6)), (.int .i64 (.var 7)), (.int .i64 (.var 8)), (.int .i64 (.var 9)), (.int .i64 (.var 10))])], ⟨12, 4, 1, 26, 13⟩⟩ (.lf (.bool (.var 4))) ⟨[(43, [(.sl 10 (.var 20) (.var 21)), (.int .i64 (.var 11)), (.sl 11 (.var 22) (.var 23)), (.sl 12 (.var 24) (.var 25))]), (3, []), (69, [(.sl 6 (.var 12) (.var 13)), (.int .i64 (.var 3)), (.val 0)]), (33, [(.int .i64 (.var 6)), (.int .i64 (.var 7)), (.int .i64 (.var 8)), (.int .i64 (.var 9)), (.int .i64 (.var 10))])], ⟨12, 5, 1, 26, 13⟩⟩ (.br (.not (.eqb (.var 3) (.var 4))) (.done (.lf (.bool (.lit .false))) ⟨[(43, [(.sl 10 (.var 20) (.var 21)), (.int .i64 (.var 11)), (.sl 11 (.var 22) (.var 23)), (.sl 12 (.var 24) (.var 25))]), (3, []), (69, [(.sl 6 (.var 12) (.var 13)), (.int .i64 (.var 3)), (.val 0)]), (33, [(.int .i64 (.var 6)), (.int .i64 (.var 7)), (.int .i64 (.var 8)), (.int .i64 (.var 9)), (.int .i64 (.var 10))])], ⟨12, 5, 1, 26, 13⟩⟩) (.again 11 ⟨[(.op .add .i64 (.var 4) (.lit 1)), (.var 11)], [], [], [(.var 20), (.var 21), (.var 22), (.var 23), (.var 24), (.var 25)], [(.var 10), (.var 11), (.var 12)]⟩ ⟨[(43, [(.sl 10 (.var 20) (.var 21)), (.int .i64 (.var 11)), (.sl 11 (.var 22) (.var 23)), (.sl 12 (.var 24) (.var 25))]), (3, []), (69, [(.sl 6 (.var 12) (.var 13)), (.int .i64 (.var 3)), (.val 0)]), (33, [(.int .i64 (.var 6)), (.int .i64 (.var 7)), (.int .i64 (.var 8)), (.int .i64 (.var 9)), (.int .i64 (.var 10))])], ⟨12, 5, 1, 26, 13⟩⟩))))))))) (.done (.lf (.bool (.lit .true))) ⟨[(43, [(.sl 7 (.var 14) (.var 15)), (.int .i64 (.var 5)), (.sl 8 (.var 16) (.var 17)), (.sl 9 (.var 18) (.var 19))]), (3, []), (69, [(.sl 6 (.var 12) (.var 13)), (.int .i64 (.var 3)), (.val 0)])], ⟨6, 2, 1, 20, 10⟩⟩)) (.done (.lf (.bool (.lit .true))) ⟨[(43, [(.sl 7 (.var 14) (.var 15)), (.int .i64 (.var 5)), (.sl 8 (.var 16) (.var 17)), (.sl 9 (.var 18) (.var 19))]), (3, []), (69, [(.sl 6 (.var 12) (.var 13)), (.int .i64 (.var 3)), (.val 0)])], ⟨6, 2, 1, 20, 10⟩⟩))))))))) := by kernel_rfl
set_option maxRecDepth 100000 in
theorem tLH0 : (runF ⟨tt, fns, {ret := [(17, .one (.lf (.is .nilp)))]}⟩ (Try.f5.body.getD .skip) Try.f5.results.toList (entry Try.f5.ntmps [.lf (.sl 0 (.var 0) (.var 1)), .lf (.int .i64 (.var 0)), .lf (.int .i64 (.var 1)), .lf (.sl 1 (.var 2) (.var 3))] [] ⟨2, 0, 0, 4, 2⟩)) =
  (.call 7 [] ⟨[], ⟨2, 0, 0, 4, 2⟩⟩ (.lf (.bool (.var 0))) ⟨[], ⟨2, 1, 0, 4, 2⟩⟩ (.br (.not (.var 0)) (.done (.lf (.bool (.lit .false))) ⟨[], ⟨2, 1, 0, 4, 2⟩⟩) (.call 16 [(.lf (.sl 0 (.var 0) (.var 1))), (.lf (.int .i64 (.var 0))), (.lf (.int .i64 (.var 1)))] ⟨[], ⟨2, 1, 0, 4, 2⟩⟩ (.tup [(.true, [(.sl 2 (.var 4) (.var 5)), (.int .i64 (.var 2)), (.sl 3 (.var 6) (.var 7)), (.sl 4 (.var 8) (.var 9))]), (.false, [(.bool (.var 1))])]) ⟨[], ⟨3, 2, 0, 10, 5⟩⟩ (.gen (.call ⟨(.builtin .append), #[(.tmp 25), (.tmp 26)], #[41, 41]⟩) 41 [(25, (.lf (.nsl 1 0 0 0))), (26, (.lf (.sl 0 (.var 0) (.var 1))))] ⟨[(43, [(.sl 2 (.var 4) (.var 5)), (.int .i64 (.var 2)), (.sl 3 (.var 6) (.var 7)), (.sl 4 (.var 8) (.var 9))]), (3, [])], ⟨3, 2, 0, 10, 5⟩⟩ (.some (.lf (.sl 5 (.var 10) (.var 11)))) ⟨[(43, [(.sl 2 (.var 4) (.var 5)), (.int .i64 (.var 2)), (.sl 3 (.var 6) (.var 7)), (.sl 4 (.var 8) (.var 9))]), (3, [])], ⟨3, 2, 0, 12, 6⟩⟩ (.call 17 [(.lf (.sl 5 (.var 10) (.var 11))), (.lf (.int .i64 (.var 0))), (.lf (.int .i64 (.var 1)))] ⟨[(43, [(.sl 2 (.var 4) (.var 5)), (.int .i64 (.var 2)), (.sl 3 (.var 6) (.var 7)), (.sl 4 (.var 8) (.var 9))]), (3, [])], ⟨3, 2, 0, 12, 6⟩⟩ (.lf .nilp) ⟨[(43, [(.sl 2 (.var 4) (.var 5)), (.int .i64 (.var 2)), (.sl 3 (.var 6) (.var 7)), (.sl 4 (.var 8) (.var 9))]), (3, [])], ⟨3, 2, 0, 12, 6⟩⟩ (.br (.var 1) (.done (.lf (.bool (.lit .false))) ⟨[(43, [(.sl 2 (.var 4) (.var 5)), (.int .i64 (.var 2)), (.sl 3 (.var 6) (.var 7)), (.sl 4 (.var 8) (.var 9))]), (3, [])], ⟨3, 2, 0, 12, 6⟩⟩) (.call 18 [(.lf .nilp)] ⟨[(43, [(.sl 2 (.var 4) (.var 5)), (.int .i64 (.var 2)), (.sl 3 (.var 6) (.var 7)), (.sl 4 (.var 8) (.var 9))]), (3, [])], ⟨3, 2, 0, 12, 6⟩⟩ (.tup []) ⟨[(43, [(.sl 2 (.var 4) (.var 5)), (.int .i64 (.var 2)), (.sl 3 (.var 6) (.var 7)), (.sl 4 (.var 8) (.var 9))]), (3, [])], ⟨3, 2, 0, 12, 6⟩⟩ (.call 19 [(.lf .nilp), (.lf (.int .i64 (.lit 0)))] ⟨[(43, [(.sl 2 (.var 4) (.var 5)), (.int .i64 (.var 2)), (.sl 3 (.var 6) (.var 7)), (.sl 4 (.var 8) (.var 9))]), (3, [])], ⟨3, 2, 0, 12, 6⟩⟩ (.lf (.bool (.var 2))) ⟨[(43, [(.sl 2 (.var 4) (.var 5)), (.int .i64 (.var 2)), (.sl 3 (.var 6) (.var 7)), (.sl 4 (.var 8) (.var 9))]), (3, [])], ⟨3, 3, 0, 12, 6⟩⟩ (.br (.not (.var 2)) (.call 20 [(.lf .nilp), (.lf (.int .i64 (.lit 1))), (.lf (.int .i64 (.lit 0)))] ⟨[(43, [(.sl 2 (.var 4) (.var 5)), (.int .i64 (.var 2)), (.sl 3 (.var 6) (.var 7)), (.sl 4 (.var 8) (.var 9))]), (3, [])], ⟨3, 3, 0, 12, 6⟩⟩ (.lf (.bool (.var 3))) ⟨[(43, [(.sl 2 (.var 4) (.var 5)), (.int .i64 (.var 2)), (.sl 3 (.var 6) (.var 7)), (.sl 4 (.var 8) (.var 9))]), (3, [])], ⟨3, 4, 0, 12, 6⟩⟩ (.done (.lf (.bool (.not (.var 3)))) ⟨[(43, [(.sl 2 (.var 4) (.var 5)), (.int .i64 (.var 2)), (.sl 3 (.var 6) (.var 7)), (.sl 4 (.var 8) (.var 9))]), (3, [])], ⟨3, 4, 0, 12, 6⟩⟩)) (.done (.lf (.bool (.lit .false))) ⟨[(43, [(.sl 2 (.var 4) (.var 5)), (.int .i64 (.var 2)), (.sl 3 (.var 6) (.var 7)), (.sl 4 (.var 8) (.var 9))]), (3, [])], ⟨3, 3, 0, 12, 6⟩⟩)))))))))) := by kernel_rfl
def pairHX (an ats : Option Addr) (ps : List (Int × Int)) : HX := (HX.ints an (ps.map Prod.fst)).and (HX.ints ats (ps.map Prod.snd))
section
variable {W : World} {M : Nat → Prop} {R : Ending → World → Prop} {ρ : Env} {pre : List Nat} {rest : HX} {L : Stack} {m m' : Mem} {args : List SV} {r : SV} {t : Tree}
variable {a : Option Addr} {cap : Nat} {ms : List Int} {hold : Int} {bm : Nat} {mm : List (Int × Int)} {cs : List LV}
theorem node_hclear (n : Nat) (hargs : ∀ ids, (args.map (SV.den ρ ids)).toArray = #[.pointer (some ⟨idAt ids n, 0, none⟩)]) (hn : m.hp[n]? = some (69, cs)) (hcs : ∀ ids, cellsDen ρ ids cs = [.slice a ms.length cap, .int .i64 hold, .map (some bm)]) (hab : blk a ≠ bm)
    (hrest : ¬ rest.F bm) (hW : W.heap.size ≤ bm ∨ M bm) (hr : ∀ ids, r.den (ρ.add Vals.nil) ids = .tuple #[]) (hhp : m'.hp = m.hp) (hfit : hpFits m.c m.hp.length m.hp = true) (hc : (ρ.add Vals.nil).cnt = m'.c)
    (h : t.holds ⟨Try.prog, W, M, R⟩ (ρ.add Vals.nil) pre (rest.and (holdHX a ms bm [])) L) : (Tree.call 18 args m r m' t).holds ⟨Try.prog, W, M, R⟩ ρ pre (rest.and (holdHX a ms bm mm)) L := by
  intro ids w hp hf
  rw [hargs]
  refine (hclear_any _ a cap ms hold bm mm w (hold_at n hf hn hcs hab)).mono ?_
  rintro e w' ⟨rfl, hA, hg⟩
  refine ⟨_, ids, _, by rw [← hr ids], List.prefix_refl _, hf.turn (hx' := rest.and (holdHX a ms bm [])) hg (fun b e => by cases e; exact ⟨.inr (.inr rfl), hW⟩) ⟨rest.loc w w' hf.x.1 fun k hk => hg.block k (hf.sep k (.inl hk)).1 fun e => hrest (by cases e; exact hk), hA.ints, hA.imap⟩ (fun k hk => .inl hk) hhp hfit hc oneNil, holds_pre t hp h⟩
variable {am : Option Addr} {cm : Nat} {an ats : Option Addr} {cn ct : Nat} {ps : List (Int × Int)}
theorem node_rhgr (node asked : Int) (hm : hasB ms node = true) (hl : ps.length ≤ 1000) (hno : I64 node) (has : I64 asked) (hbm : rest.F bm)
    (hargs : ∀ ids, (args.map (SV.den ρ ids)).toArray = #[.agg #[.slice am ms.length cm, .int .i64 hold, .slice an ps.length cn, .slice ats ps.length ct], .int .i64 node, .int .i64 asked]) (hM : ∀ w, rest.X w → Ints w am ms)
    (hr : ∀ an' cn' ats' ct' ids, r.den (ρ.add ⟨[hold], [true], [], [ms.length, cm, (ps ++ [(node, asked)]).length, cn', (ps ++ [(node, asked)]).length, ct'], [am, an', ats']⟩) ids = .tuple #[.agg #[.slice am ms.length cm, .int .i64 hold, .slice an' (ps ++ [(node, asked)]).length cn', .slice ats' (ps ++ [(node, asked)]).length ct'], .bool true])
    (hhp : m'.hp = m.hp) (hfit : hpFits m.c m.hp.length m.hp = true) (hc : ∀ an' cn' ats' ct', (ρ.add ⟨[hold], [true], [], [ms.length, cm, (ps ++ [(node, asked)]).length, cn', (ps ++ [(node, asked)]).length, ct'], [am, an', ats']⟩).cnt = m'.c)
    (h : ∀ an' cn' ats' ct', ¬ (pairHX an' ats' (ps ++ [(node, asked)])).F bm → t.holds ⟨Try.prog, W, M, R⟩ (ρ.add ⟨[hold], [true], [], [ms.length, cm, (ps ++ [(node, asked)]).length, cn', (ps ++ [(node, asked)]).length, ct'], [am, an', ats']⟩) pre (rest.and (pairHX an' ats' (ps ++ [(node, asked)]))) L) :
    (Tree.call 21 args m r m' t).holds ⟨Try.prog, W, M, R⟩ ρ pre (rest.and (pairHX an ats ps)) L := by
  intro ids w hp hf
  rw [hargs]
  refine (rhgranted_yes am cm ms hold an cn ats ct ps node asked w (hM w hf.x.1) ⟨hf.x.2.1, hf.x.2.2⟩ hl hno has hm).mono ?_
  rintro e w' ⟨an', cn', ats', ct', rfl, hP, b1, b2, hbel⟩
  have hg : w.grownBy w' none := ⟨hbel.os, hbel.tape, hbel.output, hbel.size, fun k hk _ => hbel.block k hk⟩
  have hbm2 := (hf.sep bm (.inl hbm)).1
  have new : ∀ k, (pairHX an' ats' (ps ++ [(node, asked)])).F k → w.heap.size ≤ k ∧ k < w'.heap.size := fun k hk => by
    rcases hk with hk | hk
    · have := ints_sep hP.1 k hk
      obtain ⟨_, rfl⟩ := hk
      exact ⟨b1, this⟩
    · have := ints_sep hP.2 k hk
      obtain ⟨_, rfl⟩ := hk
      exact ⟨b2, this⟩
  refine ⟨_, ids, _, by rw [← hr an' cn' ats' ct' ids], List.prefix_refl _, hf.turn (hx' := rest.and (pairHX an' ats' (ps ++ [(node, asked)]))) hg (fun b e => by cases e) ⟨rest.loc w w' hf.x.1 fun k hk => hbel.block k (hf.sep k (.inl hk)).1, hP.1, hP.2⟩ (fun k hk => ?_) hhp hfit (hc _ _ _ _) oneNil, holds_pre t hp (h an' cn' ats' ct' (fun hF => by have := (new bm hF).1; omega))⟩
  rcases hk with hk | hk
  · exact .inl (.inl hk)
  · exact .inr (new k hk)
end
def entOk (ps : List (Int × Int)) : Prop := ∀ p ∈ ps, I64 p.1 ∧ Near p.2
/-- Both holders behind k steps. -/
structure HSide (k : Nat) (mm ps : List (Int × Int)) : Prop where
  rel : Rel mm ps
  l1 : mm.length ≤ k
  l2 : ps.length ≤ k
  ok : entOk ps
theorem HSide.mok {k : Nat} {mm ps : List (Int × Int)} (h : HSide k mm ps) : ∀ p ∈ mm, I64 p.1 ∧ I64 p.2 := fun p hp => by
  have := ((h.rel p.1 p.2).1 hp).1
  obtain ⟨h1, h2⟩ := h.ok _ this
  unfold Near at h2
  exact ⟨h1, by unfold I64; simp only at h2; omega⟩
theorem HSide.up {k : Nat} {mm ps : List (Int × Int)} (h : HSide k mm ps) : HSide (k + 1) mm ps := ⟨h.rel, by have := h.l1; omega, by have := h.l2; omega, h.ok⟩
theorem HSide.grant {k : Nat} {mm ps : List (Int × Int)} (h : HSide k mm ps) {ms : List Int} {n t : Int} (hm : hasB ms n = true) (hn : I64 n) (ht : Near t) : HSide (k + 1) (hgrantV ms mm n t) (ps ++ [(n, t)]) := by
  refine ⟨h.rel.grant hm, ?_, ?_, fun p hp => ?_⟩
  · have := hgrantV_len ms mm n t; have := h.l1; omega
  · have := h.l2; simp; omega
  · rcases List.mem_append.1 hp with hp | hp
    · exact h.ok p hp
    · simp only [List.mem_singleton] at hp; subst hp; exact ⟨hn, ht⟩
section
variable (am : Option Addr) (cm : Nat) (ms : List Int) (hold : Int) (a : Option Addr) (bm : Nat)
def HoI (n : Nat) (vs : Vals) (hx : HX) : Prop :=
  ∃ (an : Option Addr) (cn : Nat) (ats : Option Addr) (ct : Nat) (mm ps : List (Int × Int)) (k : Nat), k ≤ n ∧ k ≤ 60 ∧ HSide k mm ps ∧ ¬ (pairHX an ats ps).F bm ∧
    vs = ⟨[(k : Int), hold], [], [], [ms.length, cm, ps.length, cn, ps.length, ct], [am, an, ats]⟩ ∧ hx = ((HX.ints am ms).and (pairHX an ats ps)).and (holdHX a ms bm mm)
def HoJ (k : Nat) (vs : Vals) (hx : HX) : Prop :=
  ∃ (an : Option Addr) (cn : Nat) (ats : Option Addr) (ct : Nat) (mm ps : List (Int × Int)), HSide (k + 1) mm ps ∧ ¬ (pairHX an ats ps).F bm ∧
    vs = ⟨[hold], [], [], [ms.length, cm, ps.length, cn, ps.length, ct], [am, an, ats]⟩ ∧ hx = ((HX.ints am ms).and (pairHX an ats ps)).and (holdHX a ms bm mm)
end
section
variable {W : World} {M : Nat → Prop} {R : Ending → World → Prop} {ρ : Env} {pre : List Nat} {hx : HX} {L : Stack} {m m' : Mem} {args : List SV} {r : SV} {t : Tree}
theorem node_rhnew (a0 : Option Addr) (cap : Nat) (ms : List Int) (len rho : Int) (hM : ∀ w, hx.X w → Ints w a0 ms) (hb : ms.length * 8 ≤ 140737488351232) (hargs : ∀ ids, (args.map (SV.den ρ ids)).toArray = #[.slice a0 ms.length cap, .int .i64 len, .int .i64 rho])
    (hr : ∀ a1 c1 ids, r.den (ρ.add ⟨[holdV len rho], [setOkB ms], [], [ms.length, c1, 0, 0, 0, 0], [a1, none, none]⟩) ids = .tuple #[.agg #[.slice a1 ms.length c1, .int .i64 (holdV len rho), .slice none 0 0, .slice none 0 0], .bool (setOkB ms)])
    (hhp : m'.hp = m.hp) (hfit : hpFits m.c m.hp.length m.hp = true) (hc : ∀ a1 c1, (ρ.add ⟨[holdV len rho], [setOkB ms], [], [ms.length, c1, 0, 0, 0, 0], [a1, none, none]⟩).cnt = m'.c)
    (h : ∀ a1 c1, t.holds ⟨Try.prog, W, M, R⟩ (ρ.add ⟨[holdV len rho], [setOkB ms], [], [ms.length, c1, 0, 0, 0, 0], [a1, none, none]⟩) pre (hx.and (HX.ints a1 ms)) L) :
    (Tree.call 16 args m r m' t).holds ⟨Try.prog, W, M, R⟩ ρ pre hx L := by
  intro ids w hp hf
  rw [hargs]
  refine (rhnew_any a0 cap ms len rho w (hM w hf.x) hb).mono ?_
  rintro e w' ⟨a1, c1, rfl, hI, hge, hbel⟩
  have hg : w.grownBy w' none := ⟨hbel.os, hbel.tape, hbel.output, hbel.size, fun k hk _ => hbel.block k hk⟩
  refine ⟨_, ids, _, by rw [← hr a1 c1 ids], List.prefix_refl _, hf.turn (hx' := hx.and (HX.ints a1 ms)) hg (fun b e => by cases e) ⟨hx.loc w w' hf.x fun k hk => hbel.block k (hf.sep k hk).1, hI⟩ (fun k hk => ?_) hhp hfit (hc _ _) oneNil, holds_pre t hp (h a1 c1)⟩
  rcases hk with hk | hk
  · exact .inl hk
  · refine .inr ⟨?_, ints_sep hI k hk⟩
    obtain ⟨h1, rfl⟩ := hk
    exact hge h1
end
set_option maxHeartbeats 4000000 in
set_option maxRecDepth 100000 in
theorem holds_yes (a0 : Option Addr) (cap : Nat) (ms : List Int) (len rho : Int) (ao : Option Addr) (capo : Nat) (os : List LOp) (w : World) (H : Ints w a0 ms) (hb : ms.length * 8 ≤ 140737488351232) (hs : setOkB ms = true) (hok : ∀ o ∈ os, o.ok) (hC : Cells w ao (Dat.cellsAll (os.map LOp.dat))) (hl : os.length ≤ 9223372036854775807) :
    Calls Try.prog 5 #[.slice a0 ms.length cap, .int .i64 len, .int .i64 rho, .slice ao os.length capo] w (PureAt w (.bool true)) := by
  refine calls_at (tab_ok _) Try.func5 rfl tLH (ρ := ⟨[len, rho], [], [], [ms.length, cap, os.length, capo], [a0, ao]⟩) (ids := []) (hx := HX.ints a0 ms) rfl (Facts.initq rfl oneNil H (ints_sep H)) ?_
  have hml := H.len
  refine node_val ⟨[], [true], [], [], []⟩ (fun w => lhead_any w) (fun _ => rfl) (fun _ => rfl) rfl rfl rfl oneNil ?_
  refine br_f rfl ?_
  refine node_rhnew a0 cap ms len rho (fun w h => h) hb (fun _ => rfl) (fun _ _ _ => rfl) rfl rfl (fun _ _ => rfl) ?_
  intro am cm
  refine node_clone (xs := ms.map (Value.int .i64)) rfl Try.underlying41 info_int rfl 1 rfl (fun _ => a0) cap (fun ids w2 hp hf => hf.x.1.cells) (ints_oneCell _ _) (by rw [List.length_map]; unfold maxLen; omega) (by rw [List.length_map]; omega) (fun _ => rfl) (fun _ => by rw [List.length_map]; rfl) (fun _ _ _ => rfl) rfl rfl (fun _ _ => rfl) ?_
  rw [List.length_map]
  intro a5 c5 d5
  refine node_hnew (ms := ms) (fun _ => a5) c5 len rho (fun ids w2 hp hf => row_ints hf.x.2 hml H.fits) hs (fun _ => rfl) rfl (fun _ _ _ _ => rfl) rfl rfl (fun _ _ _ => rfl) ?_
  intro a' cap' bm hbW hnb hab
  rw [hs]
  refine br_f rfl ?_
  have d0 : ¬ (HX.ints am ms).F bm := fun h => hnb (.inl (.inr h))
  refine loop_i (HoI am cm ms (holdV len rho) a' bm os.length) (fun vs => os.length - (vs.i.headD 0).toNat) (fun ids w2 hp hf => ⟨((HX.ints am ms).and (pairHX none none [])).and (holdHX a' ms bm []), ⟨⟨⟨hf.x.1.1.2, Ints.nil, Ints.nil⟩, hf.x.2⟩, fun b hbb => ?_⟩, none, 0, none, 0, [], [], 0, by omega, by omega, ⟨Rel.nil, by simp, by simp, fun p hp => by simp at hp⟩, fun h => by rcases h with h | h <;> exact h.1 rfl, rfl, rfl⟩) ?_
  · rcases hbb with (hbb | hbb) | hbb
    · exact hf.sep b (.inl (.inl (.inr hbb)))
    · rcases hbb with hbb | hbb <;> exact absurd rfl hbb.1
    · exact hf.sep b (.inr hbb)
  rintro vs hx' hcnt ⟨an, cn, ats, ct, mm, ps, k, hk1, hk2, hS, dp, rfl, rfl⟩
  have hwk : IntKind.i64.wrap ((k : Int) + 1) = ((k + 1 : Nat) : Int) := by rw [wrap_i64 (by omega)]; omega
  obtain ⟨hv0, hv1⟩ := holdV_in len rho
  by_cases hk : k < os.length
  · refine br_t (show decide ((k : Int) < (os.length : Int)) = true by simpa using hk) ?_
    by_cases hk60 : k < 60
    · refine br_t (show decide ((k : Int) < 60) = true by simp; omega) ?_
      obtain ⟨s, hs2⟩ : ∃ s, os[k]? = some s := ⟨_, List.getElem?_eq_getElem hk⟩
      have hso := hok s (List.mem_of_getElem? hs2)
      obtain ⟨hsome, hcell⟩ := cells_elt hC LOp.len (by decide) hs2
      refine need_i ⟨hsome, (show (0 : Int) ≤ k by omega), (show (k : Int) < os.length by omega)⟩ ?_
      refine ⟨⟨[s.k, s.r, s.n, s.m, s.t], [], [], [], []⟩, fun ids => hcell _ (fun e => e), ⟨rfl, fun v hv => hcnt.one v (by simpa [Env.add] using hv)⟩, ?_⟩
      refine node_val ⟨[], [decide (s.t < -1152921504606846976) || decide (s.t > 1152921504606846976)], [], [], []⟩ (fun w => far_any s.t w) (fun _ => rfl) (fun _ => rfl) rfl rfl rfl oneNil ?_
      have back : ∀ an' cn' ats' ct' (mm' ps' : List (Int × Int)), HSide (k + 1) mm' ps' → ¬ (pairHX an' ats' ps').F bm → ∀ vs, vs = ⟨[IntKind.i64.wrap ((k : Int) + 1), holdV len rho], [], [], [ms.length, cm, ps'.length, cn', ps'.length, ct'], [am, an', ats']⟩ → ∀ (hx' : HX) (w : World) (ids : List Nat) (L : Stack), hx' = ((HX.ints am ms).and (pairHX an' ats' ps')).and (holdHX a' ms bm mm') → HXok hx' w ids →
          ∃ hx'', HXok hx'' w ids ∧ ∃ I, lkup 11 ((11, fun vs' hx'' => HoI am cm ms (holdV len rho) a' bm os.length vs' hx'' ∧ os.length - (vs'.i.headD 0).toNat < os.length - (((⟨[(k : Int), holdV len rho], [], [], [ms.length, cm, ps.length, cn, ps.length, ct], [am, an, ats]⟩ : Vals)).i.headD 0).toNat) :: L) = some I ∧ I vs hx'' := by
        rintro an' cn' ats' ct' mm' ps' g1 g2 vs rfl hx' w ids L rfl hok
        refine ⟨_, hok, _, rfl, ⟨an', cn', ats', ct', mm', ps', k + 1, by omega, by omega, g1, g2, by rw [hwk], rfl⟩, ?_⟩
        show os.length - (IntKind.i64.wrap ((k : Int) + 1)).toNat < os.length - ((k : Int)).toNat
        rw [hwk]; omega
      refine br_i (fun _ ids w hp hf => back _ _ _ _ _ _ hS.up dp _ rfl _ _ _ _ rfl ⟨hf.x, hf.sep⟩) (fun hfar => ?_)
      have ht : Near s.t := by
        simp only [SV.den, LV.den, IE.den, BE.den, NE.den, AE.den, compDen, cellsDen, ifn, cfn, Env.add, List.map_cons, List.map_nil, List.getD_cons_zero, List.getD_cons_succ, List.cons_append, List.nil_append, List.append_nil] at hfar
        simp at hfar
        exact ⟨by omega, by omega⟩
      have hmlen : mm.length ≤ 60 := by have := hS.l1; omega
      have hplen : ps.length ≤ 60 := by have := hS.l2; omega
      have hJ : ∀ an' cn' ats' ct' (mm' ps' : List (Int × Int)), HSide (k + 1) mm' ps' → ¬ (pairHX an' ats' ps').F bm → ∀ vs, vs = ⟨[holdV len rho], [], [], [ms.length, cm, ps'.length, cn', ps'.length, ct'], [am, an', ats']⟩ → ∀ (hx' : HX) (w : World) (ids : List Nat) (L : Stack), hx' = ((HX.ints am ms).and (pairHX an' ats' ps')).and (holdHX a' ms bm mm') → HXok hx' w ids →
          ∃ hx'', HXok hx'' w ids ∧ ∃ I, lkup 25 ((25, HoJ am cm ms (holdV len rho) a' bm k) :: L) = some I ∧ I vs hx'' := by
        rintro an' cn' ats' ct' mm' ps' g1 g2 vs rfl hx' w ids L rfl hok
        exact ⟨_, hok, _, rfl, an', cn', ats', ct', mm', ps', g1, g2, rfl, rfl⟩
      refine ⟨HoJ am cm ms (holdV len rho) a' bm k, ?_, ?_⟩
      · by_cases k2 : s.k = 2
        · refine br_t (show (s.k == 2) = true by simpa using k2) ?_
          rcases Bool.eq_false_or_eq_true (hasB ms s.m) with hm | hm
          · rw [HX.and_right_comm]
            refine node_rhgr s.m s.t hm (by omega) hso.m hso.t (.inr (.inr rfl)) (fun _ => rfl) (fun w h => h.1) (fun _ _ _ _ _ => rfl) rfl rfl (fun _ _ _ _ => rfl) ?_
            intro an' cn' ats' ct' dp'
            rw [HX.and_right_comm]
            refine node_hgranted (hold := holdV len rho) 2 s.m s.t (fun _ => rfl) rfl (fun _ => rfl) hab (fun h => h.elim d0 dp') (.inl hbW) (fun _ => rfl) rfl rfl rfl ?_
            rw [hm]
            refine br_f rfl ?_
            exact fun ids w hp hf => hJ an' cn' ats' ct' _ _ (hS.grant hm hso.m ht) dp' _ rfl _ _ _ _ rfl ⟨hf.x, hf.sep⟩
          · refine node_pure ⟨[holdV len rho], [false], [], [ms.length, cm, ps.length, cn, ps.length, ct], [am, an, ats]⟩ rfl rfl rfl oneNil (fun ids w2 hp hf => rhgranted_no am cm ms _ an cn ats ct ps s.m s.t w2 hf.x.1.1 hm) ?_
            refine node_hgranted (hold := holdV len rho) 2 s.m s.t (fun _ => rfl) rfl (fun _ => rfl) hab (fun h => h.elim d0 dp) (.inl hbW) (fun _ => rfl) rfl rfl rfl ?_
            have e1 : hgrantV ms mm s.m s.t = mm := by unfold hgrantV; rw [if_neg (by rw [hm]; simp)]
            rw [hm, e1]
            refine br_f rfl ?_
            exact fun ids w hp hf => hJ an cn ats ct mm ps hS.up dp _ rfl _ _ _ _ rfl ⟨hf.x, hf.sep⟩
        · refine br_f (show (s.k == 2) = false by simpa using k2) ?_
          by_cases k4 : s.k = 4
          · refine br_t (show (s.k == 4) = true by simpa using k4) ?_
            refine node_hclear (hold := holdV len rho) 2 (fun _ => rfl) rfl (fun _ => rfl) hab (fun h => h.elim d0 dp) (.inl hbW) (fun _ => rfl) rfl rfl rfl ?_
            refine fun ids w hp hf => hJ none 0 none 0 [] [] ⟨Rel.nil, by simp, by simp, fun p hp => by simp at hp⟩ (fun h => by rcases h with h | h <;> exact h.1 rfl) _ rfl _ _ _ _ rfl ⟨⟨⟨hf.x.1.1, Ints.nil, Ints.nil⟩, hf.x.2⟩, fun b hbb => ?_⟩
            rcases hbb with (hbb | hbb) | hbb
            · exact hf.sep b (.inl (.inl hbb))
            · rcases hbb with hbb | hbb <;> exact absurd rfl hbb.1
            · exact hf.sep b (.inr hbb)
          · refine br_f (show (s.k == 4) = false by simpa using k4) ?_
            exact fun ids w hp hf => hJ an cn ats ct mm ps hS.up dp _ rfl _ _ _ _ rfl ⟨hf.x, hf.sep⟩
      · rintro vs hx' hcnt ⟨an', cn', ats', ct', mm', ps', hS', dp', rfl, rfl⟩
        have hmlen' : mm'.length ≤ 61 := by have := hS'.l1; omega
        have hplen' : ps'.length ≤ 61 := by have := hS'.l2; omega
        refine node_hvalid (hold := holdV len rho) 2 s.t (fun _ => rfl) rfl (fun _ => rfl) hab ⟨hv0, by omega⟩ hso.t hS'.mok (by omega) (fun _ => rfl) rfl rfl rfl ?_
        refine node_pure ⟨[], [enoughB ms (standL mm' (holdV len rho) s.t)], [], [], []⟩ rfl rfl rfl oneNil (fun ids w2 hp hf => rhvalid_any am cm ms (holdV len rho) an' cn' ats' ct' ps' s.t _ w2 hf.x.1.1 (by omega) ⟨hf.x.1.2.1, hf.x.1.2.2⟩ (by omega) ⟨hv0, by omega⟩ (fun p hp => (hS'.ok p hp).2) (fun y => hS'.rel.stand _ _ y)) ?_
        refine br_f (show (!(enoughB ms (standL mm' (holdV len rho) s.t) == enoughB ms (standL mm' (holdV len rho) s.t))) = false by simp) ?_
        exact fun ids w hp hf => back _ _ _ _ _ _ hS' dp' _ rfl _ _ _ _ rfl ⟨hf.x, hf.sep⟩
    · exact br_f (show decide ((k : Int) < 60) = false by simp; omega) (pure_done fun _ => rfl)
  · exact br_f (show decide ((k : Int) < (os.length : Int)) = false by simpa using hk) (pure_done fun _ => rfl)
set_option maxRecDepth 100000 in
theorem holds_no (a0 : Option Addr) (cap : Nat) (ms : List Int) (len rho : Int) (ao : Option Addr) (capo n : Nat) (w : World) (H : Ints w a0 ms) (hb : ms.length * 8 ≤ 140737488351232) (hs : setOkB ms = false) :
    Calls Try.prog 5 #[.slice a0 ms.length cap, .int .i64 len, .int .i64 rho, .slice ao n capo] w (PureAt w (.bool true)) := by
  refine calls_at (tab_ok _) Try.func5 rfl tLH0 (ρ := ⟨[len, rho], [], [], [ms.length, cap, n, capo], [a0, ao]⟩) (ids := []) (hx := HX.ints a0 ms) rfl (Facts.initq rfl oneNil H (ints_sep H)) ?_
  have hml := H.len
  refine node_val ⟨[], [true], [], [], []⟩ (fun w => lhead_any w) (fun _ => rfl) (fun _ => rfl) rfl rfl rfl oneNil ?_
  refine br_f rfl ?_
  refine node_rhnew a0 cap ms len rho (fun w h => h) hb (fun _ => rfl) (fun _ _ _ => rfl) rfl rfl (fun _ _ => rfl) ?_
  intro am cm
  refine node_clone (xs := ms.map (Value.int .i64)) rfl Try.underlying41 info_int rfl 1 rfl (fun _ => a0) cap (fun ids w2 hp hf => hf.x.1.cells) (ints_oneCell _ _) (by rw [List.length_map]; unfold maxLen; omega) (by rw [List.length_map]; omega) (fun _ => rfl) (fun _ => by rw [List.length_map]; rfl) (fun _ _ _ => rfl) rfl rfl (fun _ _ => rfl) ?_
  rw [List.length_map]
  intro a5 c5 d5
  refine node_pure Vals.nil rfl rfl rfl oneNil (fun ids w2 hp hf => hnew_no a5 c5 ms len rho w2 (row_ints hf.x.2 hml H.fits) hs) ?_
  rw [hs]
  refine br_f rfl ?_
  refine node_val Vals.nil (fun w => hclear_nil w) (fun _ => rfl) (fun _ => rfl) rfl rfl rfl oneNil ?_
  refine node_val ⟨[], [false], [], [], []⟩ (fun w => hvalid_nil 0 w) (fun _ => rfl) (fun _ => rfl) rfl rfl rfl oneNil ?_
  refine br_t rfl ?_
  exact node_val ⟨[], [false], [], [], []⟩ (fun w => hgranted_nil 1 0 w) (fun _ => rfl) (fun _ => rfl) rfl rfl rfl oneNil (pure_done fun _ => rfl)
theorem holds_args (a0 : Option Addr) (cap : Nat) (ms : List Int) (len rho : Int) (ao : Option Addr) (capo : Nat) (ds : List Dat) (w : World) (H : Ints w a0 ms) (hb : ms.length * 8 ≤ 140737488351232) (i1 : I64 len) (i2 : I64 rho) (hC : Cells w ao (Dat.cellsAll ds)) (hds : ∀ d ∈ ds, d.In Try.prog w 33) (hl : ds.length ≤ 9223372036854775807) (hbb : ds.length * Try.prog.bytesOf 33 ≤ reachBytes) :
    Calls Try.prog 5 #[.slice a0 ms.length cap, .int .i64 len, .int .i64 rho, .slice ao ds.length capo] w fun e w' => e = .returned (.bool true) ∧ Below w.heap.size w w' := by
  obtain ⟨os, rfl, ho⟩ := list_map_of LOp.dat LOp.ok ds (fun d hd => open_lop (hds d hd))
  rw [List.length_map] at hl ⊢
  rcases Bool.eq_false_or_eq_true (setOkB ms) with hs | hs
  · exact holds_yes a0 cap ms len rho ao capo os w H hb hs ho hC hl
  · exact holds_no a0 cap ms len rho ao capo _ w H hb hs
end Go.Proofs.Ytnpjigeljhlomaa
