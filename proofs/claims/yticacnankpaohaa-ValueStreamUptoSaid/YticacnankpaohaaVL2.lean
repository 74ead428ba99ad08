/- value.Same; unlike values have unlike bytes; ValueUnlike. -/
import Derived.Test.YticacnankpaohaaValM
namespace Go.Proofs.Yticacnankpaohaa
open Go.ChangeShapes Go.WideShapes Go.ChangeAt Go.RowKit Go.Syn Go.Eng
set_option linter.unusedVariables false
set_option linter.unusedSimpArgs false
set_option maxRecDepth 100000
set_option maxRecDepth 100000 in
theorem tEqC : (runF ⟨tt, fns, { loops := [(4, ⟨[(13, .int .i64)], []⟩)] }⟩ (Try.f48.body.getD .skip) Try.f48.results.toList (entry Try.f48.ntmps [.lf (.sl 0 (.var 0) (.var 1)), .lf (.sl 1 (.var 2) (.var 3))] [] ⟨0, 0, 0, 4, 2⟩)) =
  (.br (.cmp .neq (.nat 0) (.nat 2)) (.done (.lf (.bool (.lit .false))) ⟨[], ⟨0, 0, 0, 4, 2⟩⟩) (.loop 4 ⟨[(.lit 0)], [], [], [], []⟩ ⟨[], ⟨0, 0, 0, 4, 2⟩⟩ ⟨[], ⟨1, 0, 0, 4, 2⟩⟩ (.br (.cmp .lss (.var 0) (.nat 0)) (.need (.inb 0 (.var 0) (.nat 0)) (.need (.inb 1 (.var 0) (.nat 2)) (.par (.ld .false (.adr 0 (.var 0) 8 0) [(.int .i64 (.var 1)), (.int .i64 (.var 2)), (.int .i64 (.var 3)), (.int .i64 (.var 4)), (.int .i64 (.var 5)), (.int .i64 (.var 6)), (.int .i64 (.var 7)), (.int .i64 (.var 8))] ⟨[], ⟨1, 0, 0, 4, 2⟩⟩ ⟨[], ⟨9, 0, 0, 4, 2⟩⟩ (.ld .false (.adr 1 (.var 0) 8 0) [(.int .i64 (.var 9)), (.int .i64 (.var 10)), (.int .i64 (.var 11)), (.int .i64 (.var 12)), (.int .i64 (.var 13)), (.int .i64 (.var 14)), (.int .i64 (.var 15)), (.int .i64 (.var 16))] ⟨[], ⟨9, 0, 0, 4, 2⟩⟩ ⟨[], ⟨17, 0, 0, 4, 2⟩⟩ (.br (.not (.and (.cmp .eql (.var 1) (.var 9)) (.and (.cmp .eql (.var 2) (.var 10)) (.and (.cmp .eql (.var 3) (.var 11)) (.and (.cmp .eql (.var 4) (.var 12)) (.and (.cmp .eql (.var 5) (.var 13)) (.and (.cmp .eql (.var 6) (.var 14)) (.and (.cmp .eql (.var 7) (.var 15)) (.cmp .eql (.var 8) (.var 16)))))))))) (.done (.lf (.bool (.lit .false))) ⟨[], ⟨17, 0, 0, 4, 2⟩⟩) (.again 4 ⟨[(.op .add .i64 (.var 0) (.lit 1))], [], [], [], []⟩ ⟨[], ⟨17, 0, 0, 4, 2⟩⟩)))) (.ld .false (.adr 1 (.var 0) 8 0) [(.int .i64 (.var 1)), (.int .i64 (.var 2)), (.int .i64 (.var 3)), (.int .i64 (.var 4)), (.int .i64 (.var 5)), (.int .i64 (.var 6)), (.int .i64 (.var 7)), (.int .i64 (.var 8))] ⟨[], ⟨1, 0, 0, 4, 2⟩⟩ ⟨[], ⟨9, 0, 0, 4, 2⟩⟩ (.ld .false (.adr 0 (.var 0) 8 0) [(.int .i64 (.var 9)), (.int .i64 (.var 10)), (.int .i64 (.var 11)), (.int .i64 (.var 12)), (.int .i64 (.var 13)), (.int .i64 (.var 14)), (.int .i64 (.var 15)), (.int .i64 (.var 16))] ⟨[], ⟨9, 0, 0, 4, 2⟩⟩ ⟨[], ⟨17, 0, 0, 4, 2⟩⟩ (.br (.not (.and (.cmp .eql (.var 9) (.var 1)) (.and (.cmp .eql (.var 10) (.var 2)) (.and (.cmp .eql (.var 11) (.var 3)) (.and (.cmp .eql (.var 12) (.var 4)) (.and (.cmp .eql (.var 13) (.var 5)) (.and (.cmp .eql (.var 14) (.var 6)) (.and (.cmp .eql (.var 15) (.var 7)) (.cmp .eql (.var 16) (.var 8)))))))))) (.done (.lf (.bool (.lit .false))) ⟨[], ⟨17, 0, 0, 4, 2⟩⟩) (.again 4 ⟨[(.op .add .i64 (.var 0) (.lit 1))], [], [], [], []⟩ ⟨[], ⟨17, 0, 0, 4, 2⟩⟩))))))) (.done (.lf (.bool (.lit .true))) ⟨[], ⟨1, 0, 0, 4, 2⟩⟩)))) := by kernel_rfl
set_option maxRecDepth 100000 in
theorem tEqN : (runF ⟨tt, fns, { loops := [(4, ⟨[(13, .int .i64)], []⟩)] }⟩ (Try.f49.body.getD .skip) Try.f49.results.toList (entry Try.f49.ntmps [.lf (.sl 0 (.var 0) (.var 1)), .lf (.sl 1 (.var 2) (.var 3))] [] ⟨0, 0, 0, 4, 2⟩)) =
  (.br (.cmp .neq (.nat 0) (.nat 2)) (.done (.lf (.bool (.lit .false))) ⟨[], ⟨0, 0, 0, 4, 2⟩⟩) (.loop 4 ⟨[(.lit 0)], [], [], [], []⟩ ⟨[], ⟨0, 0, 0, 4, 2⟩⟩ ⟨[], ⟨1, 0, 0, 4, 2⟩⟩ (.br (.cmp .lss (.var 0) (.nat 0)) (.need (.inb 0 (.var 0) (.nat 0)) (.need (.inb 1 (.var 0) (.nat 2)) (.par (.ld .false (.adr 0 (.var 0) 1 0) [(.int .i64 (.var 1))] ⟨[], ⟨1, 0, 0, 4, 2⟩⟩ ⟨[], ⟨2, 0, 0, 4, 2⟩⟩ (.ld .false (.adr 1 (.var 0) 1 0) [(.int .i64 (.var 2))] ⟨[], ⟨2, 0, 0, 4, 2⟩⟩ ⟨[], ⟨3, 0, 0, 4, 2⟩⟩ (.br (.cmp .neq (.var 1) (.var 2)) (.done (.lf (.bool (.lit .false))) ⟨[], ⟨3, 0, 0, 4, 2⟩⟩) (.again 4 ⟨[(.op .add .i64 (.var 0) (.lit 1))], [], [], [], []⟩ ⟨[], ⟨3, 0, 0, 4, 2⟩⟩)))) (.ld .false (.adr 1 (.var 0) 1 0) [(.int .i64 (.var 1))] ⟨[], ⟨1, 0, 0, 4, 2⟩⟩ ⟨[], ⟨2, 0, 0, 4, 2⟩⟩ (.ld .false (.adr 0 (.var 0) 1 0) [(.int .i64 (.var 2))] ⟨[], ⟨2, 0, 0, 4, 2⟩⟩ ⟨[], ⟨3, 0, 0, 4, 2⟩⟩ (.br (.cmp .neq (.var 2) (.var 1)) (.done (.lf (.bool (.lit .false))) ⟨[], ⟨3, 0, 0, 4, 2⟩⟩) (.again 4 ⟨[(.op .add .i64 (.var 0) (.lit 1))], [], [], [], []⟩ ⟨[], ⟨3, 0, 0, 4, 2⟩⟩))))))) (.done (.lf (.bool (.lit .true))) ⟨[], ⟨1, 0, 0, 4, 2⟩⟩)))) := by kernel_rfl
set_option maxRecDepth 100000 in
theorem tVSame : (runF ⟨tt, fns, { }⟩ (Try.f31.body.getD .skip) Try.f31.results.toList (entry Try.f31.ntmps [.agg [.int .i64 (.var 0), .sl 0 (.var 0) (.var 1), .sl 1 (.var 2) (.var 3)], .agg [.int .i64 (.var 1), .sl 2 (.var 4) (.var 5), .sl 3 (.var 6) (.var 7)]] [] ⟨2, 0, 0, 8, 4⟩)) =
  (.br (.cmp .eql (.var 0) (.var 1)) (.call 48 [(.lf (.sl 0 (.var 0) (.var 1))), (.lf (.sl 2 (.var 4) (.var 5)))] ⟨[(25, [(.int .i64 (.var 0)), (.sl 0 (.var 0) (.var 1)), (.sl 1 (.var 2) (.var 3))]), (25, [(.int .i64 (.var 1)), (.sl 2 (.var 4) (.var 5)), (.sl 3 (.var 6) (.var 7))])], ⟨2, 0, 0, 8, 4⟩⟩ (.lf (.bool (.var 0))) ⟨[(25, [(.int .i64 (.var 0)), (.sl 0 (.var 0) (.var 1)), (.sl 1 (.var 2) (.var 3))]), (25, [(.int .i64 (.var 1)), (.sl 2 (.var 4) (.var 5)), (.sl 3 (.var 6) (.var 7))])], ⟨2, 1, 0, 8, 4⟩⟩ (.br (.var 0) (.call 49 [(.lf (.sl 1 (.var 2) (.var 3))), (.lf (.sl 3 (.var 6) (.var 7)))] ⟨[(25, [(.int .i64 (.var 0)), (.sl 0 (.var 0) (.var 1)), (.sl 1 (.var 2) (.var 3))]), (25, [(.int .i64 (.var 1)), (.sl 2 (.var 4) (.var 5)), (.sl 3 (.var 6) (.var 7))])], ⟨2, 1, 0, 8, 4⟩⟩ (.lf (.bool (.var 1))) ⟨[(25, [(.int .i64 (.var 0)), (.sl 0 (.var 0) (.var 1)), (.sl 1 (.var 2) (.var 3))]), (25, [(.int .i64 (.var 1)), (.sl 2 (.var 4) (.var 5)), (.sl 3 (.var 6) (.var 7))])], ⟨2, 2, 0, 8, 4⟩⟩ (.done (.lf (.bool (.var 1))) ⟨[(25, [(.int .i64 (.var 0)), (.sl 0 (.var 0) (.var 1)), (.sl 1 (.var 2) (.var 3))]), (25, [(.int .i64 (.var 1)), (.sl 2 (.var 4) (.var 5)), (.sl 3 (.var 6) (.var 7))])], ⟨2, 2, 0, 8, 4⟩⟩)) (.done (.lf (.bool (.lit .false))) ⟨[(25, [(.int .i64 (.var 0)), (.sl 0 (.var 0) (.var 1)), (.sl 1 (.var 2) (.var 3))]), (25, [(.int .i64 (.var 1)), (.sl 2 (.var 4) (.var 5)), (.sl 3 (.var 6) (.var 7))])], ⟨2, 1, 0, 8, 4⟩⟩))) (.done (.lf (.bool (.lit .false))) ⟨[(25, [(.int .i64 (.var 0)), (.sl 0 (.var 0) (.var 1)), (.sl 1 (.var 2) (.var 3))]), (25, [(.int .i64 (.var 1)), (.sl 2 (.var 4) (.var 5)), (.sl 3 (.var 6) (.var 7))])], ⟨2, 0, 0, 8, 4⟩⟩)) := by kernel_rfl
set_option maxRecDepth 100000 in
theorem tLUnlike : (runF ⟨tt, fns, { joins := [] }⟩ (Try.f7.body.getD .skip) Try.f7.results.toList (entry Try.f7.ntmps [.agg [.int .i64 (.var 0), .sl 0 (.var 0) (.var 1), .sl 1 (.var 2) (.var 3)], .agg [.int .i64 (.var 1), .sl 2 (.var 4) (.var 5), .sl 3 (.var 6) (.var 7)]] [] ⟨2, 0, 0, 8, 4⟩)) =
  (.call 9 [] ⟨[(25, [(.int .i64 (.var 0)), (.sl 0 (.var 0) (.var 1)), (.sl 1 (.var 2) (.var 3))]), (25, [(.int .i64 (.var 1)), (.sl 2 (.var 4) (.var 5)), (.sl 3 (.var 6) (.var 7))])], ⟨2, 0, 0, 8, 4⟩⟩ (.lf (.bool (.var 0))) ⟨[(25, [(.int .i64 (.var 0)), (.sl 0 (.var 0) (.var 1)), (.sl 1 (.var 2) (.var 3))]), (25, [(.int .i64 (.var 1)), (.sl 2 (.var 4) (.var 5)), (.sl 3 (.var 6) (.var 7))])], ⟨2, 1, 0, 8, 4⟩⟩ (.br (.not (.var 0)) (.done (.lf (.bool (.lit .false))) ⟨[(25, [(.int .i64 (.var 0)), (.sl 0 (.var 0) (.var 1)), (.sl 1 (.var 2) (.var 3))]), (25, [(.int .i64 (.var 1)), (.sl 2 (.var 4) (.var 5)), (.sl 3 (.var 6) (.var 7))])], ⟨2, 1, 0, 8, 4⟩⟩) (.call 11 [(.agg [(.int .i64 (.var 0)), (.sl 0 (.var 0) (.var 1)), (.sl 1 (.var 2) (.var 3))])] ⟨[(25, [(.int .i64 (.var 0)), (.sl 0 (.var 0) (.var 1)), (.sl 1 (.var 2) (.var 3))]), (25, [(.int .i64 (.var 1)), (.sl 2 (.var 4) (.var 5)), (.sl 3 (.var 6) (.var 7))])], ⟨2, 1, 0, 8, 4⟩⟩ (.agg [(.int .i64 (.var 2)), (.sl 4 (.var 8) (.var 9)), (.sl 5 (.var 10) (.var 11))]) ⟨[(25, [(.int .i64 (.var 0)), (.sl 0 (.var 0) (.var 1)), (.sl 1 (.var 2) (.var 3))]), (25, [(.int .i64 (.var 1)), (.sl 2 (.var 4) (.var 5)), (.sl 3 (.var 6) (.var 7))])], ⟨3, 1, 0, 12, 6⟩⟩ (.call 15 [(.agg [(.int .i64 (.var 2)), (.sl 4 (.var 8) (.var 9)), (.sl 5 (.var 10) (.var 11))])] ⟨[(25, [(.int .i64 (.var 0)), (.sl 0 (.var 0) (.var 1)), (.sl 1 (.var 2) (.var 3))]), (25, [(.int .i64 (.var 1)), (.sl 2 (.var 4) (.var 5)), (.sl 3 (.var 6) (.var 7))])], ⟨3, 1, 0, 12, 6⟩⟩ (.tup [(.false, [(.sl 6 (.var 12) (.var 13))]), (.false, [(.int .i64 (.var 3))])]) ⟨[(25, [(.int .i64 (.var 0)), (.sl 0 (.var 0) (.var 1)), (.sl 1 (.var 2) (.var 3))]), (25, [(.int .i64 (.var 1)), (.sl 2 (.var 4) (.var 5)), (.sl 3 (.var 6) (.var 7))])], ⟨4, 1, 0, 14, 7⟩⟩ (.call 11 [(.agg [(.int .i64 (.var 1)), (.sl 2 (.var 4) (.var 5)), (.sl 3 (.var 6) (.var 7))])] ⟨[(25, [(.int .i64 (.var 0)), (.sl 0 (.var 0) (.var 1)), (.sl 1 (.var 2) (.var 3))]), (25, [(.int .i64 (.var 1)), (.sl 2 (.var 4) (.var 5)), (.sl 3 (.var 6) (.var 7))])], ⟨4, 1, 0, 14, 7⟩⟩ (.agg [(.int .i64 (.var 4)), (.sl 7 (.var 14) (.var 15)), (.sl 8 (.var 16) (.var 17))]) ⟨[(25, [(.int .i64 (.var 0)), (.sl 0 (.var 0) (.var 1)), (.sl 1 (.var 2) (.var 3))]), (25, [(.int .i64 (.var 1)), (.sl 2 (.var 4) (.var 5)), (.sl 3 (.var 6) (.var 7))])], ⟨5, 1, 0, 18, 9⟩⟩ (.call 15 [(.agg [(.int .i64 (.var 4)), (.sl 7 (.var 14) (.var 15)), (.sl 8 (.var 16) (.var 17))])] ⟨[(25, [(.int .i64 (.var 0)), (.sl 0 (.var 0) (.var 1)), (.sl 1 (.var 2) (.var 3))]), (25, [(.int .i64 (.var 1)), (.sl 2 (.var 4) (.var 5)), (.sl 3 (.var 6) (.var 7))])], ⟨5, 1, 0, 18, 9⟩⟩ (.tup [(.false, [(.sl 9 (.var 18) (.var 19))]), (.false, [(.int .i64 (.var 5))])]) ⟨[(25, [(.int .i64 (.var 0)), (.sl 0 (.var 0) (.var 1)), (.sl 1 (.var 2) (.var 3))]), (25, [(.int .i64 (.var 1)), (.sl 2 (.var 4) (.var 5)), (.sl 3 (.var 6) (.var 7))])], ⟨6, 1, 0, 20, 10⟩⟩ (.br (.cmp .neq (.var 3) (.lit 0)) (.done (.lf (.bool (.lit .true))) ⟨[(25, [(.int .i64 (.var 0)), (.sl 0 (.var 0) (.var 1)), (.sl 1 (.var 2) (.var 3))]), (25, [(.int .i64 (.var 1)), (.sl 2 (.var 4) (.var 5)), (.sl 3 (.var 6) (.var 7))])], ⟨6, 1, 0, 20, 10⟩⟩) (.br (.cmp .neq (.var 5) (.lit 0)) (.done (.lf (.bool (.lit .true))) ⟨[(25, [(.int .i64 (.var 0)), (.sl 0 (.var 0) (.var 1)), (.sl 1 (.var 2) (.var 3))]), (25, [(.int .i64 (.var 1)), (.sl 2 (.var 4) (.var 5)), (.sl 3 (.var 6) (.var 7))])], ⟨6, 1, 0, 20, 10⟩⟩) (.call 11 [(.agg [(.int .i64 (.var 0)), (.sl 0 (.var 0) (.var 1)), (.sl 1 (.var 2) (.var 3))])] ⟨[(25, [(.int .i64 (.var 0)), (.sl 0 (.var 0) (.var 1)), (.sl 1 (.var 2) (.var 3))]), (25, [(.int .i64 (.var 1)), (.sl 2 (.var 4) (.var 5)), (.sl 3 (.var 6) (.var 7))])], ⟨6, 1, 0, 20, 10⟩⟩ (.agg [(.int .i64 (.var 6)), (.sl 10 (.var 20) (.var 21)), (.sl 11 (.var 22) (.var 23))]) ⟨[(25, [(.int .i64 (.var 0)), (.sl 0 (.var 0) (.var 1)), (.sl 1 (.var 2) (.var 3))]), (25, [(.int .i64 (.var 1)), (.sl 2 (.var 4) (.var 5)), (.sl 3 (.var 6) (.var 7))])], ⟨7, 1, 0, 24, 12⟩⟩ (.call 11 [(.agg [(.int .i64 (.var 1)), (.sl 2 (.var 4) (.var 5)), (.sl 3 (.var 6) (.var 7))])] ⟨[(25, [(.int .i64 (.var 0)), (.sl 0 (.var 0) (.var 1)), (.sl 1 (.var 2) (.var 3))]), (25, [(.int .i64 (.var 1)), (.sl 2 (.var 4) (.var 5)), (.sl 3 (.var 6) (.var 7))])], ⟨7, 1, 0, 24, 12⟩⟩ (.agg [(.int .i64 (.var 7)), (.sl 12 (.var 24) (.var 25)), (.sl 13 (.var 26) (.var 27))]) ⟨[(25, [(.int .i64 (.var 0)), (.sl 0 (.var 0) (.var 1)), (.sl 1 (.var 2) (.var 3))]), (25, [(.int .i64 (.var 1)), (.sl 2 (.var 4) (.var 5)), (.sl 3 (.var 6) (.var 7))])], ⟨8, 1, 0, 28, 14⟩⟩ (.call 31 [(.agg [(.int .i64 (.var 6)), (.sl 10 (.var 20) (.var 21)), (.sl 11 (.var 22) (.var 23))]), (.agg [(.int .i64 (.var 7)), (.sl 12 (.var 24) (.var 25)), (.sl 13 (.var 26) (.var 27))])] ⟨[(25, [(.int .i64 (.var 0)), (.sl 0 (.var 0) (.var 1)), (.sl 1 (.var 2) (.var 3))]), (25, [(.int .i64 (.var 1)), (.sl 2 (.var 4) (.var 5)), (.sl 3 (.var 6) (.var 7))])], ⟨8, 1, 0, 28, 14⟩⟩ (.lf (.bool (.var 1))) ⟨[(25, [(.int .i64 (.var 0)), (.sl 0 (.var 0) (.var 1)), (.sl 1 (.var 2) (.var 3))]), (25, [(.int .i64 (.var 1)), (.sl 2 (.var 4) (.var 5)), (.sl 3 (.var 6) (.var 7))])], ⟨8, 2, 0, 28, 14⟩⟩ (.call 16 [(.lf (.sl 6 (.var 12) (.var 13))), (.lf (.sl 9 (.var 18) (.var 19)))] ⟨[(25, [(.int .i64 (.var 0)), (.sl 0 (.var 0) (.var 1)), (.sl 1 (.var 2) (.var 3))]), (25, [(.int .i64 (.var 1)), (.sl 2 (.var 4) (.var 5)), (.sl 3 (.var 6) (.var 7))])], ⟨8, 2, 0, 28, 14⟩⟩ (.lf (.bool (.var 2))) ⟨[(25, [(.int .i64 (.var 0)), (.sl 0 (.var 0) (.var 1)), (.sl 1 (.var 2) (.var 3))]), (25, [(.int .i64 (.var 1)), (.sl 2 (.var 4) (.var 5)), (.sl 3 (.var 6) (.var 7))])], ⟨8, 3, 0, 28, 14⟩⟩ (.br (.not (.eqb (.var 2) (.var 1))) (.done (.lf (.bool (.lit .false))) ⟨[(25, [(.int .i64 (.var 0)), (.sl 0 (.var 0) (.var 1)), (.sl 1 (.var 2) (.var 3))]), (25, [(.int .i64 (.var 1)), (.sl 2 (.var 4) (.var 5)), (.sl 3 (.var 6) (.var 7))])], ⟨8, 3, 0, 28, 14⟩⟩) (.br (.cmp .gtr (.nat 12) (.nat 18)) (.br (.var 1) (.done (.lf (.bool (.lit .true))) ⟨[(25, [(.int .i64 (.var 0)), (.sl 0 (.var 0) (.var 1)), (.sl 1 (.var 2) (.var 3))]), (25, [(.int .i64 (.var 1)), (.sl 2 (.var 4) (.var 5)), (.sl 3 (.var 6) (.var 7))])], ⟨8, 3, 0, 28, 14⟩⟩) (.gen (.slice 38 (.tmp 50) .none (.some (.tmp 52)) .none) 38 [(50, (.lf (.sl 6 (.var 12) (.var 13)))), (52, (.lf (.int .i64 (.nat 18))))] ⟨[(25, [(.int .i64 (.var 0)), (.sl 0 (.var 0) (.var 1)), (.sl 1 (.var 2) (.var 3))]), (25, [(.int .i64 (.var 1)), (.sl 2 (.var 4) (.var 5)), (.sl 3 (.var 6) (.var 7))])], ⟨8, 3, 0, 28, 14⟩⟩ (.some (.lf (.sl 14 (.var 28) (.var 29)))) ⟨[(25, [(.int .i64 (.var 0)), (.sl 0 (.var 0) (.var 1)), (.sl 1 (.var 2) (.var 3))]), (25, [(.int .i64 (.var 1)), (.sl 2 (.var 4) (.var 5)), (.sl 3 (.var 6) (.var 7))])], ⟨8, 3, 0, 30, 15⟩⟩ (.call 16 [(.lf (.sl 9 (.var 18) (.var 19))), (.lf (.sl 14 (.var 28) (.var 29)))] ⟨[(25, [(.int .i64 (.var 0)), (.sl 0 (.var 0) (.var 1)), (.sl 1 (.var 2) (.var 3))]), (25, [(.int .i64 (.var 1)), (.sl 2 (.var 4) (.var 5)), (.sl 3 (.var 6) (.var 7))])], ⟨8, 3, 0, 30, 15⟩⟩ (.lf (.bool (.var 3))) ⟨[(25, [(.int .i64 (.var 0)), (.sl 0 (.var 0) (.var 1)), (.sl 1 (.var 2) (.var 3))]), (25, [(.int .i64 (.var 1)), (.sl 2 (.var 4) (.var 5)), (.sl 3 (.var 6) (.var 7))])], ⟨8, 4, 0, 30, 15⟩⟩ (.done (.lf (.bool (.not (.var 3)))) ⟨[(25, [(.int .i64 (.var 0)), (.sl 0 (.var 0) (.var 1)), (.sl 1 (.var 2) (.var 3))]), (25, [(.int .i64 (.var 1)), (.sl 2 (.var 4) (.var 5)), (.sl 3 (.var 6) (.var 7))])], ⟨8, 4, 0, 30, 15⟩⟩)))) (.br (.var 1) (.done (.lf (.bool (.lit .true))) ⟨[(25, [(.int .i64 (.var 0)), (.sl 0 (.var 0) (.var 1)), (.sl 1 (.var 2) (.var 3))]), (25, [(.int .i64 (.var 1)), (.sl 2 (.var 4) (.var 5)), (.sl 3 (.var 6) (.var 7))])], ⟨8, 3, 0, 28, 14⟩⟩) (.gen (.slice 38 (.tmp 50) .none (.some (.tmp 52)) .none) 38 [(50, (.lf (.sl 9 (.var 18) (.var 19)))), (52, (.lf (.int .i64 (.nat 12))))] ⟨[(25, [(.int .i64 (.var 0)), (.sl 0 (.var 0) (.var 1)), (.sl 1 (.var 2) (.var 3))]), (25, [(.int .i64 (.var 1)), (.sl 2 (.var 4) (.var 5)), (.sl 3 (.var 6) (.var 7))])], ⟨8, 3, 0, 28, 14⟩⟩ (.some (.lf (.sl 14 (.var 28) (.var 29)))) ⟨[(25, [(.int .i64 (.var 0)), (.sl 0 (.var 0) (.var 1)), (.sl 1 (.var 2) (.var 3))]), (25, [(.int .i64 (.var 1)), (.sl 2 (.var 4) (.var 5)), (.sl 3 (.var 6) (.var 7))])], ⟨8, 3, 0, 30, 15⟩⟩ (.call 16 [(.lf (.sl 6 (.var 12) (.var 13))), (.lf (.sl 14 (.var 28) (.var 29)))] ⟨[(25, [(.int .i64 (.var 0)), (.sl 0 (.var 0) (.var 1)), (.sl 1 (.var 2) (.var 3))]), (25, [(.int .i64 (.var 1)), (.sl 2 (.var 4) (.var 5)), (.sl 3 (.var 6) (.var 7))])], ⟨8, 3, 0, 30, 15⟩⟩ (.lf (.bool (.var 3))) ⟨[(25, [(.int .i64 (.var 0)), (.sl 0 (.var 0) (.var 1)), (.sl 1 (.var 2) (.var 3))]), (25, [(.int .i64 (.var 1)), (.sl 2 (.var 4) (.var 5)), (.sl 3 (.var 6) (.var 7))])], ⟨8, 4, 0, 30, 15⟩⟩ (.done (.lf (.bool (.not (.var 3)))) ⟨[(25, [(.int .i64 (.var 0)), (.sl 0 (.var 0) (.var 1)), (.sl 1 (.var 2) (.var 3))]), (25, [(.int .i64 (.var 1)), (.sl 2 (.var 4) (.var 5)), (.sl 3 (.var 6) (.var 7))])], ⟨8, 4, 0, 30, 15⟩⟩)))))))))))))))))) := by kernel_rfl
theorem eqn_any (a : Option Addr) (cap : Nat) (xs : List Int) (a2 : Option Addr) (cap2 : Nat) (ys : List Int) (w : World) (H : Ints w a xs) (H2 : Ints w a2 ys) (hl : xs.length ≤ 140737488355328) : Calls Try.prog 49 #[.slice a xs.length cap, .slice a2 ys.length cap2] w (PureAt w (.bool (decide (xs = ys)))) := by
  refine calls_at (tab_ok _) Try.func49 rfl tEqN (ρ := ⟨[], [], [], [xs.length, cap, ys.length, cap2], [a, a2]⟩) (ids := []) rfl (Facts.initP rfl oneNil) ?_
  by_cases hlen : xs.length = ys.length
  · refine br_f (show ((xs.length : Int) != (ys.length : Int)) = false by simp [hlen]) ?_
    refine loop_i (ItI xs ys) (fun vs => xs.length - (vs.i.headD 0).toNat) (fun ids w2 hp hf => ⟨HX.nil, HXok.none _ _, 0, by omega, rfl, rfl, rfl⟩) ?_
    rintro vs hx' hcnt ⟨k, hk1, he, rfl, rfl⟩
    by_cases hk : k < xs.length
    · refine br_t (show decide ((k : Int) < (xs.length : Int)) = true from decide_eq_true (by omega)) ?_
      obtain ⟨x, hx⟩ : ∃ b, xs[k]? = some b := ⟨_, List.getElem?_eq_getElem hk⟩
      obtain ⟨y, hy⟩ : ∃ b, ys[k]? = some b := ⟨_, List.getElem?_eq_getElem (by omega)⟩
      obtain ⟨s1, c1⟩ := ints_at H hx
      obtain ⟨s2, c2⟩ := ints_at H2 hy
      have hst := take_step hx hy he
      have hwk : IntKind.i64.wrap ((k : Int) + 1) = ((k + 1 : Nat) : Int) := by rw [wrap_i64 (by omega)]; omega
      refine need_i ⟨s1, (show (0 : Int) ≤ k by omega), (show (k : Int) < xs.length by omega)⟩ ?_
      refine need_i ⟨s2, (show (0 : Int) ≤ k by omega), (show (k : Int) < ys.length by omega)⟩ ?_
      by_cases hxy : x = y
      · have e1 := hst.2 hxy
        have fin : ∀ {es : Vec} {m : Mem} {ρ : Env} {L : Stack}, (∀ ids, es.den ρ ids = ⟨[IntKind.i64.wrap ((k : Int) + 1)], [], [], [], []⟩) → (Tree.again 4 es m).holds ⟨Try.prog, w, fun _ => False, PureAt w (.bool (decide (xs = ys)))⟩ ρ [] HX.nil ((4, fun vs' hx'' => ItI xs ys vs' hx'' ∧ xs.length - (vs'.i.headD 0).toNat < xs.length - ((⟨[(k : Int)], [], [], [], []⟩ : Vals).i.headD 0).toNat) :: L) := by
          intro es m ρ L hes ids w2 hp hf
          refine ⟨HX.nil, HXok.none _ _, _, rfl, ?_⟩
          rw [hes]
          refine ⟨⟨k + 1, by omega, e1, by rw [hwk], rfl⟩, ?_⟩
          show xs.length - (IntKind.i64.wrap ((k : Int) + 1)).toNat < xs.length - ((k : Int)).toNat
          rw [hwk]; omega
        refine par_i ?_ ?_
        · refine ⟨⟨[x], [], [], [], []⟩, fun ids => c1 _ (fun q => q), ⟨rfl, oneNil⟩, ?_⟩
          refine ⟨⟨[y], [], [], [], []⟩, fun ids => c2 _ (fun q => q), ⟨rfl, oneNil⟩, ?_⟩
          exact br_f (show (x != y) = false by simpa using hxy) (fin (fun _ => rfl))
        · refine ⟨⟨[y], [], [], [], []⟩, fun ids => c2 _ (fun q => q), ⟨rfl, oneNil⟩, ?_⟩
          refine ⟨⟨[x], [], [], [], []⟩, fun ids => c1 _ (fun q => q), ⟨rfl, oneNil⟩, ?_⟩
          exact br_f (show (x != y) = false by simpa using hxy) (fin (fun _ => rfl))
      · have hne : ¬ xs = ys := fun e => hxy (by rw [e] at hx; rw [hx] at hy; exact Option.some.inj hy)
        have fin : ∀ {m : Mem} {ρ : Env} {L : Stack} {hx : HX}, (Tree.done (.lf (.bool (.lit false))) m).holds ⟨Try.prog, w, fun _ => False, PureAt w (.bool (decide (xs = ys)))⟩ ρ [] hx L := pure_done fun _ => by rw [decide_eq_false hne]; rfl
        refine par_i ?_ ?_
        · refine ⟨⟨[x], [], [], [], []⟩, fun ids => c1 _ (fun q => q), ⟨rfl, oneNil⟩, ?_⟩
          refine ⟨⟨[y], [], [], [], []⟩, fun ids => c2 _ (fun q => q), ⟨rfl, oneNil⟩, ?_⟩
          exact br_t (show (x != y) = true by simpa using hxy) fin
        · refine ⟨⟨[y], [], [], [], []⟩, fun ids => c2 _ (fun q => q), ⟨rfl, oneNil⟩, ?_⟩
          refine ⟨⟨[x], [], [], [], []⟩, fun ids => c1 _ (fun q => q), ⟨rfl, oneNil⟩, ?_⟩
          exact br_t (show (x != y) = true by simpa using hxy) fin
    · refine br_f (show decide ((k : Int) < (xs.length : Int)) = false from decide_eq_false (by omega)) (pure_done fun _ => ?_)
      have e : xs = ys := by rw [List.take_of_length_le (by omega), List.take_of_length_le (by omega)] at he; exact he
      rw [decide_eq_true e]; rfl
  · refine br_t (show ((xs.length : Int) != (ys.length : Int)) = true by simp only [bne_iff_ne, ne_eq]; omega) (pure_done fun _ => ?_)
    rw [decide_eq_false (fun e => hlen (by rw [e]))]; rfl
noncomputable def csSame (xs ys : List CmD) : Bool := @decide (xs = ys) (Classical.propDecidable _)
theorem csSame_f {xs ys : List CmD} (h : ¬ xs = ys) : csSame xs ys = false := @decide_eq_false _ (Classical.propDecidable _) h
theorem csSame_t {xs ys : List CmD} (h : xs = ys) : csSame xs ys = true := @decide_eq_true _ (Classical.propDecidable _) h
def IcI (xs ys : List CmD) (vs : Vals) (hx : HX) : Prop := ∃ k : Nat, k ≤ xs.length ∧ xs.take k = ys.take k ∧ vs = ⟨[(k : Int)], [], [], [], []⟩ ∧ hx = HX.nil
theorem eqc_any (a : Option Addr) (cap : Nat) (xs : List CmD) (a2 : Option Addr) (cap2 : Nat) (ys : List CmD) (w : World) (H : Cells w a (ccells xs)) (H2 : Cells w a2 (ccells ys)) (hl : xs.length ≤ 140737488355328) : Calls Try.prog 48 #[.slice a xs.length cap, .slice a2 ys.length cap2] w (PureAt w (.bool (csSame xs ys))) := by
  refine calls_at (tab_ok _) Try.func48 rfl tEqC (ρ := ⟨[], [], [], [xs.length, cap, ys.length, cap2], [a, a2]⟩) (ids := []) rfl (Facts.initP rfl oneNil) ?_
  by_cases hlen : xs.length = ys.length
  · refine br_f (show ((xs.length : Int) != (ys.length : Int)) = false by simp [hlen]) ?_
    refine loop_i (IcI xs ys) (fun vs => xs.length - (vs.i.headD 0).toNat) (fun ids w2 hp hf => ⟨HX.nil, HXok.none _ _, 0, by omega, rfl, rfl, rfl⟩) ?_
    rintro vs hx' hcnt ⟨k, hk1, he, rfl, rfl⟩
    by_cases hk : k < xs.length
    · refine br_t (show decide ((k : Int) < (xs.length : Int)) = true from decide_eq_true (by omega)) ?_
      obtain ⟨x, hx⟩ : ∃ b, xs[k]? = some b := ⟨_, List.getElem?_eq_getElem hk⟩
      obtain ⟨y, hy⟩ : ∃ b, ys[k]? = some b := ⟨_, List.getElem?_eq_getElem (by omega)⟩
      obtain ⟨s1, c1⟩ := c_elt H hx
      obtain ⟨s2, c2⟩ := c_elt H2 hy
      have hst := take_step' hx hy he
      have hwk : IntKind.i64.wrap ((k : Int) + 1) = ((k + 1 : Nat) : Int) := by rw [wrap_i64 (by omega)]; omega
      refine need_i ⟨s1, (show (0 : Int) ≤ k by omega), (show (k : Int) < xs.length by omega)⟩ ?_
      refine need_i ⟨s2, (show (0 : Int) ≤ k by omega), (show (k : Int) < ys.length by omega)⟩ ?_
      by_cases hxy : x = y
      · have e1 := hst.2 hxy
        have hce : (!cmdEq x y) = false := by rw [(cmdEq_iff x y).2 hxy]; rfl
        have fin : ∀ {es : Vec} {m : Mem} {ρ : Env} {L : Stack}, (∀ ids, es.den ρ ids = ⟨[IntKind.i64.wrap ((k : Int) + 1)], [], [], [], []⟩) → (Tree.again 4 es m).holds ⟨Try.prog, w, fun _ => False, PureAt w (.bool (csSame xs ys))⟩ ρ [] HX.nil ((4, fun vs' hx'' => IcI xs ys vs' hx'' ∧ xs.length - (vs'.i.headD 0).toNat < xs.length - ((⟨[(k : Int)], [], [], [], []⟩ : Vals).i.headD 0).toNat) :: L) := by
          intro es m ρ L hes ids w2 hp hf
          refine ⟨HX.nil, HXok.none _ _, _, rfl, ?_⟩
          rw [hes]
          refine ⟨⟨k + 1, by omega, e1, by rw [hwk], rfl⟩, ?_⟩
          show xs.length - (IntKind.i64.wrap ((k : Int) + 1)).toNat < xs.length - ((k : Int)).toNat
          rw [hwk]; omega
        refine par_i ?_ ?_
        · refine ⟨⟨x.is, [], [], [], []⟩, fun ids => c1 _ (fun q => q), ⟨rfl, oneNil⟩, ?_⟩
          refine ⟨⟨y.is, [], [], [], []⟩, fun ids => c2 _ (fun q => q), ⟨rfl, oneNil⟩, ?_⟩
          exact br_f (Eq.trans (b := !cmdEq x y) (by kernel_rfl) hce) (fin (fun _ => rfl))
        · refine ⟨⟨y.is, [], [], [], []⟩, fun ids => c2 _ (fun q => q), ⟨rfl, oneNil⟩, ?_⟩
          refine ⟨⟨x.is, [], [], [], []⟩, fun ids => c1 _ (fun q => q), ⟨rfl, oneNil⟩, ?_⟩
          exact br_f (Eq.trans (b := !cmdEq x y) (by kernel_rfl) hce) (fin (fun _ => rfl))
      · have hce : (!cmdEq x y) = true := by
          have : cmdEq x y = false := by
            cases h : cmdEq x y with
            | false => rfl
            | true => exact absurd ((cmdEq_iff x y).1 h) hxy
          rw [this]; rfl
        have hne : ¬ xs = ys := fun e => hxy (by rw [e] at hx; rw [hx] at hy; exact Option.some.inj hy)
        have fin : ∀ {m : Mem} {ρ : Env} {L : Stack} {hx : HX}, (Tree.done (.lf (.bool (.lit false))) m).holds ⟨Try.prog, w, fun _ => False, PureAt w (.bool (csSame xs ys))⟩ ρ [] hx L := pure_done fun _ => by rw [csSame_f hne]; rfl
        refine par_i ?_ ?_
        · refine ⟨⟨x.is, [], [], [], []⟩, fun ids => c1 _ (fun q => q), ⟨rfl, oneNil⟩, ?_⟩
          refine ⟨⟨y.is, [], [], [], []⟩, fun ids => c2 _ (fun q => q), ⟨rfl, oneNil⟩, ?_⟩
          exact br_t (Eq.trans (b := !cmdEq x y) (by kernel_rfl) hce) fin
        · refine ⟨⟨y.is, [], [], [], []⟩, fun ids => c2 _ (fun q => q), ⟨rfl, oneNil⟩, ?_⟩
          refine ⟨⟨x.is, [], [], [], []⟩, fun ids => c1 _ (fun q => q), ⟨rfl, oneNil⟩, ?_⟩
          exact br_t (Eq.trans (b := !cmdEq x y) (by kernel_rfl) hce) fin
    · refine br_f (show decide ((k : Int) < (xs.length : Int)) = false from decide_eq_false (by omega)) (pure_done fun _ => ?_)
      have e : xs = ys := by rw [List.take_of_length_le (by omega), List.take_of_length_le (by omega)] at he; exact he
      rw [csSame_t e]; rfl
  · refine br_t (show ((xs.length : Int) != (ys.length : Int)) = true by simp only [bne_iff_ne, ne_eq]; omega) (pure_done fun _ => ?_)
    rw [csSame_f (fun e => hlen (by rw [e]))]; rfl
theorem vsame_any (v : Vl) (a1 : Option Addr) (c1 : Nat) (a2 : Option Addr) (c2 : Nat) (u : Vl) (b1 : Option Addr) (d1 : Nat) (b2 : Option Addr) (d2 : Nat) (w : World) (H : VlAt w v a1 a2) (H2 : VlAt w u b1 b2) : Calls Try.prog 31 #[vlV v a1 c1 a2 c2, vlV u b1 d1 b2 d2] w (PureAt w (.bool (vlSame v u))) := by
  have hl1 := H.l1
  have hl2 := H.l2
  refine calls_at (tab_ok _) Try.func31 rfl tVSame (ρ := ⟨[v.k, u.k], [], [], [v.cs.length, c1, v.ns.length, c2, u.cs.length, d1, u.ns.length, d2], [a1, a2, b1, b2]⟩) (ids := []) (hx := (vlX v a1 a2).and (vlX u b1 b2)) rfl (Facts.initq rfl oneNil ⟨H.X, H2.X⟩ (fun k hk => hk.elim (vlX_sep H.X k) (vlX_sep H2.X k))) ?_
  by_cases hk : v.k = u.k
  · refine br_t (show (v.k == u.k) = true by simpa using hk) ?_
    refine node_pure ⟨[], [csSame v.cs u.cs], [], [], []⟩ rfl rfl rfl oneNil (fun ids w2 hp hf => eqc_any a1 c1 v.cs b1 d1 u.cs w2 hf.x.1.1 hf.x.2.1 (by omega)) ?_
    by_cases hc : v.cs = u.cs
    · refine br_t (csSame_t hc) ?_
      refine node_pure ⟨[], [decide (v.ns = u.ns)], [], [], []⟩ rfl rfl rfl oneNil (fun ids w2 hp hf => eqn_any a2 c2 v.ns b2 d2 u.ns w2 (H.fit.at_ hf.x.1).n (H2.fit.at_ hf.x.2).n (by omega)) ?_
      refine pure_done (fun _ => ?_)
      show Value.bool (decide (v.ns = u.ns)) = _
      by_cases hn : v.ns = u.ns
      · rw [decide_eq_true hn, vlSame_t (by cases v; cases u; simp_all)]
      · rw [decide_eq_false hn, vlSame_f (fun e => hn (by rw [e]))]
    · refine br_f (csSame_f hc) (pure_done (fun _ => ?_))
      rw [vlSame_f (fun e => hc (by rw [e]))]; rfl
  · refine br_f (show (v.k == u.k) = false by simpa using hk) (pure_done (fun _ => ?_))
    rw [vlSame_f (fun e => hk (by rw [e]))]; rfl
/-! ### Bytes of values are apart -/
theorem numB_app {u t : Nat} (hu : u < 2 ^ 64) (ht : t < 2 ^ 64) {r s : List Int} (h : numB u ++ r = numB t ++ s) : u = t ∧ r = s := by
  have h1 := readN_num hu r
  rw [h, readN_num ht s] at h1
  simp only [Prod.mk.injEq, true_and] at h1
  exact ⟨h1.2.symm, h1.1.symm⟩
theorem flat_app {α : Type} {f : α → List Int} {ok : α → Prop} (hf : ∀ x y, ok x → ok y → ∀ r s, f x ++ r = f y ++ s → x = y ∧ r = s) : ∀ (xs ys : List α), xs.length = ys.length → (∀ x ∈ xs, ok x) → (∀ x ∈ ys, ok x) → ∀ r s, xs.flatMap f ++ r = ys.flatMap f ++ s → xs = ys ∧ r = s
  | [], [], _, _, _, r, s, h => ⟨rfl, by simpa using h⟩
  | [], y :: ys, h, _, _, _, _, _ => by simp at h
  | x :: xs, [], h, _, _, _, _, _ => by simp at h
  | x :: xs, y :: ys, h, h1, h2, r, s, e => by
    rw [List.flatMap_cons, List.flatMap_cons, List.append_assoc, List.append_assoc] at e
    obtain ⟨rfl, e2⟩ := hf x y (h1 x (by simp)) (h2 y (by simp)) _ _ e
    obtain ⟨rfl, e3⟩ := flat_app hf xs ys (by simpa using h) (fun x q => h1 x (by simp [q])) (fun x q => h2 x (by simp [q])) r s e2
    exact ⟨rfl, e3⟩
theorem foldB_app (i j : Int) (hi : I64 i) (hj : I64 j) (r s : List Int) (h : numB (foldN i) ++ r = numB (foldN j) ++ s) : i = j ∧ r = s := by
  obtain ⟨h1, h2⟩ := numB_app (foldN_lt hi) (foldN_lt hj) h
  exact ⟨by rw [← unfold_fold i, h1, unfold_fold], h2⟩
theorem cmd_ext {c d : CmD} (h : c.is = d.is) : c = d := by
  obtain ⟨x0, x1, x2, y0, y1, y2, y3, y4⟩ := c
  obtain ⟨z0, z1, z2, t0, t1, t2, t3, t4⟩ := d
  simp only [CmD.is, List.cons.injEq, and_true] at h
  obtain ⟨rfl, rfl, rfl, rfl, rfl, rfl, rfl, rfl⟩ := h
  rfl
theorem cmdB_app (c d : CmD) (hc : CmFit c) (hd : CmFit d) (r s : List Int) (h : cmdB c ++ r = cmdB d ++ s) : c = d ∧ r = s := by
  obtain ⟨h1, h2⟩ := flat_app (f := fun i => numB (foldN i)) (ok := I64) (fun x y hx hy r s => foldB_app x y hx hy r s) c.is d.is rfl hc hd r s h
  exact ⟨cmd_ext h1, h2⟩
theorem natU_inj {i j : Int} (hi : I64 i) (hj : I64 j) (h : natU i = natU j) : i = j := by
  have h1 := natU_c i
  have h2 := natU_c j
  rw [h, ← h2] at h1
  have h3 : i % 18446744073709551616 = j % 18446744073709551616 := h1
  unfold I64 at hi hj
  omega
theorem natB_app (i j : Int) (hi : I64 i) (hj : I64 j) (r s : List Int) (h : numB (natU i) ++ r = numB (natU j) ++ s) : i = j ∧ r = s := by
  obtain ⟨h1, h2⟩ := numB_app (natU_lt i) (natU_lt j) h
  exact ⟨natU_inj hi hj h1, h2⟩
/-- A value whose numbers fit. -/
structure VlWf (v : Vl) : Prop where
  k : I64 v.k
  c : ∀ c ∈ v.cs, CmFit c
  f : VlFit v
theorem vlB_app {v u : Vl} (hv : VlWf v) (hu : VlWf u) {r s : List Int} (h : vlB v ++ r = vlB u ++ s) : v = u ∧ r = s := by
  have a1 := hv.f.l1
  have a2 := hv.f.l2
  have b1 := hu.f.l1
  have b2 := hu.f.l2
  unfold vlB at h
  simp only [List.append_assoc] at h
  obtain ⟨e1, h⟩ := natB_app _ _ hv.k hu.k _ _ h
  obtain ⟨e2, h⟩ := numB_app (by omega) (by omega) h
  obtain ⟨e3, h⟩ := flat_app cmdB_app v.cs u.cs e2 hv.c hu.c _ _ h
  obtain ⟨e4, h⟩ := numB_app (by omega) (by omega) h
  obtain ⟨e5, h⟩ := flat_app natB_app v.ns u.ns e4 hv.f.n hu.f.n _ _ h
  refine ⟨?_, h⟩
  cases v; cases u; simp_all
theorem pre_no {v u : Vl} (hv : VlWf v) (hu : VlWf u) (e : vlB v = (vlB u).take (vlB v).length) : v = u :=
  (vlB_app (r := (vlB u).drop (vlB v).length) (s := []) hv hu (by
    have := List.take_append_drop (vlB v).length (vlB u)
    rw [← e] at this
    rw [this, List.append_nil])).1
theorem vlB_same {v u : Vl} (hv : VlWf v) (hu : VlWf u) : decide (vlB v = vlB u) = vlSame v u := by
  by_cases h : v = u
  · rw [vlSame_t h, decide_eq_true (by rw [h])]
  · rw [vlSame_f h, decide_eq_false (fun e => h (vlB_app (r := []) (s := []) hv hu (by simpa using e)).1)]
section
variable {C : Cfg} {ρ : Env} {pre : List Nat} {hx : HX} {L : Stack} {m m' : Mem} {t : Tree} {ps : List (Nat × SV)} {ty : TypeId}
theorem node_upto {st e : TypeId} {xo hi : Operand} {r : SV} {z : Value} {n cap u sz bytes : Nat} (a : Option Addr) (ht : C.P.underlying st = some (.slice e)) (hel : C.P.elem st = e) (hinfo : (C.P.info? e).map (fun i => (i.zero, i.size, i.bytes)) = some (some z, sz, bytes))
    (hxo : ∀ ids, envOf ρ ids ps xo = .slice a n cap) (hhi : ∀ ids, envOf ρ ids ps hi = .int .i64 (u : Int)) (hu : ∀ ids w, Facts C m ρ ids hx w → u ≤ cap)
    (hr : ∀ ids, r.den (ρ.add ⟨[], [], [], [u, cap], [sliA a 0 cap sz]⟩) ids = .slice (sliA a 0 cap sz) u cap) (hhp : m'.hp = m.hp) (hfit : hpFits m.c m.hp.length m.hp = true) (hc : (ρ.add ⟨[], [], [], [u, cap], [sliA a 0 cap sz]⟩).cnt = m'.c)
    (h : t.holds C (ρ.add ⟨[], [], [], [u, cap], [sliA a 0 cap sz]⟩) pre hx L) :
    (Tree.gen (.slice st xo none (some hi) none) ty ps m (some r) m' t).holds C ρ pre hx L := by
  obtain ⟨i0, hi', hz0, hz1, hz2⟩ := info_parts hinfo
  refine node_gpure (V := .slice (sliA a 0 cap sz) u cap) _ (fun ids w hp hf => ?_) hr hhp hfit hc oneNil h
  have hu := hu ids w hf
  have hsize : (sizeOf (C.P.elem st)).run C.P w = .ok sz w := by
    rw [hel]; simp [sizeOf, typeInfo, hi', hz1]
  have ht' : C.P.underlying st = some (.slice (C.P.elem st)) := by rw [ht, hel]
  have hrun : (Instr.sliceAt st (.slice a n cap) none (some (.int .i64 (u : Int))) none).run C.P w = .ok (.slice (sliA a 0 cap sz) u cap) w := by
    rw [run_sliceAt_slice w st _ _ _ _ ht', run_slice_h w st a n cap ht' .i64 (u : Int) (by omega) (by omega), hsize]
    simp [Result.andThen, sliced, sliA]
  simp only [execOp, hxo, hhi, Sem.run_bind, Sem.run_pure, Result.andThen_ok, Option.map_none, Option.map_some, hrun]
end
theorem pre_cells {w : World} {a : Option Addr} {cap : Nat} {bs : List Int} (h : Cells w a (bcells bs)) (hc : bs.length ≤ cap) (k : Nat) : Cells w (sliA a 0 cap 1) (bcells (bs.take k)) := by
  have := sli_cells h 0 k cap 1 (by omega) (by rw [bcells_len]; omega) (by decide)
  rw [Nat.zero_mul, List.drop_zero] at this
  have e : bcells (bs.take k) = (bcells bs).take k := by unfold bcells; rw [List.map_take]
  rw [e]; exact this
def encB (v : Vl) : List Int := if valE v = 0 then vlB v else []
theorem encB_len {v : Vl} (h : VlWf v) : (encB v).length ≤ 1000 := by
  unfold encB
  split
  · rename_i h0
    obtain ⟨h1, h2, _, _⟩ := right_len h0
    have := vlB_len h.c (by omega) (by omega)
    omega
  · simp
set_option maxHeartbeats 4000000 in
theorem unlike_walk (v : Vl) (a1 : Option Addr) (c1 : Nat) (a2 : Option Addr) (c2 : Nat) (u : Vl) (b1 : Option Addr) (d1 : Nat) (b2 : Option Addr) (d2 : Nat) (w : World) (H : VlAt w v a1 a2) (H2 : VlAt w u b1 b2) (hv : VlWf v) (hu : VlWf u) :
    Calls Try.prog 7 #[vlV v a1 c1 a2 c2, vlV u b1 d1 b2 d2] w (PureAt w (.bool true)) := by
  have lv := encB_len hv
  have lu := encB_len hu
  refine calls_at (tab_ok _) Try.func7 rfl tLUnlike (ρ := ⟨[v.k, u.k], [], [], [v.cs.length, c1, v.ns.length, c2, u.cs.length, d1, u.ns.length, d2], [a1, a2, b1, b2]⟩) (ids := []) (hx := (vlX v a1 a2).and (vlX u b1 b2)) rfl (Facts.initq rfl oneNil ⟨H.X, H2.X⟩ (fun k hk => hk.elim (vlX_sep H.X k) (vlX_sep H2.X k))) ?_
  refine node_pure ⟨[], [true], [], [], []⟩ (by intros; kernel_rfl) (by intros; kernel_rfl) (by intros; kernel_rfl) oneNil (fun ids w2 hp hf => head_any w2) ?_
  refine br_f rfl ?_
  refine node_vl (V := id) (v := v) (fun _ => #[vlV v a1 c1 a2 c2]) (fun a1 c1 a2 c2 => ⟨[v.k], [], [], [v.cs.length, c1, v.ns.length, c2], [a1, a2]⟩) (by intros; kernel_rfl) (fun ids w2 hp hf => cpvl_any v a1 c1 a2 c2 w2 (hv.f.at_ hf.x.1)) (by intros; kernel_rfl) (by intros; kernel_rfl) (by intros; kernel_rfl) (by intros; kernel_rfl) (fun _ _ _ _ => oneNil) ?_
  intro x1 y1 x2 y2 _
  refine node_newi (V := fun s => .tuple #[s, .int .i64 (valE v)]) (bs := encB v) (fun ids => #[vlV v x1 y1 x2 y2]) (fun a' c' => ⟨[valE v], [], [], [(encB v).length, c'], [a']⟩) (by intros; kernel_rfl) (fun ids w2 hp hf => encode_any v x1 y1 x2 y2 hv.k hv.c w2 (hv.f.at_ hf.x.2)) (by intros; kernel_rfl) (by intros; kernel_rfl) (by intros; kernel_rfl) (by intros; kernel_rfl) (fun _ _ => oneNil) ?_
  intro e1 f1 _ _
  refine node_vl (V := id) (v := u) (fun _ => #[vlV u b1 d1 b2 d2]) (fun a1 c1 a2 c2 => ⟨[u.k], [], [], [u.cs.length, c1, u.ns.length, c2], [a1, a2]⟩) (by intros; kernel_rfl) (fun ids w2 hp hf => cpvl_any u b1 d1 b2 d2 w2 (hu.f.at_ hf.x.1.1.2)) (by intros; kernel_rfl) (by intros; kernel_rfl) (by intros; kernel_rfl) (by intros; kernel_rfl) (fun _ _ _ _ => oneNil) ?_
  intro z1 t1 z2 t2 _
  refine node_newi (V := fun s => .tuple #[s, .int .i64 (valE u)]) (bs := encB u) (fun ids => #[vlV u z1 t1 z2 t2]) (fun a' c' => ⟨[valE u], [], [], [(encB u).length, c'], [a']⟩) (by intros; kernel_rfl) (fun ids w2 hp hf => encode_any u z1 t1 z2 t2 hu.k hu.c w2 (hu.f.at_ hf.x.2)) (by intros; kernel_rfl) (by intros; kernel_rfl) (by intros; kernel_rfl) (by intros; kernel_rfl) (fun _ _ => oneNil) ?_
  intro e2 f2 _ _
  by_cases h0 : valE v = 0
  · refine br_f (show (valE v != 0) = false by simpa using h0) ?_
    by_cases h1 : valE u = 0
    · refine br_f (show (valE u != 0) = false by simpa using h1) ?_
      have ev : encB v = vlB v := if_pos h0
      have eu : encB u = vlB u := if_pos h1
      rw [ev] at lv ⊢
      rw [eu] at lu ⊢
      refine node_vl (V := id) (v := v) (fun _ => #[vlV v a1 c1 a2 c2]) (fun a1 c1 a2 c2 => ⟨[v.k], [], [], [v.cs.length, c1, v.ns.length, c2], [a1, a2]⟩) (by intros; kernel_rfl) (fun ids w2 hp hf => cpvl_any v a1 c1 a2 c2 w2 (hv.f.at_ hf.x.1.1.1.1.1)) (by intros; kernel_rfl) (by intros; kernel_rfl) (by intros; kernel_rfl) (by intros; kernel_rfl) (fun _ _ _ _ => oneNil) ?_
      intro g1 h1 g2 h2 _
      refine node_vl (V := id) (v := u) (fun _ => #[vlV u b1 d1 b2 d2]) (fun a1 c1 a2 c2 => ⟨[u.k], [], [], [u.cs.length, c1, u.ns.length, c2], [a1, a2]⟩) (by intros; kernel_rfl) (fun ids w2 hp hf => cpvl_any u b1 d1 b2 d2 w2 (hu.f.at_ hf.x.1.1.1.1.1.2)) (by intros; kernel_rfl) (by intros; kernel_rfl) (by intros; kernel_rfl) (by intros; kernel_rfl) (fun _ _ _ _ => oneNil) ?_
      intro i1 j1 i2 j2 _
      refine node_pure ⟨[], [vlSame v u], [], [], []⟩ (by intros; kernel_rfl) (by intros; kernel_rfl) (by intros; kernel_rfl) oneNil (fun ids w2 hp hf => vsame_any v g1 h1 g2 h2 u i1 j1 i2 j2 w2 (hv.f.at_ hf.x.1.2) (hu.f.at_ hf.x.2)) ?_
      refine node_pure ⟨[], [vlSame v u], [], [], []⟩ (by intros; kernel_rfl) (by intros; kernel_rfl) (by intros; kernel_rfl) oneNil (fun ids w2 hp hf => ?_) ?_
      · have := sameb_any e1 f1 (vlB v) e2 f2 (vlB u) w2 (frow_cells hf.x.1.1.1.1.2) (frow_cells hf.x.1.1.2) (by omega)
        rw [vlB_same hv hu] at this
        exact this
      refine br_f (show (!(vlSame v u == vlSame v u)) = false by simp) ?_
      by_cases hl : (vlB v).length > (vlB u).length
      · refine br_t (show decide (((vlB v).length : Int) > ((vlB u).length : Int)) = true from decide_eq_true (by omega)) ?_
        by_cases hs : v = u
        · exact br_t (vlSame_t hs) (pure_done (by intros; kernel_rfl))
        · refine br_f (vlSame_f hs) ?_
          refine node_upto (n := (vlB v).length) (cap := f1) (u := (vlB u).length) e1 Try.underlying38 (by kernel_rfl) info_byte (fun _ => rfl) (fun _ => rfl) (fun ids w2 hf => by have := frow_le hf.x.1.1.1.1.2; omega) (by intros; kernel_rfl) (by intros; kernel_rfl) (by intros; kernel_rfl) (by intros; kernel_rfl) ?_
          refine node_pure ⟨[], [false], [], [], []⟩ (by intros; kernel_rfl) (by intros; kernel_rfl) (by intros; kernel_rfl) oneNil (fun ids w2 hp hf => ?_) ?_
          · have := sameb_any e2 f2 (vlB u) (sliA e1 0 f1 1) f1 ((vlB v).take (vlB u).length) w2 (frow_cells hf.x.1.1.2) (pre_cells (frow_cells hf.x.1.1.1.1.2) (frow_le hf.x.1.1.1.1.2) _) (by omega)
            rw [decide_eq_false (fun e => hs (pre_no hu hv e).symm), List.length_take, Nat.min_eq_left (by omega)] at this
            exact this
          exact pure_done (by intros; kernel_rfl)
      · refine br_f (show decide (((vlB v).length : Int) > ((vlB u).length : Int)) = false from decide_eq_false (by omega)) ?_
        by_cases hs : v = u
        · exact br_t (vlSame_t hs) (pure_done (by intros; kernel_rfl))
        · refine br_f (vlSame_f hs) ?_
          refine node_upto (n := (vlB u).length) (cap := f2) (u := (vlB v).length) e2 Try.underlying38 (by kernel_rfl) info_byte (fun _ => rfl) (fun _ => rfl) (fun ids w2 hf => by have := frow_le hf.x.1.1.2; omega) (by intros; kernel_rfl) (by intros; kernel_rfl) (by intros; kernel_rfl) (by intros; kernel_rfl) ?_
          refine node_pure ⟨[], [false], [], [], []⟩ (by intros; kernel_rfl) (by intros; kernel_rfl) (by intros; kernel_rfl) oneNil (fun ids w2 hp hf => ?_) ?_
          · have := sameb_any e1 f1 (vlB v) (sliA e2 0 f2 1) f2 ((vlB u).take (vlB v).length) w2 (frow_cells hf.x.1.1.1.1.2) (pre_cells (frow_cells hf.x.1.1.2) (frow_le hf.x.1.1.2) _) (by omega)
            rw [decide_eq_false (fun e => hs (pre_no hv hu e)), List.length_take, Nat.min_eq_left (by omega)] at this
            exact this
          exact pure_done (by intros; kernel_rfl)
    · exact br_t (show (valE u != 0) = true by simpa using h1) (pure_done (by intros; kernel_rfl))
  · exact br_t (show (valE v != 0) = true by simpa using h0) (pure_done (by intros; kernel_rfl))
theorem unlike_args (x y : Dat) (w : World) (hx : x.In Try.prog w 25) (hy : y.In Try.prog w 25) : Calls Try.prog 7 #[.agg x.cells.toArray, .agg y.cells.toArray] w (PureAt w (.bool true)) := by
  obtain ⟨v, a1, c1, a2, c2, e, H, k1, q1⟩ := opn_vl hx
  obtain ⟨u, b1, d1, b2, d2, e2, H2, k2, q2⟩ := opn_vl hy
  rw [vl_arg e, vl_arg e2]
  exact unlike_walk v a1 c1 a2 c2 u b1 d1 b2 d2 w H H2 ⟨k1, q1, H.fit⟩ ⟨k2, q2, H2.fit⟩
end Go.Proofs.Yticacnankpaohaa
