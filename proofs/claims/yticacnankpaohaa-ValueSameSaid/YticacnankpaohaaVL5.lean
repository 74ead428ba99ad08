/- value.Clone; ValueSame. -/
import Derived.Test.YticacnankpaohaaVL3
namespace Go.Proofs.Yticacnankpaohaa
open Go.ChangeShapes Go.WideShapes Go.ChangeAt Go.RowKit Go.Syn Go.Eng
set_option linter.unusedVariables false
set_option linter.unusedSimpArgs false
set_option maxRecDepth 100000
set_option maxRecDepth 100000 in
theorem tLSame : (runF ⟨tt, fns, { loops := [(8, ⟨[(37, .int .i64)], []⟩), (13, ⟨[(49, .int .i64)], []⟩)] }⟩ (Try.f8.body.getD .skip) Try.f8.results.toList (entry Try.f8.ntmps [.agg [.int .i64 (.var 0), .sl 0 (.var 0) (.var 1), .sl 1 (.var 2) (.var 3)], .agg [.int .i64 (.var 1), .sl 2 (.var 4) (.var 5), .sl 3 (.var 6) (.var 7)]] [] ⟨2, 0, 0, 8, 4⟩)) =
  (.call 9 [] ⟨[(25, [(.int .i64 (.var 0)), (.sl 0 (.var 0) (.var 1)), (.sl 1 (.var 2) (.var 3))]), (25, [(.int .i64 (.var 1)), (.sl 2 (.var 4) (.var 5)), (.sl 3 (.var 6) (.var 7))])], ⟨2, 0, 0, 8, 4⟩⟩ (.lf (.bool (.var 0))) ⟨[(25, [(.int .i64 (.var 0)), (.sl 0 (.var 0) (.var 1)), (.sl 1 (.var 2) (.var 3))]), (25, [(.int .i64 (.var 1)), (.sl 2 (.var 4) (.var 5)), (.sl 3 (.var 6) (.var 7))])], ⟨2, 1, 0, 8, 4⟩⟩ (.br (.not (.var 0)) (.done (.lf (.bool (.lit .false))) ⟨[(25, [(.int .i64 (.var 0)), (.sl 0 (.var 0) (.var 1)), (.sl 1 (.var 2) (.var 3))]), (25, [(.int .i64 (.var 1)), (.sl 2 (.var 4) (.var 5)), (.sl 3 (.var 6) (.var 7))])], ⟨2, 1, 0, 8, 4⟩⟩) (.call 32 [] ⟨[(25, [(.int .i64 (.var 0)), (.sl 0 (.var 0) (.var 1)), (.sl 1 (.var 2) (.var 3))]), (25, [(.int .i64 (.var 1)), (.sl 2 (.var 4) (.var 5)), (.sl 3 (.var 6) (.var 7))])], ⟨2, 1, 0, 8, 4⟩⟩ (.agg [(.int .i64 (.var 2)), (.sl 4 (.var 8) (.var 9)), (.sl 5 (.var 10) (.var 11))]) ⟨[(25, [(.int .i64 (.var 0)), (.sl 0 (.var 0) (.var 1)), (.sl 1 (.var 2) (.var 3))]), (25, [(.int .i64 (.var 1)), (.sl 2 (.var 4) (.var 5)), (.sl 3 (.var 6) (.var 7))])], ⟨3, 1, 0, 12, 6⟩⟩ (.call 32 [] ⟨[(25, [(.int .i64 (.var 0)), (.sl 0 (.var 0) (.var 1)), (.sl 1 (.var 2) (.var 3))]), (25, [(.int .i64 (.var 1)), (.sl 2 (.var 4) (.var 5)), (.sl 3 (.var 6) (.var 7))])], ⟨3, 1, 0, 12, 6⟩⟩ (.agg [(.int .i64 (.var 3)), (.sl 6 (.var 12) (.var 13)), (.sl 7 (.var 14) (.var 15))]) ⟨[(25, [(.int .i64 (.var 0)), (.sl 0 (.var 0) (.var 1)), (.sl 1 (.var 2) (.var 3))]), (25, [(.int .i64 (.var 1)), (.sl 2 (.var 4) (.var 5)), (.sl 3 (.var 6) (.var 7))])], ⟨4, 1, 0, 16, 8⟩⟩ (.call 31 [(.agg [(.int .i64 (.var 2)), (.sl 4 (.var 8) (.var 9)), (.sl 5 (.var 10) (.var 11))]), (.agg [(.int .i64 (.var 3)), (.sl 6 (.var 12) (.var 13)), (.sl 7 (.var 14) (.var 15))])] ⟨[(25, [(.int .i64 (.var 0)), (.sl 0 (.var 0) (.var 1)), (.sl 1 (.var 2) (.var 3))]), (25, [(.int .i64 (.var 1)), (.sl 2 (.var 4) (.var 5)), (.sl 3 (.var 6) (.var 7))])], ⟨4, 1, 0, 16, 8⟩⟩ (.lf (.bool (.var 1))) ⟨[(25, [(.int .i64 (.var 0)), (.sl 0 (.var 0) (.var 1)), (.sl 1 (.var 2) (.var 3))]), (25, [(.int .i64 (.var 1)), (.sl 2 (.var 4) (.var 5)), (.sl 3 (.var 6) (.var 7))])], ⟨4, 2, 0, 16, 8⟩⟩ (.br (.not (.var 1)) (.done (.lf (.bool (.lit .false))) ⟨[(25, [(.int .i64 (.var 0)), (.sl 0 (.var 0) (.var 1)), (.sl 1 (.var 2) (.var 3))]), (25, [(.int .i64 (.var 1)), (.sl 2 (.var 4) (.var 5)), (.sl 3 (.var 6) (.var 7))])], ⟨4, 2, 0, 16, 8⟩⟩) (.call 32 [] ⟨[(25, [(.int .i64 (.var 0)), (.sl 0 (.var 0) (.var 1)), (.sl 1 (.var 2) (.var 3))]), (25, [(.int .i64 (.var 1)), (.sl 2 (.var 4) (.var 5)), (.sl 3 (.var 6) (.var 7))])], ⟨4, 2, 0, 16, 8⟩⟩ (.agg [(.int .i64 (.var 4)), (.sl 8 (.var 16) (.var 17)), (.sl 9 (.var 18) (.var 19))]) ⟨[(25, [(.int .i64 (.var 0)), (.sl 0 (.var 0) (.var 1)), (.sl 1 (.var 2) (.var 3))]), (25, [(.int .i64 (.var 1)), (.sl 2 (.var 4) (.var 5)), (.sl 3 (.var 6) (.var 7))])], ⟨5, 2, 0, 20, 10⟩⟩ (.call 31 [(.agg [(.int .i64 (.var 4)), (.sl 8 (.var 16) (.var 17)), (.sl 9 (.var 18) (.var 19))]), (.agg [(.int .i64 (.lit 0)), .nilsl, .nilsl])] ⟨[(25, [(.int .i64 (.var 0)), (.sl 0 (.var 0) (.var 1)), (.sl 1 (.var 2) (.var 3))]), (25, [(.int .i64 (.var 1)), (.sl 2 (.var 4) (.var 5)), (.sl 3 (.var 6) (.var 7))])], ⟨5, 2, 0, 20, 10⟩⟩ (.lf (.bool (.var 2))) ⟨[(25, [(.int .i64 (.var 0)), (.sl 0 (.var 0) (.var 1)), (.sl 1 (.var 2) (.var 3))]), (25, [(.int .i64 (.var 1)), (.sl 2 (.var 4) (.var 5)), (.sl 3 (.var 6) (.var 7))])], ⟨5, 3, 0, 20, 10⟩⟩ (.br (.var 2) (.done (.lf (.bool (.lit .false))) ⟨[(25, [(.int .i64 (.var 0)), (.sl 0 (.var 0) (.var 1)), (.sl 1 (.var 2) (.var 3))]), (25, [(.int .i64 (.var 1)), (.sl 2 (.var 4) (.var 5)), (.sl 3 (.var 6) (.var 7))])], ⟨5, 3, 0, 20, 10⟩⟩) (.call 11 [(.agg [(.int .i64 (.var 0)), (.sl 0 (.var 0) (.var 1)), (.sl 1 (.var 2) (.var 3))])] ⟨[(25, [(.int .i64 (.var 0)), (.sl 0 (.var 0) (.var 1)), (.sl 1 (.var 2) (.var 3))]), (25, [(.int .i64 (.var 1)), (.sl 2 (.var 4) (.var 5)), (.sl 3 (.var 6) (.var 7))])], ⟨5, 3, 0, 20, 10⟩⟩ (.agg [(.int .i64 (.var 5)), (.sl 10 (.var 20) (.var 21)), (.sl 11 (.var 22) (.var 23))]) ⟨[(25, [(.int .i64 (.var 0)), (.sl 0 (.var 0) (.var 1)), (.sl 1 (.var 2) (.var 3))]), (25, [(.int .i64 (.var 1)), (.sl 2 (.var 4) (.var 5)), (.sl 3 (.var 6) (.var 7))])], ⟨6, 3, 0, 24, 12⟩⟩ (.call 11 [(.agg [(.int .i64 (.var 1)), (.sl 2 (.var 4) (.var 5)), (.sl 3 (.var 6) (.var 7))])] ⟨[(25, [(.int .i64 (.var 0)), (.sl 0 (.var 0) (.var 1)), (.sl 1 (.var 2) (.var 3))]), (25, [(.int .i64 (.var 1)), (.sl 2 (.var 4) (.var 5)), (.sl 3 (.var 6) (.var 7))]), (25, [(.int .i64 (.var 5)), (.sl 10 (.var 20) (.var 21)), (.sl 11 (.var 22) (.var 23))])], ⟨6, 3, 0, 24, 12⟩⟩ (.agg [(.int .i64 (.var 6)), (.sl 12 (.var 24) (.var 25)), (.sl 13 (.var 26) (.var 27))]) ⟨[(25, [(.int .i64 (.var 0)), (.sl 0 (.var 0) (.var 1)), (.sl 1 (.var 2) (.var 3))]), (25, [(.int .i64 (.var 1)), (.sl 2 (.var 4) (.var 5)), (.sl 3 (.var 6) (.var 7))]), (25, [(.int .i64 (.var 5)), (.sl 10 (.var 20) (.var 21)), (.sl 11 (.var 22) (.var 23))])], ⟨7, 3, 0, 28, 14⟩⟩ (.call 31 [(.agg [(.int .i64 (.var 5)), (.sl 10 (.var 20) (.var 21)), (.sl 11 (.var 22) (.var 23))]), (.agg [(.int .i64 (.var 6)), (.sl 12 (.var 24) (.var 25)), (.sl 13 (.var 26) (.var 27))])] ⟨[(25, [(.int .i64 (.var 0)), (.sl 0 (.var 0) (.var 1)), (.sl 1 (.var 2) (.var 3))]), (25, [(.int .i64 (.var 1)), (.sl 2 (.var 4) (.var 5)), (.sl 3 (.var 6) (.var 7))]), (25, [(.int .i64 (.var 5)), (.sl 10 (.var 20) (.var 21)), (.sl 11 (.var 22) (.var 23))])], ⟨7, 3, 0, 28, 14⟩⟩ (.lf (.bool (.var 3))) ⟨[(25, [(.int .i64 (.var 0)), (.sl 0 (.var 0) (.var 1)), (.sl 1 (.var 2) (.var 3))]), (25, [(.int .i64 (.var 1)), (.sl 2 (.var 4) (.var 5)), (.sl 3 (.var 6) (.var 7))]), (25, [(.int .i64 (.var 5)), (.sl 10 (.var 20) (.var 21)), (.sl 11 (.var 22) (.var 23))])], ⟨7, 4, 0, 28, 14⟩⟩ (.call 21 [(.agg [(.int .i64 (.var 0)), (.sl 0 (.var 0) (.var 1)), (.sl 1 (.var 2) (.var 3))]), (.agg [(.int .i64 (.var 1)), (.sl 2 (.var 4) (.var 5)), (.sl 3 (.var 6) (.var 7))])] ⟨[(25, [(.int .i64 (.var 0)), (.sl 0 (.var 0) (.var 1)), (.sl 1 (.var 2) (.var 3))]), (25, [(.int .i64 (.var 1)), (.sl 2 (.var 4) (.var 5)), (.sl 3 (.var 6) (.var 7))]), (25, [(.int .i64 (.var 5)), (.sl 10 (.var 20) (.var 21)), (.sl 11 (.var 22) (.var 23))])], ⟨7, 4, 0, 28, 14⟩⟩ (.lf (.bool (.var 4))) ⟨[(25, [(.int .i64 (.var 0)), (.sl 0 (.var 0) (.var 1)), (.sl 1 (.var 2) (.var 3))]), (25, [(.int .i64 (.var 1)), (.sl 2 (.var 4) (.var 5)), (.sl 3 (.var 6) (.var 7))]), (25, [(.int .i64 (.var 5)), (.sl 10 (.var 20) (.var 21)), (.sl 11 (.var 22) (.var 23))])], ⟨7, 5, 0, 28, 14⟩⟩ (.br (.not (.eqb (.var 3) (.var 4))) (.done (.lf (.bool (.lit .false))) ⟨[(25, [(.int .i64 (.var 0)), (.sl 0 (.var 0) (.var 1)), (.sl 1 (.var 2) (.var 3))]), (25, [(.int .i64 (.var 1)), (.sl 2 (.var 4) (.var 5)), (.sl 3 (.var 6) (.var 7))]), (25, [(.int .i64 (.var 5)), (.sl 10 (.var 20) (.var 21)), (.sl 11 (.var 22) (.var 23))])], ⟨7, 5, 0, 28, 14⟩⟩) (.call 33 [(.agg [(.int .i64 (.var 5)), (.sl 10 (.var 20) (.var 21)), (.sl 11 (.var 22) (.var 23))])] ⟨[(25, [(.int .i64 (.var 0)), (.sl 0 (.var 0) (.var 1)), (.sl 1 (.var 2) (.var 3))]), (25, [(.int .i64 (.var 1)), (.sl 2 (.var 4) (.var 5)), (.sl 3 (.var 6) (.var 7))]), (25, [(.int .i64 (.var 5)), (.sl 10 (.var 20) (.var 21)), (.sl 11 (.var 22) (.var 23))])], ⟨7, 5, 0, 28, 14⟩⟩ (.agg [(.int .i64 (.var 7)), (.sl 14 (.var 28) (.var 29)), (.sl 15 (.var 30) (.var 31))]) ⟨[(25, [(.int .i64 (.var 0)), (.sl 0 (.var 0) (.var 1)), (.sl 1 (.var 2) (.var 3))]), (25, [(.int .i64 (.var 1)), (.sl 2 (.var 4) (.var 5)), (.sl 3 (.var 6) (.var 7))]), (25, [(.int .i64 (.var 5)), (.sl 10 (.var 20) (.var 21)), (.sl 11 (.var 22) (.var 23))])], ⟨8, 5, 0, 32, 16⟩⟩ (.loop 8 ⟨[(.lit 0)], [], [], [], []⟩ ⟨[(25, [(.int .i64 (.var 0)), (.sl 0 (.var 0) (.var 1)), (.sl 1 (.var 2) (.var 3))]), (25, [(.int .i64 (.var 1)), (.sl 2 (.var 4) (.var 5)), (.sl 3 (.var 6) (.var 7))]), (25, [(.int .i64 (.var 5)), (.sl 10 (.var 20) (.var 21)), (.sl 11 (.var 22) (.var 23))]), (25, [(.int .i64 (.var 7)), (.sl 14 (.var 28) (.var 29)), (.sl 15 (.var 30) (.var 31))])], ⟨8, 5, 0, 32, 16⟩⟩ ⟨[(25, [(.int .i64 (.var 0)), (.sl 0 (.var 0) (.var 1)), (.sl 1 (.var 2) (.var 3))]), (25, [(.int .i64 (.var 1)), (.sl 2 (.var 4) (.var 5)), (.sl 3 (.var 6) (.var 7))]), (25, [(.int .i64 (.var 5)), (.sl 10 (.var 20) (.var 21)), (.sl 11 (.var 22) (.var 23))]), (25, [(.int .i64 (.var 7)), (.sl 14 (.var 28) (.var 29)), (.sl 15 (.var 30) (.var 31))])], ⟨9, 5, 0, 32, 16⟩⟩ (.br (.cmp .lss (.var 8) (.nat 20)) (.need (.inb 10 (.var 8) (.nat 20)) (.gen (.store 3 (.tmp 44) (.const (.int .i64 (-1)))) 0 [(44, (.lf (.adr 10 (.var 8) 8 1)))] ⟨[(25, [(.int .i64 (.var 0)), (.sl 0 (.var 0) (.var 1)), (.sl 1 (.var 2) (.var 3))]), (25, [(.int .i64 (.var 1)), (.sl 2 (.var 4) (.var 5)), (.sl 3 (.var 6) (.var 7))]), (25, [(.int .i64 (.var 5)), (.sl 10 (.var 20) (.var 21)), (.sl 11 (.var 22) (.var 23))]), (25, [(.int .i64 (.var 7)), (.sl 14 (.var 28) (.var 29)), (.sl 15 (.var 30) (.var 31))])], ⟨9, 5, 0, 32, 16⟩⟩ .none ⟨[(25, [(.int .i64 (.var 0)), (.sl 0 (.var 0) (.var 1)), (.sl 1 (.var 2) (.var 3))]), (25, [(.int .i64 (.var 1)), (.sl 2 (.var 4) (.var 5)), (.sl 3 (.var 6) (.var 7))]), (25, [(.int .i64 (.var 5)), (.sl 10 (.var 20) (.var 21)), (.sl 11 (.var 22) (.var 23))]), (25, [(.int .i64 (.var 7)), (.sl 14 (.var 28) (.var 29)), (.sl 15 (.var 30) (.var 31))])], ⟨9, 5, 0, 32, 16⟩⟩ (.again 8 ⟨[(.op .add .i64 (.var 8) (.lit 1))], [], [], [], []⟩ ⟨[(25, [(.int .i64 (.var 0)), (.sl 0 (.var 0) (.var 1)), (.sl 1 (.var 2) (.var 3))]), (25, [(.int .i64 (.var 1)), (.sl 2 (.var 4) (.var 5)), (.sl 3 (.var 6) (.var 7))]), (25, [(.int .i64 (.var 5)), (.sl 10 (.var 20) (.var 21)), (.sl 11 (.var 22) (.var 23))]), (25, [(.int .i64 (.var 7)), (.sl 14 (.var 28) (.var 29)), (.sl 15 (.var 30) (.var 31))])], ⟨9, 5, 0, 32, 16⟩⟩))) (.loop 13 ⟨[(.lit 0)], [], [], [], []⟩ ⟨[(25, [(.int .i64 (.var 0)), (.sl 0 (.var 0) (.var 1)), (.sl 1 (.var 2) (.var 3))]), (25, [(.int .i64 (.var 1)), (.sl 2 (.var 4) (.var 5)), (.sl 3 (.var 6) (.var 7))]), (25, [(.int .i64 (.var 5)), (.sl 10 (.var 20) (.var 21)), (.sl 11 (.var 22) (.var 23))]), (25, [(.int .i64 (.var 7)), (.sl 14 (.var 28) (.var 29)), (.sl 15 (.var 30) (.var 31))])], ⟨9, 5, 0, 32, 16⟩⟩ ⟨[(25, [(.int .i64 (.var 0)), (.sl 0 (.var 0) (.var 1)), (.sl 1 (.var 2) (.var 3))]), (25, [(.int .i64 (.var 1)), (.sl 2 (.var 4) (.var 5)), (.sl 3 (.var 6) (.var 7))]), (25, [(.int .i64 (.var 5)), (.sl 10 (.var 20) (.var 21)), (.sl 11 (.var 22) (.var 23))]), (25, [(.int .i64 (.var 7)), (.sl 14 (.var 28) (.var 29)), (.sl 15 (.var 30) (.var 31))])], ⟨10, 5, 0, 32, 16⟩⟩ (.br (.cmp .lss (.var 9) (.nat 22)) (.need (.inb 11 (.var 9) (.nat 22)) (.gen (.store 3 (.tmp 55) (.const (.int .i64 (-1)))) 0 [(55, (.lf (.adr 11 (.var 9) 1 0)))] ⟨[(25, [(.int .i64 (.var 0)), (.sl 0 (.var 0) (.var 1)), (.sl 1 (.var 2) (.var 3))]), (25, [(.int .i64 (.var 1)), (.sl 2 (.var 4) (.var 5)), (.sl 3 (.var 6) (.var 7))]), (25, [(.int .i64 (.var 5)), (.sl 10 (.var 20) (.var 21)), (.sl 11 (.var 22) (.var 23))]), (25, [(.int .i64 (.var 7)), (.sl 14 (.var 28) (.var 29)), (.sl 15 (.var 30) (.var 31))])], ⟨10, 5, 0, 32, 16⟩⟩ .none ⟨[(25, [(.int .i64 (.var 0)), (.sl 0 (.var 0) (.var 1)), (.sl 1 (.var 2) (.var 3))]), (25, [(.int .i64 (.var 1)), (.sl 2 (.var 4) (.var 5)), (.sl 3 (.var 6) (.var 7))]), (25, [(.int .i64 (.var 5)), (.sl 10 (.var 20) (.var 21)), (.sl 11 (.var 22) (.var 23))]), (25, [(.int .i64 (.var 7)), (.sl 14 (.var 28) (.var 29)), (.sl 15 (.var 30) (.var 31))])], ⟨10, 5, 0, 32, 16⟩⟩ (.again 13 ⟨[(.op .add .i64 (.var 9) (.lit 1))], [], [], [], []⟩ ⟨[(25, [(.int .i64 (.var 0)), (.sl 0 (.var 0) (.var 1)), (.sl 1 (.var 2) (.var 3))]), (25, [(.int .i64 (.var 1)), (.sl 2 (.var 4) (.var 5)), (.sl 3 (.var 6) (.var 7))]), (25, [(.int .i64 (.var 5)), (.sl 10 (.var 20) (.var 21)), (.sl 11 (.var 22) (.var 23))]), (25, [(.int .i64 (.var 7)), (.sl 14 (.var 28) (.var 29)), (.sl 15 (.var 30) (.var 31))])], ⟨10, 5, 0, 32, 16⟩⟩))) (.call 21 [(.agg [(.int .i64 (.var 7)), (.sl 14 (.var 28) (.var 29)), (.sl 15 (.var 30) (.var 31))]), (.agg [(.int .i64 (.var 0)), (.sl 0 (.var 0) (.var 1)), (.sl 1 (.var 2) (.var 3))])] ⟨[(25, [(.int .i64 (.var 0)), (.sl 0 (.var 0) (.var 1)), (.sl 1 (.var 2) (.var 3))]), (25, [(.int .i64 (.var 1)), (.sl 2 (.var 4) (.var 5)), (.sl 3 (.var 6) (.var 7))]), (25, [(.int .i64 (.var 5)), (.sl 10 (.var 20) (.var 21)), (.sl 11 (.var 22) (.var 23))]), (25, [(.int .i64 (.var 7)), (.sl 14 (.var 28) (.var 29)), (.sl 15 (.var 30) (.var 31))])], ⟨10, 5, 0, 32, 16⟩⟩ (.lf (.bool (.var 5))) ⟨[(25, [(.int .i64 (.var 0)), (.sl 0 (.var 0) (.var 1)), (.sl 1 (.var 2) (.var 3))]), (25, [(.int .i64 (.var 1)), (.sl 2 (.var 4) (.var 5)), (.sl 3 (.var 6) (.var 7))]), (25, [(.int .i64 (.var 5)), (.sl 10 (.var 20) (.var 21)), (.sl 11 (.var 22) (.var 23))]), (25, [(.int .i64 (.var 7)), (.sl 14 (.var 28) (.var 29)), (.sl 15 (.var 30) (.var 31))])], ⟨10, 6, 0, 32, 16⟩⟩ (.done (.lf (.bool (.var 5))) ⟨[(25, [(.int .i64 (.var 0)), (.sl 0 (.var 0) (.var 1)), (.sl 1 (.var 2) (.var 3))]), (25, [(.int .i64 (.var 1)), (.sl 2 (.var 4) (.var 5)), (.sl 3 (.var 6) (.var 7))]), (25, [(.int .i64 (.var 5)), (.sl 10 (.var 20) (.var 21)), (.sl 11 (.var 22) (.var 23))]), (25, [(.int .i64 (.var 7)), (.sl 14 (.var 28) (.var 29)), (.sl 15 (.var 30) (.var 31))])], ⟨10, 6, 0, 32, 16⟩⟩))))))))))))))))))))) := by kernel_rfl
set_option maxRecDepth 100000 in
theorem tSCloneC : (runF ⟨tt, fns, { }⟩ (Try.f50.body.getD .skip) Try.f50.results.toList (entry Try.f50.ntmps [.lf (.sl 0 (.var 0) (.var 1))] [] ⟨0, 0, 0, 2, 1⟩)) =
  (.br (.anone 0) (.done (.lf .nilsl) ⟨[], ⟨0, 0, 0, 2, 1⟩⟩) (.gen (.call ⟨(.builtin .append), #[(.tmp 5), (.tmp 6)], #[22, 22]⟩) 22 [(5, (.lf (.nsl 0 0 0 0))), (6, (.lf (.sl 0 (.var 0) (.var 1))))] ⟨[(29, [])], ⟨0, 0, 0, 2, 1⟩⟩ (.some (.lf (.sl 1 (.var 2) (.var 3)))) ⟨[(29, [])], ⟨0, 0, 0, 4, 2⟩⟩ (.done (.lf (.sl 1 (.var 2) (.var 3))) ⟨[(29, [])], ⟨0, 0, 0, 4, 2⟩⟩))) := by kernel_rfl
set_option maxRecDepth 100000 in
theorem tSCloneN : (runF ⟨tt, fns, { }⟩ (Try.f51.body.getD .skip) Try.f51.results.toList (entry Try.f51.ntmps [.lf (.sl 0 (.var 0) (.var 1))] [] ⟨0, 0, 0, 2, 1⟩)) =
  (.br (.anone 0) (.done (.lf .nilsl) ⟨[], ⟨0, 0, 0, 2, 1⟩⟩) (.gen (.call ⟨(.builtin .append), #[(.tmp 5), (.tmp 6)], #[23, 23]⟩) 23 [(5, (.lf (.nsl 0 0 0 0))), (6, (.lf (.sl 0 (.var 0) (.var 1))))] ⟨[(3, [])], ⟨0, 0, 0, 2, 1⟩⟩ (.some (.lf (.sl 1 (.var 2) (.var 3)))) ⟨[(3, [])], ⟨0, 0, 0, 4, 2⟩⟩ (.done (.lf (.sl 1 (.var 2) (.var 3))) ⟨[(3, [])], ⟨0, 0, 0, 4, 2⟩⟩))) := by kernel_rfl
set_option maxRecDepth 100000 in
theorem tVClone : (runF ⟨tt, fns, { }⟩ (Try.f33.body.getD .skip) Try.f33.results.toList (entry Try.f33.ntmps [.agg [.int .i64 (.var 0), .sl 0 (.var 0) (.var 1), .sl 1 (.var 2) (.var 3)]] [] ⟨1, 0, 0, 4, 2⟩)) =
  (.par (.par (.call 50 [(.lf (.sl 0 (.var 0) (.var 1)))] ⟨[(25, [(.int .i64 (.var 0)), (.sl 0 (.var 0) (.var 1)), (.sl 1 (.var 2) (.var 3))]), (25, [(.int .i64 (.lit 0)), .nilsl, .nilsl])], ⟨1, 0, 0, 4, 2⟩⟩ (.lf (.sl 2 (.var 4) (.var 5))) ⟨[(25, [(.int .i64 (.var 0)), (.sl 0 (.var 0) (.var 1)), (.sl 1 (.var 2) (.var 3))]), (25, [(.int .i64 (.lit 0)), .nilsl, .nilsl])], ⟨1, 0, 0, 6, 3⟩⟩ (.call 51 [(.lf (.sl 1 (.var 2) (.var 3)))] ⟨[(25, [(.int .i64 (.var 0)), (.sl 0 (.var 0) (.var 1)), (.sl 1 (.var 2) (.var 3))]), (25, [(.int .i64 (.lit 0)), .nilsl, .nilsl])], ⟨1, 0, 0, 6, 3⟩⟩ (.lf (.sl 3 (.var 6) (.var 7))) ⟨[(25, [(.int .i64 (.var 0)), (.sl 0 (.var 0) (.var 1)), (.sl 1 (.var 2) (.var 3))]), (25, [(.int .i64 (.lit 0)), .nilsl, .nilsl])], ⟨1, 0, 0, 8, 4⟩⟩ (.done (.agg [(.int .i64 (.var 0)), (.sl 2 (.var 4) (.var 5)), (.sl 3 (.var 6) (.var 7))]) ⟨[(25, [(.int .i64 (.var 0)), (.sl 2 (.var 4) (.var 5)), (.sl 3 (.var 6) (.var 7))]), (25, [(.int .i64 (.var 0)), (.sl 2 (.var 4) (.var 5)), (.sl 3 (.var 6) (.var 7))])], ⟨1, 0, 0, 8, 4⟩⟩))) (.call 50 [(.lf (.sl 0 (.var 0) (.var 1)))] ⟨[(25, [(.int .i64 (.var 0)), (.sl 0 (.var 0) (.var 1)), (.sl 1 (.var 2) (.var 3))]), (25, [(.int .i64 (.lit 0)), .nilsl, .nilsl])], ⟨1, 0, 0, 4, 2⟩⟩ (.lf (.sl 2 (.var 4) (.var 5))) ⟨[(25, [(.int .i64 (.var 0)), (.sl 0 (.var 0) (.var 1)), (.sl 1 (.var 2) (.var 3))]), (25, [(.int .i64 (.lit 0)), .nilsl, .nilsl])], ⟨1, 0, 0, 6, 3⟩⟩ (.call 51 [(.lf (.sl 1 (.var 2) (.var 3)))] ⟨[(25, [(.int .i64 (.var 0)), (.sl 0 (.var 0) (.var 1)), (.sl 1 (.var 2) (.var 3))]), (25, [(.int .i64 (.lit 0)), .nilsl, .nilsl])], ⟨1, 0, 0, 6, 3⟩⟩ (.lf (.sl 3 (.var 6) (.var 7))) ⟨[(25, [(.int .i64 (.var 0)), (.sl 0 (.var 0) (.var 1)), (.sl 1 (.var 2) (.var 3))]), (25, [(.int .i64 (.lit 0)), .nilsl, .nilsl])], ⟨1, 0, 0, 8, 4⟩⟩ (.done (.agg [(.int .i64 (.var 0)), (.sl 2 (.var 4) (.var 5)), (.sl 3 (.var 6) (.var 7))]) ⟨[(25, [(.int .i64 (.var 0)), (.sl 2 (.var 4) (.var 5)), (.sl 3 (.var 6) (.var 7))]), (25, [(.int .i64 (.var 0)), (.sl 2 (.var 4) (.var 5)), (.sl 3 (.var 6) (.var 7))])], ⟨1, 0, 0, 8, 4⟩⟩)))) (.call 50 [(.lf (.sl 0 (.var 0) (.var 1)))] ⟨[(25, [(.int .i64 (.var 0)), (.sl 0 (.var 0) (.var 1)), (.sl 1 (.var 2) (.var 3))]), (25, [(.int .i64 (.lit 0)), .nilsl, .nilsl])], ⟨1, 0, 0, 4, 2⟩⟩ (.lf (.sl 2 (.var 4) (.var 5))) ⟨[(25, [(.int .i64 (.var 0)), (.sl 0 (.var 0) (.var 1)), (.sl 1 (.var 2) (.var 3))]), (25, [(.int .i64 (.lit 0)), .nilsl, .nilsl])], ⟨1, 0, 0, 6, 3⟩⟩ (.call 51 [(.lf (.sl 1 (.var 2) (.var 3)))] ⟨[(25, [(.int .i64 (.var 0)), (.sl 0 (.var 0) (.var 1)), (.sl 1 (.var 2) (.var 3))]), (25, [(.int .i64 (.lit 0)), .nilsl, .nilsl])], ⟨1, 0, 0, 6, 3⟩⟩ (.lf (.sl 3 (.var 6) (.var 7))) ⟨[(25, [(.int .i64 (.var 0)), (.sl 0 (.var 0) (.var 1)), (.sl 1 (.var 2) (.var 3))]), (25, [(.int .i64 (.lit 0)), .nilsl, .nilsl])], ⟨1, 0, 0, 8, 4⟩⟩ (.done (.agg [(.int .i64 (.var 0)), (.sl 2 (.var 4) (.var 5)), (.sl 3 (.var 6) (.var 7))]) ⟨[(25, [(.int .i64 (.var 0)), (.sl 2 (.var 4) (.var 5)), (.sl 3 (.var 6) (.var 7))]), (25, [(.int .i64 (.var 0)), (.sl 2 (.var 4) (.var 5)), (.sl 3 (.var 6) (.var 7))])], ⟨1, 0, 0, 8, 4⟩⟩)))) := by kernel_rfl
/-- A slice in new memory. -/
def ClNew (w : World) (n : Nat) (xs : List Value) (e : Ending) (w' : World) : Prop := ∃ a' c', e = .returned (.slice a' n c') ∧ (HX.cl a' xs).X w' ∧ (∀ k, (HX.cl a' xs).F k → w.heap.size ≤ k) ∧ Below w.heap.size w w'
theorem none_nil {w : World} {xs : List Value} (h : Cells w none xs) : xs = [] := by
  cases xs with
  | nil => rfl
  | cons x r => exact absurd (h (by simp)).1 (by simp [PlainA])
theorem scloneC_any (a : Option Addr) (cap : Nat) (cs : List CmD) (w : World) (H : Cells w a (ccells cs)) (hl : cs.length ≤ 2199023255552) : Calls Try.prog 50 #[.slice a cs.length cap] w (ClNew w cs.length (ccells cs)) := by
  refine calls_at (tab_ok _) Try.func50 rfl tSCloneC (ρ := ⟨[], [], [], [cs.length, cap], [a]⟩) (ids := []) (hx := HX.cl a (ccells cs)) rfl (Facts.initq rfl oneNil H (cl_sep H)) ?_
  by_cases h : a.isNone = true
  · refine br_t h ?_
    obtain rfl : a = none := by simpa using h
    have e := none_nil H
    have e2 : cs = [] := Classical.byContradiction fun q => ccells_ne q e
    subst e2
    intro ids w2 hp hf
    exact ⟨none, 0, rfl, fun h => by simp [ccells] at h, fun k hk => absurd rfl hk.1, hf.chg.below⟩
  · refine br_f (show a.isNone = false by cases a with | none => exact absurd rfl h | some x => rfl) ?_
    refine node_clones (sz := 8) (xs := ccells cs) rfl Try.underlying22 info_cmd rfl (by decide) 0 rfl (fun _ => a) cs.length cap (ccells_len _) (fun ids w2 hp hf => hf.x) (ccells_one cs) (by unfold maxLen; omega) (by omega) (fun _ => rfl) (fun _ => rfl) (fun _ _ _ => rfl) rfl rfl (fun _ _ => rfl) ?_
    intro a' c' hfr ids w2 hp hf
    exact ⟨a', c', rfl, rw_cells hf.x.2, rw_fresh hf.x.2 (fun k h1 h2 => (hfr k h1 h2).1), hf.chg.below⟩
theorem scloneN_any (a : Option Addr) (cap : Nat) (ns : List Int) (w : World) (H : Cells w a (ns.map (Value.int .i64))) (hl : ns.length ≤ 17592186044416) : Calls Try.prog 51 #[.slice a ns.length cap] w (ClNew w ns.length (ns.map (Value.int .i64))) := by
  refine calls_at (tab_ok _) Try.func51 rfl tSCloneN (ρ := ⟨[], [], [], [ns.length, cap], [a]⟩) (ids := []) (hx := HX.cl a (ns.map (Value.int .i64))) rfl (Facts.initq rfl oneNil H (cl_sep H)) ?_
  by_cases h : a.isNone = true
  · refine br_t h ?_
    obtain rfl : a = none := by simpa using h
    have e := none_nil H
    have e2 : ns = [] := by simpa using e
    subst e2
    intro ids w2 hp hf
    exact ⟨none, 0, rfl, fun h => by simp at h, fun k hk => absurd rfl hk.1, hf.chg.below⟩
  · refine br_f (show a.isNone = false by cases a with | none => exact absurd rfl h | some x => rfl) ?_
    refine node_clones (sz := 1) (xs := ns.map (Value.int .i64)) rfl Try.underlying23 info_int1 rfl (by decide) 0 rfl (fun _ => a) ns.length cap (by rw [List.length_map, Nat.mul_one]) (fun ids w2 hp hf => hf.x) (fun x hx => by obtain ⟨n, _, rfl⟩ := List.mem_map.1 hx; rfl) (by unfold maxLen; omega) (by omega) (fun _ => rfl) (fun _ => rfl) (fun _ _ _ => rfl) rfl rfl (fun _ _ => rfl) ?_
    intro a' c' hfr ids w2 hp hf
    exact ⟨a', c', rfl, rw_cells hf.x.2, rw_fresh hf.x.2 (fun k h1 h2 => (hfr k h1 h2).1), hf.chg.below⟩
section
variable {C : Cfg} {ρ : Env} {pre : List Nat} {hx : HX} {L : Stack} {m m' : Mem} {args : List SV} {r : SV} {t : Tree}
theorem node_cl {f : Nat} {n : Nat} {xs : List Value} (AS : List Nat → Array Value) (vs : Option Addr → Nat → Vals) (hargs : ∀ ids, (args.map (SV.den ρ ids)).toArray = AS ids) (hcall : ∀ ids w, pre <+: ids → Facts C m ρ ids hx w → Calls C.P f (AS ids) w (ClNew w n xs))
    (hr : ∀ a' c' ids, r.den (ρ.add (vs a' c')) ids = .slice a' n c') (hhp : m'.hp = m.hp) (hfit : hpFits m.c m.hp.length m.hp = true) (hc : ∀ a' c', (ρ.add (vs a' c')).cnt = m'.c) (h1 : ∀ a' c' v, v ∈ (vs a' c').v → v.oneCell' = true)
    (h : ∀ a' c', (∀ k, (HX.cl a' xs).F k → C.W.heap.size ≤ k ∧ ¬ hx.F k) → t.holds C (ρ.add (vs a' c')) pre (hx.and (HX.cl a' xs)) L) : (Tree.call f args m r m' t).holds C ρ pre hx L := by
  refine node_out AS (fun u hy => ∃ a' c', u = vs a' c' ∧ hy = HX.cl a' xs) hargs (fun ids w hp hf => ?_) hhp hfit ?_ ?_
  · refine (hcall ids w hp hf).mono ?_
    rintro e w' ⟨a', c', rfl, hX, hge, hb⟩
    exact ⟨_, _, ⟨a', c', rfl, rfl⟩, by rw [hr], hX, fun k hk => ⟨hge k hk, cl_sep hX k hk⟩, hb⟩
  · rintro u hy ⟨a', c', rfl, rfl⟩
    exact ⟨hc _ _, h1 _ _⟩
  · rintro u hy ⟨a', c', rfl, rfl⟩ hfr
    exact h a' c' hfr
end
theorem vclone_any (v : Vl) (a1 : Option Addr) (c1 : Nat) (a2 : Option Addr) (c2 : Nat) (w : World) (H : VlAt w v a1 a2) : Calls Try.prog 33 #[vlV v a1 c1 a2 c2] w (VlNew w id v) := by
  refine calls_at (tab_ok _) Try.func33 rfl tVClone (ρ := ⟨[v.k], [], [], [v.cs.length, c1, v.ns.length, c2], [a1, a2]⟩) (ids := []) (hx := vlX v a1 a2) rfl (Facts.initq rfl oneNil H.X (vlX_sep H.X)) ?_
  refine par_i (par_i ?_ ?_) ?_
  all_goals
    refine node_cl (n := v.cs.length) (xs := ccells v.cs) (fun _ => #[.slice a1 v.cs.length c1]) (fun a' c' => ⟨[], [], [], [v.cs.length, c'], [a']⟩) (by intros; kernel_rfl) (fun ids w2 hp hf => scloneC_any a1 c1 v.cs w2 hf.x.1 H.l1) (by intros; kernel_rfl) (by intros; kernel_rfl) (by intros; kernel_rfl) (by intros; kernel_rfl) (fun _ _ => oneNil) ?_
    intro b1 d1 hf1
    refine node_cl (n := v.ns.length) (xs := v.ns.map (Value.int .i64)) (fun _ => #[.slice a2 v.ns.length c2]) (fun a' c' => ⟨[], [], [], [v.ns.length, c'], [a']⟩) (by intros; kernel_rfl) (fun ids w2 hp hf => scloneN_any a2 c2 v.ns w2 hf.x.1.2 H.l2) (by intros; kernel_rfl) (by intros; kernel_rfl) (by intros; kernel_rfl) (by intros; kernel_rfl) (fun _ _ => oneNil) ?_
    intro b2 d2 hf2 ids w2 hp hf
    exact ⟨b1, d1, b2, d2, rfl, ⟨hf.x.1.2, hf.x.2⟩, fun k hk => hk.elim (fun q => (hf1 k q).1) (fun q => (hf2 k q).1), hf.chg.below⟩
theorem row_isS {b : Option Addr} {n d sz e : Nat} {cs : List Value} {w : World} (hx : (HX.rw sz e b n d cs).X w) (hne : cs ≠ []) : b.isSome = true := by
  have hc : d ≠ 0 := fun q => by
    rcases hx with ⟨_, _, h3⟩ | ⟨h3, _⟩
    · exact hne h3
    · exact h3 q
  obtain ⟨g, _, rfl, _⟩ := rw_open hx hc
  rfl
/-- A copy, told of by its rows. -/
def VlRow (w : World) (v : Vl) (e : Ending) (w' : World) : Prop := ∃ a1 c1 a2 c2, e = .returned (vlV v a1 c1 a2 c2) ∧ (crow a1 v.cs.length c1 v.cs).X w' ∧ (nrow a2 v.ns.length c2 v.ns).X w' ∧ (∀ k, (crow a1 v.cs.length c1 v.cs).F k → w.heap.size ≤ k) ∧ (∀ k, (nrow a2 v.ns.length c2 v.ns).F k → w.heap.size ≤ k ∧ ¬ (crow a1 v.cs.length c1 v.cs).F k) ∧ Below w.heap.size w w'
theorem cpvr_any (v : Vl) (a1 : Option Addr) (c1 : Nat) (a2 : Option Addr) (c2 : Nat) (w : World) (H : VlAt w v a1 a2) : Calls Try.prog 11 #[vlV v a1 c1 a2 c2] w (VlRow w v) := by
  have l1 := H.l1
  have l2 := H.l2
  refine calls_at (tab_ok _) Try.func11 rfl tCpVal (ρ := ⟨[v.k], [], [], [v.cs.length, c1, v.ns.length, c2], [a1, a2]⟩) (ids := []) (hx := vlX v a1 a2) rfl (Facts.initq rfl oneNil H.X (vlX_sep H.X)) ?_
  refine node_appends (xs := []) rfl Try.underlying22 info_cmd rfl (by decide) none 0 0 (fun _ => a1) v.cs.length c1 (ccells v.cs) (ccells_len _) (fun ids w _ _ => HX.rw_nil _ _ _ w) (fun ids w2 hp hf => hf.x.1) (ccells_one _) (fun w h => ⟨h, fun _ q => q⟩) (fun k h => absurd rfl h) (fun k h => absurd rfl h) (fun k h => absurd rfl h) (by unfold maxLen; omega) (by omega) (by intros; kernel_rfl) (by intros; kernel_rfl) (by intros; kernel_rfl) (by intros; kernel_rfl) (by intros; kernel_rfl) (by intros; kernel_rfl) ?_
  intro b1 d1 _ hd1 hw1
  refine node_appends (xs := []) rfl Try.underlying23 info_int1 rfl (by decide) none 0 0 (fun _ => a2) v.ns.length c2 (v.ns.map (Value.int .i64)) (by rw [List.length_map]; omega) (fun ids w _ _ => HX.rw_nil _ _ _ w) (fun ids w2 hp hf => hf.x.1.2) (fun x hx => by obtain ⟨n, _, rfl⟩ := List.mem_map.1 hx; rfl) (fun w h => ⟨h, fun _ q => q⟩) (fun k h => absurd rfl h) (fun k h => absurd rfl h) (fun k h => absurd rfl h) (by unfold maxLen; omega) (by omega) (by intros; kernel_rfl) (by intros; kernel_rfl) (by intros; kernel_rfl) (by intros; kernel_rfl) (by intros; kernel_rfl) (by intros; kernel_rfl) ?_
  intro b2 d2 _ hd2 hw2 ids w2 hp hf
  have e1 := hf.x.1.2
  have e2 := hf.x.2
  rw [List.nil_append] at e1 e2
  have z1 : 0 + v.cs.length = v.cs.length := Nat.zero_add _
  have z2 : 0 + v.ns.length = v.ns.length := Nat.zero_add _
  rw [z1] at e1
  rw [z2] at e2
  refine ⟨b1, d1, b2, d2, ?_, e1, e2, ?_, ?_, hf.chg.below⟩
  · show Ending.returned (.agg #[.int .i64 v.k, .slice b1 (0 + v.cs.length) d1, .slice b2 (0 + v.ns.length) d2]) = _
    rw [Nat.zero_add, Nat.zero_add]; rfl
  · rintro k ⟨h1, h2⟩
    exact (hw1 k h1 h2).elim (fun q => absurd rfl q.1) (fun q => q.1)
  · rintro k ⟨h1, h2⟩
    exact ⟨(hw2 k h1 h2).elim (fun q => absurd rfl q.1) (fun q => q.1), fun q => hd2 k h1 h2 (.inr q)⟩
def SaI (stay : HX) (a : Option Addr) (sz e n c : Nat) (vs : Vals) (hx : HX) : Prop := ∃ (k : Nat) (xs : List Value), k ≤ n ∧ xs.length = n * sz ∧ vs = ⟨[(k : Int)], [], [], [], []⟩ ∧ hx = stay.and (HX.rw sz e a n c xs)
set_option maxHeartbeats 4000000 in
theorem same_walk (v : Vl) (a1 : Option Addr) (c1 : Nat) (a2 : Option Addr) (c2 : Nat) (u : Vl) (b1 : Option Addr) (d1 : Nat) (b2 : Option Addr) (d2 : Nat) (w : World) (H : VlAt w v a1 a2) (H2 : VlAt w u b1 b2) :
    Calls Try.prog 8 #[vlV v a1 c1 a2 c2, vlV u b1 d1 b2 d2] w (PureAt w (.bool true)) := by
  have hv := H.fit
  have hu := H2.fit
  have l1 := hv.l1
  have l2 := hv.l2
  refine calls_at (tab_ok _) Try.func8 rfl tLSame (ρ := ⟨[v.k, u.k], [], [], [v.cs.length, c1, v.ns.length, c2, u.cs.length, d1, u.ns.length, d2], [a1, a2, b1, b2]⟩) (ids := []) (hx := (vlX v a1 a2).and (vlX u b1 b2)) rfl (Facts.initq rfl oneNil ⟨H.X, H2.X⟩ (fun k hk => hk.elim (vlX_sep H.X k) (vlX_sep H2.X k))) ?_
  obtain ⟨B0, eB0⟩ : ∃ x, x = (vlX v a1 a2).and (vlX u b1 b2) := ⟨_, rfl⟩
  have B1 : ∀ {w}, B0.X w → (vlX v a1 a2).X w := fun h => by rw [eB0] at h; exact h.1
  have B2 : ∀ {w}, B0.X w → (vlX u b1 b2).X w := fun h => by rw [eB0] at h; exact h.2
  have Bs : ∀ k, B0.F k → k < w.heap.size := fun k hk => by rw [eB0] at hk; exact hk.elim (vlX_sep H.X k) (vlX_sep H2.X k)
  rw [← eB0]
  refine node_pure ⟨[], [true], [], [], []⟩ (by intros; kernel_rfl) (by intros; kernel_rfl) (by intros; kernel_rfl) oneNil (fun ids w2 hp hf => head_any w2) ?_
  refine br_f rfl ?_
  refine node_vl (V := id) (v := st2) (fun _ => #[]) (fun a1 c1 a2 c2 => ⟨[2], [], [], [0, c1, 2, c2], [a1, a2]⟩) (by intros; kernel_rfl) (fun ids w _ _ => stop_any w) (by intros; kernel_rfl) (by intros; kernel_rfl) (by intros; kernel_rfl) (by intros; kernel_rfl) (fun _ _ _ _ => oneNil) ?_
  intro e1 f1 e2 f2 _
  refine node_vl (V := id) (v := st2) (fun _ => #[]) (fun a1 c1 a2 c2 => ⟨[2], [], [], [0, c1, 2, c2], [a1, a2]⟩) (by intros; kernel_rfl) (fun ids w _ _ => stop_any w) (by intros; kernel_rfl) (by intros; kernel_rfl) (by intros; kernel_rfl) (by intros; kernel_rfl) (fun _ _ _ _ => oneNil) ?_
  intro g1 h1 g2 h2 _
  refine node_pure ⟨[], [true], [], [], []⟩ (by intros; kernel_rfl) (by intros; kernel_rfl) (by intros; kernel_rfl) oneNil (fun ids w2 hp hf => ?_) ?_
  · have := vsame_any st2 e1 f1 e2 f2 st2 g1 h1 g2 h2 w2 (st2_fit.at_ hf.x.1.2) (st2_fit.at_ hf.x.2)
    rw [vlSame_t rfl] at this
    exact this
  refine br_f rfl ?_
  refine node_vl (V := id) (v := st2) (fun _ => #[]) (fun a1 c1 a2 c2 => ⟨[2], [], [], [0, c1, 2, c2], [a1, a2]⟩) (by intros; kernel_rfl) (fun ids w _ _ => stop_any w) (by intros; kernel_rfl) (by intros; kernel_rfl) (by intros; kernel_rfl) (by intros; kernel_rfl) (fun _ _ _ _ => oneNil) ?_
  intro i1 j1 i2 j2 _
  refine node_pure ⟨[], [false], [], [], []⟩ (by intros; kernel_rfl) (by intros; kernel_rfl) (by intros; kernel_rfl) oneNil (fun ids w2 hp hf => ?_) ?_
  · have := vsame_any st2 i1 j1 i2 j2 v0 none 0 none 0 w2 (st2_fit.at_ hf.x.2) ⟨fun h => by simp [v0, ccells] at h, Ints.nil, by decide, by decide⟩
    rw [vlSame_f (fun q => by have := congrArg Vl.k q; simp [st2, v0] at this)] at this
    exact this
  refine br_f rfl ?_
  refine node_out (fun _ => #[vlV v a1 c1 a2 c2]) (fun vs hy => ∃ x1 y1 x2 y2, (v.cs ≠ [] → x1.isSome = true) ∧ (v.ns ≠ [] → x2.isSome = true) ∧ (∀ k, (nrow x2 v.ns.length y2 v.ns).F k → ¬ (crow x1 v.cs.length y1 v.cs).F k) ∧ vs = ⟨[v.k], [], [], [v.cs.length, y1, v.ns.length, y2], [x1, x2]⟩ ∧ hy = (crow x1 v.cs.length y1 v.cs).and (nrow x2 v.ns.length y2 v.ns)) (by intros; kernel_rfl) (fun ids w2 hp hf => ?_) (by intros; kernel_rfl) (by intros; kernel_rfl) ?_ ?_
  · refine (cpvr_any v a1 c1 a2 c2 w2 (hv.at_ (B1 hf.x.1.1.1))).mono ?_
    rintro e w' ⟨x1, y1, x2, y2, rfl, q1, q2, q3, q4, q5⟩
    exact ⟨_, _, ⟨x1, y1, x2, y2, fun h => row_isS q1 (ccells_ne h), fun h => row_isS q2 (fun q => h (by simpa using q)), fun k hk => (q4 k hk).2, rfl, rfl⟩, rfl, ⟨q1, q2⟩, fun k hk => hk.elim (fun q => ⟨q3 k q, rw_ltx q1 q.1 q.2⟩) (fun q => ⟨(q4 k q).1, rw_ltx q2 q.1 q.2⟩), q5⟩
  · rintro vs hy ⟨x1, y1, x2, y2, _, _, _, rfl, rfl⟩
    exact ⟨by kernel_rfl, oneNil⟩
  rintro vs hy ⟨x1, y1, x2, y2, hs1, hs2, hap, rfl, rfl⟩ hfr
  refine node_vl (V := id) (v := u) (fun _ => #[vlV u b1 d1 b2 d2]) (fun a1 c1 a2 c2 => ⟨[u.k], [], [], [u.cs.length, c1, u.ns.length, c2], [a1, a2]⟩) (by intros; kernel_rfl) (fun ids w2 hp hf => cpvl_any u b1 d1 b2 d2 w2 (hu.at_ (B2 hf.x.1.1.1.1))) (by intros; kernel_rfl) (by intros; kernel_rfl) (by intros; kernel_rfl) (by intros; kernel_rfl) (fun _ _ _ _ => oneNil) ?_
  intro k1 m1 k2 m2 _
  refine node_pure ⟨[], [vlSame v u], [], [], []⟩ (by intros; kernel_rfl) (by intros; kernel_rfl) (by intros; kernel_rfl) oneNil (fun ids w2 hp hf => vsame_any v x1 y1 x2 y2 u k1 m1 k2 m2 w2 (hv.at_ ⟨rw_cells hf.x.1.2.1, rw_cells hf.x.1.2.2⟩) (hu.at_ hf.x.2)) ?_
  refine node_pure ⟨[], [vlSame v u], [], [], []⟩ (by intros; kernel_rfl) (by intros; kernel_rfl) (by intros; kernel_rfl) oneNil (fun ids w2 hp hf => samev_any v a1 c1 a2 c2 u b1 d1 b2 d2 w2 (hv.at_ (B1 hf.x.1.1.1.1.1)) (hu.at_ (B2 hf.x.1.1.1.1.1))) ?_
  refine br_f (show (!(vlSame v u == vlSame v u)) = false by simp) ?_
  refine node_vl (V := id) (v := v) (fun _ => #[vlV v x1 y1 x2 y2]) (fun a1 c1 a2 c2 => ⟨[v.k], [], [], [v.cs.length, c1, v.ns.length, c2], [a1, a2]⟩) (by intros; kernel_rfl) (fun ids w2 hp hf => vclone_any v x1 y1 x2 y2 w2 (hv.at_ ⟨rw_cells hf.x.1.2.1, rw_cells hf.x.1.2.2⟩)) (by intros; kernel_rfl) (by intros; kernel_rfl) (by intros; kernel_rfl) (by intros; kernel_rfl) (fun _ _ _ _ => oneNil) ?_
  intro n1 o1 n2 o2 hcl
  have hC : ∀ k, (crow x1 v.cs.length y1 v.cs).F k → ¬ (B0.and (vlX v n1 n2)).F k := fun k hk q => by
    rcases q with q | q
    · have := Bs k q
      have := (hfr k (.inl hk)).1
      have : w.heap.size ≤ k := this
      omega
    · exact (hcl k q).2 (.inl (.inr (.inl hk)))
  have hN : ∀ k, (nrow x2 v.ns.length y2 v.ns).F k → ¬ (B0.and (vlX v n1 n2)).F k := fun k hk q => by
    rcases q with q | q
    · have := Bs k q
      have := (hfr k (.inr hk)).1
      have : w.heap.size ≤ k := this
      omega
    · exact (hcl k q).2 (.inl (.inr (.inr hk)))
  refine loop_i (SaI ((B0.and (vlX v n1 n2)).and (nrow x2 v.ns.length y2 v.ns)) x1 8 29 v.cs.length y1) (fun vs => v.cs.length - (vs.i.headD 0).toNat) (fun ids w2 hp hf => ⟨((B0.and (vlX v n1 n2)).and (nrow x2 v.ns.length y2 v.ns)).and (crow x1 v.cs.length y1 v.cs), ⟨⟨⟨⟨hf.x.1.1.1.1.1.1, hf.x.2⟩, hf.x.1.1.2.2⟩, hf.x.1.1.2.1⟩, fun k hk => hf.sep k ?_⟩, 0, ccells v.cs, Nat.zero_le _, ccells_len _, rfl, rfl⟩) ?_
  · rcases hk with ((hk | hk) | hk) | hk
    · exact .inl (.inl (.inl (.inl (.inl (.inl hk)))))
    · exact .inr hk
    · exact .inl (.inl (.inr (.inr hk)))
    · exact .inl (.inl (.inr (.inl hk)))
  rintro vs hx' hcnt ⟨k, xs, hk, hxs, rfl, rfl⟩
  by_cases hlt : k < v.cs.length
  · refine br_t (show decide ((k : Int) < (v.cs.length : Int)) = true from decide_eq_true (by omega)) ?_
    have hwk : IntKind.i64.wrap ((k : Int) + 1) = ((k + 1 : Nat) : Int) := by rw [wrap_i64 (by omega)]; omega
    refine need_i ⟨hs1 (fun q => by rw [q] at hlt; simp at hlt), (show (0 : Int) ≤ k by omega), (show (k : Int) < v.cs.length by omega)⟩ ?_
    refine node_stores (sz := 8) x1 v.cs.length y1 xs [.int .i64 (-1)] k 1 (.int .i64 (-1)) (by kernel_rfl) (fun _ => rfl) (fun _ => rfl) rfl (by simp [Value.oneCell']) (by simp; omega) (by simp) (fun j h1 h2 hF => ?_) (fun j h1 h2 => .inl (hfr j (.inl ⟨h1, h2⟩)).1) rfl (by intros; kernel_rfl) rfl ?_
    · rcases hF with hF | hF
      · exact hC j ⟨h1, h2⟩ hF
      · exact hap j hF ⟨h1, h2⟩
    intro ids w2 hp hf
    refine ⟨_, ⟨hf.x, hf.sep⟩, _, rfl, ⟨k + 1, _, by omega, ?_, by rw [← hwk]; rfl, rfl⟩, ?_⟩
    · rw [spl_len (by simp; omega)]; exact hxs
    · show v.cs.length - (IntKind.i64.wrap ((k : Int) + 1)).toNat < v.cs.length - ((k : Int)).toNat
      rw [hwk]; omega
  · refine br_f (show decide ((k : Int) < (v.cs.length : Int)) = false from decide_eq_false (by omega)) ?_
    refine loop_i (SaI (B0.and (vlX v n1 n2)) x2 1 3 v.ns.length y2) (fun vs => v.ns.length - (vs.i.headD 0).toNat) (fun ids w2 hp hf => ⟨(B0.and (vlX v n1 n2)).and (nrow x2 v.ns.length y2 v.ns), ⟨hf.x.1, fun k hk => hf.sep k (.inl hk)⟩, 0, v.ns.map (Value.int .i64), Nat.zero_le _, by rw [List.length_map, Nat.mul_one], rfl, rfl⟩) ?_
    rintro vs hx' hcnt ⟨k, xs, hk, hxs, rfl, rfl⟩
    by_cases hlt : k < v.ns.length
    · refine br_t (show decide ((k : Int) < (v.ns.length : Int)) = true from decide_eq_true (by omega)) ?_
      have hwk : IntKind.i64.wrap ((k : Int) + 1) = ((k + 1 : Nat) : Int) := by rw [wrap_i64 (by omega)]; omega
      refine need_i ⟨hs2 (fun q => by rw [q] at hlt; simp at hlt), (show (0 : Int) ≤ k by omega), (show (k : Int) < v.ns.length by omega)⟩ ?_
      refine node_stores (sz := 1) x2 v.ns.length y2 xs [.int .i64 (-1)] k 0 (.int .i64 (-1)) (by kernel_rfl) (fun _ => rfl) (fun _ => rfl) rfl (by simp [Value.oneCell']) (by simp; omega) (by simp) (fun j h1 h2 hF => hN j ⟨h1, h2⟩ hF) (fun j h1 h2 => .inl (hfr j (.inr ⟨h1, h2⟩)).1) rfl (by intros; kernel_rfl) rfl ?_
      intro ids w2 hp hf
      refine ⟨_, ⟨hf.x, hf.sep⟩, _, rfl, ⟨k + 1, _, by omega, ?_, by rw [← hwk]; rfl, rfl⟩, ?_⟩
      · rw [spl_len (by simp; omega)]; exact hxs
      · show v.ns.length - (IntKind.i64.wrap ((k : Int) + 1)).toNat < v.ns.length - ((k : Int)).toNat
        rw [hwk]; omega
    · refine br_f (show decide ((k : Int) < (v.ns.length : Int)) = false from decide_eq_false (by omega)) ?_
      refine node_pure ⟨[], [true], [], [], []⟩ (by intros; kernel_rfl) (by intros; kernel_rfl) (by intros; kernel_rfl) oneNil (fun ids w2 hp hf => ?_) (pure_done (by intros; kernel_rfl))
      have := samev_any v n1 o1 n2 o2 v a1 c1 a2 c2 w2 (hv.at_ hf.x.1.2) (hv.at_ (B1 hf.x.1.1))
      rw [vlSame_t rfl] at this
      exact this
theorem same_args (x y : Dat) (w : World) (hx : x.In Try.prog w 25) (hy : y.In Try.prog w 25) : Calls Try.prog 8 #[.agg x.cells.toArray, .agg y.cells.toArray] w (PureAt w (.bool true)) := by
  obtain ⟨v, a1, c1, a2, c2, e, H, k1, q1⟩ := opn_vl hx
  obtain ⟨u, b1, d1, b2, d2, e2, H2, k2, q2⟩ := opn_vl hy
  rw [vl_arg e, vl_arg e2]
  exact same_walk v a1 c1 a2 c2 u b1 d1 b2 d2 w H H2
end Go.Proofs.Yticacnankpaohaa
