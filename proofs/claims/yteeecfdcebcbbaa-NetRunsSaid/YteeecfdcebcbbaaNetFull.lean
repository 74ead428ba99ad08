/- The head of layer 12; NetNil, NetFull. -/
import Derived.Test.YteeecfdcebcbbaaNetL
import Derived.Test.YteeecfdcebcbbaaDat
namespace Go.Proofs.Yteeecfdcebcbbaa
open Go.ChangeShapes Go.WideShapes Go.ChangeAt Go.RowKit Go.Syn Go.Eng
set_option linter.unusedVariables false
set_option linter.unusedSimpArgs false
set_option maxRecDepth 100000 in
theorem tNHead : (runF ⟨tt, fns, {ret := [(7, .one (.newp 49 [.sl]))], touch := [(8, [0]), (10, [0]), (12, [0])]}⟩ (Try.f6.body.getD .skip) Try.f6.results.toList (entry Try.f6.ntmps [] [] ⟨0, 0, 0, 0, 0⟩)) =
  (.call 7 [] ⟨[], ⟨0, 0, 0, 0, 0⟩⟩ (.lf (.ptr 0 0)) ⟨[(49, [(.sl 0 (.var 0) (.var 1))])], ⟨0, 0, 0, 2, 1⟩⟩ (.call 8 [(.lf (.ptr 0 0)), (.agg [(.int .i64 (.lit 1)), (.int .i64 (.lit 2)), (.nsl 1 0 1 1)])] ⟨[(49, [(.sl 0 (.var 0) (.var 1))]), (5, [(.int .u8 (.lit 7))])], ⟨0, 0, 0, 2, 1⟩⟩ (.lf (.int .i64 (.var 0))) ⟨[(49, [(.sl 1 (.var 2) (.var 3))]), (5, [(.int .u8 (.lit 7))])], ⟨1, 0, 0, 4, 2⟩⟩ (.br (.cmp .neq (.var 0) (.lit 0)) (.done (.lf (.bool (.lit .false))) ⟨[(49, [(.sl 1 (.var 2) (.var 3))]), (5, [(.int .u8 (.lit 7))])], ⟨1, 0, 0, 4, 2⟩⟩) (.call 8 [(.lf (.ptr 0 0)), (.agg [(.int .i64 (.lit 2)), (.int .i64 (.lit 1)), .nilsl])] ⟨[(49, [(.sl 1 (.var 2) (.var 3))]), (5, [(.int .u8 (.lit 7))])], ⟨1, 0, 0, 4, 2⟩⟩ (.lf (.int .i64 (.var 1))) ⟨[(49, [(.sl 2 (.var 4) (.var 5))]), (5, [(.int .u8 (.lit 7))])], ⟨2, 0, 0, 6, 3⟩⟩ (.br (.cmp .neq (.var 1) (.lit 0)) (.done (.lf (.bool (.lit .false))) ⟨[(49, [(.sl 2 (.var 4) (.var 5))]), (5, [(.int .u8 (.lit 7))])], ⟨2, 0, 0, 6, 3⟩⟩) (.call 10 [(.lf (.ptr 0 0)), (.lf (.int .i64 (.lit 0)))] ⟨[(49, [(.sl 2 (.var 4) (.var 5))]), (5, [(.int .u8 (.lit 7))])], ⟨2, 0, 0, 6, 3⟩⟩ (.lf (.bool (.var 0))) ⟨[(49, [(.sl 3 (.var 6) (.var 7))]), (5, [(.int .u8 (.lit 7))])], ⟨2, 1, 0, 8, 4⟩⟩ (.br (.not (.var 0)) (.done (.lf (.bool (.lit .false))) ⟨[(49, [(.sl 3 (.var 6) (.var 7))]), (5, [(.int .u8 (.lit 7))])], ⟨2, 1, 0, 8, 4⟩⟩) (.call 12 [(.lf (.ptr 0 0)), (.lf (.int .i64 (.lit 1)))] ⟨[(49, [(.sl 3 (.var 6) (.var 7))]), (5, [(.int .u8 (.lit 7))])], ⟨2, 1, 0, 8, 4⟩⟩ (.tup [(.true, [(.int .i64 (.var 2)), (.int .i64 (.var 3)), (.sl 5 (.var 10) (.var 11))]), (.false, [(.bool (.var 1))])]) ⟨[(49, [(.sl 4 (.var 8) (.var 9))]), (5, [(.int .u8 (.lit 7))])], ⟨4, 2, 0, 12, 6⟩⟩ (.br (.var 1) (.br (.cmp .eql (.var 2) (.lit 2)) (.call 11 [(.lf (.ptr 0 0))] ⟨[(49, [(.sl 4 (.var 8) (.var 9))]), (5, [(.int .u8 (.lit 7))]), (30, [(.int .i64 (.var 2)), (.int .i64 (.var 3)), (.sl 5 (.var 10) (.var 11))])], ⟨4, 2, 0, 12, 6⟩⟩ (.lf (.int .i64 (.var 4))) ⟨[(49, [(.sl 4 (.var 8) (.var 9))]), (5, [(.int .u8 (.lit 7))]), (30, [(.int .i64 (.var 2)), (.int .i64 (.var 3)), (.sl 5 (.var 10) (.var 11))])], ⟨5, 2, 0, 12, 6⟩⟩ (.br (.cmp .eql (.var 4) (.lit 2)) (.call 19 [(.lf (.ptr 0 0))] ⟨[(49, [(.sl 4 (.var 8) (.var 9))]), (5, [(.int .u8 (.lit 7))]), (30, [(.int .i64 (.var 2)), (.int .i64 (.var 3)), (.sl 5 (.var 10) (.var 11))])], ⟨5, 2, 0, 12, 6⟩⟩ (.lf (.sl 6 (.var 12) (.var 13))) ⟨[(49, [(.sl 4 (.var 8) (.var 9))]), (5, [(.int .u8 (.lit 7))]), (30, [(.int .i64 (.var 2)), (.int .i64 (.var 3)), (.sl 5 (.var 10) (.var 11))])], ⟨5, 2, 0, 14, 7⟩⟩ (.done (.lf (.bool (.cmp .eql (.nat 12) (.lit 2)))) ⟨[(49, [(.sl 4 (.var 8) (.var 9))]), (5, [(.int .u8 (.lit 7))]), (30, [(.int .i64 (.var 2)), (.int .i64 (.var 3)), (.sl 5 (.var 10) (.var 11))])], ⟨5, 2, 0, 14, 7⟩⟩)) (.done (.lf (.bool (.lit .false))) ⟨[(49, [(.sl 4 (.var 8) (.var 9))]), (5, [(.int .u8 (.lit 7))]), (30, [(.int .i64 (.var 2)), (.int .i64 (.var 3)), (.sl 5 (.var 10) (.var 11))])], ⟨5, 2, 0, 12, 6⟩⟩))) (.done (.lf (.bool (.lit .false))) ⟨[(49, [(.sl 4 (.var 8) (.var 9))]), (5, [(.int .u8 (.lit 7))]), (30, [(.int .i64 (.var 2)), (.int .i64 (.var 3)), (.sl 5 (.var 10) (.var 11))])], ⟨4, 2, 0, 12, 6⟩⟩)) (.done (.lf (.bool (.lit .false))) ⟨[(49, [(.sl 4 (.var 8) (.var 9))]), (5, [(.int .u8 (.lit 7))]), (30, [(.int .i64 (.var 2)), (.int .i64 (.var 3)), (.sl 5 (.var 10) (.var 11))])], ⟨4, 2, 0, 12, 6⟩⟩)))))))))) := by kernel_rfl
set_option maxRecDepth 100000 in
theorem tNNil : (runF ⟨tt, fns, {}⟩ (Try.f5.body.getD .skip) Try.f5.results.toList (entry Try.f5.ntmps [.lf (.int .i64 (.var 0))] [] ⟨1, 0, 0, 0, 0⟩)) =
  (.call 12 [(.lf .nilp), (.lf (.int .i64 (.var 0)))] ⟨[], ⟨1, 0, 0, 0, 0⟩⟩ (.tup [(.true, [(.int .i64 (.var 1)), (.int .i64 (.var 2)), (.sl 0 (.var 0) (.var 1))]), (.false, [(.bool (.var 0))])]) ⟨[], ⟨3, 1, 0, 2, 1⟩⟩ (.call 6 [] ⟨[(30, [(.int .i64 (.var 1)), (.int .i64 (.var 2)), (.sl 0 (.var 0) (.var 1))])], ⟨3, 1, 0, 2, 1⟩⟩ (.lf (.bool (.var 1))) ⟨[(30, [(.int .i64 (.var 1)), (.int .i64 (.var 2)), (.sl 0 (.var 0) (.var 1))])], ⟨3, 2, 0, 2, 1⟩⟩ (.br (.var 1) (.br (.not (.var 0)) (.call 8 [(.lf .nilp), (.agg [(.int .i64 (.lit 1)), (.int .i64 (.lit 1)), .nilsl])] ⟨[(30, [(.int .i64 (.var 1)), (.int .i64 (.var 2)), (.sl 0 (.var 0) (.var 1))])], ⟨3, 2, 0, 2, 1⟩⟩ (.lf (.int .i64 (.var 3))) ⟨[(30, [(.int .i64 (.var 1)), (.int .i64 (.var 2)), (.sl 0 (.var 0) (.var 1))])], ⟨4, 2, 0, 2, 1⟩⟩ (.br (.cmp .eql (.var 3) (.lit 1)) (.call 11 [(.lf .nilp)] ⟨[(30, [(.int .i64 (.var 1)), (.int .i64 (.var 2)), (.sl 0 (.var 0) (.var 1))])], ⟨4, 2, 0, 2, 1⟩⟩ (.lf (.int .i64 (.var 4))) ⟨[(30, [(.int .i64 (.var 1)), (.int .i64 (.var 2)), (.sl 0 (.var 0) (.var 1))])], ⟨5, 2, 0, 2, 1⟩⟩ (.br (.cmp .eql (.var 4) (.lit 0)) (.call 10 [(.lf .nilp), (.lf (.int .i64 (.var 0)))] ⟨[(30, [(.int .i64 (.var 1)), (.int .i64 (.var 2)), (.sl 0 (.var 0) (.var 1))])], ⟨5, 2, 0, 2, 1⟩⟩ (.lf (.bool (.var 2))) ⟨[(30, [(.int .i64 (.var 1)), (.int .i64 (.var 2)), (.sl 0 (.var 0) (.var 1))])], ⟨5, 3, 0, 2, 1⟩⟩ (.br (.not (.var 2)) (.call 18 [(.lf .nilp), (.lf (.int .i64 (.var 0)))] ⟨[(30, [(.int .i64 (.var 1)), (.int .i64 (.var 2)), (.sl 0 (.var 0) (.var 1))])], ⟨5, 3, 0, 2, 1⟩⟩ (.lf (.int .i64 (.var 5))) ⟨[(30, [(.int .i64 (.var 1)), (.int .i64 (.var 2)), (.sl 0 (.var 0) (.var 1))])], ⟨6, 3, 0, 2, 1⟩⟩ (.br (.cmp .eql (.var 5) (.lit 0)) (.call 19 [(.lf .nilp)] ⟨[(30, [(.int .i64 (.var 1)), (.int .i64 (.var 2)), (.sl 0 (.var 0) (.var 1))])], ⟨6, 3, 0, 2, 1⟩⟩ (.lf (.sl 1 (.var 2) (.var 3))) ⟨[(30, [(.int .i64 (.var 1)), (.int .i64 (.var 2)), (.sl 0 (.var 0) (.var 1))])], ⟨6, 3, 0, 4, 2⟩⟩ (.done (.lf (.bool (.cmp .eql (.nat 2) (.lit 0)))) ⟨[(30, [(.int .i64 (.var 1)), (.int .i64 (.var 2)), (.sl 0 (.var 0) (.var 1))])], ⟨6, 3, 0, 4, 2⟩⟩)) (.done (.lf (.bool (.lit .false))) ⟨[(30, [(.int .i64 (.var 1)), (.int .i64 (.var 2)), (.sl 0 (.var 0) (.var 1))])], ⟨6, 3, 0, 2, 1⟩⟩))) (.done (.lf (.bool (.lit .false))) ⟨[(30, [(.int .i64 (.var 1)), (.int .i64 (.var 2)), (.sl 0 (.var 0) (.var 1))])], ⟨5, 3, 0, 2, 1⟩⟩))) (.done (.lf (.bool (.lit .false))) ⟨[(30, [(.int .i64 (.var 1)), (.int .i64 (.var 2)), (.sl 0 (.var 0) (.var 1))])], ⟨5, 2, 0, 2, 1⟩⟩))) (.done (.lf (.bool (.lit .false))) ⟨[(30, [(.int .i64 (.var 1)), (.int .i64 (.var 2)), (.sl 0 (.var 0) (.var 1))])], ⟨4, 2, 0, 2, 1⟩⟩))) (.done (.lf (.bool (.lit .false))) ⟨[(30, [(.int .i64 (.var 1)), (.int .i64 (.var 2)), (.sl 0 (.var 0) (.var 1))])], ⟨3, 2, 0, 2, 1⟩⟩)) (.done (.lf (.bool (.lit .false))) ⟨[(30, [(.int .i64 (.var 1)), (.int .i64 (.var 2)), (.sl 0 (.var 0) (.var 1))])], ⟨3, 2, 0, 2, 1⟩⟩)))) := by kernel_rfl
set_option maxRecDepth 100000 in
theorem tNFull : (runF ⟨tt, fns, {ret := [(7, .one (.newp 49 [.sl]))], touch := [(8, [0]), (10, [0]), (12, [0])], loops := [(7, ⟨[(4, .int .i64)], [0]⟩), (14, ⟨[(5, .int .i64)], [0]⟩)]}⟩ (Try.f3.body.getD .skip) Try.f3.results.toList (entry Try.f3.ntmps [.lf (.sl 0 (.var 0) (.var 1))] [] ⟨0, 0, 0, 2, 1⟩)) =
  (.call 6 [] ⟨[], ⟨0, 0, 0, 2, 1⟩⟩ (.lf (.bool (.var 0))) ⟨[], ⟨0, 1, 0, 2, 1⟩⟩ (.br (.not (.var 0)) (.done (.lf (.bool (.lit .false))) ⟨[], ⟨0, 1, 0, 2, 1⟩⟩) (.call 7 [] ⟨[], ⟨0, 1, 0, 2, 1⟩⟩ (.lf (.ptr 0 0)) ⟨[(49, [(.sl 1 (.var 2) (.var 3))])], ⟨0, 1, 0, 4, 2⟩⟩ (.br (.cmp .gtr (.nat 0) (.lit 100)) (.done (.lf (.bool (.lit .true))) ⟨[(49, [(.sl 1 (.var 2) (.var 3))])], ⟨0, 1, 0, 4, 2⟩⟩) (.loop 7 ⟨[(.lit 0)], [], [], [(.var 2), (.var 3)], [(.var 1)]⟩ ⟨[(49, [(.sl 1 (.var 2) (.var 3))])], ⟨0, 1, 0, 4, 2⟩⟩ ⟨[(49, [(.sl 2 (.var 4) (.var 5))])], ⟨1, 1, 0, 6, 3⟩⟩ (.br (.cmp .lss (.var 0) (.lit 512)) (.call 9 [(.lf (.sl 0 (.var 0) (.var 1)))] ⟨[(49, [(.sl 2 (.var 4) (.var 5))])], ⟨1, 1, 0, 6, 3⟩⟩ (.lf (.sl 3 (.var 6) (.var 7))) ⟨[(49, [(.sl 2 (.var 4) (.var 5))])], ⟨1, 1, 0, 8, 4⟩⟩ (.call 8 [(.lf (.ptr 0 0)), (.agg [(.int .i64 (.op .add .i64 (.lit 1) (.op .rem .i64 (.var 0) (.lit 9)))), (.int .i64 (.lit 1)), (.sl 3 (.var 6) (.var 7))])] ⟨[(49, [(.sl 2 (.var 4) (.var 5))])], ⟨1, 1, 0, 8, 4⟩⟩ (.lf (.int .i64 (.var 1))) ⟨[(49, [(.sl 4 (.var 8) (.var 9))])], ⟨2, 1, 0, 10, 5⟩⟩ (.br (.cmp .neq (.var 1) (.lit 0)) (.done (.lf (.bool (.lit .false))) ⟨[(49, [(.sl 4 (.var 8) (.var 9))])], ⟨2, 1, 0, 10, 5⟩⟩) (.again 7 ⟨[(.op .add .i64 (.var 0) (.lit 1))], [], [], [(.var 8), (.var 9)], [(.var 4)]⟩ ⟨[(49, [(.sl 4 (.var 8) (.var 9))])], ⟨2, 1, 0, 10, 5⟩⟩)))) (.call 8 [(.lf (.ptr 0 0)), (.agg [(.int .i64 (.lit 1)), (.int .i64 (.lit 1)), .nilsl])] ⟨[(49, [(.sl 2 (.var 4) (.var 5))])], ⟨1, 1, 0, 6, 3⟩⟩ (.lf (.int .i64 (.var 1))) ⟨[(49, [(.sl 3 (.var 6) (.var 7))])], ⟨2, 1, 0, 8, 4⟩⟩ (.br (.cmp .neq (.var 1) (.lit 43)) (.done (.lf (.bool (.lit .false))) ⟨[(49, [(.sl 3 (.var 6) (.var 7))])], ⟨2, 1, 0, 8, 4⟩⟩) (.call 10 [(.lf (.ptr 0 0)), (.lf (.int .i64 (.lit 0)))] ⟨[(49, [(.sl 3 (.var 6) (.var 7))])], ⟨2, 1, 0, 8, 4⟩⟩ (.lf (.bool (.var 1))) ⟨[(49, [(.sl 4 (.var 8) (.var 9))])], ⟨2, 2, 0, 10, 5⟩⟩ (.br (.var 1) (.done (.lf (.bool (.lit .false))) ⟨[(49, [(.sl 4 (.var 8) (.var 9))])], ⟨2, 2, 0, 10, 5⟩⟩) (.call 11 [(.lf (.ptr 0 0))] ⟨[(49, [(.sl 4 (.var 8) (.var 9))])], ⟨2, 2, 0, 10, 5⟩⟩ (.lf (.int .i64 (.var 2))) ⟨[(49, [(.sl 4 (.var 8) (.var 9))])], ⟨3, 2, 0, 10, 5⟩⟩ (.br (.cmp .neq (.var 2) (.lit 512)) (.done (.lf (.bool (.lit .false))) ⟨[(49, [(.sl 4 (.var 8) (.var 9))])], ⟨3, 2, 0, 10, 5⟩⟩) (.loop 14 ⟨[(.lit 0)], [], [], [(.var 8), (.var 9)], [(.var 4)]⟩ ⟨[(49, [(.sl 4 (.var 8) (.var 9))])], ⟨3, 2, 0, 10, 5⟩⟩ ⟨[(49, [(.sl 5 (.var 10) (.var 11))])], ⟨4, 2, 0, 12, 6⟩⟩ (.br (.cmp .lss (.var 3) (.lit 512)) (.call 12 [(.lf (.ptr 0 0)), (.lf (.int .i64 (.lit 0)))] ⟨[(49, [(.sl 5 (.var 10) (.var 11))])], ⟨4, 2, 0, 12, 6⟩⟩ (.tup [(.true, [(.int .i64 (.var 4)), (.int .i64 (.var 5)), (.sl 7 (.var 14) (.var 15))]), (.false, [(.bool (.var 2))])]) ⟨[(49, [(.sl 6 (.var 12) (.var 13))])], ⟨6, 3, 0, 16, 8⟩⟩ (.br (.not (.var 2)) (.done (.lf (.bool (.lit .false))) ⟨[(49, [(.sl 6 (.var 12) (.var 13))]), (30, [(.int .i64 (.var 4)), (.int .i64 (.var 5)), (.sl 7 (.var 14) (.var 15))])], ⟨6, 3, 0, 16, 8⟩⟩) (.br (.cmp .neq (.var 4) (.op .add .i64 (.lit 1) (.op .rem .i64 (.var 3) (.lit 9)))) (.done (.lf (.bool (.lit .false))) ⟨[(49, [(.sl 6 (.var 12) (.var 13))]), (30, [(.int .i64 (.var 4)), (.int .i64 (.var 5)), (.sl 7 (.var 14) (.var 15))])], ⟨6, 3, 0, 16, 8⟩⟩) (.call 13 [(.lf (.sl 7 (.var 14) (.var 15))), (.lf (.sl 0 (.var 0) (.var 1)))] ⟨[(49, [(.sl 6 (.var 12) (.var 13))]), (30, [(.int .i64 (.var 4)), (.int .i64 (.var 5)), (.sl 7 (.var 14) (.var 15))])], ⟨6, 3, 0, 16, 8⟩⟩ (.lf (.bool (.var 3))) ⟨[(49, [(.sl 6 (.var 12) (.var 13))]), (30, [(.int .i64 (.var 4)), (.int .i64 (.var 5)), (.sl 7 (.var 14) (.var 15))])], ⟨6, 4, 0, 16, 8⟩⟩ (.br (.not (.var 3)) (.done (.lf (.bool (.lit .false))) ⟨[(49, [(.sl 6 (.var 12) (.var 13))]), (30, [(.int .i64 (.var 4)), (.int .i64 (.var 5)), (.sl 7 (.var 14) (.var 15))])], ⟨6, 4, 0, 16, 8⟩⟩) (.again 14 ⟨[(.op .add .i64 (.var 3) (.lit 1))], [], [], [(.var 12), (.var 13)], [(.var 6)]⟩ ⟨[(49, [(.sl 6 (.var 12) (.var 13))]), (30, [(.int .i64 (.var 4)), (.int .i64 (.var 5)), (.sl 7 (.var 14) (.var 15))])], ⟨6, 4, 0, 16, 8⟩⟩)))))) (.call 12 [(.lf (.ptr 0 0)), (.lf (.int .i64 (.lit 0)))] ⟨[(49, [(.sl 5 (.var 10) (.var 11))])], ⟨4, 2, 0, 12, 6⟩⟩ (.tup [(.true, [(.int .i64 (.var 4)), (.int .i64 (.var 5)), (.sl 7 (.var 14) (.var 15))]), (.false, [(.bool (.var 2))])]) ⟨[(49, [(.sl 6 (.var 12) (.var 13))])], ⟨6, 3, 0, 16, 8⟩⟩ (.br (.not (.var 2)) (.call 11 [(.lf (.ptr 0 0))] ⟨[(49, [(.sl 6 (.var 12) (.var 13))]), (30, [(.int .i64 (.var 4)), (.int .i64 (.var 5)), (.sl 7 (.var 14) (.var 15))])], ⟨6, 3, 0, 16, 8⟩⟩ (.lf (.int .i64 (.var 6))) ⟨[(49, [(.sl 6 (.var 12) (.var 13))]), (30, [(.int .i64 (.var 4)), (.int .i64 (.var 5)), (.sl 7 (.var 14) (.var 15))])], ⟨7, 3, 0, 16, 8⟩⟩ (.done (.lf (.bool (.cmp .eql (.var 6) (.lit 0)))) ⟨[(49, [(.sl 6 (.var 12) (.var 13))]), (30, [(.int .i64 (.var 4)), (.int .i64 (.var 5)), (.sl 7 (.var 14) (.var 15))])], ⟨7, 3, 0, 16, 8⟩⟩)) (.done (.lf (.bool (.lit .false))) ⟨[(49, [(.sl 6 (.var 12) (.var 13))]), (30, [(.int .i64 (.var 4)), (.int .i64 (.var 5)), (.sl 7 (.var 14) (.var 15))])], ⟨6, 3, 0, 16, 8⟩⟩))))))))))))))))) := by kernel_rfl
theorem net_none (hx : HX) : hx.and (netHX none 0 []) = hx := HX.ext (by
    funext k
    refine propext ⟨fun h => h.elim id fun h => ?_, .inl⟩
    rcases h with ⟨p, hp, _⟩ | h
    · simp at hp
    · exact absurd rfl h.1) (by
    funext w
    exact propext ⟨fun h => h.1, fun h => ⟨h, fun p hp => by simp at hp, HX.rw_nil _ _ _ _⟩⟩)
theorem apart_none : Apart none 0 [] := fun k q => absurd rfl q
section
variable {C : Cfg} {ρ : Env} {pre : List Nat} {rest : HX} {L : Stack} {m m' : Mem} {args : List SV} {r : SV} {t : Tree} {a : Option Addr} {cap : Nat} {ps : List Pk}
theorem node_take {cs : List LV} (n : Nat) (i : Nat) (p : Pk) (hP : C.P = Try.prog) (hn : m.hp[n]? = some (49, cs)) (hcs : ∀ ids, cellsDen ρ ids cs = [.slice a ps.length cap]) (hap : Apart a cap ps) (hi : ps[i]? = some p) (hl : ps.length ≤ 1000000) (hM : ∀ k, cap ≠ 0 → abk a = some k → C.W.heap.size ≤ k ∨ C.M k) (hrest : ∀ k, cap ≠ 0 → abk a = some k → ¬ rest.F k)
    (hargs : ∀ ids, (args.map (SV.den ρ ids)).toArray = #[.pointer (some ⟨idAt ids n, 0, none⟩), .int .i64 (i : Int)]) (cs' : List LV) (hhp : m'.hp = m.hp.set n (49, cs'))
    (hcs' : ∀ ids, cellsDen (ρ.add ⟨[p.f, p.t], [true], [], [(ps.eraseIdx i).length, cap, p.bs.length, p.c], [a, p.a]⟩) ids cs' = [.slice a (ps.eraseIdx i).length cap]) (hr : ∀ ids, r.den (ρ.add ⟨[p.f, p.t], [true], [], [(ps.eraseIdx i).length, cap, p.bs.length, p.c], [a, p.a]⟩) ids = .tuple #[.agg p.cells.toArray, .bool true]) (hfit : hpFits m.c m.hp.length m.hp = true) (hc : (ρ.add ⟨[p.f, p.t], [true], [], [(ps.eraseIdx i).length, cap, p.bs.length, p.c], [a, p.a]⟩).cnt = m'.c)
    (h : t.holds C (ρ.add ⟨[p.f, p.t], [true], [], [(ps.eraseIdx i).length, cap, p.bs.length, p.c], [a, p.a]⟩) pre ((rest.and (HX.cl p.a (bcells p.bs))).and (netHX a cap (ps.eraseIdx i))) L) :
    (Tree.call 12 args m r m' t).holds C ρ pre (rest.and (netHX a cap ps)) L := by
  intro ids w hp hf
  rw [hP, hargs]
  have hlt : n < m.hp.length := by
    rcases Nat.lt_or_ge n m.hp.length with q | q
    · exact q
    · rw [List.getElem?_eq_none q] at hn; cases hn
  have hpm := List.mem_of_getElem? hi
  have hil : i < ps.length := by
    rcases Nat.lt_or_ge i ps.length with q | q
    · exact q
    · rw [List.getElem?_eq_none q] at hi; cases hi
  refine (take_yes (idAt ids n) a cap ps i p w (net_at n hf hn hcs hap) hi hl).mono ?_
  rintro e w' ⟨rfl, hb, hX, hcl, hch⟩
  have hdF : ∀ k, (HX.dats (ps.eraseIdx i)).F k → (HX.dats ps).F k := fun k ⟨q, hq, h5⟩ => ⟨q, List.mem_of_mem_eraseIdx hq, h5⟩
  refine ⟨_, ids, (rest.and (HX.cl p.a (bcells p.bs))).and (netHX a cap (ps.eraseIdx i)), by rw [← hr ids], List.prefix_refl _, hf.act (hx' := (rest.and (HX.cl p.a (bcells p.bs))).and (netHX a cap (ps.eraseIdx i))) hch (fun b hbb => ?_) hn (by rw [hcs']; exact hb) ⟨⟨rest.loc w w' hf.x.1 fun k hk => hch.block k (hf.sep k (.inl hk)).1 fun q => ?_, hcl⟩, hX⟩ (fun k hk => .inl ?_) hhp hfit hc oneNil, holds_pre t hp h⟩
  · rcases hbb with hbb | ⟨h1, h2⟩
    · exact .inl hbb
    · exact .inr ⟨.inr (.inr ⟨h1, h2⟩), hM b h1 h2⟩
  · rcases q with q | ⟨h1, h2⟩
    · exact (hf.sep k (.inl hk)).2 (q ▸ idAt_mem (hf.len ▸ hlt))
    · exact hrest k h1 h2 hk
  · rcases hk with (hk | hk) | hk | hk
    · exact .inl hk
    · exact .inr (.inl ⟨p, hpm, fun q => hk.1 (by rw [q]; rfl), hk.2⟩)
    · exact .inr (.inl (hdF k hk))
    · exact .inr (.inr hk)
theorem node_take0 {cs : List LV} (n : Nat) (i : Int) (hP : C.P = Try.prog) (hn : m.hp[n]? = some (49, cs)) (hcs : ∀ ids, cellsDen ρ ids cs = [.slice a ps.length cap]) (hap : Apart a cap ps) (hi : ¬ (0 ≤ i ∧ i < (ps.length : Int)))
    (hargs : ∀ ids, (args.map (SV.den ρ ids)).toArray = #[.pointer (some ⟨idAt ids n, 0, none⟩), .int .i64 i]) (cs' : List LV) (hhp : m'.hp = m.hp.set n (49, cs'))
    (hcs' : ∀ ids, cellsDen (ρ.add ⟨[0, 0], [false], [], [ps.length, cap, 0, 0], [a, none]⟩) ids cs' = [.slice a ps.length cap]) (hr : ∀ ids, r.den (ρ.add ⟨[0, 0], [false], [], [ps.length, cap, 0, 0], [a, none]⟩) ids = .tuple #[.agg #[.int .i64 0, .int .i64 0, .slice none 0 0], .bool false]) (hfit : hpFits m.c m.hp.length m.hp = true) (hc : (ρ.add ⟨[0, 0], [false], [], [ps.length, cap, 0, 0], [a, none]⟩).cnt = m'.c)
    (h : t.holds C (ρ.add ⟨[0, 0], [false], [], [ps.length, cap, 0, 0], [a, none]⟩) pre (rest.and (netHX a cap ps)) L) :
    (Tree.call 12 args m r m' t).holds C ρ pre (rest.and (netHX a cap ps)) L := by
  intro ids w hp hf
  rw [hP, hargs]
  have hA := net_at n hf hn hcs hap
  refine (take_no (idAt ids n) a cap ps i w hA hi).mono ?_
  rintro e w' ⟨rfl, hbel⟩
  have hlt : idAt ids n < w.heap.size := by
    rcases Nat.lt_or_ge (idAt ids n) w.heap.size with q | q
    · exact q
    · have := hA.blk
      unfold Blk at this
      rw [Array.getElem?_eq_none q] at this; cases this
  refine ⟨_, ids, rest.and (netHX a cap ps), by rw [← hr ids], List.prefix_refl _, hf.act (F := fun _ => False) (hx' := rest.and (netHX a cap ps)) (chg_of_below hbel) (fun b hbb => hbb.elim) hn (by rw [hcs', hbel.block _ hlt]; exact hA.blk) ((rest.and (netHX a cap ps)).loc w w' hf.x fun k hk => hbel.block k (hf.sep k hk).1) (fun k hk => .inl hk) hhp hfit hc oneNil, holds_pre t hp h⟩
end
set_option maxHeartbeats 1000000 in
set_option maxRecDepth 100000 in
theorem nhead_any (w : World) : Calls Try.prog 6 #[] w (PureAt w (.bool true)) := by
  refine calls_at (tab_ok _) Try.func6 rfl tNHead (ρ := ⟨[], [], [], [], []⟩) (ids := []) rfl (Facts.initP rfl oneNil) ?_
  refine node_newB 49 ⟨[], [], [], [0, 0], [none]⟩ (fun w => nnew_any w) (fun _ => rfl) rfl (fun _ => rfl) rfl rfl rfl oneNil ?_
  rw [← net_none HX.nil]
  refine node_net (a := none) (cap := 0) (ps := []) (D := [⟨1, 2, [7]⟩]) (V := .int .i64 0) 0 [0] [] rfl rfl (fun _ => rfl) apart_none (fun k q => absurd rfl q) (fun k q => absurd rfl q)
    (fun ids w2 hp hf HA => put_any (idAt ids 0) none 0 [] ⟨1, 2, [7]⟩ (some ⟨idAt ids 1, 0, none⟩) 1 w2 HA (fun _ => ?_) (fun k hk => ?_) (by decide)) [.sl 1 (.var 2) (.var 3)] rfl (fun _ _ _ _ => rfl) (fun _ _ _ _ => rfl) rfl (fun _ _ _ => rfl) ?_
  · have hb := hf.blk 1 _ _ rfl
    refine ⟨rfl, hf.id_lt (idAt_mem (by rw [hf.len]; decide)), fun j u hj => ?_⟩
    have := cells_blk (o := 0) hb j
    show w2.cell? ⟨idAt ids 1, 0 + j, none⟩ = some u
    rw [this, Nat.zero_add]; exact hj
  · obtain ⟨_, rfl⟩ := hk
    refine ⟨fun q => ?_, fun q => q.1 rfl⟩
    have := idAt_inj hf.nod (n := 1) (m := 0) (by rw [hf.len]; decide) (by rw [hf.len]; decide) q
    omega
  intro a1 c1 p1 hD1 hap1 hfr1 hF1
  refine br_f rfl ?_
  have n1 : ∀ k, c1 ≠ 0 → abk a1 = some k → w.heap.size ≤ k := fun k h1 h2 => by
    rcases hfr1 k h1 h2 with h | h
    · exact absurd rfl h.1
    · exact h.1
  refine node_net (D := [⟨1, 2, [7]⟩, ⟨2, 1, []⟩]) (V := .int .i64 0) 0 [0] [] rfl rfl (fun _ => rfl) hap1 (fun k h1 h2 => .inl (n1 k h1 h2)) (fun k _ _ h => h)
    (fun ids w2 hp hf HA => by
      have := put_any (idAt ids 0) a1 c1 p1 ⟨2, 1, []⟩ none 0 w2 HA (fun h => by simp [bcells] at h) (fun k hk => absurd rfl hk.1) (by decide)
      rw [hD1] at this
      exact this) [.sl 2 (.var 4) (.var 5)] rfl (fun _ _ _ _ => rfl) (fun _ _ _ _ => rfl) rfl (fun _ _ _ => rfl) ?_
  intro a2 c2 p2 hD2 hap2 hfr2 hF2
  refine br_f rfl ?_
  have n2 : ∀ k, c2 ≠ 0 → abk a2 = some k → w.heap.size ≤ k := fun k h1 h2 => by
    rcases hfr2 k h1 h2 with h | h
    · exact n1 k h.1 h.2
    · exact h.1
  obtain ⟨q0, q1, rfl⟩ : ∃ q0 q1, p2 = [q0, q1] := by
    have := congrArg List.length hD2
    match p2, this with
    | [q0, q1], _ => exact ⟨q0, q1, rfl⟩
  simp only [List.map_cons, List.map_nil, List.cons.injEq, and_true] at hD2
  refine node_net (D := [⟨1, 2, [7]⟩, ⟨2, 1, []⟩, ⟨1, 2, [7]⟩]) (V := .bool true) 0 [] [true] rfl rfl (fun _ => rfl) hap2 (fun k h1 h2 => .inl (n2 k h1 h2)) (fun k _ _ h => h)
    (fun ids w2 hp hf HA => by
      have h7 : q0.bs = [7] := congrArg PkD.bs hD2.1
      have := copy_yes (idAt ids 0) a2 c2 [q0, q1] 0 q0 w2 HA rfl (by rw [h7]; decide)
      rw [List.map_cons, List.map_cons, List.map_nil, hD2.1, hD2.2] at this
      exact this) [.sl 3 (.var 6) (.var 7)] rfl (fun _ _ _ _ => rfl) (fun _ _ _ _ => rfl) rfl (fun _ _ _ => rfl) ?_
  intro a3 c3 p3 hD3 hap3 hfr3 hF3
  refine br_f rfl ?_
  have n3 : ∀ k, c3 ≠ 0 → abk a3 = some k → w.heap.size ≤ k := fun k h1 h2 => by
    rcases hfr3 k h1 h2 with h | h
    · exact n2 k h.1 h.2
    · exact h.1
  obtain ⟨r0, r1, r2, rfl⟩ : ∃ q0 q1 q2, p3 = [q0, q1, q2] := by
    have := congrArg List.length hD3
    match p3, this with
    | [q0, q1, q2], _ => exact ⟨q0, q1, q2, rfl⟩
  simp only [List.map_cons, List.map_nil, List.cons.injEq, and_true] at hD3
  refine node_take 0 1 r1 rfl rfl (fun _ => rfl) hap3 rfl (show 3 ≤ 1000000 by decide) (fun k h1 h2 => .inl (n3 k h1 h2)) (fun k _ _ h => h) (fun _ => rfl) [.sl 4 (.var 8) (.var 9)] rfl (fun _ => rfl) (fun _ => rfl) rfl rfl ?_
  have f1 : r1.f = 2 := congrArg PkD.f hD3.2.1
  refine br_t rfl (br_t (show (r1.f == 2) = true by rw [f1]; rfl) ?_)
  refine node_pure ⟨[2], [], [], [], []⟩ rfl rfl rfl oneNil (fun ids w2 hp hf => len_any (idAt ids 0) a3 c3 2 w2 (hf.blkAt 0 rfl)) ?_
  refine br_t rfl ?_
  intro ids w2 hp hf
  have HA : NetAt w2 (idAt ids 0) a3 c3 [r0, r2] := net_at 0 hf rfl (fun _ => rfl) (fun k h1 h2 ⟨p, hp2, h3⟩ => hap3 k h1 h2 ⟨p, by simp at hp2 ⊢; rcases hp2 with rfl | rfl <;> simp, h3⟩)
  refine (list_any (idAt ids 0) a3 c3 [r0, r2] w2 HA (show 2 ≤ 1000000 by decide) (fun p hp2 => ?_)).mono ?_
  · simp at hp2
    rcases hp2 with rfl | rfl
    · rw [show p.bs = [7] from congrArg PkD.bs hD3.1]; decide
    · rw [show p.bs = [7] from congrArg PkD.bs hD3.2.2]; decide
  rintro e w' ⟨a4, c4, qs, hD4, rfl, _, _, _, hbel⟩
  have hq : qs.length = 2 := by have := congrArg List.length hD4; simpa using this
  rw [hq]
  have hg : w2.grownBy w' none := ⟨hbel.os, hbel.tape, hbel.output, hbel.size, fun k hk _ => hbel.block k hk⟩
  refine ⟨⟨[], [], [], [2, c4], [a4]⟩, ids, _, rfl, List.prefix_refl _, hf.turn (hx' := HX.nil) hg (fun b e => by cases e) trivial (fun k hk => hk.elim) rfl rfl rfl oneNil, ?_⟩
  exact pure_done fun _ => rfl
set_option maxRecDepth 100000 in
theorem nil_walk (i : Int) (w : World) (hi : I64 i) : Calls Try.prog 5 #[.int .i64 i] w fun e w' => e = .returned (.bool true) ∧ Below w.heap.size w w' := by
  refine calls_at (tab_ok _) Try.func5 rfl tNNil (ρ := ⟨[i], [], [], [], []⟩) (ids := []) rfl (Facts.initP rfl oneNil) ?_
  refine node_val ⟨[0, 0], [false], [], [0, 0], [none]⟩ (fun w => take_nil i w) (fun _ => rfl) (fun _ => rfl) rfl rfl rfl oneNil ?_
  refine node_val ⟨[], [true], [], [], []⟩ (fun w => nhead_any w) (fun _ => rfl) (fun _ => rfl) rfl rfl rfl oneNil ?_
  refine br_t rfl (br_t rfl ?_)
  refine node_val ⟨[1], [], [], [], []⟩ (fun w => put_nil w) (fun _ => rfl) (fun _ => rfl) rfl rfl rfl oneNil (br_t rfl ?_)
  refine node_val ⟨[0], [], [], [], []⟩ (fun w => len_nil w) (fun _ => rfl) (fun _ => rfl) rfl rfl rfl oneNil (br_t rfl ?_)
  refine node_val ⟨[], [false], [], [], []⟩ (fun w => copy_nil i w) (fun _ => rfl) (fun _ => rfl) rfl rfl rfl oneNil (br_t rfl ?_)
  refine node_val ⟨[0], [], [], [], []⟩ (fun w => lose_nil i w) (fun _ => rfl) (fun _ => rfl) rfl rfl rfl oneNil (br_t rfl ?_)
  exact node_val ⟨[], [], [], [0, 0], [none]⟩ (fun w => list_nil w) (fun _ => rfl) (fun _ => rfl) rfl rfl rfl oneNil (pure_done fun _ => rfl)
def fullD (bs : List Int) (k : Nat) : List PkD := (List.range k).map fun (j : Nat) => (⟨1 + (j : Int) % 9, 1, bs⟩ : PkD)
theorem fullD_len (bs : List Int) (k : Nat) : (fullD bs k).length = k := by simp [fullD]
theorem fullD_succ (bs : List Int) (k : Nat) : fullD bs (k + 1) = fullD bs k ++ [⟨1 + (k : Int) % 9, 1, bs⟩] := by simp [fullD, List.range_succ]
theorem fullD_get (bs : List Int) {k n : Nat} (h : k < n) : (fullD bs n)[k]? = some ⟨1 + (k : Int) % 9, 1, bs⟩ := by simp [fullD, h]
def FuI (W : World) (b : Option Addr) (bs : List Int) (vs : Vals) (hx : HX) : Prop :=
  ∃ (k : Nat) (a : Option Addr) (cap : Nat) (ps : List Pk), k ≤ 512 ∧ ps.map Pk.d = fullD bs k ∧ Apart a cap ps ∧ (∀ j, cap ≠ 0 → abk a = some j → W.heap.size ≤ j ∧ ¬ (HX.cl b (bcells bs)).F j) ∧ vs = ⟨[(k : Int)], [], [], [ps.length, cap], [a]⟩ ∧ hx = (HX.cl b (bcells bs)).and (netHX a cap ps)
def FuJ (W : World) (b : Option Addr) (bs : List Int) (vs : Vals) (hx : HX) : Prop :=
  ∃ (k : Nat) (a : Option Addr) (cap : Nat) (ps : List Pk), k ≤ 512 ∧ ps.map Pk.d = (fullD bs 512).drop k ∧ Apart a cap ps ∧ (∀ j, cap ≠ 0 → abk a = some j → W.heap.size ≤ j ∧ ¬ (HX.cl b (bcells bs)).F j) ∧ vs = ⟨[(k : Int)], [], [], [ps.length, cap], [a]⟩ ∧ hx = (HX.cl b (bcells bs)).and (netHX a cap ps)
theorem apart_erase {a : Option Addr} {cap : Nat} {ps : List Pk} (h : Apart a cap ps) (i : Nat) : Apart a cap (ps.eraseIdx i) := fun k h1 h2 ⟨q, hq, h5⟩ => h k h1 h2 ⟨q, List.mem_of_mem_eraseIdx hq, h5⟩
set_option maxHeartbeats 4000000 in
set_option maxRecDepth 100000 in
theorem full_walk (b : Option Addr) (cb : Nat) (bs : List Int) (w : World) (Hb : Cells w b (bcells bs)) (hl : bs.length ≤ 9223372036854775807) : Calls Try.prog 3 #[.slice b bs.length cb] w fun e w' => e = .returned (.bool true) ∧ Below w.heap.size w w' := by
  refine calls_at (tab_ok _) Try.func3 rfl tNFull (ρ := ⟨[], [], [], [bs.length, cb], [b]⟩) (ids := []) (hx := HX.cl b (bcells bs)) rfl (Facts.initq rfl oneNil Hb (cl_sep Hb)) ?_
  refine node_val ⟨[], [true], [], [], []⟩ (fun w => nhead_any w) (fun _ => rfl) (fun _ => rfl) rfl rfl rfl oneNil ?_
  refine br_f rfl ?_
  refine node_newB 49 ⟨[], [], [], [0, 0], [none]⟩ (fun w => nnew_any w) (fun _ => rfl) rfl (fun _ => rfl) rfl rfl rfl oneNil ?_
  by_cases hbl : bs.length > 100
  · exact br_t (show decide ((bs.length : Int) > 100) = true by simp; omega) (pure_done fun _ => rfl)
  refine br_f (show decide ((bs.length : Int) > 100) = false by simp; omega) ?_
  refine loop_i (FuI w b bs) (fun vs => 600 - (vs.i.headD 0).toNat) (fun ids w2 hp hf => ⟨(HX.cl b (bcells bs)).and (netHX none 0 []), by rw [net_none]; exact ⟨hf.x, hf.sep⟩, 0, none, 0, [], by omega, rfl, apart_none, fun j q => absurd rfl q, rfl, rfl⟩) ?_
  rintro vs hx' hcnt ⟨k, a, cap, ps, hk1, hD, hap, hnew, rfl, rfl⟩
  have hwk : IntKind.i64.wrap ((k : Int) + 1) = ((k + 1 : Nat) : Int) := by rw [wrap_i64 (by omega)]; omega
  have hpl : ps.length = k := by have := congrArg List.length hD; rw [List.length_map, fullD_len] at this; exact this
  have hm9 : IntKind.i64.wrap (1 + Int.tmod (k : Int) 9) = 1 + (k : Int) % 9 := by
    have : Int.tmod (k : Int) 9 = (k : Int) % 9 := Int.tmod_eq_emod_of_nonneg (by omega)
    rw [this]; exact wrap_i64 (by omega)
  by_cases hk : k < 512
  · refine br_t (show decide ((k : Int) < 512) = true by simp; omega) ?_
    refine node_newbs (bs := bs) (cap := cb) (sa := fun _ => b) (fun w a h => copyb_any a cb bs w h (by omega)) (fun ids w2 hp hf => hf.x.1) (fun _ => rfl) (fun _ _ _ => rfl) rfl rfl (fun _ _ => rfl) ?_
    intro a7 c7 h7
    have h7F : ∀ j, (HX.cl a7 (bcells bs)).F j → w.heap.size ≤ j ∧ ¬ ((HX.cl b (bcells bs)).and (netHX a cap ps)).F j := fun j hj => by
      obtain ⟨q, rfl⟩ := hj
      exact h7 fun e => q (by rw [e]; rfl)
    rw [HX.and_right_comm (HX.cl b (bcells bs)) (netHX a cap ps) (HX.cl a7 (bcells bs))]
    have he0 : putE (ps.map Pk.d) ⟨1 + (k : Int) % 9, 1, bs⟩ = 0 := by
      unfold putE
      rw [List.length_map, if_neg (show ¬ (min (1 + (k : Int) % 9) 1 < 0 ∨ 9 < max (1 + (k : Int) % 9) 1) by omega), if_neg (show ¬ 65536 < bs.length by omega), if_neg (by omega)]
    refine node_net (D := fullD bs (k + 1)) (V := .int .i64 0) 0 [0] [] rfl rfl (fun _ => rfl) hap (fun j h1 h2 => .inl (hnew j h1 h2).1) (fun j h1 h2 hF => hF.elim (hnew j h1 h2).2 (fun h => (h7F j h).2 (.inr (.inr ⟨h1, h2⟩))))
      (fun ids w2 hp hf HA => by
        have := put_any (idAt ids 0) a cap ps ⟨1 + (k : Int) % 9, 1, bs⟩ a7 c7 w2 HA hf.x.1.2 (fun j hj => ⟨fun q => (hf.sep j (.inl (.inr hj))).2 (q ▸ idAt_mem (by rw [hf.len]; exact Nat.zero_lt_one)), fun q => (h7F j hj).2 (.inr (.inr q))⟩) (show bs.length ≤ _ by omega)
        rw [he0, putD, if_pos he0, hD, ← fullD_succ] at this
        show Calls Try.prog _ #[_, .agg #[.int .i64 (IntKind.i64.wrap (1 + Int.tmod (k : Int) 9)), .int .i64 1, .slice a7 bs.length c7]] w2 _
        rw [hm9]
        exact this) [.sl 4 (.var 8) (.var 9)] rfl (fun _ _ _ _ => rfl) (fun _ _ _ _ => rfl) rfl (fun _ _ _ => rfl) ?_
    intro a2 c2 p2 hD2 hap2 hfr2 hF2
    refine br_f rfl ?_
    intro ids w2 hp hf
    refine ⟨(HX.cl b (bcells bs)).and (netHX a2 c2 p2), ⟨⟨hf.x.1.1, hf.x.2⟩, fun j hj => hj.elim (fun h => hf.sep j (.inl (.inl h))) (fun h => hf.sep j (.inr h))⟩, _, rfl, ⟨k + 1, a2, c2, p2, by omega, hD2, hap2, fun j h1 h2 => ?_, ?_, rfl⟩, ?_⟩
    · rcases hfr2 j h1 h2 with h | h
      · exact hnew j h.1 h.2
      · exact ⟨h.1, fun q => h.2 (.inl q)⟩
    · show (⟨[IntKind.i64.wrap ((k : Int) + 1)], [], [], [p2.length, c2], [a2]⟩ : Vals) = _
      rw [hwk]
    · show 600 - (IntKind.i64.wrap ((k : Int) + 1)).toNat < 600 - ((k : Int)).toNat
      rw [hwk]; omega
  · refine br_f (show decide ((k : Int) < 512) = false by simp; omega) ?_
    have hk512 : k = 512 := by omega
    subst hk512
    have heF : ∀ p : PkD, (min p.f p.t < 0 ∨ 9 < max p.f p.t) = False → p.bs.length ≤ 100 → putE (fullD bs 512) p = 43 := fun p h1 h2 => by
      unfold putE
      rw [if_neg (fun h => h1 ▸ h), if_neg (by omega), fullD_len, if_pos (Nat.le_refl _)]
    refine node_net (D := fullD bs 512) (V := .int .i64 43) 0 [43] [] rfl rfl (fun _ => rfl) hap (fun j h1 h2 => .inl (hnew j h1 h2).1) (fun j h1 h2 => (hnew j h1 h2).2)
      (fun ids w2 hp hf HA => by
        have := put_any (idAt ids 0) a cap ps ⟨1, 1, []⟩ none 0 w2 HA (fun h => by simp [bcells] at h) (fun j hj => absurd rfl hj.1) (by decide)
        have e := heF ⟨1, 1, []⟩ (by simp) (by decide)
        rw [hD, e, putD, e] at this
        exact this) [.sl 3 (.var 6) (.var 7)] rfl (fun _ _ _ _ => rfl) (fun _ _ _ _ => rfl) rfl (fun _ _ _ => rfl) ?_
    intro a2 c2 p2 hD2 hap2 hfr2 hF2
    refine br_f rfl ?_
    have hnew2 : ∀ j, c2 ≠ 0 → abk a2 = some j → w.heap.size ≤ j ∧ ¬ (HX.cl b (bcells bs)).F j := fun j h1 h2 => by
      rcases hfr2 j h1 h2 with h | h
      · exact hnew j h.1 h.2
      · exact h
    have hpl2 : p2.length = 512 := by have := congrArg List.length hD2; rw [List.length_map, fullD_len] at this; exact this
    obtain ⟨q, hq⟩ : ∃ q, p2[0]? = some q := ⟨_, List.getElem?_eq_getElem (by omega)⟩
    have hqd : q.d = ⟨1 + ((0 : Nat) : Int) % 9, 1, bs⟩ := by
      have h1 : (p2.map Pk.d)[0]? = some q.d := by rw [List.getElem?_map, hq]; rfl
      rw [hD2, fullD_get bs (by decide)] at h1
      exact (Option.some.inj h1).symm
    refine node_net (D := fullD bs 512) (V := .bool false) 0 [] [false] rfl rfl (fun _ => rfl) hap2 (fun j h1 h2 => .inl (hnew2 j h1 h2).1) (fun j h1 h2 => (hnew2 j h1 h2).2)
      (fun ids w2 hp hf HA => by
        have hbq : q.bs = bs := congrArg PkD.bs hqd
        have := copy_yes (idAt ids 0) a2 c2 p2 0 q w2 HA hq (by rw [hbq]; omega)
        have e := heF q.d (by rw [hqd]; simp) (by show q.bs.length ≤ 100; rw [hbq]; omega)
        rw [hD2, e, putD, e] at this
        exact this) [.sl 4 (.var 8) (.var 9)] rfl (fun _ _ _ _ => rfl) (fun _ _ _ _ => rfl) rfl (fun _ _ _ => rfl) ?_
    intro a3 c3 p3 hD3 hap3 hfr3 hF3
    refine br_f rfl ?_
    have hnew3 : ∀ j, c3 ≠ 0 → abk a3 = some j → w.heap.size ≤ j ∧ ¬ (HX.cl b (bcells bs)).F j := fun j h1 h2 => by
      rcases hfr3 j h1 h2 with h | h
      · exact hnew2 j h.1 h.2
      · exact h
    have hpl3 : p3.length = 512 := by have := congrArg List.length hD3; rw [List.length_map, fullD_len] at this; exact this
    refine node_pure ⟨[512], [], [], [], []⟩ rfl rfl rfl oneNil (fun ids w2 hp hf => by
      have := len_any (idAt ids 0) a3 c3 p3.length w2 (hf.blkAt 0 rfl)
      rw [hpl3] at this
      exact this) ?_
    refine br_f rfl ?_
    refine loop_i (FuJ w b bs) (fun vs => 600 - (vs.i.headD 0).toNat) (fun ids w2 hp hf => ⟨_, ⟨hf.x, hf.sep⟩, 0, a3, c3, p3, by omega, hD3, hap3, hnew3, rfl, rfl⟩) ?_
    rintro vs hx' hcnt ⟨k, a, cap, ps, hk1, hD, hap, hnew, rfl, rfl⟩
    have hwk : IntKind.i64.wrap ((k : Int) + 1) = ((k + 1 : Nat) : Int) := by rw [wrap_i64 (by omega)]; omega
    have hpl : ps.length = 512 - k := by have := congrArg List.length hD; rw [List.length_map, List.length_drop, fullD_len] at this; exact this
    have hm9 : IntKind.i64.wrap (1 + Int.tmod (k : Int) 9) = 1 + (k : Int) % 9 := by
      have : Int.tmod (k : Int) 9 = (k : Int) % 9 := Int.tmod_eq_emod_of_nonneg (by omega)
      rw [this]; exact wrap_i64 (by omega)
    by_cases hk : k < 512
    · refine br_t (show decide ((k : Int) < 512) = true by simp; omega) ?_
      obtain ⟨q, hq⟩ : ∃ q, ps[0]? = some q := ⟨_, List.getElem?_eq_getElem (by omega)⟩
      have hqd : q.d = ⟨1 + (k : Int) % 9, 1, bs⟩ := by
        have h1 : (ps.map Pk.d)[0]? = some q.d := by rw [List.getElem?_map, hq]; rfl
        rw [hD, List.getElem?_drop, Nat.add_zero, fullD_get bs hk] at h1
        exact (Option.some.inj h1).symm
      have hqb : q.bs = bs := congrArg PkD.bs hqd
      have hqf : q.f = 1 + (k : Int) % 9 := congrArg PkD.f hqd
      refine node_take 0 0 q rfl rfl (fun _ => rfl) hap hq (by omega) (fun j h1 h2 => .inl (hnew j h1 h2).1) (fun j h1 h2 => (hnew j h1 h2).2) (fun _ => rfl) [.sl 6 (.var 12) (.var 13)] rfl (fun _ => rfl) (fun _ => rfl) rfl rfl ?_
      refine br_f rfl (br_f (show (q.f != IntKind.i64.wrap (1 + Int.tmod (k : Int) 9)) = false by rw [hm9, hqf]; simp) ?_)
      refine node_pure ⟨[], [decide (q.bs = bs)], [], [], []⟩ rfl rfl rfl oneNil (fun ids w2 hp hf => sameb_any q.a q.c q.bs b cb bs w2 hf.x.1.2 hf.x.1.1 (by rw [hqb]; omega)) ?_
      refine br_f (show (!decide (q.bs = bs)) = false by rw [decide_eq_true hqb]; rfl) ?_
      intro ids w2 hp hf
      refine ⟨(HX.cl b (bcells bs)).and (netHX a cap (ps.eraseIdx 0)), ⟨⟨hf.x.1.1, hf.x.2⟩, fun j hj => hj.elim (fun h => hf.sep j (.inl (.inl h))) (fun h => hf.sep j (.inr h))⟩, _, rfl, ⟨k + 1, a, cap, ps.eraseIdx 0, by omega, ?_, apart_erase hap 0, hnew, ?_, rfl⟩, ?_⟩
      · cases ps with
        | nil => simp at hq
        | cons p r =>
          have h2 := congrArg List.tail hD
          rw [List.tail_drop] at h2
          exact h2
      · show (⟨[IntKind.i64.wrap ((k : Int) + 1)], [], [], [(ps.eraseIdx 0).length, cap], [a]⟩ : Vals) = _
        rw [hwk]
      · show 600 - (IntKind.i64.wrap ((k : Int) + 1)).toNat < 600 - ((k : Int)).toNat
        rw [hwk]; omega
    · refine br_f (show decide ((k : Int) < 512) = false by simp; omega) ?_
      have hp0 : ps.length = 0 := by omega
      have hps : ps = [] := List.eq_nil_of_length_eq_zero hp0
      subst hps
      refine node_take0 0 0 rfl rfl (fun _ => rfl) hap (by simp) (fun _ => rfl) [.sl 6 (.var 12) (.var 13)] rfl (fun _ => rfl) (fun _ => rfl) rfl rfl ?_
      refine br_t rfl ?_
      refine node_pure ⟨[0], [], [], [], []⟩ rfl rfl rfl oneNil (fun ids w2 hp hf => len_any (idAt ids 0) a cap 0 w2 (hf.blkAt 0 rfl)) (pure_done fun _ => rfl)
theorem full_args (b : Option Addr) (cb : Nat) (ds : List Dat) (w : World) (hC : Cells w b (Dat.cellsAll ds)) (hds : ∀ d ∈ ds, d.In Try.prog w 5) (hl : ds.length ≤ 9223372036854775807) (hb : ds.length * Try.prog.bytesOf 5 ≤ reachBytes) :
    Calls Try.prog 3 #[.slice b ds.length cb] w fun e w' => e = .returned (.bool true) ∧ Below w.heap.size w w' := by
  obtain ⟨bs, rfl, ho⟩ := list_map_of (Dat.int .u8) (fun _ => True) ds (fun d hd => by
    obtain ⟨k0, rfl, _⟩ := in_int Try.underlying5 (hds d hd)
    exact ⟨k0, rfl, trivial⟩)
  rw [List.length_map] at hl ⊢
  have : Dat.cellsAll (bs.map (Dat.int .u8)) = bcells bs := by
    clear hC hds hl hb ho
    induction bs with
    | nil => rfl
    | cons x r ih => rw [List.map_cons, bcells, List.map_cons, ← bcells, ← ih]; rfl
  rw [this] at hC
  exact full_walk b cb bs w hC hl
end Go.Proofs.Yteeecfdcebcbbaa
