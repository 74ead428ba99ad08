/- The head of layer 12; NetNil, NetFull. -/
import Derived.Test.YteeecfdcebcbbaaNetL
namespace Go.Proofs.Yteeecfdcebcbbaa
open Go.ChangeShapes Go.WideShapes Go.ChangeAt Go.RowKit Go.Syn Go.Eng
set_option linter.unusedVariables false
set_option linter.unusedSimpArgs false
set_option maxRecDepth 100000 in
theorem tNHead : (runF ⟨tt, fns, {ret := [(7, .one (.newp 49 [.sl]))], touch := [(8, [0]), (10, [0]), (12, [0])]}⟩ (Try.f6.body.getD .skip) Try.f6.results.toList (entry Try.f6.ntmps [] [] ⟨0, 0, 0, 0, 0⟩)) =
  (.call 7 [] ⟨[], ⟨0, 0, 0, 0, 0⟩⟩ (.lf (.ptr 0 0)) ⟨[(49, [(.sl 0 (.var 0) (.var 1))])], ⟨0, 0, 0, 2, 1⟩⟩ (.call 8 [(.lf (.ptr 0 0)), (.agg [(.int .i64 (.lit 1)), (.int .i64 (.lit 2)), (.nsl 1 0 1 1)])] ⟨[(49, [(.sl 0 (.var 0) (.var 1))]), (5, [(.int .u8 (.lit 7))])], ⟨0, 0, 0, 2, 1⟩⟩ (.lf (.int .i64 (.var 0))) ⟨[(49, [(.sl 1 (.var 2) (.var 3))]), (5, [(.int .u8 (.lit 7))])], ⟨1, 0, 0, 4, 2⟩⟩ (.br (.cmp .neq (.var 0) (.lit 0)) (.done (.lf (.bool (.lit .false))) ⟨[(49, [(.sl 1 (.var 2) (.var 3))]), (5, [(.int .u8 (.lit 7))])], ⟨1, 0, 0, 4, 2⟩⟩) (.call 8 [(.lf (.ptr 0 0)), (.agg [(.int .i64 (.lit 2)), (.int .i64 (.lit 1)), .nilsl])] ⟨[(49, [(.sl 1 (.var 2) (.var 3))]), (5, [(.int .u8 (.lit 7))])], ⟨1, 0, 0, 4, 2⟩⟩ (.lf (.int .i64 (.var 1))) ⟨[(49, [(.sl 2 (.var 4) (.var 5))]), (5, [(.int .u8 (.lit 7))])], ⟨2, 0, 0, 6, 3⟩⟩ (.br (.cmp .neq (.var 1) (.lit 0)) (.done (.lf (.bool (.lit .false))) ⟨[(49, [(.sl 2 (.var 4) (.var 5))]), (5, [(.int .u8 (.lit 7))])], ⟨2, 0, 0, 6, 3⟩⟩) (.call 10 [(.lf (.ptr 0 0)), (.lf (.int .i64 (.lit 0)))] ⟨[(49, [(.sl 2 (.var 4) (.var 5))]), (5, [(.int .u8 (.lit 7))])], ⟨2, 0, 0, 6, 3⟩⟩ (.lf (.bool (.var 0))) ⟨[(49, [(.sl 3 (.var 6) (.var 7))]), (5, [(.int .u8 (.lit 7))])], ⟨2, 1, 0, 8, 4⟩⟩ (.br (.not (.var 0)) (.done (.lf (.bool (.lit .false))) ⟨[(49, [(.sl 3 (.var 6) (.var 7))]), (5, [(.int .u8 (.lit 7))])], ⟨2, 1, 0, 8, 4⟩⟩) (.call 12 [(.lf (.ptr 0 0)), (.lf (.int .i64 (.lit 1)))] ⟨[(49, [(.sl 3 (.var 6) (.var 7))]), (5, [(.int .u8 (.lit 7))])], ⟨2, 1, 0, 8, 4⟩⟩ (.tup [(.true, [(.int .i64 (.var 2)), (.int .i64 (.var 3)), (.sl 5 (.var 10) (.var 11))]), (.false, [(.bool (.var 1))])]) ⟨[(49, [(.sl 4 (.var 8) (.var 9))]), (5, [(.int .u8 (.lit 7))])], ⟨4, 2, 0, 12, 6⟩⟩ (.br (.var 1) (.br (.cmp .eql (.var 2) (.lit 2)) (.call 11 [(.lf (.ptr 0 0))] ⟨[(49, [(.sl 4 (.var 8) (.var 9))]), (5, [(.int .u8 (.lit 7))]), (30, [(.int .i64 (.var 2)), (.int .i64 (.var 3)), (.sl 5 (.var 10) (.var 11))])], ⟨4, 2, 0, 12, 6⟩⟩ (.lf (.int .i64 (.var 4))) ⟨[(49, [(.sl 4 (.var 8) (.var 9))]), (5, [(.int .u8 (.lit 7))]), (30, [(.int .i64 (.var 2)), (.int .i64 (.var 3)), (.sl 5 (.var 10) (.var 11))])], ⟨5, 2, 0, 12, 6⟩⟩ (.br (.cmp .eql (.var 4) (.lit 2)) (.call 19 [(.lf (.ptr 0 0))] ⟨[(49, [(.sl 4 (.var 8) (.var 9))]), (5, [(.int .u8 (.lit 7))]), (30, [(.int .i64 (.var 2)), (.int .i64 (.var 3)), (.sl 5 (.var 10) (.var 11))])], ⟨5, 2, 0, 12, 6⟩⟩ (.lf (.sl 6 (.var 12) (.var 13))) ⟨[(49, [(.sl 4 (.var 8) (.var 9))]), (5, [(.int .u8 (.lit 7))]), (30, [(.int .i64 (.var 2)), (.int .i64 (.var 3)), (.sl 5 (.var 10) (.var 11))])], ⟨5, 2, 0, 14, 7⟩⟩ (.done (.lf (.bool (.cmp .eql (.nat 12) (.lit 2)))) ⟨[(49, [(.sl 4 (.var 8) (.var 9))]), (5, [(.int .u8 (.lit 7))]), (30, [(.int .i64 (.var 2)), (.int .i64 (.var 3)), (.sl 5 (.var 10) (.var 11))])], ⟨5, 2, 0, 14, 7⟩⟩)) (.done (.lf (.bool (.lit .false))) ⟨[(49, [(.sl 4 (.var 8) (.var 9))]), (5, [(.int .u8 (.lit 7))]), (30, [(.int .i64 (.var 2)), (.int .i64 (.var 3)), (.sl 5 (.var 10) (.var 11))])], ⟨5, 2, 0, 12, 6⟩⟩))) (.done (.lf (.bool (.lit .false))) ⟨[(49, [(.sl 4 (.var 8) (.var 9))]), (5, [(.int .u8 (.lit 7))]), (30, [(.int .i64 (.var 2)), (.int .i64 (.var 3)), (.sl 5 (.var 10) (.var 11))])], ⟨4, 2, 0, 12, 6⟩⟩)) (.done (.lf (.bool (.lit .false))) ⟨[(49, [(.sl 4 (.var 8) (.var 9))]), (5, [(.int .u8 (.lit 7))]), (30, [(.int .i64 (.var 2)), (.int .i64 (.var 3)), (.sl 5 (.var 10) (.var 11))])], ⟨4, 2, 0, 12, 6⟩⟩)))))))))) := by kernel_rfl
set_option maxRecDepth 100000 in
theorem tNNil : (runF ⟨tt, fns, {}⟩ (Try.f5.body.getD .skip) Try.f5.results.toList (entry Try.f5.ntmps [.lf (.int .i64 (.var 0))] [] ⟨1, 0, 0, 0, 0⟩)) =
  (.call 12 [(.lf .nilp), (.lf (.int .i64 (.var 0)))] ⟨[], ⟨1, 0, 0, 0, 0⟩⟩ (.tup [(.true, [(.int .i64 (.var 1)), (.int .i64 (.var 2)), (.sl 0 (.var 0) (.var 1))]), (.false, [(.bool (.var 0))])]) ⟨[], ⟨3, 1, 0, 2, 1⟩⟩ (.call 6 [] ⟨[(30, [(.int .i64 (.var 1)), (.int .i64 (.var 2)), (.sl 0 (.var 0) (.var 1))])], ⟨3, 1, 0, 2, 1⟩⟩ (.lf (.bool (.var 1))) ⟨[(30, [(.int .i64 (.var 1)), (.int .i64 (.var 2)), (.sl 0 (.var 0) (.var 1))])], ⟨3, 2, 0, 2, 1⟩⟩ (.br (.var 1) (.br (.not (.var 0)) (.call 8 [(.lf .nilp), (.agg [(.int .i64 (.lit 1)), (.int .i64 (.lit 1)), .nilsl])] ⟨[(30, [(.int .i64 (.var 1)), (.int .i64 (.var 2)), (.sl 0 (.var 0) (.var 1))])], ⟨3, 2, 0, 2, 1⟩⟩ (.lf (.int .i64 (.var 3))) ⟨[(30, [(.int .i64 (.var 1)), (.int .i64 (.var 2)), (.sl 0 (.var 0) (.var 1))])], ⟨4, 2, 0, 2, 1⟩⟩ (.br (.cmp .eql (.var 3) (.lit 1)) (.call 11 [(.lf .nilp)] ⟨[(30, [(.int .i64 (.var 1)), (.int .i64 (.var 2)), (.sl 0 (.var 0) (.var 1))])], ⟨4, 2, 0, 2, 1⟩⟩ (.lf (.int .i64 (.var 4))) ⟨[(30, [(.int .i64 (.var 1)), (.int .i64 (.var 2)), (.sl 0 (.var 0) (.var 1))])], ⟨5, 2, 0, 2, 1⟩⟩ (.br (.cmp .eql (.var 4) (.lit 0)) (.call 10 [(.lf .nilp), (.lf (.int .i64 (.var 0)))] ⟨[(30, [(.int .i64 (.var 1)), (.int .i64 (.var 2)), (.sl 0 (.var 0) (.var 1))])], ⟨5, 2, 0, 2, 1⟩⟩ (.lf (.bool (.var 2))) ⟨[(30, [(.int .i64 (.var 1)), (.int .i64 (.var 2)), (.sl 0 (.var 0) (.var 1))])], ⟨5, 3, 0, 2, 1⟩⟩ (.br (.not (.var 2)) (.call 18 [(.lf .nilp), (.lf (.int .i64 (.var 0)))] ⟨[(30, [(.int .i64 (.var 1)), (.int .i64 (.var 2)), (.sl 0 (.var 0) (.var 1))])], ⟨5, 3, 0, 2, 1⟩⟩ (.lf (.int .i64 (.var 5))) ⟨[(30, [(.int .i64 (.var 1)), (.int .i64 (.var 2)), (.sl 0 (.var 0) (.var 1))])], ⟨6, 3, 0, 2, 1⟩⟩ (.br (.cmp .eql (.var 5) (.lit 0)) (.call 19 [(.lf .nilp)] ⟨[(30, [(.int .i64 (.var 1)), (.int .i64 (.var 2)), (.sl 0 (.var 0) (.var 1))])], ⟨6, 3, 0, 2, 1⟩⟩ (.lf (.sl 1 (.var 2) (.var 3))) ⟨[(30, [(.int .i64 (.var 1)), (.int .i64 (.var 2)), (.sl 0 (.var 0) (.var 1))])], ⟨6, 3, 0, 4, 2⟩⟩ (.done (.lf (.bool (.cmp .eql (.nat 2) (.lit 0)))) ⟨[(30, [(.int .i64 (.var 1)), (.int .i64 (.var 2)), (.sl 0 (.var 0) (.var 1))])], ⟨6, 3, 0, 4, 2⟩⟩)) (.done (.lf (.bool (.lit .false))) ⟨[(30, [(.int .i64 (.var 1)), (.int .i64 (.var 2)), (.sl 0 (.var 0) (.var 1))])], ⟨6, 3, 0, 2, 1⟩⟩))) (.done (.lf (.bool (.lit .false))) ⟨[(30, [(.int .i64 (.var 1)), (.int .i64 (.var 2)), (.sl 0 (.var 0) (.var 1))])], ⟨5, 3, 0, 2, 1⟩⟩))) (.done (.lf (.bool (.lit .false))) ⟨[(30, [(.int .i64 (.var 1)), (.int .i64 (.var 2)), (.sl 0 (.var 0) (.var 1))])], ⟨5, 2, 0, 2, 1⟩⟩))) (.done (.lf (.bool (.lit .false))) ⟨[(30, [(.int .i64 (.var 1)), (.int .i64 (.var 2)), (.sl 0 (.var 0) (.var 1))])], ⟨4, 2, 0, 2, 1⟩⟩))) (.done (.lf (.bool (.lit .false))) ⟨[(30, [(.int .i64 (.var 1)), (.int .i64 (.var 2)), (.sl 0 (.var 0) (.var 1))])], ⟨3, 2, 0, 2, 1⟩⟩)) (.done (.lf (.bool (.lit .false))) ⟨[(30, [(.int .i64 (.var 1)), (.int .i64 (.var 2)), (.sl 0 (.var 0) (.var 1))])], ⟨3, 2, 0, 2, 1⟩⟩)))) := by kernel_rfl
set_option maxRecDepth 100000 in
theorem tNFull : (runF ⟨tt, fns, {ret := [(7, .one (.newp 49 [.sl]))], touch := [(8, [0]), (10, [0]), (12, [0])], loops := [(7, ⟨[(4, .int .i64)], [0]⟩), (14, ⟨[(5, .int .i64)], [0]⟩)]}⟩ (Try.f3.body.getD .skip) Try.f3.results.toList (entry Try.f3.ntmps [.lf (.sl 0 (.var 0) (.var 1))] [] ⟨0, 0, 0, 2, 1⟩)) =
  (.call 6 [] ⟨[], ⟨0, 0, 0, 2, 1⟩⟩ (.lf (.bool (.var 0))) ⟨[], ⟨0, 1, 0, 2, 1⟩⟩ (.br (.not (.var 0)) (.done (.lf (.bool (.lit .false))) ⟨[], ⟨0, 1, 0, 2, 1⟩⟩) (.call 7 [] ⟨[], ⟨0, 1, 0, 2, 1⟩⟩ (.lf (.ptr 0 0)) ⟨[(49, [(.sl 1 (.var 2) (.var 3))])], ⟨0, 1, 0, 4, 2⟩⟩ (.br (.cmp .gtr (.nat 0) (.lit 100)) (.done (.lf (.bool (.lit .true))) ⟨[(49, [(.sl 1 (.var 2) (.var 3))])], ⟨0, 1, 0, 4, 2⟩⟩) (.loop 7 ⟨[(.lit 0)], [], [], [(.var 2), (.var 3)], [(.var 1)]⟩ ⟨[(49, [(.sl 1 (.var 2) (.var 3))])], ⟨0, 1, 0, 4, 2⟩⟩ ⟨[(49, [(.sl 2 (.var 4) (.var 5))])], ⟨1, 1, 0, 6, 3⟩⟩ (.br (.cmp .lss (.var 0) (.lit 512)) (.call 9 [(.lf (.sl 0 (.var 0) (.var 1)))] ⟨[(49, [(.sl 2 (.var 4) (.var 5))])], ⟨1, 1, 0, 6, 3⟩⟩ (.lf (.sl 3 (.var 6) (.var 7))) ⟨[(49, [(.sl 2 (.var 4) (.var 5))])], ⟨1, 1, 0, 8, 4⟩⟩ (.call 8 [(.lf (.ptr 0 0)), (.agg [(.int .i64 (.op .add .i64 (.lit 1) (.op .rem .i64 (.var 0) (.lit 9)))), (.int .i64 (.lit 1)), (.sl 3 (.var 6) (.var 7))])] ⟨[(49, [(.sl 2 (.var 4) (.var 5))])], ⟨1, 1, 0, 8, 4⟩⟩ (.lf (.int .i64 (.var 1))) ⟨[(49, [(.sl 4 (.var 8) (.var 9))])], ⟨2, 1, 0, 10, 5⟩⟩ (.br (.cmp .neq (.var 1) (.lit 0)) (.done (.lf (.bool (.lit .false))) ⟨[(49, [(.sl 4 (.var 8) (.var 9))])], ⟨2, 1, 0, 10, 5⟩⟩) (.again 7 ⟨[(.op .add .i64 (.var 0) (.lit 1))], [], [], [(.var 8), (.var 9)], [(.var 4)]⟩ ⟨[(49, [(.sl 4 (.var 8) (.var 9))])], ⟨2, 1, 0, 10, 5⟩⟩)))) (.call 8 [(.lf (.ptr 0 0)), (.agg [(.int .i64 (.lit 1)), (.int .i64 (.lit 1)), .nilsl])] ⟨[(49, [(.sl 2 (.var 4) (.var 5))])], ⟨1, 1, 0, 6, 3⟩⟩ (.lf (.int .i64 (.var 1))) ⟨[(49, [(.sl 3 (.var 6) (.var 7))])], ⟨2, 1, 0, 8, 4⟩⟩ (.br (.cmp .neq (.var 1) (.lit 43)) (.done (.lf (.bool (.lit .false))) ⟨[(49, [(.sl 3 (.var 6) (.var 7))])], ⟨2, 1, 0, 8, 4⟩⟩) (.call 10 [(.lf (.ptr 0 0)), (.lf (.int .i64 (.lit 0)))] ⟨[(49, [(.sl 3 (.var 6) (.var 7))])], ⟨2, 1, 0, 8, 4⟩⟩ (.lf (.bool (.var 1))) ⟨[(49, [(.sl 4 (.var 8) (.var 9))])], ⟨2, 2, 0, 10, 5⟩⟩ (.br (.var 1) (.done (.lf (.bool (.lit .false))) ⟨[(49, [(.sl 4 (.var 8) (.var 9))])], ⟨2, 2, 0, 10, 5⟩⟩) (.call 11 [(.lf (.ptr 0 0))] ⟨[(49, [(.sl 4 (.var 8) (.var 9))])], ⟨2, 2, 0, 10, 5⟩⟩ (.lf (.int .i64 (.var 2))) ⟨[(49, [(.sl 4 (.var 8) (.var 9))])], ⟨3, 2, 0, 10, 5⟩⟩ (.br (.cmp .neq (.var 2) (.lit 512)) (.done (.lf (.bool (.lit .false))) ⟨[(49, [(.sl 4 (.var 8) (.var 9))])], ⟨3, 2, 0, 10, 5⟩⟩) (.loop 14 ⟨[(.lit 0)], [], [], [(.var 8), (.var 9)], [(.var 4)]⟩ ⟨[(49, [(.sl 4 (.var 8) (.var 9))])], ⟨3, 2, 0, 10, 5⟩⟩ ⟨[(49, [(.sl 5 (.var 10) (.var 11))])], ⟨4, 2, 0, 12, 6⟩⟩ (.br (.cmp .lss (.var 3) (.lit 512)) (.call 12 [(.lf (.ptr 0 0)), (.lf (.int .i64 (.lit 0)))] ⟨[(49, [(.sl 5 (.var 10) (.var 11))])], ⟨4, 2, 0, 12, 6⟩⟩ (.tup [(.true, [(.int .i64 (.var 4)), (.int .i64 (.var 5)), (.sl 7 (.var 14) (.var 15))]), (.false, [(.bool (.var 2))])]) ⟨[(49, [(.sl 6 (.var 12) (.var 13))])], ⟨6, 3, 0, 16, 8⟩⟩ (.br (.not (.var 2)) (.done (.lf (.bool (.lit .false))) ⟨[(49, [(.sl 6 (.var 12) (.var 13))]), (30, [(.int .i64 (.var 4)), (.int .i64 (.var 5)), (.sl 7 (.var 14) (.var 15))])], ⟨6, 3, 0, 16, 8⟩⟩) (.br (.cmp .neq (.var 4) (.op .add .i64 (.lit 1) (.op .rem .i64 (.var 3) (.lit 9)))) (.done (.lf (.bool (.lit .false))) ⟨[(49, [(.sl 6 (.var 12) (.var 13))]), (30, [(.int .i64 (.var 4)), (.int .i64 (.var 5)), (.sl 7 (.var 14) (.var 15))])], ⟨6, 3, 0, 16, 8⟩⟩) (.call 13 [(.lf (.sl 7 (.var 14) (.var 15))), (.lf (.sl 0 (.var 0) (.var 1)))] ⟨[(49, [(.sl 6 (.var 12) (.var 13))]), (30, [(.int .i64 (.var 4)), (.int .i64 (.var 5)), (.sl 7 (.var 14) (.var 15))])], ⟨6, 3, 0, 16, 8⟩⟩ (.lf (.bool (.var 3))) ⟨[(49, [(.sl 6 (.var 12) (.var 13))]), (30, [(.int .i64 (.var 4)), (.int .i64 (.var 5)), (.sl 7 (.var 14) (.var 15))])], ⟨6, 4, 0, 16, 8⟩⟩ (.br (.not (.var 3)) (.done (.lf (.bool (.lit .false))) ⟨[(49, [(.sl 6 (.var 12) (.var 13))]), (30, [(.int .i64 (.var 4)), (.int .i64 (.var 5)), (.sl 7 (.var 14) (.var 15))])], ⟨6, 4, 0, 16, 8⟩⟩) (.again 14 ⟨[(.op .add .i64 (.var 3) (.lit 1))], [], [], [(.var 12), (.var 13)], [(.var 6)]⟩ ⟨[(49, [(.sl 6 (.var 12) (.var 13))]), (30, [(.int .i64 (.var 4)), (.int .i64 (.var 5)), (.sl 7 (.var 14) (.var 15))])], ⟨6, 4, 0, 16, 8⟩⟩)))))) (.call 12 [(.lf (.ptr 0 0)), (.lf (.int .i64 (.lit 0)))] ⟨[(49, [(.sl 5 (.var 10) (.var 11))])], ⟨4, 2, 0, 12, 6⟩⟩ (.tup [(.true, [(.int .i64 (.var 4)), (.int .i64 (.var 5)), (.sl 7 (.var 14) (.var 15))]), (.false, [(.bool (.var 2))])]) ⟨[(49, [(.sl 6 (.var 12) (.var 13))])], ⟨6, 3, 0, 16, 8⟩⟩ (.br (.not (.var 2)) (.call 11 [(.lf (.ptr 0 0))] ⟨[(49, [(.sl 6 (.var 12) (.var 13))]), (30, [(.int .i64 (.var 4)), (.int .i64 (.var 5)), (.sl 7 (.var 14) (.var 15))])], ⟨6, 3, 0, 16, 8⟩⟩ (.lf (.int .i64 (.var 6))) ⟨[(49, [(.sl 6 (.var 12) (.var 13))]), (30, [(.int .i64 (.var 4)), (.int .i64 (.var 5)), (.sl 7 (.var 14) (.var 15))])], ⟨7, 3, 0, 16, 8⟩⟩ (.done (.lf (.bool (.cmp .eql (.var 6) (.lit 0)))) ⟨[(49, [(.sl 6 (.var 12) (.var 13))]), (30, [(.int .i64 (.var 4)), (.int .i64 (.var 5)), (.sl 7 (.var 14) (.var 15))])], ⟨7, 3, 0, 16, 8⟩⟩)) (.done (.lf (.bool (.lit .false))) ⟨[(49, [(.sl 6 (.var 12) (.var 13))]), (30, [(.int .i64 (.var 4)), (.int .i64 (.var 5)), (.sl 7 (.var 14) (.var 15))])], ⟨6, 3, 0, 16, 8⟩⟩))))))))))))))))) := by kernel_rfl
theorem net_none (hx : HX) : hx.and (netHX none 0 []) = hx := HX.ext (by
    funext k
    refine propext ⟨fun h => h.elim id fun h => ?_, .inl⟩
    rcases h with ⟨p, hp, _⟩ | h
    · simp at hp
    · exact absurd rfl h.1) (by
    funext w
    exact propext ⟨fun h => h.1, fun h => ⟨h, fun p hp => by simp at hp, HX.rw_nil _ _ _ _⟩⟩)
theorem apart_none : Apart none 0 [] := fun k q => absurd rfl q
section
variable {C : Cfg} {ρ : Env} {pre : List Nat} {rest : HX} {L : Stack} {m m' : Mem} {args : List SV} {r : SV} {t : Tree} {a : Option Addr} {cap : Nat} {ps : List Pk}
theorem node_take {cs : List LV} (n : Nat) (i : Nat) (p : Pk) (hP : C.P = Try.prog) (hn : m.hp[n]? = some (49, cs)) (hcs : ∀ ids, cellsDen ρ ids cs = [.slice a ps.length cap]) (hap : Apart a cap ps) (hi : ps[i]? = some p) (hl : ps.length ≤ 1000000) (hM : ∀ k, cap ≠ 0 → abk a = some k → C.W.heap.size ≤ k ∨ C.M k) (hrest : ∀ k, cap ≠ 0 → abk a = some k → ¬ rest.F k)
    (hargs : ∀ ids, (args.map (SV.den ρ ids)).toArray = #[.pointer (some ⟨idAt ids n, 0, none⟩), .int .i64 (i : Int)]) (cs' : List LV) (hhp : m'.hp = m.hp.set n (49, cs'))
    (hcs' : ∀ ids, cellsDen (ρ.add ⟨[p.f, p.t], [true], [], [(ps.eraseIdx i).length, cap, p.bs.length, p.c], [a, p.a]⟩) ids cs' = [.slice a (ps.eraseIdx i).length cap]) (hr : ∀ ids, r.den (ρ.add ⟨[p.f, p.t], [true], [], [(ps.eraseIdx i).length, cap, p.bs.length, p.c], [a, p.a]⟩) ids = .tuple #[.agg p.cells.toArray, .bool true]) (hfit : hpFits m.c m.hp.length m.hp = true) (hc : (ρ.add ⟨[p.f, p.t], [true], [], [(ps.eraseIdx i).length, cap, p.bs.length, p.c], [a, p.a]⟩).cnt = m'.c)
    (h : t.holds C (ρ.add ⟨[p.f, p.t], [true], [], [(ps.eraseIdx i).length, cap, p.bs.length, p.c], [a, p.a]⟩) pre ((rest.and (HX.cl p.a (bcells p.bs))).and (netHX a cap (ps.eraseIdx i))) L) :
    (Tree.call 12 args m r m' t).holds C ρ pre (rest.and (netHX a cap ps)) L := by
  intro ids w hp hf
  rw [hP, hargs]
  have hlt : n < m.hp.length := by
    rcases Nat.lt_or_ge n m.hp.length with q | q
    · exact q
    · rw [List.getElem?_eq_none q] at hn; cases hn
  have hpm := List.mem_of_getElem? hi
  have hil : i < ps.length := by
    rcases Nat.lt_or_ge i ps.length with q | q
    · exact q
    · rw [List.getElem?_eq_none q] at hi; cases hi
  refine (take_yes (idAt ids n) a cap ps i p w (net_at n hf hn hcs hap) hi hl).mono ?_
  rintro e w' ⟨rfl, hb, hX, hcl, hch⟩
  have hdF : ∀ k, (HX.dats (ps.eraseIdx i)).F k → (HX.dats ps).F k := fun k ⟨q, hq, h5⟩ => ⟨q, List.mem_of_mem_eraseIdx hq, h5⟩
  refine ⟨_, ids, (rest.and (HX.cl p.a (bcells p.bs))).and (netHX a cap (ps.eraseIdx i)), by rw [← hr ids], List.prefix_refl _, hf.act (hx' := (rest.and (HX.cl p.a (bcells p.bs))).and (netHX a cap (ps.eraseIdx i))) hch (fun b hbb => ?_) hn (by rw [hcs']; exact hb) ⟨⟨rest.loc w w' hf.x.1 fun k hk => hch.block k (hf.sep k (.inl hk)).1 fun q => ?_, hcl⟩, hX⟩ (fun k hk => .inl ?_) hhp hfit hc oneNil, holds_pre t hp h⟩
  · rcases hbb with hbb | ⟨h1, h2⟩
    · exact .inl hbb
    · exact .inr ⟨.inr (.inr ⟨h1, h2⟩), hM b h1 h2⟩
  · rcases q with q | ⟨h1, h2⟩
    · exact (hf.sep k (.inl hk)).2 (q ▸ idAt_mem (hf.len ▸ hlt))
    · exact hrest k h1 h2 hk
  · rcases hk with (hk | hk) | hk | hk
    · exact .inl hk
    · exact .inr (.inl ⟨p, hpm, fun q => hk.1 (by rw [q]; rfl), hk.2⟩)
    · exact .inr (.inl (hdF k hk))
    · exact .inr (.inr hk)
end
set_option maxHeartbeats 1000000 in
set_option maxRecDepth 100000 in
theorem nhead_any (w : World) : Calls Try.prog 6 #[] w (PureAt w (.bool true)) := by
  refine calls_at (tab_ok _) Try.func6 rfl tNHead (ρ := ⟨[], [], [], [], []⟩) (ids := []) rfl (Facts.initP rfl oneNil) ?_
  refine node_newB 49 ⟨[], [], [], [0, 0], [none]⟩ (fun w => nnew_any w) (fun _ => rfl) rfl (fun _ => rfl) rfl rfl rfl oneNil ?_
  rw [← net_none HX.nil]
  refine node_net (a := none) (cap := 0) (ps := []) (D := [⟨1, 2, [7]⟩]) (V := .int .i64 0) 0 [0] [] rfl rfl (fun _ => rfl) apart_none (fun k q => absurd rfl q) (fun k q => absurd rfl q)
    (fun ids w2 hp hf HA => put_any (idAt ids 0) none 0 [] ⟨1, 2, [7]⟩ (some ⟨idAt ids 1, 0, none⟩) 1 w2 HA (fun _ => ?_) (fun k hk => ?_) (by decide)) [.sl 1 (.var 2) (.var 3)] rfl (fun _ _ _ _ => rfl) (fun _ _ _ _ => rfl) rfl (fun _ _ _ => rfl) ?_
  · have hb := hf.blk 1 _ _ rfl
    refine ⟨rfl, hf.id_lt (idAt_mem (by rw [hf.len]; decide)), fun j u hj => ?_⟩
    have := cells_blk (o := 0) hb j
    show w2.cell? ⟨idAt ids 1, 0 + j, none⟩ = some u
    rw [this, Nat.zero_add]; exact hj
  · obtain ⟨_, rfl⟩ := hk
    refine ⟨fun q => ?_, fun q => q.1 rfl⟩
    have := idAt_inj hf.nod (n := 1) (m := 0) (by rw [hf.len]; decide) (by rw [hf.len]; decide) q
    omega
  intro a1 c1 p1 hD1 hap1 hfr1 hF1
  refine br_f rfl ?_
  have n1 : ∀ k, c1 ≠ 0 → abk a1 = some k → w.heap.size ≤ k := fun k h1 h2 => by
    rcases hfr1 k h1 h2 with h | h
    · exact absurd rfl h.1
    · exact h.1
  refine node_net (D := [⟨1, 2, [7]⟩, ⟨2, 1, []⟩]) (V := .int .i64 0) 0 [0] [] rfl rfl (fun _ => rfl) hap1 (fun k h1 h2 => .inl (n1 k h1 h2)) (fun k _ _ h => h)
    (fun ids w2 hp hf HA => by
      have := put_any (idAt ids 0) a1 c1 p1 ⟨2, 1, []⟩ none 0 w2 HA (fun h => by simp [bcells] at h) (fun k hk => absurd rfl hk.1) (by decide)
      rw [hD1] at this
      exact this) [.sl 2 (.var 4) (.var 5)] rfl (fun _ _ _ _ => rfl) (fun _ _ _ _ => rfl) rfl (fun _ _ _ => rfl) ?_
  intro a2 c2 p2 hD2 hap2 hfr2 hF2
  refine br_f rfl ?_
  have n2 : ∀ k, c2 ≠ 0 → abk a2 = some k → w.heap.size ≤ k := fun k h1 h2 => by
    rcases hfr2 k h1 h2 with h | h
    · exact n1 k h.1 h.2
    · exact h.1
  obtain ⟨q0, q1, rfl⟩ : ∃ q0 q1, p2 = [q0, q1] := by
    have := congrArg List.length hD2
    match p2, this with
    | [q0, q1], _ => exact ⟨q0, q1, rfl⟩
  simp only [List.map_cons, List.map_nil, List.cons.injEq, and_true] at hD2
  refine node_net (D := [⟨1, 2, [7]⟩, ⟨2, 1, []⟩, ⟨1, 2, [7]⟩]) (V := .bool true) 0 [] [true] rfl rfl (fun _ => rfl) hap2 (fun k h1 h2 => .inl (n2 k h1 h2)) (fun k _ _ h => h)
    (fun ids w2 hp hf HA => by
      have h7 : q0.bs = [7] := congrArg PkD.bs hD2.1
      have := copy_yes (idAt ids 0) a2 c2 [q0, q1] 0 q0 w2 HA rfl (by rw [h7]; decide)
      rw [List.map_cons, List.map_cons, List.map_nil, hD2.1, hD2.2] at this
      exact this) [.sl 3 (.var 6) (.var 7)] rfl (fun _ _ _ _ => rfl) (fun _ _ _ _ => rfl) rfl (fun _ _ _ => rfl) ?_
  intro a3 c3 p3 hD3 hap3 hfr3 hF3
  refine br_f rfl ?_
  have n3 : ∀ k, c3 ≠ 0 → abk a3 = some k → w.heap.size ≤ k := fun k h1 h2 => by
    rcases hfr3 k h1 h2 with h | h
    · exact n2 k h.1 h.2
    · exact h.1
  obtain ⟨r0, r1, r2, rfl⟩ : ∃ q0 q1 q2, p3 = [q0, q1, q2] := by
    have := congrArg List.length hD3
    match p3, this with
    | [q0, q1, q2], _ => exact ⟨q0, q1, q2, rfl⟩
  simp only [List.map_cons, List.map_nil, List.cons.injEq, and_true] at hD3
  refine node_take 0 1 r1 rfl rfl (fun _ => rfl) hap3 rfl (show 3 ≤ 1000000 by decide) (fun k h1 h2 => .inl (n3 k h1 h2)) (fun k _ _ h => h) (fun _ => rfl) [.sl 4 (.var 8) (.var 9)] rfl (fun _ => rfl) (fun _ => rfl) rfl rfl ?_
  have f1 : r1.f = 2 := congrArg PkD.f hD3.2.1
  refine br_t rfl (br_t (show (r1.f == 2) = true by rw [f1]; rfl) ?_)
  refine node_pure ⟨[2], [], [], [], []⟩ rfl rfl rfl oneNil (fun ids w2 hp hf => len_any (idAt ids 0) a3 c3 2 w2 (hf.blkAt 0 rfl)) ?_
  refine br_t rfl ?_
  intro ids w2 hp hf
  have HA : NetAt w2 (idAt ids 0) a3 c3 [r0, r2] := net_at 0 hf rfl (fun _ => rfl) (fun k h1 h2 ⟨p, hp2, h3⟩ => hap3 k h1 h2 ⟨p, by simp at hp2 ⊢; rcases hp2 with rfl | rfl <;> simp, h3⟩)
  refine (list_any (idAt ids 0) a3 c3 [r0, r2] w2 HA (show 2 ≤ 1000000 by decide) (fun p hp2 => ?_)).mono ?_
  · simp at hp2
    rcases hp2 with rfl | rfl
    · rw [show p.bs = [7] from congrArg PkD.bs hD3.1]; decide
    · rw [show p.bs = [7] from congrArg PkD.bs hD3.2.2]; decide
  rintro e w' ⟨a4, c4, qs, hD4, rfl, _, _, _, hbel⟩
  have hq : qs.length = 2 := by have := congrArg List.length hD4; simpa using this
  rw [hq]
  have hg : w2.grownBy w' none := ⟨hbel.os, hbel.tape, hbel.output, hbel.size, fun k hk _ => hbel.block k hk⟩
  refine ⟨⟨[], [], [], [2, c4], [a4]⟩, ids, _, rfl, List.prefix_refl _, hf.turn (hx' := HX.nil) hg (fun b e => by cases e) trivial (fun k hk => hk.elim) rfl rfl rfl oneNil, ?_⟩
  exact pure_done fun _ => rfl
set_option maxRecDepth 100000 in
theorem nil_walk (i : Int) (w : World) (hi : I64 i) : Calls Try.prog 5 #[.int .i64 i] w fun e w' => e = .returned (.bool true) ∧ Below w.heap.size w w' := by
  refine calls_at (tab_ok _) Try.func5 rfl tNNil (ρ := ⟨[i], [], [], [], []⟩) (ids := []) rfl (Facts.initP rfl oneNil) ?_
  refine node_val ⟨[0, 0], [false], [], [0, 0], [none]⟩ (fun w => take_nil i w) (fun _ => rfl) (fun _ => rfl) rfl rfl rfl oneNil ?_
  refine node_val ⟨[], [true], [], [], []⟩ (fun w => nhead_any w) (fun _ => rfl) (fun _ => rfl) rfl rfl rfl oneNil ?_
  refine br_t rfl (br_t rfl ?_)
  refine node_val ⟨[1], [], [], [], []⟩ (fun w => put_nil w) (fun _ => rfl) (fun _ => rfl) rfl rfl rfl oneNil (br_t rfl ?_)
  refine node_val ⟨[0], [], [], [], []⟩ (fun w => len_nil w) (fun _ => rfl) (fun _ => rfl) rfl rfl rfl oneNil (br_t rfl ?_)
  refine node_val ⟨[], [false], [], [], []⟩ (fun w => copy_nil i w) (fun _ => rfl) (fun _ => rfl) rfl rfl rfl oneNil (br_t rfl ?_)
  refine node_val ⟨[0], [], [], [], []⟩ (fun w => lose_nil i w) (fun _ => rfl) (fun _ => rfl) rfl rfl rfl oneNil (br_t rfl ?_)
  exact node_val ⟨[], [], [], [0, 0], [none]⟩ (fun w => list_nil w) (fun _ => rfl) (fun _ => rfl) rfl rfl rfl oneNil (pure_done fun _ => rfl)
end Go.Proofs.Yteeecfdcebcbbaa
