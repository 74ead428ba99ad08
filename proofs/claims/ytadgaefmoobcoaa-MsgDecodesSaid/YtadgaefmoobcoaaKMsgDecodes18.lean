/- Part 18 of the texts of a proof about the given program: what the statement's proof needs of them. -/
import Derived.Test.YtadgaefmoobcoaaKMsgDecodes17
namespace Go.Proofs.Ytadgaefmoobcoaa
open Go.Eng
abbrev tWTextm0 : Mem := ⟨[(113, [(tSl 2 4 5)])], ⟨0, 0, 0, 6, 3⟩⟩
set_option maxRecDepth 100000 in
theorem tWText : (runF ⟨tt, fns, { touch := [(42, [0])], ret := [(42, .one (.lf (.is (.ptr 0 0))))] }⟩ (Try.f46.body.getD .skip) Try.f46.results.toList (entry Try.f46.ntmps [.lf (.ptr 0 0), .lf (.sl 1 (.var 2) (.var 3))] [(113, [.sl 0 (.var 0) (.var 1)])] ⟨0, 0, 0, 4, 2⟩)) =
  (.call 42 [(.lf (.ptr 0 0)), (.lf (.int .u64 (.conv .u64 (.nat 2))))] ⟨[(113, [(tSl 0 0 1)])], ⟨0, 0, 0, 4, 2⟩⟩ (.lf (.ptr 0 0)) tWTextm0 (.gen (.call ⟨(.builtin .append), #[(.tmp 16), (.tmp 17)], #[35, 35]⟩) 35 [(16, (.lf (tSl 2 4 5))), (17, (.lf (tSl 1 2 3)))] tWTextm0 (.some (.lf (tSl 3 6 7))) ⟨[(113, [(tSl 2 4 5)])], ⟨0, 0, 0, 8, 4⟩⟩ (.done (.lf (.ptr 0 0)) ⟨[(113, [(tSl 3 6 7)])], ⟨0, 0, 0, 8, 4⟩⟩))) := by kernel_rfl
abbrev tRTextm0 : Mem := ⟨[(128, [(tSl 1 2 3), (tVi 3), (tVi 4)])], ⟨6, 0, 0, 4, 2⟩⟩
abbrev tRTextm1 : Mem := ⟨[(128, [(tSl 1 2 3), (tVi 3), (tVi 4)])], ⟨6, 0, 0, 6, 3⟩⟩
set_option maxRecDepth 100000 in
theorem tRText : (runF ⟨tt, fns, { touch := [(59, [0])] }⟩ (Try.f85.body.getD .skip) Try.f85.results.toList (entry Try.f85.ntmps [.lf (.ptr 0 0), .lf (.int .i64 (.var 2))] [(128, [.sl 0 (.var 0) (.var 1), .int .i64 (.var 0), .int .i64 (.var 1)])] ⟨3, 0, 0, 2, 1⟩)) =
  (.call 59 [(.lf (.ptr 0 0)), (.lf (tVi 2))] ⟨[(128, [(tSl 0 0 1), (tVi 0), (tVi 1)])], ⟨3, 0, 0, 2, 1⟩⟩ (.lf (tVi 5)) tRTextm0 (.br (.cmp .neq (.var 4) (.lit 0)) (.done (.lf .nilsl) tRTextm0) (.br (.cmp .gtr (.var 5) (.op .sub .i64 (.nat 2) (.var 3))) (.done (.lf .nilsl) ⟨[(128, [(tSl 1 2 3), (tVi 3), (tLi 10)])], ⟨6, 0, 0, 4, 2⟩⟩) (.gen (.slice 35 (.tmp 37) (.some (.tmp 41)) (.some (.tmp 47)) .none) 35 [(37, (.lf (tSl 1 2 3))), (41, (.lf (tVi 3))), (47, (.lf (.int .i64 (.op .add .i64 (.var 3) (.var 5)))))] tRTextm0 (.some (.lf (tSl 2 4 5))) tRTextm1 (.gen (.call ⟨(.builtin .append), #[(.const (.slice .none 0 0)), (.tmp 48)], #[35, 35]⟩) 35 [(48, (.lf (tSl 2 4 5)))] tRTextm1 (.some (.lf (tSl 3 6 7))) ⟨[(128, [(tSl 1 2 3), (tVi 3), (tVi 4)])], ⟨6, 0, 0, 8, 4⟩⟩ (.done (.lf (tSl 3 6 7)) ⟨[(128, [(tSl 1 2 3), (.int .i64 (.op .add .i64 (.var 3) (.var 5))), (tVi 4)])], ⟨6, 0, 0, 8, 4⟩⟩)))))) := by kernel_rfl
abbrev tEnc1m0 : Mem := ⟨[(3, [(tVi 1)]), (78, [(.ptr 2 0)]), (113, [(tSl 2 4 5)])], ⟨3, 0, 0, 6, 3⟩⟩
abbrev tEnc1m1 : Mem := ⟨[(3, [(tVi 1)]), (78, [(.ptr 2 0)]), (113, [(tSl 3 6 7)])], ⟨3, 0, 0, 8, 4⟩⟩
abbrev tEnc1m2 : Mem := ⟨[(3, [(tVi 1)]), (78, [(.ptr 2 0)]), (113, [(tSl 2 4 5)])], ⟨4, 0, 0, 6, 3⟩⟩
abbrev tEnc1m3 : Mem := ⟨[(3, [(tVi 1)]), (78, [(.ptr 2 0)]), (113, [(tSl 3 6 7)])], ⟨4, 0, 0, 8, 4⟩⟩
set_option maxRecDepth 100000 in
theorem tEnc1 : (runF ⟨tt, fns, { loops := [(1, ⟨[(10, .int .i64)], [2]⟩)], joins := [(5, ⟨[], [2]⟩)], touch := [(42, [0])], ret := [(42, .one (.lf (.is (.ptr 2 0)))), (45, .one (.lf (.is (.ptr 2 0)))), (46, .one (.lf (.is (.ptr 2 0))))] }⟩ (Try.f41.body.getD .skip) Try.f41.results.toList (entry Try.f41.ntmps [.lf (.int .i64 (.var 0)), .lf (.sl 0 (.var 0) (.var 1)), .lf (.ptr 0 0), .lf (.ptr 1 0)] [(3, [.int .i64 (.var 1)]), (78, [.ptr 2 0]), (113, [.sl 1 (.var 2) (.var 3)])] ⟨2, 0, 0, 4, 2⟩)) =
  (.loop 1 ⟨[(.lit 0)], [], [], [(.var 2), (.var 3)], [(.var 1)]⟩ ⟨[(3, [(tVi 1)]), (78, [(.ptr 2 0)]), (113, [(tSl 1 2 3)])], ⟨2, 0, 0, 4, 2⟩⟩ tEnc1m0 (.br (.cmp .lss (.var 2) (.nat 0)) (.join 5 tEnc1m0 tEnc1m1 (.need (.inb 0 (.var 2) (.nat 0)) (.ld .false (.adr 0 (.var 2) 1 0) [(tVi 3)] tEnc1m0 tEnc1m2 (.br (.cmp .neq (.op .and .i64 (.var 1) (.var 0)) (.lit 0)) (.call 42 [(.lf (.ptr 2 0)), (.lf (.int .u64 (.conv .u64 (.var 3))))] tEnc1m2 (.lf (.ptr 2 0)) tEnc1m3 (.again 5 ⟨[], [], [], [(.var 6), (.var 7)], [(.var 3)]⟩ tEnc1m3)) (.again 5 ⟨[], [], [], [(.var 4), (.var 5)], [(.var 2)]⟩ tEnc1m2)))) (.again 1 ⟨[(.op .add .i64 (.var 2) (.lit 1))], [], [], [(.var 6), (.var 7)], [(.var 3)]⟩ tEnc1m1)) (.done (.tup []) tEnc1m0))) := by kernel_rfl
abbrev tEncode7b0 : List LV := [(tVi 0), (tVi 1), (tVi 2), (tVi 3), (tVi 4), (tVi 5), (tVi 6), (tVi 7), (tVi 8), (tVi 9), (tSl 0 0 1), (tSl 1 2 3), (tSl 2 4 5), (tVi 10), (tVi 11), (tVi 12), (tVi 13), (tVi 14), (tVi 15), (tVi 16), (tVi 17), (tVi 18), (tVi 19), (tVi 20), (tSl 3 6 7)]
abbrev tEncode7b1 : List LV := [(tVi 24), (tVi 25), (tVi 26), (tVi 27), (tSl 15 30 31), (tSl 16 32 33)]
abbrev tEncode7m0 : Mem := ⟨[(37, tEncode7b0), (3, [(tVi 22)]), (113, [(tSl 17 34 35)]), (78, [(.ptr 2 0)]), (3, [(tVi 4), (tVi 5)]), (3, [(tVi 6)]), (3, [(tVi 7)]), (3, [(tVi 8)]), (3, [(.int .i64 (.nat 4))]), (59, tEncode7b1)], ⟨28, 0, 0, 36, 18⟩⟩
abbrev tEncode7m1 : Mem := ⟨[(37, tEncode7b0), (3, [(tVi 22)]), (113, [(tSl 18 36 37)]), (78, [(.ptr 2 0)]), (3, [(tVi 4), (tVi 5)]), (3, [(tVi 6)]), (3, [(tVi 7)]), (3, [(tVi 8)]), (3, [(.int .i64 (.nat 4))]), (59, tEncode7b1)], ⟨28, 0, 0, 38, 19⟩⟩
abbrev tEncode7m2 : Mem := ⟨[(37, tEncode7b0), (3, [(tVi 22)]), (113, [(tSl 19 38 39)]), (78, [(.ptr 2 0)]), (3, [(tVi 4), (tVi 5)]), (3, [(tVi 6)]), (3, [(tVi 7)]), (3, [(tVi 8)]), (3, [(.int .i64 (.nat 4))]), (59, tEncode7b1)], ⟨28, 0, 0, 40, 20⟩⟩
abbrev tEncode7m3 : Mem := ⟨[(37, tEncode7b0), (3, [(tVi 22)]), (113, [(tSl 20 40 41)]), (78, [(.ptr 2 0)]), (3, [(tVi 4), (tVi 5)]), (3, [(tVi 6)]), (3, [(tVi 7)]), (3, [(tVi 8)]), (3, [(.int .i64 (.nat 4))]), (59, tEncode7b1)], ⟨28, 0, 0, 42, 21⟩⟩
abbrev tEncode7m4 : Mem := ⟨[(37, tEncode7b0), (3, [(tVi 22)]), (113, [(tSl 13 26 27)]), (78, [(.ptr 2 0)]), (3, [(tVi 4), (tVi 5)]), (3, [(tVi 6)]), (3, [(tVi 7)]), (3, [(tVi 8)]), (3, [(.int .i64 (.nat 4))])], ⟨23, 0, 0, 28, 14⟩⟩
abbrev tEncode7m5 : Mem := ⟨[(37, tEncode7b0), (3, [(tVi 22)]), (113, [(tSl 14 28 29)]), (78, [(.ptr 2 0)]), (3, [(tVi 4), (tVi 5)]), (3, [(tVi 6)]), (3, [(tVi 7)]), (3, [(tVi 8)]), (3, [(.int .i64 (.nat 4))])], ⟨24, 0, 0, 30, 15⟩⟩
abbrev tEncode7m6 : Mem := ⟨[(37, tEncode7b0), (3, [(tVi 22)]), (113, [(tSl 15 30 31)]), (78, [(.ptr 2 0)]), (3, [(tVi 4), (tVi 5)]), (3, [(tVi 6)]), (3, [(tVi 7)]), (3, [(tVi 8)]), (3, [(.int .i64 (.nat 4))])], ⟨24, 0, 0, 32, 16⟩⟩
abbrev tEncode7m7 : Mem := ⟨[(37, tEncode7b0), (3, [(tVi 22)]), (113, [(tSl 16 32 33)]), (78, [(.ptr 2 0)]), (3, [(tVi 4), (tVi 5)]), (3, [(tVi 6)]), (3, [(tVi 7)]), (3, [(tVi 8)]), (3, [(.int .i64 (.nat 4))])], ⟨24, 0, 0, 34, 17⟩⟩
abbrev tEncode7m8 : Mem := ⟨[(37, tEncode7b0), (3, [(tVi 22)]), (113, [(tSl 17 34 35)]), (78, [(.ptr 2 0)]), (3, [(tVi 4), (tVi 5)]), (3, [(tVi 6)]), (3, [(tVi 7)]), (3, [(tVi 8)]), (3, [(.int .i64 (.nat 4))])], ⟨24, 0, 0, 36, 18⟩⟩
abbrev tEncode7m9 : Mem := ⟨[(37, tEncode7b0), (3, [(tVi 22)]), (113, [(tSl 18 36 37)]), (78, [(.ptr 2 0)]), (3, [(tVi 4), (tVi 5)]), (3, [(tVi 6)]), (3, [(tVi 7)]), (3, [(tVi 8)]), (3, [(.int .i64 (.nat 4))])], ⟨24, 0, 0, 38, 19⟩⟩
abbrev tEncode7m10 : Mem := ⟨[(37, tEncode7b0), (3, [(tVi 22)]), (113, [(tSl 17 34 35)]), (78, [(.ptr 2 0)]), (3, [(tVi 4), (tVi 5)]), (3, [(tVi 6)]), (3, [(tVi 7)]), (3, [(tVi 8)]), (3, [(.int .i64 (.nat 4))])], ⟨24, 0, 0, 38, 19⟩⟩
abbrev tEncode7m11 : Mem := ⟨[(37, tEncode7b0), (3, [(tVi 22)]), (113, [(tSl 11 22 23)]), (78, [(.ptr 2 0)]), (3, [(tVi 4), (tVi 5)]), (3, [(tVi 6)]), (3, [(tVi 7)]), (3, [(tVi 8)])], ⟨23, 0, 0, 24, 12⟩⟩
abbrev tEncode7m12 : Mem := ⟨[(37, tEncode7b0), (3, [(tVi 22)]), (113, [(tSl 12 24 25)]), (78, [(.ptr 2 0)]), (3, [(tVi 4), (tVi 5)]), (3, [(tVi 6)]), (3, [(tVi 7)]), (3, [(tVi 8)])], ⟨23, 0, 0, 26, 13⟩⟩
abbrev tEncode7m13 : Mem := ⟨[(37, tEncode7b0), (3, [(tVi 22)]), (113, [(tSl 5 10 11)]), (78, [(.ptr 2 0)])], ⟨23, 0, 0, 12, 6⟩⟩
abbrev tEncode7m14 : Mem := ⟨[(37, tEncode7b0), (3, [(tVi 22)]), (113, [(tSl 6 12 13)]), (78, [(.ptr 2 0)])], ⟨23, 0, 0, 14, 7⟩⟩
abbrev tEncode7m15 : Mem := ⟨[(37, tEncode7b0), (3, [(tVi 22)]), (113, [(tSl 4 8 9)]), (78, [(.ptr 2 0)])], ⟨23, 0, 0, 10, 5⟩⟩
set_option maxRecDepth 100000 in
theorem tEncode7 : (runF ⟨tt, fns, { ret := [(40, .one (.newp 113 [.is .nilsl])), (42, .one (.lf (.is (.ptr 2 0)))), (45, .one (.lf (.is (.ptr 2 0)))), (46, .one (.lf (.is (.ptr 2 0))))], touch := [(42, [0]), (45, [0]), (46, [0]), (43, [0]), (44, [0]), (41, [103])], loops := [(16, ⟨[(77, .int .i64)], [2]⟩)], joins := [(14, ⟨[], [2]⟩), (23, ⟨[], [2]⟩), (25, ⟨[], [2]⟩), (27, ⟨[], [2]⟩)] }⟩ (Try.f16.body.getD .skip) Try.f16.results.toList (entry Try.f16.ntmps [.agg [.int .i64 (.var 0), .int .i64 (.var 1), .int .i64 (.var 2), .int .i64 (.var 3), .int .i64 (.var 4), .int .i64 (.var 5), .int .i64 (.var 6), .int .i64 (.var 7), .int .i64 (.var 8), .int .i64 (.var 9), .sl 0 (.var 0) (.var 1), .sl 1 (.var 2) (.var 3), .sl 2 (.var 4) (.var 5), .int .i64 (.var 10), .int .i64 (.var 11), .int .i64 (.var 12), .int .i64 (.var 13), .int .i64 (.var 14), .int .i64 (.var 15), .int .i64 (.var 16), .int .i64 (.var 17), .int .i64 (.var 18), .int .i64 (.var 19), .int .i64 (.var 20), .sl 3 (.var 6) (.var 7)]] [] ⟨21, 0, 0, 8, 4⟩)) =
  (.call 10 [(.agg tEncode7b0)] ⟨[(37, tEncode7b0)], ⟨21, 0, 0, 8, 4⟩⟩ (.lf (tVi 21)) ⟨[(37, tEncode7b0)], ⟨22, 0, 0, 8, 4⟩⟩ (.br (.cmp .neq (.var 21) (.lit 0)) (.done (.tup [(.false, [.nilsl]), (.false, [(tVi 21)])]) ⟨[(37, tEncode7b0)], ⟨22, 0, 0, 8, 4⟩⟩) (.call 25 [(.lf (tVi 0))] ⟨[(37, tEncode7b0)], ⟨22, 0, 0, 8, 4⟩⟩ (.lf (tVi 22)) ⟨[(37, tEncode7b0)], ⟨23, 0, 0, 8, 4⟩⟩ (.call 40 [] ⟨[(37, tEncode7b0), (3, [(tVi 22)])], ⟨23, 0, 0, 8, 4⟩⟩ (.lf (.ptr 2 0)) ⟨[(37, tEncode7b0), (3, [(tVi 22)]), (113, [.nilsl])], ⟨23, 0, 0, 8, 4⟩⟩ (.call 42 [(.lf (.ptr 2 0)), (.lf (.int .u64 (.conv .u64 (.var 0))))] ⟨[(37, tEncode7b0), (3, [(tVi 22)]), (113, [.nilsl]), (78, [(.ptr 2 0)])], ⟨23, 0, 0, 8, 4⟩⟩ (.lf (.ptr 2 0)) tEncode7m15 (.call 42 [(.lf (.ptr 2 0)), (.lf (.int .u64 (.conv .u64 (.var 1))))] tEncode7m15 (.lf (.ptr 2 0)) tEncode7m13 (.call 42 [(.lf (.ptr 2 0)), (.lf (.int .u64 (.conv .u64 (.var 2))))] tEncode7m13 (.lf (.ptr 2 0)) tEncode7m14 (.call 42 [(.lf (.ptr 2 0)), (.lf (.int .u64 (.conv .u64 (.var 3))))] tEncode7m14 (.lf (.ptr 2 0)) ⟨[(37, tEncode7b0), (3, [(tVi 22)]), (113, [(tSl 7 14 15)]), (78, [(.ptr 2 0)])], ⟨23, 0, 0, 16, 8⟩⟩ (.call 41 [(.lf (tLi 1)), (.lf (.nsl 4 0 2 2)), (.lf (.ptr 1 0)), (.lf (.ptr 3 0))] ⟨[(37, tEncode7b0), (3, [(tVi 22)]), (113, [(tSl 7 14 15)]), (78, [(.ptr 2 0)]), (3, [(tVi 4), (tVi 5)])], ⟨23, 0, 0, 16, 8⟩⟩ (.tup []) ⟨[(37, tEncode7b0), (3, [(tVi 22)]), (113, [(tSl 8 16 17)]), (78, [(.ptr 2 0)]), (3, [(tVi 4), (tVi 5)])], ⟨23, 0, 0, 18, 9⟩⟩ (.call 41 [(.lf (tLi 2)), (.lf (.nsl 5 0 1 1)), (.lf (.ptr 1 0)), (.lf (.ptr 3 0))] ⟨[(37, tEncode7b0), (3, [(tVi 22)]), (113, [(tSl 8 16 17)]), (78, [(.ptr 2 0)]), (3, [(tVi 4), (tVi 5)]), (3, [(tVi 6)])], ⟨23, 0, 0, 18, 9⟩⟩ (.tup []) ⟨[(37, tEncode7b0), (3, [(tVi 22)]), (113, [(tSl 9 18 19)]), (78, [(.ptr 2 0)]), (3, [(tVi 4), (tVi 5)]), (3, [(tVi 6)])], ⟨23, 0, 0, 20, 10⟩⟩ (.call 41 [(.lf (tLi 4)), (.lf (.nsl 6 0 1 1)), (.lf (.ptr 1 0)), (.lf (.ptr 3 0))] ⟨[(37, tEncode7b0), (3, [(tVi 22)]), (113, [(tSl 9 18 19)]), (78, [(.ptr 2 0)]), (3, [(tVi 4), (tVi 5)]), (3, [(tVi 6)]), (3, [(tVi 7)])], ⟨23, 0, 0, 20, 10⟩⟩ (.tup []) ⟨[(37, tEncode7b0), (3, [(tVi 22)]), (113, [(tSl 10 20 21)]), (78, [(.ptr 2 0)]), (3, [(tVi 4), (tVi 5)]), (3, [(tVi 6)]), (3, [(tVi 7)])], ⟨23, 0, 0, 22, 11⟩⟩ (.call 41 [(.lf (tLi 8)), (.lf (.nsl 7 0 1 1)), (.lf (.ptr 1 0)), (.lf (.ptr 3 0))] ⟨[(37, tEncode7b0), (3, [(tVi 22)]), (113, [(tSl 10 20 21)]), (78, [(.ptr 2 0)]), (3, [(tVi 4), (tVi 5)]), (3, [(tVi 6)]), (3, [(tVi 7)]), (3, [(tVi 8)])], ⟨23, 0, 0, 22, 11⟩⟩ (.tup []) tEncode7m11 (.join 14 tEncode7m11 tEncode7m12 (.br (.cmp .neq (.op .and .i64 (.var 22) (.lit 16)) (.lit 0)) (.call 43 [(.lf (.ptr 2 0)), (.agg [(tVi 9), (tSl 0 0 1), (tSl 1 2 3)])] tEncode7m11 (.tup []) tEncode7m12 (.again 14 ⟨[], [], [], [(.var 24), (.var 25)], [(.var 12)]⟩ tEncode7m12)) (.again 14 ⟨[], [], [], [(.var 22), (.var 23)], [(.var 11)]⟩ tEncode7m11)) (.call 41 [(.lf (tLi 32)), (.lf (.nsl 8 0 1 1)), (.lf (.ptr 1 0)), (.lf (.ptr 3 0))] ⟨[(37, tEncode7b0), (3, [(tVi 22)]), (113, [(tSl 12 24 25)]), (78, [(.ptr 2 0)]), (3, [(tVi 4), (tVi 5)]), (3, [(tVi 6)]), (3, [(tVi 7)]), (3, [(tVi 8)]), (3, [(.int .i64 (.nat 4))])], ⟨23, 0, 0, 26, 13⟩⟩ (.tup []) tEncode7m4 (.loop 16 ⟨[(.lit 0)], [], [], [(.var 26), (.var 27)], [(.var 13)]⟩ tEncode7m4 tEncode7m5 (.br (.cmp .lss (.var 23) (.nat 4)) (.need (.inb 2 (.var 23) (.nat 4)) (.ld .false (.adr 2 (.var 23) 6 0) tEncode7b1 tEncode7m5 ⟨[(37, tEncode7b0), (3, [(tVi 22)]), (113, [(tSl 14 28 29)]), (78, [(.ptr 2 0)]), (3, [(tVi 4), (tVi 5)]), (3, [(tVi 6)]), (3, [(tVi 7)]), (3, [(tVi 8)]), (3, [(.int .i64 (.nat 4))])], ⟨28, 0, 0, 34, 17⟩⟩ (.call 42 [(.lf (.ptr 2 0)), (.lf (.int .u64 (.conv .u64 (.var 24))))] ⟨[(37, tEncode7b0), (3, [(tVi 22)]), (113, [(tSl 14 28 29)]), (78, [(.ptr 2 0)]), (3, [(tVi 4), (tVi 5)]), (3, [(tVi 6)]), (3, [(tVi 7)]), (3, [(tVi 8)]), (3, [(.int .i64 (.nat 4))]), (59, tEncode7b1)], ⟨28, 0, 0, 34, 17⟩⟩ (.lf (.ptr 2 0)) tEncode7m0 (.call 42 [(.lf (.ptr 2 0)), (.lf (.int .u64 (.conv .u64 (.var 25))))] tEncode7m0 (.lf (.ptr 2 0)) tEncode7m1 (.call 42 [(.lf (.ptr 2 0)), (.lf (.int .u64 (.conv .u64 (.var 26))))] tEncode7m1 (.lf (.ptr 2 0)) tEncode7m2 (.call 43 [(.lf (.ptr 2 0)), (.agg [(tVi 27), (tSl 15 30 31), (tSl 16 32 33)])] tEncode7m2 (.tup []) tEncode7m3 (.again 16 ⟨[(.op .add .i64 (.var 23) (.lit 1))], [], [], [(.var 40), (.var 41)], [(.var 20)]⟩ tEncode7m3))))))) (.join 23 tEncode7m5 tEncode7m6 (.br (.cmp .neq (.op .and .i64 (.var 22) (.lit 64)) (.lit 0)) (.call 44 [(.lf (.ptr 2 0)), (.agg [(tVi 10), (tVi 11), (tVi 12), (tVi 13), (tVi 14), (tVi 15), (tVi 16), (tVi 17)])] tEncode7m5 (.tup []) tEncode7m6 (.again 23 ⟨[], [], [], [(.var 30), (.var 31)], [(.var 15)]⟩ tEncode7m6)) (.again 23 ⟨[], [], [], [(.var 28), (.var 29)], [(.var 14)]⟩ tEncode7m5)) (.join 25 tEncode7m6 tEncode7m7 (.br (.cmp .neq (.op .and .i64 (.var 22) (.lit 128)) (.lit 0)) (.call 45 [(.lf (.ptr 2 0)), (.lf (tVi 18))] tEncode7m6 (.lf (.ptr 2 0)) tEncode7m7 (.call 45 [(.lf (.ptr 2 0)), (.lf (tVi 19))] tEncode7m7 (.lf (.ptr 2 0)) tEncode7m8 (.call 45 [(.lf (.ptr 2 0)), (.lf (tVi 20))] tEncode7m8 (.lf (.ptr 2 0)) tEncode7m9 (.again 25 ⟨[], [], [], [(.var 36), (.var 37)], [(.var 18)]⟩ tEncode7m9)))) (.again 25 ⟨[], [], [], [(.var 30), (.var 31)], [(.var 15)]⟩ tEncode7m6)) (.join 27 tEncode7m7 tEncode7m8 (.br (.cmp .neq (.op .and .i64 (.var 22) (.lit 256)) (.lit 0)) (.call 46 [(.lf (.ptr 2 0)), (.lf (tSl 3 6 7))] tEncode7m7 (.lf (.ptr 2 0)) tEncode7m8 (.again 27 ⟨[], [], [], [(.var 34), (.var 35)], [(.var 17)]⟩ tEncode7m8)) (.again 27 ⟨[], [], [], [(.var 32), (.var 33)], [(.var 16)]⟩ tEncode7m7)) (.call 47 [(.lf (.ptr 2 0))] tEncode7m8 (.lf (tSl 18 36 37)) tEncode7m10 (.done (.tup [(.false, [(tSl 18 36 37)]), (.false, [(tLi 0)])]) tEncode7m10))))))))))))))))))))) := by kernel_rfl
abbrev tFieldsb0 : List LV := [(tVi 118), (tVi 119), (tVi 120), (tVi 121), (tVi 122), (tVi 123), (tVi 124), (tVi 125), (tVi 126), (tVi 127), (tSl 26 52 53), (tSl 27 54 55), (tSl 28 56 57), (tVi 128), (tVi 129), (tVi 130), (tVi 131), (tVi 132), (tVi 133), (tVi 134), (tVi 135), (tVi 136), (tVi 137), (tVi 138), (tSl 29 58 59)]
abbrev tFieldsb1 : List LV := [(tVi 141), (tVi 142), (tVi 143), (tVi 144), (tVi 145), (tVi 146), (tVi 147), (tVi 148), (tVi 149), (tVi 150), (tSl 31 62 63), (tSl 32 64 65), (tSl 33 66 67), (tVi 151), (tVi 152), (tVi 153), (tVi 154), (tVi 155), (tVi 156), (tVi 157), (tVi 158), (tVi 159), (tVi 160), (tVi 161), (tSl 34 68 69)]
abbrev tFieldsb2 : List LV := [(tVi 145), (tVi 146), (tVi 147), (tVi 148), (tVi 149), (tVi 150), (tVi 151), (tVi 152), (tVi 153), (tVi 154), (tSl 32 64 65), (tSl 33 66 67), (tSl 34 68 69), (tVi 155), (tVi 156), (tVi 157), (tVi 158), (tVi 159), (tVi 160), (tVi 161), (tVi 162), (tVi 163), (tVi 164), (tVi 165), (tSl 35 70 71)]
abbrev tFieldsb3 : List LV := [(tVi 145), (tVi 146), (tVi 147), (tVi 148), (tVi 149), (tVi 150), (tVi 151), (tVi 152), (tVi 153), (tVi 154), (tSl 32 64 65), (tSl 33 66 67), (tSl 42 84 85), (tVi 155), (tVi 156), (tVi 157), (tVi 158), (tVi 159), (tVi 160), (tVi 161), (tVi 162), (tVi 163), (tVi 164), (tVi 165), (tSl 35 70 71)]
abbrev tFieldsb4 : List LV := [(tVi 164), (tVi 165), (tVi 166), (tVi 167), (tVi 168), (tVi 169), (tVi 170), (tVi 171), (tVi 172), (tVi 173), (tSl 36 72 73), (tSl 37 74 75), (tSl 38 76 77), (tVi 174), (tVi 175), (tVi 176), (tVi 177), (tVi 178), (tVi 179), (tVi 180), (tVi 181), (tVi 182), (tVi 183), (tVi 184), (tSl 39 78 79)]
abbrev tFieldsb5 : List LV := [(tVi 187), (tVi 188), (tVi 189), (tVi 190), (tVi 191), (tVi 192), (tVi 193), (tVi 194), (tVi 195), (tVi 196), (tSl 41 82 83), (tSl 42 84 85), (tSl 43 86 87), (tVi 197), (tVi 198), (tVi 199), (tVi 200), (tVi 201), (tVi 202), (tVi 203), (tVi 204), (tVi 205), (tVi 206), (tVi 207), (tSl 44 88 89)]
abbrev tFieldsb6 : List LV := [(tVi 95), (tVi 96), (tVi 97), (tVi 98), (tVi 99), (tVi 100), (tVi 101), (tVi 102), (tVi 103), (tVi 104), (tSl 21 42 43), (tSl 22 44 45), (tSl 23 46 47), (tVi 105), (tVi 106), (tVi 107), (tVi 108), (tVi 109), (tVi 110), (tVi 111), (tVi 112), (tVi 113), (tVi 114), (tVi 115), (tSl 24 48 49)]
abbrev tFieldsb7 : List LV := [(tVi 49), (tVi 50), (tVi 51), (tVi 52), (tVi 53), (tVi 54), (tVi 55), (tVi 56), (tVi 57), (tVi 58), (tSl 11 22 23), (tSl 12 24 25), (tSl 13 26 27), (tVi 59), (tVi 60), (tVi 61), (tVi 62), (tVi 63), (tVi 64), (tVi 65), (tVi 66), (tVi 67), (tVi 68), (tVi 69), (tSl 14 28 29)]
abbrev tFieldsb8 : List LV := [(tVi 72), (tVi 73), (tVi 74), (tVi 75), (tVi 76), (tVi 77), (tVi 78), (tVi 79), (tVi 80), (tVi 81), (tSl 16 32 33), (tSl 17 34 35), (tSl 18 36 37), (tVi 82), (tVi 83), (tVi 84), (tVi 85), (tVi 86), (tVi 87), (tVi 88), (tVi 89), (tVi 90), (tVi 91), (tVi 92), (tSl 19 38 39)]
abbrev tFieldsb9 : List LV := [(tVi 26), (tVi 27), (tVi 28), (tVi 29), (tVi 30), (tVi 31), (tVi 32), (tVi 33), (tVi 34), (tVi 35), (tSl 6 12 13), (tSl 7 14 15), (tSl 8 16 17), (tVi 36), (tVi 37), (tVi 38), (tVi 39), (tVi 40), (tVi 41), (tVi 42), (tVi 43), (tVi 44), (tVi 45), (tVi 46), (tSl 9 18 19)]
abbrev tFieldsb10 : List LV := [(tVi 0), (tVi 1), (tVi 2), (tVi 3), (tVi 4), (tVi 5), (tVi 6), (tVi 7), (tVi 8), (tVi 9), (tSl 0 0 1), (tSl 1 2 3), (tSl 2 4 5), (tVi 10), (tVi 11), (tVi 12), (tVi 13), (tVi 14), (tVi 15), (tVi 16), (tVi 17), (tVi 18), (tVi 19), (tVi 20), (tSl 3 6 7)]
abbrev tFieldsb11 : List LV := [(tVi 168), (tVi 171), (tVi 174), (tVi 177), (tSl 40 80 81), (tSl 41 82 83)]
abbrev tFieldsb12 : List LV := [(tLi 2), (.ptr 1 6), (tLi 4), (.ptr 1 7), (tLi 8), (.ptr 1 8)]
abbrev tFieldsb13 : List LV := [(tVi 168), (tVi 171), (tVi 174), (tLi 0), .nilsl, .nilsl]
abbrev tFieldsm0 : Mem := ⟨[(128, [(tSl 39 78 79), (tVi 175), (tVi 176)]), (37, tFieldsb2), (131, tFieldsb12), (59, tFieldsb11), (59, tFieldsb11)], ⟨178, 0, 0, 84, 42⟩⟩
abbrev tFieldsm1 : Mem := ⟨[(128, [(tSl 39 78 79), (tVi 175), (tVi 176)]), (37, tFieldsb2), (131, tFieldsb12), (59, tFieldsb11), (59, tFieldsb11)], ⟨178, 0, 0, 86, 43⟩⟩
abbrev tFieldsm2 : Mem := ⟨[(128, [(tSl 39 78 79), (tVi 175), (tVi 176)]), (37, tFieldsb3), (131, tFieldsb12), (59, tFieldsb11), (59, tFieldsb11)], ⟨178, 0, 0, 86, 43⟩⟩
abbrev tFieldsm3 : Mem := ⟨[(128, [(tSl 10 20 21), (tVi 47), (tVi 48)]), (37, tFieldsb7), (131, tFieldsb12), (131, [(tLi 4), (.ptr 1 7)])], ⟨70, 0, 0, 30, 15⟩⟩
abbrev tFieldsm4 : Mem := ⟨[(128, [(tSl 15 30 31), (tVi 70), (tVi 71)]), (37, tFieldsb8), (131, tFieldsb12), (131, [(tLi 8), (.ptr 1 8)])], ⟨93, 0, 0, 40, 20⟩⟩
abbrev tFieldsm5 : Mem := ⟨[(128, [(tSl 5 10 11), (tVi 24), (tVi 25)]), (37, tFieldsb9), (131, tFieldsb12), (131, [(tLi 2), (.ptr 1 6)])], ⟨47, 0, 0, 20, 10⟩⟩
abbrev tFieldsm6 : Mem := ⟨[(128, [(tSl 25 50 51), (tVi 116), (tVi 117)]), (37, tFieldsb0), (131, tFieldsb12)], ⟨139, 0, 0, 60, 30⟩⟩
abbrev tFieldsm7 : Mem := ⟨[(128, [(tSl 30 60 61), (tVi 139), (tVi 140)]), (37, tFieldsb1), (131, tFieldsb12)], ⟨162, 0, 0, 70, 35⟩⟩
abbrev tFieldsm8 : Mem := ⟨[(128, [(tSl 30 60 61), (tVi 139), (tVi 140)]), (37, tFieldsb0), (131, tFieldsb12)], ⟨142, 0, 0, 62, 31⟩⟩
abbrev tFieldsm9 : Mem := ⟨[(128, [(tSl 31 62 63), (tVi 143), (tVi 144)]), (37, tFieldsb2), (131, tFieldsb12)], ⟨166, 0, 0, 72, 36⟩⟩
abbrev tFieldsm10 : Mem := ⟨[(128, [(tSl 36 72 73), (tVi 166), (tVi 167)]), (37, tFieldsb2), (131, tFieldsb12)], ⟨169, 0, 0, 74, 37⟩⟩
abbrev tFieldsm11 : Mem := ⟨[(128, [(tSl 37 74 75), (tVi 169), (tVi 170)]), (37, tFieldsb2), (131, tFieldsb12)], ⟨172, 0, 0, 76, 38⟩⟩
abbrev tFieldsm12 : Mem := ⟨[(128, [(tSl 35 70 71), (tVi 162), (tVi 163)]), (37, tFieldsb4), (131, tFieldsb12)], ⟨185, 0, 0, 80, 40⟩⟩
abbrev tFieldsm13 : Mem := ⟨[(128, [(tSl 40 80 81), (tVi 185), (tVi 186)]), (37, tFieldsb5), (131, tFieldsb12)], ⟨208, 0, 0, 90, 45⟩⟩
abbrev tFieldsm14 : Mem := ⟨[(128, [(tSl 40 80 81), (tVi 185), (tVi 186)]), (37, tFieldsb4), (131, tFieldsb12)], ⟨188, 0, 0, 82, 41⟩⟩
abbrev tFieldsm15 : Mem := ⟨[(128, [(tSl 41 82 83), (tVi 188), (tVi 189)]), (37, tFieldsb4), (131, tFieldsb12)], ⟨191, 0, 0, 84, 42⟩⟩
abbrev tFieldsm16 : Mem := ⟨[(128, [(tSl 20 40 41), (tVi 93), (tVi 94)]), (37, tFieldsb6), (131, tFieldsb12)], ⟨116, 0, 0, 50, 25⟩⟩
abbrev tFieldsm17 : Mem := ⟨[(128, [(tSl 10 20 21), (tVi 47), (tVi 48)]), (37, tFieldsb7), (131, tFieldsb12)], ⟨70, 0, 0, 30, 15⟩⟩
abbrev tFieldsm18 : Mem := ⟨[(128, [(tSl 15 30 31), (tVi 70), (tVi 71)]), (37, tFieldsb8), (131, tFieldsb12)], ⟨93, 0, 0, 40, 20⟩⟩
abbrev tFieldsm19 : Mem := ⟨[(128, [(tSl 5 10 11), (tVi 24), (tVi 25)]), (37, tFieldsb10)], ⟨27, 0, 0, 12, 6⟩⟩
abbrev tFieldsm20 : Mem := ⟨[(128, [(tSl 4 8 9), (tVi 21), (tVi 22)]), (37, tFieldsb10)], ⟨24, 0, 0, 10, 5⟩⟩
abbrev tFieldst0 : Tree := (.gen (.call ⟨(.builtin .append), #[(.tmp 79), (.tmp 81)], #[28, 28]⟩) 28 [(79, (.lf (tSl 34 68 69))), (81, (.lf (.nsl 4 0 1 1)))] tFieldsm0 (.some (.lf (tSl 42 84 85))) tFieldsm1 (.again 12 ⟨[(.op .add .i64 (.var 142) (.lit 1)), (.var 175), (.var 176), (.var 145), (.var 146), (.var 147), (.var 148), (.var 149), (.var 150), (.var 151), (.var 152), (.var 153), (.var 154), (.var 155), (.var 156), (.var 157), (.var 158), (.var 159), (.var 160), (.var 161), (.var 162), (.var 163), (.var 164), (.var 165)], [], [], [(.var 78), (.var 79), (.var 64), (.var 65), (.var 66), (.var 67), (.var 84), (.var 85), (.var 70), (.var 71)], [(.var 39), (.var 32), (.var 33), (.var 42), (.var 35)]⟩ tFieldsm2))
set_option maxRecDepth 100000 in
theorem tFields : (runF ⟨tt, fns, { touch := [(59, [0]), (84, [0]), (85, [0]), (82, [0]), (83, [0]), (62, [0])], unroll := [3], loops := [(12, ⟨[(62, .int .i64)], [0, 1]⟩)], joins := [(2, ⟨[], [0, 1]⟩), (7, ⟨[], [0, 1]⟩), (10, ⟨[], [0, 1]⟩), (17, ⟨[], [0, 1]⟩), (19, ⟨[], [0, 1]⟩), (21, ⟨[], [0, 1]⟩)] }⟩ (Try.f61.body.getD .skip) Try.f61.results.toList (entry Try.f61.ntmps [.lf (.ptr 0 0), .lf (.ptr 1 0), .lf (.int .i64 (.var 23))] [(128, [.sl 4 (.var 8) (.var 9), .int .i64 (.var 21), .int .i64 (.var 22)]), (37, [.int .i64 (.var 0), .int .i64 (.var 1), .int .i64 (.var 2), .int .i64 (.var 3), .int .i64 (.var 4), .int .i64 (.var 5), .int .i64 (.var 6), .int .i64 (.var 7), .int .i64 (.var 8), .int .i64 (.var 9), .sl 0 (.var 0) (.var 1), .sl 1 (.var 2) (.var 3), .sl 2 (.var 4) (.var 5), .int .i64 (.var 10), .int .i64 (.var 11), .int .i64 (.var 12), .int .i64 (.var 13), .int .i64 (.var 14), .int .i64 (.var 15), .int .i64 (.var 16), .int .i64 (.var 17), .int .i64 (.var 18), .int .i64 (.var 19), .int .i64 (.var 20), .sl 3 (.var 6) (.var 7)])] ⟨24, 0, 0, 10, 5⟩)) =
  (.join 2 tFieldsm20 ⟨[(128, [(tSl 5 10 11), (tVi 24), (tVi 25)]), (37, tFieldsb9)], ⟨47, 0, 0, 20, 10⟩⟩ (.br (.cmp .neq (.op .and .i64 (.var 23) (.lit 1)) (.lit 0)) (.call 59 [(.lf (.ptr 0 0)), (.lf (tLi 1125899906842624))] tFieldsm20 (.lf (tVi 26)) tFieldsm19 (.call 59 [(.lf (.ptr 0 0)), (.lf (tLi 1125899906842624))] tFieldsm19 (.lf (tVi 29)) ⟨[(128, [(tSl 6 12 13), (tVi 27), (tVi 28)]), (37, tFieldsb10)], ⟨30, 0, 0, 14, 7⟩⟩ (.again 2 ⟨[(.var 27), (.var 28), (.var 0), (.var 1), (.var 2), (.var 3), (.var 26), (.var 29), (.var 6), (.var 7), (.var 8), (.var 9), (.var 10), (.var 11), (.var 12), (.var 13), (.var 14), (.var 15), (.var 16), (.var 17), (.var 18), (.var 19), (.var 20)], [], [], [(.var 12), (.var 13), (.var 0), (.var 1), (.var 2), (.var 3), (.var 4), (.var 5), (.var 6), (.var 7)], [(.var 6), (.var 0), (.var 1), (.var 2), (.var 3)]⟩ ⟨[(128, [(tSl 6 12 13), (tVi 27), (tVi 28)]), (37, [(tVi 0), (tVi 1), (tVi 2), (tVi 3), (tVi 26), (tVi 29), (tVi 6), (tVi 7), (tVi 8), (tVi 9), (tSl 0 0 1), (tSl 1 2 3), (tSl 2 4 5), (tVi 10), (tVi 11), (tVi 12), (tVi 13), (tVi 14), (tVi 15), (tVi 16), (tVi 17), (tVi 18), (tVi 19), (tVi 20), (tSl 3 6 7)])], ⟨30, 0, 0, 14, 7⟩⟩))) (.again 2 ⟨[(.var 21), (.var 22), (.var 0), (.var 1), (.var 2), (.var 3), (.var 4), (.var 5), (.var 6), (.var 7), (.var 8), (.var 9), (.var 10), (.var 11), (.var 12), (.var 13), (.var 14), (.var 15), (.var 16), (.var 17), (.var 18), (.var 19), (.var 20)], [], [], [(.var 8), (.var 9), (.var 0), (.var 1), (.var 2), (.var 3), (.var 4), (.var 5), (.var 6), (.var 7)], [(.var 4), (.var 0), (.var 1), (.var 2), (.var 3)]⟩ tFieldsm20)) (.join 7 ⟨[(128, [(tSl 5 10 11), (tVi 24), (tVi 25)]), (37, tFieldsb9), (131, tFieldsb12)], ⟨47, 0, 0, 20, 10⟩⟩ tFieldsm17 (.br (.cmp .neq (.op .and .i64 (.var 23) (.lit 2)) (.lit 0)) (.call 59 [(.lf (.ptr 0 0)), (.lf (tLi 1125899906842624))] tFieldsm5 (.lf (tVi 49)) ⟨[(128, [(tSl 10 20 21), (tVi 47), (tVi 48)]), (37, tFieldsb9), (131, tFieldsb12), (131, [(tLi 2), (.ptr 1 6)])], ⟨50, 0, 0, 22, 11⟩⟩ (.again 7 ⟨[(.var 47), (.var 48), (.var 26), (.var 27), (.var 28), (.var 29), (.var 30), (.var 31), (.var 49), (.var 33), (.var 34), (.var 35), (.var 36), (.var 37), (.var 38), (.var 39), (.var 40), (.var 41), (.var 42), (.var 43), (.var 44), (.var 45), (.var 46)], [], [], [(.var 20), (.var 21), (.var 12), (.var 13), (.var 14), (.var 15), (.var 16), (.var 17), (.var 18), (.var 19)], [(.var 10), (.var 6), (.var 7), (.var 8), (.var 9)]⟩ ⟨[(128, [(tSl 10 20 21), (tVi 47), (tVi 48)]), (37, [(tVi 26), (tVi 27), (tVi 28), (tVi 29), (tVi 30), (tVi 31), (tVi 49), (tVi 33), (tVi 34), (tVi 35), (tSl 6 12 13), (tSl 7 14 15), (tSl 8 16 17), (tVi 36), (tVi 37), (tVi 38), (tVi 39), (tVi 40), (tVi 41), (tVi 42), (tVi 43), (tVi 44), (tVi 45), (tVi 46), (tSl 9 18 19)]), (131, tFieldsb12), (131, [(tLi 2), (.ptr 1 6)])], ⟨50, 0, 0, 22, 11⟩⟩)) (.again 7 ⟨[(.var 24), (.var 25), (.var 26), (.var 27), (.var 28), (.var 29), (.var 30), (.var 31), (.var 32), (.var 33), (.var 34), (.var 35), (.var 36), (.var 37), (.var 38), (.var 39), (.var 40), (.var 41), (.var 42), (.var 43), (.var 44), (.var 45), (.var 46)], [], [], [(.var 10), (.var 11), (.var 12), (.var 13), (.var 14), (.var 15), (.var 16), (.var 17), (.var 18), (.var 19)], [(.var 5), (.var 6), (.var 7), (.var 8), (.var 9)]⟩ tFieldsm5)) (.join 7 tFieldsm17 tFieldsm18 (.br (.cmp .neq (.op .and .i64 (.var 23) (.lit 4)) (.lit 0)) (.call 59 [(.lf (.ptr 0 0)), (.lf (tLi 1125899906842624))] tFieldsm3 (.lf (tVi 72)) ⟨[(128, [(tSl 15 30 31), (tVi 70), (tVi 71)]), (37, tFieldsb7), (131, tFieldsb12), (131, [(tLi 4), (.ptr 1 7)])], ⟨73, 0, 0, 32, 16⟩⟩ (.again 7 ⟨[(.var 70), (.var 71), (.var 49), (.var 50), (.var 51), (.var 52), (.var 53), (.var 54), (.var 55), (.var 72), (.var 57), (.var 58), (.var 59), (.var 60), (.var 61), (.var 62), (.var 63), (.var 64), (.var 65), (.var 66), (.var 67), (.var 68), (.var 69)], [], [], [(.var 30), (.var 31), (.var 22), (.var 23), (.var 24), (.var 25), (.var 26), (.var 27), (.var 28), (.var 29)], [(.var 15), (.var 11), (.var 12), (.var 13), (.var 14)]⟩ ⟨[(128, [(tSl 15 30 31), (tVi 70), (tVi 71)]), (37, [(tVi 49), (tVi 50), (tVi 51), (tVi 52), (tVi 53), (tVi 54), (tVi 55), (tVi 72), (tVi 57), (tVi 58), (tSl 11 22 23), (tSl 12 24 25), (tSl 13 26 27), (tVi 59), (tVi 60), (tVi 61), (tVi 62), (tVi 63), (tVi 64), (tVi 65), (tVi 66), (tVi 67), (tVi 68), (tVi 69), (tSl 14 28 29)]), (131, tFieldsb12), (131, [(tLi 4), (.ptr 1 7)])], ⟨73, 0, 0, 32, 16⟩⟩)) (.again 7 ⟨[(.var 47), (.var 48), (.var 49), (.var 50), (.var 51), (.var 52), (.var 53), (.var 54), (.var 55), (.var 56), (.var 57), (.var 58), (.var 59), (.var 60), (.var 61), (.var 62), (.var 63), (.var 64), (.var 65), (.var 66), (.var 67), (.var 68), (.var 69)], [], [], [(.var 20), (.var 21), (.var 22), (.var 23), (.var 24), (.var 25), (.var 26), (.var 27), (.var 28), (.var 29)], [(.var 10), (.var 11), (.var 12), (.var 13), (.var 14)]⟩ tFieldsm3)) (.join 7 tFieldsm18 tFieldsm16 (.br (.cmp .neq (.op .and .i64 (.var 23) (.lit 8)) (.lit 0)) (.call 59 [(.lf (.ptr 0 0)), (.lf (tLi 1125899906842624))] tFieldsm4 (.lf (tVi 95)) ⟨[(128, [(tSl 20 40 41), (tVi 93), (tVi 94)]), (37, tFieldsb8), (131, tFieldsb12), (131, [(tLi 8), (.ptr 1 8)])], ⟨96, 0, 0, 42, 21⟩⟩ (.again 7 ⟨[(.var 93), (.var 94), (.var 72), (.var 73), (.var 74), (.var 75), (.var 76), (.var 77), (.var 78), (.var 79), (.var 95), (.var 81), (.var 82), (.var 83), (.var 84), (.var 85), (.var 86), (.var 87), (.var 88), (.var 89), (.var 90), (.var 91), (.var 92)], [], [], [(.var 40), (.var 41), (.var 32), (.var 33), (.var 34), (.var 35), (.var 36), (.var 37), (.var 38), (.var 39)], [(.var 20), (.var 16), (.var 17), (.var 18), (.var 19)]⟩ ⟨[(128, [(tSl 20 40 41), (tVi 93), (tVi 94)]), (37, [(tVi 72), (tVi 73), (tVi 74), (tVi 75), (tVi 76), (tVi 77), (tVi 78), (tVi 79), (tVi 95), (tVi 81), (tSl 16 32 33), (tSl 17 34 35), (tSl 18 36 37), (tVi 82), (tVi 83), (tVi 84), (tVi 85), (tVi 86), (tVi 87), (tVi 88), (tVi 89), (tVi 90), (tVi 91), (tVi 92), (tSl 19 38 39)]), (131, tFieldsb12), (131, [(tLi 8), (.ptr 1 8)])], ⟨96, 0, 0, 42, 21⟩⟩)) (.again 7 ⟨[(.var 70), (.var 71), (.var 72), (.var 73), (.var 74), (.var 75), (.var 76), (.var 77), (.var 78), (.var 79), (.var 80), (.var 81), (.var 82), (.var 83), (.var 84), (.var 85), (.var 86), (.var 87), (.var 88), (.var 89), (.var 90), (.var 91), (.var 92)], [], [], [(.var 30), (.var 31), (.var 32), (.var 33), (.var 34), (.var 35), (.var 36), (.var 37), (.var 38), (.var 39)], [(.var 15), (.var 16), (.var 17), (.var 18), (.var 19)]⟩ tFieldsm4)) (.join 10 tFieldsm16 tFieldsm6 (.br (.cmp .neq (.op .and .i64 (.var 23) (.lit 16)) (.lit 0)) (.call 82 [(.lf (.ptr 0 0))] tFieldsm16 (.agg [(tVi 118), (tSl 26 52 53), (tSl 27 54 55)]) ⟨[(128, [(tSl 25 50 51), (tVi 116), (tVi 117)]), (37, tFieldsb6), (131, tFieldsb12)], ⟨119, 0, 0, 56, 28⟩⟩ (.again 10 ⟨[(.var 116), (.var 117), (.var 95), (.var 96), (.var 97), (.var 98), (.var 99), (.var 100), (.var 101), (.var 102), (.var 103), (.var 118), (.var 105), (.var 106), (.var 107), (.var 108), (.var 109), (.var 110), (.var 111), (.var 112), (.var 113), (.var 114), (.var 115)], [], [], [(.var 50), (.var 51), (.var 52), (.var 53), (.var 54), (.var 55), (.var 46), (.var 47), (.var 48), (.var 49)], [(.var 25), (.var 26), (.var 27), (.var 23), (.var 24)]⟩ ⟨[(128, [(tSl 25 50 51), (tVi 116), (tVi 117)]), (37, [(tVi 95), (tVi 96), (tVi 97), (tVi 98), (tVi 99), (tVi 100), (tVi 101), (tVi 102), (tVi 103), (tVi 118), (tSl 26 52 53), (tSl 27 54 55), (tSl 23 46 47), (tVi 105), (tVi 106), (tVi 107), (tVi 108), (tVi 109), (tVi 110), (tVi 111), (tVi 112), (tVi 113), (tVi 114), (tVi 115), (tSl 24 48 49)]), (131, tFieldsb12)], ⟨119, 0, 0, 56, 28⟩⟩)) (.again 10 ⟨[(.var 93), (.var 94), (.var 95), (.var 96), (.var 97), (.var 98), (.var 99), (.var 100), (.var 101), (.var 102), (.var 103), (.var 104), (.var 105), (.var 106), (.var 107), (.var 108), (.var 109), (.var 110), (.var 111), (.var 112), (.var 113), (.var 114), (.var 115)], [], [], [(.var 40), (.var 41), (.var 42), (.var 43), (.var 44), (.var 45), (.var 46), (.var 47), (.var 48), (.var 49)], [(.var 20), (.var 21), (.var 22), (.var 23), (.var 24)]⟩ tFieldsm16)) (.join 17 tFieldsm6 tFieldsm7 (.br (.cmp .neq (.op .and .i64 (.var 23) (.lit 32)) (.lit 0)) (.call 59 [(.lf (.ptr 0 0)), (.lf (tLi 64))] tFieldsm6 (.lf (tVi 141)) tFieldsm8 (.loop 12 ⟨[(.lit 0), (.var 139), (.var 140), (.var 118), (.var 119), (.var 120), (.var 121), (.var 122), (.var 123), (.var 124), (.var 125), (.var 126), (.var 127), (.var 128), (.var 129), (.var 130), (.var 131), (.var 132), (.var 133), (.var 134), (.var 135), (.var 136), (.var 137), (.var 138)], [], [], [(.var 60), (.var 61), (.var 52), (.var 53), (.var 54), (.var 55), (.var 56), (.var 57), (.var 58), (.var 59)], [(.var 30), (.var 26), (.var 27), (.var 28), (.var 29)]⟩ tFieldsm8 tFieldsm9 (.br (.cmp .lss (.var 142) (.var 141)) (.call 59 [(.lf (.ptr 0 0)), (.lf (tLi 1125899906842624))] tFieldsm9 (.lf (tVi 168)) tFieldsm10 (.call 59 [(.lf (.ptr 0 0)), (.lf (tLi 1125899906842624))] tFieldsm10 (.lf (tVi 171)) tFieldsm11 (.call 59 [(.lf (.ptr 0 0)), (.lf (tLi 1125899906842624))] tFieldsm11 (.lf (tVi 174)) ⟨[(128, [(tSl 38 76 77), (tVi 172), (tVi 173)]), (37, tFieldsb2), (131, tFieldsb12)], ⟨175, 0, 0, 78, 39⟩⟩ (.call 82 [(.lf (.ptr 0 0))] ⟨[(128, [(tSl 38 76 77), (tVi 172), (tVi 173)]), (37, tFieldsb2), (131, tFieldsb12), (59, tFieldsb13)], ⟨175, 0, 0, 78, 39⟩⟩ (.agg [(tVi 177), (tSl 40 80 81), (tSl 41 82 83)]) ⟨[(128, [(tSl 39 78 79), (tVi 175), (tVi 176)]), (37, tFieldsb2), (131, tFieldsb12), (59, tFieldsb13)], ⟨178, 0, 0, 84, 42⟩⟩ (.par tFieldst0 tFieldst0))))) (.again 17 ⟨[(.var 143), (.var 144), (.var 145), (.var 146), (.var 147), (.var 148), (.var 149), (.var 150), (.var 151), (.var 152), (.var 153), (.var 154), (.var 155), (.var 156), (.var 157), (.var 158), (.var 159), (.var 160), (.var 161), (.var 162), (.var 163), (.var 164), (.var 165)], [], [], [(.var 62), (.var 63), (.var 64), (.var 65), (.var 66), (.var 67), (.var 68), (.var 69), (.var 70), (.var 71)], [(.var 31), (.var 32), (.var 33), (.var 34), (.var 35)]⟩ tFieldsm9)))) (.again 17 ⟨[(.var 116), (.var 117), (.var 118), (.var 119), (.var 120), (.var 121), (.var 122), (.var 123), (.var 124), (.var 125), (.var 126), (.var 127), (.var 128), (.var 129), (.var 130), (.var 131), (.var 132), (.var 133), (.var 134), (.var 135), (.var 136), (.var 137), (.var 138)], [], [], [(.var 50), (.var 51), (.var 52), (.var 53), (.var 54), (.var 55), (.var 56), (.var 57), (.var 58), (.var 59)], [(.var 25), (.var 26), (.var 27), (.var 28), (.var 29)]⟩ tFieldsm6)) (.join 19 tFieldsm7 tFieldsm12 (.br (.cmp .neq (.op .and .i64 (.var 23) (.lit 64)) (.lit 0)) (.call 83 [(.lf (.ptr 0 0))] tFieldsm7 (.agg [(tVi 164), (tVi 165), (tVi 166), (tVi 167), (tVi 168), (tVi 169), (tVi 170), (tVi 171)]) ⟨[(128, [(tSl 35 70 71), (tVi 162), (tVi 163)]), (37, tFieldsb1), (131, tFieldsb12)], ⟨172, 0, 0, 72, 36⟩⟩ (.again 19 ⟨[(.var 162), (.var 163), (.var 141), (.var 142), (.var 143), (.var 144), (.var 145), (.var 146), (.var 147), (.var 148), (.var 149), (.var 150), (.var 164), (.var 165), (.var 166), (.var 167), (.var 168), (.var 169), (.var 170), (.var 171), (.var 159), (.var 160), (.var 161)], [], [], [(.var 70), (.var 71), (.var 62), (.var 63), (.var 64), (.var 65), (.var 66), (.var 67), (.var 68), (.var 69)], [(.var 35), (.var 31), (.var 32), (.var 33), (.var 34)]⟩ ⟨[(128, [(tSl 35 70 71), (tVi 162), (tVi 163)]), (37, [(tVi 141), (tVi 142), (tVi 143), (tVi 144), (tVi 145), (tVi 146), (tVi 147), (tVi 148), (tVi 149), (tVi 150), (tSl 31 62 63), (tSl 32 64 65), (tSl 33 66 67), (tVi 164), (tVi 165), (tVi 166), (tVi 167), (tVi 168), (tVi 169), (tVi 170), (tVi 171), (tVi 159), (tVi 160), (tVi 161), (tSl 34 68 69)]), (131, tFieldsb12)], ⟨172, 0, 0, 72, 36⟩⟩)) (.again 19 ⟨[(.var 139), (.var 140), (.var 141), (.var 142), (.var 143), (.var 144), (.var 145), (.var 146), (.var 147), (.var 148), (.var 149), (.var 150), (.var 151), (.var 152), (.var 153), (.var 154), (.var 155), (.var 156), (.var 157), (.var 158), (.var 159), (.var 160), (.var 161)], [], [], [(.var 60), (.var 61), (.var 62), (.var 63), (.var 64), (.var 65), (.var 66), (.var 67), (.var 68), (.var 69)], [(.var 30), (.var 31), (.var 32), (.var 33), (.var 34)]⟩ tFieldsm7)) (.join 21 tFieldsm12 tFieldsm13 (.br (.cmp .neq (.op .and .i64 (.var 23) (.lit 128)) (.lit 0)) (.call 84 [(.lf (.ptr 0 0))] tFieldsm12 (.lf (tVi 187)) tFieldsm14 (.call 84 [(.lf (.ptr 0 0))] tFieldsm14 (.lf (tVi 190)) tFieldsm15 (.call 84 [(.lf (.ptr 0 0))] tFieldsm15 (.lf (tVi 193)) ⟨[(128, [(tSl 42 84 85), (tVi 191), (tVi 192)]), (37, tFieldsb4), (131, tFieldsb12)], ⟨194, 0, 0, 86, 43⟩⟩ (.again 21 ⟨[(.var 191), (.var 192), (.var 164), (.var 165), (.var 166), (.var 167), (.var 168), (.var 169), (.var 170), (.var 171), (.var 172), (.var 173), (.var 174), (.var 175), (.var 176), (.var 177), (.var 178), (.var 179), (.var 180), (.var 181), (.var 187), (.var 190), (.var 193)], [], [], [(.var 84), (.var 85), (.var 72), (.var 73), (.var 74), (.var 75), (.var 76), (.var 77), (.var 78), (.var 79)], [(.var 42), (.var 36), (.var 37), (.var 38), (.var 39)]⟩ ⟨[(128, [(tSl 42 84 85), (tVi 191), (tVi 192)]), (37, [(tVi 164), (tVi 165), (tVi 166), (tVi 167), (tVi 168), (tVi 169), (tVi 170), (tVi 171), (tVi 172), (tVi 173), (tSl 36 72 73), (tSl 37 74 75), (tSl 38 76 77), (tVi 174), (tVi 175), (tVi 176), (tVi 177), (tVi 178), (tVi 179), (tVi 180), (tVi 181), (tVi 187), (tVi 190), (tVi 193), (tSl 39 78 79)]), (131, tFieldsb12)], ⟨194, 0, 0, 86, 43⟩⟩)))) (.again 21 ⟨[(.var 162), (.var 163), (.var 164), (.var 165), (.var 166), (.var 167), (.var 168), (.var 169), (.var 170), (.var 171), (.var 172), (.var 173), (.var 174), (.var 175), (.var 176), (.var 177), (.var 178), (.var 179), (.var 180), (.var 181), (.var 182), (.var 183), (.var 184)], [], [], [(.var 70), (.var 71), (.var 72), (.var 73), (.var 74), (.var 75), (.var 76), (.var 77), (.var 78), (.var 79)], [(.var 35), (.var 36), (.var 37), (.var 38), (.var 39)]⟩ tFieldsm12)) (.br (.cmp .neq (.op .and .i64 (.var 23) (.lit 256)) (.lit 0)) (.call 85 [(.lf (.ptr 0 0)), (.lf (tLi 1024))] tFieldsm13 (.lf (tSl 46 92 93)) ⟨[(128, [(tSl 45 90 91), (tVi 208), (tVi 209)]), (37, tFieldsb5), (131, tFieldsb12)], ⟨210, 0, 0, 94, 47⟩⟩ (.done (.tup []) ⟨[(128, [(tSl 45 90 91), (tVi 208), (tVi 209)]), (37, [(tVi 187), (tVi 188), (tVi 189), (tVi 190), (tVi 191), (tVi 192), (tVi 193), (tVi 194), (tVi 195), (tVi 196), (tSl 41 82 83), (tSl 42 84 85), (tSl 43 86 87), (tVi 197), (tVi 198), (tVi 199), (tVi 200), (tVi 201), (tVi 202), (tVi 203), (tVi 204), (tVi 205), (tVi 206), (tVi 207), (tSl 46 92 93)]), (131, tFieldsb12)], ⟨210, 0, 0, 94, 47⟩⟩)) (.done (.tup []) tFieldsm13)))))))))) := by kernel_rfl
end Go.Proofs.Ytadgaefmoobcoaa

namespace Go.Proofs.Ytadgaefmoobcoaa
open Go.ChangeShapes Go.WideShapes Go.ChangeAt Go.RowKit Go.Syn Go.Eng
set_option linter.unusedVariables false
set_option linter.unusedSimpArgs false
set_option maxRecDepth 100000
section
variable {P : Program} {w : World} {nb : Nat} {a a' : Option Addr} {cap c' : Nat} {bs' : List Int} {V : Value} {v : SV} {ρ : Env} {rest : HX} {S : Stack} {cs : List LV} {r : List (Nat × List LV)} {n : Cnt}
theorem wr_done (hv : ∀ ids, idAt ids 0 = nb → v.den ρ ids = V) (hc : ∀ ids, cellsDen ρ ids cs = [.slice a' bs'.length c']) (hfr : ∀ k, c' ≠ 0 → abk a' = some k → (cap ≠ 0 ∧ abk a = some k) ∨ w.heap.size ≤ k) :
    (Tree.done v ⟨(113, cs) :: r, n⟩).holds ⟨P, w, fun x => x = nb ∨ (cap ≠ 0 ∧ abk a = some x), WR w nb a cap bs' V⟩ ρ [nb] (rest.and (frow a' c' bs')) S := fun ids w2 hp hf => by
  refine ⟨a', c', by rw [hv ids (idAt0 hp)], ?_, hf.x.2, hf.chg, hfr⟩
  have h := hf.blk 0 113 cs rfl
  rw [idAt0 hp, hc] at h
  exact h
end
theorem wtext_any (nb : Nat) (a : Option Addr) (cap : Nat) (bs : List Int) (da : Option Addr) (dc : Nat) (d : List Int) (w : World) (H : WAt w nb a cap bs) (HD : Cells w da (bcells d)) (hd : ∀ k, (HX.cl da (bcells d)).F k → k ≠ nb ∧ ¬ (cap ≠ 0 ∧ abk a = some k)) (hl : bs.length + 9 + d.length ≤ 140737488355328) :
    Calls Try.prog 46 #[.pointer (some ⟨nb, 0, none⟩), .slice da d.length dc] w (WR w nb a cap (bs ++ (numB d.length ++ d)) (.pointer (some ⟨nb, 0, none⟩))) := by
  have g1 := numB_len (u := d.length) (by omega)
  refine calls_at (tab_ok _) Try.func46 rfl tWText (ρ := ⟨[], [], [], [bs.length, cap, d.length, dc], [a, da]⟩) (ids := [nb]) (hx := (HX.cl da (bcells d)).and (frow a cap bs)) (M := fun x => x = nb ∨ (cap ≠ 0 ∧ abk a = some x)) rfl (Facts.initx rfl oneNil H.blk rfl (.inl rfl) ⟨HD, H.mem⟩ (fun k hk => hk.elim (fun q => ⟨cl_sep HD k q, (hd k q).1⟩) (H.sep k))) ?_
  obtain ⟨b1, e1⟩ : ∃ b, b = bs ++ numB d.length := ⟨_, rfl⟩
  have l1 : b1.length = bs.length + (numB d.length).length := by rw [e1, List.length_append]
  refine node_wr (bs := bs) (bs' := b1) 0 (fun a' c' => ⟨[], [], [], [b1.length, c'], [a']⟩) (fun ids => .pointer (some ⟨idAt ids 0, 0, none⟩)) (fun ids => #[.pointer (some ⟨idAt ids 0, 0, none⟩), .int .u64 (d.length : Int)]) rfl rfl (by intros; kernel_rfl) (fun k h1 h2 => .inr (.inr ⟨h1, h2⟩)) (fun k h1 h2 q => (hd k q).2 ⟨h1, h2⟩) (fun ids => by rw [← natU_n (n := d.length) (by omega)]; rfl) (fun ids w2 hp hf HW => by rw [e1]; exact wnum_any _ a cap bs d.length (by omega) w2 HW (by omega)) [.sl 2 (.var 4) (.var 5)] rfl (by intros; kernel_rfl) (by intros; kernel_rfl) rfl (fun _ _ => rfl) (fun _ _ => oneNil) ?_
  intro x1 y1 hk1 hf1
  refine node_appends (rest := HX.cl da (bcells d)) (sz := 1) rfl Try.underlying35 info_byte rfl (by decide) x1 b1.length y1 (bcells b1) (fun _ => da) d.length dc (bcells d) (by simp [bcells_len]) (fun ids w2 hp hf => hf.x.2) (fun ids w2 hp hf => hf.x.1) (bcells_one d) (fun w h => ⟨h.1, fun k q => .inl q⟩) (fun k h1 h2 => .inr ⟨h1, h2⟩) (fun k h1 h2 => (hk1 k h1 h2).2) (fun k h1 h2 => (hk1 k h1 h2).1) (by unfold maxLen; omega) (by omega) (by intros; kernel_rfl) (by intros; kernel_rfl) (by intros; kernel_rfl) (by kernel_rfl) (by kernel_rfl) (by intros; kernel_rfl) ?_
  intro x2 y2 _ hd2 hor
  have e2 : bs ++ (numB d.length ++ d) = b1 ++ d := by rw [e1, List.append_assoc]
  rw [e2]
  refine holds_eq (congrArg _ (frow_app x2 y2 b1 d)) ?_
  refine wr_done (fun ids h => by rw [← h]; kernel_rfl) (fun ids => by rw [List.length_append]; kernel_rfl) (fun k h1 h2 => ?_)
  rcases hor k h1 h2 with q | q
  · exact hf1 k q.1 q.2
  · exact .inr q.1
def txN (most : Int) (bs : List Int) (p : Nat × Int) : Nat := vaC most bs p
def txB (most : Int) (bs : List Int) (p : Nat × Int) : Bool := (stC most bs p).2 == 0 && decide (txN most bs p ≤ bs.length - (stC most bs p).1)
def txS (most : Int) (bs : List Int) (p : Nat × Int) : Nat × Int := if txB most bs p = true then ((stC most bs p).1 + txN most bs p, 0) else if (stC most bs p).2 = 0 then ((stC most bs p).1, 10) else stC most bs p
def txD (most : Int) (bs : List Int) (p : Nat × Int) : List Int := if txB most bs p = true then (bs.drop (stC most bs p).1).take (txN most bs p) else []
def RdT (w : World) (nb : Nat) (d : List Int) (us : List Value) (e : Ending) (w' : World) : Prop := ∃ a' c', e = .returned (.slice a' d.length c') ∧ Blk w' nb us 128 ∧ (frow a' c' d).X w' ∧ (∀ k, c' ≠ 0 → abk a' = some k → w.heap.size ≤ k) ∧ w.grownBy w' (some nb)
theorem txS_le (most : Int) (bs : List Int) (p : Nat × Int) : (txS most bs p).1 ≤ bs.length := by
  have := stC_le most bs p
  unfold txS
  by_cases h : txB most bs p = true
  · rw [if_pos h]
    unfold txB at h
    simp only [Bool.and_eq_true, decide_eq_true_eq] at h
    have := h.2
    show _ + _ ≤ _
    omega
  · rw [if_neg h]
    split <;> exact this
theorem rtext_any (nb : Nat) (a : Option Addr) (cap : Nat) (bs : List Int) (p : Nat × Int) (most : Int) (hm : I64 most) (w : World) (H : RdAt w nb a cap bs p.1 p.2) :
    Calls Try.prog 85 #[.pointer (some ⟨nb, 0, none⟩), .int .i64 most] w (RdT w nb (txD most bs p) (rcells a cap bs (txS most bs p).1 (txS most bs p).2)) := by
  obtain ⟨q, eq⟩ : ∃ q, q = stC most bs p := ⟨_, rfl⟩
  obtain ⟨n, en⟩ : ∃ n, n = vaC most bs p := ⟨_, rfl⟩
  have hqle : q.1 ≤ bs.length := by rw [eq]; exact stC_le _ _ _
  have hlen := H.len
  have hn63 : (n : Int) ≤ 9223372036854775807 := by
    have : (max 0 most) ≤ 9223372036854775807 := by unfold I64 at hm; omega
    have h2 : (n : Int) ≤ max 0 most := by
      rw [en]
      by_cases h0 : 0 ≤ most
      · have := vaC_le h0 bs p; omega
      · have e : vaC most bs p = 0 := by
          unfold vaC readC
          dsimp only
          split
          · rfl
          · rename_i h
            have : (max 0 most).toNat = 0 := by omega
            omega
        rw [e]; omega
    omega
  have ht : txB most bs p = (q.2 == 0 && decide (n ≤ bs.length - q.1)) := by rw [eq, en]; rfl
  have hS : txS most bs p = if txB most bs p = true then (q.1 + n, 0) else if q.2 = 0 then (q.1, 10) else q := by rw [eq, en]; rfl
  have hD : txD most bs p = if txB most bs p = true then (bs.drop q.1).take n else [] := by rw [eq, en]; rfl
  refine calls_at (tab_ok _) Try.func85 rfl tRText (ρ := ⟨[(p.1 : Int), p.2, most], [], [], [bs.length, cap], [a]⟩) (ids := [nb]) (hx := HX.cl a (bcells bs)) (M := fun x => x = nb) rfl (Facts.initx rfl oneNil H.blk rfl rfl H.mem H.sepc) ?_
  have done : ∀ {v : SV} {ρ : Env} {S : Stack} {cs : List LV} {r : List (Nat × List LV)} {k : Cnt} (d : List Int) (a' : Option Addr) (c' : Nat) (s : Nat × Int), txD most bs p = d → txS most bs p = s → (∀ ids, v.den ρ ids = .slice a' d.length c') → (∀ ids, cellsDen ρ ids cs = rcells a cap bs s.1 s.2) → (∀ k, c' ≠ 0 → abk a' = some k → w.heap.size ≤ k) →
      (Tree.done v ⟨(128, cs) :: r, k⟩).holds ⟨Try.prog, w, fun x => x = nb, RdT w nb (txD most bs p) (rcells a cap bs (txS most bs p).1 (txS most bs p).2)⟩ ρ [nb] ((HX.cl a (bcells bs)).and (frow a' c' d)) S := fun d a' c' s hd hs hv hc hk ids w2 hp hf => by
    rw [hd, hs]
    have h := hf.blk 0 128 _ rfl
    rw [idAt0 hp, hc] at h
    exact ⟨a', c', by rw [hv], h, hf.x.2, hk, hf.chg.grown⟩
  have hcnt : ∀ w b, RdAt w b a cap bs p.1 p.2 → Calls Try.prog 59 #[.pointer (some ⟨b, 0, none⟩), .int .i64 most] w (At1 w b 128 (.int .i64 (n : Int)) (rcells a cap bs q.1 q.2)) := fun w b h => by rw [eq, en]; exact rcount_any b a cap bs p.1 p.2 most hm w h
  refine node_rd (V := .int .i64 (n : Int)) (ix := p.1) (bad := p.2) (ix' := q.1) (bad' := q.2) 0 ⟨[(q.1 : Int), q.2, (n : Int)], [], [], [bs.length, cap], [a]⟩ (fun b => #[.pointer (some ⟨b, 0, none⟩), .int .i64 most]) H.ok H.ix rfl rfl (by intros; kernel_rfl) (by intros; kernel_rfl) hcnt [.sl 1 (.var 2) (.var 3), .int .i64 (.var 3), .int .i64 (.var 4)] rfl (by intros; kernel_rfl) (by intros; kernel_rfl) (by kernel_rfl) (by kernel_rfl) oneNil ?_
  refine br_D (p := q.2 ≠ 0) (by show (q.2 != 0) = _; rw [Bool.eq_iff_iff]; simp) (fun h => ?_) (fun h => ?_)
  · have hb : ¬ txB most bs p = true := by rw [ht]; simp; exact fun e => absurd e h
    refine holds_eq (cl_none (HX.cl a (bcells bs)) none).symm ?_
    refine holds_sub _ (hx' := (HX.cl a (bcells bs)).and (frow none 0 [])) (fun w h => ⟨h.1, HX.rw_nil _ _ _ _⟩) (fun k hk => hk.elim .inl fun q => absurd rfl q.1) ?_
    exact done [] none 0 q (by rw [hD, if_neg hb]) (by rw [hS, if_neg hb, if_neg h]) (by intros; kernel_rfl) (by intros; kernel_rfl) (fun k h => absurd rfl h)
  have h0 : q.2 = 0 := by simpa using h
  have w1 : IntKind.i64.wrap ((bs.length : Int) - (q.1 : Int)) = (bs.length : Int) - (q.1 : Int) := wrap_i64 (by omega)
  refine br_D (p := (n : Int) > IntKind.i64.wrap ((bs.length : Int) - (q.1 : Int))) (by kernel_rfl) (fun h2 => ?_) (fun h2 => ?_)
  · rw [w1] at h2
    have hb : ¬ txB most bs p = true := by rw [ht]; simp; intro _; omega
    refine holds_eq (cl_none (HX.cl a (bcells bs)) none).symm ?_
    refine holds_sub _ (hx' := (HX.cl a (bcells bs)).and (frow none 0 [])) (fun w h => ⟨h.1, HX.rw_nil _ _ _ _⟩) (fun k hk => hk.elim .inl fun q => absurd rfl q.1) ?_
    exact done [] none 0 (q.1, 10) (by rw [hD, if_neg hb]) (by rw [hS, if_neg hb, if_pos h0]) (by intros; kernel_rfl) (by intros; kernel_rfl) (fun k h => absurd rfl h)
  rw [w1] at h2
  have hb : txB most bs p = true := by rw [ht, h0]; simp; omega
  have w2 : IntKind.i64.wrap ((q.1 : Int) + (n : Int)) = ((q.1 + n : Nat) : Int) := by rw [wrap_i64 (by omega)]; omega
  have hcap := H.cap
  refine node_span (n := bs.length) (cap := cap) (sz := 1) (l := q.1) (u := q.1 + n) a Try.underlying35 (by kernel_rfl) info_byte (by intros; kernel_rfl) (by intros; kernel_rfl) (fun ids => by rw [← w2]; kernel_rfl) (by omega) (by omega) (by intros; kernel_rfl) (by kernel_rfl) (by kernel_rfl) (by kernel_rfl) ?_
  obtain ⟨d, ed⟩ : ∃ d, d = (bs.drop q.1).take n := ⟨_, rfl⟩
  have hdl : d.length = n := by rw [ed, List.length_take, List.length_drop]; omega
  have hcl : ∀ {w}, Cells w a (bcells bs) → Cells w (sliA a q.1 cap 1) (bcells d) := fun h => by
    have := sli_cells h q.1 n cap 1 (by rw [bcells_len]; omega) (by rw [bcells_len]; omega) (by decide)
    rw [Nat.mul_one, bcells_sub] at this
    rw [ed]; exact this
  have hsub : q.1 + n - q.1 = d.length := by omega
  refine node_appends (rest := HX.cl a (bcells bs)) (xs := []) (sz := 1) rfl Try.underlying35 info_byte rfl (by decide) none 0 0 (fun _ => sliA a q.1 cap 1) d.length (cap - q.1) (bcells d) (by simp [bcells_len]) (fun ids w _ _ => HX.rw_nil _ _ _ w) (fun ids w2 hp hf => hcl hf.x) (bcells_one d) (fun w h => ⟨h, fun _ q => q⟩) (fun k h => absurd rfl h) (fun k h => absurd rfl h) (fun k h => absurd rfl h) (by unfold maxLen; omega) (by omega) (by intros; kernel_rfl) (fun ids _ => by rw [← hsub]; kernel_rfl) (by intros; kernel_rfl) (by kernel_rfl) (by kernel_rfl) (by intros; kernel_rfl) ?_
  intro a' c' _ hd2 hor
  rw [Nat.zero_add, List.nil_append]
  refine done d a' c' (q.1 + n, 0) (by rw [hD, if_pos hb, ed]) (by rw [hS, if_pos hb]) (by intros; kernel_rfl) (fun ids => (show cellsDen _ ids _ = [.slice a bs.length cap, .int .i64 (IntKind.i64.wrap ((q.1 : Int) + (n : Int))), .int .i64 q.2] from by kernel_rfl).trans (by rw [w2, h0]; rfl)) (fun k h1 h2 => ?_)
  rcases hor k h1 h2 with q | q
  · exact absurd rfl q.1
  · exact q.1
end Go.Proofs.Ytadgaefmoobcoaa

namespace Go.Eng
open Go.RowKit Go.Syn
set_option linter.unusedVariables false
theorem Facts.init3 {P : Program} {w : World} {M : Nat → Prop} {R : Ending → World → Prop} {ρ : Env} {c : Cnt} {hx : HX} {b0 b1 b2 t0 t1 t2 : Nat} {c0 c1 c2 : List LV} {u0 u1 u2 : List Value} (hc : ρ.cnt = c) (h1 : ∀ v, v ∈ ρ.v → v.oneCell' = true) (g0 : Blk w b0 u0 t0) (g1 : Blk w b1 u1 t1) (g2 : Blk w b2 u2 t2)
    (e0 : cellsDen ρ [b0, b1, b2] c0 = u0) (e1 : cellsDen ρ [b0, b1, b2] c1 = u1) (e2 : cellsDen ρ [b0, b1, b2] c2 = u2) (hn : b0 ≠ b1 ∧ b0 ≠ b2 ∧ b1 ≠ b2) (hM : M b0 ∧ M b1 ∧ M b2) (hX : hx.X w) (hsep : ∀ k, hx.F k → k < w.heap.size ∧ k ≠ b0 ∧ k ≠ b1 ∧ k ≠ b2) :
    Facts ⟨P, w, M, R⟩ ⟨[(t0, c0), (t1, c1), (t2, c2)], c⟩ ρ [b0, b1, b2] hx w := by
  refine ⟨rfl, ?_, fun n ty cs h => ?_, fun id hid => .inr ?_, Chg.refl _ _, hX, fun k hk => ⟨(hsep k hk).1, ?_⟩, ⟨hc, h1⟩⟩
  · simp only [List.nodup_cons, List.mem_cons, List.not_mem_nil, or_false, not_false_eq_true, List.nodup_nil, and_true]
    exact ⟨fun q => q.elim hn.1 hn.2.1, hn.2.2⟩
  · rcases n with _ | _ | _ | n
    · cases h; rw [e0]; exact g0
    · cases h; rw [e1]; exact g1
    · cases h; rw [e2]; exact g2
    · cases h
  · simp only [List.mem_cons, List.not_mem_nil, or_false] at hid
    rcases hid with rfl | rfl | rfl
    · exact hM.1
    · exact hM.2.1
    · exact hM.2.2
  · simp only [List.mem_cons, List.not_mem_nil, or_false, not_or]
    exact (hsep k hk).2
end Go.Eng
namespace Go.Proofs.Ytadgaefmoobcoaa
open Go.ChangeShapes Go.WideShapes Go.ChangeAt Go.RowKit Go.Syn Go.Eng
set_option linter.unusedVariables false
set_option linter.unusedSimpArgs false
set_option maxRecDepth 100000
theorem idAt3 {b0 b1 b2 : Nat} {ids : List Nat} (h : [b0, b1, b2] <+: ids) : idAt ids 0 = b0 ∧ idAt ids 1 = b1 ∧ idAt ids 2 = b2 := by
  obtain ⟨r, rfl⟩ := h
  exact ⟨rfl, rfl, rfl⟩
def natsB (ns : List Int) : List Int := ns.flatMap fun n => numB (natU n)
def bitB (u bit : Int) (xs : List Int) : List Int := if ub u bit = true then xs else []
theorem natsB_len (ns : List Int) : (natsB ns).length ≤ 9 * ns.length := nsB_len ns
def E1I (W : World) (a : Option Addr) (cap : Nat) (bs : List Int) (u bit : Int) (ns : List Int) (vs : Vals) (hx : HX) (m : Nat) : Prop := ∃ (k : Nat) (a' : Option Addr) (c' : Nat), m = ns.length - k ∧ k ≤ ns.length ∧ Fr W a cap a' c' ∧ vs = ⟨[(k : Int)], [], [], [(bs ++ bitB u bit (natsB (ns.take k))).length, c'], [a']⟩ ∧ hx = HX.nil.and (frow a' c' (bs ++ bitB u bit (natsB (ns.take k))))
theorem enc1_any (bit u : Int) (an : Option Addr) (cn : Nat) (ns : List Int) (bu bw nb : Nat) (a : Option Addr) (cap : Nat) (bs : List Int) (w : World) (H : WAt w nb a cap bs) (Hn : Ints w an ns) (Bu : Blk w bu [.int .i64 u] 3) (Bw : Blk w bw [.pointer (some ⟨nb, 0, none⟩)] 78)
    (hd : bu ≠ bw ∧ bu ≠ nb ∧ bw ≠ nb) (hr : ∀ k, cap ≠ 0 → abk a = some k → k ≠ bu ∧ k ≠ bw) (hn : ∀ k, (HX.ints an ns).F k → k ≠ bu ∧ k ≠ bw ∧ k ≠ nb ∧ ¬ (cap ≠ 0 ∧ abk a = some k)) (hl : bs.length + 9 * ns.length ≤ 140737488355328) :
    Calls Try.prog 41 #[.int .i64 bit, .slice an ns.length cn, .pointer (some ⟨bu, 0, none⟩), .pointer (some ⟨bw, 0, none⟩)] w (WR w nb a cap (bs ++ bitB u bit (natsB ns)) (.tuple #[])) := by
  refine calls_at (tab_ok _) Try.func41 rfl tEnc1 (ρ := ⟨[bit, u], [], [], [ns.length, cn, bs.length, cap], [an, a]⟩) (ids := [bu, bw, nb]) (hx := HX.nil.and (frow a cap bs)) (M := fun x => x = bu ∨ x = bw ∨ x = nb ∨ (cap ≠ 0 ∧ abk a = some x)) rfl (Facts.init3 rfl oneNil Bu Bw H.blk rfl rfl rfl hd ⟨.inl rfl, .inr (.inl rfl), .inr (.inr (.inl rfl))⟩ ⟨trivial, H.mem⟩ (fun k hk => hk.elim (fun q => q.elim) fun q => ⟨(H.sep k q).1, (hr k q.1 q.2).1, (hr k q.1 q.2).2, (H.sep k q).2⟩)) ?_
  have hbl : ∀ k, (bs ++ bitB u bit (natsB (ns.take k))).length ≤ bs.length + 9 * k := fun k => by
    rw [List.length_append]
    unfold bitB
    split
    · have h1 := natsB_len (ns.take k)
      have h2 : (ns.take k).length ≤ k := by rw [List.length_take]; omega
      omega
    · simp only [List.length_nil]; omega
  have hnil : bs ++ bitB u bit (natsB (ns.take 0)) = bs := by
    rw [List.take_zero]; unfold bitB natsB; split <;> simp
  refine ⟨E1I w a cap bs u bit ns, fun ids w2 hp hf => ⟨_, ns.length, ⟨hf.x, hf.sep⟩, 0, a, cap, rfl, Nat.zero_le _, fun k h1 h2 => .inl ⟨h1, h2⟩, by rw [hnil]; rfl, by rw [hnil]⟩, ?_⟩
  rintro vs hx' n hcnt ⟨k, a1, c1, rfl, hk, hfr, rfl, rfl⟩
  obtain ⟨b1, e1⟩ : ∃ b, b = bs ++ bitB u bit (natsB (ns.take k)) := ⟨_, rfl⟩
  have l1 := hbl k
  rw [← e1] at l1 ⊢
  refine holds_env (ρ' := ⟨[bit, u, (k : Int)], [], [], [ns.length, cn, bs.length, cap, b1.length, c1], [an, a, a1]⟩) rfl ?_
  refine br_D (p := (k : Int) < (ns.length : Int)) (by kernel_rfl) (fun hlt => ?_) (fun hlt => ?_)
  · have hlt : k < ns.length := by omega
    obtain ⟨x, hx⟩ : ∃ b, ns[k]? = some b := ⟨_, List.getElem?_eq_getElem hlt⟩
    obtain ⟨s1, q1⟩ := ints_at Hn hx
    have htk : ns.take (k + 1) = ns.take k ++ [x] := by rw [List.take_add_one, hx]; rfl
    have hst : bs ++ bitB u bit (natsB (ns.take (k + 1))) = b1 ++ bitB u bit (numB (natU x)) := by
      rw [htk, e1, List.append_assoc]
      congr 1
      unfold bitB natsB
      split
      · rw [List.flatMap_append]; simp
      · rfl
    have hnb : ∀ {P : Prop}, ¬ (fun x => x = bu ∨ x = bw ∨ x = nb ∨ (cap ≠ 0 ∧ abk a = some x)) ((an.getD ⟨0, 0, none⟩).block) := fun {P} q => by
      have hF : (HX.ints an ns).F ((an.getD ⟨0, 0, none⟩).block) := ⟨(fun e => by rw [e] at hx; cases hx), getD_blk s1⟩
      obtain ⟨g1, g2, g3, g4⟩ := hn _ hF
      rcases q with q | q | q | q
      · exact g1 q
      · exact g2 q
      · exact g3 q
      · exact g4 q
    have hMr : ∀ {a2 : Option Addr} {c2 : Nat}, Fr w a cap a2 c2 → ∀ k, c2 ≠ 0 → abk a2 = some k → w.heap.size ≤ k ∨ (k = bu ∨ k = bw ∨ k = nb ∨ (cap ≠ 0 ∧ abk a = some k)) := fun h k h1 h2 => (h k h1 h2).elim (fun q => .inr (.inr (.inr (.inr q)))) .inl
    refine ⟨fun vs hx => ∃ (a2 : Option Addr) (c2 : Nat), Fr w a cap a2 c2 ∧ vs = ⟨[], [], [], [(b1 ++ bitB u bit (numB (natU x))).length, c2], [a2]⟩ ∧ hx = HX.nil.and (frow a2 c2 (b1 ++ bitB u bit (numB (natU x)))), ?_, ?_⟩
    · refine need_k (an.isSome = true ∧ 0 ≤ (k : Int) ∧ (k : Int) < (ns.length : Int)) (by kernel_rfl) ⟨s1, by omega, by omega⟩ ?_
      refine node_ldx ⟨[x], [], [], [], []⟩ (.pointer (some (((an.getD ⟨0, 0, none⟩).add (k * 1)).add 0))) [.int .i64 x] (by intros; kernel_rfl) (by intros; kernel_rfl) (q1 _ (hnb (P := True))) ⟨by kernel_rfl, by kernel_rfl⟩ ?_
      refine br_B (ub u bit) (by kernel_rfl) (fun h => ?_) (fun h => ?_)
      · refine node_wr (bs := b1) (bs' := b1 ++ numB (natU x)) 2 (fun a' c' => ⟨[], [], [], [(b1 ++ numB (natU x)).length, c'], [a']⟩) (fun ids => .pointer (some ⟨idAt ids 2, 0, none⟩)) (fun ids => #[.pointer (some ⟨idAt ids 2, 0, none⟩), .int .u64 (natU x : Int)]) rfl rfl (by intros; kernel_rfl) (hMr hfr) (fun k h1 h2 q => q) (fun ids => by rw [← natU_c]; kernel_rfl) (fun ids w2 hp hf HW => wnum_any _ a1 c1 b1 (natU x) (natU_lt _) w2 HW (by omega)) [.sl 3 (.var 6) (.var 7)] rfl (by intros; kernel_rfl) (by intros; kernel_rfl) (by kernel_rfl) (by intros; kernel_rfl) (fun _ _ => oneNil) ?_
        intro a2 c2 hk2 hf2
        have e : bitB u bit (numB (natU x)) = numB (natU x) := by unfold bitB; rw [if_pos h]
        exact again_V ⟨[], [], [], [(b1 ++ numB (natU x)).length, c2], [a2]⟩ rfl (by intros; kernel_rfl) _ (fun w2 ids hf => ⟨hf.x, hf.sep⟩) ⟨a2, c2, hfr.trans hf2, by rw [e], by rw [e]⟩
      · have e : b1 ++ bitB u bit (numB (natU x)) = b1 := by unfold bitB; rw [if_neg (by rw [h]; decide), List.append_nil]
        exact again_V ⟨[], [], [], [b1.length, c1], [a1]⟩ rfl (by intros; kernel_rfl) _ (fun w2 ids hf => ⟨hf.x, hf.sep⟩) ⟨a1, c1, hfr, by rw [e], by rw [e]⟩
    rintro vs hx2 hcnt2 ⟨a2, c2, hfr2, rfl, rfl⟩
    have hwk : IntKind.i64.wrap ((k : Int) + 1) = ((k + 1 : Nat) : Int) := by rw [wrap_i64 (by omega)]; omega
    rw [← hst]
    exact again_V ⟨[IntKind.i64.wrap ((k : Int) + 1)], [], [], [(bs ++ bitB u bit (natsB (ns.take (k + 1)))).length, c2], [a2]⟩ rfl (by intros; kernel_rfl) _ (fun w2 ids hf => ⟨hf.x, hf.sep⟩) ⟨ns.length - (k + 1), by omega, k + 1, a2, c2, rfl, by omega, hfr2, by rw [hwk], rfl⟩
  · have hke : k = ns.length := by omega
    have hb1 : b1 = bs ++ bitB u bit (natsB ns) := by rw [e1, hke, List.take_length]
    intro ids w2 hp hf
    obtain ⟨i0, i1, i2⟩ := idAt3 hp
    have h0 := hf.blk 0 3 _ rfl
    have h1 := hf.blk 1 78 _ rfl
    have h2 := hf.blk 2 113 _ rfl
    rw [i0] at h0
    rw [i1] at h1
    rw [i2] at h2
    have h1 : w2.heap[bw]? = some (.cells [Value.pointer (some ⟨idAt ids 2, 0, none⟩)].toArray 78 (0, 0)) := h1
    rw [i2] at h1
    have ch1 : Chg (fun x => x = bw ∨ x = nb ∨ (cap ≠ 0 ∧ abk a = some x)) w w2 := hf.chg.but (h0.trans Bu.symm)
    have ch2 : Chg (fun x => x = nb ∨ (cap ≠ 0 ∧ abk a = some x)) w w2 := ch1.but (h1.trans Bw.symm)
    refine ⟨a1, c1, rfl, ?_, ?_, ch2, hfr⟩
    · rw [← hb1]; exact h2
    · rw [← hb1]; exact hf.x.2
end Go.Proofs.Ytadgaefmoobcoaa
