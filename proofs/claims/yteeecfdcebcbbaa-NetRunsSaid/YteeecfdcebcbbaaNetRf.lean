/- The reference's net. -/
import Derived.Test.YteeecfdcebcbbaaNetL
import Derived.Test.YteeecfdcebcbbaaEng24
namespace Go.Proofs.Yteeecfdcebcbbaa
open Go.ChangeShapes Go.WideShapes Go.ChangeAt Go.RowKit Go.Syn Go.Eng
set_option linter.unusedVariables false
set_option linter.unusedSimpArgs false
set_option maxRecDepth 100000 in
theorem tRPut : (runF ⟨tt, fns, {}⟩ (Try.f14.body.getD .skip) Try.f14.results.toList (entry Try.f14.ntmps [.lf (.sl 0 (.var 0) (.var 1)), .agg [.int .i64 (.var 0), .int .i64 (.var 1), .sl 1 (.var 2) (.var 3)]] [] ⟨2, 0, 0, 4, 2⟩)) =
  (.br (.cmp .lss (.var 0) (.lit 0)) (.done (.tup [(.false, [(.sl 0 (.var 0) (.var 1))]), (.false, [(.int .i64 (.lit 1))])]) ⟨[(30, [(.int .i64 (.var 0)), (.int .i64 (.var 1)), (.sl 1 (.var 2) (.var 3))])], ⟨2, 0, 0, 4, 2⟩⟩) (.br (.cmp .gtr (.var 0) (.lit 9)) (.done (.tup [(.false, [(.sl 0 (.var 0) (.var 1))]), (.false, [(.int .i64 (.lit 1))])]) ⟨[(30, [(.int .i64 (.var 0)), (.int .i64 (.var 1)), (.sl 1 (.var 2) (.var 3))])], ⟨2, 0, 0, 4, 2⟩⟩) (.br (.cmp .lss (.var 1) (.lit 0)) (.done (.tup [(.false, [(.sl 0 (.var 0) (.var 1))]), (.false, [(.int .i64 (.lit 1))])]) ⟨[(30, [(.int .i64 (.var 0)), (.int .i64 (.var 1)), (.sl 1 (.var 2) (.var 3))])], ⟨2, 0, 0, 4, 2⟩⟩) (.br (.cmp .gtr (.var 1) (.lit 9)) (.done (.tup [(.false, [(.sl 0 (.var 0) (.var 1))]), (.false, [(.int .i64 (.lit 1))])]) ⟨[(30, [(.int .i64 (.var 0)), (.int .i64 (.var 1)), (.sl 1 (.var 2) (.var 3))])], ⟨2, 0, 0, 4, 2⟩⟩) (.br (.cmp .gtr (.nat 2) (.lit 65536)) (.done (.tup [(.false, [(.sl 0 (.var 0) (.var 1))]), (.false, [(.int .i64 (.lit 12))])]) ⟨[(30, [(.int .i64 (.var 0)), (.int .i64 (.var 1)), (.sl 1 (.var 2) (.var 3))])], ⟨2, 0, 0, 4, 2⟩⟩) (.br (.cmp .geq (.nat 0) (.lit 512)) (.done (.tup [(.false, [(.sl 0 (.var 0) (.var 1))]), (.false, [(.int .i64 (.lit 43))])]) ⟨[(30, [(.int .i64 (.var 0)), (.int .i64 (.var 1)), (.sl 1 (.var 2) (.var 3))])], ⟨2, 0, 0, 4, 2⟩⟩) (.gen (.call ⟨(.builtin .append), #[(.tmp 35), (.tmp 36)], #[38, 38]⟩) 38 [(35, (.lf (.nsl 1 0 0 0))), (36, (.lf (.sl 0 (.var 0) (.var 1))))] ⟨[(30, [(.int .i64 (.var 0)), (.int .i64 (.var 1)), (.sl 1 (.var 2) (.var 3))]), (30, [])], ⟨2, 0, 0, 4, 2⟩⟩ (.some (.lf (.sl 2 (.var 4) (.var 5)))) ⟨[(30, [(.int .i64 (.var 0)), (.int .i64 (.var 1)), (.sl 1 (.var 2) (.var 3))]), (30, [])], ⟨2, 0, 0, 6, 3⟩⟩ (.call 9 [(.lf (.sl 1 (.var 2) (.var 3)))] ⟨[(30, [(.int .i64 (.var 0)), (.int .i64 (.var 1)), (.sl 1 (.var 2) (.var 3))]), (30, [])], ⟨2, 0, 0, 6, 3⟩⟩ (.lf (.sl 3 (.var 6) (.var 7))) ⟨[(30, [(.int .i64 (.var 0)), (.int .i64 (.var 1)), (.sl 1 (.var 2) (.var 3))]), (30, [])], ⟨2, 0, 0, 8, 4⟩⟩ (.gen (.call ⟨(.builtin .append), #[(.tmp 38), (.tmp 47)], #[38, 38]⟩) 38 [(38, (.lf (.sl 2 (.var 4) (.var 5)))), (47, (.lf (.nsl 2 0 1 1)))] ⟨[(30, [(.int .i64 (.var 0)), (.int .i64 (.var 1)), (.sl 1 (.var 2) (.var 3))]), (30, []), (30, [(.int .i64 (.var 0)), (.int .i64 (.var 1)), (.sl 3 (.var 6) (.var 7))])], ⟨2, 0, 0, 8, 4⟩⟩ (.some (.lf (.sl 4 (.var 8) (.var 9)))) ⟨[(30, [(.int .i64 (.var 0)), (.int .i64 (.var 1)), (.sl 1 (.var 2) (.var 3))]), (30, []), (30, [(.int .i64 (.var 0)), (.int .i64 (.var 1)), (.sl 3 (.var 6) (.var 7))])], ⟨2, 0, 0, 10, 5⟩⟩ (.done (.tup [(.false, [(.sl 4 (.var 8) (.var 9))]), (.false, [(.int .i64 (.lit 0))])]) ⟨[(30, [(.int .i64 (.var 0)), (.int .i64 (.var 1)), (.sl 1 (.var 2) (.var 3))]), (30, []), (30, [(.int .i64 (.var 0)), (.int .i64 (.var 1)), (.sl 3 (.var 6) (.var 7))])], ⟨2, 0, 0, 10, 5⟩⟩)))))))))) := by kernel_rfl
set_option maxRecDepth 100000 in
theorem tRWithout : (runF ⟨tt, fns, {cur := [], loops := [(3, ⟨[(10, .int .i64), (5, .sl)], []⟩)]}⟩ (Try.f16.body.getD .skip) Try.f16.results.toList (entry Try.f16.ntmps [.lf (.sl 0 (.var 0) (.var 1)), .lf (.int .i64 (.var 0))] [] ⟨1, 0, 0, 2, 1⟩)) =
  (.loop 3 ⟨[(.lit 0)], [], [], [(.lit 0), (.lit 0)], [(.nm 0 0)]⟩ ⟨[(30, [])], ⟨1, 0, 0, 2, 1⟩⟩ ⟨[(30, [])], ⟨2, 0, 0, 4, 2⟩⟩ (.br (.cmp .lss (.var 1) (.nat 0)) (.br (.cmp .neq (.var 1) (.var 0)) (.need (.inb 0 (.var 1) (.nat 0)) (.ld .false (.adr 0 (.var 1) 3 0) [(.int .i64 (.var 2)), (.int .i64 (.var 3)), (.sl 2 (.var 4) (.var 5))] ⟨[(30, [])], ⟨2, 0, 0, 4, 2⟩⟩ ⟨[(30, [])], ⟨4, 0, 0, 6, 3⟩⟩ (.gen (.call ⟨(.builtin .append), #[(.tmp 16), (.tmp 21)], #[38, 38]⟩) 38 [(16, (.lf (.sl 1 (.var 2) (.var 3)))), (21, (.lf (.nsl 1 0 1 1)))] ⟨[(30, []), (30, [(.int .i64 (.var 2)), (.int .i64 (.var 3)), (.sl 2 (.var 4) (.var 5))])], ⟨4, 0, 0, 6, 3⟩⟩ (.some (.lf (.sl 3 (.var 6) (.var 7)))) ⟨[(30, []), (30, [(.int .i64 (.var 2)), (.int .i64 (.var 3)), (.sl 2 (.var 4) (.var 5))])], ⟨4, 0, 0, 8, 4⟩⟩ (.again 3 ⟨[(.op .add .i64 (.var 1) (.lit 1))], [], [], [(.var 6), (.var 7)], [(.var 3)]⟩ ⟨[(30, []), (30, [(.int .i64 (.var 2)), (.int .i64 (.var 3)), (.sl 2 (.var 4) (.var 5))])], ⟨4, 0, 0, 8, 4⟩⟩)))) (.again 3 ⟨[(.op .add .i64 (.var 1) (.lit 1))], [], [], [(.var 2), (.var 3)], [(.var 1)]⟩ ⟨[(30, [])], ⟨2, 0, 0, 4, 2⟩⟩)) (.done (.lf (.sl 1 (.var 2) (.var 3))) ⟨[(30, [])], ⟨2, 0, 0, 4, 2⟩⟩))) := by kernel_rfl
set_option maxRecDepth 100000 in
theorem tRLose : (runF ⟨tt, fns, {cur := [], loops := [(3, ⟨[(10, .int .i64), (5, .sl)], []⟩)]}⟩ (Try.f17.body.getD .skip) Try.f17.results.toList (entry Try.f17.ntmps [.lf (.sl 0 (.var 0) (.var 1)), .lf (.int .i64 (.var 0))] [] ⟨1, 0, 0, 2, 1⟩)) =
  (.loop 3 ⟨[(.lit 0)], [], [], [(.lit 0), (.lit 0)], [(.nm 0 0)]⟩ ⟨[(30, [])], ⟨1, 0, 0, 2, 1⟩⟩ ⟨[(30, [])], ⟨2, 0, 0, 4, 2⟩⟩ (.br (.cmp .lss (.var 1) (.nat 0)) (.need (.inb 0 (.var 1) (.nat 0)) (.ld .false (.adr 0 (.var 1) 3 0) [(.int .i64 (.var 2))] ⟨[(30, [])], ⟨2, 0, 0, 4, 2⟩⟩ ⟨[(30, [])], ⟨3, 0, 0, 4, 2⟩⟩ (.br (.cmp .neq (.var 2) (.var 0)) (.need (.inb 0 (.var 1) (.nat 0)) (.ld .false (.adr 0 (.var 1) 3 1) [(.int .i64 (.var 3))] ⟨[(30, [])], ⟨3, 0, 0, 4, 2⟩⟩ ⟨[(30, [])], ⟨4, 0, 0, 4, 2⟩⟩ (.br (.cmp .neq (.var 3) (.var 0)) (.need (.inb 0 (.var 1) (.nat 0)) (.ld .false (.adr 0 (.var 1) 3 0) [(.int .i64 (.var 4)), (.int .i64 (.var 5)), (.sl 2 (.var 4) (.var 5))] ⟨[(30, [])], ⟨4, 0, 0, 4, 2⟩⟩ ⟨[(30, [])], ⟨6, 0, 0, 6, 3⟩⟩ (.gen (.call ⟨(.builtin .append), #[(.tmp 29), (.tmp 34)], #[38, 38]⟩) 38 [(29, (.lf (.sl 1 (.var 2) (.var 3)))), (34, (.lf (.nsl 1 0 1 1)))] ⟨[(30, []), (30, [(.int .i64 (.var 4)), (.int .i64 (.var 5)), (.sl 2 (.var 4) (.var 5))])], ⟨6, 0, 0, 6, 3⟩⟩ (.some (.lf (.sl 3 (.var 6) (.var 7)))) ⟨[(30, []), (30, [(.int .i64 (.var 4)), (.int .i64 (.var 5)), (.sl 2 (.var 4) (.var 5))])], ⟨6, 0, 0, 8, 4⟩⟩ (.again 3 ⟨[(.op .add .i64 (.var 1) (.lit 1))], [], [], [(.var 6), (.var 7)], [(.var 3)]⟩ ⟨[(30, []), (30, [(.int .i64 (.var 4)), (.int .i64 (.var 5)), (.sl 2 (.var 4) (.var 5))])], ⟨6, 0, 0, 8, 4⟩⟩)))) (.again 3 ⟨[(.op .add .i64 (.var 1) (.lit 1))], [], [], [(.var 2), (.var 3)], [(.var 1)]⟩ ⟨[(30, [])], ⟨4, 0, 0, 4, 2⟩⟩)))) (.again 3 ⟨[(.op .add .i64 (.var 1) (.lit 1))], [], [], [(.var 2), (.var 3)], [(.var 1)]⟩ ⟨[(30, [])], ⟨3, 0, 0, 4, 2⟩⟩)))) (.done (.lf (.sl 1 (.var 2) (.var 3))) ⟨[(30, [])], ⟨2, 0, 0, 4, 2⟩⟩))) := by kernel_rfl
set_option maxRecDepth 100000 in
theorem tRSame : (runF ⟨tt, fns, {cur := [], loops := [(4, ⟨[(13, .int .i64)], []⟩)]}⟩ (Try.f15.body.getD .skip) Try.f15.results.toList (entry Try.f15.ntmps [.lf (.sl 0 (.var 0) (.var 1)), .lf (.sl 1 (.var 2) (.var 3))] [] ⟨0, 0, 0, 4, 2⟩)) =
  (.br (.cmp .neq (.nat 0) (.nat 2)) (.done (.lf (.bool (.lit .false))) ⟨[], ⟨0, 0, 0, 4, 2⟩⟩) (.loop 4 ⟨[(.lit 0)], [], [], [], []⟩ ⟨[], ⟨0, 0, 0, 4, 2⟩⟩ ⟨[], ⟨1, 0, 0, 4, 2⟩⟩ (.br (.cmp .lss (.var 0) (.nat 0)) (.need (.inb 0 (.var 0) (.nat 0)) (.need (.inb 1 (.var 0) (.nat 2)) (.par (.ld .false (.adr 0 (.var 0) 3 0) [(.int .i64 (.var 1))] ⟨[], ⟨1, 0, 0, 4, 2⟩⟩ ⟨[], ⟨2, 0, 0, 4, 2⟩⟩ (.ld .false (.adr 1 (.var 0) 3 0) [(.int .i64 (.var 2))] ⟨[], ⟨2, 0, 0, 4, 2⟩⟩ ⟨[], ⟨3, 0, 0, 4, 2⟩⟩ (.br (.cmp .neq (.var 1) (.var 2)) (.done (.lf (.bool (.lit .false))) ⟨[], ⟨3, 0, 0, 4, 2⟩⟩) (.need (.inb 0 (.var 0) (.nat 0)) (.need (.inb 1 (.var 0) (.nat 2)) (.par (.ld .false (.adr 0 (.var 0) 3 1) [(.int .i64 (.var 3))] ⟨[], ⟨3, 0, 0, 4, 2⟩⟩ ⟨[], ⟨4, 0, 0, 4, 2⟩⟩ (.ld .false (.adr 1 (.var 0) 3 1) [(.int .i64 (.var 4))] ⟨[], ⟨4, 0, 0, 4, 2⟩⟩ ⟨[], ⟨5, 0, 0, 4, 2⟩⟩ (.br (.cmp .neq (.var 3) (.var 4)) (.done (.lf (.bool (.lit .false))) ⟨[], ⟨5, 0, 0, 4, 2⟩⟩) (.need (.inb 0 (.var 0) (.nat 0)) (.need (.inb 1 (.var 0) (.nat 2)) (.par (.ld .false (.adr 0 (.var 0) 3 2) [(.sl 2 (.var 4) (.var 5))] ⟨[], ⟨5, 0, 0, 4, 2⟩⟩ ⟨[], ⟨5, 0, 0, 6, 3⟩⟩ (.ld .false (.adr 1 (.var 0) 3 2) [(.sl 3 (.var 6) (.var 7))] ⟨[], ⟨5, 0, 0, 6, 3⟩⟩ ⟨[], ⟨5, 0, 0, 8, 4⟩⟩ (.call 13 [(.lf (.sl 2 (.var 4) (.var 5))), (.lf (.sl 3 (.var 6) (.var 7)))] ⟨[], ⟨5, 0, 0, 8, 4⟩⟩ (.lf (.bool (.var 0))) ⟨[], ⟨5, 1, 0, 8, 4⟩⟩ (.br (.not (.var 0)) (.done (.lf (.bool (.lit .false))) ⟨[], ⟨5, 1, 0, 8, 4⟩⟩) (.again 4 ⟨[(.op .add .i64 (.var 0) (.lit 1))], [], [], [], []⟩ ⟨[], ⟨5, 1, 0, 8, 4⟩⟩))))) (.ld .false (.adr 1 (.var 0) 3 2) [(.sl 2 (.var 4) (.var 5))] ⟨[], ⟨5, 0, 0, 4, 2⟩⟩ ⟨[], ⟨5, 0, 0, 6, 3⟩⟩ (.ld .false (.adr 0 (.var 0) 3 2) [(.sl 3 (.var 6) (.var 7))] ⟨[], ⟨5, 0, 0, 6, 3⟩⟩ ⟨[], ⟨5, 0, 0, 8, 4⟩⟩ (.call 13 [(.lf (.sl 3 (.var 6) (.var 7))), (.lf (.sl 2 (.var 4) (.var 5)))] ⟨[], ⟨5, 0, 0, 8, 4⟩⟩ (.lf (.bool (.var 0))) ⟨[], ⟨5, 1, 0, 8, 4⟩⟩ (.br (.not (.var 0)) (.done (.lf (.bool (.lit .false))) ⟨[], ⟨5, 1, 0, 8, 4⟩⟩) (.again 4 ⟨[(.op .add .i64 (.var 0) (.lit 1))], [], [], [], []⟩ ⟨[], ⟨5, 1, 0, 8, 4⟩⟩))))))))))) (.ld .false (.adr 1 (.var 0) 3 1) [(.int .i64 (.var 3))] ⟨[], ⟨3, 0, 0, 4, 2⟩⟩ ⟨[], ⟨4, 0, 0, 4, 2⟩⟩ (.ld .false (.adr 0 (.var 0) 3 1) [(.int .i64 (.var 4))] ⟨[], ⟨4, 0, 0, 4, 2⟩⟩ ⟨[], ⟨5, 0, 0, 4, 2⟩⟩ (.br (.cmp .neq (.var 4) (.var 3)) (.done (.lf (.bool (.lit .false))) ⟨[], ⟨5, 0, 0, 4, 2⟩⟩) (.need (.inb 0 (.var 0) (.nat 0)) (.need (.inb 1 (.var 0) (.nat 2)) (.par (.ld .false (.adr 0 (.var 0) 3 2) [(.sl 2 (.var 4) (.var 5))] ⟨[], ⟨5, 0, 0, 4, 2⟩⟩ ⟨[], ⟨5, 0, 0, 6, 3⟩⟩ (.ld .false (.adr 1 (.var 0) 3 2) [(.sl 3 (.var 6) (.var 7))] ⟨[], ⟨5, 0, 0, 6, 3⟩⟩ ⟨[], ⟨5, 0, 0, 8, 4⟩⟩ (.call 13 [(.lf (.sl 2 (.var 4) (.var 5))), (.lf (.sl 3 (.var 6) (.var 7)))] ⟨[], ⟨5, 0, 0, 8, 4⟩⟩ (.lf (.bool (.var 0))) ⟨[], ⟨5, 1, 0, 8, 4⟩⟩ (.br (.not (.var 0)) (.done (.lf (.bool (.lit .false))) ⟨[], ⟨5, 1, 0, 8, 4⟩⟩) (.again 4 ⟨[(.op .add .i64 (.var 0) (.lit 1))], [], [], [], []⟩ ⟨[], ⟨5, 1, 0, 8, 4⟩⟩))))) (.ld .false (.adr 1 (.var 0) 3 2) [(.sl 2 (.var 4) (.var 5))] ⟨[], ⟨5, 0, 0, 4, 2⟩⟩ ⟨[], ⟨5, 0, 0, 6, 3⟩⟩ (.ld .false (.adr 0 (.var 0) 3 2) [(.sl 3 (.var 6) (.var 7))] ⟨[], ⟨5, 0, 0, 6, 3⟩⟩ ⟨[], ⟨5, 0, 0, 8, 4⟩⟩ (.call 13 [(.lf (.sl 3 (.var 6) (.var 7))), (.lf (.sl 2 (.var 4) (.var 5)))] ⟨[], ⟨5, 0, 0, 8, 4⟩⟩ (.lf (.bool (.var 0))) ⟨[], ⟨5, 1, 0, 8, 4⟩⟩ (.br (.not (.var 0)) (.done (.lf (.bool (.lit .false))) ⟨[], ⟨5, 1, 0, 8, 4⟩⟩) (.again 4 ⟨[(.op .add .i64 (.var 0) (.lit 1))], [], [], [], []⟩ ⟨[], ⟨5, 1, 0, 8, 4⟩⟩))))))))))))))))) (.ld .false (.adr 1 (.var 0) 3 0) [(.int .i64 (.var 1))] ⟨[], ⟨1, 0, 0, 4, 2⟩⟩ ⟨[], ⟨2, 0, 0, 4, 2⟩⟩ (.ld .false (.adr 0 (.var 0) 3 0) [(.int .i64 (.var 2))] ⟨[], ⟨2, 0, 0, 4, 2⟩⟩ ⟨[], ⟨3, 0, 0, 4, 2⟩⟩ (.br (.cmp .neq (.var 2) (.var 1)) (.done (.lf (.bool (.lit .false))) ⟨[], ⟨3, 0, 0, 4, 2⟩⟩) (.need (.inb 0 (.var 0) (.nat 0)) (.need (.inb 1 (.var 0) (.nat 2)) (.par (.ld .false (.adr 0 (.var 0) 3 1) [(.int .i64 (.var 3))] ⟨[], ⟨3, 0, 0, 4, 2⟩⟩ ⟨[], ⟨4, 0, 0, 4, 2⟩⟩ (.ld .false (.adr 1 (.var 0) 3 1) [(.int .i64 (.var 4))] ⟨[], ⟨4, 0, 0, 4, 2⟩⟩ ⟨[], ⟨5, 0, 0, 4, 2⟩⟩ (.br (.cmp .neq (.var 3) (.var 4)) (.done (.lf (.bool (.lit .false))) ⟨[], ⟨5, 0, 0, 4, 2⟩⟩) (.need (.inb 0 (.var 0) (.nat 0)) (.need (.inb 1 (.var 0) (.nat 2)) (.par (.ld .false (.adr 0 (.var 0) 3 2) [(.sl 2 (.var 4) (.var 5))] ⟨[], ⟨5, 0, 0, 4, 2⟩⟩ ⟨[], ⟨5, 0, 0, 6, 3⟩⟩ (.ld .false (.adr 1 (.var 0) 3 2) [(.sl 3 (.var 6) (.var 7))] ⟨[], ⟨5, 0, 0, 6, 3⟩⟩ ⟨[], ⟨5, 0, 0, 8, 4⟩⟩ (.call 13 [(.lf (.sl 2 (.var 4) (.var 5))), (.lf (.sl 3 (.var 6) (.var 7)))] ⟨[], ⟨5, 0, 0, 8, 4⟩⟩ (.lf (.bool (.var 0))) ⟨[], ⟨5, 1, 0, 8, 4⟩⟩ (.br (.not (.var 0)) (.done (.lf (.bool (.lit .false))) ⟨[], ⟨5, 1, 0, 8, 4⟩⟩) (.again 4 ⟨[(.op .add .i64 (.var 0) (.lit 1))], [], [], [], []⟩ ⟨[], ⟨5, 1, 0, 8, 4⟩⟩))))) (.ld .false (.adr 1 (.var 0) 3 2) [(.sl 2 (.var 4) (.var 5))] ⟨[], ⟨5, 0, 0, 4, 2⟩⟩ ⟨[], ⟨5, 0, 0, 6, 3⟩⟩ (.ld .false (.adr 0 (.var 0) 3 2) [(.sl 3 (.var 6) (.var 7))] ⟨[], ⟨5, 0, 0, 6, 3⟩⟩ ⟨[], ⟨5, 0, 0, 8, 4⟩⟩ (.call 13 [(.lf (.sl 3 (.var 6) (.var 7))), (.lf (.sl 2 (.var 4) (.var 5)))] ⟨[], ⟨5, 0, 0, 8, 4⟩⟩ (.lf (.bool (.var 0))) ⟨[], ⟨5, 1, 0, 8, 4⟩⟩ (.br (.not (.var 0)) (.done (.lf (.bool (.lit .false))) ⟨[], ⟨5, 1, 0, 8, 4⟩⟩) (.again 4 ⟨[(.op .add .i64 (.var 0) (.lit 1))], [], [], [], []⟩ ⟨[], ⟨5, 1, 0, 8, 4⟩⟩))))))))))) (.ld .false (.adr 1 (.var 0) 3 1) [(.int .i64 (.var 3))] ⟨[], ⟨3, 0, 0, 4, 2⟩⟩ ⟨[], ⟨4, 0, 0, 4, 2⟩⟩ (.ld .false (.adr 0 (.var 0) 3 1) [(.int .i64 (.var 4))] ⟨[], ⟨4, 0, 0, 4, 2⟩⟩ ⟨[], ⟨5, 0, 0, 4, 2⟩⟩ (.br (.cmp .neq (.var 4) (.var 3)) (.done (.lf (.bool (.lit .false))) ⟨[], ⟨5, 0, 0, 4, 2⟩⟩) (.need (.inb 0 (.var 0) (.nat 0)) (.need (.inb 1 (.var 0) (.nat 2)) (.par (.ld .false (.adr 0 (.var 0) 3 2) [(.sl 2 (.var 4) (.var 5))] ⟨[], ⟨5, 0, 0, 4, 2⟩⟩ ⟨[], ⟨5, 0, 0, 6, 3⟩⟩ (.ld .false (.adr 1 (.var 0) 3 2) [(.sl 3 (.var 6) (.var 7))] ⟨[], ⟨5, 0, 0, 6, 3⟩⟩ ⟨[], ⟨5, 0, 0, 8, 4⟩⟩ (.call 13 [(.lf (.sl 2 (.var 4) (.var 5))), (.lf (.sl 3 (.var 6) (.var 7)))] ⟨[], ⟨5, 0, 0, 8, 4⟩⟩ (.lf (.bool (.var 0))) ⟨[], ⟨5, 1, 0, 8, 4⟩⟩ (.br (.not (.var 0)) (.done (.lf (.bool (.lit .false))) ⟨[], ⟨5, 1, 0, 8, 4⟩⟩) (.again 4 ⟨[(.op .add .i64 (.var 0) (.lit 1))], [], [], [], []⟩ ⟨[], ⟨5, 1, 0, 8, 4⟩⟩))))) (.ld .false (.adr 1 (.var 0) 3 2) [(.sl 2 (.var 4) (.var 5))] ⟨[], ⟨5, 0, 0, 4, 2⟩⟩ ⟨[], ⟨5, 0, 0, 6, 3⟩⟩ (.ld .false (.adr 0 (.var 0) 3 2) [(.sl 3 (.var 6) (.var 7))] ⟨[], ⟨5, 0, 0, 6, 3⟩⟩ ⟨[], ⟨5, 0, 0, 8, 4⟩⟩ (.call 13 [(.lf (.sl 3 (.var 6) (.var 7))), (.lf (.sl 2 (.var 4) (.var 5)))] ⟨[], ⟨5, 0, 0, 8, 4⟩⟩ (.lf (.bool (.var 0))) ⟨[], ⟨5, 1, 0, 8, 4⟩⟩ (.br (.not (.var 0)) (.done (.lf (.bool (.lit .false))) ⟨[], ⟨5, 1, 0, 8, 4⟩⟩) (.again 4 ⟨[(.op .add .i64 (.var 0) (.lit 1))], [], [], [], []⟩ ⟨[], ⟨5, 1, 0, 8, 4⟩⟩)))))))))))))))))))) (.done (.lf (.bool (.lit .true))) ⟨[], ⟨1, 0, 0, 4, 2⟩⟩)))) := by kernel_rfl
deriving instance DecidableEq for PkD
/-- A list of packets that is read. -/
def refHX (a : Option Addr) (ps : List Pk) : HX := (HX.dats ps).and (HX.cl a (pcells ps))
theorem ref_elt {w : World} {a : Option Addr} {ps : List Pk} (h : (refHX a ps).X w) {i : Nat} {p : Pk} (hi : ps[i]? = some p) (off : Nat) (us : List Value) (hus : ∀ j u, us[j]? = some u → p.cells[off + j]? = some u) (hne : us ≠ []) :
    a.isSome = true ∧ ∀ (N : Nat → Prop), ¬ N ((a.getD ⟨0, 0, none⟩).block) → CellsAt w (.pointer (some (((a.getD ⟨0, 0, none⟩).add (i * 3)).add off))) us N :=
  cl_part h.2 us (fun j u hj => by rw [Nat.add_assoc]; exact pcells_get hi _ u (hus j u hj)) hne
theorem ref_sep {w : World} {a : Option Addr} {ps : List Pk} (h : (refHX a ps).X w) : ∀ k, (refHX a ps).F k → k < w.heap.size := by
  rintro k (⟨p, hp, h1, rfl⟩ | hk)
  · exact cl_sep (h.1 p hp) _ ⟨fun q => h1 (bcells_nil.1 q), rfl⟩
  · exact cl_sep h.2 k hk
theorem one_get {u v : Value} {f : Nat → Option Value} (h : f 0 = some v) : ∀ j u, [v][j]? = some u → f j = some u := fun j u hj => by
  cases j with
  | zero => simp only [List.getElem?_cons_zero, Option.some.injEq] at hj; subst hj; exact h
  | succ j => simp at hj
def RsI (xs ys : List Pk) (vs : Vals) (hx : HX) : Prop := ∃ k : Nat, k ≤ xs.length ∧ (xs.take k).map Pk.d = (ys.take k).map Pk.d ∧ vs = ⟨[(k : Int)], [], [], [], []⟩ ∧ hx = HX.nil
set_option maxHeartbeats 4000000 in
set_option maxRecDepth 100000 in
theorem rsame_any (a : Option Addr) (cap : Nat) (xs : List Pk) (a2 : Option Addr) (cap2 : Nat) (ys : List Pk) (w : World) (H1 : (refHX a xs).X w) (H2 : (refHX a2 ys).X w) (hl : xs.length ≤ 1000000) (hb : bsOk xs) :
    Calls Try.prog 15 #[.slice a xs.length cap, .slice a2 ys.length cap2] w (PureAt w (.bool (decide (xs.map Pk.d = ys.map Pk.d)))) := by
  refine calls_at (tab_ok _) Try.func15 rfl tRSame (ρ := ⟨[], [], [], [xs.length, cap, ys.length, cap2], [a, a2]⟩) (ids := []) rfl (Facts.initP rfl oneNil) ?_
  by_cases hlen : xs.length = ys.length
  · refine br_f (show ((xs.length : Int) != (ys.length : Int)) = false by simp [hlen]) ?_
    refine loop_i (RsI xs ys) (fun vs => xs.length - (vs.i.headD 0).toNat) (fun ids w2 hp hf => ⟨HX.nil, HXok.none _ _, 0, by omega, rfl, rfl, rfl⟩) ?_
    rintro vs hx' hcnt ⟨k, hk1, htk, rfl, rfl⟩
    have hwk : IntKind.i64.wrap ((k : Int) + 1) = ((k + 1 : Nat) : Int) := by rw [wrap_i64 (by omega)]; omega
    by_cases hk : k < xs.length
    · refine br_t (show decide ((k : Int) < (xs.length : Int)) = true by simpa using hk) ?_
      obtain ⟨p, hx⟩ : ∃ b, xs[k]? = some b := ⟨_, List.getElem?_eq_getElem hk⟩
      obtain ⟨q, hy⟩ : ∃ b, ys[k]? = some b := ⟨_, List.getElem?_eq_getElem (by omega)⟩
      obtain ⟨s1, c1f⟩ := ref_elt H1 hx 0 [.int .i64 p.f] (one_get (u := .int .i64 0) rfl) (by simp)
      obtain ⟨_, c1t⟩ := ref_elt H1 hx 1 [.int .i64 p.t] (one_get (u := .int .i64 0) rfl) (by simp)
      obtain ⟨_, c1b⟩ := ref_elt H1 hx 2 [.slice p.a p.bs.length p.c] (one_get (u := .int .i64 0) rfl) (by simp)
      obtain ⟨s2, c2f⟩ := ref_elt H2 hy 0 [.int .i64 q.f] (one_get (u := .int .i64 0) rfl) (by simp)
      obtain ⟨_, c2t⟩ := ref_elt H2 hy 1 [.int .i64 q.t] (one_get (u := .int .i64 0) rfl) (by simp)
      obtain ⟨_, c2b⟩ := ref_elt H2 hy 2 [.slice q.a q.bs.length q.c] (one_get (u := .int .i64 0) rfl) (by simp)
      have Hp := H1.1 p (List.mem_of_getElem? hx)
      have Hq := H2.1 q (List.mem_of_getElem? hy)
      have hpl := hb p (List.mem_of_getElem? hx)
      have no : p.d ≠ q.d → decide (xs.map Pk.d = ys.map Pk.d) = false := fun h => decide_eq_false fun e => by
        have := congrArg (fun l => l[k]?) e
        simp only [List.getElem?_map, hx, hy, Option.map_some] at this
        exact h (Option.some.inj this)
      have yes : p.d = q.d → ∀ vs, vs = ⟨[IntKind.i64.wrap ((k : Int) + 1)], [], [], [], []⟩ → ∀ (w : World) (ids : List Nat), ∃ hx', HXok hx' w ids ∧ ∃ I, lkup 4 [(4, fun vs' hx'' => RsI xs ys vs' hx'' ∧ xs.length - (vs'.i.headD 0).toNat < xs.length - (((⟨[(k : Int)], [], [], [], []⟩ : Vals)).i.headD 0).toNat)] = some I ∧ I vs hx' := by
        rintro e vs rfl w ids
        refine ⟨HX.nil, HXok.none _ _, _, rfl, ⟨k + 1, by omega, ?_, by rw [hwk], rfl⟩, ?_⟩
        · rw [List.take_add_one, List.take_add_one, hx, hy, List.map_append, List.map_append, htk]
          simp [e]
        · show xs.length - (IntKind.i64.wrap ((k : Int) + 1)).toNat < xs.length - ((k : Int)).toNat
          rw [hwk]; omega
      have n1 : ∀ {V : SV} {m : Mem} {ρ : Env} {L : Stack}, p.d ≠ q.d → (∀ ids, V.den ρ ids = .bool false) → (Tree.done V m).holds ⟨Try.prog, w, fun _ => False, PureAt w (.bool (decide (xs.map Pk.d = ys.map Pk.d)))⟩ ρ [] HX.nil L := fun h hv => pure_done fun ids => by rw [hv ids, no h]
      have df : p.f ≠ q.f → p.d ≠ q.d := fun h e => h (congrArg PkD.f e)
      have dt : p.t ≠ q.t → p.d ≠ q.d := fun h e => h (congrArg PkD.t e)
      have db : p.bs ≠ q.bs → p.d ≠ q.d := fun h e => h (congrArg PkD.bs e)
      have nd1 : ∀ {ρ : Env}, ρ.i.getD 0 0 = (k : Int) → ρ.n.getD 0 0 = xs.length → ρ.a.getD 0 none = a → (Need.inb 0 (.var 0) (.nat 0)).den ρ := fun h1 h2 h3 => ⟨by rw [h3]; exact s1, by show 0 ≤ _; rw [show (IE.var 0).den _ = (k : Int) from h1]; omega, by show (IE.var 0).den _ < (((_ : Nat)) : Int); rw [show (IE.var 0).den _ = (k : Int) from h1, h2]; omega⟩
      have nd2 : ∀ {ρ : Env}, ρ.i.getD 0 0 = (k : Int) → ρ.n.getD 2 0 = ys.length → ρ.a.getD 1 none = a2 → (Need.inb 1 (.var 0) (.nat 2)).den ρ := fun h1 h2 h3 => ⟨by rw [h3]; exact s2, by show 0 ≤ _; rw [show (IE.var 0).den _ = (k : Int) from h1]; omega, by show (IE.var 0).den _ < (((_ : Nat)) : Int); rw [show (IE.var 0).den _ = (k : Int) from h1, h2]; omega⟩
      by_cases ef : p.f = q.f
      · by_cases et : p.t = q.t
        · by_cases eb : p.bs = q.bs
          · have ed : p.d = q.d := by unfold Pk.d; rw [ef, et, eb]
            repeat' (first
              | refine par_i ?_ ?_
              | refine need_i (nd1 rfl rfl rfl) ?_
              | refine need_i (nd2 rfl rfl rfl) ?_
              | refine ⟨⟨[p.f], [], [], [], []⟩, fun ids => c1f _ (fun e => e), ⟨rfl, oneNil⟩, ?_⟩
              | refine ⟨⟨[q.f], [], [], [], []⟩, fun ids => c2f _ (fun e => e), ⟨rfl, oneNil⟩, ?_⟩
              | refine ⟨⟨[p.t], [], [], [], []⟩, fun ids => c1t _ (fun e => e), ⟨rfl, oneNil⟩, ?_⟩
              | refine ⟨⟨[q.t], [], [], [], []⟩, fun ids => c2t _ (fun e => e), ⟨rfl, oneNil⟩, ?_⟩
              | refine ⟨⟨[], [], [], [p.bs.length, p.c], [p.a]⟩, fun ids => c1b _ (fun e => e), ⟨rfl, oneNil⟩, ?_⟩
              | refine ⟨⟨[], [], [], [q.bs.length, q.c], [q.a]⟩, fun ids => c2b _ (fun e => e), ⟨rfl, oneNil⟩, ?_⟩
              | refine br_f (show (p.f != q.f) = false by simp [ef]) ?_
              | refine br_f (show (p.t != q.t) = false by simp [et]) ?_
              | refine node_pure ⟨[], [decide (p.bs = q.bs)], [], [], []⟩ rfl rfl rfl oneNil (fun ids w2 hp hf => sameb_any p.a p.c p.bs q.a q.c q.bs w2 ((HX.cl p.a (bcells p.bs)).loc w w2 Hp fun b hbb => hf.chg.block b (cl_sep Hp b hbb) id) ((HX.cl q.a (bcells q.bs)).loc w w2 Hq fun b hbb => hf.chg.block b (cl_sep Hq b hbb) id) hpl) ?_
              | refine br_f (show (!decide (p.bs = q.bs)) = false by rw [decide_eq_true eb]; rfl) ?_
              | exact fun ids w2 hp hf => yes ed _ rfl _ _)
          · repeat' (first
              | refine par_i ?_ ?_
              | refine need_i (nd1 rfl rfl rfl) ?_
              | refine need_i (nd2 rfl rfl rfl) ?_
              | refine ⟨⟨[p.f], [], [], [], []⟩, fun ids => c1f _ (fun e => e), ⟨rfl, oneNil⟩, ?_⟩
              | refine ⟨⟨[q.f], [], [], [], []⟩, fun ids => c2f _ (fun e => e), ⟨rfl, oneNil⟩, ?_⟩
              | refine ⟨⟨[p.t], [], [], [], []⟩, fun ids => c1t _ (fun e => e), ⟨rfl, oneNil⟩, ?_⟩
              | refine ⟨⟨[q.t], [], [], [], []⟩, fun ids => c2t _ (fun e => e), ⟨rfl, oneNil⟩, ?_⟩
              | refine ⟨⟨[], [], [], [p.bs.length, p.c], [p.a]⟩, fun ids => c1b _ (fun e => e), ⟨rfl, oneNil⟩, ?_⟩
              | refine ⟨⟨[], [], [], [q.bs.length, q.c], [q.a]⟩, fun ids => c2b _ (fun e => e), ⟨rfl, oneNil⟩, ?_⟩
              | refine br_f (show (p.f != q.f) = false by simp [ef]) ?_
              | refine br_f (show (p.t != q.t) = false by simp [et]) ?_
              | refine node_pure ⟨[], [decide (p.bs = q.bs)], [], [], []⟩ rfl rfl rfl oneNil (fun ids w2 hp hf => sameb_any p.a p.c p.bs q.a q.c q.bs w2 ((HX.cl p.a (bcells p.bs)).loc w w2 Hp fun b hbb => hf.chg.block b (cl_sep Hp b hbb) id) ((HX.cl q.a (bcells q.bs)).loc w w2 Hq fun b hbb => hf.chg.block b (cl_sep Hq b hbb) id) hpl) ?_
              | refine br_t (show (!decide (p.bs = q.bs)) = true by rw [decide_eq_false eb]; rfl) (n1 (db eb) fun _ => rfl))
        · repeat' (first
            | refine par_i ?_ ?_
            | refine need_i (nd1 rfl rfl rfl) ?_
            | refine need_i (nd2 rfl rfl rfl) ?_
            | refine ⟨⟨[p.f], [], [], [], []⟩, fun ids => c1f _ (fun e => e), ⟨rfl, oneNil⟩, ?_⟩
            | refine ⟨⟨[q.f], [], [], [], []⟩, fun ids => c2f _ (fun e => e), ⟨rfl, oneNil⟩, ?_⟩
            | refine ⟨⟨[p.t], [], [], [], []⟩, fun ids => c1t _ (fun e => e), ⟨rfl, oneNil⟩, ?_⟩
            | refine ⟨⟨[q.t], [], [], [], []⟩, fun ids => c2t _ (fun e => e), ⟨rfl, oneNil⟩, ?_⟩
            | refine br_f (show (p.f != q.f) = false by simp [ef]) ?_
            | refine br_t (show (p.t != q.t) = true by simpa using et) (n1 (dt et) fun _ => rfl))
      · repeat' (first
          | refine par_i ?_ ?_
          | refine ⟨⟨[p.f], [], [], [], []⟩, fun ids => c1f _ (fun e => e), ⟨rfl, oneNil⟩, ?_⟩
          | refine ⟨⟨[q.f], [], [], [], []⟩, fun ids => c2f _ (fun e => e), ⟨rfl, oneNil⟩, ?_⟩
          | refine need_i (nd1 rfl rfl rfl) ?_
          | refine need_i (nd2 rfl rfl rfl) ?_
          | refine br_t (show (p.f != q.f) = true by simpa using ef) (n1 (df ef) fun _ => rfl))
    · refine br_f (show decide ((k : Int) < (xs.length : Int)) = false by simpa using hk) (pure_done fun _ => ?_)
      have : xs.map Pk.d = ys.map Pk.d := by rw [List.take_of_length_le (by omega), List.take_of_length_le (by omega)] at htk; exact htk
      rw [decide_eq_true this]; rfl
  · refine br_t (show ((xs.length : Int) != (ys.length : Int)) = true by simp; omega) (pure_done fun _ => ?_)
    rw [decide_eq_false (fun q => hlen (by have := congrArg List.length q; simpa using this))]; rfl
end Go.Proofs.Yteeecfdcebcbbaa
