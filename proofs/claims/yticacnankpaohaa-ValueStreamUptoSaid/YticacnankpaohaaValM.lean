/- Merged from XValU XVal3 XVal4 XVal5 XVL1. -/
import Derived.Test.YticacnankpaohaaEng28
import Derived.Test.YticacnankpaohaaTab
import Derived.KernelRfl
import Derived.Test.YticacnankpaohaaVal2
import Derived.Test.YticacnankpaohaaDat
/- More trees of layer 6. -/
namespace Go.Proofs.Yticacnankpaohaa
open Go.Eng
set_option maxRecDepth 100000 in
theorem tWrite : (runF ⟨tt, fns, { loops := [(3, ⟨[(21, .int .i64)], [0]⟩), (9, ⟨[(38, .int .i64)], [0]⟩)], touch := [(42, [0]), (24, [0])], ret := [(42, .one (.lf (.is (.ptr 0 0))))] }⟩ (Try.f23.body.getD .skip) Try.f23.results.toList (entry Try.f23.ntmps [.lf (.ptr 0 0), .agg [.int .i64 (.var 0), .sl 0 (.var 0) (.var 1), .sl 1 (.var 2) (.var 3)]] [(77, [.sl 2 (.var 4) (.var 5)])] ⟨1, 0, 0, 6, 3⟩)) =
  (.call 42 [(.lf (.ptr 0 0)), (.lf (.int .u64 (.conv .u64 (.var 0))))] ⟨[(77, [(.sl 2 (.var 4) (.var 5))]), (25, [(.int .i64 (.var 0)), (.sl 0 (.var 0) (.var 1)), (.sl 1 (.var 2) (.var 3))])], ⟨1, 0, 0, 6, 3⟩⟩ (.lf (.ptr 0 0)) ⟨[(77, [(.sl 3 (.var 6) (.var 7))]), (25, [(.int .i64 (.var 0)), (.sl 0 (.var 0) (.var 1)), (.sl 1 (.var 2) (.var 3))])], ⟨1, 0, 0, 8, 4⟩⟩ (.call 42 [(.lf (.ptr 0 0)), (.lf (.int .u64 (.conv .u64 (.nat 0))))] ⟨[(77, [(.sl 3 (.var 6) (.var 7))]), (25, [(.int .i64 (.var 0)), (.sl 0 (.var 0) (.var 1)), (.sl 1 (.var 2) (.var 3))])], ⟨1, 0, 0, 8, 4⟩⟩ (.lf (.ptr 0 0)) ⟨[(77, [(.sl 4 (.var 8) (.var 9))]), (25, [(.int .i64 (.var 0)), (.sl 0 (.var 0) (.var 1)), (.sl 1 (.var 2) (.var 3))])], ⟨1, 0, 0, 10, 5⟩⟩ (.loop 3 ⟨[(.lit 0)], [], [], [(.var 8), (.var 9)], [(.var 4)]⟩ ⟨[(77, [(.sl 4 (.var 8) (.var 9))]), (25, [(.int .i64 (.var 0)), (.sl 0 (.var 0) (.var 1)), (.sl 1 (.var 2) (.var 3))])], ⟨1, 0, 0, 10, 5⟩⟩ ⟨[(77, [(.sl 5 (.var 10) (.var 11))]), (25, [(.int .i64 (.var 0)), (.sl 0 (.var 0) (.var 1)), (.sl 1 (.var 2) (.var 3))])], ⟨2, 0, 0, 12, 6⟩⟩ (.br (.cmp .lss (.var 1) (.nat 0)) (.need (.inb 0 (.var 1) (.nat 0)) (.ld .false (.adr 0 (.var 1) 8 0) [(.int .i64 (.var 2)), (.int .i64 (.var 3)), (.int .i64 (.var 4)), (.int .i64 (.var 5)), (.int .i64 (.var 6)), (.int .i64 (.var 7)), (.int .i64 (.var 8)), (.int .i64 (.var 9))] ⟨[(77, [(.sl 5 (.var 10) (.var 11))]), (25, [(.int .i64 (.var 0)), (.sl 0 (.var 0) (.var 1)), (.sl 1 (.var 2) (.var 3))])], ⟨2, 0, 0, 12, 6⟩⟩ ⟨[(77, [(.sl 5 (.var 10) (.var 11))]), (25, [(.int .i64 (.var 0)), (.sl 0 (.var 0) (.var 1)), (.sl 1 (.var 2) (.var 3))])], ⟨10, 0, 0, 12, 6⟩⟩ (.call 24 [(.lf (.ptr 0 0)), (.agg [(.int .i64 (.var 2)), (.int .i64 (.var 3)), (.int .i64 (.var 4)), (.int .i64 (.var 5)), (.int .i64 (.var 6)), (.int .i64 (.var 7)), (.int .i64 (.var 8)), (.int .i64 (.var 9))])] ⟨[(77, [(.sl 5 (.var 10) (.var 11))]), (25, [(.int .i64 (.var 0)), (.sl 0 (.var 0) (.var 1)), (.sl 1 (.var 2) (.var 3))]), (29, [(.int .i64 (.var 2)), (.int .i64 (.var 3)), (.int .i64 (.var 4)), (.int .i64 (.var 5)), (.int .i64 (.var 6)), (.int .i64 (.var 7)), (.int .i64 (.var 8)), (.int .i64 (.var 9))])], ⟨10, 0, 0, 12, 6⟩⟩ (.tup []) ⟨[(77, [(.sl 6 (.var 12) (.var 13))]), (25, [(.int .i64 (.var 0)), (.sl 0 (.var 0) (.var 1)), (.sl 1 (.var 2) (.var 3))]), (29, [(.int .i64 (.var 2)), (.int .i64 (.var 3)), (.int .i64 (.var 4)), (.int .i64 (.var 5)), (.int .i64 (.var 6)), (.int .i64 (.var 7)), (.int .i64 (.var 8)), (.int .i64 (.var 9))])], ⟨10, 0, 0, 14, 7⟩⟩ (.again 3 ⟨[(.op .add .i64 (.var 1) (.lit 1))], [], [], [(.var 12), (.var 13)], [(.var 6)]⟩ ⟨[(77, [(.sl 6 (.var 12) (.var 13))]), (25, [(.int .i64 (.var 0)), (.sl 0 (.var 0) (.var 1)), (.sl 1 (.var 2) (.var 3))]), (29, [(.int .i64 (.var 2)), (.int .i64 (.var 3)), (.int .i64 (.var 4)), (.int .i64 (.var 5)), (.int .i64 (.var 6)), (.int .i64 (.var 7)), (.int .i64 (.var 8)), (.int .i64 (.var 9))])], ⟨10, 0, 0, 14, 7⟩⟩)))) (.call 42 [(.lf (.ptr 0 0)), (.lf (.int .u64 (.conv .u64 (.nat 2))))] ⟨[(77, [(.sl 5 (.var 10) (.var 11))]), (25, [(.int .i64 (.var 0)), (.sl 0 (.var 0) (.var 1)), (.sl 1 (.var 2) (.var 3))])], ⟨2, 0, 0, 12, 6⟩⟩ (.lf (.ptr 0 0)) ⟨[(77, [(.sl 6 (.var 12) (.var 13))]), (25, [(.int .i64 (.var 0)), (.sl 0 (.var 0) (.var 1)), (.sl 1 (.var 2) (.var 3))])], ⟨2, 0, 0, 14, 7⟩⟩ (.loop 9 ⟨[(.lit 0)], [], [], [(.var 12), (.var 13)], [(.var 6)]⟩ ⟨[(77, [(.sl 6 (.var 12) (.var 13))]), (25, [(.int .i64 (.var 0)), (.sl 0 (.var 0) (.var 1)), (.sl 1 (.var 2) (.var 3))])], ⟨2, 0, 0, 14, 7⟩⟩ ⟨[(77, [(.sl 7 (.var 14) (.var 15))]), (25, [(.int .i64 (.var 0)), (.sl 0 (.var 0) (.var 1)), (.sl 1 (.var 2) (.var 3))])], ⟨3, 0, 0, 16, 8⟩⟩ (.br (.cmp .lss (.var 2) (.nat 2)) (.need (.inb 1 (.var 2) (.nat 2)) (.ld .false (.adr 1 (.var 2) 1 0) [(.int .i64 (.var 3))] ⟨[(77, [(.sl 7 (.var 14) (.var 15))]), (25, [(.int .i64 (.var 0)), (.sl 0 (.var 0) (.var 1)), (.sl 1 (.var 2) (.var 3))])], ⟨3, 0, 0, 16, 8⟩⟩ ⟨[(77, [(.sl 7 (.var 14) (.var 15))]), (25, [(.int .i64 (.var 0)), (.sl 0 (.var 0) (.var 1)), (.sl 1 (.var 2) (.var 3))])], ⟨4, 0, 0, 16, 8⟩⟩ (.call 42 [(.lf (.ptr 0 0)), (.lf (.int .u64 (.conv .u64 (.var 3))))] ⟨[(77, [(.sl 7 (.var 14) (.var 15))]), (25, [(.int .i64 (.var 0)), (.sl 0 (.var 0) (.var 1)), (.sl 1 (.var 2) (.var 3))])], ⟨4, 0, 0, 16, 8⟩⟩ (.lf (.ptr 0 0)) ⟨[(77, [(.sl 8 (.var 16) (.var 17))]), (25, [(.int .i64 (.var 0)), (.sl 0 (.var 0) (.var 1)), (.sl 1 (.var 2) (.var 3))])], ⟨4, 0, 0, 18, 9⟩⟩ (.again 9 ⟨[(.op .add .i64 (.var 2) (.lit 1))], [], [], [(.var 16), (.var 17)], [(.var 8)]⟩ ⟨[(77, [(.sl 8 (.var 16) (.var 17))]), (25, [(.int .i64 (.var 0)), (.sl 0 (.var 0) (.var 1)), (.sl 1 (.var 2) (.var 3))])], ⟨4, 0, 0, 18, 9⟩⟩)))) (.done (.tup []) ⟨[(77, [(.sl 7 (.var 14) (.var 15))]), (25, [(.int .i64 (.var 0)), (.sl 0 (.var 0) (.var 1)), (.sl 1 (.var 2) (.var 3))])], ⟨3, 0, 0, 16, 8⟩⟩)))))))) := by kernel_rfl
set_option maxRecDepth 100000 in
theorem tEncode : (runF ⟨tt, fns, { touch := [(23, [0])], ret := [(22, .one (.newp 77 [.is .nilsl]))] }⟩ (Try.f15.body.getD .skip) Try.f15.results.toList (entry Try.f15.ntmps [.agg [.int .i64 (.var 0), .sl 0 (.var 0) (.var 1), .sl 1 (.var 2) (.var 3)]] [] ⟨1, 0, 0, 4, 2⟩)) =
  (.call 10 [(.agg [(.int .i64 (.var 0)), (.sl 0 (.var 0) (.var 1)), (.sl 1 (.var 2) (.var 3))])] ⟨[(25, [(.int .i64 (.var 0)), (.sl 0 (.var 0) (.var 1)), (.sl 1 (.var 2) (.var 3))])], ⟨1, 0, 0, 4, 2⟩⟩ (.lf (.int .i64 (.var 1))) ⟨[(25, [(.int .i64 (.var 0)), (.sl 0 (.var 0) (.var 1)), (.sl 1 (.var 2) (.var 3))])], ⟨2, 0, 0, 4, 2⟩⟩ (.br (.cmp .neq (.var 1) (.lit 0)) (.done (.tup [(.false, [.nilsl]), (.false, [(.int .i64 (.var 1))])]) ⟨[(25, [(.int .i64 (.var 0)), (.sl 0 (.var 0) (.var 1)), (.sl 1 (.var 2) (.var 3))])], ⟨2, 0, 0, 4, 2⟩⟩) (.call 22 [] ⟨[(25, [(.int .i64 (.var 0)), (.sl 0 (.var 0) (.var 1)), (.sl 1 (.var 2) (.var 3))])], ⟨2, 0, 0, 4, 2⟩⟩ (.lf (.ptr 1 0)) ⟨[(25, [(.int .i64 (.var 0)), (.sl 0 (.var 0) (.var 1)), (.sl 1 (.var 2) (.var 3))]), (77, [.nilsl])], ⟨2, 0, 0, 4, 2⟩⟩ (.call 23 [(.lf (.ptr 1 0)), (.agg [(.int .i64 (.var 0)), (.sl 0 (.var 0) (.var 1)), (.sl 1 (.var 2) (.var 3))])] ⟨[(25, [(.int .i64 (.var 0)), (.sl 0 (.var 0) (.var 1)), (.sl 1 (.var 2) (.var 3))]), (77, [.nilsl])], ⟨2, 0, 0, 4, 2⟩⟩ (.tup []) ⟨[(25, [(.int .i64 (.var 0)), (.sl 0 (.var 0) (.var 1)), (.sl 1 (.var 2) (.var 3))]), (77, [(.sl 2 (.var 4) (.var 5))])], ⟨2, 0, 0, 6, 3⟩⟩ (.call 26 [(.lf (.ptr 1 0))] ⟨[(25, [(.int .i64 (.var 0)), (.sl 0 (.var 0) (.var 1)), (.sl 1 (.var 2) (.var 3))]), (77, [(.sl 2 (.var 4) (.var 5))])], ⟨2, 0, 0, 6, 3⟩⟩ (.lf (.sl 3 (.var 6) (.var 7))) ⟨[(25, [(.int .i64 (.var 0)), (.sl 0 (.var 0) (.var 1)), (.sl 1 (.var 2) (.var 3))]), (77, [(.sl 2 (.var 4) (.var 5))])], ⟨2, 0, 0, 8, 4⟩⟩ (.done (.tup [(.false, [(.sl 3 (.var 6) (.var 7))]), (.false, [(.int .i64 (.lit 0))])]) ⟨[(25, [(.int .i64 (.var 0)), (.sl 0 (.var 0) (.var 1)), (.sl 1 (.var 2) (.var 3))]), (77, [(.sl 2 (.var 4) (.var 5))])], ⟨2, 0, 0, 8, 4⟩⟩)))))) := by kernel_rfl
set_option maxRecDepth 100000 in
theorem tRBytes : (runF ⟨tt, fns, { loops := [(4, ⟨[(20, .int .i64), (3, .sl)], []⟩), (10, ⟨[(42, .int .i64), (3, .sl)], []⟩)] }⟩ (Try.f17.body.getD .skip) Try.f17.results.toList (entry Try.f17.ntmps [.agg [.int .i64 (.var 0), .sl 0 (.var 0) (.var 1), .sl 1 (.var 2) (.var 3)]] [] ⟨1, 0, 0, 4, 2⟩)) =
  (.call 38 [(.lf (.int .u64 (.conv .u64 (.var 0))))] ⟨[(25, [(.int .i64 (.var 0)), (.sl 0 (.var 0) (.var 1)), (.sl 1 (.var 2) (.var 3))])], ⟨1, 0, 0, 4, 2⟩⟩ (.lf (.sl 2 (.var 4) (.var 5))) ⟨[(25, [(.int .i64 (.var 0)), (.sl 0 (.var 0) (.var 1)), (.sl 1 (.var 2) (.var 3))])], ⟨1, 0, 0, 6, 3⟩⟩ (.call 38 [(.lf (.int .u64 (.conv .u64 (.nat 0))))] ⟨[(25, [(.int .i64 (.var 0)), (.sl 0 (.var 0) (.var 1)), (.sl 1 (.var 2) (.var 3))])], ⟨1, 0, 0, 6, 3⟩⟩ (.lf (.sl 3 (.var 6) (.var 7))) ⟨[(25, [(.int .i64 (.var 0)), (.sl 0 (.var 0) (.var 1)), (.sl 1 (.var 2) (.var 3))])], ⟨1, 0, 0, 8, 4⟩⟩ (.gen (.call ⟨(.builtin .append), #[(.tmp 10), (.tmp 15)], #[38, 38]⟩) 38 [(10, (.lf (.sl 2 (.var 4) (.var 5)))), (15, (.lf (.sl 3 (.var 6) (.var 7))))] ⟨[(25, [(.int .i64 (.var 0)), (.sl 0 (.var 0) (.var 1)), (.sl 1 (.var 2) (.var 3))])], ⟨1, 0, 0, 8, 4⟩⟩ (.some (.lf (.sl 4 (.var 8) (.var 9)))) ⟨[(25, [(.int .i64 (.var 0)), (.sl 0 (.var 0) (.var 1)), (.sl 1 (.var 2) (.var 3))])], ⟨1, 0, 0, 10, 5⟩⟩ (.loop 4 ⟨[(.lit 0)], [], [], [(.var 8), (.var 9)], [(.var 4)]⟩ ⟨[(25, [(.int .i64 (.var 0)), (.sl 0 (.var 0) (.var 1)), (.sl 1 (.var 2) (.var 3))])], ⟨1, 0, 0, 10, 5⟩⟩ ⟨[(25, [(.int .i64 (.var 0)), (.sl 0 (.var 0) (.var 1)), (.sl 1 (.var 2) (.var 3))])], ⟨2, 0, 0, 12, 6⟩⟩ (.br (.cmp .lss (.var 1) (.nat 0)) (.need (.inb 0 (.var 1) (.nat 0)) (.ld .false (.adr 0 (.var 1) 8 0) [(.int .i64 (.var 2)), (.int .i64 (.var 3)), (.int .i64 (.var 4)), (.int .i64 (.var 5)), (.int .i64 (.var 6)), (.int .i64 (.var 7)), (.int .i64 (.var 8)), (.int .i64 (.var 9))] ⟨[(25, [(.int .i64 (.var 0)), (.sl 0 (.var 0) (.var 1)), (.sl 1 (.var 2) (.var 3))])], ⟨2, 0, 0, 12, 6⟩⟩ ⟨[(25, [(.int .i64 (.var 0)), (.sl 0 (.var 0) (.var 1)), (.sl 1 (.var 2) (.var 3))])], ⟨10, 0, 0, 12, 6⟩⟩ (.call 25 [(.agg [(.int .i64 (.var 2)), (.int .i64 (.var 3)), (.int .i64 (.var 4)), (.int .i64 (.var 5)), (.int .i64 (.var 6)), (.int .i64 (.var 7)), (.int .i64 (.var 8)), (.int .i64 (.var 9))])] ⟨[(25, [(.int .i64 (.var 0)), (.sl 0 (.var 0) (.var 1)), (.sl 1 (.var 2) (.var 3))])], ⟨10, 0, 0, 12, 6⟩⟩ (.lf (.sl 6 (.var 12) (.var 13))) ⟨[(25, [(.int .i64 (.var 0)), (.sl 0 (.var 0) (.var 1)), (.sl 1 (.var 2) (.var 3))])], ⟨10, 0, 0, 14, 7⟩⟩ (.gen (.call ⟨(.builtin .append), #[(.tmp 23), (.tmp 29)], #[38, 38]⟩) 38 [(23, (.lf (.sl 5 (.var 10) (.var 11)))), (29, (.lf (.sl 6 (.var 12) (.var 13))))] ⟨[(25, [(.int .i64 (.var 0)), (.sl 0 (.var 0) (.var 1)), (.sl 1 (.var 2) (.var 3))])], ⟨10, 0, 0, 14, 7⟩⟩ (.some (.lf (.sl 7 (.var 14) (.var 15)))) ⟨[(25, [(.int .i64 (.var 0)), (.sl 0 (.var 0) (.var 1)), (.sl 1 (.var 2) (.var 3))])], ⟨10, 0, 0, 16, 8⟩⟩ (.again 4 ⟨[(.op .add .i64 (.var 1) (.lit 1))], [], [], [(.var 14), (.var 15)], [(.var 7)]⟩ ⟨[(25, [(.int .i64 (.var 0)), (.sl 0 (.var 0) (.var 1)), (.sl 1 (.var 2) (.var 3))])], ⟨10, 0, 0, 16, 8⟩⟩))))) (.call 38 [(.lf (.int .u64 (.conv .u64 (.nat 2))))] ⟨[(25, [(.int .i64 (.var 0)), (.sl 0 (.var 0) (.var 1)), (.sl 1 (.var 2) (.var 3))])], ⟨2, 0, 0, 12, 6⟩⟩ (.lf (.sl 6 (.var 12) (.var 13))) ⟨[(25, [(.int .i64 (.var 0)), (.sl 0 (.var 0) (.var 1)), (.sl 1 (.var 2) (.var 3))])], ⟨2, 0, 0, 14, 7⟩⟩ (.gen (.call ⟨(.builtin .append), #[(.tmp 32), (.tmp 37)], #[38, 38]⟩) 38 [(32, (.lf (.sl 5 (.var 10) (.var 11)))), (37, (.lf (.sl 6 (.var 12) (.var 13))))] ⟨[(25, [(.int .i64 (.var 0)), (.sl 0 (.var 0) (.var 1)), (.sl 1 (.var 2) (.var 3))])], ⟨2, 0, 0, 14, 7⟩⟩ (.some (.lf (.sl 7 (.var 14) (.var 15)))) ⟨[(25, [(.int .i64 (.var 0)), (.sl 0 (.var 0) (.var 1)), (.sl 1 (.var 2) (.var 3))])], ⟨2, 0, 0, 16, 8⟩⟩ (.loop 10 ⟨[(.lit 0)], [], [], [(.var 14), (.var 15)], [(.var 7)]⟩ ⟨[(25, [(.int .i64 (.var 0)), (.sl 0 (.var 0) (.var 1)), (.sl 1 (.var 2) (.var 3))])], ⟨2, 0, 0, 16, 8⟩⟩ ⟨[(25, [(.int .i64 (.var 0)), (.sl 0 (.var 0) (.var 1)), (.sl 1 (.var 2) (.var 3))])], ⟨3, 0, 0, 18, 9⟩⟩ (.br (.cmp .lss (.var 2) (.nat 2)) (.need (.inb 1 (.var 2) (.nat 2)) (.ld .false (.adr 1 (.var 2) 1 0) [(.int .i64 (.var 3))] ⟨[(25, [(.int .i64 (.var 0)), (.sl 0 (.var 0) (.var 1)), (.sl 1 (.var 2) (.var 3))])], ⟨3, 0, 0, 18, 9⟩⟩ ⟨[(25, [(.int .i64 (.var 0)), (.sl 0 (.var 0) (.var 1)), (.sl 1 (.var 2) (.var 3))])], ⟨4, 0, 0, 18, 9⟩⟩ (.call 38 [(.lf (.int .u64 (.conv .u64 (.var 3))))] ⟨[(25, [(.int .i64 (.var 0)), (.sl 0 (.var 0) (.var 1)), (.sl 1 (.var 2) (.var 3))])], ⟨4, 0, 0, 18, 9⟩⟩ (.lf (.sl 9 (.var 18) (.var 19))) ⟨[(25, [(.int .i64 (.var 0)), (.sl 0 (.var 0) (.var 1)), (.sl 1 (.var 2) (.var 3))])], ⟨4, 0, 0, 20, 10⟩⟩ (.gen (.call ⟨(.builtin .append), #[(.tmp 45), (.tmp 52)], #[38, 38]⟩) 38 [(45, (.lf (.sl 8 (.var 16) (.var 17)))), (52, (.lf (.sl 9 (.var 18) (.var 19))))] ⟨[(25, [(.int .i64 (.var 0)), (.sl 0 (.var 0) (.var 1)), (.sl 1 (.var 2) (.var 3))])], ⟨4, 0, 0, 20, 10⟩⟩ (.some (.lf (.sl 10 (.var 20) (.var 21)))) ⟨[(25, [(.int .i64 (.var 0)), (.sl 0 (.var 0) (.var 1)), (.sl 1 (.var 2) (.var 3))])], ⟨4, 0, 0, 22, 11⟩⟩ (.again 10 ⟨[(.op .add .i64 (.var 2) (.lit 1))], [], [], [(.var 20), (.var 21)], [(.var 10)]⟩ ⟨[(25, [(.int .i64 (.var 0)), (.sl 0 (.var 0) (.var 1)), (.sl 1 (.var 2) (.var 3))])], ⟨4, 0, 0, 22, 11⟩⟩))))) (.done (.lf (.sl 8 (.var 16) (.var 17))) ⟨[(25, [(.int .i64 (.var 0)), (.sl 0 (.var 0) (.var 1)), (.sl 1 (.var 2) (.var 3))])], ⟨3, 0, 0, 18, 9⟩⟩)))))))))) := by kernel_rfl
set_option maxRecDepth 100000 in
theorem tRead : (runF ⟨tt, fns, { loops := [(3, ⟨[(9, .int .i64)], [0, 2]⟩), (7, ⟨[(21, .int .i64)], [0, 2]⟩)], touch := [(45, [0]), (29, [0])] }⟩ (Try.f28.body.getD .skip) Try.f28.results.toList (entry Try.f28.ntmps [.lf (.ptr 0 0)] [(83, [.sl 0 (.var 0) (.var 1), .int .i64 (.var 0), .int .i64 (.var 1)])] ⟨2, 0, 0, 2, 1⟩)) =
  (.call 45 [(.lf (.ptr 0 0)), (.lf (.int .i64 (.lit 2)))] ⟨[(83, [(.sl 0 (.var 0) (.var 1)), (.int .i64 (.var 0)), (.int .i64 (.var 1))]), (25, [(.int .i64 (.lit 0)), .nilsl, .nilsl])], ⟨2, 0, 0, 2, 1⟩⟩ (.lf (.int .i64 (.var 4))) ⟨[(83, [(.sl 1 (.var 2) (.var 3)), (.int .i64 (.var 2)), (.int .i64 (.var 3))]), (25, [(.int .i64 (.lit 0)), .nilsl, .nilsl])], ⟨5, 0, 0, 4, 2⟩⟩ (.call 45 [(.lf (.ptr 0 0)), (.lf (.int .i64 (.lit 8)))] ⟨[(83, [(.sl 1 (.var 2) (.var 3)), (.int .i64 (.var 2)), (.int .i64 (.var 3))]), (25, [(.int .i64 (.lit 0)), .nilsl, .nilsl]), (25, [(.int .i64 (.var 4)), .nilsl, .nilsl])], ⟨5, 0, 0, 4, 2⟩⟩ (.lf (.int .i64 (.var 7))) ⟨[(83, [(.sl 2 (.var 4) (.var 5)), (.int .i64 (.var 5)), (.int .i64 (.var 6))]), (25, [(.int .i64 (.lit 0)), .nilsl, .nilsl]), (25, [(.int .i64 (.var 4)), .nilsl, .nilsl])], ⟨8, 0, 0, 6, 3⟩⟩ (.loop 3 ⟨[(.lit 0), (.var 5), (.var 6), (.var 4)], [], [], [(.var 4), (.var 5), (.lit 0), (.lit 0), (.lit 0), (.lit 0)], [(.var 2), .nil, .nil]⟩ ⟨[(83, [(.sl 2 (.var 4) (.var 5)), (.int .i64 (.var 5)), (.int .i64 (.var 6))]), (25, [(.int .i64 (.lit 0)), .nilsl, .nilsl]), (25, [(.int .i64 (.var 4)), .nilsl, .nilsl])], ⟨8, 0, 0, 6, 3⟩⟩ ⟨[(83, [(.sl 3 (.var 6) (.var 7)), (.int .i64 (.var 9)), (.int .i64 (.var 10))]), (25, [(.int .i64 (.lit 0)), .nilsl, .nilsl]), (25, [(.int .i64 (.var 11)), (.sl 4 (.var 8) (.var 9)), (.sl 5 (.var 10) (.var 11))])], ⟨12, 0, 0, 12, 6⟩⟩ (.br (.cmp .lss (.var 8) (.var 7)) (.par (.call 29 [(.lf (.ptr 0 0))] ⟨[(83, [(.sl 3 (.var 6) (.var 7)), (.int .i64 (.var 9)), (.int .i64 (.var 10))]), (25, [(.int .i64 (.lit 0)), .nilsl, .nilsl]), (25, [(.int .i64 (.var 11)), (.sl 4 (.var 8) (.var 9)), (.sl 5 (.var 10) (.var 11))])], ⟨12, 0, 0, 12, 6⟩⟩ (.agg [(.int .i64 (.var 14)), (.int .i64 (.var 15)), (.int .i64 (.var 16)), (.int .i64 (.var 17)), (.int .i64 (.var 18)), (.int .i64 (.var 19)), (.int .i64 (.var 20)), (.int .i64 (.var 21))]) ⟨[(83, [(.sl 6 (.var 12) (.var 13)), (.int .i64 (.var 12)), (.int .i64 (.var 13))]), (25, [(.int .i64 (.lit 0)), .nilsl, .nilsl]), (25, [(.int .i64 (.var 11)), (.sl 4 (.var 8) (.var 9)), (.sl 5 (.var 10) (.var 11))])], ⟨22, 0, 0, 14, 7⟩⟩ (.gen (.call ⟨(.builtin .append), #[(.tmp 12), (.tmp 15)], #[22, 22]⟩) 22 [(12, (.lf (.sl 4 (.var 8) (.var 9)))), (15, (.lf (.nsl 3 0 1 1)))] ⟨[(83, [(.sl 6 (.var 12) (.var 13)), (.int .i64 (.var 12)), (.int .i64 (.var 13))]), (25, [(.int .i64 (.lit 0)), .nilsl, .nilsl]), (25, [(.int .i64 (.var 11)), (.sl 4 (.var 8) (.var 9)), (.sl 5 (.var 10) (.var 11))]), (29, [(.int .i64 (.var 14)), (.int .i64 (.var 15)), (.int .i64 (.var 16)), (.int .i64 (.var 17)), (.int .i64 (.var 18)), (.int .i64 (.var 19)), (.int .i64 (.var 20)), (.int .i64 (.var 21))])], ⟨22, 0, 0, 14, 7⟩⟩ (.some (.lf (.sl 7 (.var 14) (.var 15)))) ⟨[(83, [(.sl 6 (.var 12) (.var 13)), (.int .i64 (.var 12)), (.int .i64 (.var 13))]), (25, [(.int .i64 (.lit 0)), .nilsl, .nilsl]), (25, [(.int .i64 (.var 11)), (.sl 4 (.var 8) (.var 9)), (.sl 5 (.var 10) (.var 11))]), (29, [(.int .i64 (.var 14)), (.int .i64 (.var 15)), (.int .i64 (.var 16)), (.int .i64 (.var 17)), (.int .i64 (.var 18)), (.int .i64 (.var 19)), (.int .i64 (.var 20)), (.int .i64 (.var 21))])], ⟨22, 0, 0, 16, 8⟩⟩ (.again 3 ⟨[(.op .add .i64 (.var 8) (.lit 1)), (.var 12), (.var 13), (.var 11)], [], [], [(.var 12), (.var 13), (.var 14), (.var 15), (.var 10), (.var 11)], [(.var 6), (.var 7), (.var 5)]⟩ ⟨[(83, [(.sl 6 (.var 12) (.var 13)), (.int .i64 (.var 12)), (.int .i64 (.var 13))]), (25, [(.int .i64 (.lit 0)), .nilsl, .nilsl]), (25, [(.int .i64 (.var 11)), (.sl 7 (.var 14) (.var 15)), (.sl 5 (.var 10) (.var 11))]), (29, [(.int .i64 (.var 14)), (.int .i64 (.var 15)), (.int .i64 (.var 16)), (.int .i64 (.var 17)), (.int .i64 (.var 18)), (.int .i64 (.var 19)), (.int .i64 (.var 20)), (.int .i64 (.var 21))])], ⟨22, 0, 0, 16, 8⟩⟩))) (.call 29 [(.lf (.ptr 0 0))] ⟨[(83, [(.sl 3 (.var 6) (.var 7)), (.int .i64 (.var 9)), (.int .i64 (.var 10))]), (25, [(.int .i64 (.lit 0)), .nilsl, .nilsl]), (25, [(.int .i64 (.var 11)), (.sl 4 (.var 8) (.var 9)), (.sl 5 (.var 10) (.var 11))])], ⟨12, 0, 0, 12, 6⟩⟩ (.agg [(.int .i64 (.var 14)), (.int .i64 (.var 15)), (.int .i64 (.var 16)), (.int .i64 (.var 17)), (.int .i64 (.var 18)), (.int .i64 (.var 19)), (.int .i64 (.var 20)), (.int .i64 (.var 21))]) ⟨[(83, [(.sl 6 (.var 12) (.var 13)), (.int .i64 (.var 12)), (.int .i64 (.var 13))]), (25, [(.int .i64 (.lit 0)), .nilsl, .nilsl]), (25, [(.int .i64 (.var 11)), (.sl 4 (.var 8) (.var 9)), (.sl 5 (.var 10) (.var 11))])], ⟨22, 0, 0, 14, 7⟩⟩ (.par (.gen (.call ⟨(.builtin .append), #[(.tmp 12), (.tmp 15)], #[22, 22]⟩) 22 [(12, (.lf (.sl 4 (.var 8) (.var 9)))), (15, (.lf (.nsl 3 0 1 1)))] ⟨[(83, [(.sl 6 (.var 12) (.var 13)), (.int .i64 (.var 12)), (.int .i64 (.var 13))]), (25, [(.int .i64 (.lit 0)), .nilsl, .nilsl]), (25, [(.int .i64 (.var 11)), (.sl 4 (.var 8) (.var 9)), (.sl 5 (.var 10) (.var 11))]), (29, [(.int .i64 (.var 14)), (.int .i64 (.var 15)), (.int .i64 (.var 16)), (.int .i64 (.var 17)), (.int .i64 (.var 18)), (.int .i64 (.var 19)), (.int .i64 (.var 20)), (.int .i64 (.var 21))])], ⟨22, 0, 0, 14, 7⟩⟩ (.some (.lf (.sl 7 (.var 14) (.var 15)))) ⟨[(83, [(.sl 6 (.var 12) (.var 13)), (.int .i64 (.var 12)), (.int .i64 (.var 13))]), (25, [(.int .i64 (.lit 0)), .nilsl, .nilsl]), (25, [(.int .i64 (.var 11)), (.sl 4 (.var 8) (.var 9)), (.sl 5 (.var 10) (.var 11))]), (29, [(.int .i64 (.var 14)), (.int .i64 (.var 15)), (.int .i64 (.var 16)), (.int .i64 (.var 17)), (.int .i64 (.var 18)), (.int .i64 (.var 19)), (.int .i64 (.var 20)), (.int .i64 (.var 21))])], ⟨22, 0, 0, 16, 8⟩⟩ (.again 3 ⟨[(.op .add .i64 (.var 8) (.lit 1)), (.var 12), (.var 13), (.var 11)], [], [], [(.var 12), (.var 13), (.var 14), (.var 15), (.var 10), (.var 11)], [(.var 6), (.var 7), (.var 5)]⟩ ⟨[(83, [(.sl 6 (.var 12) (.var 13)), (.int .i64 (.var 12)), (.int .i64 (.var 13))]), (25, [(.int .i64 (.lit 0)), .nilsl, .nilsl]), (25, [(.int .i64 (.var 11)), (.sl 7 (.var 14) (.var 15)), (.sl 5 (.var 10) (.var 11))]), (29, [(.int .i64 (.var 14)), (.int .i64 (.var 15)), (.int .i64 (.var 16)), (.int .i64 (.var 17)), (.int .i64 (.var 18)), (.int .i64 (.var 19)), (.int .i64 (.var 20)), (.int .i64 (.var 21))])], ⟨22, 0, 0, 16, 8⟩⟩)) (.gen (.call ⟨(.builtin .append), #[(.tmp 12), (.tmp 15)], #[22, 22]⟩) 22 [(12, (.lf (.sl 4 (.var 8) (.var 9)))), (15, (.lf (.nsl 3 0 1 1)))] ⟨[(83, [(.sl 6 (.var 12) (.var 13)), (.int .i64 (.var 12)), (.int .i64 (.var 13))]), (25, [(.int .i64 (.lit 0)), .nilsl, .nilsl]), (25, [(.int .i64 (.var 11)), (.sl 4 (.var 8) (.var 9)), (.sl 5 (.var 10) (.var 11))]), (29, [(.int .i64 (.var 14)), (.int .i64 (.var 15)), (.int .i64 (.var 16)), (.int .i64 (.var 17)), (.int .i64 (.var 18)), (.int .i64 (.var 19)), (.int .i64 (.var 20)), (.int .i64 (.var 21))])], ⟨22, 0, 0, 14, 7⟩⟩ (.some (.lf (.sl 7 (.var 14) (.var 15)))) ⟨[(83, [(.sl 6 (.var 12) (.var 13)), (.int .i64 (.var 12)), (.int .i64 (.var 13))]), (25, [(.int .i64 (.lit 0)), .nilsl, .nilsl]), (25, [(.int .i64 (.var 11)), (.sl 4 (.var 8) (.var 9)), (.sl 5 (.var 10) (.var 11))]), (29, [(.int .i64 (.var 14)), (.int .i64 (.var 15)), (.int .i64 (.var 16)), (.int .i64 (.var 17)), (.int .i64 (.var 18)), (.int .i64 (.var 19)), (.int .i64 (.var 20)), (.int .i64 (.var 21))])], ⟨22, 0, 0, 16, 8⟩⟩ (.again 3 ⟨[(.op .add .i64 (.var 8) (.lit 1)), (.var 12), (.var 13), (.var 11)], [], [], [(.var 12), (.var 13), (.var 14), (.var 15), (.var 10), (.var 11)], [(.var 6), (.var 7), (.var 5)]⟩ ⟨[(83, [(.sl 6 (.var 12) (.var 13)), (.int .i64 (.var 12)), (.int .i64 (.var 13))]), (25, [(.int .i64 (.lit 0)), .nilsl, .nilsl]), (25, [(.int .i64 (.var 11)), (.sl 7 (.var 14) (.var 15)), (.sl 5 (.var 10) (.var 11))]), (29, [(.int .i64 (.var 14)), (.int .i64 (.var 15)), (.int .i64 (.var 16)), (.int .i64 (.var 17)), (.int .i64 (.var 18)), (.int .i64 (.var 19)), (.int .i64 (.var 20)), (.int .i64 (.var 21))])], ⟨22, 0, 0, 16, 8⟩⟩))))) (.call 45 [(.lf (.ptr 0 0)), (.lf (.int .i64 (.lit 7)))] ⟨[(83, [(.sl 3 (.var 6) (.var 7)), (.int .i64 (.var 9)), (.int .i64 (.var 10))]), (25, [(.int .i64 (.lit 0)), .nilsl, .nilsl]), (25, [(.int .i64 (.var 11)), (.sl 4 (.var 8) (.var 9)), (.sl 5 (.var 10) (.var 11))])], ⟨12, 0, 0, 12, 6⟩⟩ (.lf (.int .i64 (.var 14))) ⟨[(83, [(.sl 6 (.var 12) (.var 13)), (.int .i64 (.var 12)), (.int .i64 (.var 13))]), (25, [(.int .i64 (.lit 0)), .nilsl, .nilsl]), (25, [(.int .i64 (.var 11)), (.sl 4 (.var 8) (.var 9)), (.sl 5 (.var 10) (.var 11))])], ⟨15, 0, 0, 14, 7⟩⟩ (.loop 7 ⟨[(.lit 0), (.var 12), (.var 13), (.var 11)], [], [], [(.var 12), (.var 13), (.var 8), (.var 9), (.var 10), (.var 11)], [(.var 6), (.var 4), (.var 5)]⟩ ⟨[(83, [(.sl 6 (.var 12) (.var 13)), (.int .i64 (.var 12)), (.int .i64 (.var 13))]), (25, [(.int .i64 (.lit 0)), .nilsl, .nilsl]), (25, [(.int .i64 (.var 11)), (.sl 4 (.var 8) (.var 9)), (.sl 5 (.var 10) (.var 11))])], ⟨15, 0, 0, 14, 7⟩⟩ ⟨[(83, [(.sl 7 (.var 14) (.var 15)), (.int .i64 (.var 16)), (.int .i64 (.var 17))]), (25, [(.int .i64 (.lit 0)), .nilsl, .nilsl]), (25, [(.int .i64 (.var 18)), (.sl 8 (.var 16) (.var 17)), (.sl 9 (.var 18) (.var 19))])], ⟨19, 0, 0, 20, 10⟩⟩ (.br (.cmp .lss (.var 15) (.var 14)) (.par (.call 45 [(.lf (.ptr 0 0)), (.lf (.int .i64 (.lit 9)))] ⟨[(83, [(.sl 7 (.var 14) (.var 15)), (.int .i64 (.var 16)), (.int .i64 (.var 17))]), (25, [(.int .i64 (.lit 0)), .nilsl, .nilsl]), (25, [(.int .i64 (.var 18)), (.sl 8 (.var 16) (.var 17)), (.sl 9 (.var 18) (.var 19))])], ⟨19, 0, 0, 20, 10⟩⟩ (.lf (.int .i64 (.var 21))) ⟨[(83, [(.sl 10 (.var 20) (.var 21)), (.int .i64 (.var 19)), (.int .i64 (.var 20))]), (25, [(.int .i64 (.lit 0)), .nilsl, .nilsl]), (25, [(.int .i64 (.var 18)), (.sl 8 (.var 16) (.var 17)), (.sl 9 (.var 18) (.var 19))])], ⟨22, 0, 0, 22, 11⟩⟩ (.gen (.call ⟨(.builtin .append), #[(.tmp 24), (.tmp 27)], #[23, 23]⟩) 23 [(24, (.lf (.sl 9 (.var 18) (.var 19)))), (27, (.lf (.nsl 3 0 1 1)))] ⟨[(83, [(.sl 10 (.var 20) (.var 21)), (.int .i64 (.var 19)), (.int .i64 (.var 20))]), (25, [(.int .i64 (.lit 0)), .nilsl, .nilsl]), (25, [(.int .i64 (.var 18)), (.sl 8 (.var 16) (.var 17)), (.sl 9 (.var 18) (.var 19))]), (3, [(.int .i64 (.var 21))])], ⟨22, 0, 0, 22, 11⟩⟩ (.some (.lf (.sl 11 (.var 22) (.var 23)))) ⟨[(83, [(.sl 10 (.var 20) (.var 21)), (.int .i64 (.var 19)), (.int .i64 (.var 20))]), (25, [(.int .i64 (.lit 0)), .nilsl, .nilsl]), (25, [(.int .i64 (.var 18)), (.sl 8 (.var 16) (.var 17)), (.sl 9 (.var 18) (.var 19))]), (3, [(.int .i64 (.var 21))])], ⟨22, 0, 0, 24, 12⟩⟩ (.again 7 ⟨[(.op .add .i64 (.var 15) (.lit 1)), (.var 19), (.var 20), (.var 18)], [], [], [(.var 20), (.var 21), (.var 16), (.var 17), (.var 22), (.var 23)], [(.var 10), (.var 8), (.var 11)]⟩ ⟨[(83, [(.sl 10 (.var 20) (.var 21)), (.int .i64 (.var 19)), (.int .i64 (.var 20))]), (25, [(.int .i64 (.lit 0)), .nilsl, .nilsl]), (25, [(.int .i64 (.var 18)), (.sl 8 (.var 16) (.var 17)), (.sl 11 (.var 22) (.var 23))]), (3, [(.int .i64 (.var 21))])], ⟨22, 0, 0, 24, 12⟩⟩))) (.call 45 [(.lf (.ptr 0 0)), (.lf (.int .i64 (.lit 9)))] ⟨[(83, [(.sl 7 (.var 14) (.var 15)), (.int .i64 (.var 16)), (.int .i64 (.var 17))]), (25, [(.int .i64 (.lit 0)), .nilsl, .nilsl]), (25, [(.int .i64 (.var 18)), (.sl 8 (.var 16) (.var 17)), (.sl 9 (.var 18) (.var 19))])], ⟨19, 0, 0, 20, 10⟩⟩ (.lf (.int .i64 (.var 21))) ⟨[(83, [(.sl 10 (.var 20) (.var 21)), (.int .i64 (.var 19)), (.int .i64 (.var 20))]), (25, [(.int .i64 (.lit 0)), .nilsl, .nilsl]), (25, [(.int .i64 (.var 18)), (.sl 8 (.var 16) (.var 17)), (.sl 9 (.var 18) (.var 19))])], ⟨22, 0, 0, 22, 11⟩⟩ (.par (.gen (.call ⟨(.builtin .append), #[(.tmp 24), (.tmp 27)], #[23, 23]⟩) 23 [(24, (.lf (.sl 9 (.var 18) (.var 19)))), (27, (.lf (.nsl 3 0 1 1)))] ⟨[(83, [(.sl 10 (.var 20) (.var 21)), (.int .i64 (.var 19)), (.int .i64 (.var 20))]), (25, [(.int .i64 (.lit 0)), .nilsl, .nilsl]), (25, [(.int .i64 (.var 18)), (.sl 8 (.var 16) (.var 17)), (.sl 9 (.var 18) (.var 19))]), (3, [(.int .i64 (.var 21))])], ⟨22, 0, 0, 22, 11⟩⟩ (.some (.lf (.sl 11 (.var 22) (.var 23)))) ⟨[(83, [(.sl 10 (.var 20) (.var 21)), (.int .i64 (.var 19)), (.int .i64 (.var 20))]), (25, [(.int .i64 (.lit 0)), .nilsl, .nilsl]), (25, [(.int .i64 (.var 18)), (.sl 8 (.var 16) (.var 17)), (.sl 9 (.var 18) (.var 19))]), (3, [(.int .i64 (.var 21))])], ⟨22, 0, 0, 24, 12⟩⟩ (.again 7 ⟨[(.op .add .i64 (.var 15) (.lit 1)), (.var 19), (.var 20), (.var 18)], [], [], [(.var 20), (.var 21), (.var 16), (.var 17), (.var 22), (.var 23)], [(.var 10), (.var 8), (.var 11)]⟩ ⟨[(83, [(.sl 10 (.var 20) (.var 21)), (.int .i64 (.var 19)), (.int .i64 (.var 20))]), (25, [(.int .i64 (.lit 0)), .nilsl, .nilsl]), (25, [(.int .i64 (.var 18)), (.sl 8 (.var 16) (.var 17)), (.sl 11 (.var 22) (.var 23))]), (3, [(.int .i64 (.var 21))])], ⟨22, 0, 0, 24, 12⟩⟩)) (.gen (.call ⟨(.builtin .append), #[(.tmp 24), (.tmp 27)], #[23, 23]⟩) 23 [(24, (.lf (.sl 9 (.var 18) (.var 19)))), (27, (.lf (.nsl 3 0 1 1)))] ⟨[(83, [(.sl 10 (.var 20) (.var 21)), (.int .i64 (.var 19)), (.int .i64 (.var 20))]), (25, [(.int .i64 (.lit 0)), .nilsl, .nilsl]), (25, [(.int .i64 (.var 18)), (.sl 8 (.var 16) (.var 17)), (.sl 9 (.var 18) (.var 19))]), (3, [(.int .i64 (.var 21))])], ⟨22, 0, 0, 22, 11⟩⟩ (.some (.lf (.sl 11 (.var 22) (.var 23)))) ⟨[(83, [(.sl 10 (.var 20) (.var 21)), (.int .i64 (.var 19)), (.int .i64 (.var 20))]), (25, [(.int .i64 (.lit 0)), .nilsl, .nilsl]), (25, [(.int .i64 (.var 18)), (.sl 8 (.var 16) (.var 17)), (.sl 9 (.var 18) (.var 19))]), (3, [(.int .i64 (.var 21))])], ⟨22, 0, 0, 24, 12⟩⟩ (.again 7 ⟨[(.op .add .i64 (.var 15) (.lit 1)), (.var 19), (.var 20), (.var 18)], [], [], [(.var 20), (.var 21), (.var 16), (.var 17), (.var 22), (.var 23)], [(.var 10), (.var 8), (.var 11)]⟩ ⟨[(83, [(.sl 10 (.var 20) (.var 21)), (.int .i64 (.var 19)), (.int .i64 (.var 20))]), (25, [(.int .i64 (.lit 0)), .nilsl, .nilsl]), (25, [(.int .i64 (.var 18)), (.sl 8 (.var 16) (.var 17)), (.sl 11 (.var 22) (.var 23))]), (3, [(.int .i64 (.var 21))])], ⟨22, 0, 0, 24, 12⟩⟩))))) (.done (.agg [(.int .i64 (.var 18)), (.sl 8 (.var 16) (.var 17)), (.sl 9 (.var 18) (.var 19))]) ⟨[(83, [(.sl 7 (.var 14) (.var 15)), (.int .i64 (.var 16)), (.int .i64 (.var 17))]), (25, [(.int .i64 (.var 18)), (.sl 8 (.var 16) (.var 17)), (.sl 9 (.var 18) (.var 19))]), (25, [(.int .i64 (.var 18)), (.sl 8 (.var 16) (.var 17)), (.sl 9 (.var 18) (.var 19))])], ⟨19, 0, 0, 20, 10⟩⟩)))))))) := by kernel_rfl
set_option maxRecDepth 100000 in
theorem tDecode : (runF ⟨tt, fns, { touch := [(28, [0]), (30, [0])], ret := [(27, .one (.newp 83 [.sl, .int .i64, .int .i64]))] }⟩ (Try.f20.body.getD .skip) Try.f20.results.toList (entry Try.f20.ntmps [.lf (.sl 0 (.var 0) (.var 1))] [] ⟨0, 0, 0, 2, 1⟩)) =
  (.call 27 [(.lf (.sl 0 (.var 0) (.var 1)))] ⟨[(25, [(.int .i64 (.lit 0)), .nilsl, .nilsl])], ⟨0, 0, 0, 2, 1⟩⟩ (.lf (.ptr 1 0)) ⟨[(25, [(.int .i64 (.lit 0)), .nilsl, .nilsl]), (83, [(.sl 1 (.var 2) (.var 3)), (.int .i64 (.var 0)), (.int .i64 (.var 1))])], ⟨2, 0, 0, 4, 2⟩⟩ (.call 28 [(.lf (.ptr 1 0))] ⟨[(25, [(.int .i64 (.lit 0)), .nilsl, .nilsl]), (83, [(.sl 1 (.var 2) (.var 3)), (.int .i64 (.var 0)), (.int .i64 (.var 1))])], ⟨2, 0, 0, 4, 2⟩⟩ (.agg [(.int .i64 (.var 4)), (.sl 3 (.var 6) (.var 7)), (.sl 4 (.var 8) (.var 9))]) ⟨[(25, [(.int .i64 (.lit 0)), .nilsl, .nilsl]), (83, [(.sl 2 (.var 4) (.var 5)), (.int .i64 (.var 2)), (.int .i64 (.var 3))])], ⟨5, 0, 0, 10, 5⟩⟩ (.call 30 [(.lf (.ptr 1 0))] ⟨[(25, [(.int .i64 (.lit 0)), .nilsl, .nilsl]), (83, [(.sl 2 (.var 4) (.var 5)), (.int .i64 (.var 2)), (.int .i64 (.var 3))]), (25, [(.int .i64 (.var 4)), (.sl 3 (.var 6) (.var 7)), (.sl 4 (.var 8) (.var 9))])], ⟨5, 0, 0, 10, 5⟩⟩ (.lf (.int .i64 (.var 7))) ⟨[(25, [(.int .i64 (.lit 0)), .nilsl, .nilsl]), (83, [(.sl 5 (.var 10) (.var 11)), (.int .i64 (.var 5)), (.int .i64 (.var 6))]), (25, [(.int .i64 (.var 4)), (.sl 3 (.var 6) (.var 7)), (.sl 4 (.var 8) (.var 9))])], ⟨8, 0, 0, 12, 6⟩⟩ (.br (.cmp .neq (.var 7) (.lit 0)) (.done (.tup [(.true, [(.int .i64 (.lit 0)), .nilsl, .nilsl]), (.false, [(.int .i64 (.var 7))])]) ⟨[(25, [(.int .i64 (.lit 0)), .nilsl, .nilsl]), (83, [(.sl 5 (.var 10) (.var 11)), (.int .i64 (.var 5)), (.int .i64 (.var 6))]), (25, [(.int .i64 (.var 4)), (.sl 3 (.var 6) (.var 7)), (.sl 4 (.var 8) (.var 9))])], ⟨8, 0, 0, 12, 6⟩⟩) (.call 10 [(.agg [(.int .i64 (.var 4)), (.sl 3 (.var 6) (.var 7)), (.sl 4 (.var 8) (.var 9))])] ⟨[(25, [(.int .i64 (.lit 0)), .nilsl, .nilsl]), (83, [(.sl 5 (.var 10) (.var 11)), (.int .i64 (.var 5)), (.int .i64 (.var 6))]), (25, [(.int .i64 (.var 4)), (.sl 3 (.var 6) (.var 7)), (.sl 4 (.var 8) (.var 9))])], ⟨8, 0, 0, 12, 6⟩⟩ (.lf (.int .i64 (.var 8))) ⟨[(25, [(.int .i64 (.lit 0)), .nilsl, .nilsl]), (83, [(.sl 5 (.var 10) (.var 11)), (.int .i64 (.var 5)), (.int .i64 (.var 6))]), (25, [(.int .i64 (.var 4)), (.sl 3 (.var 6) (.var 7)), (.sl 4 (.var 8) (.var 9))])], ⟨9, 0, 0, 12, 6⟩⟩ (.br (.cmp .neq (.var 8) (.lit 0)) (.done (.tup [(.true, [(.int .i64 (.lit 0)), .nilsl, .nilsl]), (.false, [(.int .i64 (.var 8))])]) ⟨[(25, [(.int .i64 (.lit 0)), .nilsl, .nilsl]), (83, [(.sl 5 (.var 10) (.var 11)), (.int .i64 (.var 5)), (.int .i64 (.var 6))]), (25, [(.int .i64 (.var 4)), (.sl 3 (.var 6) (.var 7)), (.sl 4 (.var 8) (.var 9))])], ⟨9, 0, 0, 12, 6⟩⟩) (.done (.tup [(.true, [(.int .i64 (.var 4)), (.sl 3 (.var 6) (.var 7)), (.sl 4 (.var 8) (.var 9))]), (.false, [(.int .i64 (.lit 0))])]) ⟨[(25, [(.int .i64 (.var 4)), (.sl 3 (.var 6) (.var 7)), (.sl 4 (.var 8) (.var 9))]), (83, [(.sl 5 (.var 10) (.var 11)), (.int .i64 (.var 5)), (.int .i64 (.var 6))]), (25, [(.int .i64 (.var 4)), (.sl 3 (.var 6) (.var 7)), (.sl 4 (.var 8) (.var 9))])], ⟨9, 0, 0, 12, 6⟩⟩))))))) := by kernel_rfl
set_option maxRecDepth 100000 in
theorem tQTake : (runF ⟨tt, fns, { }⟩ (Try.f39.body.getD .skip) Try.f39.results.toList (entry Try.f39.ntmps [.agg [.sl 0 (.var 0) (.var 1), .int .i64 (.var 0)]] [] ⟨1, 0, 0, 2, 1⟩)) =
  (.call 55 [(.agg [(.sl 0 (.var 0) (.var 1)), (.int .i64 (.var 0))]), (.lf (.int .i64 (.lit 2)))] ⟨[(71, [(.sl 0 (.var 0) (.var 1)), (.int .i64 (.var 0))]), (71, [.nilsl, (.int .i64 (.lit 0))]), (25, [(.int .i64 (.lit 0)), .nilsl, .nilsl])], ⟨1, 0, 0, 2, 1⟩⟩ (.tup [(.true, [(.sl 1 (.var 2) (.var 3)), (.int .i64 (.var 1))]), (.false, [(.int .i64 (.var 2))])]) ⟨[(71, [(.sl 0 (.var 0) (.var 1)), (.int .i64 (.var 0))]), (71, [.nilsl, (.int .i64 (.lit 0))]), (25, [(.int .i64 (.lit 0)), .nilsl, .nilsl])], ⟨3, 0, 0, 4, 2⟩⟩ (.call 55 [(.agg [(.sl 1 (.var 2) (.var 3)), (.int .i64 (.var 1))]), (.lf (.int .i64 (.lit 8)))] ⟨[(71, [(.sl 1 (.var 2) (.var 3)), (.int .i64 (.var 1))]), (71, [.nilsl, (.int .i64 (.lit 0))]), (25, [(.int .i64 (.lit 0)), .nilsl, .nilsl]), (25, [(.int .i64 (.var 2)), .nilsl, .nilsl])], ⟨3, 0, 0, 4, 2⟩⟩ (.tup [(.true, [(.sl 2 (.var 4) (.var 5)), (.int .i64 (.var 3))]), (.false, [(.int .i64 (.var 4))])]) ⟨[(71, [(.sl 1 (.var 2) (.var 3)), (.int .i64 (.var 1))]), (71, [.nilsl, (.int .i64 (.lit 0))]), (25, [(.int .i64 (.lit 0)), .nilsl, .nilsl]), (25, [(.int .i64 (.var 2)), .nilsl, .nilsl])], ⟨5, 0, 0, 6, 3⟩⟩ (.fail "loop" 5))) := by kernel_rfl
set_option maxRecDepth 100000 in
theorem tQDecode : (runF ⟨tt, fns, { }⟩ (Try.f19.body.getD .skip) Try.f19.results.toList (entry Try.f19.ntmps [.lf (.sl 0 (.var 0) (.var 1))] [] ⟨0, 0, 0, 2, 1⟩)) =
  (.call 39 [(.agg [(.sl 0 (.var 0) (.var 1)), (.int .i64 (.lit 0))])] ⟨[(25, [(.int .i64 (.lit 0)), .nilsl, .nilsl])], ⟨0, 0, 0, 2, 1⟩⟩ (.tup [(.true, [(.sl 1 (.var 2) (.var 3)), (.int .i64 (.var 0))]), (.true, [(.int .i64 (.var 1)), (.sl 2 (.var 4) (.var 5)), (.sl 3 (.var 6) (.var 7))])]) ⟨[(25, [(.int .i64 (.lit 0)), .nilsl, .nilsl])], ⟨2, 0, 0, 8, 4⟩⟩ (.call 40 [(.agg [(.sl 1 (.var 2) (.var 3)), (.int .i64 (.var 0))])] ⟨[(25, [(.int .i64 (.lit 0)), .nilsl, .nilsl]), (71, [(.sl 1 (.var 2) (.var 3)), (.int .i64 (.var 0))]), (25, [(.int .i64 (.var 1)), (.sl 2 (.var 4) (.var 5)), (.sl 3 (.var 6) (.var 7))])], ⟨2, 0, 0, 8, 4⟩⟩ (.agg [(.sl 4 (.var 8) (.var 9)), (.int .i64 (.var 2))]) ⟨[(25, [(.int .i64 (.lit 0)), .nilsl, .nilsl]), (71, [(.sl 1 (.var 2) (.var 3)), (.int .i64 (.var 0))]), (25, [(.int .i64 (.var 1)), (.sl 2 (.var 4) (.var 5)), (.sl 3 (.var 6) (.var 7))])], ⟨3, 0, 0, 10, 5⟩⟩ (.br (.cmp .neq (.var 2) (.lit 0)) (.done (.tup [(.true, [(.int .i64 (.lit 0)), .nilsl, .nilsl]), (.false, [(.int .i64 (.var 2))])]) ⟨[(25, [(.int .i64 (.lit 0)), .nilsl, .nilsl]), (71, [(.sl 4 (.var 8) (.var 9)), (.int .i64 (.var 2))]), (25, [(.int .i64 (.var 1)), (.sl 2 (.var 4) (.var 5)), (.sl 3 (.var 6) (.var 7))])], ⟨3, 0, 0, 10, 5⟩⟩) (.call 12 [(.agg [(.int .i64 (.var 1)), (.sl 2 (.var 4) (.var 5)), (.sl 3 (.var 6) (.var 7))])] ⟨[(25, [(.int .i64 (.lit 0)), .nilsl, .nilsl]), (71, [(.sl 4 (.var 8) (.var 9)), (.int .i64 (.var 2))]), (25, [(.int .i64 (.var 1)), (.sl 2 (.var 4) (.var 5)), (.sl 3 (.var 6) (.var 7))])], ⟨3, 0, 0, 10, 5⟩⟩ (.lf (.int .i64 (.var 3))) ⟨[(25, [(.int .i64 (.lit 0)), .nilsl, .nilsl]), (71, [(.sl 4 (.var 8) (.var 9)), (.int .i64 (.var 2))]), (25, [(.int .i64 (.var 1)), (.sl 2 (.var 4) (.var 5)), (.sl 3 (.var 6) (.var 7))])], ⟨4, 0, 0, 10, 5⟩⟩ (.br (.cmp .neq (.var 3) (.lit 0)) (.done (.tup [(.true, [(.int .i64 (.lit 0)), .nilsl, .nilsl]), (.false, [(.int .i64 (.var 3))])]) ⟨[(25, [(.int .i64 (.lit 0)), .nilsl, .nilsl]), (71, [(.sl 4 (.var 8) (.var 9)), (.int .i64 (.var 2))]), (25, [(.int .i64 (.var 1)), (.sl 2 (.var 4) (.var 5)), (.sl 3 (.var 6) (.var 7))])], ⟨4, 0, 0, 10, 5⟩⟩) (.done (.tup [(.true, [(.int .i64 (.var 1)), (.sl 2 (.var 4) (.var 5)), (.sl 3 (.var 6) (.var 7))]), (.false, [(.int .i64 (.lit 0))])]) ⟨[(25, [(.int .i64 (.var 1)), (.sl 2 (.var 4) (.var 5)), (.sl 3 (.var 6) (.var 7))]), (71, [(.sl 4 (.var 8) (.var 9)), (.int .i64 (.var 2))]), (25, [(.int .i64 (.var 1)), (.sl 2 (.var 4) (.var 5)), (.sl 3 (.var 6) (.var 7))])], ⟨4, 0, 0, 10, 5⟩⟩)))))) := by kernel_rfl
set_option maxRecDepth 100000 in
theorem tHead6 : (runF ⟨tt, fns, { touch := [] }⟩ (Try.f9.body.getD .skip) Try.f9.results.toList (entry Try.f9.ntmps [] [] ⟨0, 0, 0, 0, 0⟩)) =
  (.call 32 [] ⟨[], ⟨0, 0, 0, 0, 0⟩⟩ (.agg [(.int .i64 (.var 0)), (.sl 0 (.var 0) (.var 1)), (.sl 1 (.var 2) (.var 3))]) ⟨[], ⟨1, 0, 0, 4, 2⟩⟩ (.call 15 [(.agg [(.int .i64 (.var 0)), (.sl 0 (.var 0) (.var 1)), (.sl 1 (.var 2) (.var 3))])] ⟨[], ⟨1, 0, 0, 4, 2⟩⟩ (.tup [(.false, [(.sl 2 (.var 4) (.var 5))]), (.false, [(.int .i64 (.var 1))])]) ⟨[], ⟨2, 0, 0, 6, 3⟩⟩ (.call 20 [(.lf (.nsl 0 0 9 9))] ⟨[(5, [(.int .u8 (.lit 1)), (.int .u8 (.lit 2)), (.int .u8 (.lit 0)), (.int .u8 (.lit 1)), (.int .u8 (.lit 2)), (.int .u8 (.lit 1)), (.int .u8 (.lit 1)), (.int .u8 (.lit 1)), (.int .u8 (.lit 2))])], ⟨2, 0, 0, 6, 3⟩⟩ (.tup [(.true, [(.int .i64 (.var 2)), (.sl 3 (.var 6) (.var 7)), (.sl 4 (.var 8) (.var 9))]), (.false, [(.int .i64 (.var 3))])]) ⟨[(5, [(.int .u8 (.lit 1)), (.int .u8 (.lit 2)), (.int .u8 (.lit 0)), (.int .u8 (.lit 1)), (.int .u8 (.lit 2)), (.int .u8 (.lit 1)), (.int .u8 (.lit 1)), (.int .u8 (.lit 1)), (.int .u8 (.lit 2))])], ⟨4, 0, 0, 10, 5⟩⟩ (.br (.cmp .eql (.var 1) (.lit 0)) (.call 16 [(.lf (.sl 2 (.var 4) (.var 5))), (.lf (.nsl 2 0 9 9))] ⟨[(5, [(.int .u8 (.lit 1)), (.int .u8 (.lit 2)), (.int .u8 (.lit 0)), (.int .u8 (.lit 1)), (.int .u8 (.lit 2)), (.int .u8 (.lit 1)), (.int .u8 (.lit 1)), (.int .u8 (.lit 1)), (.int .u8 (.lit 2))]), (25, [(.int .i64 (.var 2)), (.sl 3 (.var 6) (.var 7)), (.sl 4 (.var 8) (.var 9))]), (5, [(.int .u8 (.lit 1)), (.int .u8 (.lit 2)), (.int .u8 (.lit 0)), (.int .u8 (.lit 1)), (.int .u8 (.lit 2)), (.int .u8 (.lit 1)), (.int .u8 (.lit 1)), (.int .u8 (.lit 1)), (.int .u8 (.lit 2))])], ⟨4, 0, 0, 10, 5⟩⟩ (.lf (.bool (.var 0))) ⟨[(5, [(.int .u8 (.lit 1)), (.int .u8 (.lit 2)), (.int .u8 (.lit 0)), (.int .u8 (.lit 1)), (.int .u8 (.lit 2)), (.int .u8 (.lit 1)), (.int .u8 (.lit 1)), (.int .u8 (.lit 1)), (.int .u8 (.lit 2))]), (25, [(.int .i64 (.var 2)), (.sl 3 (.var 6) (.var 7)), (.sl 4 (.var 8) (.var 9))]), (5, [(.int .u8 (.lit 1)), (.int .u8 (.lit 2)), (.int .u8 (.lit 0)), (.int .u8 (.lit 1)), (.int .u8 (.lit 2)), (.int .u8 (.lit 1)), (.int .u8 (.lit 1)), (.int .u8 (.lit 1)), (.int .u8 (.lit 2))])], ⟨4, 1, 0, 10, 5⟩⟩ (.br (.var 0) (.br (.cmp .eql (.var 3) (.lit 0)) (.call 32 [] ⟨[(5, [(.int .u8 (.lit 1)), (.int .u8 (.lit 2)), (.int .u8 (.lit 0)), (.int .u8 (.lit 1)), (.int .u8 (.lit 2)), (.int .u8 (.lit 1)), (.int .u8 (.lit 1)), (.int .u8 (.lit 1)), (.int .u8 (.lit 2))]), (25, [(.int .i64 (.var 2)), (.sl 3 (.var 6) (.var 7)), (.sl 4 (.var 8) (.var 9))]), (5, [(.int .u8 (.lit 1)), (.int .u8 (.lit 2)), (.int .u8 (.lit 0)), (.int .u8 (.lit 1)), (.int .u8 (.lit 2)), (.int .u8 (.lit 1)), (.int .u8 (.lit 1)), (.int .u8 (.lit 1)), (.int .u8 (.lit 2))])], ⟨4, 1, 0, 10, 5⟩⟩ (.agg [(.int .i64 (.var 4)), (.sl 5 (.var 10) (.var 11)), (.sl 6 (.var 12) (.var 13))]) ⟨[(5, [(.int .u8 (.lit 1)), (.int .u8 (.lit 2)), (.int .u8 (.lit 0)), (.int .u8 (.lit 1)), (.int .u8 (.lit 2)), (.int .u8 (.lit 1)), (.int .u8 (.lit 1)), (.int .u8 (.lit 1)), (.int .u8 (.lit 2))]), (25, [(.int .i64 (.var 2)), (.sl 3 (.var 6) (.var 7)), (.sl 4 (.var 8) (.var 9))]), (5, [(.int .u8 (.lit 1)), (.int .u8 (.lit 2)), (.int .u8 (.lit 0)), (.int .u8 (.lit 1)), (.int .u8 (.lit 2)), (.int .u8 (.lit 1)), (.int .u8 (.lit 1)), (.int .u8 (.lit 1)), (.int .u8 (.lit 2))])], ⟨5, 1, 0, 14, 7⟩⟩ (.call 21 [(.agg [(.int .i64 (.var 2)), (.sl 3 (.var 6) (.var 7)), (.sl 4 (.var 8) (.var 9))]), (.agg [(.int .i64 (.var 4)), (.sl 5 (.var 10) (.var 11)), (.sl 6 (.var 12) (.var 13))])] ⟨[(5, [(.int .u8 (.lit 1)), (.int .u8 (.lit 2)), (.int .u8 (.lit 0)), (.int .u8 (.lit 1)), (.int .u8 (.lit 2)), (.int .u8 (.lit 1)), (.int .u8 (.lit 1)), (.int .u8 (.lit 1)), (.int .u8 (.lit 2))]), (25, [(.int .i64 (.var 2)), (.sl 3 (.var 6) (.var 7)), (.sl 4 (.var 8) (.var 9))]), (5, [(.int .u8 (.lit 1)), (.int .u8 (.lit 2)), (.int .u8 (.lit 0)), (.int .u8 (.lit 1)), (.int .u8 (.lit 2)), (.int .u8 (.lit 1)), (.int .u8 (.lit 1)), (.int .u8 (.lit 1)), (.int .u8 (.lit 2))])], ⟨5, 1, 0, 14, 7⟩⟩ (.lf (.bool (.var 1))) ⟨[(5, [(.int .u8 (.lit 1)), (.int .u8 (.lit 2)), (.int .u8 (.lit 0)), (.int .u8 (.lit 1)), (.int .u8 (.lit 2)), (.int .u8 (.lit 1)), (.int .u8 (.lit 1)), (.int .u8 (.lit 1)), (.int .u8 (.lit 2))]), (25, [(.int .i64 (.var 2)), (.sl 3 (.var 6) (.var 7)), (.sl 4 (.var 8) (.var 9))]), (5, [(.int .u8 (.lit 1)), (.int .u8 (.lit 2)), (.int .u8 (.lit 0)), (.int .u8 (.lit 1)), (.int .u8 (.lit 2)), (.int .u8 (.lit 1)), (.int .u8 (.lit 1)), (.int .u8 (.lit 1)), (.int .u8 (.lit 2))])], ⟨5, 2, 0, 14, 7⟩⟩ (.done (.lf (.bool (.var 1))) ⟨[(5, [(.int .u8 (.lit 1)), (.int .u8 (.lit 2)), (.int .u8 (.lit 0)), (.int .u8 (.lit 1)), (.int .u8 (.lit 2)), (.int .u8 (.lit 1)), (.int .u8 (.lit 1)), (.int .u8 (.lit 1)), (.int .u8 (.lit 2))]), (25, [(.int .i64 (.var 2)), (.sl 3 (.var 6) (.var 7)), (.sl 4 (.var 8) (.var 9))]), (5, [(.int .u8 (.lit 1)), (.int .u8 (.lit 2)), (.int .u8 (.lit 0)), (.int .u8 (.lit 1)), (.int .u8 (.lit 2)), (.int .u8 (.lit 1)), (.int .u8 (.lit 1)), (.int .u8 (.lit 1)), (.int .u8 (.lit 2))])], ⟨5, 2, 0, 14, 7⟩⟩))) (.done (.lf (.bool (.lit .false))) ⟨[(5, [(.int .u8 (.lit 1)), (.int .u8 (.lit 2)), (.int .u8 (.lit 0)), (.int .u8 (.lit 1)), (.int .u8 (.lit 2)), (.int .u8 (.lit 1)), (.int .u8 (.lit 1)), (.int .u8 (.lit 1)), (.int .u8 (.lit 2))]), (25, [(.int .i64 (.var 2)), (.sl 3 (.var 6) (.var 7)), (.sl 4 (.var 8) (.var 9))]), (5, [(.int .u8 (.lit 1)), (.int .u8 (.lit 2)), (.int .u8 (.lit 0)), (.int .u8 (.lit 1)), (.int .u8 (.lit 2)), (.int .u8 (.lit 1)), (.int .u8 (.lit 1)), (.int .u8 (.lit 1)), (.int .u8 (.lit 2))])], ⟨4, 1, 0, 10, 5⟩⟩)) (.done (.lf (.bool (.lit .false))) ⟨[(5, [(.int .u8 (.lit 1)), (.int .u8 (.lit 2)), (.int .u8 (.lit 0)), (.int .u8 (.lit 1)), (.int .u8 (.lit 2)), (.int .u8 (.lit 1)), (.int .u8 (.lit 1)), (.int .u8 (.lit 1)), (.int .u8 (.lit 2))]), (25, [(.int .i64 (.var 2)), (.sl 3 (.var 6) (.var 7)), (.sl 4 (.var 8) (.var 9))]), (5, [(.int .u8 (.lit 1)), (.int .u8 (.lit 2)), (.int .u8 (.lit 0)), (.int .u8 (.lit 1)), (.int .u8 (.lit 2)), (.int .u8 (.lit 1)), (.int .u8 (.lit 1)), (.int .u8 (.lit 1)), (.int .u8 (.lit 2))])], ⟨4, 1, 0, 10, 5⟩⟩))) (.done (.lf (.bool (.lit .false))) ⟨[(5, [(.int .u8 (.lit 1)), (.int .u8 (.lit 2)), (.int .u8 (.lit 0)), (.int .u8 (.lit 1)), (.int .u8 (.lit 2)), (.int .u8 (.lit 1)), (.int .u8 (.lit 1)), (.int .u8 (.lit 1)), (.int .u8 (.lit 2))]), (25, [(.int .i64 (.var 2)), (.sl 3 (.var 6) (.var 7)), (.sl 4 (.var 8) (.var 9))])], ⟨4, 0, 0, 10, 5⟩⟩))))) := by kernel_rfl
set_option maxRecDepth 100000 in
theorem tStop : (runF ⟨tt, fns, { }⟩ (Try.f32.body.getD .skip) Try.f32.results.toList (entry Try.f32.ntmps [] [] ⟨0, 0, 0, 0, 0⟩)) =
  (.done (.agg [(.int .i64 (.lit 2)), .nilsl, (.nsl 1 0 2 2)]) ⟨[(25, [(.int .i64 (.lit 2)), .nilsl, (.nsl 1 0 2 2)]), (3, [(.int .i64 (.lit 1)), (.int .i64 (.lit 2))])], ⟨0, 0, 0, 0, 0⟩⟩) := by kernel_rfl
set_option maxRecDepth 100000 in
theorem tLChecks : (runF ⟨tt, fns, { }⟩ (Try.f3.body.getD .skip) Try.f3.results.toList (entry Try.f3.ntmps [.agg [.int .i64 (.var 0), .sl 0 (.var 0) (.var 1), .sl 1 (.var 2) (.var 3)], .agg [.int .i64 (.var 1), .int .i64 (.var 2), .int .i64 (.var 3), .int .i64 (.var 4), .int .i64 (.var 5), .int .i64 (.var 6), .int .i64 (.var 7), .int .i64 (.var 8)]] [] ⟨9, 0, 0, 4, 2⟩)) =
  (.call 9 [] ⟨[(25, [(.int .i64 (.var 0)), (.sl 0 (.var 0) (.var 1)), (.sl 1 (.var 2) (.var 3))]), (29, [(.int .i64 (.var 1)), (.int .i64 (.var 2)), (.int .i64 (.var 3)), (.int .i64 (.var 4)), (.int .i64 (.var 5)), (.int .i64 (.var 6)), (.int .i64 (.var 7)), (.int .i64 (.var 8))])], ⟨9, 0, 0, 4, 2⟩⟩ (.lf (.bool (.var 0))) ⟨[(25, [(.int .i64 (.var 0)), (.sl 0 (.var 0) (.var 1)), (.sl 1 (.var 2) (.var 3))]), (29, [(.int .i64 (.var 1)), (.int .i64 (.var 2)), (.int .i64 (.var 3)), (.int .i64 (.var 4)), (.int .i64 (.var 5)), (.int .i64 (.var 6)), (.int .i64 (.var 7)), (.int .i64 (.var 8))])], ⟨9, 1, 0, 4, 2⟩⟩ (.br (.not (.var 0)) (.done (.lf (.bool (.lit .false))) ⟨[(25, [(.int .i64 (.var 0)), (.sl 0 (.var 0) (.var 1)), (.sl 1 (.var 2) (.var 3))]), (29, [(.int .i64 (.var 1)), (.int .i64 (.var 2)), (.int .i64 (.var 3)), (.int .i64 (.var 4)), (.int .i64 (.var 5)), (.int .i64 (.var 6)), (.int .i64 (.var 7)), (.int .i64 (.var 8))])], ⟨9, 1, 0, 4, 2⟩⟩) (.call 10 [(.agg [(.int .i64 (.lit 9)), .nilsl, .nilsl])] ⟨[(25, [(.int .i64 (.var 0)), (.sl 0 (.var 0) (.var 1)), (.sl 1 (.var 2) (.var 3))]), (29, [(.int .i64 (.var 1)), (.int .i64 (.var 2)), (.int .i64 (.var 3)), (.int .i64 (.var 4)), (.int .i64 (.var 5)), (.int .i64 (.var 6)), (.int .i64 (.var 7)), (.int .i64 (.var 8))])], ⟨9, 1, 0, 4, 2⟩⟩ (.lf (.int .i64 (.var 9))) ⟨[(25, [(.int .i64 (.var 0)), (.sl 0 (.var 0) (.var 1)), (.sl 1 (.var 2) (.var 3))]), (29, [(.int .i64 (.var 1)), (.int .i64 (.var 2)), (.int .i64 (.var 3)), (.int .i64 (.var 4)), (.int .i64 (.var 5)), (.int .i64 (.var 6)), (.int .i64 (.var 7)), (.int .i64 (.var 8))])], ⟨10, 1, 0, 4, 2⟩⟩ (.br (.cmp .neq (.var 9) (.lit 25)) (.done (.lf (.bool (.lit .false))) ⟨[(25, [(.int .i64 (.var 0)), (.sl 0 (.var 0) (.var 1)), (.sl 1 (.var 2) (.var 3))]), (29, [(.int .i64 (.var 1)), (.int .i64 (.var 2)), (.int .i64 (.var 3)), (.int .i64 (.var 4)), (.int .i64 (.var 5)), (.int .i64 (.var 6)), (.int .i64 (.var 7)), (.int .i64 (.var 8))])], ⟨10, 1, 0, 4, 2⟩⟩) (.call 11 [(.agg [(.int .i64 (.var 0)), (.sl 0 (.var 0) (.var 1)), (.sl 1 (.var 2) (.var 3))])] ⟨[(25, [(.int .i64 (.var 0)), (.sl 0 (.var 0) (.var 1)), (.sl 1 (.var 2) (.var 3))]), (29, [(.int .i64 (.var 1)), (.int .i64 (.var 2)), (.int .i64 (.var 3)), (.int .i64 (.var 4)), (.int .i64 (.var 5)), (.int .i64 (.var 6)), (.int .i64 (.var 7)), (.int .i64 (.var 8))])], ⟨10, 1, 0, 4, 2⟩⟩ (.agg [(.int .i64 (.var 10)), (.sl 2 (.var 4) (.var 5)), (.sl 3 (.var 6) (.var 7))]) ⟨[(25, [(.int .i64 (.var 0)), (.sl 0 (.var 0) (.var 1)), (.sl 1 (.var 2) (.var 3))]), (29, [(.int .i64 (.var 1)), (.int .i64 (.var 2)), (.int .i64 (.var 3)), (.int .i64 (.var 4)), (.int .i64 (.var 5)), (.int .i64 (.var 6)), (.int .i64 (.var 7)), (.int .i64 (.var 8))])], ⟨11, 1, 0, 8, 4⟩⟩ (.call 10 [(.agg [(.int .i64 (.var 10)), (.sl 2 (.var 4) (.var 5)), (.sl 3 (.var 6) (.var 7))])] ⟨[(25, [(.int .i64 (.var 0)), (.sl 0 (.var 0) (.var 1)), (.sl 1 (.var 2) (.var 3))]), (29, [(.int .i64 (.var 1)), (.int .i64 (.var 2)), (.int .i64 (.var 3)), (.int .i64 (.var 4)), (.int .i64 (.var 5)), (.int .i64 (.var 6)), (.int .i64 (.var 7)), (.int .i64 (.var 8))])], ⟨11, 1, 0, 8, 4⟩⟩ (.lf (.int .i64 (.var 11))) ⟨[(25, [(.int .i64 (.var 0)), (.sl 0 (.var 0) (.var 1)), (.sl 1 (.var 2) (.var 3))]), (29, [(.int .i64 (.var 1)), (.int .i64 (.var 2)), (.int .i64 (.var 3)), (.int .i64 (.var 4)), (.int .i64 (.var 5)), (.int .i64 (.var 6)), (.int .i64 (.var 7)), (.int .i64 (.var 8))])], ⟨12, 1, 0, 8, 4⟩⟩ (.call 12 [(.agg [(.int .i64 (.var 0)), (.sl 0 (.var 0) (.var 1)), (.sl 1 (.var 2) (.var 3))])] ⟨[(25, [(.int .i64 (.var 0)), (.sl 0 (.var 0) (.var 1)), (.sl 1 (.var 2) (.var 3))]), (29, [(.int .i64 (.var 1)), (.int .i64 (.var 2)), (.int .i64 (.var 3)), (.int .i64 (.var 4)), (.int .i64 (.var 5)), (.int .i64 (.var 6)), (.int .i64 (.var 7)), (.int .i64 (.var 8))])], ⟨12, 1, 0, 8, 4⟩⟩ (.lf (.int .i64 (.var 12))) ⟨[(25, [(.int .i64 (.var 0)), (.sl 0 (.var 0) (.var 1)), (.sl 1 (.var 2) (.var 3))]), (29, [(.int .i64 (.var 1)), (.int .i64 (.var 2)), (.int .i64 (.var 3)), (.int .i64 (.var 4)), (.int .i64 (.var 5)), (.int .i64 (.var 6)), (.int .i64 (.var 7)), (.int .i64 (.var 8))])], ⟨13, 1, 0, 8, 4⟩⟩ (.br (.cmp .eql (.var 11) (.var 12)) (.call 13 [(.agg [(.int .i64 (.var 1)), (.int .i64 (.var 2)), (.int .i64 (.var 3)), (.int .i64 (.var 4)), (.int .i64 (.var 5)), (.int .i64 (.var 6)), (.int .i64 (.var 7)), (.int .i64 (.var 8))])] ⟨[(25, [(.int .i64 (.var 0)), (.sl 0 (.var 0) (.var 1)), (.sl 1 (.var 2) (.var 3))]), (29, [(.int .i64 (.var 1)), (.int .i64 (.var 2)), (.int .i64 (.var 3)), (.int .i64 (.var 4)), (.int .i64 (.var 5)), (.int .i64 (.var 6)), (.int .i64 (.var 7)), (.int .i64 (.var 8))])], ⟨13, 1, 0, 8, 4⟩⟩ (.lf (.int .i64 (.var 13))) ⟨[(25, [(.int .i64 (.var 0)), (.sl 0 (.var 0) (.var 1)), (.sl 1 (.var 2) (.var 3))]), (29, [(.int .i64 (.var 1)), (.int .i64 (.var 2)), (.int .i64 (.var 3)), (.int .i64 (.var 4)), (.int .i64 (.var 5)), (.int .i64 (.var 6)), (.int .i64 (.var 7)), (.int .i64 (.var 8))])], ⟨14, 1, 0, 8, 4⟩⟩ (.call 14 [(.agg [(.int .i64 (.var 1)), (.int .i64 (.var 2)), (.int .i64 (.var 3)), (.int .i64 (.var 4)), (.int .i64 (.var 5)), (.int .i64 (.var 6)), (.int .i64 (.var 7)), (.int .i64 (.var 8))])] ⟨[(25, [(.int .i64 (.var 0)), (.sl 0 (.var 0) (.var 1)), (.sl 1 (.var 2) (.var 3))]), (29, [(.int .i64 (.var 1)), (.int .i64 (.var 2)), (.int .i64 (.var 3)), (.int .i64 (.var 4)), (.int .i64 (.var 5)), (.int .i64 (.var 6)), (.int .i64 (.var 7)), (.int .i64 (.var 8))])], ⟨14, 1, 0, 8, 4⟩⟩ (.lf (.int .i64 (.var 14))) ⟨[(25, [(.int .i64 (.var 0)), (.sl 0 (.var 0) (.var 1)), (.sl 1 (.var 2) (.var 3))]), (29, [(.int .i64 (.var 1)), (.int .i64 (.var 2)), (.int .i64 (.var 3)), (.int .i64 (.var 4)), (.int .i64 (.var 5)), (.int .i64 (.var 6)), (.int .i64 (.var 7)), (.int .i64 (.var 8))])], ⟨15, 1, 0, 8, 4⟩⟩ (.done (.lf (.bool (.cmp .eql (.var 13) (.var 14)))) ⟨[(25, [(.int .i64 (.var 0)), (.sl 0 (.var 0) (.var 1)), (.sl 1 (.var 2) (.var 3))]), (29, [(.int .i64 (.var 1)), (.int .i64 (.var 2)), (.int .i64 (.var 3)), (.int .i64 (.var 4)), (.int .i64 (.var 5)), (.int .i64 (.var 6)), (.int .i64 (.var 7)), (.int .i64 (.var 8))])], ⟨15, 1, 0, 8, 4⟩⟩))) (.done (.lf (.bool (.lit .false))) ⟨[(25, [(.int .i64 (.var 0)), (.sl 0 (.var 0) (.var 1)), (.sl 1 (.var 2) (.var 3))]), (29, [(.int .i64 (.var 1)), (.int .i64 (.var 2)), (.int .i64 (.var 3)), (.int .i64 (.var 4)), (.int .i64 (.var 5)), (.int .i64 (.var 6)), (.int .i64 (.var 7)), (.int .i64 (.var 8))])], ⟨13, 1, 0, 8, 4⟩⟩))))))))) := by kernel_rfl
end Go.Proofs.Yticacnankpaohaa

/- Values written. -/
namespace Go.Proofs.Yticacnankpaohaa
open Go.ChangeShapes Go.WideShapes Go.ChangeAt Go.RowKit Go.Syn Go.Eng
set_option linter.unusedVariables false
set_option linter.unusedSimpArgs false
set_option maxRecDepth 100000
theorem ccells_ne {cs : List CmD} (h : cs ≠ []) : ccells cs ≠ [] := fun q => by
  cases cs with
  | nil => exact h rfl
  | cons c r => simp [ccells, CmD.cells] at q
def natU (i : Int) : Nat := (IntKind.u64.wrap i).toNat
theorem natU_c (i : Int) : IntKind.u64.wrap i = (natU i : Int) := by
  unfold natU
  have : (0 : Int) ≤ IntKind.u64.wrap i := by show (0 : Int) ≤ i % 18446744073709551616; omega
  omega
theorem natU_lt (i : Int) : natU i < 2 ^ 64 := by
  have : IntKind.u64.wrap i < 18446744073709551616 := by show i % 18446744073709551616 < 18446744073709551616; omega
  have h := natU_c i
  omega
theorem natU_n {n : Nat} (h : n < 2 ^ 64) : IntKind.u64.wrap (n : Int) = (n : Int) := IntWalk.u64_in _ (by omega)
theorem natU_of {i : Int} (h0 : 0 ≤ i) (h : i < 18446744073709551616) : natU i = i.toNat := by
  unfold natU; rw [IntWalk.u64_in _ (by omega)]
def vlB (v : Vl) : List Int := numB (natU v.k) ++ (numB v.cs.length ++ (v.cs.flatMap cmdB ++ (numB v.ns.length ++ v.ns.flatMap fun n => numB (natU n))))
theorem cmdB_len {c : CmD} (h : ∀ i ∈ c.is, I64 i) : (cmdB c).length ≤ 72 := by
  have key : ∀ l : List Int, (∀ i ∈ l, I64 i) → (l.flatMap fun i => numB (foldN i)).length ≤ 9 * l.length := by
    intro l
    induction l with
    | nil => intro _; simp
    | cons x r ih =>
      intro h
      have h1 := numI_len (h x (by simp))
      have h2 := ih (fun i q => h i (by simp [q]))
      rw [List.flatMap_cons, List.length_append, List.length_cons]; omega
  exact key c.is h
theorem csB_len {cs : List CmD} (h : ∀ c ∈ cs, ∀ i ∈ c.is, I64 i) : (cs.flatMap cmdB).length ≤ 72 * cs.length := by
  induction cs with
  | nil => simp
  | cons x r ih =>
    have h1 := cmdB_len (h x (by simp))
    have h2 := ih (fun i q => h i (by simp [q]))
    rw [List.flatMap_cons, List.length_append, List.length_cons]; omega
theorem nsB_len (ns : List Int) : (ns.flatMap fun n => numB (natU n)).length ≤ 9 * ns.length := by
  induction ns with
  | nil => simp
  | cons x r ih =>
    have h1 := numB_len (natU_lt x)
    rw [List.flatMap_cons, List.length_append, List.length_cons]; omega
theorem flat_step {α : Type} {l : List α} {k : Nat} {x : α} (f : α → List Int) (h : l[k]? = some x) : (l.take (k + 1)).flatMap f = (l.take k).flatMap f ++ f x := by
  rw [List.take_add_one, h, List.flatMap_append]; simp
theorem vlB_len {v : Vl} (hc : ∀ c ∈ v.cs, ∀ i ∈ c.is, I64 i) (h1 : v.cs.length < 2 ^ 64) (h2 : v.ns.length < 2 ^ 64) : (vlB v).length ≤ 27 + 72 * v.cs.length + 9 * v.ns.length := by
  have g1 := numB_len (natU_lt v.k)
  have g2 := numB_len h1
  have g3 := numB_len h2
  have g4 := csB_len hc
  have g5 := nsB_len v.ns
  unfold vlB
  simp only [List.length_append]
  omega
/-- Where a writer's row may lie. -/
def Fr (W : World) (a : Option Addr) (cap : Nat) (a' : Option Addr) (cap' : Nat) : Prop := ∀ k, cap' ≠ 0 → abk a' = some k → (cap ≠ 0 ∧ abk a = some k) ∨ W.heap.size ≤ k
theorem Fr.trans {W : World} {a a1 a2 : Option Addr} {c c1 c2 : Nat} (h : Fr W a c a1 c1) (h2 : ∀ k, c2 ≠ 0 → abk a2 = some k → (c1 ≠ 0 ∧ abk a1 = some k) ∨ W.heap.size ≤ k) : Fr W a c a2 c2 := fun k h3 h4 => (h2 k h3 h4).elim (fun q => h k q.1 q.2) .inr
def WvI {α : Type} (W : World) (a : Option Addr) (cap : Nat) (b0 : List Int) (l : List α) (f : α → List Int) (vs : Vals) (hx : HX) : Prop := ∃ (k : Nat) (a' : Option Addr) (cap' : Nat), k ≤ l.length ∧ Fr W a cap a' cap' ∧
  vs = ⟨[(k : Int)], [], [], [(b0 ++ (l.take k).flatMap f).length, cap'], [a']⟩ ∧ hx = HX.nil.and (frow a' cap' (b0 ++ (l.take k).flatMap f))
theorem write_any (nb : Nat) (a : Option Addr) (cap : Nat) (bs : List Int) (v : Vl) (a1 : Option Addr) (c1 : Nat) (a2 : Option Addr) (c2 : Nat) (hk : I64 v.k) (hc : ∀ c ∈ v.cs, ∀ i ∈ c.is, I64 i) (w : World) (H : WAt w nb a cap bs) (HV : VlAt w v a1 a2) (hl : bs.length + 27 + 72 * v.cs.length + 9 * v.ns.length ≤ 140737488355328)
    (hd : ∀ k, (k = nb ∨ (cap ≠ 0 ∧ abk a = some k)) → (v.cs ≠ [] → k ≠ blk a1) ∧ (v.ns ≠ [] → k ≠ blk a2)) :
    Calls Try.prog 23 #[.pointer (some ⟨nb, 0, none⟩), vlV v a1 c1 a2 c2] w (WR w nb a cap (bs ++ vlB v) (.tuple #[])) := by
  have hl1 := HV.l1
  have hl2 := HV.l2
  have g1 := numB_len (natU_lt v.k)
  have g2 := numB_len (u := v.cs.length) (by omega)
  have g3 := numB_len (u := v.ns.length) (by omega)
  have gc : ∀ k, ((v.cs.take k).flatMap cmdB).length ≤ 72 * k := fun k => by
    have h1 := csB_len (cs := v.cs.take k) (fun c q => hc c (List.mem_of_mem_take q))
    have h2 : (v.cs.take k).length ≤ k := by rw [List.length_take]; omega
    omega
  have gn : ∀ k, ((v.ns.take k).flatMap fun n => numB (natU n)).length ≤ 9 * k := fun k => by
    have h1 := nsB_len (v.ns.take k)
    have h2 : (v.ns.take k).length ≤ k := by rw [List.length_take]; omega
    omega
  refine calls_at (tab_ok _) Try.func23 rfl tWrite (ρ := ⟨[v.k], [], [], [v.cs.length, c1, v.ns.length, c2, bs.length, cap], [a1, a2, a]⟩) (ids := [nb]) (hx := HX.nil.and (frow a cap bs)) (M := fun x => x = nb ∨ (cap ≠ 0 ∧ abk a = some x)) rfl (Facts.initx rfl oneNil H.blk rfl (.inl rfl) ⟨trivial, H.mem⟩ (fun k hk => hk.elim (fun q => q.elim) (H.sep k))) ?_
  obtain ⟨b1, e1⟩ : ∃ b, b = bs ++ numB (natU v.k) := ⟨_, rfl⟩
  have l1 : b1.length = bs.length + (numB (natU v.k)).length := by rw [e1, List.length_append]
  obtain ⟨b2, e2⟩ : ∃ b, b = b1 ++ numB v.cs.length := ⟨_, rfl⟩
  have l2 : b2.length = b1.length + (numB v.cs.length).length := by rw [e2, List.length_append]
  refine node_wr (bs := bs) (bs' := b1) 0 (fun a' c' => ⟨[], [], [], [b1.length, c'], [a']⟩) (fun ids => .pointer (some ⟨idAt ids 0, 0, none⟩)) (fun ids => #[.pointer (some ⟨idAt ids 0, 0, none⟩), .int .u64 (natU v.k : Int)]) rfl rfl (by intros; kernel_rfl) (fun k h1 h2 => .inr (.inr ⟨h1, h2⟩)) (fun k _ _ q => q.elim) (fun ids => by rw [← natU_c]; rfl) (fun ids w2 hp hf HW => by rw [e1]; exact wnum_any _ a cap bs (natU v.k) (natU_lt _) w2 HW (by omega)) [.sl 3 (.var 6) (.var 7)] rfl (by intros; kernel_rfl) (by intros; kernel_rfl) rfl (fun _ _ => rfl) (fun _ _ => oneNil) ?_
  intro x1 y1 hk1 hf1
  refine node_wr (bs := b1) (bs' := b2) 0 (fun a' c' => ⟨[], [], [], [b2.length, c'], [a']⟩) (fun ids => .pointer (some ⟨idAt ids 0, 0, none⟩)) (fun ids => #[.pointer (some ⟨idAt ids 0, 0, none⟩), .int .u64 (v.cs.length : Int)]) rfl rfl (by intros; kernel_rfl) (fun k h1 h2 => (hk1 k h1 h2).1) (fun k _ _ q => q.elim) (fun ids => by rw [← natU_n (n := v.cs.length) (by omega)]; rfl) (fun ids w2 hp hf HW => by rw [e2]; exact wnum_any _ x1 y1 b1 v.cs.length (by omega) w2 HW (by omega)) [.sl 4 (.var 8) (.var 9)] rfl (by intros; kernel_rfl) (by intros; kernel_rfl) rfl (fun _ _ => rfl) (fun _ _ => oneNil) ?_
  intro x2 y2 hk2 hf2
  have fr2 : Fr w a cap x2 y2 := Fr.trans (fun k h1 h2 => hf1 k h1 h2) hf2
  refine loop_i (WvI w a cap b2 v.cs cmdB) (fun vs => v.cs.length - (vs.i.headD 0).toNat) (fun ids w2 hp hf => ⟨_, ⟨hf.x, hf.sep⟩, 0, x2, y2, Nat.zero_le _, fr2, by rw [List.take_zero, List.flatMap_nil, List.append_nil]; rfl, by rw [List.take_zero, List.flatMap_nil, List.append_nil]⟩) ?_
  rintro vs hx' hcnt ⟨k, x3, y3, hk3, fr3, rfl, rfl⟩
  have gck := gc k
  have fM : ∀ {x : Option Addr} {y : Nat}, Fr w a cap x y → ∀ k, y ≠ 0 → abk x = some k → w.heap.size ≤ k ∨ (k = nb ∨ (cap ≠ 0 ∧ abk a = some k)) := fun h k h1 h2 => (h k h1 h2).elim (fun q => .inr (.inr q)) .inl
  by_cases hlt : k < v.cs.length
  · refine br_t (show decide ((k : Int) < (v.cs.length : Int)) = true from decide_eq_true (by omega)) ?_
    obtain ⟨c, hcc⟩ : ∃ b, v.cs[k]? = some b := ⟨_, List.getElem?_eq_getElem hlt⟩
    have hci := hc c (List.mem_of_getElem? hcc)
    have hne : v.cs ≠ [] := fun e => by rw [e] at hlt; simp at hlt
    obtain ⟨s1, q1⟩ := c_elt HV.c hcc
    refine need_i ⟨s1, (show (0 : Int) ≤ k by omega), (show (k : Int) < v.cs.length by omega)⟩ ?_
    refine ⟨⟨c.is, [], [], [], []⟩, fun ids => q1 _ (fun q => by rw [getD_blk s1] at q; exact (hd _ q).1 hne rfl), ⟨rfl, oneNil⟩, ?_⟩
    have hst := flat_step cmdB hcc
    have hcl := cmdB_len hci
    refine node_wr (bs := b2 ++ (v.cs.take k).flatMap cmdB) (bs' := b2 ++ (v.cs.take (k + 1)).flatMap cmdB) 0 (fun a' c' => ⟨[], [], [], [(b2 ++ (v.cs.take (k + 1)).flatMap cmdB).length, c'], [a']⟩) (fun ids => .tuple #[]) (fun ids => #[.pointer (some ⟨idAt ids 0, 0, none⟩), .agg c.cells.toArray]) rfl rfl (by intros; kernel_rfl) (fun k h1 h2 => fM fr3 k h1 h2) (fun k _ _ q => q.elim) (by intros; kernel_rfl) (fun ids w2 hp hf HW => by rw [hst, ← List.append_assoc]; exact putcmd_any _ x3 y3 _ c hci w2 HW (by rw [List.length_append]; omega)) [.sl 6 (.var 12) (.var 13)] rfl (by intros; kernel_rfl) (by intros; kernel_rfl) rfl (fun _ _ => rfl) (fun _ _ => oneNil) ?_
    intro x4 y4 hk4 hf4 ids w2 hp hf
    have hwk : IntKind.i64.wrap ((k : Int) + 1) = ((k + 1 : Nat) : Int) := by rw [wrap_i64 (by omega)]; omega
    refine ⟨_, ⟨hf.x, hf.sep⟩, _, rfl, ⟨k + 1, x4, y4, by omega, fr3.trans hf4, by rw [← hwk]; rfl, rfl⟩, ?_⟩
    show v.cs.length - (IntKind.i64.wrap ((k : Int) + 1)).toNat < v.cs.length - ((k : Int)).toNat
    rw [hwk]; omega
  · refine br_f (show decide ((k : Int) < (v.cs.length : Int)) = false from decide_eq_false (by omega)) ?_
    obtain rfl : k = v.cs.length := by omega
    have htl : v.cs.take v.cs.length = v.cs := List.take_length
    rw [htl] at gck ⊢
    obtain ⟨b3, e3⟩ : ∃ b, b = b2 ++ v.cs.flatMap cmdB := ⟨_, rfl⟩
    have l3 : b3.length = b2.length + (v.cs.flatMap cmdB).length := by rw [e3, List.length_append]
    rw [← e3]
    obtain ⟨b4, e4⟩ : ∃ b, b = b3 ++ numB v.ns.length := ⟨_, rfl⟩
    have l4 : b4.length = b3.length + (numB v.ns.length).length := by rw [e4, List.length_append]
    refine node_wr (bs := b3) (bs' := b4) 0 (fun a' c' => ⟨[], [], [], [b4.length, c'], [a']⟩) (fun ids => .pointer (some ⟨idAt ids 0, 0, none⟩)) (fun ids => #[.pointer (some ⟨idAt ids 0, 0, none⟩), .int .u64 (v.ns.length : Int)]) rfl rfl (by intros; kernel_rfl) (fun k h1 h2 => fM fr3 k h1 h2) (fun k _ _ q => q.elim) (fun ids => by rw [← natU_n (n := v.ns.length) (by omega)]; rfl) (fun ids w2 hp hf HW => by rw [e4]; exact wnum_any _ x3 y3 b3 v.ns.length (by omega) w2 HW (by omega)) [.sl 6 (.var 12) (.var 13)] rfl (by intros; kernel_rfl) (by intros; kernel_rfl) rfl (fun _ _ => rfl) (fun _ _ => oneNil) ?_
    intro x4 y4 hk4 hf4
    refine loop_i (WvI w a cap b4 v.ns (fun n => numB (natU n))) (fun vs => v.ns.length - (vs.i.headD 0).toNat) (fun ids w2 hp hf => ⟨_, ⟨hf.x, hf.sep⟩, 0, x4, y4, Nat.zero_le _, fr3.trans hf4, by rw [List.take_zero, List.flatMap_nil, List.append_nil]; rfl, by rw [List.take_zero, List.flatMap_nil, List.append_nil]⟩) ?_
    rintro vs hx' hcnt ⟨k, x5, y5, hk5, fr5, rfl, rfl⟩
    have gnk := gn k
    by_cases hlt : k < v.ns.length
    · refine br_t (show decide ((k : Int) < (v.ns.length : Int)) = true from decide_eq_true (by omega)) ?_
      obtain ⟨n, hn⟩ : ∃ b, v.ns[k]? = some b := ⟨_, List.getElem?_eq_getElem hlt⟩
      have hne : v.ns ≠ [] := fun e => by rw [e] at hlt; simp at hlt
      obtain ⟨s1, q1⟩ := ints_at HV.n hn
      refine need_i ⟨s1, (show (0 : Int) ≤ k by omega), (show (k : Int) < v.ns.length by omega)⟩ ?_
      refine ⟨⟨[n], [], [], [], []⟩, fun ids => q1 _ (fun q => by rw [getD_blk s1] at q; exact (hd _ q).2 hne rfl), ⟨rfl, oneNil⟩, ?_⟩
      have hst := flat_step (fun n => numB (natU n)) hn
      have hcl := numB_len (natU_lt n)
      refine node_wr (bs := b4 ++ (v.ns.take k).flatMap fun n => numB (natU n)) (bs' := b4 ++ (v.ns.take (k + 1)).flatMap fun n => numB (natU n)) 0 (fun a' c' => ⟨[], [], [], [(b4 ++ (v.ns.take (k + 1)).flatMap fun n => numB (natU n)).length, c'], [a']⟩) (fun ids => .pointer (some ⟨idAt ids 0, 0, none⟩)) (fun ids => #[.pointer (some ⟨idAt ids 0, 0, none⟩), .int .u64 (natU n : Int)]) rfl rfl (by intros; kernel_rfl) (fun k h1 h2 => fM fr5 k h1 h2) (fun k _ _ q => q.elim) (fun ids => by rw [← natU_c]; rfl) (fun ids w2 hp hf HW => by rw [hst, ← List.append_assoc]; exact wnum_any _ x5 y5 _ (natU n) (natU_lt n) w2 HW (by rw [List.length_append]; omega)) [.sl 8 (.var 16) (.var 17)] rfl (by intros; kernel_rfl) (by intros; kernel_rfl) rfl (fun _ _ => rfl) (fun _ _ => oneNil) ?_
      intro x6 y6 hk6 hf6 ids w2 hp hf
      have hwk : IntKind.i64.wrap ((k : Int) + 1) = ((k + 1 : Nat) : Int) := by rw [wrap_i64 (by omega)]; omega
      refine ⟨_, ⟨hf.x, hf.sep⟩, _, rfl, ⟨k + 1, x6, y6, by omega, fr5.trans hf6, by rw [← hwk]; rfl, rfl⟩, ?_⟩
      show v.ns.length - (IntKind.i64.wrap ((k : Int) + 1)).toNat < v.ns.length - ((k : Int)).toNat
      rw [hwk]; omega
    · refine br_f (show decide ((k : Int) < (v.ns.length : Int)) = false from decide_eq_false (by omega)) ?_
      obtain rfl : k = v.ns.length := by omega
      have htl2 : v.ns.take v.ns.length = v.ns := List.take_length
      rw [htl2]
      have hall : b4 ++ (v.ns.flatMap fun n => numB (natU n)) = bs ++ vlB v := by
        rw [e4, e3, e2, e1]; simp [vlB, List.append_assoc]
      rw [hall]
      intro ids w2 hp hf
      refine ⟨x5, y5, rfl, ?_, hf.x.2, hf.chg, fr5⟩
      have := hf.blkAt 0 rfl
      rw [idAt0 hp] at this
      exact this
section
variable {C : Cfg} {ρ : Env} {pre : List Nat} {hx : HX} {L : Stack} {m m' : Mem} {args : List SV} {r : SV} {t : Tree}
theorem node_newi {f : Nat} {V : Value → Value} {bs : List Int} (AS : List Nat → Array Value) (vs : Option Addr → Nat → Vals) (hargs : ∀ ids, (args.map (SV.den ρ ids)).toArray = AS ids) (hcall : ∀ ids w, pre <+: ids → Facts C m ρ ids hx w → Calls C.P f (AS ids) w (NewO w V bs))
    (hr : ∀ a' c' ids, r.den (ρ.add (vs a' c')) ids = V (.slice a' bs.length c')) (hhp : m'.hp = m.hp) (hfit : hpFits m.c m.hp.length m.hp = true) (hc : ∀ a' c', (ρ.add (vs a' c')).cnt = m'.c) (h1 : ∀ a' c' v, v ∈ (vs a' c').v → v.oneCell' = true)
    (h : ∀ a' c', (bs ≠ [] → a'.isSome = true) → (∀ k, c' ≠ 0 → abk a' = some k → C.W.heap.size ≤ k ∧ ¬ hx.F k) → t.holds C (ρ.add (vs a' c')) pre (hx.and (frow a' c' bs)) L) : (Tree.call f args m r m' t).holds C ρ pre hx L := by
  intro ids w hp hf
  rw [hargs]
  refine (hcall ids w hp hf).mono ?_
  rintro e w' ⟨a', c', rfl, hX, hge, hbel⟩
  have hg : w.grownBy w' none := ⟨hbel.os, hbel.tape, hbel.output, hbel.size, fun k hk _ => hbel.block k hk⟩
  refine ⟨_, ids, _, by rw [← hr a' c' ids], List.prefix_refl _, hf.turn (hx' := hx.and (frow a' c' bs)) hg (fun b e => by cases e) ⟨hx.loc w w' hf.x fun k hk => hbel.block k (hf.sep k hk).1, hX⟩ (fun k hk => ?_) hhp hfit (hc _ _) (h1 _ _), holds_pre t hp (h a' c' (row_some hX) (fun k h2 h3 => ⟨Nat.le_trans hf.chg.size (hge k h2 h3), fun q => by have := (hf.sep _ q).1; have := hge k h2 h3; omega⟩))⟩
  rcases hk with hk | hk
  · exact .inl hk
  · exact .inr ⟨hge k hk.1 hk.2, frow_lt hX hk.1 hk.2⟩
end
theorem right_len {v : Vl} (h : valE v = 0) : v.cs.length ≤ 8 ∧ v.ns.length ≤ 7 ∧ 0 ≤ v.k ∧ v.k ≤ 2 := by
  unfold valE at h
  split at h
  · rename_i hk
    split at h
    · cases h
    · rename_i h1
      have h2 : v.cs = [] := Classical.byContradiction fun q => h1 (.inl q)
      have h3 : v.ns = [] := Classical.byContradiction fun q => h1 (.inr q)
      rw [h2, h3, hk]; decide
  · split at h
    · rename_i hk
      split at h
      · cases h
      · rename_i h1
        have h2 : v.cs = [] := Classical.byContradiction h1
        have h3 : v.ns.length ≤ 7 := by
          unfold checkV at h
          split at h
          · rename_i hs
            exact (setOkB_iff.1 hs).2.1
          · cases h
        rw [h2, hk]; exact ⟨by decide, h3, by decide, by decide⟩
    · split at h
      · rename_i hk
        split at h
        · cases h
        · rename_i h1
          have h3 : v.ns = [] := Classical.byContradiction fun q => h1 (.inr (.inr q))
          rw [h3, hk]
          exact ⟨by omega, by decide, by decide, by decide⟩
      · cases h
theorem encode_any (v : Vl) (a1 : Option Addr) (c1 : Nat) (a2 : Option Addr) (c2 : Nat) (hk : I64 v.k) (hc : ∀ c ∈ v.cs, ∀ i ∈ c.is, I64 i) (w : World) (HV : VlAt w v a1 a2) :
    Calls Try.prog 15 #[vlV v a1 c1 a2 c2] w (NewO w (fun s => .tuple #[s, .int .i64 (valE v)]) (if valE v = 0 then vlB v else [])) := by
  refine calls_at (tab_ok _) Try.func15 rfl tEncode (ρ := ⟨[v.k], [], [], [v.cs.length, c1, v.ns.length, c2], [a1, a2]⟩) (ids := []) (hx := (HX.cl a1 (ccells v.cs)).and (HX.cl a2 (v.ns.map (Value.int .i64)))) rfl (Facts.initq rfl oneNil ⟨HV.c, HV.n.cells⟩ (fun k hk => hk.elim (cl_sep HV.c k) (cl_sep HV.n.cells k))) ?_
  have at_ : ∀ {w2 : World} (hb : Below w.heap.size w w2), VlAt w2 v a1 a2 := fun {w2} hb => ⟨(HX.cl a1 (ccells v.cs)).loc w w2 HV.c (fun k hk => hb.block k (cl_sep HV.c k hk)), HV.n.ext hb, HV.l1, HV.l2⟩
  refine node_pure ⟨[valE v], [], [], [], []⟩ rfl rfl rfl oneNil (fun ids w2 hp hf => ?_) ?_
  · exact vchk_any v a1 c1 a2 c2 w2 (at_ hf.chg.below)
  by_cases h0 : valE v = 0
  · obtain ⟨r1, r2, r3, r4⟩ := right_len h0
    refine br_f (show (valE v != 0) = false by simpa using h0) ?_
    refine node_newB 77 ⟨[], [], [], [], []⟩ (fun w => wnew_any w) (fun _ => rfl) rfl (fun _ => rfl) rfl rfl rfl oneNil ?_
    rw [← frow_none ((HX.cl a1 (ccells v.cs)).and (HX.cl a2 (v.ns.map (Value.int .i64))))]
    refine node_wr (bs := []) (bs' := vlB v) 1 (fun a' c' => ⟨[], [], [], [(vlB v).length, c'], [a']⟩) (fun ids => .tuple #[]) (fun ids => #[.pointer (some ⟨idAt ids 1, 0, none⟩), vlV v a1 c1 a2 c2]) rfl rfl (by intros; kernel_rfl) (fun k h1 _ => absurd rfl h1) (fun k h1 _ => absurd rfl h1) (by intros; kernel_rfl) (fun ids w2 hp hf HW => ?_) [.sl 2 (.var 4) (.var 5)] rfl (by intros; kernel_rfl) (by intros; kernel_rfl) rfl (fun _ _ => rfl) (fun _ _ => oneNil) ?_
    · have := write_any (idAt ids 1) none 0 [] v a1 c1 a2 c2 hk hc w2 HW (at_ hf.chg.below) (by simp; omega) (fun k hk => ?_)
      · rw [List.nil_append] at this; exact this
      · rcases hk with rfl | ⟨q, _⟩
        · have hmem := idAt_mem (ids := ids) (n := 1) (by rw [hf.len]; decide)
          have hge : w.heap.size ≤ idAt ids 1 := (hf.own _ hmem).resolve_right (fun e => e)
          refine ⟨fun hne e => ?_, fun hne e => ?_⟩
          · have := cl_sep HV.c (blk a1) ⟨ccells_ne hne, rfl⟩
            omega
          · have := cl_sep HV.n.cells (blk a2) ⟨fun q => hne (List.map_eq_nil_iff.1 q), rfl⟩
            omega
        · exact absurd rfl q
    intro x1 y1 hk1 hf1
    have hvl := vlB_len hc (by omega) (by omega)
    refine node_newi (V := id) (bs := vlB v) (fun ids => #[.pointer (some ⟨idAt ids 1, 0, none⟩)]) (fun a' c' => ⟨[], [], [], [(vlB v).length, c'], [a']⟩) (by intros; kernel_rfl) (fun ids w2 hp hf => wbytes_any (idAt ids 1) x1 y1 (vlB v) w2 (w_at 1 hf rfl (by intros; kernel_rfl)) (by omega)) (by intros; kernel_rfl) rfl rfl (fun _ _ => rfl) (fun _ _ => oneNil) ?_
    intro a' c' hs hn ids w2 hp hf
    rw [h0, if_pos rfl]
    exact ⟨a', c', rfl, hf.x.2, fun k h1 h2 => (hn k h1 h2).1, hf.chg.below⟩
  · refine br_t (show (valE v != 0) = true by simpa using h0) ?_
    rw [if_neg h0]
    intro ids w2 hp hf
    exact ⟨none, 0, rfl, HX.rw_nil _ _ _ _, fun k q => absurd rfl q, hf.chg.below⟩
end Go.Proofs.Yticacnankpaohaa

/- Values read. -/
namespace Go.Proofs.Yticacnankpaohaa
open Go.ChangeShapes Go.WideShapes Go.ChangeAt Go.RowKit Go.Syn Go.Eng
set_option linter.unusedVariables false
set_option linter.unusedSimpArgs false
set_option maxRecDepth 100000
theorem info_cmd : (Try.prog.info? 29).map (fun i => (i.zero, i.size, i.bytes)) = some (some (.agg #[.int .i64 0, .int .i64 0, .int .i64 0, .int .i64 0, .int .i64 0, .int .i64 0, .int .i64 0, .int .i64 0]), 8, 64) := by kernel_rfl
theorem info_int1 : (Try.prog.info? 3).map (fun i => (i.zero, i.size, i.bytes)) = some (some (.int .i64 0), 1, 8) := by kernel_rfl
/-- A place in bytes, and an error. -/
def stN (bs : List Int) (p : Nat × Int) : Nat × Int := (ixN bs p.1 p.2, (readN (bs.drop p.1) p.2).2.1)
def unN (bs : List Int) (p : Nat × Int) : Nat := (readN (bs.drop p.1) p.2).2.2
def vaN (bs : List Int) (p : Nat × Int) : Int := unfoldN (unN bs p)
def stC (most : Int) (bs : List Int) (p : Nat × Int) : Nat × Int := (ixN bs p.1 p.2, (readC most (bs.drop p.1) p.2).2.1)
def vaC (most : Int) (bs : List Int) (p : Nat × Int) : Nat := (readC most (bs.drop p.1) p.2).2.2
theorem vaC_le {most : Int} (h : 0 ≤ most) (bs : List Int) (p : Nat × Int) : (vaC most bs p : Int) ≤ most := by
  unfold vaC readC
  dsimp only
  split
  · show ((0 : Nat) : Int) ≤ most; omega
  · rename_i q; omega
def tcS (bs : List Int) (p : Nat × Int) : Nat × Int := stN bs (stN bs (stN bs (stN bs (stN bs (stN bs (stN bs (stN bs p)))))))
def tcC (bs : List Int) (p : Nat × Int) : CmD :=
  let p1 := stN bs p
  let p2 := stN bs p1
  let p3 := stN bs p2
  let p4 := stN bs p3
  let p5 := stN bs p4
  let p6 := stN bs p5
  let p7 := stN bs p6
  ⟨vaN bs p, vaN bs p1, vaN bs p2, ⟨vaN bs p3, vaN bs p4, vaN bs p5, vaN bs p6, vaN bs p7⟩⟩
theorem vaN_fit {bs : List Int} (hb : Byt bs) (p : Nat × Int) : I64 (vaN bs p) := by
  have := readN_u64 (l := bs.drop p.1) (fun b q => hb b (List.mem_of_mem_drop q)) p.2
  unfold vaN unN unfoldN I64
  split <;> omega
def itN {α : Type} (f : α → α) : Nat → α → α
  | 0, p => p
  | k + 1, p => f (itN f k p)
def csN (bs : List Int) (k : Nat) (p : Nat × Int) : List CmD := (List.range k).map fun j => tcC bs (itN (tcS bs) j p)
def nsN (bs : List Int) (k : Nat) (p : Nat × Int) : List Int := (List.range k).map fun j => (vaC 9 bs (itN (stC 9 bs) j p) : Int)
theorem csN_step (bs : List Int) (k : Nat) (p : Nat × Int) : csN bs (k + 1) p = csN bs k p ++ [tcC bs (itN (tcS bs) k p)] := by unfold csN; rw [List.range_succ, List.map_append]; rfl
theorem nsN_step (bs : List Int) (k : Nat) (p : Nat × Int) : nsN bs (k + 1) p = nsN bs k p ++ [(vaC 9 bs (itN (stC 9 bs) k p) : Int)] := by unfold nsN; rw [List.range_succ, List.map_append]; rfl
theorem csN_len (bs : List Int) (k : Nat) (p : Nat × Int) : (csN bs k p).length = k := by unfold csN; rw [List.length_map, List.length_range]
theorem nsN_len (bs : List Int) (k : Nat) (p : Nat × Int) : (nsN bs k p).length = k := by unfold nsN; rw [List.length_map, List.length_range]
/-- The value that is read, and the place behind it. -/
def rdA (bs : List Int) (p : Nat × Int) : Nat × Int := stC 8 bs (stC 2 bs p)
def rdB (bs : List Int) (p : Nat × Int) : Nat × Int := itN (tcS bs) (vaC 8 bs (stC 2 bs p)) (rdA bs p)
def rdV (bs : List Int) (p : Nat × Int) : Vl := ⟨(vaC 2 bs p : Int), csN bs (vaC 8 bs (stC 2 bs p)) (rdA bs p), nsN bs (vaC 7 bs (rdB bs p)) (stC 7 bs (rdB bs p))⟩
def rdS (bs : List Int) (p : Nat × Int) : Nat × Int := itN (stC 9 bs) (vaC 7 bs (rdB bs p)) (stC 7 bs (rdB bs p))
theorem stN_le (bs : List Int) (p : Nat × Int) : (stN bs p).1 ≤ bs.length := ixN_le _ _ _
theorem stC_le (most : Int) (bs : List Int) (p : Nat × Int) : (stC most bs p).1 ≤ bs.length := ixN_le _ _ _
theorem it_le {bs : List Int} {f : Nat × Int → Nat × Int} (hf : ∀ p, (f p).1 ≤ bs.length) {p : Nat × Int} (hp : p.1 ≤ bs.length) : ∀ k, (itN f k p).1 ≤ bs.length
  | 0 => hp
  | k + 1 => hf _
def rcP (a : Option Addr) (cap : Nat) (bs : List Int) (p : Nat × Int) : List Value := rcells a cap bs p.1 p.2
theorem takecmd_any (nb : Nat) (a : Option Addr) (cap : Nat) (bs : List Int) (p : Nat × Int) (w : World) (H : RdAt w nb a cap bs p.1 p.2) : Calls Try.prog 29 #[.pointer (some ⟨nb, 0, none⟩)] w (At1 w nb 83 (.agg (tcC bs p).cells.toArray) (rcP a cap bs (tcS bs p))) := by
  refine calls_at (tab_ok _) Try.func29 rfl tTakeCmd (ρ := ⟨[(p.1 : Int), p.2], [], [], [bs.length, cap], [a]⟩) (ids := [nb]) (hx := HX.cl a (bcells bs)) (M := fun x => x = nb) rfl (Facts.initx rfl oneNil H.blk rfl rfl H.mem H.sepc) ?_
  obtain ⟨p1, e1⟩ : ∃ q, q = stN bs p := ⟨_, rfl⟩
  have x1 : p1.1 ≤ bs.length := by rw [e1]; exact stN_le _ _
  obtain ⟨p2, e2⟩ : ∃ q, q = stN bs p1 := ⟨_, rfl⟩
  have x2 : p2.1 ≤ bs.length := by rw [e2]; exact stN_le _ _
  obtain ⟨p3, e3⟩ : ∃ q, q = stN bs p2 := ⟨_, rfl⟩
  have x3 : p3.1 ≤ bs.length := by rw [e3]; exact stN_le _ _
  obtain ⟨p4, e4⟩ : ∃ q, q = stN bs p3 := ⟨_, rfl⟩
  have x4 : p4.1 ≤ bs.length := by rw [e4]; exact stN_le _ _
  obtain ⟨p5, e5⟩ : ∃ q, q = stN bs p4 := ⟨_, rfl⟩
  have x5 : p5.1 ≤ bs.length := by rw [e5]; exact stN_le _ _
  obtain ⟨p6, e6⟩ : ∃ q, q = stN bs p5 := ⟨_, rfl⟩
  have x6 : p6.1 ≤ bs.length := by rw [e6]; exact stN_le _ _
  obtain ⟨p7, e7⟩ : ∃ q, q = stN bs p6 := ⟨_, rfl⟩
  have x7 : p7.1 ≤ bs.length := by rw [e7]; exact stN_le _ _
  obtain ⟨p8, e8⟩ : ∃ q, q = stN bs p7 := ⟨_, rfl⟩
  have x8 : p8.1 ≤ bs.length := by rw [e8]; exact stN_le _ _
  have hC : tcC bs p = ⟨vaN bs p, vaN bs p1, vaN bs p2, ⟨vaN bs p3, vaN bs p4, vaN bs p5, vaN bs p6, vaN bs p7⟩⟩ := by rw [e7, e6, e5, e4, e3, e2, e1]; rfl
  have hS : tcS bs p = p8 := by rw [e8, e7, e6, e5, e4, e3, e2, e1]; rfl
  rw [hC, hS]
  refine node_rd (V := .int .i64 (vaN bs p)) (ix := p.1) (bad := p.2) (ix' := p1.1) (bad' := p1.2) 0 ⟨[(p1.1 : Int), p1.2, vaN bs p], [], [], [bs.length, cap], [a]⟩ (fun b => #[.pointer (some ⟨b, 0, none⟩)]) H.ok H.ix rfl rfl (by intros; kernel_rfl) (by intros; kernel_rfl) (fun w b h => by rw [e1]; exact rint_any b a cap bs p.1 p.2 w h) [.sl 1 (.var 2) (.var 3), .int .i64 (.var 2), .int .i64 (.var 3)] rfl (by intros; kernel_rfl) (by intros; kernel_rfl) rfl rfl oneNil ?_
  refine node_rd (V := .int .i64 (vaN bs p1)) (ix := p1.1) (bad := p1.2) (ix' := p2.1) (bad' := p2.2) 0 ⟨[(p2.1 : Int), p2.2, vaN bs p1], [], [], [bs.length, cap], [a]⟩ (fun b => #[.pointer (some ⟨b, 0, none⟩)]) H.ok x1 rfl rfl (by intros; kernel_rfl) (by intros; kernel_rfl) (fun w b h => by rw [e2]; exact rint_any b a cap bs p1.1 p1.2 w h) [.sl 2 (.var 4) (.var 5), .int .i64 (.var 5), .int .i64 (.var 6)] rfl (by intros; kernel_rfl) (by intros; kernel_rfl) rfl rfl oneNil ?_
  refine node_rd (V := .int .i64 (vaN bs p2)) (ix := p2.1) (bad := p2.2) (ix' := p3.1) (bad' := p3.2) 0 ⟨[(p3.1 : Int), p3.2, vaN bs p2], [], [], [bs.length, cap], [a]⟩ (fun b => #[.pointer (some ⟨b, 0, none⟩)]) H.ok x2 rfl rfl (by intros; kernel_rfl) (by intros; kernel_rfl) (fun w b h => by rw [e3]; exact rint_any b a cap bs p2.1 p2.2 w h) [.sl 3 (.var 6) (.var 7), .int .i64 (.var 8), .int .i64 (.var 9)] rfl (by intros; kernel_rfl) (by intros; kernel_rfl) rfl rfl oneNil ?_
  refine node_rd (V := .int .i64 (vaN bs p3)) (ix := p3.1) (bad := p3.2) (ix' := p4.1) (bad' := p4.2) 0 ⟨[(p4.1 : Int), p4.2, vaN bs p3], [], [], [bs.length, cap], [a]⟩ (fun b => #[.pointer (some ⟨b, 0, none⟩)]) H.ok x3 rfl rfl (by intros; kernel_rfl) (by intros; kernel_rfl) (fun w b h => by rw [e4]; exact rint_any b a cap bs p3.1 p3.2 w h) [.sl 4 (.var 8) (.var 9), .int .i64 (.var 11), .int .i64 (.var 12)] rfl (by intros; kernel_rfl) (by intros; kernel_rfl) rfl rfl oneNil ?_
  refine node_rd (V := .int .i64 (vaN bs p4)) (ix := p4.1) (bad := p4.2) (ix' := p5.1) (bad' := p5.2) 0 ⟨[(p5.1 : Int), p5.2, vaN bs p4], [], [], [bs.length, cap], [a]⟩ (fun b => #[.pointer (some ⟨b, 0, none⟩)]) H.ok x4 rfl rfl (by intros; kernel_rfl) (by intros; kernel_rfl) (fun w b h => by rw [e5]; exact rint_any b a cap bs p4.1 p4.2 w h) [.sl 5 (.var 10) (.var 11), .int .i64 (.var 14), .int .i64 (.var 15)] rfl (by intros; kernel_rfl) (by intros; kernel_rfl) rfl rfl oneNil ?_
  refine node_rd (V := .int .i64 (vaN bs p5)) (ix := p5.1) (bad := p5.2) (ix' := p6.1) (bad' := p6.2) 0 ⟨[(p6.1 : Int), p6.2, vaN bs p5], [], [], [bs.length, cap], [a]⟩ (fun b => #[.pointer (some ⟨b, 0, none⟩)]) H.ok x5 rfl rfl (by intros; kernel_rfl) (by intros; kernel_rfl) (fun w b h => by rw [e6]; exact rint_any b a cap bs p5.1 p5.2 w h) [.sl 6 (.var 12) (.var 13), .int .i64 (.var 17), .int .i64 (.var 18)] rfl (by intros; kernel_rfl) (by intros; kernel_rfl) rfl rfl oneNil ?_
  refine node_rd (V := .int .i64 (vaN bs p6)) (ix := p6.1) (bad := p6.2) (ix' := p7.1) (bad' := p7.2) 0 ⟨[(p7.1 : Int), p7.2, vaN bs p6], [], [], [bs.length, cap], [a]⟩ (fun b => #[.pointer (some ⟨b, 0, none⟩)]) H.ok x6 rfl rfl (by intros; kernel_rfl) (by intros; kernel_rfl) (fun w b h => by rw [e7]; exact rint_any b a cap bs p6.1 p6.2 w h) [.sl 7 (.var 14) (.var 15), .int .i64 (.var 20), .int .i64 (.var 21)] rfl (by intros; kernel_rfl) (by intros; kernel_rfl) rfl rfl oneNil ?_
  refine node_rd (V := .int .i64 (vaN bs p7)) (ix := p7.1) (bad := p7.2) (ix' := p8.1) (bad' := p8.2) 0 ⟨[(p8.1 : Int), p8.2, vaN bs p7], [], [], [bs.length, cap], [a]⟩ (fun b => #[.pointer (some ⟨b, 0, none⟩)]) H.ok x7 rfl rfl (by intros; kernel_rfl) (by intros; kernel_rfl) (fun w b h => by rw [e8]; exact rint_any b a cap bs p7.1 p7.2 w h) [.sl 8 (.var 16) (.var 17), .int .i64 (.var 23), .int .i64 (.var 24)] rfl (by intros; kernel_rfl) (by intros; kernel_rfl) rfl rfl oneNil ?_
  exact at1_done (by intros; kernel_rfl) (by intros; kernel_rfl)
/-- What reading a value does. -/
def RdR (w : World) (nb : Nat) (v : Vl) (us : List Value) (e : Ending) (w' : World) : Prop := ∃ a1 c1 a2 c2, e = .returned (vlV v a1 c1 a2 c2) ∧ Blk w' nb us 83 ∧ (HX.rw 8 29 a1 v.cs.length c1 (ccells v.cs)).X w' ∧ (HX.rw 1 3 a2 v.ns.length c2 (v.ns.map (Value.int .i64))).X w' ∧
  (∀ k, c1 ≠ 0 → abk a1 = some k → w.heap.size ≤ k) ∧ (∀ k, c2 ≠ 0 → abk a2 = some k → w.heap.size ≤ k) ∧ (∀ k, c1 ≠ 0 → abk a1 = some k → c2 ≠ 0 → abk a2 = some k → False) ∧ w.grownBy w' (some nb)
def crow (a : Option Addr) (n c : Nat) (cs : List CmD) : HX := HX.rw 8 29 a n c (ccells cs)
def nrow (a : Option Addr) (n c : Nat) (ns : List Int) : HX := HX.rw 1 3 a n c (ns.map (Value.int .i64))
def RI1 (W : World) (a : Option Addr) (cap : Nat) (bs : List Int) (kd : Int) (n : Nat) (q : Nat × Int) (vs : Vals) (hx : HX) : Prop := ∃ (k : Nat) (a1 : Option Addr) (c1 : Nat), k ≤ n ∧ (∀ j, c1 ≠ 0 → abk a1 = some j → W.heap.size ≤ j ∧ ¬ (HX.cl a (bcells bs)).F j) ∧
  vs = ⟨[(k : Int), ((itN (tcS bs) k q).1 : Int), (itN (tcS bs) k q).2, kd], [], [], [bs.length, cap, k, c1, 0, 0], [a, a1, none]⟩ ∧ hx = (HX.cl a (bcells bs)).and (crow a1 k c1 (csN bs k q))
def RI2 (W : World) (a : Option Addr) (cap : Nat) (bs : List Int) (kd : Int) (n : Nat) (cs : List CmD) (a1 : Option Addr) (c1 : Nat) (m : Nat) (q : Nat × Int) (vs : Vals) (hx : HX) : Prop := ∃ (k : Nat) (a2 : Option Addr) (c2 : Nat), k ≤ m ∧ (∀ j, c2 ≠ 0 → abk a2 = some j → W.heap.size ≤ j ∧ ¬ ((HX.cl a (bcells bs)).and (crow a1 n c1 cs)).F j) ∧
  vs = ⟨[(k : Int), ((itN (stC 9 bs) k q).1 : Int), (itN (stC 9 bs) k q).2, kd], [], [], [bs.length, cap, n, c1, k, c2], [a, a1, a2]⟩ ∧ hx = ((HX.cl a (bcells bs)).and (crow a1 n c1 cs)).and (nrow a2 k c2 (nsN bs k q))
theorem ccells_snoc (cs : List CmD) (c : CmD) : ccells cs ++ c.cells = ccells (cs ++ [c]) := by unfold ccells; rw [List.flatMap_append]; simp
theorem ncells_snoc (ns : List Int) (n : Int) : ns.map (Value.int .i64) ++ [.int .i64 n] = (ns ++ [n]).map (Value.int .i64) := by rw [List.map_append]; rfl
theorem cmd_one (c : CmD) : ∀ v ∈ c.cells, v.oneCell' = true := fun v hv => by
  simp only [CmD.cells, List.mem_cons, List.not_mem_nil, or_false] at hv
  rcases hv with rfl | rfl | rfl | rfl | rfl | rfl | rfl | rfl <;> rfl
set_option maxHeartbeats 4000000 in
theorem read_any (nb : Nat) (a : Option Addr) (cap : Nat) (bs : List Int) (p : Nat × Int) (w : World) (H : RdAt w nb a cap bs p.1 p.2) : Calls Try.prog 28 #[.pointer (some ⟨nb, 0, none⟩)] w (RdR w nb (rdV bs p) (rcP a cap bs (rdS bs p))) := by
  refine calls_at (tab_ok _) Try.func28 rfl tRead (ρ := ⟨[(p.1 : Int), p.2], [], [], [bs.length, cap], [a]⟩) (ids := [nb]) (hx := HX.cl a (bcells bs)) (M := fun x => x = nb) rfl (Facts.initx rfl oneNil H.blk rfl rfl H.mem H.sepc) ?_
  obtain ⟨kd, ekd⟩ : ∃ x : Nat, x = vaC 2 bs p := ⟨_, rfl⟩
  obtain ⟨q1, eq1⟩ : ∃ x, x = stC 2 bs p := ⟨_, rfl⟩
  obtain ⟨n, en⟩ : ∃ x : Nat, x = vaC 8 bs q1 := ⟨_, rfl⟩
  obtain ⟨q2, eq2⟩ : ∃ x, x = stC 8 bs q1 := ⟨_, rfl⟩
  have hn8 : (n : Int) ≤ 8 := by rw [en]; exact vaC_le (by decide) _ _
  have hq1 : q1.1 ≤ bs.length := by rw [eq1]; exact stC_le _ _ _
  have hq2 : q2.1 ≤ bs.length := by rw [eq2]; exact stC_le _ _ _
  refine node_rd (V := .int .i64 (kd : Int)) (ix := p.1) (bad := p.2) (ix' := q1.1) (bad' := q1.2) 0 ⟨[(q1.1 : Int), q1.2, (kd : Int)], [], [], [bs.length, cap], [a]⟩ (fun b => #[.pointer (some ⟨b, 0, none⟩), .int .i64 2]) H.ok H.ix rfl rfl (by intros; kernel_rfl) (by intros; kernel_rfl) (fun w b h => by rw [eq1, ekd]; exact rcount_any b a cap bs p.1 p.2 2 (by unfold I64; omega) w h) [.sl 1 (.var 2) (.var 3), .int .i64 (.var 2), .int .i64 (.var 3)] rfl (by intros; kernel_rfl) (by intros; kernel_rfl) rfl rfl oneNil ?_
  refine node_rd (V := .int .i64 (n : Int)) (ix := q1.1) (bad := q1.2) (ix' := q2.1) (bad' := q2.2) 0 ⟨[(q2.1 : Int), q2.2, (n : Int)], [], [], [bs.length, cap], [a]⟩ (fun b => #[.pointer (some ⟨b, 0, none⟩), .int .i64 8]) H.ok hq1 rfl rfl (by intros; kernel_rfl) (by intros; kernel_rfl) (fun w b h => by rw [eq2, en]; exact rcount_any b a cap bs q1.1 q1.2 8 (by unfold I64; omega) w h) [.sl 2 (.var 4) (.var 5), .int .i64 (.var 5), .int .i64 (.var 6)] rfl (by intros; kernel_rfl) (by intros; kernel_rfl) rfl rfl oneNil ?_
  refine loop_i (RI1 w a cap bs kd n q2) (fun vs => n - (vs.i.headD 0).toNat) (fun ids w2 hp hf => ⟨(HX.cl a (bcells bs)).and (crow none 0 0 []), ⟨⟨hf.x, HX.rw_nil _ _ _ _⟩, fun b hb => hb.elim (hf.sep b) (fun q => absurd rfl q.1)⟩, 0, none, 0, Nat.zero_le _, fun j q => absurd rfl q, rfl, rfl⟩) ?_
  rintro vs hx' hcnt ⟨k, a1, c1, hk1, hnew1, rfl, rfl⟩
  have ok1 : ∀ {a1 : Option Addr} {n c1 : Nat} {cs : List CmD}, RdOk ((HX.cl a (bcells bs)).and (crow a1 n c1 cs)) a cap bs := fun {a1 n c1 cs} => ⟨fun _ h => h.1, fun _ h => .inl h, H.byt, H.len, H.cap⟩
  have ok2 : ∀ {a1 a2 : Option Addr} {n c1 n2 c2 : Nat} {cs : List CmD} {ns : List Int}, RdOk (((HX.cl a (bcells bs)).and (crow a1 n c1 cs)).and (nrow a2 n2 c2 ns)) a cap bs := fun {a1 a2 n c1 n2 c2 cs ns} => ⟨fun _ h => h.1.1, fun _ h => .inl (.inl h), H.byt, H.len, H.cap⟩
  have hit : ∀ k, (itN (tcS bs) k q2).1 ≤ bs.length := it_le (fun _ => stN_le _ _) hq2
  by_cases hlt : k < n
  · refine br_t (show decide ((k : Int) < (n : Int)) = true from decide_eq_true (by omega)) ?_
    have hwk : IntKind.i64.wrap ((k : Int) + 1) = ((k + 1 : Nat) : Int) := by rw [wrap_i64 (by omega)]; omega
    obtain ⟨qk, eqk⟩ : ∃ x, x = itN (tcS bs) k q2 := ⟨_, rfl⟩
    obtain ⟨qn, eqn⟩ : ∃ x, x = itN (tcS bs) (k + 1) q2 := ⟨_, rfl⟩
    have hqn : tcS bs qk = qn := by rw [eqn, eqk]; rfl
    have hqk : qk.1 ≤ bs.length := by rw [eqk]; exact hit k
    obtain ⟨c, ec⟩ : ∃ c, c = tcC bs qk := ⟨_, rfl⟩
    have hcs := csN_step bs k q2
    rw [← eqk, ← ec] at hcs
    rw [← eqk]
    refine par_i ?_ ?_
    · refine node_rd (V := .agg c.cells.toArray) (ix := qk.1) (bad := qk.2) (ix' := qn.1) (bad' := qn.2) 0 ⟨[(qn.1 : Int), qn.2] ++ c.is, [], [], [bs.length, cap], [a]⟩ (fun b => #[.pointer (some ⟨b, 0, none⟩)]) ok1 hqk rfl rfl (by intros; kernel_rfl) (by intros; kernel_rfl) (fun w b h => by rw [ec, ← hqn]; exact takecmd_any b a cap bs qk w h) [.sl 6 (.var 12) (.var 13), .int .i64 (.var 12), .int .i64 (.var 13)] rfl (by intros; kernel_rfl) (by intros; kernel_rfl) rfl rfl oneNil ?_
      refine node_pushs (sz := 8) (vs := c.cells) rfl Try.underlying22 info_cmd rfl (by decide) a1 k c1 (ccells (csN bs k q2)) 3 (by intros; kernel_rfl) (by intros; kernel_rfl) rfl (by intros; kernel_rfl) rfl (cmd_one c) (fun j h1 h2 => (hnew1 j h1 h2).2) (fun j h1 h2 => .inl (hnew1 j h1 h2).1) (by unfold maxLen; omega) (by omega) (by intros; kernel_rfl) rfl rfl (fun _ _ => rfl) ?_
      intro b1 d1 hd1 hf1 hor1
      rw [ccells_snoc, ← hcs]
      intro ids w2 hp hf
      refine ⟨_, ⟨hf.x, hf.sep⟩, _, rfl, ⟨k + 1, b1, d1, by omega, fun j h1 h2 => ⟨?_, hf1 j h2⟩, ?_, rfl⟩, ?_⟩
      · rcases hor1 with ⟨y1, y2⟩ | ⟨g, y1, y2, _⟩
        · exact (hnew1 j y1 (y2 ▸ h2)).1
        · rw [y1] at h2; cases h2; exact y2
      · rw [← eqn, ← hwk]; rfl
      · show n - (IntKind.i64.wrap ((k : Int) + 1)).toNat < n - ((k : Int)).toNat
        rw [hwk]; omega
    · refine node_rd (V := .agg c.cells.toArray) (ix := qk.1) (bad := qk.2) (ix' := qn.1) (bad' := qn.2) 0 ⟨[(qn.1 : Int), qn.2] ++ c.is, [], [], [bs.length, cap], [a]⟩ (fun b => #[.pointer (some ⟨b, 0, none⟩)]) ok1 hqk rfl rfl (by intros; kernel_rfl) (by intros; kernel_rfl) (fun w b h => by rw [ec, ← hqn]; exact takecmd_any b a cap bs qk w h) [.sl 6 (.var 12) (.var 13), .int .i64 (.var 12), .int .i64 (.var 13)] rfl (by intros; kernel_rfl) (by intros; kernel_rfl) rfl rfl oneNil ?_
      refine par_i ?_ ?_
      · refine node_pushs (sz := 8) (vs := c.cells) rfl Try.underlying22 info_cmd rfl (by decide) a1 k c1 (ccells (csN bs k q2)) 3 (by intros; kernel_rfl) (by intros; kernel_rfl) rfl (by intros; kernel_rfl) rfl (cmd_one c) (fun j h1 h2 => (hnew1 j h1 h2).2) (fun j h1 h2 => .inl (hnew1 j h1 h2).1) (by unfold maxLen; omega) (by omega) (by intros; kernel_rfl) rfl rfl (fun _ _ => rfl) ?_
        intro b1 d1 hd1 hf1 hor1
        rw [ccells_snoc, ← hcs]
        intro ids w2 hp hf
        refine ⟨_, ⟨hf.x, hf.sep⟩, _, rfl, ⟨k + 1, b1, d1, by omega, fun j h1 h2 => ⟨?_, hf1 j h2⟩, ?_, rfl⟩, ?_⟩
        · rcases hor1 with ⟨y1, y2⟩ | ⟨g, y1, y2, _⟩
          · exact (hnew1 j y1 (y2 ▸ h2)).1
          · rw [y1] at h2; cases h2; exact y2
        · rw [← eqn, ← hwk]; rfl
        · show n - (IntKind.i64.wrap ((k : Int) + 1)).toNat < n - ((k : Int)).toNat
          rw [hwk]; omega
      · refine node_pushs (sz := 8) (vs := c.cells) rfl Try.underlying22 info_cmd rfl (by decide) a1 k c1 (ccells (csN bs k q2)) 3 (by intros; kernel_rfl) (by intros; kernel_rfl) rfl (by intros; kernel_rfl) rfl (cmd_one c) (fun j h1 h2 => (hnew1 j h1 h2).2) (fun j h1 h2 => .inl (hnew1 j h1 h2).1) (by unfold maxLen; omega) (by omega) (by intros; kernel_rfl) rfl rfl (fun _ _ => rfl) ?_
        intro b1 d1 hd1 hf1 hor1
        rw [ccells_snoc, ← hcs]
        intro ids w2 hp hf
        refine ⟨_, ⟨hf.x, hf.sep⟩, _, rfl, ⟨k + 1, b1, d1, by omega, fun j h1 h2 => ⟨?_, hf1 j h2⟩, ?_, rfl⟩, ?_⟩
        · rcases hor1 with ⟨y1, y2⟩ | ⟨g, y1, y2, _⟩
          · exact (hnew1 j y1 (y2 ▸ h2)).1
          · rw [y1] at h2; cases h2; exact y2
        · rw [← eqn, ← hwk]; rfl
        · show n - (IntKind.i64.wrap ((k : Int) + 1)).toNat < n - ((k : Int)).toNat
          rw [hwk]; omega
  · refine br_f (show decide ((k : Int) < (n : Int)) = false from decide_eq_false (by omega)) ?_
    obtain rfl : k = n := by omega
    obtain ⟨q3, eq3⟩ : ∃ x, x = itN (tcS bs) k q2 := ⟨_, rfl⟩
    have hq3 : q3.1 ≤ bs.length := by rw [eq3]; exact hit k
    obtain ⟨cs, ecs⟩ : ∃ x, x = csN bs k q2 := ⟨_, rfl⟩
    rw [← eq3, ← ecs]
    obtain ⟨m, em⟩ : ∃ x : Nat, x = vaC 7 bs q3 := ⟨_, rfl⟩
    obtain ⟨q4, eq4⟩ : ∃ x, x = stC 7 bs q3 := ⟨_, rfl⟩
    have hq4 : q4.1 ≤ bs.length := by rw [eq4]; exact stC_le _ _ _
    have hm7 : (m : Int) ≤ 7 := by rw [em]; exact vaC_le (by decide) _ _
    refine node_rd (V := .int .i64 (m : Int)) (ix := q3.1) (bad := q3.2) (ix' := q4.1) (bad' := q4.2) 0 ⟨[(q4.1 : Int), q4.2, (m : Int)], [], [], [bs.length, cap], [a]⟩ (fun b => #[.pointer (some ⟨b, 0, none⟩), .int .i64 7]) ok1 hq3 rfl rfl (by intros; kernel_rfl) (by intros; kernel_rfl) (fun w b h => by rw [eq4, em]; exact rcount_any b a cap bs q3.1 q3.2 7 (by unfold I64; omega) w h) [.sl 6 (.var 12) (.var 13), .int .i64 (.var 12), .int .i64 (.var 13)] rfl (by intros; kernel_rfl) (by intros; kernel_rfl) rfl rfl oneNil ?_
    refine loop_i (RI2 w a cap bs kd k cs a1 c1 m q4) (fun vs => m - (vs.i.headD 0).toNat) (fun ids w2 hp hf => ⟨((HX.cl a (bcells bs)).and (crow a1 k c1 cs)).and (nrow none 0 0 []), ⟨⟨hf.x, HX.rw_nil _ _ _ _⟩, fun b hb => hb.elim (hf.sep b) (fun q => absurd rfl q.1)⟩, 0, none, 0, Nat.zero_le _, fun j q => absurd rfl q, rfl, rfl⟩) ?_
    rintro vs hx' hcnt2 ⟨k2, a2, c2, hk2, hnew2, rfl, rfl⟩
    have hit2 : ∀ k, (itN (stC 9 bs) k q4).1 ≤ bs.length := it_le (fun _ => stC_le _ _ _) hq4
    by_cases hlt2 : k2 < m
    · refine br_t (show decide ((k2 : Int) < (m : Int)) = true from decide_eq_true (by omega)) ?_
      have hwk : IntKind.i64.wrap ((k2 : Int) + 1) = ((k2 + 1 : Nat) : Int) := by rw [wrap_i64 (by omega)]; omega
      obtain ⟨qk, eqk⟩ : ∃ x, x = itN (stC 9 bs) k2 q4 := ⟨_, rfl⟩
      obtain ⟨qn, eqn⟩ : ∃ x, x = itN (stC 9 bs) (k2 + 1) q4 := ⟨_, rfl⟩
      have hqn : stC 9 bs qk = qn := by rw [eqn, eqk]; rfl
      have hqk : qk.1 ≤ bs.length := by rw [eqk]; exact hit2 k2
      obtain ⟨c, ec⟩ : ∃ c : Nat, c = vaC 9 bs qk := ⟨_, rfl⟩
      have hns := nsN_step bs k2 q4
      rw [← eqk, ← ec] at hns
      rw [← eqk]
      refine par_i ?_ ?_
      · refine node_rd (V := .int .i64 (c : Int)) (ix := qk.1) (bad := qk.2) (ix' := qn.1) (bad' := qn.2) 0 ⟨[(qn.1 : Int), qn.2, (c : Int)], [], [], [bs.length, cap], [a]⟩ (fun b => #[.pointer (some ⟨b, 0, none⟩), .int .i64 9]) ok2 hqk rfl rfl (by intros; kernel_rfl) (by intros; kernel_rfl) (fun w b h => by rw [ec, ← hqn]; exact rcount_any b a cap bs qk.1 qk.2 9 (by unfold I64; omega) w h) [.sl 10 (.var 20) (.var 21), .int .i64 (.var 19), .int .i64 (.var 20)] rfl (by intros; kernel_rfl) (by intros; kernel_rfl) rfl rfl oneNil ?_
        refine node_pushs (sz := 1) (vs := [.int .i64 (c : Int)]) rfl Try.underlying23 info_int1 rfl (by decide) a2 k2 c2 ((nsN bs k2 q4).map (Value.int .i64)) 3 (by intros; kernel_rfl) (by intros; kernel_rfl) rfl (by intros; kernel_rfl) rfl (by simp [Value.oneCell']) (fun j h1 h2 => (hnew2 j h1 h2).2) (fun j h1 h2 => .inl (hnew2 j h1 h2).1) (by unfold maxLen; omega) (by omega) (by intros; kernel_rfl) rfl rfl (fun _ _ => rfl) ?_
        intro b1 d1 hd1 hf1 hor1
        rw [ncells_snoc, ← hns]
        intro ids w2 hp hf
        refine ⟨_, ⟨hf.x, hf.sep⟩, _, rfl, ⟨k2 + 1, b1, d1, by omega, fun j h1 h2 => ⟨?_, hf1 j h2⟩, ?_, rfl⟩, ?_⟩
        · rcases hor1 with ⟨y1, y2⟩ | ⟨g, y1, y2, _⟩
          · exact (hnew2 j y1 (y2 ▸ h2)).1
          · rw [y1] at h2; cases h2; exact y2
        · rw [← eqn, ← hwk]; rfl
        · show m - (IntKind.i64.wrap ((k2 : Int) + 1)).toNat < m - ((k2 : Int)).toNat
          rw [hwk]; omega
      · refine node_rd (V := .int .i64 (c : Int)) (ix := qk.1) (bad := qk.2) (ix' := qn.1) (bad' := qn.2) 0 ⟨[(qn.1 : Int), qn.2, (c : Int)], [], [], [bs.length, cap], [a]⟩ (fun b => #[.pointer (some ⟨b, 0, none⟩), .int .i64 9]) ok2 hqk rfl rfl (by intros; kernel_rfl) (by intros; kernel_rfl) (fun w b h => by rw [ec, ← hqn]; exact rcount_any b a cap bs qk.1 qk.2 9 (by unfold I64; omega) w h) [.sl 10 (.var 20) (.var 21), .int .i64 (.var 19), .int .i64 (.var 20)] rfl (by intros; kernel_rfl) (by intros; kernel_rfl) rfl rfl oneNil ?_
        refine par_i ?_ ?_
        · refine node_pushs (sz := 1) (vs := [.int .i64 (c : Int)]) rfl Try.underlying23 info_int1 rfl (by decide) a2 k2 c2 ((nsN bs k2 q4).map (Value.int .i64)) 3 (by intros; kernel_rfl) (by intros; kernel_rfl) rfl (by intros; kernel_rfl) rfl (by simp [Value.oneCell']) (fun j h1 h2 => (hnew2 j h1 h2).2) (fun j h1 h2 => .inl (hnew2 j h1 h2).1) (by unfold maxLen; omega) (by omega) (by intros; kernel_rfl) rfl rfl (fun _ _ => rfl) ?_
          intro b1 d1 hd1 hf1 hor1
          rw [ncells_snoc, ← hns]
          intro ids w2 hp hf
          refine ⟨_, ⟨hf.x, hf.sep⟩, _, rfl, ⟨k2 + 1, b1, d1, by omega, fun j h1 h2 => ⟨?_, hf1 j h2⟩, ?_, rfl⟩, ?_⟩
          · rcases hor1 with ⟨y1, y2⟩ | ⟨g, y1, y2, _⟩
            · exact (hnew2 j y1 (y2 ▸ h2)).1
            · rw [y1] at h2; cases h2; exact y2
          · rw [← eqn, ← hwk]; rfl
          · show m - (IntKind.i64.wrap ((k2 : Int) + 1)).toNat < m - ((k2 : Int)).toNat
            rw [hwk]; omega
        · refine node_pushs (sz := 1) (vs := [.int .i64 (c : Int)]) rfl Try.underlying23 info_int1 rfl (by decide) a2 k2 c2 ((nsN bs k2 q4).map (Value.int .i64)) 3 (by intros; kernel_rfl) (by intros; kernel_rfl) rfl (by intros; kernel_rfl) rfl (by simp [Value.oneCell']) (fun j h1 h2 => (hnew2 j h1 h2).2) (fun j h1 h2 => .inl (hnew2 j h1 h2).1) (by unfold maxLen; omega) (by omega) (by intros; kernel_rfl) rfl rfl (fun _ _ => rfl) ?_
          intro b1 d1 hd1 hf1 hor1
          rw [ncells_snoc, ← hns]
          intro ids w2 hp hf
          refine ⟨_, ⟨hf.x, hf.sep⟩, _, rfl, ⟨k2 + 1, b1, d1, by omega, fun j h1 h2 => ⟨?_, hf1 j h2⟩, ?_, rfl⟩, ?_⟩
          · rcases hor1 with ⟨y1, y2⟩ | ⟨g, y1, y2, _⟩
            · exact (hnew2 j y1 (y2 ▸ h2)).1
            · rw [y1] at h2; cases h2; exact y2
          · rw [← eqn, ← hwk]; rfl
          · show m - (IntKind.i64.wrap ((k2 : Int) + 1)).toNat < m - ((k2 : Int)).toNat
            rw [hwk]; omega
    · refine br_f (show decide ((k2 : Int) < (m : Int)) = false from decide_eq_false (by omega)) ?_
      obtain rfl : k2 = m := by omega
      have hV : rdV bs p = ⟨(kd : Int), cs, nsN bs k2 q4⟩ := by
        rw [ekd, ecs, eq4, em, eq3, eq2, en, eq1]; rfl
      have hS : rdS bs p = itN (stC 9 bs) k2 q4 := by
        rw [eq4, em, eq3, eq2, en, eq1]; rfl
      have hcl : cs.length = k := by rw [ecs, csN_len]
      have hnl := nsN_len bs k2 q4
      rw [hV, hS]
      intro ids w2 hp hf
      have e0 := hf.blkAt 0 rfl
      rw [idAt0 hp] at e0
      refine ⟨a1, c1, a2, c2, ?_, e0, ?_, ?_, fun j h1 h2 => (hnew1 j h1 h2).1, fun j h1 h2 => (hnew2 j h1 h2).1, fun j h1 h2 h3 h4 => (hnew2 j h3 h4).2 (.inr ⟨h1, h2⟩), hf.chg.grown⟩
      · unfold vlV
        dsimp only
        rw [hcl, hnl]; rfl
      · dsimp only
        rw [hcl]; exact hf.x.1.2
      · dsimp only
        rw [hnl]; exact hf.x.2
end Go.Proofs.Yticacnankpaohaa

/- Values in new memory: Copy, Decode. -/
namespace Go.Proofs.Yticacnankpaohaa
open Go.ChangeShapes Go.WideShapes Go.ChangeAt Go.RowKit Go.Syn Go.Eng
set_option linter.unusedVariables false
set_option linter.unusedSimpArgs false
set_option maxRecDepth 100000
set_option maxRecDepth 100000 in
theorem tCpVal : (runF ⟨tt, fns, {}⟩ (Try.f11.body.getD .skip) Try.f11.results.toList (entry Try.f11.ntmps [.agg [.int .i64 (.var 0), .sl 0 (.var 0) (.var 1), .sl 1 (.var 2) (.var 3)]] [] ⟨1, 0, 0, 4, 2⟩)) =
  (.gen (.call ⟨(.builtin .append), #[(.tmp 8), (.tmp 10)], #[22, 22]⟩) 22 [(8, (.lf .nilsl)), (10, (.lf (.sl 0 (.var 0) (.var 1))))] ⟨[(25, [(.int .i64 (.var 0)), (.sl 0 (.var 0) (.var 1)), (.sl 1 (.var 2) (.var 3))]), (25, [(.int .i64 (.lit 0)), .nilsl, .nilsl]), (25, [(.int .i64 (.var 0)), .nilsl, .nilsl])], ⟨1, 0, 0, 4, 2⟩⟩ (.some (.lf (.sl 2 (.var 4) (.var 5)))) ⟨[(25, [(.int .i64 (.var 0)), (.sl 0 (.var 0) (.var 1)), (.sl 1 (.var 2) (.var 3))]), (25, [(.int .i64 (.lit 0)), .nilsl, .nilsl]), (25, [(.int .i64 (.var 0)), .nilsl, .nilsl])], ⟨1, 0, 0, 6, 3⟩⟩ (.gen (.call ⟨(.builtin .append), #[(.tmp 14), (.tmp 16)], #[23, 23]⟩) 23 [(14, (.lf .nilsl)), (16, (.lf (.sl 1 (.var 2) (.var 3))))] ⟨[(25, [(.int .i64 (.var 0)), (.sl 0 (.var 0) (.var 1)), (.sl 1 (.var 2) (.var 3))]), (25, [(.int .i64 (.lit 0)), .nilsl, .nilsl]), (25, [(.int .i64 (.var 0)), (.sl 2 (.var 4) (.var 5)), .nilsl])], ⟨1, 0, 0, 6, 3⟩⟩ (.some (.lf (.sl 3 (.var 6) (.var 7)))) ⟨[(25, [(.int .i64 (.var 0)), (.sl 0 (.var 0) (.var 1)), (.sl 1 (.var 2) (.var 3))]), (25, [(.int .i64 (.lit 0)), .nilsl, .nilsl]), (25, [(.int .i64 (.var 0)), (.sl 2 (.var 4) (.var 5)), .nilsl])], ⟨1, 0, 0, 8, 4⟩⟩ (.done (.agg [(.int .i64 (.var 0)), (.sl 2 (.var 4) (.var 5)), (.sl 3 (.var 6) (.var 7))]) ⟨[(25, [(.int .i64 (.var 0)), (.sl 0 (.var 0) (.var 1)), (.sl 1 (.var 2) (.var 3))]), (25, [(.int .i64 (.var 0)), (.sl 2 (.var 4) (.var 5)), (.sl 3 (.var 6) (.var 7))]), (25, [(.int .i64 (.var 0)), (.sl 2 (.var 4) (.var 5)), (.sl 3 (.var 6) (.var 7))])], ⟨1, 0, 0, 8, 4⟩⟩))) := by kernel_rfl
theorem rw_ltx {sz e n cap : Nat} {a : Option Addr} {xs : List Value} {w : World} (h : (HX.rw sz e a n cap xs).X w) {k : Nat} (h1 : cap ≠ 0) (h2 : abk a = some k) : k < w.heap.size := by
  obtain ⟨g, _, rfl, q, _⟩ := rw_open h h1
  cases h2; exact q
section
variable {C : Cfg} {ρ : Env} {pre : List Nat} {hx hx2 : HX} {L : Stack} {m m' : Mem} {args : List SV} {r : SV} {t : Tree} {ids : List Nat} {w w' : World}
/-- A call whose answer is new memory. -/
theorem node_out {f : Nat} (AS : List Nat → Array Value) (Q : Vals → HX → Prop) (hargs : ∀ ids, (args.map (SV.den ρ ids)).toArray = AS ids)
    (hcall : ∀ ids w, pre <+: ids → Facts C m ρ ids hx w → Calls C.P f (AS ids) w (fun e w' => ∃ vs hx2, Q vs hx2 ∧ e = .returned (r.den (ρ.add vs) ids) ∧ hx2.X w' ∧ (∀ k, hx2.F k → w.heap.size ≤ k ∧ k < w'.heap.size) ∧ Below w.heap.size w w'))
    (hhp : m'.hp = m.hp) (hfit : hpFits m.c m.hp.length m.hp = true) (hc : ∀ vs hx2, Q vs hx2 → (ρ.add vs).cnt = m'.c ∧ ∀ v, v ∈ vs.v → v.oneCell' = true)
    (h : ∀ vs hx2, Q vs hx2 → (∀ k, hx2.F k → C.W.heap.size ≤ k ∧ ¬ hx.F k) → t.holds C (ρ.add vs) pre (hx.and hx2) L) : (Tree.call f args m r m' t).holds C ρ pre hx L := by
  intro ids w hp hf
  rw [hargs]
  refine (hcall ids w hp hf).mono ?_
  rintro e w' ⟨vs, hx2, hQ, rfl, hX, hge, hbel⟩
  have hg : w.grownBy w' none := ⟨hbel.os, hbel.tape, hbel.output, hbel.size, fun k hk _ => hbel.block k hk⟩
  refine ⟨vs, ids, _, rfl, List.prefix_refl _, hf.turn (hx' := hx.and hx2) hg (fun b e => by cases e) ⟨hx.loc w w' hf.x fun k hk => hbel.block k (hf.sep k hk).1, hX⟩ (fun k hk => ?_) hhp hfit (hc _ _ hQ).1 (hc _ _ hQ).2, holds_pre t hp (h vs hx2 hQ (fun k h2 => ⟨Nat.le_trans hf.chg.size (hge k h2).1, fun q => by have := (hf.sep _ q).1; have := (hge k h2).1; omega⟩))⟩
  rcases hk with hk | hk
  · exact .inl hk
  · exact .inr (hge k hk)
/-- A call that makes a block and a row. -/
theorem Facts.newx {vs : Vals} {b ty : Nat} {cs' : List LV} (hf : Facts C m ρ ids hx w) (hbel : Below w.heap.size w w') (hb0 : w.heap.size ≤ b) (hb : w'.heap[b]? = some (.cells (cellsDen (ρ.add vs) (ids ++ [b]) cs').toArray ty (0, 0))) (hX : hx2.X w') (hge : ∀ k, hx2.F k → w.heap.size ≤ k ∧ k < w'.heap.size ∧ k ≠ b)
    (hhp : m'.hp = m.hp ++ [(ty, cs')]) (hfit : hpFits m.c m.hp.length m.hp = true) (hc : (ρ.add vs).cnt = m'.c) (h1 : ∀ v, v ∈ vs.v → v.oneCell' = true) : Facts C m' (ρ.add vs) (ids ++ [b]) (hx.and hx2) w' := by
  have hpre : ids <+: ids ++ [b] := List.prefix_append _ _
  refine ⟨by rw [hhp]; simp [hf.len], ?_, fun k t2 cs2 hk => ?_, ?_, hf.chg.trans (chg_of_below hbel), ⟨hx.loc w w' hf.x (fun b hb2 => hbel.block b (hf.sep b hb2).1), hX⟩, ?_, envUp hf hc h1⟩
  · refine List.nodup_append.2 ⟨hf.nod, by simp, ?_⟩
    intro x hx1 y hy
    simp only [List.mem_singleton] at hy
    subst hy
    have := hf.id_lt hx1
    omega
  · rw [hhp, List.getElem?_append] at hk
    split at hk
    · rename_i hlt
      rw [idAt_pre hpre (hf.len ▸ hlt), hbel.block _ (hf.id_lt (idAt_mem (hf.len ▸ hlt))), hf.blk k t2 cs2 hk, cellsDen_add hf.cnt.cnt hpre hf.len (List.all_eq_true.1 hfit _ (List.mem_of_getElem? hk))]
    · rename_i hge
      have hk0 : k - m.hp.length = 0 := by
        rcases Nat.eq_zero_or_pos (k - m.hp.length) with q | q
        · exact q
        · rw [List.getElem?_eq_none (by simp; omega)] at hk; cases hk
      rw [hk0] at hk
      simp only [List.getElem?_cons_zero, Option.some.injEq, Prod.mk.injEq] at hk
      obtain ⟨rfl, rfl⟩ := hk
      have hkl : k = ids.length := by have := hf.len; omega
      have h2 : idAt (ids ++ [b]) k = b := by simp [idAt, hkl]
      rw [h2]; exact hb
  · intro id hid
    rcases List.mem_append.1 hid with h | h
    · exact hf.own id h
    · simp only [List.mem_singleton] at h; subst h; exact .inl (Nat.le_trans hf.chg.size hb0)
  · intro b2 hb2
    simp only [List.mem_append, List.mem_singleton, not_or]
    rcases hb2 with hb2 | hb2
    · obtain ⟨h3, h4⟩ := hf.sep b2 hb2
      exact ⟨Nat.lt_of_lt_of_le h3 hbel.size, h4, by omega⟩
    · obtain ⟨h3, h4, h5⟩ := hge b2 hb2
      exact ⟨h4, fun q => by have := hf.id_lt q; omega, h5⟩
theorem node_rnew {a : Option Addr} {cap : Nat} {bs : List Int} (cs' : List LV) (vs : Option Addr → Nat → Vals) (hP : C.P = Try.prog) (hargs : ∀ ids, (args.map (SV.den ρ ids)).toArray = #[.slice a bs.length cap]) (hH : ∀ ids w, Facts C m ρ ids hx w → Cells w a (bcells bs)) (hl : bs.length ≤ 140737488355328)
    (hcs' : ∀ a' c' ids, cellsDen (ρ.add (vs a' c')) ids cs' = rcells a' c' bs 0 0) (hr : r = .lf (.ptr m.hp.length 0)) (hhp : m'.hp = m.hp ++ [(83, cs')]) (hfit : hpFits m.c m.hp.length m.hp = true) (hc : ∀ a' c', (ρ.add (vs a' c')).cnt = m'.c) (h1 : ∀ a' c' v, v ∈ (vs a' c').v → v.oneCell' = true)
    (h : ∀ a' c', bs.length ≤ c' → (bs ≠ [] → a'.isSome = true) → (∀ k, c' ≠ 0 → abk a' = some k → C.W.heap.size ≤ k ∧ ¬ hx.F k) → t.holds C (ρ.add (vs a' c')) pre (hx.and (frow a' c' bs)) L) : (Tree.call 27 args m r m' t).holds C ρ pre hx L := by
  intro ids w hp hf
  rw [hargs, hP]
  refine (rnew_any a cap bs w (hH ids w hf) hl).mono ?_
  rintro e w' ⟨b, a', c', rfl, hb0, hb, hX, hfr, hbel⟩
  have hpre : ids <+: ids ++ [b] := List.prefix_append _ _
  refine ⟨vs a' c', ids ++ [b], hx.and (frow a' c' bs), ?_, hpre, Facts.newx hf hbel hb0 ?_ hX (fun k hk => ⟨(hfr k hk.1 hk.2).1, rw_ltx hX hk.1 hk.2, (hfr k hk.1 hk.2).2⟩) hhp hfit (hc _ _) (h1 _ _), holds_pre t (hp.trans hpre) (h a' c' (frow_le hX) (row_some hX) fun k k1 k2 => ⟨Nat.le_trans hf.chg.size (hfr k k1 k2).1, fun q => by have := (hf.sep _ q).1; have := (hfr k k1 k2).1; omega⟩)⟩
  · subst hr
    simp only [SV.den, LV.den, idAt_last _ _ hf.len]
  · rw [hcs']; exact hb
theorem node_read {a : Option Addr} {cap : Nat} {bs : List Int} {p : Nat × Int} {cs : List LV} (n : Nat) (vs : Option Addr → Nat → Option Addr → Nat → Vals) (hok : RdOk hx a cap bs) (hix : p.1 ≤ bs.length) (hP : C.P = Try.prog) (hn : m.hp[n]? = some (83, cs)) (hcs : ∀ ids, cellsDen ρ ids cs = rcells a cap bs p.1 p.2)
    (hargs : ∀ ids, (args.map (SV.den ρ ids)).toArray = #[.pointer (some ⟨idAt ids n, 0, none⟩)]) (cs' : List LV) (hhp : m'.hp = m.hp.set n (83, cs')) (hcs' : ∀ a1 c1 a2 c2 ids, cellsDen (ρ.add (vs a1 c1 a2 c2)) ids cs' = rcP a cap bs (rdS bs p)) (hr : ∀ a1 c1 a2 c2 ids, r.den (ρ.add (vs a1 c1 a2 c2)) ids = vlV (rdV bs p) a1 c1 a2 c2)
    (hfit : hpFits m.c m.hp.length m.hp = true) (hc : ∀ a1 c1 a2 c2, (ρ.add (vs a1 c1 a2 c2)).cnt = m'.c) (h1 : ∀ a1 c1 a2 c2 v, v ∈ (vs a1 c1 a2 c2).v → v.oneCell' = true)
    (h : ∀ a1 c1 a2 c2, (∀ k, c1 ≠ 0 → abk a1 = some k → C.W.heap.size ≤ k ∧ ¬ hx.F k) → (∀ k, c2 ≠ 0 → abk a2 = some k → C.W.heap.size ≤ k ∧ ¬ hx.F k) → (∀ k, c1 ≠ 0 → abk a1 = some k → c2 ≠ 0 → abk a2 = some k → False) → t.holds C (ρ.add (vs a1 c1 a2 c2)) pre ((hx.and (crow a1 (rdV bs p).cs.length c1 (rdV bs p).cs)).and (nrow a2 (rdV bs p).ns.length c2 (rdV bs p).ns)) L) : (Tree.call 28 args m r m' t).holds C ρ pre hx L := by
  intro ids w hp hf
  rw [hargs, hP]
  have hlt : n < m.hp.length := by
    rcases Nat.lt_or_ge n m.hp.length with q | q
    · exact q
    · rw [List.getElem?_eq_none q] at hn; cases hn
  have hmem := idAt_mem (ids := ids) (n := n) (hf.len ▸ hlt)
  refine (read_any (idAt ids n) a cap bs p w (rd_at n hok hix hf hn hcs)).mono ?_
  rintro e w' ⟨a1, c1, a2, c2, rfl, hb, hX1, hX2, g1, g2, g3, hg⟩
  refine ⟨vs a1 c1 a2 c2, ids, _, by rw [hr], List.prefix_refl _, hf.act (F := fun b => b = idAt ids n) ⟨hg.os, hg.tape, hg.output, hg.size, fun k hk q => hg.block k hk (fun e => q (Option.some.inj e))⟩ (fun b q => .inl q) hn ?_ (hx' := (hx.and (crow a1 (rdV bs p).cs.length c1 (rdV bs p).cs)).and (nrow a2 (rdV bs p).ns.length c2 (rdV bs p).ns)) ⟨⟨hx.loc w w' hf.x (fun k hk => ?_), hX1⟩, hX2⟩ (fun k hk => ?_) hhp hfit (hc _ _ _ _) (h1 _ _ _ _), holds_pre t hp (h a1 c1 a2 c2 ?_ ?_ g3)⟩
  · rw [hcs']; exact hb
  · exact hg.block k (hf.sep k hk).1 (fun e => (hf.sep k hk).2 (Option.some.inj e ▸ hmem))
  · rcases hk with (hk | hk) | hk
    · exact .inl hk
    · exact .inr ⟨g1 k hk.1 hk.2, rw_ltx hX1 hk.1 hk.2⟩
    · exact .inr ⟨g2 k hk.1 hk.2, rw_ltx hX2 hk.1 hk.2⟩
  · intro k k1 k2
    exact ⟨Nat.le_trans hf.chg.size (g1 k k1 k2), fun q => by have := (hf.sep _ q).1; have := g1 k k1 k2; omega⟩
  · intro k k1 k2
    exact ⟨Nat.le_trans hf.chg.size (g2 k k1 k2), fun q => by have := (hf.sep _ q).1; have := g2 k k1 k2; omega⟩
end
/-- Where a value lies. -/
def vlX (v : Vl) (a1 a2 : Option Addr) : HX := (HX.cl a1 (ccells v.cs)).and (HX.cl a2 (v.ns.map (Value.int .i64)))
structure VlFit (v : Vl) : Prop where
  n : ∀ n ∈ v.ns, I64 n
  l1 : v.cs.length ≤ 2199023255552
  l2 : v.ns.length ≤ 17592186044416
theorem VlFit.at_ {v : Vl} (h : VlFit v) {a1 a2 : Option Addr} {w : World} (hX : (vlX v a1 a2).X w) : VlAt w v a1 a2 := ⟨hX.1, Ints.of_cells (by have := h.l2; omega) h.n hX.2, h.l1, h.l2⟩
theorem VlAt.X {v : Vl} {a1 a2 : Option Addr} {w : World} (H : VlAt w v a1 a2) : (vlX v a1 a2).X w := ⟨H.c, H.n.cells⟩
theorem VlAt.fit {v : Vl} {a1 a2 : Option Addr} {w : World} (H : VlAt w v a1 a2) : VlFit v := ⟨H.n.fits, H.l1, H.l2⟩
theorem vlX_sep {v : Vl} {a1 a2 : Option Addr} {w : World} (h : (vlX v a1 a2).X w) : ∀ k, (vlX v a1 a2).F k → k < w.heap.size := fun k hk => hk.elim (cl_sep h.1 k) (cl_sep h.2 k)
/-- What a function that answers a value in new memory does. -/
def VlNew (w : World) (V : Value → Value) (v : Vl) (e : Ending) (w' : World) : Prop := ∃ a1 c1 a2 c2, e = .returned (V (vlV v a1 c1 a2 c2)) ∧ (vlX v a1 a2).X w' ∧ (∀ k, (vlX v a1 a2).F k → w.heap.size ≤ k) ∧ Below w.heap.size w w'
section
variable {C : Cfg} {ρ : Env} {pre : List Nat} {hx : HX} {L : Stack} {m m' : Mem} {args : List SV} {r : SV} {t : Tree}
theorem node_vl {f : Nat} {V : Value → Value} {v : Vl} (AS : List Nat → Array Value) (vs : Option Addr → Nat → Option Addr → Nat → Vals) (hargs : ∀ ids, (args.map (SV.den ρ ids)).toArray = AS ids) (hcall : ∀ ids w, pre <+: ids → Facts C m ρ ids hx w → Calls C.P f (AS ids) w (VlNew w V v))
    (hr : ∀ a1 c1 a2 c2 ids, r.den (ρ.add (vs a1 c1 a2 c2)) ids = V (vlV v a1 c1 a2 c2)) (hhp : m'.hp = m.hp) (hfit : hpFits m.c m.hp.length m.hp = true) (hc : ∀ a1 c1 a2 c2, (ρ.add (vs a1 c1 a2 c2)).cnt = m'.c) (h1 : ∀ a1 c1 a2 c2 v, v ∈ (vs a1 c1 a2 c2).v → v.oneCell' = true)
    (h : ∀ a1 c1 a2 c2, (∀ k, (vlX v a1 a2).F k → C.W.heap.size ≤ k ∧ ¬ hx.F k) → t.holds C (ρ.add (vs a1 c1 a2 c2)) pre (hx.and (vlX v a1 a2)) L) : (Tree.call f args m r m' t).holds C ρ pre hx L := by
  refine node_out AS (fun u hy => ∃ a1 c1 a2 c2, u = vs a1 c1 a2 c2 ∧ hy = vlX v a1 a2) hargs (fun ids w hp hf => ?_) hhp hfit ?_ ?_
  · refine (hcall ids w hp hf).mono ?_
    rintro e w' ⟨a1, c1, a2, c2, rfl, hX, hge, hb⟩
    exact ⟨_, _, ⟨a1, c1, a2, c2, rfl, rfl⟩, by rw [hr], hX, fun k hk => ⟨hge k hk, vlX_sep hX k hk⟩, hb⟩
  · rintro u hy ⟨a1, c1, a2, c2, rfl, rfl⟩
    exact ⟨hc _ _ _ _, h1 _ _ _ _⟩
  · rintro u hy ⟨a1, c1, a2, c2, rfl, rfl⟩ hfr
    exact h a1 c1 a2 c2 hfr
end
theorem ccells_one (cs : List CmD) : ∀ v ∈ ccells cs, v.oneCell' = true := fun v hv => by
  obtain ⟨c, _, h⟩ := List.mem_flatMap.1 hv
  exact cmd_one c v h
theorem rw_fresh {b : Option Addr} {n d sz e : Nat} {cs : List Value} {w : World} {N : Nat} (hx : (HX.rw sz e b n d cs).X w) (hk : ∀ k, d ≠ 0 → abk b = some k → N ≤ k) : ∀ k, (HX.cl b cs).F k → N ≤ k := by
  rintro k ⟨hne, rfl⟩
  have hc : d ≠ 0 := fun q => by
    rcases hx with ⟨_, _, h3⟩ | ⟨h3, _⟩
    · exact hne h3
    · exact h3 q
  obtain ⟨g, _, rfl, _⟩ := rw_open hx hc
  exact hk g hc rfl
theorem cpvl_any (v : Vl) (a1 : Option Addr) (c1 : Nat) (a2 : Option Addr) (c2 : Nat) (w : World) (H : VlAt w v a1 a2) : Calls Try.prog 11 #[vlV v a1 c1 a2 c2] w (VlNew w id v) := by
  have l1 := H.l1
  have l2 := H.l2
  refine calls_at (tab_ok _) Try.func11 rfl tCpVal (ρ := ⟨[v.k], [], [], [v.cs.length, c1, v.ns.length, c2], [a1, a2]⟩) (ids := []) (hx := vlX v a1 a2) rfl (Facts.initq rfl oneNil H.X (vlX_sep H.X)) ?_
  refine node_appends (xs := []) rfl Try.underlying22 info_cmd rfl (by decide) none 0 0 (fun _ => a1) v.cs.length c1 (ccells v.cs) (ccells_len _) (fun ids w _ _ => HX.rw_nil _ _ _ w) (fun ids w2 hp hf => hf.x.1) (ccells_one _) (fun w h => ⟨h, fun _ q => q⟩) (fun k h => absurd rfl h) (fun k h => absurd rfl h) (fun k h => absurd rfl h) (by unfold maxLen; omega) (by omega) (by intros; kernel_rfl) (by intros; kernel_rfl) (by intros; kernel_rfl) (by intros; kernel_rfl) (by intros; kernel_rfl) (by intros; kernel_rfl) ?_
  intro b1 d1 _ hd1 hw1
  refine node_appends (xs := []) rfl Try.underlying23 info_int1 rfl (by decide) none 0 0 (fun _ => a2) v.ns.length c2 (v.ns.map (Value.int .i64)) (by rw [List.length_map]; omega) (fun ids w _ _ => HX.rw_nil _ _ _ w) (fun ids w2 hp hf => hf.x.1.2) (fun x hx => by obtain ⟨n, _, rfl⟩ := List.mem_map.1 hx; rfl) (fun w h => ⟨h, fun _ q => q⟩) (fun k h => absurd rfl h) (fun k h => absurd rfl h) (fun k h => absurd rfl h) (by unfold maxLen; omega) (by omega) (by intros; kernel_rfl) (by intros; kernel_rfl) (by intros; kernel_rfl) (by intros; kernel_rfl) (by intros; kernel_rfl) (by intros; kernel_rfl) ?_
  intro b2 d2 _ hd2 hw2 ids w2 hp hf
  have e1 := hf.x.1.2
  have e2 := hf.x.2
  rw [List.nil_append] at e1 e2
  refine ⟨b1, d1, b2, d2, ?_, ⟨rw_cells e1, rw_cells e2⟩, ?_, hf.chg.below⟩
  · show Ending.returned (.agg #[.int .i64 v.k, .slice b1 (0 + v.cs.length) d1, .slice b2 (0 + v.ns.length) d2]) = _
    rw [Nat.zero_add, Nat.zero_add]; rfl
  · intro k hk
    rcases hk with hk | hk
    · exact rw_fresh e1 (fun k h1 h2 => (hw1 k h1 h2).elim (fun q => absurd rfl q.1) (fun q => q.1)) k hk
    · exact rw_fresh e2 (fun k h1 h2 => (hw2 k h1 h2).elim (fun q => absurd rfl q.1) (fun q => q.1)) k hk
/-- What bytes are decoded to. -/
def decE (bs : List Int) : Int :=
  let p := rdS bs (0, 0)
  let e := doneB bs.length p.1 p.2
  if e ≠ 0 then e else valE (rdV bs (0, 0))
def v0 : Vl := ⟨0, [], []⟩
def decV (bs : List Int) : Vl := if decE bs = 0 then rdV bs (0, 0) else v0
theorem rdV_len (bs : List Int) (p : Nat × Int) : (rdV bs p).cs.length ≤ 8 ∧ (rdV bs p).ns.length ≤ 7 := by
  refine ⟨?_, ?_⟩
  · have := vaC_le (most := 8) (by decide) bs (stC 2 bs p)
    show (csN _ _ _).length ≤ 8
    rw [csN_len]; omega
  · have := vaC_le (most := 7) (by decide) bs (rdB bs p)
    show (nsN _ _ _).length ≤ 7
    rw [nsN_len]; omega
theorem rdV_fit (bs : List Int) (p : Nat × Int) : VlFit (rdV bs p) := by
  obtain ⟨h1, h2⟩ := rdV_len bs p
  refine ⟨fun n hn => ?_, by omega, by omega⟩
  obtain ⟨j, _, rfl⟩ := List.mem_map.1 hn
  have := vaC_le (most := 9) (by decide) bs (itN (stC 9 bs) j (stC 7 bs (rdB bs p)))
  unfold I64; omega
theorem decode_any (a : Option Addr) (cap : Nat) (bs : List Int) (w : World) (H : Cells w a (bcells bs)) (hb : Byt bs) (hl : bs.length ≤ 140737488355328) : Calls Try.prog 20 #[.slice a bs.length cap] w (VlNew w (fun v => .tuple #[v, .int .i64 (decE bs)]) (decV bs)) := by
  refine calls_at (tab_ok _) Try.func20 rfl tDecode (ρ := ⟨[], [], [], [bs.length, cap], [a]⟩) (ids := []) (hx := HX.cl a (bcells bs)) rfl (Facts.initq rfl oneNil H (cl_sep H)) ?_
  obtain ⟨v, ev⟩ : ∃ v, v = rdV bs (0, 0) := ⟨_, rfl⟩
  obtain ⟨p, ep⟩ : ∃ v, v = rdS bs (0, 0) := ⟨_, rfl⟩
  obtain ⟨e, ee⟩ : ∃ v, v = doneB bs.length p.1 p.2 := ⟨_, rfl⟩
  have hE : decE bs = if e ≠ 0 then e else valE v := by rw [ee, ep, ev]; rfl
  have hV : decV bs = if decE bs = 0 then v else v0 := by rw [ev]; rfl
  have hvf : VlFit v := by rw [ev]; exact rdV_fit _ _
  refine node_rnew (a := a) (cap := cap) (bs := bs) [.sl 1 (.var 2) (.var 3), .int .i64 (.var 0), .int .i64 (.var 1)] (fun a' c' => ⟨[0, 0], [], [], [bs.length, c'], [a']⟩) rfl (by intros; kernel_rfl) (fun ids w hf => hf.x) hl (by intros; kernel_rfl) rfl rfl rfl (fun _ _ => rfl) (fun _ _ => oneNil) ?_
  intro a' c' hbc hsm hfr
  have hok : RdOk ((HX.cl a (bcells bs)).and (frow a' c' bs)) a' c' bs := ⟨fun w h => frow_cells h.2, fun k h => ?_, hb, hl, hbc⟩
  · refine node_read (p := (0, 0)) 1 (fun a1 c1 a2 c2 => ⟨[(p.1 : Int), p.2, v.k], [], [], [bs.length, c', v.cs.length, c1, v.ns.length, c2], [a', a1, a2]⟩) hok (Nat.zero_le _) rfl rfl (by intros; kernel_rfl) (by intros; kernel_rfl) [.sl 2 (.var 4) (.var 5), .int .i64 (.var 2), .int .i64 (.var 3)] rfl (by rw [← ep]; intros; rfl) (by rw [← ev]; intros; rfl) rfl (fun _ _ _ _ => rfl) (fun _ _ _ _ => oneNil) ?_
    rw [← ev]
    intro a1 c1 a2 c2 g1 g2 g3
    refine node_at1 1 83 ⟨[(p.1 : Int), e, e], [], [], [bs.length, c'], [a']⟩ (us := rcells a' c' bs p.1 p.2) (us' := rcells a' c' bs p.1 e) (V := .int .i64 e) («as» := fun b => #[.pointer (some ⟨b, 0, none⟩)]) (cs' := [.sl 5 (.var 10) (.var 11), .int .i64 (.var 5), .int .i64 (.var 6)]) (fun w b h => by rw [ee]; exact rdone_any b a' c' bs p.1 p.2 w h) (by intros; kernel_rfl) rfl (by intros; kernel_rfl) rfl (by intros; kernel_rfl) (by intros; kernel_rfl) rfl rfl oneNil ?_
    by_cases h0 : e = 0
    · refine br_f (show (e != 0) = false by simpa using h0) ?_
      refine node_pure ⟨[valE v], [], [], [], []⟩ rfl rfl rfl oneNil (fun ids w2 hp hf => vchk_any v a1 c1 a2 c2 w2 (hvf.at_ ⟨rw_cells hf.x.1.2, rw_cells hf.x.2⟩)) ?_
      rw [if_neg (fun q => q h0)] at hE
      by_cases h1 : valE v = 0
      · refine br_f (show (valE v != 0) = false by simpa using h1) ?_
        rw [hE, if_pos h1] at hV
        rw [hV, hE, h1]
        intro ids w2 hp hf
        refine ⟨a1, c1, a2, c2, rfl, ⟨rw_cells hf.x.1.2, rw_cells hf.x.2⟩, ?_, hf.chg.below⟩
        intro k hk
        rcases hk with hk | hk
        · exact rw_fresh hf.x.1.2 (fun k h1 h2 => (g1 k h1 h2).1) k hk
        · exact rw_fresh hf.x.2 (fun k h1 h2 => (g2 k h1 h2).1) k hk
      · refine br_t (show (valE v != 0) = true by simpa using h1) ?_
        rw [hE, if_neg h1] at hV
        rw [hV, hE]
        intro ids w2 hp hf
        exact ⟨none, 0, none, 0, rfl, ⟨fun h => by simp [v0, ccells] at h, fun h => by simp [v0] at h⟩, fun k hk => hk.elim (fun q => absurd rfl q.1) (fun q => absurd rfl q.1), hf.chg.below⟩
    · refine br_t (show (e != 0) = true by simpa using h0) ?_
      rw [if_pos h0] at hE
      rw [hE, if_neg h0] at hV
      rw [hV, hE]
      intro ids w2 hp hf
      exact ⟨none, 0, none, 0, rfl, ⟨fun h => by simp [v0, ccells] at h, fun h => by simp [v0] at h⟩, fun k hk => hk.elim (fun q => absurd rfl q.1) (fun q => absurd rfl q.1), hf.chg.below⟩
  · refine .inr ?_
    obtain ⟨hne, rfl⟩ := h
    have h0 : bs ≠ [] := fun q => hne (by rw [q]; rfl)
    have hc0 : c' ≠ 0 := fun q => h0 (List.eq_nil_of_length_eq_zero (by omega))
    exact ⟨hc0, by obtain ⟨x, hx⟩ := Option.isSome_iff_exists.1 (hsm h0); rw [hx]; rfl⟩
end Go.Proofs.Yticacnankpaohaa

/- The walks of layer 6's laws: the head, ValueChecks. -/
namespace Go.Proofs.Yticacnankpaohaa
open Go.ChangeShapes Go.WideShapes Go.ChangeAt Go.RowKit Go.Syn Go.Eng
set_option linter.unusedVariables false
set_option linter.unusedSimpArgs false
set_option maxRecDepth 100000
def st2 : Vl := ⟨2, [], [1, 2]⟩
def st2B : List Int := [1, 2, 0, 1, 2, 1, 1, 1, 2]
theorem st2_e : valE st2 = 0 := by kernel_rfl
theorem st2_b : vlB st2 = st2B := by kernel_rfl
theorem st2_d : decE st2B = 0 := by kernel_rfl
theorem st2_r : rdV st2B (0, 0) = st2 := by kernel_rfl
theorem st2_v : decV st2B = st2 := by unfold decV; rw [if_pos st2_d, st2_r]
theorem st2_byt : Byt st2B := by unfold Byt st2B; decide
theorem st2_fit : VlFit st2 := ⟨by unfold st2 I64; decide, by decide, by decide⟩
theorem stop_any (w : World) : Calls Try.prog 32 #[] w (VlNew w id st2) := by
  refine calls_at (tab_ok _) Try.func32 rfl tStop (ρ := ⟨[], [], [], [], []⟩) (ids := []) rfl (Facts.initP rfl oneNil) ?_
  intro ids w2 hp hf
  have hmem := idAt_mem (ids := ids) (n := 1) (by rw [hf.len]; decide)
  have hge : w.heap.size ≤ idAt ids 1 := (hf.own _ hmem).resolve_right (fun e => e)
  refine ⟨none, 0, some ⟨idAt ids 1, 0, none⟩, 2, rfl, ⟨fun h => by simp [st2, ccells] at h, blk_cells (hf.blkAt 1 rfl)⟩, fun k hk => ?_, hf.chg.below⟩
  rcases hk with hk | hk
  · exact absurd rfl hk.1
  · obtain ⟨_, rfl⟩ := hk
    exact hge
theorem head_any (w : World) : Calls Try.prog 9 #[] w (PureAt w (.bool true)) := by
  refine calls_at (tab_ok _) Try.func9 rfl tHead6 (ρ := ⟨[], [], [], [], []⟩) (ids := []) rfl (Facts.initP rfl oneNil) ?_
  refine node_vl (V := id) (v := st2) (fun _ => #[]) (fun a1 c1 a2 c2 => ⟨[2], [], [], [0, c1, 2, c2], [a1, a2]⟩) (by intros; kernel_rfl) (fun ids w _ _ => stop_any w) (by intros; kernel_rfl) rfl rfl (by intros; kernel_rfl) (fun _ _ _ _ => oneNil) ?_
  intro a1 c1 a2 c2 _
  refine node_newi (V := fun s => .tuple #[s, .int .i64 0]) (bs := st2B) (fun ids => #[vlV st2 a1 c1 a2 c2]) (fun a' c' => ⟨[0], [], [], [9, c'], [a']⟩) (by intros; kernel_rfl) (fun ids w2 hp hf => ?_) (by intros; kernel_rfl) rfl rfl (by intros; kernel_rfl) (fun _ _ => oneNil) ?_
  · have := encode_any st2 a1 c1 a2 c2 (by unfold st2 I64; decide) (fun c h => by cases h) w2 (st2_fit.at_ hf.x.2)
    rw [st2_e, if_pos rfl, st2_b] at this
    exact this
  intro ab cb _ _
  refine node_vl (V := fun v => .tuple #[v, .int .i64 0]) (v := st2) (fun ids => #[.slice (some ⟨idAt ids 0, 0, none⟩) 9 9]) (fun a1 c1 a2 c2 => ⟨[2, 0], [], [], [0, c1, 2, c2], [a1, a2]⟩) (by intros; kernel_rfl) (fun ids w2 hp hf => ?_) (by intros; kernel_rfl) rfl rfl (by intros; kernel_rfl) (fun _ _ _ _ => oneNil) ?_
  · have := decode_any (some ⟨idAt ids 0, 0, none⟩) 9 st2B w2 (blk_cells (hf.blkAt 0 rfl)) st2_byt (by decide)
    rw [st2_d, st2_v] at this
    exact this
  intro b1 d1 b2 d2 _
  refine br_t (by kernel_rfl) ?_
  refine node_pure ⟨[], [true], [], [], []⟩ rfl rfl rfl oneNil (fun ids w2 hp hf => ?_) ?_
  · have := sameb_any ab cb st2B (some ⟨idAt ids 2, 0, none⟩) 9 st2B w2 (frow_cells hf.x.1.2) (blk_cells (hf.blkAt 2 rfl)) (by decide)
    rw [decide_eq_true rfl] at this
    exact this
  refine br_t rfl ?_
  refine br_t (by kernel_rfl) ?_
  refine node_vl (V := id) (v := st2) (fun _ => #[]) (fun a1 c1 a2 c2 => ⟨[2], [], [], [0, c1, 2, c2], [a1, a2]⟩) (by intros; kernel_rfl) (fun ids w _ _ => stop_any w) (by intros; kernel_rfl) rfl rfl (by intros; kernel_rfl) (fun _ _ _ _ => oneNil) ?_
  intro e1 f1 e2 f2 _
  refine node_pure ⟨[], [true], [], [], []⟩ rfl rfl rfl oneNil (fun ids w2 hp hf => ?_) ?_
  · have := samev_any st2 b1 d1 b2 d2 st2 e1 f1 e2 f2 w2 (st2_fit.at_ hf.x.1.2) (st2_fit.at_ hf.x.2)
    rw [vlSame_t rfl] at this
    exact this
  exact pure_done (by intros; kernel_rfl)
theorem ch9_any (w : World) : Calls Try.prog 10 #[.agg #[.int .i64 9, .slice none 0 0, .slice none 0 0]] w (PureAt w (.int .i64 25)) :=
  vchk_any ⟨9, [], []⟩ none 0 none 0 w ⟨fun h => by simp [ccells] at h, Ints.nil, by decide, by decide⟩
/-- A command, opened. -/
def cmDat (c : CmD) : Dat := .parts [.int .i64 c.sess, .int .i64 c.seq, .int .i64 c.ack, .parts [.int .i64 c.op.kind, .int .i64 c.op.reg, .int .i64 c.op.tg, .int .i64 c.op.re, .int .i64 c.op.im]]
def CmFit (c : CmD) : Prop := ∀ i ∈ c.is, I64 i
theorem opn_int {w : World} {d : Dat} (h : d.In Try.prog w 3) : ∃ k : Int, d = .int .i64 k ∧ I64 k := by
  obtain ⟨k, rfl, hk⟩ := in_int Try.underlying3 h
  exact ⟨k, rfl, I64.of_wf hk⟩
theorem opn_cmd {w : World} {d : Dat} (h : d.In Try.prog w 29) : ∃ c : CmD, d = cmDat c ∧ CmFit c := by
  obtain ⟨ds, rfl, g⟩ := in_struct Try.underlying29 h
  obtain ⟨d0, r0, rfl, h0, g0⟩ := inEach_cons g
  obtain ⟨d1, r1, rfl, h1, g1⟩ := inEach_cons g0
  obtain ⟨d2, r2, rfl, h2, g2⟩ := inEach_cons g1
  obtain ⟨d3, r3, rfl, h3, g3⟩ := inEach_cons g2
  obtain rfl := inEach_nil g3
  obtain ⟨es, rfl, f⟩ := in_struct Try.underlying27 h3
  obtain ⟨e0, s0, rfl, k0, f1⟩ := inEach_cons f
  obtain ⟨e1, s1, rfl, k1, f2⟩ := inEach_cons f1
  obtain ⟨e2, s2, rfl, k2, f3⟩ := inEach_cons f2
  obtain ⟨e3, s3, rfl, k3, f4⟩ := inEach_cons f3
  obtain ⟨e4, s4, rfl, k4, f5⟩ := inEach_cons f4
  obtain rfl := inEach_nil f5
  obtain ⟨x0, rfl, p0⟩ := opn_int h0
  obtain ⟨x1, rfl, p1⟩ := opn_int h1
  obtain ⟨x2, rfl, p2⟩ := opn_int h2
  obtain ⟨y0, rfl, q0⟩ := opn_int k0
  obtain ⟨y1, rfl, q1⟩ := opn_int k1
  obtain ⟨y2, rfl, q2⟩ := opn_int k2
  obtain ⟨y3, rfl, q3⟩ := opn_int k3
  obtain ⟨y4, rfl, q4⟩ := opn_int k4
  refine ⟨⟨x0, x1, x2, ⟨y0, y1, y2, y3, y4⟩⟩, rfl, fun i hi => ?_⟩
  simp only [CmD.is, List.mem_cons, List.not_mem_nil, or_false] at hi
  rcases hi with rfl | rfl | rfl | rfl | rfl | rfl | rfl | rfl <;> assumption
theorem dat_cells : ∀ cs : List CmD, Dat.cellsAll (cs.map cmDat) = ccells cs
  | [] => rfl
  | c :: r => by
    show Dat.cellsAll (cmDat c :: r.map cmDat) = c.cells ++ ccells r
    rw [← dat_cells r]; rfl
theorem dat_ints : ∀ ns : List Int, Dat.cellsAll (ns.map fun n => Dat.int .i64 n) = ns.map (Value.int .i64)
  | [] => rfl
  | n :: r => by rw [List.map_cons, List.map_cons, ← dat_ints r]; rfl
theorem bytes_cmd : Try.prog.bytesOf 29 = 64 := by kernel_rfl
theorem bytes_int : Try.prog.bytesOf 3 = 8 := by kernel_rfl
theorem reach_is : reachBytes ≤ 140737488355328 := by unfold reachBytes; decide
/-- A value, opened. -/
theorem opn_vl {w : World} {d : Dat} (h : d.In Try.prog w 25) : ∃ (v : Vl) (a1 : Option Addr) (c1 : Nat) (a2 : Option Addr) (c2 : Nat), d.cells = [.int .i64 v.k, .slice a1 v.cs.length c1, .slice a2 v.ns.length c2] ∧ VlAt w v a1 a2 ∧ I64 v.k ∧ ∀ c ∈ v.cs, CmFit c := by
  obtain ⟨ds, rfl, g⟩ := in_struct Try.underlying25 h
  obtain ⟨d0, r0, rfl, h0, g0⟩ := inEach_cons g
  obtain ⟨d1, r1, rfl, h1, g1⟩ := inEach_cons g0
  obtain ⟨d2, r2, rfl, h2, g2⟩ := inEach_cons g1
  obtain rfl := inEach_nil g2
  obtain ⟨k, rfl, hk⟩ := opn_int h0
  obtain ⟨a1, c1, ds1, rfl, l1, m1, b1, C1, I1⟩ := in_slice Try.underlying22 h1
  obtain ⟨a2, c2, ds2, rfl, l2, m2, b2, C2, I2⟩ := in_slice Try.underlying23 h2
  obtain ⟨cs, rfl, hcs⟩ := list_map_of cmDat CmFit ds1 (fun d hd => opn_cmd (I1 d hd))
  obtain ⟨ns, rfl, hns⟩ := list_map_of (fun n => Dat.int .i64 n) I64 ds2 (fun d hd => opn_int (I2 d hd))
  have hr := reach_is
  rw [bytes_cmd, List.length_map] at b1
  rw [bytes_int, List.length_map] at b2
  rw [dat_cells] at C1
  rw [dat_ints] at C2
  have hc1 : cs.length ≤ 2199023255552 := by omega
  have hn1 : ns.length ≤ 17592186044416 := by omega
  refine ⟨⟨k, cs, ns⟩, a1, c1, a2, c2, ?_, ⟨C1, Ints.of_cells (Nat.le_trans hn1 (by decide)) hns C2, hc1, hn1⟩, hk, hcs⟩
  show [Value.int .i64 k] ++ ([Value.slice a1 (cs.map cmDat).length c1] ++ ([Value.slice a2 (ns.map _).length c2] ++ [])) = _
  rw [List.length_map, List.length_map]; rfl
theorem checks_walk (v : Vl) (a1 : Option Addr) (c1 : Nat) (a2 : Option Addr) (c2 : Nat) (c : CmD) (w : World) (H : VlAt w v a1 a2) : Calls Try.prog 3 #[vlV v a1 c1 a2 c2, .agg c.cells.toArray] w (PureAt w (.bool true)) := by
  refine calls_at (tab_ok _) Try.func3 rfl tLChecks (ρ := ⟨v.k :: c.is, [], [], [v.cs.length, c1, v.ns.length, c2], [a1, a2]⟩) (ids := []) (hx := vlX v a1 a2) rfl (Facts.initq rfl oneNil H.X (vlX_sep H.X)) ?_
  refine node_pure ⟨[], [true], [], [], []⟩ rfl rfl rfl oneNil (fun ids w2 hp hf => head_any w2) ?_
  refine br_f rfl ?_
  refine node_pure ⟨[25], [], [], [], []⟩ rfl rfl rfl oneNil (fun ids w2 hp hf => ch9_any w2) ?_
  refine br_f (by kernel_rfl) ?_
  refine node_vl (V := id) (v := v) (fun _ => #[vlV v a1 c1 a2 c2]) (fun a1 c1 a2 c2 => ⟨[v.k], [], [], [v.cs.length, c1, v.ns.length, c2], [a1, a2]⟩) (by intros; kernel_rfl) (fun ids w2 hp hf => cpvl_any v a1 c1 a2 c2 w2 (H.fit.at_ hf.x)) (by intros; kernel_rfl) rfl rfl (by intros; kernel_rfl) (fun _ _ _ _ => oneNil) ?_
  intro b1 d1 b2 d2 _
  refine node_pure ⟨[valE v], [], [], [], []⟩ rfl rfl rfl oneNil (fun ids w2 hp hf => vchk_any v b1 d1 b2 d2 w2 (H.fit.at_ hf.x.2)) ?_
  refine node_pure ⟨[valE v], [], [], [], []⟩ rfl rfl rfl oneNil (fun ids w2 hp hf => rchk_any v a1 c1 a2 c2 w2 (H.fit.at_ hf.x.1)) ?_
  refine br_t (show (valE v == valE v) = true by simp) ?_
  refine node_pure ⟨[cmdV c], [], [], [], []⟩ rfl rfl rfl oneNil (fun ids w2 hp hf => cmd_any c w2) ?_
  refine node_pure ⟨[cmdV c], [], [], [], []⟩ rfl rfl rfl oneNil (fun ids w2 hp hf => rcmd_any c w2) ?_
  refine pure_done (fun _ => ?_)
  show Value.bool (cmdV c == cmdV c) = _
  simp
theorem vl_arg {d : Dat} {v : Vl} {a1 : Option Addr} {c1 : Nat} {a2 : Option Addr} {c2 : Nat} (h : d.cells = [.int .i64 v.k, .slice a1 v.cs.length c1, .slice a2 v.ns.length c2]) : Value.agg d.cells.toArray = vlV v a1 c1 a2 c2 := by rw [h]; rfl
theorem checks_args (x y : Dat) (w : World) (hx : x.In Try.prog w 25) (hy : y.In Try.prog w 29) : Calls Try.prog 3 #[.agg x.cells.toArray, .agg y.cells.toArray] w (PureAt w (.bool true)) := by
  obtain ⟨v, a1, c1, a2, c2, e, H, _, _⟩ := opn_vl hx
  obtain ⟨c, rfl, _⟩ := opn_cmd hy
  rw [vl_arg e]
  exact checks_walk v a1 c1 a2 c2 c w H
end Go.Proofs.Yticacnankpaohaa
