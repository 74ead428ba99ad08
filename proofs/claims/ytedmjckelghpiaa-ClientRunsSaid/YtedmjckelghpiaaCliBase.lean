/- A client as plain data, and what its methods come to. -/
import Derived.Test.YtedmjckelghpiaaApp4
namespace Go.Syn
open Go.RowKit
set_option linter.unusedVariables false
/-- A command, an answer, a client. -/
structure CmdD where
  sess : Int
  seq : Int
  ack : Int
  op : OpD
structure AnsD where
  sess : Int
  seq : Int
  kind : Int
  re : Int
  im : Int
structure CliD where
  no : Int
  seq : Int
  isOpen : Bool
  cmd : CmdD
  sent : Int
def CmdD.cells (c : CmdD) : List Value := [.int .i64 c.sess, .int .i64 c.seq, .int .i64 c.ack, .int .i64 c.op.kind, .int .i64 c.op.reg, .int .i64 c.op.tg, .int .i64 c.op.re, .int .i64 c.op.im]
def AnsD.cells (a : AnsD) : List Value := [.int .i64 a.sess, .int .i64 a.seq, .int .i64 a.kind, .int .i64 a.re, .int .i64 a.im]
def CliD.cells (c : CliD) : List Value := [.int .i64 c.no, .int .i64 c.seq, .bool c.isOpen, .int .i64 c.cmd.sess, .int .i64 c.cmd.seq, .int .i64 c.cmd.ack, .int .i64 c.cmd.op.kind, .int .i64 c.cmd.op.reg, .int .i64 c.cmd.op.tg, .int .i64 c.cmd.op.re, .int .i64 c.cmd.op.im, .int .i64 c.sent]
def op0 : OpD := ⟨0, 0, 0, 0, 0⟩
def cmd0 : CmdD := ⟨0, 0, 0, op0⟩
def newCli (no : Int) : CliD := ⟨no, 0, false, cmd0, 0⟩
/-- Ask: what is wrong. -/
def askE (c : CliD) (o : OpD) : Int := if opB o = false then 22 else if c.isOpen = true ∨ 1099511627776 ≤ c.seq then 69 else 0
def askC (c : CliD) (o : OpD) : CmdD := if askE c o = 0 then ⟨c.no, c.seq + 1, c.seq, o⟩ else cmd0
def askV (c : CliD) (o : OpD) : CliD := if askE c o = 0 then ⟨c.no, c.seq + 1, true, ⟨c.no, c.seq + 1, c.seq, o⟩, 0⟩ else c
def gotB (c : CliD) (a : AnsD) : Bool := c.isOpen && decide (a.sess = c.no ∧ a.seq = c.seq ∧ 1 ≤ a.kind ∧ a.kind ≤ 6)
def gotV (c : CliD) (a : AnsD) : CliD := if gotB c a then { c with isOpen := false } else c
def againV (c : CliD) : CliD := if c.isOpen then { c with sent := c.sent + 1 } else c
def againC (c : CliD) : CmdD := if c.isOpen then c.cmd else cmd0
def openN (c : CliD) : Int := if c.isOpen then c.sent else 0
theorem askE_op {c : CliD} {o : OpD} (h : opB o = false) : askE c o = 22 := by unfold askE; rw [if_pos h]
theorem askE_open {c : CliD} {o : OpD} (h : opB o = true) (h2 : c.isOpen = true ∨ 1099511627776 ≤ c.seq) : askE c o = 69 := by unfold askE; rw [if_neg (by rw [h]; simp), if_pos h2]
theorem askE_ok {c : CliD} {o : OpD} (h : opB o = true) (h2 : ¬ (c.isOpen = true ∨ 1099511627776 ≤ c.seq)) : askE c o = 0 := by unfold askE; rw [if_neg (by rw [h]; simp), if_neg h2]
end Go.Syn
