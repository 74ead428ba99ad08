/-
  No cell of these rows narrows 'for every input' (looked for: loops, veiled, ifaces, maps, wideKeys, modest, calm, conditions, laid).
  DERIVED. THE GIVEN ROWS OF THIS SEAT. 5 by the template 'for every input the law returns true; each argument reads behind the call as it read before'; 0 by the template 'total and deterministic' (their statements: YthmlhnkdiafpkaaTotals.lean).
  GIVEN WITH THE SEED: the statements are not yours to turn. If you find one false, say at which input.
  Laid BY PROGRAM, IN A SANDBOX (cutbox-rows.mjs): the forced cells as the released guide's own fill.sh prints them over the translation 027836e1ee9bd285… (all of the seat's roots in one cut). By AI agents, Wed Nov 11 2026. No macro, syntax, notation, axiom, sorry.
-/
import Derived.Test.YthmlhnkdiafpkaaChecked
import GoSem.Claim
import GoSem.ClaimJoined
import GoSem.ClaimMapViews
import Derived.JoinedTies
import Derived.KernelRfl
namespace Go.Proofs.Ythmlhnkdiafpkaa
/- THE CELL 'sum', in the pinned program and in every row, IS THE sha256 OF THE DUMP (.gsa) THAT YthmlhnkdiafpkaaProg.lean LOADS. Nothing in Lean hashes anything: it is a label: what it is worth is what the hold of that sum in a sandbox is worth. -/
noncomputable def Try.pinned : Pinned := { name := "ythmlhnkdiafpkaa", sum := "027836e1ee9bd285bd3271e4ff4c5d29427034de578da616e8dfdd7f28fc6444", checked := Try.checked }
namespace Rows
def none {H : Type} : Left H := { results := [], args := [] }

/-- 'synodlaw15.LearnerOrder': WHATEVER THE INPUT: true; the input reads as it did. -/
def learnerOrderSpec : ChangeSpec := { name := "learnerOrder", fn := fun _ => fun
  | [d] => { results := [.lit (.bool true)], args := [d] }
  | _ => none }
def learnerOrderRow : OpenClaim := { program := "ythmlhnkdiafpkaa", sum := "027836e1ee9bd285bd3271e4ff4c5d29427034de578da616e8dfdd7f28fc6444", func := "synod/synodlaw15.LearnerOrder", spec := "learnerOrder", apart := false }
def LearnerOrderSaid : Prop := learnerOrderRow.holds Try.pinned (OpenSpec.ofChange learnerOrderSpec)

/-- ITS FALSE NEIGHBOUR: 'it returns false'. Refute it at one input. -/
def learnerOrderWrong : ChangeSpec := { name := "learnerOrder", fn := fun _ => fun
  | [d] => { results := [.lit (.bool false)], args := [d] }
  | _ => none }
def LearnerOrderWrongFalsely : Prop := learnerOrderRow.holds Try.pinned (OpenSpec.ofChange learnerOrderWrong)

/-- 'synodlaw15.LearnerCounts': WHATEVER THE INPUT: true; the input reads as it did. -/
def learnerCountsSpec : ChangeSpec := { name := "learnerCounts", fn := fun _ => fun
  | [d1, d2, d3] => { results := [.lit (.bool true)], args := [d1, d2, d3] }
  | _ => none }
def learnerCountsRow : OpenClaim := { program := "ythmlhnkdiafpkaa", sum := "027836e1ee9bd285bd3271e4ff4c5d29427034de578da616e8dfdd7f28fc6444", func := "synod/synodlaw15.LearnerCounts", spec := "learnerCounts", apart := false }
def LearnerCountsSaid : Prop := learnerCountsRow.holds Try.pinned (OpenSpec.ofChange learnerCountsSpec)

/-- ITS FALSE NEIGHBOUR: 'it returns false'. Refute it at one input. -/
def learnerCountsWrong : ChangeSpec := { name := "learnerCounts", fn := fun _ => fun
  | [d1, d2, d3] => { results := [.lit (.bool false)], args := [d1, d2, d3] }
  | _ => none }
def LearnerCountsWrongFalsely : Prop := learnerCountsRow.holds Try.pinned (OpenSpec.ofChange learnerCountsWrong)

/-- 'synodlaw15.LearnerAgree': WHATEVER THE INPUT: true; the input reads as it did. -/
def learnerAgreeSpec : ChangeSpec := { name := "learnerAgree", fn := fun _ => fun
  | [d] => { results := [.lit (.bool true)], args := [d] }
  | _ => none }
def learnerAgreeRow : OpenClaim := { program := "ythmlhnkdiafpkaa", sum := "027836e1ee9bd285bd3271e4ff4c5d29427034de578da616e8dfdd7f28fc6444", func := "synod/synodlaw15.LearnerAgree", spec := "learnerAgree", apart := false }
def LearnerAgreeSaid : Prop := learnerAgreeRow.holds Try.pinned (OpenSpec.ofChange learnerAgreeSpec)

/-- ITS FALSE NEIGHBOUR: 'it returns false'. Refute it at one input. -/
def learnerAgreeWrong : ChangeSpec := { name := "learnerAgree", fn := fun _ => fun
  | [d] => { results := [.lit (.bool false)], args := [d] }
  | _ => none }
def LearnerAgreeWrongFalsely : Prop := learnerAgreeRow.holds Try.pinned (OpenSpec.ofChange learnerAgreeWrong)

/-- 'synodlaw15.LearnerRuns': WHATEVER THE INPUT: true; the input reads as it did. -/
def learnerRunsSpec : ChangeSpec := { name := "learnerRuns", fn := fun _ => fun
  | [d1, d2, d3] => { results := [.lit (.bool true)], args := [d1, d2, d3] }
  | _ => none }
def learnerRunsRow : OpenClaim := { program := "ythmlhnkdiafpkaa", sum := "027836e1ee9bd285bd3271e4ff4c5d29427034de578da616e8dfdd7f28fc6444", func := "synod/synodlaw15.LearnerRuns", spec := "learnerRuns", apart := false }
def LearnerRunsSaid : Prop := learnerRunsRow.holds Try.pinned (OpenSpec.ofChange learnerRunsSpec)

/-- ITS FALSE NEIGHBOUR: 'it returns false'. Refute it at one input. -/
def learnerRunsWrong : ChangeSpec := { name := "learnerRuns", fn := fun _ => fun
  | [d1, d2, d3] => { results := [.lit (.bool false)], args := [d1, d2, d3] }
  | _ => none }
def LearnerRunsWrongFalsely : Prop := learnerRunsRow.holds Try.pinned (OpenSpec.ofChange learnerRunsWrong)

/-- 'synodlaw15.LearnerKeeps': WHATEVER THE INPUT: true; the input reads as it did. -/
def learnerKeepsSpec : ChangeSpec := { name := "learnerKeeps", fn := fun _ => fun
  | [d1, d2, d3] => { results := [.lit (.bool true)], args := [d1, d2, d3] }
  | _ => none }
def learnerKeepsRow : OpenClaim := { program := "ythmlhnkdiafpkaa", sum := "027836e1ee9bd285bd3271e4ff4c5d29427034de578da616e8dfdd7f28fc6444", func := "synod/synodlaw15.LearnerKeeps", spec := "learnerKeeps", apart := false }
def LearnerKeepsSaid : Prop := learnerKeepsRow.holds Try.pinned (OpenSpec.ofChange learnerKeepsSpec)

/-- ITS FALSE NEIGHBOUR: 'it returns false'. Refute it at one input. -/
def learnerKeepsWrong : ChangeSpec := { name := "learnerKeeps", fn := fun _ => fun
  | [d1, d2, d3] => { results := [.lit (.bool false)], args := [d1, d2, d3] }
  | _ => none }
def LearnerKeepsWrongFalsely : Prop := learnerKeepsRow.holds Try.pinned (OpenSpec.ofChange learnerKeepsWrong)

/- THE SECOND FORM. 'bulk': how many values and letters a reading holds, each counted each time it is reached (what is shared counts as often as it is met; a slice's spare places count too). A statement '..UptoSaid' is the law's where the arguments, and the package variables that the reading takes, are together of bulk at most 1048576: NARROWER than '..Said'. Prove '..Said' where nothing that the law and all that it calls make is longer than what came in: it says more and counts as full. Else prove '..UptoSaid'. A law counts once. -/
mutual
def uptoBulk {H : Type} : DataW H → Nat
  | .lit (.string bytes) => bytes.length + 1
  | .lit _ => 1
  | .nil => 1
  | .ptr d => uptoBulk d + 1
  | .slice elems spare => uptoBulkAll elems + uptoBulkAll spare + 1
  | .agg parts => uptoBulkAll parts + 1
  | .iface _ d => uptoBulk d + 1
  | .map entries => uptoBulkEntries entries + 1
  | .held _ => 1
def uptoBulkAll {H : Type} : List (DataW H) → Nat
  | [] => 0
  | d :: r => uptoBulk d + uptoBulkAll r
def uptoBulkEntries {H : Type} : List (Lit × DataW H) → Nat
  | [] => 0
  | x :: r => uptoBulkEntry x + uptoBulkEntries r
def uptoBulkEntry {H : Type} : Lit × DataW H → Nat
  | (.string bytes, d) => bytes.length + uptoBulk d + 1
  | (_, d) => uptoBulk d + 1
 end
def uptoSmall : (H : Type) → List (DataW H) → Bool := fun _ ds => decide (uptoBulkAll ds ≤ 1048576)
def OpenSpec.upto (s : _root_.Go.ChangeSpec) : _root_.Go.OpenSpec := { _root_.Go.OpenSpec.ofChange s with cond := some uptoSmall }

/-- 'synodlaw15.LearnerOrder', WHERE WHAT IT READS IS OF BULK AT MOST 1048576: true; the input reads as it did. -/
def learnerOrderUptoRow : OpenClaim := { program := "ythmlhnkdiafpkaa", sum := "027836e1ee9bd285bd3271e4ff4c5d29427034de578da616e8dfdd7f28fc6444", func := "synod/synodlaw15.LearnerOrder", spec := "learnerOrder", apart := false, narrowed := true }
def LearnerOrderUptoSaid : Prop := learnerOrderUptoRow.holds Try.pinned (OpenSpec.upto learnerOrderSpec)

/-- 'synodlaw15.LearnerCounts', WHERE WHAT IT READS IS OF BULK AT MOST 1048576: true; the input reads as it did. -/
def learnerCountsUptoRow : OpenClaim := { program := "ythmlhnkdiafpkaa", sum := "027836e1ee9bd285bd3271e4ff4c5d29427034de578da616e8dfdd7f28fc6444", func := "synod/synodlaw15.LearnerCounts", spec := "learnerCounts", apart := false, narrowed := true }
def LearnerCountsUptoSaid : Prop := learnerCountsUptoRow.holds Try.pinned (OpenSpec.upto learnerCountsSpec)

/-- 'synodlaw15.LearnerAgree', WHERE WHAT IT READS IS OF BULK AT MOST 1048576: true; the input reads as it did. -/
def learnerAgreeUptoRow : OpenClaim := { program := "ythmlhnkdiafpkaa", sum := "027836e1ee9bd285bd3271e4ff4c5d29427034de578da616e8dfdd7f28fc6444", func := "synod/synodlaw15.LearnerAgree", spec := "learnerAgree", apart := false, narrowed := true }
def LearnerAgreeUptoSaid : Prop := learnerAgreeUptoRow.holds Try.pinned (OpenSpec.upto learnerAgreeSpec)

/-- 'synodlaw15.LearnerRuns', WHERE WHAT IT READS IS OF BULK AT MOST 1048576: true; the input reads as it did. -/
def learnerRunsUptoRow : OpenClaim := { program := "ythmlhnkdiafpkaa", sum := "027836e1ee9bd285bd3271e4ff4c5d29427034de578da616e8dfdd7f28fc6444", func := "synod/synodlaw15.LearnerRuns", spec := "learnerRuns", apart := false, narrowed := true }
def LearnerRunsUptoSaid : Prop := learnerRunsUptoRow.holds Try.pinned (OpenSpec.upto learnerRunsSpec)

/-- 'synodlaw15.LearnerKeeps', WHERE WHAT IT READS IS OF BULK AT MOST 1048576: true; the input reads as it did. -/
def learnerKeepsUptoRow : OpenClaim := { program := "ythmlhnkdiafpkaa", sum := "027836e1ee9bd285bd3271e4ff4c5d29427034de578da616e8dfdd7f28fc6444", func := "synod/synodlaw15.LearnerKeeps", spec := "learnerKeeps", apart := false, narrowed := true }
def LearnerKeepsUptoSaid : Prop := learnerKeepsUptoRow.holds Try.pinned (OpenSpec.upto learnerKeepsSpec)

end Rows
end Go.Proofs.Ythmlhnkdiafpkaa
