/-
  No cell of these rows narrows 'for every input' (looked for: loops, veiled, ifaces, maps, wideKeys, modest, calm, conditions, laid).
  DERIVED. THE GIVEN ROWS OF THIS SEAT. 6 by the template 'for every input the law returns true; each argument reads behind the call as it read before'; 0 by the template 'total and deterministic' (their statements: YtfjiolgdcphjhaaTotals.lean).
  GIVEN WITH THE SEED: the statements are not yours to turn. If you find one false, say at which input.
  Laid BY PROGRAM, IN A SANDBOX (cutbox-rows.mjs): the forced cells as the released guide's own fill.sh prints them over the translation 1408d1e8cc71232d… (all of the seat's roots in one cut). By AI agents, Wed Nov 11 2026. No macro, syntax, notation, axiom, sorry.
-/
import Derived.Test.YtfjiolgdcphjhaaChecked
import GoSem.Claim
import GoSem.ClaimJoined
import GoSem.ClaimMapViews
import Derived.JoinedTies
import Derived.KernelRfl
namespace Go.Proofs.Ytfjiolgdcphjhaa
/- THE CELL 'sum', in the pinned program and in every row, IS THE sha256 OF THE DUMP (.gsa) THAT YtfjiolgdcphjhaaProg.lean LOADS. Nothing in Lean hashes anything: it is a label: what it is worth is what the hold of that sum in a sandbox is worth. -/
noncomputable def Try.pinned : Pinned := { name := "ytfjiolgdcphjhaa", sum := "1408d1e8cc71232de228e1b4a21223491727c1fbbb8aea678d5d8c421fe5dfd2", checked := Try.checked }
namespace Rows
def none {H : Type} : Left H := { results := [], args := [] }

/-- 'synodlaw20.ExecutorRuns': WHATEVER THE INPUT: true; the input reads as it did. -/
def executorRunsSpec : ChangeSpec := { name := "executorRuns", fn := fun _ => fun
  | [d1, d2, d3] => { results := [.lit (.bool true)], args := [d1, d2, d3] }
  | _ => none }
def executorRunsRow : OpenClaim := { program := "ytfjiolgdcphjhaa", sum := "1408d1e8cc71232de228e1b4a21223491727c1fbbb8aea678d5d8c421fe5dfd2", func := "synod/synodlaw20.ExecutorRuns", spec := "executorRuns", inPlace := ["slices.overlaps[synod/api.Sess]", "math.archTrunc", "math.Float64bits", "math.Float64frombits", "slices.overlaps[synod/api.Kept]"], unfollowed := true, recurses := true, apart := false }
def ExecutorRunsSaid : Prop := executorRunsRow.holds Try.pinned (OpenSpec.ofChange executorRunsSpec)

/-- ITS FALSE NEIGHBOUR: 'it returns false'. Refute it at one input. -/
def executorRunsWrong : ChangeSpec := { name := "executorRuns", fn := fun _ => fun
  | [d1, d2, d3] => { results := [.lit (.bool false)], args := [d1, d2, d3] }
  | _ => none }
def ExecutorRunsWrongFalsely : Prop := executorRunsRow.holds Try.pinned (OpenSpec.ofChange executorRunsWrong)

/-- 'synodlaw20.ExecutorOnce': WHATEVER THE INPUT: true; the input reads as it did. -/
def executorOnceSpec : ChangeSpec := { name := "executorOnce", fn := fun _ => fun
  | [d] => { results := [.lit (.bool true)], args := [d] }
  | _ => none }
def executorOnceRow : OpenClaim := { program := "ytfjiolgdcphjhaa", sum := "1408d1e8cc71232de228e1b4a21223491727c1fbbb8aea678d5d8c421fe5dfd2", func := "synod/synodlaw20.ExecutorOnce", spec := "executorOnce", inPlace := ["slices.overlaps[synod/api.Sess]", "math.archTrunc", "math.Float64bits", "math.Float64frombits", "slices.overlaps[synod/api.Kept]"], unfollowed := true, recurses := true, apart := false }
def ExecutorOnceSaid : Prop := executorOnceRow.holds Try.pinned (OpenSpec.ofChange executorOnceSpec)

/-- ITS FALSE NEIGHBOUR: 'it returns false'. Refute it at one input. -/
def executorOnceWrong : ChangeSpec := { name := "executorOnce", fn := fun _ => fun
  | [d] => { results := [.lit (.bool false)], args := [d] }
  | _ => none }
def ExecutorOnceWrongFalsely : Prop := executorOnceRow.holds Try.pinned (OpenSpec.ofChange executorOnceWrong)

/-- 'synodlaw20.ExecutorStops': WHATEVER THE INPUT: true; the input reads as it did. -/
def executorStopsSpec : ChangeSpec := { name := "executorStops", fn := fun _ => fun
  | [d] => { results := [.lit (.bool true)], args := [d] }
  | _ => none }
def executorStopsRow : OpenClaim := { program := "ytfjiolgdcphjhaa", sum := "1408d1e8cc71232de228e1b4a21223491727c1fbbb8aea678d5d8c421fe5dfd2", func := "synod/synodlaw20.ExecutorStops", spec := "executorStops", inPlace := ["slices.overlaps[synod/api.Sess]", "math.archTrunc", "math.Float64bits", "math.Float64frombits", "slices.overlaps[synod/api.Kept]"], unfollowed := true, recurses := true, apart := false }
def ExecutorStopsSaid : Prop := executorStopsRow.holds Try.pinned (OpenSpec.ofChange executorStopsSpec)

/-- ITS FALSE NEIGHBOUR: 'it returns false'. Refute it at one input. -/
def executorStopsWrong : ChangeSpec := { name := "executorStops", fn := fun _ => fun
  | [d] => { results := [.lit (.bool false)], args := [d] }
  | _ => none }
def ExecutorStopsWrongFalsely : Prop := executorStopsRow.holds Try.pinned (OpenSpec.ofChange executorStopsWrong)

/-- 'synodlaw20.ExecutorPeeks': WHATEVER THE INPUT: true; the input reads as it did. -/
def executorPeeksSpec : ChangeSpec := { name := "executorPeeks", fn := fun _ => fun
  | [d1, d2] => { results := [.lit (.bool true)], args := [d1, d2] }
  | _ => none }
def executorPeeksRow : OpenClaim := { program := "ytfjiolgdcphjhaa", sum := "1408d1e8cc71232de228e1b4a21223491727c1fbbb8aea678d5d8c421fe5dfd2", func := "synod/synodlaw20.ExecutorPeeks", spec := "executorPeeks", inPlace := ["slices.overlaps[synod/api.Sess]", "math.archTrunc", "math.Float64bits", "math.Float64frombits", "slices.overlaps[synod/api.Kept]"], unfollowed := true, recurses := true, apart := false }
def ExecutorPeeksSaid : Prop := executorPeeksRow.holds Try.pinned (OpenSpec.ofChange executorPeeksSpec)

/-- ITS FALSE NEIGHBOUR: 'it returns false'. Refute it at one input. -/
def executorPeeksWrong : ChangeSpec := { name := "executorPeeks", fn := fun _ => fun
  | [d1, d2] => { results := [.lit (.bool false)], args := [d1, d2] }
  | _ => none }
def ExecutorPeeksWrongFalsely : Prop := executorPeeksRow.holds Try.pinned (OpenSpec.ofChange executorPeeksWrong)

/-- 'synodlaw20.ExecutorCodes': WHATEVER THE INPUT: true; the input reads as it did. -/
def executorCodesSpec : ChangeSpec := { name := "executorCodes", fn := fun _ => fun
  | [d1, d2] => { results := [.lit (.bool true)], args := [d1, d2] }
  | _ => none }
def executorCodesRow : OpenClaim := { program := "ytfjiolgdcphjhaa", sum := "1408d1e8cc71232de228e1b4a21223491727c1fbbb8aea678d5d8c421fe5dfd2", func := "synod/synodlaw20.ExecutorCodes", spec := "executorCodes", inPlace := ["slices.overlaps[synod/api.Sess]", "math.archTrunc", "math.Float64bits", "math.Float64frombits", "slices.overlaps[synod/api.Kept]"], unfollowed := true, recurses := true, apart := false }
def ExecutorCodesSaid : Prop := executorCodesRow.holds Try.pinned (OpenSpec.ofChange executorCodesSpec)

/-- ITS FALSE NEIGHBOUR: 'it returns false'. Refute it at one input. -/
def executorCodesWrong : ChangeSpec := { name := "executorCodes", fn := fun _ => fun
  | [d1, d2] => { results := [.lit (.bool false)], args := [d1, d2] }
  | _ => none }
def ExecutorCodesWrongFalsely : Prop := executorCodesRow.holds Try.pinned (OpenSpec.ofChange executorCodesWrong)

/-- 'synodlaw20.ExecutorBack': WHATEVER THE INPUT: true; the input reads as it did. -/
def executorBackSpec : ChangeSpec := { name := "executorBack", fn := fun _ => fun
  | [d1, d2, d3] => { results := [.lit (.bool true)], args := [d1, d2, d3] }
  | _ => none }
def executorBackRow : OpenClaim := { program := "ytfjiolgdcphjhaa", sum := "1408d1e8cc71232de228e1b4a21223491727c1fbbb8aea678d5d8c421fe5dfd2", func := "synod/synodlaw20.ExecutorBack", spec := "executorBack", inPlace := ["slices.overlaps[synod/api.Sess]", "math.archTrunc", "math.Float64bits", "math.Float64frombits", "slices.overlaps[synod/api.Kept]"], unfollowed := true, recurses := true, apart := false }
def ExecutorBackSaid : Prop := executorBackRow.holds Try.pinned (OpenSpec.ofChange executorBackSpec)

/-- ITS FALSE NEIGHBOUR: 'it returns false'. Refute it at one input. -/
def executorBackWrong : ChangeSpec := { name := "executorBack", fn := fun _ => fun
  | [d1, d2, d3] => { results := [.lit (.bool false)], args := [d1, d2, d3] }
  | _ => none }
def ExecutorBackWrongFalsely : Prop := executorBackRow.holds Try.pinned (OpenSpec.ofChange executorBackWrong)

/- THE SECOND FORM. 'bulk': how many values and letters a reading holds, each counted each time it is reached (what is shared counts as often as it is met; a slice's spare places count too). A statement '..UptoSaid' is the law's where the arguments, and the package variables that the reading takes, are together of bulk at most 1048576: NARROWER than '..Said'. Prove '..Said' where nothing that the law and all that it calls make is longer than what came in: it says more and counts as full. Else prove '..UptoSaid'. A law counts once. -/
mutual
def uptoBulk {H : Type} : DataW H → Nat
  | .lit (.string bytes) => bytes.length + 1
  | .lit _ => 1
  | .nil => 1
  | .ptr d => uptoBulk d + 1
  | .slice elems spare => uptoBulkAll elems + uptoBulkAll spare + 1
  | .agg parts => uptoBulkAll parts + 1
  | .iface _ d => uptoBulk d + 1
  | .map entries => uptoBulkEntries entries + 1
  | .held _ => 1
def uptoBulkAll {H : Type} : List (DataW H) → Nat
  | [] => 0
  | d :: r => uptoBulk d + uptoBulkAll r
def uptoBulkEntries {H : Type} : List (Lit × DataW H) → Nat
  | [] => 0
  | x :: r => uptoBulkEntry x + uptoBulkEntries r
def uptoBulkEntry {H : Type} : Lit × DataW H → Nat
  | (.string bytes, d) => bytes.length + uptoBulk d + 1
  | (_, d) => uptoBulk d + 1
 end
def uptoSmall : (H : Type) → List (DataW H) → Bool := fun _ ds => decide (uptoBulkAll ds ≤ 1048576)
def OpenSpec.upto (s : _root_.Go.ChangeSpec) : _root_.Go.OpenSpec := { _root_.Go.OpenSpec.ofChange s with cond := some uptoSmall }

/-- 'synodlaw20.ExecutorRuns', WHERE WHAT IT READS IS OF BULK AT MOST 1048576: true; the input reads as it did. -/
def executorRunsUptoRow : OpenClaim := { program := "ytfjiolgdcphjhaa", sum := "1408d1e8cc71232de228e1b4a21223491727c1fbbb8aea678d5d8c421fe5dfd2", func := "synod/synodlaw20.ExecutorRuns", spec := "executorRuns", inPlace := ["slices.overlaps[synod/api.Sess]", "math.archTrunc", "math.Float64bits", "math.Float64frombits", "slices.overlaps[synod/api.Kept]"], unfollowed := true, recurses := true, apart := false, narrowed := true }
def ExecutorRunsUptoSaid : Prop := executorRunsUptoRow.holds Try.pinned (OpenSpec.upto executorRunsSpec)

/-- 'synodlaw20.ExecutorOnce', WHERE WHAT IT READS IS OF BULK AT MOST 1048576: true; the input reads as it did. -/
def executorOnceUptoRow : OpenClaim := { program := "ytfjiolgdcphjhaa", sum := "1408d1e8cc71232de228e1b4a21223491727c1fbbb8aea678d5d8c421fe5dfd2", func := "synod/synodlaw20.ExecutorOnce", spec := "executorOnce", inPlace := ["slices.overlaps[synod/api.Sess]", "math.archTrunc", "math.Float64bits", "math.Float64frombits", "slices.overlaps[synod/api.Kept]"], unfollowed := true, recurses := true, apart := false, narrowed := true }
def ExecutorOnceUptoSaid : Prop := executorOnceUptoRow.holds Try.pinned (OpenSpec.upto executorOnceSpec)

/-- 'synodlaw20.ExecutorStops', WHERE WHAT IT READS IS OF BULK AT MOST 1048576: true; the input reads as it did. -/
def executorStopsUptoRow : OpenClaim := { program := "ytfjiolgdcphjhaa", sum := "1408d1e8cc71232de228e1b4a21223491727c1fbbb8aea678d5d8c421fe5dfd2", func := "synod/synodlaw20.ExecutorStops", spec := "executorStops", inPlace := ["slices.overlaps[synod/api.Sess]", "math.archTrunc", "math.Float64bits", "math.Float64frombits", "slices.overlaps[synod/api.Kept]"], unfollowed := true, recurses := true, apart := false, narrowed := true }
def ExecutorStopsUptoSaid : Prop := executorStopsUptoRow.holds Try.pinned (OpenSpec.upto executorStopsSpec)

/-- 'synodlaw20.ExecutorPeeks', WHERE WHAT IT READS IS OF BULK AT MOST 1048576: true; the input reads as it did. -/
def executorPeeksUptoRow : OpenClaim := { program := "ytfjiolgdcphjhaa", sum := "1408d1e8cc71232de228e1b4a21223491727c1fbbb8aea678d5d8c421fe5dfd2", func := "synod/synodlaw20.ExecutorPeeks", spec := "executorPeeks", inPlace := ["slices.overlaps[synod/api.Sess]", "math.archTrunc", "math.Float64bits", "math.Float64frombits", "slices.overlaps[synod/api.Kept]"], unfollowed := true, recurses := true, apart := false, narrowed := true }
def ExecutorPeeksUptoSaid : Prop := executorPeeksUptoRow.holds Try.pinned (OpenSpec.upto executorPeeksSpec)

/-- 'synodlaw20.ExecutorCodes', WHERE WHAT IT READS IS OF BULK AT MOST 1048576: true; the input reads as it did. -/
def executorCodesUptoRow : OpenClaim := { program := "ytfjiolgdcphjhaa", sum := "1408d1e8cc71232de228e1b4a21223491727c1fbbb8aea678d5d8c421fe5dfd2", func := "synod/synodlaw20.ExecutorCodes", spec := "executorCodes", inPlace := ["slices.overlaps[synod/api.Sess]", "math.archTrunc", "math.Float64bits", "math.Float64frombits", "slices.overlaps[synod/api.Kept]"], unfollowed := true, recurses := true, apart := false, narrowed := true }
def ExecutorCodesUptoSaid : Prop := executorCodesUptoRow.holds Try.pinned (OpenSpec.upto executorCodesSpec)

/-- 'synodlaw20.ExecutorBack', WHERE WHAT IT READS IS OF BULK AT MOST 1048576: true; the input reads as it did. -/
def executorBackUptoRow : OpenClaim := { program := "ytfjiolgdcphjhaa", sum := "1408d1e8cc71232de228e1b4a21223491727c1fbbb8aea678d5d8c421fe5dfd2", func := "synod/synodlaw20.ExecutorBack", spec := "executorBack", inPlace := ["slices.overlaps[synod/api.Sess]", "math.archTrunc", "math.Float64bits", "math.Float64frombits", "slices.overlaps[synod/api.Kept]"], unfollowed := true, recurses := true, apart := false, narrowed := true }
def ExecutorBackUptoSaid : Prop := executorBackUptoRow.holds Try.pinned (OpenSpec.upto executorBackSpec)

end Rows
end Go.Proofs.Ytfjiolgdcphjhaa
