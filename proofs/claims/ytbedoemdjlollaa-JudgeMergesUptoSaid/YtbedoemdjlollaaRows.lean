/-
  No cell of these rows narrows 'for every input' (looked for: loops, veiled, ifaces, maps, wideKeys, modest, calm, conditions, laid).
  DERIVED. THE GIVEN ROWS OF THIS SEAT. 5 by the template 'for every input the law returns true; each argument reads behind the call as it read before'; 0 by the template 'total and deterministic' (their statements: YtbedoemdjlollaaTotals.lean).
  GIVEN WITH THE SEED: the statements are not yours to turn. If you find one false, say at which input.
  Laid BY PROGRAM, IN A SANDBOX (cutbox-rows.mjs): the forced cells as the released guide's own fill.sh prints them over the translation f4c905eda6e6db6d… (all of the seat's roots in one cut). By AI agents, Wed Nov 11 2026. No macro, syntax, notation, axiom, sorry.
-/
import Derived.Test.YtbedoemdjlollaaChecked
import GoSem.Claim
import GoSem.ClaimJoined
import GoSem.ClaimMapViews
import Derived.JoinedTies
import Derived.KernelRfl
namespace Go.Proofs.Ytbedoemdjlollaa
/- THE CELL 'sum', in the pinned program and in every row, IS THE sha256 OF THE DUMP (.gsa) THAT YtbedoemdjlollaaProg.lean LOADS. Nothing in Lean hashes anything: it is a label: what it is worth is what the hold of that sum in a sandbox is worth. -/
noncomputable def Try.pinned : Pinned := { name := "ytbedoemdjlollaa", sum := "f4c905eda6e6db6d8a4887c6fec7a4be0aed174db8f48723ad76f08ce21643f1", checked := Try.checked }
namespace Rows
def none {H : Type} : Left H := { results := [], args := [] }

/-- 'synodlaw25.JudgeMerges': WHATEVER THE INPUT: true; the input reads as it did. -/
def judgeMergesSpec : ChangeSpec := { name := "judgeMerges", fn := fun _ => fun
  | [d] => { results := [.lit (.bool true)], args := [d] }
  | _ => none }
def judgeMergesRow : OpenClaim := { program := "ytbedoemdjlollaa", sum := "f4c905eda6e6db6d8a4887c6fec7a4be0aed174db8f48723ad76f08ce21643f1", func := "synod/synodlaw25.JudgeMerges", spec := "judgeMerges", inPlace := ["slices.overlaps[synod/api.Sess]", "math.archTrunc", "math.Float64bits", "math.Float64frombits", "slices.overlaps[synod/api.Kept]"], unfollowed := true, recurses := true, plainKeys := false, apart := false }
def JudgeMergesSaid : Prop := judgeMergesRow.holds Try.pinned (OpenSpec.ofChange judgeMergesSpec)

/-- ITS FALSE NEIGHBOUR: 'it returns false'. Refute it at one input. -/
def judgeMergesWrong : ChangeSpec := { name := "judgeMerges", fn := fun _ => fun
  | [d] => { results := [.lit (.bool false)], args := [d] }
  | _ => none }
def JudgeMergesWrongFalsely : Prop := judgeMergesRow.holds Try.pinned (OpenSpec.ofChange judgeMergesWrong)

/-- 'synodlaw25.JudgeChecks': WHATEVER THE INPUT: true; the input reads as it did. -/
def judgeChecksSpec : ChangeSpec := { name := "judgeChecks", fn := fun _ => fun
  | [d1, d2, d3, d4] => { results := [.lit (.bool true)], args := [d1, d2, d3, d4] }
  | _ => none }
def judgeChecksRow : OpenClaim := { program := "ytbedoemdjlollaa", sum := "f4c905eda6e6db6d8a4887c6fec7a4be0aed174db8f48723ad76f08ce21643f1", func := "synod/synodlaw25.JudgeChecks", spec := "judgeChecks", inPlace := ["slices.overlaps[synod/api.Sess]", "math.archTrunc", "math.Float64bits", "math.Float64frombits", "slices.overlaps[synod/api.Kept]"], unfollowed := true, recurses := true, plainKeys := false, apart := false }
def JudgeChecksSaid : Prop := judgeChecksRow.holds Try.pinned (OpenSpec.ofChange judgeChecksSpec)

/-- ITS FALSE NEIGHBOUR: 'it returns false'. Refute it at one input. -/
def judgeChecksWrong : ChangeSpec := { name := "judgeChecks", fn := fun _ => fun
  | [d1, d2, d3, d4] => { results := [.lit (.bool false)], args := [d1, d2, d3, d4] }
  | _ => none }
def JudgeChecksWrongFalsely : Prop := judgeChecksRow.holds Try.pinned (OpenSpec.ofChange judgeChecksWrong)

/-- 'synodlaw25.JudgeSerial': WHATEVER THE INPUT: true; the input reads as it did. -/
def judgeSerialSpec : ChangeSpec := { name := "judgeSerial", fn := fun _ => fun
  | [d1, d2] => { results := [.lit (.bool true)], args := [d1, d2] }
  | _ => none }
def judgeSerialRow : OpenClaim := { program := "ytbedoemdjlollaa", sum := "f4c905eda6e6db6d8a4887c6fec7a4be0aed174db8f48723ad76f08ce21643f1", func := "synod/synodlaw25.JudgeSerial", spec := "judgeSerial", inPlace := ["slices.overlaps[synod/api.Sess]", "math.archTrunc", "math.Float64bits", "math.Float64frombits", "slices.overlaps[synod/api.Kept]"], unfollowed := true, recurses := true, plainKeys := false, apart := false }
def JudgeSerialSaid : Prop := judgeSerialRow.holds Try.pinned (OpenSpec.ofChange judgeSerialSpec)

/-- ITS FALSE NEIGHBOUR: 'it returns false'. Refute it at one input. -/
def judgeSerialWrong : ChangeSpec := { name := "judgeSerial", fn := fun _ => fun
  | [d1, d2] => { results := [.lit (.bool false)], args := [d1, d2] }
  | _ => none }
def JudgeSerialWrongFalsely : Prop := judgeSerialRow.holds Try.pinned (OpenSpec.ofChange judgeSerialWrong)

/-- 'synodlaw25.JudgeTime': WHATEVER THE INPUT: true; the input reads as it did. -/
def judgeTimeSpec : ChangeSpec := { name := "judgeTime", fn := fun _ => fun
  | [d1, d2, d3] => { results := [.lit (.bool true)], args := [d1, d2, d3] }
  | _ => none }
def judgeTimeRow : OpenClaim := { program := "ytbedoemdjlollaa", sum := "f4c905eda6e6db6d8a4887c6fec7a4be0aed174db8f48723ad76f08ce21643f1", func := "synod/synodlaw25.JudgeTime", spec := "judgeTime", inPlace := ["slices.overlaps[synod/api.Sess]", "math.archTrunc", "math.Float64bits", "math.Float64frombits", "slices.overlaps[synod/api.Kept]"], unfollowed := true, recurses := true, plainKeys := false, apart := false }
def JudgeTimeSaid : Prop := judgeTimeRow.holds Try.pinned (OpenSpec.ofChange judgeTimeSpec)

/-- ITS FALSE NEIGHBOUR: 'it returns false'. Refute it at one input. -/
def judgeTimeWrong : ChangeSpec := { name := "judgeTime", fn := fun _ => fun
  | [d1, d2, d3] => { results := [.lit (.bool false)], args := [d1, d2, d3] }
  | _ => none }
def JudgeTimeWrongFalsely : Prop := judgeTimeRow.holds Try.pinned (OpenSpec.ofChange judgeTimeWrong)

/-- 'synodlaw25.JudgeLost': WHATEVER THE INPUT: true; the input reads as it did. -/
def judgeLostSpec : ChangeSpec := { name := "judgeLost", fn := fun _ => fun
  | [d1, d2] => { results := [.lit (.bool true)], args := [d1, d2] }
  | _ => none }
def judgeLostRow : OpenClaim := { program := "ytbedoemdjlollaa", sum := "f4c905eda6e6db6d8a4887c6fec7a4be0aed174db8f48723ad76f08ce21643f1", func := "synod/synodlaw25.JudgeLost", spec := "judgeLost", inPlace := ["slices.overlaps[synod/api.Sess]", "math.archTrunc", "math.Float64bits", "math.Float64frombits", "slices.overlaps[synod/api.Kept]"], unfollowed := true, recurses := true, plainKeys := false, apart := false }
def JudgeLostSaid : Prop := judgeLostRow.holds Try.pinned (OpenSpec.ofChange judgeLostSpec)

/-- ITS FALSE NEIGHBOUR: 'it returns false'. Refute it at one input. -/
def judgeLostWrong : ChangeSpec := { name := "judgeLost", fn := fun _ => fun
  | [d1, d2] => { results := [.lit (.bool false)], args := [d1, d2] }
  | _ => none }
def JudgeLostWrongFalsely : Prop := judgeLostRow.holds Try.pinned (OpenSpec.ofChange judgeLostWrong)

/- THE SECOND FORM. 'bulk': how many values and letters a reading holds, each counted each time it is reached (what is shared counts as often as it is met; a slice's spare places count too). A statement '..UptoSaid' is the law's where the arguments, and the package variables that the reading takes, are together of bulk at most 1048576: NARROWER than '..Said'. Prove '..Said' where nothing that the law and all that it calls make is longer than what came in: it says more and counts as full. Else prove '..UptoSaid'. A law counts once. -/
mutual
def uptoBulk {H : Type} : DataW H → Nat
  | .lit (.string bytes) => bytes.length + 1
  | .lit _ => 1
  | .nil => 1
  | .ptr d => uptoBulk d + 1
  | .slice elems spare => uptoBulkAll elems + uptoBulkAll spare + 1
  | .agg parts => uptoBulkAll parts + 1
  | .iface _ d => uptoBulk d + 1
  | .map entries => uptoBulkEntries entries + 1
  | .held _ => 1
def uptoBulkAll {H : Type} : List (DataW H) → Nat
  | [] => 0
  | d :: r => uptoBulk d + uptoBulkAll r
def uptoBulkEntries {H : Type} : List (Lit × DataW H) → Nat
  | [] => 0
  | x :: r => uptoBulkEntry x + uptoBulkEntries r
def uptoBulkEntry {H : Type} : Lit × DataW H → Nat
  | (.string bytes, d) => bytes.length + uptoBulk d + 1
  | (_, d) => uptoBulk d + 1
 end
def uptoSmall : (H : Type) → List (DataW H) → Bool := fun _ ds => decide (uptoBulkAll ds ≤ 1048576)
def OpenSpec.upto (s : _root_.Go.ChangeSpec) : _root_.Go.OpenSpec := { _root_.Go.OpenSpec.ofChange s with cond := some uptoSmall }

/-- 'synodlaw25.JudgeMerges', WHERE WHAT IT READS IS OF BULK AT MOST 1048576: true; the input reads as it did. -/
def judgeMergesUptoRow : OpenClaim := { program := "ytbedoemdjlollaa", sum := "f4c905eda6e6db6d8a4887c6fec7a4be0aed174db8f48723ad76f08ce21643f1", func := "synod/synodlaw25.JudgeMerges", spec := "judgeMerges", inPlace := ["slices.overlaps[synod/api.Sess]", "math.archTrunc", "math.Float64bits", "math.Float64frombits", "slices.overlaps[synod/api.Kept]"], unfollowed := true, recurses := true, plainKeys := false, apart := false, narrowed := true }
def JudgeMergesUptoSaid : Prop := judgeMergesUptoRow.holds Try.pinned (OpenSpec.upto judgeMergesSpec)

/-- 'synodlaw25.JudgeChecks', WHERE WHAT IT READS IS OF BULK AT MOST 1048576: true; the input reads as it did. -/
def judgeChecksUptoRow : OpenClaim := { program := "ytbedoemdjlollaa", sum := "f4c905eda6e6db6d8a4887c6fec7a4be0aed174db8f48723ad76f08ce21643f1", func := "synod/synodlaw25.JudgeChecks", spec := "judgeChecks", inPlace := ["slices.overlaps[synod/api.Sess]", "math.archTrunc", "math.Float64bits", "math.Float64frombits", "slices.overlaps[synod/api.Kept]"], unfollowed := true, recurses := true, plainKeys := false, apart := false, narrowed := true }
def JudgeChecksUptoSaid : Prop := judgeChecksUptoRow.holds Try.pinned (OpenSpec.upto judgeChecksSpec)

/-- 'synodlaw25.JudgeSerial', WHERE WHAT IT READS IS OF BULK AT MOST 1048576: true; the input reads as it did. -/
def judgeSerialUptoRow : OpenClaim := { program := "ytbedoemdjlollaa", sum := "f4c905eda6e6db6d8a4887c6fec7a4be0aed174db8f48723ad76f08ce21643f1", func := "synod/synodlaw25.JudgeSerial", spec := "judgeSerial", inPlace := ["slices.overlaps[synod/api.Sess]", "math.archTrunc", "math.Float64bits", "math.Float64frombits", "slices.overlaps[synod/api.Kept]"], unfollowed := true, recurses := true, plainKeys := false, apart := false, narrowed := true }
def JudgeSerialUptoSaid : Prop := judgeSerialUptoRow.holds Try.pinned (OpenSpec.upto judgeSerialSpec)

/-- 'synodlaw25.JudgeTime', WHERE WHAT IT READS IS OF BULK AT MOST 1048576: true; the input reads as it did. -/
def judgeTimeUptoRow : OpenClaim := { program := "ytbedoemdjlollaa", sum := "f4c905eda6e6db6d8a4887c6fec7a4be0aed174db8f48723ad76f08ce21643f1", func := "synod/synodlaw25.JudgeTime", spec := "judgeTime", inPlace := ["slices.overlaps[synod/api.Sess]", "math.archTrunc", "math.Float64bits", "math.Float64frombits", "slices.overlaps[synod/api.Kept]"], unfollowed := true, recurses := true, plainKeys := false, apart := false, narrowed := true }
def JudgeTimeUptoSaid : Prop := judgeTimeUptoRow.holds Try.pinned (OpenSpec.upto judgeTimeSpec)

/-- 'synodlaw25.JudgeLost', WHERE WHAT IT READS IS OF BULK AT MOST 1048576: true; the input reads as it did. -/
def judgeLostUptoRow : OpenClaim := { program := "ytbedoemdjlollaa", sum := "f4c905eda6e6db6d8a4887c6fec7a4be0aed174db8f48723ad76f08ce21643f1", func := "synod/synodlaw25.JudgeLost", spec := "judgeLost", inPlace := ["slices.overlaps[synod/api.Sess]", "math.archTrunc", "math.Float64bits", "math.Float64frombits", "slices.overlaps[synod/api.Kept]"], unfollowed := true, recurses := true, plainKeys := false, apart := false, narrowed := true }
def JudgeLostUptoSaid : Prop := judgeLostUptoRow.holds Try.pinned (OpenSpec.upto judgeLostSpec)

end Rows
end Go.Proofs.Ytbedoemdjlollaa
