/-
  No cell of these rows narrows 'for every input' (looked for: loops, veiled, ifaces, maps, wideKeys, modest, calm, conditions, laid).
  DERIVED. THE GIVEN ROWS OF THIS SEAT. 6 by the template 'for every input the law returns true; each argument reads behind the call as it read before'; 0 by the template 'total and deterministic' (their statements: YtphfhfkfcileaaaTotals.lean).
  GIVEN WITH THE SEED: the statements are not yours to turn. If you find one false, say at which input.
  Laid BY PROGRAM, IN A SANDBOX (cutbox-rows.mjs): the forced cells as the released guide's own fill.sh prints them over the translation 00c04818fd749384… (all of the seat's roots in one cut). By AI agents, Wed Nov 11 2026. No macro, syntax, notation, axiom, sorry.
-/
import Derived.Test.YtphfhfkfcileaaaChecked
import GoSem.Claim
import GoSem.ClaimJoined
import GoSem.ClaimMapViews
import Derived.JoinedTies
import Derived.KernelRfl
namespace Go.Proofs.Ytphfhfkfcileaaa
/- THE CELL 'sum', in the pinned program and in every row, IS THE sha256 OF THE DUMP (.gsa) THAT YtphfhfkfcileaaaProg.lean LOADS. Nothing in Lean hashes anything: it is a label: what it is worth is what the hold of that sum in a sandbox is worth. -/
noncomputable def Try.pinned : Pinned := { name := "ytphfhfkfcileaaa", sum := "00c04818fd749384e05782aaafd2067bdb2008c4154dbc91eac3d3d1132931eb", checked := Try.checked }
namespace Rows
def none {H : Type} : Left H := { results := [], args := [] }

/-- 'synodlaw04.AppApplies': WHATEVER THE INPUT: true; the input reads as it did. -/
def appAppliesSpec : ChangeSpec := { name := "appApplies", fn := fun _ => fun
  | [d1, d2] => { results := [.lit (.bool true)], args := [d1, d2] }
  | _ => none }
def appAppliesRow : OpenClaim := { program := "ytphfhfkfcileaaa", sum := "00c04818fd749384e05782aaafd2067bdb2008c4154dbc91eac3d3d1132931eb", func := "synod/synodlaw04.AppApplies", spec := "appApplies", inPlace := ["math.archTrunc", "math.Float64bits", "math.Float64frombits"], apart := false }
def AppAppliesSaid : Prop := appAppliesRow.holds Try.pinned (OpenSpec.ofChange appAppliesSpec)

/-- ITS FALSE NEIGHBOUR: 'it returns false'. Refute it at one input. -/
def appAppliesWrong : ChangeSpec := { name := "appApplies", fn := fun _ => fun
  | [d1, d2] => { results := [.lit (.bool false)], args := [d1, d2] }
  | _ => none }
def AppAppliesWrongFalsely : Prop := appAppliesRow.holds Try.pinned (OpenSpec.ofChange appAppliesWrong)

/-- 'synodlaw04.AppTwice': WHATEVER THE INPUT: true; the input reads as it did. -/
def appTwiceSpec : ChangeSpec := { name := "appTwice", fn := fun _ => fun
  | [d1, d2, d3, d4, d5] => { results := [.lit (.bool true)], args := [d1, d2, d3, d4, d5] }
  | _ => none }
def appTwiceRow : OpenClaim := { program := "ytphfhfkfcileaaa", sum := "00c04818fd749384e05782aaafd2067bdb2008c4154dbc91eac3d3d1132931eb", func := "synod/synodlaw04.AppTwice", spec := "appTwice", inPlace := ["math.archTrunc", "math.Float64bits", "math.Float64frombits"], apart := false }
def AppTwiceSaid : Prop := appTwiceRow.holds Try.pinned (OpenSpec.ofChange appTwiceSpec)

/-- ITS FALSE NEIGHBOUR: 'it returns false'. Refute it at one input. -/
def appTwiceWrong : ChangeSpec := { name := "appTwice", fn := fun _ => fun
  | [d1, d2, d3, d4, d5] => { results := [.lit (.bool false)], args := [d1, d2, d3, d4, d5] }
  | _ => none }
def AppTwiceWrongFalsely : Prop := appTwiceRow.holds Try.pinned (OpenSpec.ofChange appTwiceWrong)

/-- 'synodlaw04.AppApart': WHATEVER THE INPUT: true; the input reads as it did. -/
def appApartSpec : ChangeSpec := { name := "appApart", fn := fun _ => fun
  | [d1, d2, d3, d4] => { results := [.lit (.bool true)], args := [d1, d2, d3, d4] }
  | _ => none }
def appApartRow : OpenClaim := { program := "ytphfhfkfcileaaa", sum := "00c04818fd749384e05782aaafd2067bdb2008c4154dbc91eac3d3d1132931eb", func := "synod/synodlaw04.AppApart", spec := "appApart", inPlace := ["math.archTrunc", "math.Float64bits", "math.Float64frombits"], apart := false }
def AppApartSaid : Prop := appApartRow.holds Try.pinned (OpenSpec.ofChange appApartSpec)

/-- ITS FALSE NEIGHBOUR: 'it returns false'. Refute it at one input. -/
def appApartWrong : ChangeSpec := { name := "appApart", fn := fun _ => fun
  | [d1, d2, d3, d4] => { results := [.lit (.bool false)], args := [d1, d2, d3, d4] }
  | _ => none }
def AppApartWrongFalsely : Prop := appApartRow.holds Try.pinned (OpenSpec.ofChange appApartWrong)

/-- 'synodlaw04.AppTakes': WHATEVER THE INPUT: true; the input reads as it did. -/
def appTakesSpec : ChangeSpec := { name := "appTakes", fn := fun _ => fun
  | [d1, d2, d3] => { results := [.lit (.bool true)], args := [d1, d2, d3] }
  | _ => none }
def appTakesRow : OpenClaim := { program := "ytphfhfkfcileaaa", sum := "00c04818fd749384e05782aaafd2067bdb2008c4154dbc91eac3d3d1132931eb", func := "synod/synodlaw04.AppTakes", spec := "appTakes", inPlace := ["math.archTrunc", "math.Float64bits", "math.Float64frombits"], apart := false }
def AppTakesSaid : Prop := appTakesRow.holds Try.pinned (OpenSpec.ofChange appTakesSpec)

/-- ITS FALSE NEIGHBOUR: 'it returns false'. Refute it at one input. -/
def appTakesWrong : ChangeSpec := { name := "appTakes", fn := fun _ => fun
  | [d1, d2, d3] => { results := [.lit (.bool false)], args := [d1, d2, d3] }
  | _ => none }
def AppTakesWrongFalsely : Prop := appTakesRow.holds Try.pinned (OpenSpec.ofChange appTakesWrong)

/-- 'synodlaw04.AppChecks': WHATEVER THE INPUT: true; the input reads as it did. -/
def appChecksSpec : ChangeSpec := { name := "appChecks", fn := fun _ => fun
  | [d1, d2] => { results := [.lit (.bool true)], args := [d1, d2] }
  | _ => none }
def appChecksRow : OpenClaim := { program := "ytphfhfkfcileaaa", sum := "00c04818fd749384e05782aaafd2067bdb2008c4154dbc91eac3d3d1132931eb", func := "synod/synodlaw04.AppChecks", spec := "appChecks", inPlace := ["math.archTrunc", "math.Float64bits", "math.Float64frombits"], apart := false }
def AppChecksSaid : Prop := appChecksRow.holds Try.pinned (OpenSpec.ofChange appChecksSpec)

/-- ITS FALSE NEIGHBOUR: 'it returns false'. Refute it at one input. -/
def appChecksWrong : ChangeSpec := { name := "appChecks", fn := fun _ => fun
  | [d1, d2] => { results := [.lit (.bool false)], args := [d1, d2] }
  | _ => none }
def AppChecksWrongFalsely : Prop := appChecksRow.holds Try.pinned (OpenSpec.ofChange appChecksWrong)

/-- 'synodlaw04.AppStays': WHATEVER THE INPUT: true; the input reads as it did. -/
def appStaysSpec : ChangeSpec := { name := "appStays", fn := fun _ => fun
  | [d] => { results := [.lit (.bool true)], args := [d] }
  | _ => none }
def appStaysRow : OpenClaim := { program := "ytphfhfkfcileaaa", sum := "00c04818fd749384e05782aaafd2067bdb2008c4154dbc91eac3d3d1132931eb", func := "synod/synodlaw04.AppStays", spec := "appStays", inPlace := ["math.archTrunc", "math.Float64bits", "math.Float64frombits"], apart := false }
def AppStaysSaid : Prop := appStaysRow.holds Try.pinned (OpenSpec.ofChange appStaysSpec)

/-- ITS FALSE NEIGHBOUR: 'it returns false'. Refute it at one input. -/
def appStaysWrong : ChangeSpec := { name := "appStays", fn := fun _ => fun
  | [d] => { results := [.lit (.bool false)], args := [d] }
  | _ => none }
def AppStaysWrongFalsely : Prop := appStaysRow.holds Try.pinned (OpenSpec.ofChange appStaysWrong)

/- THE SECOND FORM. 'bulk': how many values and letters a reading holds, each counted each time it is reached (what is shared counts as often as it is met; a slice's spare places count too). A statement '..UptoSaid' is the law's where the arguments, and the package variables that the reading takes, are together of bulk at most 1048576: NARROWER than '..Said'. Prove '..Said' where nothing that the law and all that it calls make is longer than what came in: it says more and counts as full. Else prove '..UptoSaid'. A law counts once. -/
mutual
def uptoBulk {H : Type} : DataW H → Nat
  | .lit (.string bytes) => bytes.length + 1
  | .lit _ => 1
  | .nil => 1
  | .ptr d => uptoBulk d + 1
  | .slice elems spare => uptoBulkAll elems + uptoBulkAll spare + 1
  | .agg parts => uptoBulkAll parts + 1
  | .iface _ d => uptoBulk d + 1
  | .map entries => uptoBulkEntries entries + 1
  | .held _ => 1
def uptoBulkAll {H : Type} : List (DataW H) → Nat
  | [] => 0
  | d :: r => uptoBulk d + uptoBulkAll r
def uptoBulkEntries {H : Type} : List (Lit × DataW H) → Nat
  | [] => 0
  | x :: r => uptoBulkEntry x + uptoBulkEntries r
def uptoBulkEntry {H : Type} : Lit × DataW H → Nat
  | (.string bytes, d) => bytes.length + uptoBulk d + 1
  | (_, d) => uptoBulk d + 1
 end
def uptoSmall : (H : Type) → List (DataW H) → Bool := fun _ ds => decide (uptoBulkAll ds ≤ 1048576)
def OpenSpec.upto (s : _root_.Go.ChangeSpec) : _root_.Go.OpenSpec := { _root_.Go.OpenSpec.ofChange s with cond := some uptoSmall }

/-- 'synodlaw04.AppApplies', WHERE WHAT IT READS IS OF BULK AT MOST 1048576: true; the input reads as it did. -/
def appAppliesUptoRow : OpenClaim := { program := "ytphfhfkfcileaaa", sum := "00c04818fd749384e05782aaafd2067bdb2008c4154dbc91eac3d3d1132931eb", func := "synod/synodlaw04.AppApplies", spec := "appApplies", inPlace := ["math.archTrunc", "math.Float64bits", "math.Float64frombits"], apart := false, narrowed := true }
def AppAppliesUptoSaid : Prop := appAppliesUptoRow.holds Try.pinned (OpenSpec.upto appAppliesSpec)

/-- 'synodlaw04.AppTwice', WHERE WHAT IT READS IS OF BULK AT MOST 1048576: true; the input reads as it did. -/
def appTwiceUptoRow : OpenClaim := { program := "ytphfhfkfcileaaa", sum := "00c04818fd749384e05782aaafd2067bdb2008c4154dbc91eac3d3d1132931eb", func := "synod/synodlaw04.AppTwice", spec := "appTwice", inPlace := ["math.archTrunc", "math.Float64bits", "math.Float64frombits"], apart := false, narrowed := true }
def AppTwiceUptoSaid : Prop := appTwiceUptoRow.holds Try.pinned (OpenSpec.upto appTwiceSpec)

/-- 'synodlaw04.AppApart', WHERE WHAT IT READS IS OF BULK AT MOST 1048576: true; the input reads as it did. -/
def appApartUptoRow : OpenClaim := { program := "ytphfhfkfcileaaa", sum := "00c04818fd749384e05782aaafd2067bdb2008c4154dbc91eac3d3d1132931eb", func := "synod/synodlaw04.AppApart", spec := "appApart", inPlace := ["math.archTrunc", "math.Float64bits", "math.Float64frombits"], apart := false, narrowed := true }
def AppApartUptoSaid : Prop := appApartUptoRow.holds Try.pinned (OpenSpec.upto appApartSpec)

/-- 'synodlaw04.AppTakes', WHERE WHAT IT READS IS OF BULK AT MOST 1048576: true; the input reads as it did. -/
def appTakesUptoRow : OpenClaim := { program := "ytphfhfkfcileaaa", sum := "00c04818fd749384e05782aaafd2067bdb2008c4154dbc91eac3d3d1132931eb", func := "synod/synodlaw04.AppTakes", spec := "appTakes", inPlace := ["math.archTrunc", "math.Float64bits", "math.Float64frombits"], apart := false, narrowed := true }
def AppTakesUptoSaid : Prop := appTakesUptoRow.holds Try.pinned (OpenSpec.upto appTakesSpec)

/-- 'synodlaw04.AppChecks', WHERE WHAT IT READS IS OF BULK AT MOST 1048576: true; the input reads as it did. -/
def appChecksUptoRow : OpenClaim := { program := "ytphfhfkfcileaaa", sum := "00c04818fd749384e05782aaafd2067bdb2008c4154dbc91eac3d3d1132931eb", func := "synod/synodlaw04.AppChecks", spec := "appChecks", inPlace := ["math.archTrunc", "math.Float64bits", "math.Float64frombits"], apart := false, narrowed := true }
def AppChecksUptoSaid : Prop := appChecksUptoRow.holds Try.pinned (OpenSpec.upto appChecksSpec)

/-- 'synodlaw04.AppStays', WHERE WHAT IT READS IS OF BULK AT MOST 1048576: true; the input reads as it did. -/
def appStaysUptoRow : OpenClaim := { program := "ytphfhfkfcileaaa", sum := "00c04818fd749384e05782aaafd2067bdb2008c4154dbc91eac3d3d1132931eb", func := "synod/synodlaw04.AppStays", spec := "appStays", inPlace := ["math.archTrunc", "math.Float64bits", "math.Float64frombits"], apart := false, narrowed := true }
def AppStaysUptoSaid : Prop := appStaysUptoRow.holds Try.pinned (OpenSpec.upto appStaysSpec)

end Rows
end Go.Proofs.Ytphfhfkfcileaaa
