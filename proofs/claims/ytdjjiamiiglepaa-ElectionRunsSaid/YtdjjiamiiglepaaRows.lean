/-
  No cell of these rows narrows 'for every input' (looked for: loops, veiled, ifaces, maps, wideKeys, modest, calm, conditions, laid).
  DERIVED. THE GIVEN ROWS OF THIS SEAT. 3 by the template 'for every input the law returns true; each argument reads behind the call as it read before'; 0 by the template 'total and deterministic' (their statements: YtdjjiamiiglepaaTotals.lean).
  GIVEN WITH THE SEED: the statements are not yours to turn. If you find one false, say at which input.
  Laid BY PROGRAM, IN A SANDBOX (cutbox-rows.mjs): the forced cells as the released guide's own fill.sh prints them over the translation d3d7b6940f2cdbb1… (all of the seat's roots in one cut). By AI agents, Wed Nov 11 2026. No macro, syntax, notation, axiom, sorry.
-/
import Derived.Test.YtdjjiamiiglepaaChecked
import GoSem.Claim
import GoSem.ClaimJoined
import GoSem.ClaimMapViews
import Derived.JoinedTies
import Derived.KernelRfl
namespace Go.Proofs.Ytdjjiamiiglepaa
/- THE CELL 'sum', in the pinned program and in every row, IS THE sha256 OF THE DUMP (.gsa) THAT YtdjjiamiiglepaaProg.lean LOADS. Nothing in Lean hashes anything: it is a label: what it is worth is what the hold of that sum in a sandbox is worth. -/
noncomputable def Try.pinned : Pinned := { name := "ytdjjiamiiglepaa", sum := "d3d7b6940f2cdbb1fabe5cb31c5b6e0572630dd6b85a5aee82c213aaecc4c987", checked := Try.checked }
namespace Rows
def none {H : Type} : Left H := { results := [], args := [] }

/-- 'synodlaw17.ElectionTurns': WHATEVER THE INPUT: true; the input reads as it did. -/
def electionTurnsSpec : ChangeSpec := { name := "electionTurns", fn := fun _ => fun
  | [d1, d2, d3, d4] => { results := [.lit (.bool true)], args := [d1, d2, d3, d4] }
  | _ => none }
def electionTurnsRow : OpenClaim := { program := "ytdjjiamiiglepaa", sum := "d3d7b6940f2cdbb1fabe5cb31c5b6e0572630dd6b85a5aee82c213aaecc4c987", func := "synod/synodlaw17.ElectionTurns", spec := "electionTurns", apart := false }
def ElectionTurnsSaid : Prop := electionTurnsRow.holds Try.pinned (OpenSpec.ofChange electionTurnsSpec)

/-- ITS FALSE NEIGHBOUR: 'it returns false'. Refute it at one input. -/
def electionTurnsWrong : ChangeSpec := { name := "electionTurns", fn := fun _ => fun
  | [d1, d2, d3, d4] => { results := [.lit (.bool false)], args := [d1, d2, d3, d4] }
  | _ => none }
def ElectionTurnsWrongFalsely : Prop := electionTurnsRow.holds Try.pinned (OpenSpec.ofChange electionTurnsWrong)

/-- 'synodlaw17.ElectionQuiet': WHATEVER THE INPUT: true; the input reads as it did. -/
def electionQuietSpec : ChangeSpec := { name := "electionQuiet", fn := fun _ => fun
  | [d1, d2, d3, d4] => { results := [.lit (.bool true)], args := [d1, d2, d3, d4] }
  | _ => none }
def electionQuietRow : OpenClaim := { program := "ytdjjiamiiglepaa", sum := "d3d7b6940f2cdbb1fabe5cb31c5b6e0572630dd6b85a5aee82c213aaecc4c987", func := "synod/synodlaw17.ElectionQuiet", spec := "electionQuiet", apart := false }
def ElectionQuietSaid : Prop := electionQuietRow.holds Try.pinned (OpenSpec.ofChange electionQuietSpec)

/-- ITS FALSE NEIGHBOUR: 'it returns false'. Refute it at one input. -/
def electionQuietWrong : ChangeSpec := { name := "electionQuiet", fn := fun _ => fun
  | [d1, d2, d3, d4] => { results := [.lit (.bool false)], args := [d1, d2, d3, d4] }
  | _ => none }
def ElectionQuietWrongFalsely : Prop := electionQuietRow.holds Try.pinned (OpenSpec.ofChange electionQuietWrong)

/-- 'synodlaw17.ElectionRuns': WHATEVER THE INPUT: true; the input reads as it did. -/
def electionRunsSpec : ChangeSpec := { name := "electionRuns", fn := fun _ => fun
  | [d1, d2, d3, d4, d5, d6] => { results := [.lit (.bool true)], args := [d1, d2, d3, d4, d5, d6] }
  | _ => none }
def electionRunsRow : OpenClaim := { program := "ytdjjiamiiglepaa", sum := "d3d7b6940f2cdbb1fabe5cb31c5b6e0572630dd6b85a5aee82c213aaecc4c987", func := "synod/synodlaw17.ElectionRuns", spec := "electionRuns", apart := false }
def ElectionRunsSaid : Prop := electionRunsRow.holds Try.pinned (OpenSpec.ofChange electionRunsSpec)

/-- ITS FALSE NEIGHBOUR: 'it returns false'. Refute it at one input. -/
def electionRunsWrong : ChangeSpec := { name := "electionRuns", fn := fun _ => fun
  | [d1, d2, d3, d4, d5, d6] => { results := [.lit (.bool false)], args := [d1, d2, d3, d4, d5, d6] }
  | _ => none }
def ElectionRunsWrongFalsely : Prop := electionRunsRow.holds Try.pinned (OpenSpec.ofChange electionRunsWrong)

/- THE SECOND FORM. 'bulk': how many values and letters a reading holds, each counted each time it is reached (what is shared counts as often as it is met; a slice's spare places count too). A statement '..UptoSaid' is the law's where the arguments, and the package variables that the reading takes, are together of bulk at most 1048576: NARROWER than '..Said'. Prove '..Said' where nothing that the law and all that it calls make is longer than what came in: it says more and counts as full. Else prove '..UptoSaid'. A law counts once. -/
mutual
def uptoBulk {H : Type} : DataW H → Nat
  | .lit (.string bytes) => bytes.length + 1
  | .lit _ => 1
  | .nil => 1
  | .ptr d => uptoBulk d + 1
  | .slice elems spare => uptoBulkAll elems + uptoBulkAll spare + 1
  | .agg parts => uptoBulkAll parts + 1
  | .iface _ d => uptoBulk d + 1
  | .map entries => uptoBulkEntries entries + 1
  | .held _ => 1
def uptoBulkAll {H : Type} : List (DataW H) → Nat
  | [] => 0
  | d :: r => uptoBulk d + uptoBulkAll r
def uptoBulkEntries {H : Type} : List (Lit × DataW H) → Nat
  | [] => 0
  | x :: r => uptoBulkEntry x + uptoBulkEntries r
def uptoBulkEntry {H : Type} : Lit × DataW H → Nat
  | (.string bytes, d) => bytes.length + uptoBulk d + 1
  | (_, d) => uptoBulk d + 1
 end
def uptoSmall : (H : Type) → List (DataW H) → Bool := fun _ ds => decide (uptoBulkAll ds ≤ 1048576)
def OpenSpec.upto (s : _root_.Go.ChangeSpec) : _root_.Go.OpenSpec := { _root_.Go.OpenSpec.ofChange s with cond := some uptoSmall }

/-- 'synodlaw17.ElectionTurns', WHERE WHAT IT READS IS OF BULK AT MOST 1048576: true; the input reads as it did. -/
def electionTurnsUptoRow : OpenClaim := { program := "ytdjjiamiiglepaa", sum := "d3d7b6940f2cdbb1fabe5cb31c5b6e0572630dd6b85a5aee82c213aaecc4c987", func := "synod/synodlaw17.ElectionTurns", spec := "electionTurns", apart := false, narrowed := true }
def ElectionTurnsUptoSaid : Prop := electionTurnsUptoRow.holds Try.pinned (OpenSpec.upto electionTurnsSpec)

/-- 'synodlaw17.ElectionQuiet', WHERE WHAT IT READS IS OF BULK AT MOST 1048576: true; the input reads as it did. -/
def electionQuietUptoRow : OpenClaim := { program := "ytdjjiamiiglepaa", sum := "d3d7b6940f2cdbb1fabe5cb31c5b6e0572630dd6b85a5aee82c213aaecc4c987", func := "synod/synodlaw17.ElectionQuiet", spec := "electionQuiet", apart := false, narrowed := true }
def ElectionQuietUptoSaid : Prop := electionQuietUptoRow.holds Try.pinned (OpenSpec.upto electionQuietSpec)

/-- 'synodlaw17.ElectionRuns', WHERE WHAT IT READS IS OF BULK AT MOST 1048576: true; the input reads as it did. -/
def electionRunsUptoRow : OpenClaim := { program := "ytdjjiamiiglepaa", sum := "d3d7b6940f2cdbb1fabe5cb31c5b6e0572630dd6b85a5aee82c213aaecc4c987", func := "synod/synodlaw17.ElectionRuns", spec := "electionRuns", apart := false, narrowed := true }
def ElectionRunsUptoSaid : Prop := electionRunsUptoRow.holds Try.pinned (OpenSpec.upto electionRunsSpec)

end Rows
end Go.Proofs.Ytdjjiamiiglepaa
