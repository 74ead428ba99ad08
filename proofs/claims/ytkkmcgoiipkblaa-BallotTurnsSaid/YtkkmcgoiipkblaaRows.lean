/-
  No cell of these rows narrows 'for every input' (looked for: loops, veiled, ifaces, maps, wideKeys, modest, calm, conditions, laid).
  DERIVED. THE GIVEN ROWS OF THIS SEAT. 5 by the template 'for every input the law returns true; each argument reads behind the call as it read before'; 0 by the template 'total and deterministic' (their statements: YtkkmcgoiipkblaaTotals.lean).
  GIVEN WITH THE SEED: the statements are not yours to turn. If you find one false, say at which input.
  Laid BY PROGRAM, IN A SANDBOX (cutbox-rows.mjs): the forced cells as the released guide's own fill.sh prints them over the translation 77e0bcaa32364fbf… (all of the seat's roots in one cut). By AI agents, Wed Nov 11 2026. No macro, syntax, notation, axiom, sorry.
-/
import Derived.Test.YtkkmcgoiipkblaaChecked
import GoSem.Claim
import GoSem.ClaimJoined
import GoSem.ClaimMapViews
import Derived.JoinedTies
import Derived.KernelRfl
namespace Go.Proofs.Ytkkmcgoiipkblaa
/- THE CELL 'sum', in the pinned program and in every row, IS THE sha256 OF THE DUMP (.gsa) THAT YtkkmcgoiipkblaaProg.lean LOADS. Nothing in Lean hashes anything: it is a label: what it is worth is what the hold of that sum in a sandbox is worth. -/
noncomputable def Try.pinned : Pinned := { name := "ytkkmcgoiipkblaa", sum := "77e0bcaa32364fbf78558c7c273747f06ccbfaa7f1f6408ac0b7573940d2d862", checked := Try.checked }
namespace Rows
def none {H : Type} : Left H := { results := [], args := [] }

/-- 'synodlaw05.BallotSets': WHATEVER THE INPUT: true; the input reads as it did. -/
def ballotSetsSpec : ChangeSpec := { name := "ballotSets", fn := fun _ => fun
  | [d1, d2, d3, d4] => { results := [.lit (.bool true)], args := [d1, d2, d3, d4] }
  | _ => none }
def ballotSetsRow : OpenClaim := { program := "ytkkmcgoiipkblaa", sum := "77e0bcaa32364fbf78558c7c273747f06ccbfaa7f1f6408ac0b7573940d2d862", func := "synod/synodlaw05.BallotSets", spec := "ballotSets", apart := false }
def BallotSetsSaid : Prop := ballotSetsRow.holds Try.pinned (OpenSpec.ofChange ballotSetsSpec)

/-- ITS FALSE NEIGHBOUR: 'it returns false'. Refute it at one input. -/
def ballotSetsWrong : ChangeSpec := { name := "ballotSets", fn := fun _ => fun
  | [d1, d2, d3, d4] => { results := [.lit (.bool false)], args := [d1, d2, d3, d4] }
  | _ => none }
def BallotSetsWrongFalsely : Prop := ballotSetsRow.holds Try.pinned (OpenSpec.ofChange ballotSetsWrong)

/-- 'synodlaw05.BallotMeets': WHATEVER THE INPUT: true; the input reads as it did. -/
def ballotMeetsSpec : ChangeSpec := { name := "ballotMeets", fn := fun _ => fun
  | [d1, d2, d3] => { results := [.lit (.bool true)], args := [d1, d2, d3] }
  | _ => none }
def ballotMeetsRow : OpenClaim := { program := "ytkkmcgoiipkblaa", sum := "77e0bcaa32364fbf78558c7c273747f06ccbfaa7f1f6408ac0b7573940d2d862", func := "synod/synodlaw05.BallotMeets", spec := "ballotMeets", apart := false }
def BallotMeetsSaid : Prop := ballotMeetsRow.holds Try.pinned (OpenSpec.ofChange ballotMeetsSpec)

/-- ITS FALSE NEIGHBOUR: 'it returns false'. Refute it at one input. -/
def ballotMeetsWrong : ChangeSpec := { name := "ballotMeets", fn := fun _ => fun
  | [d1, d2, d3] => { results := [.lit (.bool false)], args := [d1, d2, d3] }
  | _ => none }
def BallotMeetsWrongFalsely : Prop := ballotMeetsRow.holds Try.pinned (OpenSpec.ofChange ballotMeetsWrong)

/-- 'synodlaw05.BallotShares': WHATEVER THE INPUT: true; the input reads as it did. -/
def ballotSharesSpec : ChangeSpec := { name := "ballotShares", fn := fun _ => fun
  | [d1, d2] => { results := [.lit (.bool true)], args := [d1, d2] }
  | _ => none }
def ballotSharesRow : OpenClaim := { program := "ytkkmcgoiipkblaa", sum := "77e0bcaa32364fbf78558c7c273747f06ccbfaa7f1f6408ac0b7573940d2d862", func := "synod/synodlaw05.BallotShares", spec := "ballotShares", apart := false }
def BallotSharesSaid : Prop := ballotSharesRow.holds Try.pinned (OpenSpec.ofChange ballotSharesSpec)

/-- ITS FALSE NEIGHBOUR: 'it returns false'. Refute it at one input. -/
def ballotSharesWrong : ChangeSpec := { name := "ballotShares", fn := fun _ => fun
  | [d1, d2] => { results := [.lit (.bool false)], args := [d1, d2] }
  | _ => none }
def BallotSharesWrongFalsely : Prop := ballotSharesRow.holds Try.pinned (OpenSpec.ofChange ballotSharesWrong)

/-- 'synodlaw05.BallotOrder': WHATEVER THE INPUT: true; the input reads as it did. -/
def ballotOrderSpec : ChangeSpec := { name := "ballotOrder", fn := fun _ => fun
  | [d1, d2] => { results := [.lit (.bool true)], args := [d1, d2] }
  | _ => none }
def ballotOrderRow : OpenClaim := { program := "ytkkmcgoiipkblaa", sum := "77e0bcaa32364fbf78558c7c273747f06ccbfaa7f1f6408ac0b7573940d2d862", func := "synod/synodlaw05.BallotOrder", spec := "ballotOrder", apart := false }
def BallotOrderSaid : Prop := ballotOrderRow.holds Try.pinned (OpenSpec.ofChange ballotOrderSpec)

/-- ITS FALSE NEIGHBOUR: 'it returns false'. Refute it at one input. -/
def ballotOrderWrong : ChangeSpec := { name := "ballotOrder", fn := fun _ => fun
  | [d1, d2] => { results := [.lit (.bool false)], args := [d1, d2] }
  | _ => none }
def BallotOrderWrongFalsely : Prop := ballotOrderRow.holds Try.pinned (OpenSpec.ofChange ballotOrderWrong)

/-- 'synodlaw05.BallotTurns': WHATEVER THE INPUT: true; the input reads as it did. -/
def ballotTurnsSpec : ChangeSpec := { name := "ballotTurns", fn := fun _ => fun
  | [d1, d2, d3] => { results := [.lit (.bool true)], args := [d1, d2, d3] }
  | _ => none }
def ballotTurnsRow : OpenClaim := { program := "ytkkmcgoiipkblaa", sum := "77e0bcaa32364fbf78558c7c273747f06ccbfaa7f1f6408ac0b7573940d2d862", func := "synod/synodlaw05.BallotTurns", spec := "ballotTurns", apart := false }
def BallotTurnsSaid : Prop := ballotTurnsRow.holds Try.pinned (OpenSpec.ofChange ballotTurnsSpec)

/-- ITS FALSE NEIGHBOUR: 'it returns false'. Refute it at one input. -/
def ballotTurnsWrong : ChangeSpec := { name := "ballotTurns", fn := fun _ => fun
  | [d1, d2, d3] => { results := [.lit (.bool false)], args := [d1, d2, d3] }
  | _ => none }
def BallotTurnsWrongFalsely : Prop := ballotTurnsRow.holds Try.pinned (OpenSpec.ofChange ballotTurnsWrong)

/- THE SECOND FORM. 'bulk': how many values and letters a reading holds, each counted each time it is reached (what is shared counts as often as it is met; a slice's spare places count too). A statement '..UptoSaid' is the law's where the arguments, and the package variables that the reading takes, are together of bulk at most 1048576: NARROWER than '..Said'. Prove '..Said' where nothing that the law and all that it calls make is longer than what came in: it says more and counts as full. Else prove '..UptoSaid'. A law counts once. -/
mutual
def uptoBulk {H : Type} : DataW H → Nat
  | .lit (.string bytes) => bytes.length + 1
  | .lit _ => 1
  | .nil => 1
  | .ptr d => uptoBulk d + 1
  | .slice elems spare => uptoBulkAll elems + uptoBulkAll spare + 1
  | .agg parts => uptoBulkAll parts + 1
  | .iface _ d => uptoBulk d + 1
  | .map entries => uptoBulkEntries entries + 1
  | .held _ => 1
def uptoBulkAll {H : Type} : List (DataW H) → Nat
  | [] => 0
  | d :: r => uptoBulk d + uptoBulkAll r
def uptoBulkEntries {H : Type} : List (Lit × DataW H) → Nat
  | [] => 0
  | x :: r => uptoBulkEntry x + uptoBulkEntries r
def uptoBulkEntry {H : Type} : Lit × DataW H → Nat
  | (.string bytes, d) => bytes.length + uptoBulk d + 1
  | (_, d) => uptoBulk d + 1
 end
def uptoSmall : (H : Type) → List (DataW H) → Bool := fun _ ds => decide (uptoBulkAll ds ≤ 1048576)
def OpenSpec.upto (s : _root_.Go.ChangeSpec) : _root_.Go.OpenSpec := { _root_.Go.OpenSpec.ofChange s with cond := some uptoSmall }

/-- 'synodlaw05.BallotSets', WHERE WHAT IT READS IS OF BULK AT MOST 1048576: true; the input reads as it did. -/
def ballotSetsUptoRow : OpenClaim := { program := "ytkkmcgoiipkblaa", sum := "77e0bcaa32364fbf78558c7c273747f06ccbfaa7f1f6408ac0b7573940d2d862", func := "synod/synodlaw05.BallotSets", spec := "ballotSets", apart := false, narrowed := true }
def BallotSetsUptoSaid : Prop := ballotSetsUptoRow.holds Try.pinned (OpenSpec.upto ballotSetsSpec)

/-- 'synodlaw05.BallotMeets', WHERE WHAT IT READS IS OF BULK AT MOST 1048576: true; the input reads as it did. -/
def ballotMeetsUptoRow : OpenClaim := { program := "ytkkmcgoiipkblaa", sum := "77e0bcaa32364fbf78558c7c273747f06ccbfaa7f1f6408ac0b7573940d2d862", func := "synod/synodlaw05.BallotMeets", spec := "ballotMeets", apart := false, narrowed := true }
def BallotMeetsUptoSaid : Prop := ballotMeetsUptoRow.holds Try.pinned (OpenSpec.upto ballotMeetsSpec)

/-- 'synodlaw05.BallotShares', WHERE WHAT IT READS IS OF BULK AT MOST 1048576: true; the input reads as it did. -/
def ballotSharesUptoRow : OpenClaim := { program := "ytkkmcgoiipkblaa", sum := "77e0bcaa32364fbf78558c7c273747f06ccbfaa7f1f6408ac0b7573940d2d862", func := "synod/synodlaw05.BallotShares", spec := "ballotShares", apart := false, narrowed := true }
def BallotSharesUptoSaid : Prop := ballotSharesUptoRow.holds Try.pinned (OpenSpec.upto ballotSharesSpec)

/-- 'synodlaw05.BallotOrder', WHERE WHAT IT READS IS OF BULK AT MOST 1048576: true; the input reads as it did. -/
def ballotOrderUptoRow : OpenClaim := { program := "ytkkmcgoiipkblaa", sum := "77e0bcaa32364fbf78558c7c273747f06ccbfaa7f1f6408ac0b7573940d2d862", func := "synod/synodlaw05.BallotOrder", spec := "ballotOrder", apart := false, narrowed := true }
def BallotOrderUptoSaid : Prop := ballotOrderUptoRow.holds Try.pinned (OpenSpec.upto ballotOrderSpec)

/-- 'synodlaw05.BallotTurns', WHERE WHAT IT READS IS OF BULK AT MOST 1048576: true; the input reads as it did. -/
def ballotTurnsUptoRow : OpenClaim := { program := "ytkkmcgoiipkblaa", sum := "77e0bcaa32364fbf78558c7c273747f06ccbfaa7f1f6408ac0b7573940d2d862", func := "synod/synodlaw05.BallotTurns", spec := "ballotTurns", apart := false, narrowed := true }
def BallotTurnsUptoSaid : Prop := ballotTurnsUptoRow.holds Try.pinned (OpenSpec.upto ballotTurnsSpec)

end Rows
end Go.Proofs.Ytkkmcgoiipkblaa
