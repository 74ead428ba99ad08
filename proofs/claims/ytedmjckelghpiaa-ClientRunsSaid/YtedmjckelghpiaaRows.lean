/-
  No cell of these rows narrows 'for every input' (looked for: loops, veiled, ifaces, maps, wideKeys, modest, calm, conditions, laid).
  DERIVED. THE GIVEN ROWS OF THIS SEAT. 3 by the template 'for every input the law returns true; each argument reads behind the call as it read before'; 0 by the template 'total and deterministic' (their statements: YtedmjckelghpiaaTotals.lean).
  GIVEN WITH THE SEED: the statements are not yours to turn. If you find one false, say at which input.
  Laid BY PROGRAM, IN A SANDBOX (cutbox-rows.mjs): the forced cells as the released guide's own fill.sh prints them over the translation a5347a7091d45638… (all of the seat's roots in one cut). By AI agents, Wed Nov 11 2026. No macro, syntax, notation, axiom, sorry.
-/
import Derived.Test.YtedmjckelghpiaaChecked
import GoSem.Claim
import GoSem.ClaimJoined
import GoSem.ClaimMapViews
import Derived.JoinedTies
import Derived.KernelRfl
namespace Go.Proofs.Ytedmjckelghpiaa
/- THE CELL 'sum', in the pinned program and in every row, IS THE sha256 OF THE DUMP (.gsa) THAT YtedmjckelghpiaaProg.lean LOADS. Nothing in Lean hashes anything: it is a label: what it is worth is what the hold of that sum in a sandbox is worth. -/
noncomputable def Try.pinned : Pinned := { name := "ytedmjckelghpiaa", sum := "a5347a7091d45638cd13a1ef414bb1d5227b0521ffc286342cf953630f28f685", checked := Try.checked }
namespace Rows
def none {H : Type} : Left H := { results := [], args := [] }

/-- 'synodlaw23.ClientWell': WHATEVER THE INPUT: true; the input reads as it did. -/
def clientWellSpec : ChangeSpec := { name := "clientWell", fn := fun _ => fun
  | [d1, d2] => { results := [.lit (.bool true)], args := [d1, d2] }
  | _ => none }
def clientWellRow : OpenClaim := { program := "ytedmjckelghpiaa", sum := "a5347a7091d45638cd13a1ef414bb1d5227b0521ffc286342cf953630f28f685", func := "synod/synodlaw23.ClientWell", spec := "clientWell", apart := false }
def ClientWellSaid : Prop := clientWellRow.holds Try.pinned (OpenSpec.ofChange clientWellSpec)

/-- ITS FALSE NEIGHBOUR: 'it returns false'. Refute it at one input. -/
def clientWellWrong : ChangeSpec := { name := "clientWell", fn := fun _ => fun
  | [d1, d2] => { results := [.lit (.bool false)], args := [d1, d2] }
  | _ => none }
def ClientWellWrongFalsely : Prop := clientWellRow.holds Try.pinned (OpenSpec.ofChange clientWellWrong)

/-- 'synodlaw23.ClientRuns': WHATEVER THE INPUT: true; the input reads as it did. -/
def clientRunsSpec : ChangeSpec := { name := "clientRuns", fn := fun _ => fun
  | [d1, d2] => { results := [.lit (.bool true)], args := [d1, d2] }
  | _ => none }
def clientRunsRow : OpenClaim := { program := "ytedmjckelghpiaa", sum := "a5347a7091d45638cd13a1ef414bb1d5227b0521ffc286342cf953630f28f685", func := "synod/synodlaw23.ClientRuns", spec := "clientRuns", apart := false }
def ClientRunsSaid : Prop := clientRunsRow.holds Try.pinned (OpenSpec.ofChange clientRunsSpec)

/-- ITS FALSE NEIGHBOUR: 'it returns false'. Refute it at one input. -/
def clientRunsWrong : ChangeSpec := { name := "clientRuns", fn := fun _ => fun
  | [d1, d2] => { results := [.lit (.bool false)], args := [d1, d2] }
  | _ => none }
def ClientRunsWrongFalsely : Prop := clientRunsRow.holds Try.pinned (OpenSpec.ofChange clientRunsWrong)

/-- 'synodlaw23.ClientAgain': WHATEVER THE INPUT: true; the input reads as it did. -/
def clientAgainSpec : ChangeSpec := { name := "clientAgain", fn := fun _ => fun
  | [d1, d2, d3, d4] => { results := [.lit (.bool true)], args := [d1, d2, d3, d4] }
  | _ => none }
def clientAgainRow : OpenClaim := { program := "ytedmjckelghpiaa", sum := "a5347a7091d45638cd13a1ef414bb1d5227b0521ffc286342cf953630f28f685", func := "synod/synodlaw23.ClientAgain", spec := "clientAgain", apart := false }
def ClientAgainSaid : Prop := clientAgainRow.holds Try.pinned (OpenSpec.ofChange clientAgainSpec)

/-- ITS FALSE NEIGHBOUR: 'it returns false'. Refute it at one input. -/
def clientAgainWrong : ChangeSpec := { name := "clientAgain", fn := fun _ => fun
  | [d1, d2, d3, d4] => { results := [.lit (.bool false)], args := [d1, d2, d3, d4] }
  | _ => none }
def ClientAgainWrongFalsely : Prop := clientAgainRow.holds Try.pinned (OpenSpec.ofChange clientAgainWrong)

/- THE SECOND FORM. 'bulk': how many values and letters a reading holds, each counted each time it is reached (what is shared counts as often as it is met; a slice's spare places count too). A statement '..UptoSaid' is the law's where the arguments, and the package variables that the reading takes, are together of bulk at most 1048576: NARROWER than '..Said'. Prove '..Said' where nothing that the law and all that it calls make is longer than what came in: it says more and counts as full. Else prove '..UptoSaid'. A law counts once. -/
mutual
def uptoBulk {H : Type} : DataW H → Nat
  | .lit (.string bytes) => bytes.length + 1
  | .lit _ => 1
  | .nil => 1
  | .ptr d => uptoBulk d + 1
  | .slice elems spare => uptoBulkAll elems + uptoBulkAll spare + 1
  | .agg parts => uptoBulkAll parts + 1
  | .iface _ d => uptoBulk d + 1
  | .map entries => uptoBulkEntries entries + 1
  | .held _ => 1
def uptoBulkAll {H : Type} : List (DataW H) → Nat
  | [] => 0
  | d :: r => uptoBulk d + uptoBulkAll r
def uptoBulkEntries {H : Type} : List (Lit × DataW H) → Nat
  | [] => 0
  | x :: r => uptoBulkEntry x + uptoBulkEntries r
def uptoBulkEntry {H : Type} : Lit × DataW H → Nat
  | (.string bytes, d) => bytes.length + uptoBulk d + 1
  | (_, d) => uptoBulk d + 1
 end
def uptoSmall : (H : Type) → List (DataW H) → Bool := fun _ ds => decide (uptoBulkAll ds ≤ 1048576)
def OpenSpec.upto (s : _root_.Go.ChangeSpec) : _root_.Go.OpenSpec := { _root_.Go.OpenSpec.ofChange s with cond := some uptoSmall }

/-- 'synodlaw23.ClientWell', WHERE WHAT IT READS IS OF BULK AT MOST 1048576: true; the input reads as it did. -/
def clientWellUptoRow : OpenClaim := { program := "ytedmjckelghpiaa", sum := "a5347a7091d45638cd13a1ef414bb1d5227b0521ffc286342cf953630f28f685", func := "synod/synodlaw23.ClientWell", spec := "clientWell", apart := false, narrowed := true }
def ClientWellUptoSaid : Prop := clientWellUptoRow.holds Try.pinned (OpenSpec.upto clientWellSpec)

/-- 'synodlaw23.ClientRuns', WHERE WHAT IT READS IS OF BULK AT MOST 1048576: true; the input reads as it did. -/
def clientRunsUptoRow : OpenClaim := { program := "ytedmjckelghpiaa", sum := "a5347a7091d45638cd13a1ef414bb1d5227b0521ffc286342cf953630f28f685", func := "synod/synodlaw23.ClientRuns", spec := "clientRuns", apart := false, narrowed := true }
def ClientRunsUptoSaid : Prop := clientRunsUptoRow.holds Try.pinned (OpenSpec.upto clientRunsSpec)

/-- 'synodlaw23.ClientAgain', WHERE WHAT IT READS IS OF BULK AT MOST 1048576: true; the input reads as it did. -/
def clientAgainUptoRow : OpenClaim := { program := "ytedmjckelghpiaa", sum := "a5347a7091d45638cd13a1ef414bb1d5227b0521ffc286342cf953630f28f685", func := "synod/synodlaw23.ClientAgain", spec := "clientAgain", apart := false, narrowed := true }
def ClientAgainUptoSaid : Prop := clientAgainUptoRow.holds Try.pinned (OpenSpec.upto clientAgainSpec)

end Rows
end Go.Proofs.Ytedmjckelghpiaa
