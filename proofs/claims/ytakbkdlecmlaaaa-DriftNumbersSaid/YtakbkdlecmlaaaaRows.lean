/-
  No cell of these rows narrows 'for every input' (looked for: loops, veiled, ifaces, maps, wideKeys, modest, calm, conditions, laid).
  DERIVED. THE GIVEN ROWS OF THIS SEAT. 3 by the template 'for every input the law returns true; each argument reads behind the call as it read before'; 0 by the template 'total and deterministic' (their statements: YtakbkdlecmlaaaaTotals.lean).
  GIVEN WITH THE SEED: the statements are not yours to turn. If you find one false, say at which input.
  Laid BY PROGRAM, IN A SANDBOX (cutbox-rows.mjs): the forced cells as the released guide's own fill.sh prints them over the translation a99ae682c700c842… (all of the seat's roots in one cut). By AI agents, Wed Nov 11 2026. No macro, syntax, notation, axiom, sorry.
-/
import Derived.Test.YtakbkdlecmlaaaaChecked
import GoSem.Claim
import GoSem.ClaimJoined
import GoSem.ClaimMapViews
import Derived.JoinedTies
import Derived.KernelRfl
namespace Go.Proofs.Ytakbkdlecmlaaaa
/- THE CELL 'sum', in the pinned program and in every row, IS THE sha256 OF THE DUMP (.gsa) THAT YtakbkdlecmlaaaaProg.lean LOADS. Nothing in Lean hashes anything: it is a label: what it is worth is what the hold of that sum in a sandbox is worth. -/
noncomputable def Try.pinned : Pinned := { name := "ytakbkdlecmlaaaa", sum := "a99ae682c700c842fdee73cfbd5daa6a25ac83ec88e14eeaf92168940730a53e", checked := Try.checked }
namespace Rows
def none {H : Type} : Left H := { results := [], args := [] }

/-- 'synodlaw11.DriftNumbers': WHATEVER THE INPUT: true; the input reads as it did. -/
def driftNumbersSpec : ChangeSpec := { name := "driftNumbers", fn := fun _ => fun
  | [d1, d2] => { results := [.lit (.bool true)], args := [d1, d2] }
  | _ => none }
def driftNumbersRow : OpenClaim := { program := "ytakbkdlecmlaaaa", sum := "a99ae682c700c842fdee73cfbd5daa6a25ac83ec88e14eeaf92168940730a53e", func := "synod/synodlaw11.DriftNumbers", spec := "driftNumbers", apart := false }
def DriftNumbersSaid : Prop := driftNumbersRow.holds Try.pinned (OpenSpec.ofChange driftNumbersSpec)

/-- ITS FALSE NEIGHBOUR: 'it returns false'. Refute it at one input. -/
def driftNumbersWrong : ChangeSpec := { name := "driftNumbers", fn := fun _ => fun
  | [d1, d2] => { results := [.lit (.bool false)], args := [d1, d2] }
  | _ => none }
def DriftNumbersWrongFalsely : Prop := driftNumbersRow.holds Try.pinned (OpenSpec.ofChange driftNumbersWrong)

/-- 'synodlaw11.DriftKeeps': WHATEVER THE INPUT: true; the input reads as it did. -/
def driftKeepsSpec : ChangeSpec := { name := "driftKeeps", fn := fun _ => fun
  | [d1, d2, d3] => { results := [.lit (.bool true)], args := [d1, d2, d3] }
  | _ => none }
def driftKeepsRow : OpenClaim := { program := "ytakbkdlecmlaaaa", sum := "a99ae682c700c842fdee73cfbd5daa6a25ac83ec88e14eeaf92168940730a53e", func := "synod/synodlaw11.DriftKeeps", spec := "driftKeeps", apart := false }
def DriftKeepsSaid : Prop := driftKeepsRow.holds Try.pinned (OpenSpec.ofChange driftKeepsSpec)

/-- ITS FALSE NEIGHBOUR: 'it returns false'. Refute it at one input. -/
def driftKeepsWrong : ChangeSpec := { name := "driftKeeps", fn := fun _ => fun
  | [d1, d2, d3] => { results := [.lit (.bool false)], args := [d1, d2, d3] }
  | _ => none }
def DriftKeepsWrongFalsely : Prop := driftKeepsRow.holds Try.pinned (OpenSpec.ofChange driftKeepsWrong)

/-- 'synodlaw11.DriftSafe': WHATEVER THE INPUT: true; the input reads as it did. -/
def driftSafeSpec : ChangeSpec := { name := "driftSafe", fn := fun _ => fun
  | [d1, d2, d3, d4, d5] => { results := [.lit (.bool true)], args := [d1, d2, d3, d4, d5] }
  | _ => none }
def driftSafeRow : OpenClaim := { program := "ytakbkdlecmlaaaa", sum := "a99ae682c700c842fdee73cfbd5daa6a25ac83ec88e14eeaf92168940730a53e", func := "synod/synodlaw11.DriftSafe", spec := "driftSafe", apart := false }
def DriftSafeSaid : Prop := driftSafeRow.holds Try.pinned (OpenSpec.ofChange driftSafeSpec)

/-- ITS FALSE NEIGHBOUR: 'it returns false'. Refute it at one input. -/
def driftSafeWrong : ChangeSpec := { name := "driftSafe", fn := fun _ => fun
  | [d1, d2, d3, d4, d5] => { results := [.lit (.bool false)], args := [d1, d2, d3, d4, d5] }
  | _ => none }
def DriftSafeWrongFalsely : Prop := driftSafeRow.holds Try.pinned (OpenSpec.ofChange driftSafeWrong)

/- THE SECOND FORM. 'bulk': how many values and letters a reading holds, each counted each time it is reached (what is shared counts as often as it is met; a slice's spare places count too). A statement '..UptoSaid' is the law's where the arguments, and the package variables that the reading takes, are together of bulk at most 1048576: NARROWER than '..Said'. Prove '..Said' where nothing that the law and all that it calls make is longer than what came in: it says more and counts as full. Else prove '..UptoSaid'. A law counts once. -/
mutual
def uptoBulk {H : Type} : DataW H → Nat
  | .lit (.string bytes) => bytes.length + 1
  | .lit _ => 1
  | .nil => 1
  | .ptr d => uptoBulk d + 1
  | .slice elems spare => uptoBulkAll elems + uptoBulkAll spare + 1
  | .agg parts => uptoBulkAll parts + 1
  | .iface _ d => uptoBulk d + 1
  | .map entries => uptoBulkEntries entries + 1
  | .held _ => 1
def uptoBulkAll {H : Type} : List (DataW H) → Nat
  | [] => 0
  | d :: r => uptoBulk d + uptoBulkAll r
def uptoBulkEntries {H : Type} : List (Lit × DataW H) → Nat
  | [] => 0
  | x :: r => uptoBulkEntry x + uptoBulkEntries r
def uptoBulkEntry {H : Type} : Lit × DataW H → Nat
  | (.string bytes, d) => bytes.length + uptoBulk d + 1
  | (_, d) => uptoBulk d + 1
 end
def uptoSmall : (H : Type) → List (DataW H) → Bool := fun _ ds => decide (uptoBulkAll ds ≤ 1048576)
def OpenSpec.upto (s : _root_.Go.ChangeSpec) : _root_.Go.OpenSpec := { _root_.Go.OpenSpec.ofChange s with cond := some uptoSmall }

/-- 'synodlaw11.DriftNumbers', WHERE WHAT IT READS IS OF BULK AT MOST 1048576: true; the input reads as it did. -/
def driftNumbersUptoRow : OpenClaim := { program := "ytakbkdlecmlaaaa", sum := "a99ae682c700c842fdee73cfbd5daa6a25ac83ec88e14eeaf92168940730a53e", func := "synod/synodlaw11.DriftNumbers", spec := "driftNumbers", apart := false, narrowed := true }
def DriftNumbersUptoSaid : Prop := driftNumbersUptoRow.holds Try.pinned (OpenSpec.upto driftNumbersSpec)

/-- 'synodlaw11.DriftKeeps', WHERE WHAT IT READS IS OF BULK AT MOST 1048576: true; the input reads as it did. -/
def driftKeepsUptoRow : OpenClaim := { program := "ytakbkdlecmlaaaa", sum := "a99ae682c700c842fdee73cfbd5daa6a25ac83ec88e14eeaf92168940730a53e", func := "synod/synodlaw11.DriftKeeps", spec := "driftKeeps", apart := false, narrowed := true }
def DriftKeepsUptoSaid : Prop := driftKeepsUptoRow.holds Try.pinned (OpenSpec.upto driftKeepsSpec)

/-- 'synodlaw11.DriftSafe', WHERE WHAT IT READS IS OF BULK AT MOST 1048576: true; the input reads as it did. -/
def driftSafeUptoRow : OpenClaim := { program := "ytakbkdlecmlaaaa", sum := "a99ae682c700c842fdee73cfbd5daa6a25ac83ec88e14eeaf92168940730a53e", func := "synod/synodlaw11.DriftSafe", spec := "driftSafe", apart := false, narrowed := true }
def DriftSafeUptoSaid : Prop := driftSafeUptoRow.holds Try.pinned (OpenSpec.upto driftSafeSpec)

end Rows
end Go.Proofs.Ytakbkdlecmlaaaa
