/-
  No cell of these rows narrows 'for every input' (looked for: loops, veiled, ifaces, maps, wideKeys, modest, calm, conditions, laid).
  DERIVED. THE GIVEN ROWS OF THIS SEAT. 4 by the template 'for every input the law returns true; each argument reads behind the call as it read before'; 0 by the template 'total and deterministic' (their statements: YtgphmdccmaibmaaTotals.lean).
  GIVEN WITH THE SEED: the statements are not yours to turn. If you find one false, say at which input.
  Laid BY PROGRAM, IN A SANDBOX (cutbox-rows.mjs): the forced cells as the released guide's own fill.sh prints them over the translation 539e26dc6dd41e16… (all of the seat's roots in one cut). By AI agents, Wed Nov 11 2026. No macro, syntax, notation, axiom, sorry.
-/
import Derived.Test.YtgphmdccmaibmaaChecked
import GoSem.Claim
import GoSem.ClaimJoined
import GoSem.ClaimMapViews
import Derived.JoinedTies
import Derived.KernelRfl
namespace Go.Proofs.Ytgphmdccmaibmaa
/- THE CELL 'sum', in the pinned program and in every row, IS THE sha256 OF THE DUMP (.gsa) THAT YtgphmdccmaibmaaProg.lean LOADS. Nothing in Lean hashes anything: it is a label: what it is worth is what the hold of that sum in a sandbox is worth. -/
noncomputable def Try.pinned : Pinned := { name := "ytgphmdccmaibmaa", sum := "539e26dc6dd41e16fa19747edc759be6aaf487139aa81e0324cf1a6fccfc3ca9", checked := Try.checked }
namespace Rows
def none {H : Type} : Left H := { results := [], args := [] }

/-- 'synodlaw21.TransferWhole': WHATEVER THE INPUT: true; the input reads as it did. -/
def transferWholeSpec : ChangeSpec := { name := "transferWhole", fn := fun _ => fun
  | [d1, d2] => { results := [.lit (.bool true)], args := [d1, d2] }
  | _ => none }
def transferWholeRow : OpenClaim := { program := "ytgphmdccmaibmaa", sum := "539e26dc6dd41e16fa19747edc759be6aaf487139aa81e0324cf1a6fccfc3ca9", func := "synod/synodlaw21.TransferWhole", spec := "transferWhole", apart := false }
def TransferWholeSaid : Prop := transferWholeRow.holds Try.pinned (OpenSpec.ofChange transferWholeSpec)

/-- ITS FALSE NEIGHBOUR: 'it returns false'. Refute it at one input. -/
def transferWholeWrong : ChangeSpec := { name := "transferWhole", fn := fun _ => fun
  | [d1, d2] => { results := [.lit (.bool false)], args := [d1, d2] }
  | _ => none }
def TransferWholeWrongFalsely : Prop := transferWholeRow.holds Try.pinned (OpenSpec.ofChange transferWholeWrong)

/-- 'synodlaw21.TransferNil': WHATEVER THE INPUT: true; the input reads as it did. -/
def transferNilSpec : ChangeSpec := { name := "transferNil", fn := fun _ => fun
  | [d1, d2] => { results := [.lit (.bool true)], args := [d1, d2] }
  | _ => none }
def transferNilRow : OpenClaim := { program := "ytgphmdccmaibmaa", sum := "539e26dc6dd41e16fa19747edc759be6aaf487139aa81e0324cf1a6fccfc3ca9", func := "synod/synodlaw21.TransferNil", spec := "transferNil", apart := false }
def TransferNilSaid : Prop := transferNilRow.holds Try.pinned (OpenSpec.ofChange transferNilSpec)

/-- ITS FALSE NEIGHBOUR: 'it returns false'. Refute it at one input. -/
def transferNilWrong : ChangeSpec := { name := "transferNil", fn := fun _ => fun
  | [d1, d2] => { results := [.lit (.bool false)], args := [d1, d2] }
  | _ => none }
def TransferNilWrongFalsely : Prop := transferNilRow.holds Try.pinned (OpenSpec.ofChange transferNilWrong)

/-- 'synodlaw21.TransferNewer': WHATEVER THE INPUT: true; the input reads as it did. -/
def transferNewerSpec : ChangeSpec := { name := "transferNewer", fn := fun _ => fun
  | [d1, d2, d3] => { results := [.lit (.bool true)], args := [d1, d2, d3] }
  | _ => none }
def transferNewerRow : OpenClaim := { program := "ytgphmdccmaibmaa", sum := "539e26dc6dd41e16fa19747edc759be6aaf487139aa81e0324cf1a6fccfc3ca9", func := "synod/synodlaw21.TransferNewer", spec := "transferNewer", apart := false }
def TransferNewerSaid : Prop := transferNewerRow.holds Try.pinned (OpenSpec.ofChange transferNewerSpec)

/-- ITS FALSE NEIGHBOUR: 'it returns false'. Refute it at one input. -/
def transferNewerWrong : ChangeSpec := { name := "transferNewer", fn := fun _ => fun
  | [d1, d2, d3] => { results := [.lit (.bool false)], args := [d1, d2, d3] }
  | _ => none }
def TransferNewerWrongFalsely : Prop := transferNewerRow.holds Try.pinned (OpenSpec.ofChange transferNewerWrong)

/-- 'synodlaw21.TransferTells': WHATEVER THE INPUT: true; the input reads as it did. -/
def transferTellsSpec : ChangeSpec := { name := "transferTells", fn := fun _ => fun
  | [d1, d2, d3] => { results := [.lit (.bool true)], args := [d1, d2, d3] }
  | _ => none }
def transferTellsRow : OpenClaim := { program := "ytgphmdccmaibmaa", sum := "539e26dc6dd41e16fa19747edc759be6aaf487139aa81e0324cf1a6fccfc3ca9", func := "synod/synodlaw21.TransferTells", spec := "transferTells", apart := false }
def TransferTellsSaid : Prop := transferTellsRow.holds Try.pinned (OpenSpec.ofChange transferTellsSpec)

/-- ITS FALSE NEIGHBOUR: 'it returns false'. Refute it at one input. -/
def transferTellsWrong : ChangeSpec := { name := "transferTells", fn := fun _ => fun
  | [d1, d2, d3] => { results := [.lit (.bool false)], args := [d1, d2, d3] }
  | _ => none }
def TransferTellsWrongFalsely : Prop := transferTellsRow.holds Try.pinned (OpenSpec.ofChange transferTellsWrong)

/- THE SECOND FORM. 'bulk': how many values and letters a reading holds, each counted each time it is reached (what is shared counts as often as it is met; a slice's spare places count too). A statement '..UptoSaid' is the law's where the arguments, and the package variables that the reading takes, are together of bulk at most 1048576: NARROWER than '..Said'. Prove '..Said' where nothing that the law and all that it calls make is longer than what came in: it says more and counts as full. Else prove '..UptoSaid'. A law counts once. -/
mutual
def uptoBulk {H : Type} : DataW H → Nat
  | .lit (.string bytes) => bytes.length + 1
  | .lit _ => 1
  | .nil => 1
  | .ptr d => uptoBulk d + 1
  | .slice elems spare => uptoBulkAll elems + uptoBulkAll spare + 1
  | .agg parts => uptoBulkAll parts + 1
  | .iface _ d => uptoBulk d + 1
  | .map entries => uptoBulkEntries entries + 1
  | .held _ => 1
def uptoBulkAll {H : Type} : List (DataW H) → Nat
  | [] => 0
  | d :: r => uptoBulk d + uptoBulkAll r
def uptoBulkEntries {H : Type} : List (Lit × DataW H) → Nat
  | [] => 0
  | x :: r => uptoBulkEntry x + uptoBulkEntries r
def uptoBulkEntry {H : Type} : Lit × DataW H → Nat
  | (.string bytes, d) => bytes.length + uptoBulk d + 1
  | (_, d) => uptoBulk d + 1
 end
def uptoSmall : (H : Type) → List (DataW H) → Bool := fun _ ds => decide (uptoBulkAll ds ≤ 1048576)
def OpenSpec.upto (s : _root_.Go.ChangeSpec) : _root_.Go.OpenSpec := { _root_.Go.OpenSpec.ofChange s with cond := some uptoSmall }

/-- 'synodlaw21.TransferWhole', WHERE WHAT IT READS IS OF BULK AT MOST 1048576: true; the input reads as it did. -/
def transferWholeUptoRow : OpenClaim := { program := "ytgphmdccmaibmaa", sum := "539e26dc6dd41e16fa19747edc759be6aaf487139aa81e0324cf1a6fccfc3ca9", func := "synod/synodlaw21.TransferWhole", spec := "transferWhole", apart := false, narrowed := true }
def TransferWholeUptoSaid : Prop := transferWholeUptoRow.holds Try.pinned (OpenSpec.upto transferWholeSpec)

/-- 'synodlaw21.TransferNil', WHERE WHAT IT READS IS OF BULK AT MOST 1048576: true; the input reads as it did. -/
def transferNilUptoRow : OpenClaim := { program := "ytgphmdccmaibmaa", sum := "539e26dc6dd41e16fa19747edc759be6aaf487139aa81e0324cf1a6fccfc3ca9", func := "synod/synodlaw21.TransferNil", spec := "transferNil", apart := false, narrowed := true }
def TransferNilUptoSaid : Prop := transferNilUptoRow.holds Try.pinned (OpenSpec.upto transferNilSpec)

/-- 'synodlaw21.TransferNewer', WHERE WHAT IT READS IS OF BULK AT MOST 1048576: true; the input reads as it did. -/
def transferNewerUptoRow : OpenClaim := { program := "ytgphmdccmaibmaa", sum := "539e26dc6dd41e16fa19747edc759be6aaf487139aa81e0324cf1a6fccfc3ca9", func := "synod/synodlaw21.TransferNewer", spec := "transferNewer", apart := false, narrowed := true }
def TransferNewerUptoSaid : Prop := transferNewerUptoRow.holds Try.pinned (OpenSpec.upto transferNewerSpec)

/-- 'synodlaw21.TransferTells', WHERE WHAT IT READS IS OF BULK AT MOST 1048576: true; the input reads as it did. -/
def transferTellsUptoRow : OpenClaim := { program := "ytgphmdccmaibmaa", sum := "539e26dc6dd41e16fa19747edc759be6aaf487139aa81e0324cf1a6fccfc3ca9", func := "synod/synodlaw21.TransferTells", spec := "transferTells", apart := false, narrowed := true }
def TransferTellsUptoSaid : Prop := transferTellsUptoRow.holds Try.pinned (OpenSpec.upto transferTellsSpec)

end Rows
end Go.Proofs.Ytgphmdccmaibmaa
