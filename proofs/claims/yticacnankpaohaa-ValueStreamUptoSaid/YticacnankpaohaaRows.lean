/-
  No cell of these rows narrows 'for every input' (looked for: loops, veiled, ifaces, maps, wideKeys, modest, calm, conditions, laid).
  DERIVED. THE GIVEN ROWS OF THIS SEAT. 6 by the template 'for every input the law returns true; each argument reads behind the call as it read before'; 0 by the template 'total and deterministic' (their statements: YticacnankpaohaaTotals.lean).
  GIVEN WITH THE SEED: the statements are not yours to turn. If you find one false, say at which input.
  Laid BY PROGRAM, IN A SANDBOX (cutbox-rows.mjs): the forced cells as the released guide's own fill.sh prints them over the translation e10b9204873ca53f… (all of the seat's roots in one cut). By AI agents, Wed Nov 11 2026. No macro, syntax, notation, axiom, sorry.
-/
import Derived.Test.YticacnankpaohaaChecked
import GoSem.Claim
import GoSem.ClaimJoined
import GoSem.ClaimMapViews
import Derived.JoinedTies
import Derived.KernelRfl
namespace Go.Proofs.Yticacnankpaohaa
/- THE CELL 'sum', in the pinned program and in every row, IS THE sha256 OF THE DUMP (.gsa) THAT YticacnankpaohaaProg.lean LOADS. Nothing in Lean hashes anything: it is a label: what it is worth is what the hold of that sum in a sandbox is worth. -/
noncomputable def Try.pinned : Pinned := { name := "yticacnankpaohaa", sum := "e10b9204873ca53fc771b28abd394bcc2e0114711a80cd757c55bd9b38429d13", checked := Try.checked }
namespace Rows
def none {H : Type} : Left H := { results := [], args := [] }

/-- 'synodlaw06.ValueChecks': WHATEVER THE INPUT: true; the input reads as it did. -/
def valueChecksSpec : ChangeSpec := { name := "valueChecks", fn := fun _ => fun
  | [d1, d2] => { results := [.lit (.bool true)], args := [d1, d2] }
  | _ => none }
def valueChecksRow : OpenClaim := { program := "yticacnankpaohaa", sum := "e10b9204873ca53fc771b28abd394bcc2e0114711a80cd757c55bd9b38429d13", func := "synod/synodlaw06.ValueChecks", spec := "valueChecks", apart := false }
def ValueChecksSaid : Prop := valueChecksRow.holds Try.pinned (OpenSpec.ofChange valueChecksSpec)

/-- ITS FALSE NEIGHBOUR: 'it returns false'. Refute it at one input. -/
def valueChecksWrong : ChangeSpec := { name := "valueChecks", fn := fun _ => fun
  | [d1, d2] => { results := [.lit (.bool false)], args := [d1, d2] }
  | _ => none }
def ValueChecksWrongFalsely : Prop := valueChecksRow.holds Try.pinned (OpenSpec.ofChange valueChecksWrong)

/-- 'synodlaw06.ValueCodes': WHATEVER THE INPUT: true; the input reads as it did. -/
def valueCodesSpec : ChangeSpec := { name := "valueCodes", fn := fun _ => fun
  | [d1, d2] => { results := [.lit (.bool true)], args := [d1, d2] }
  | _ => none }
def valueCodesRow : OpenClaim := { program := "yticacnankpaohaa", sum := "e10b9204873ca53fc771b28abd394bcc2e0114711a80cd757c55bd9b38429d13", func := "synod/synodlaw06.ValueCodes", spec := "valueCodes", apart := false }
def ValueCodesSaid : Prop := valueCodesRow.holds Try.pinned (OpenSpec.ofChange valueCodesSpec)

/-- ITS FALSE NEIGHBOUR: 'it returns false'. Refute it at one input. -/
def valueCodesWrong : ChangeSpec := { name := "valueCodes", fn := fun _ => fun
  | [d1, d2] => { results := [.lit (.bool false)], args := [d1, d2] }
  | _ => none }
def ValueCodesWrongFalsely : Prop := valueCodesRow.holds Try.pinned (OpenSpec.ofChange valueCodesWrong)

/-- 'synodlaw06.ValueStream': WHATEVER THE INPUT: true; the input reads as it did. -/
def valueStreamSpec : ChangeSpec := { name := "valueStream", fn := fun _ => fun
  | [d1, d2] => { results := [.lit (.bool true)], args := [d1, d2] }
  | _ => none }
def valueStreamRow : OpenClaim := { program := "yticacnankpaohaa", sum := "e10b9204873ca53fc771b28abd394bcc2e0114711a80cd757c55bd9b38429d13", func := "synod/synodlaw06.ValueStream", spec := "valueStream", apart := false }
def ValueStreamSaid : Prop := valueStreamRow.holds Try.pinned (OpenSpec.ofChange valueStreamSpec)

/-- ITS FALSE NEIGHBOUR: 'it returns false'. Refute it at one input. -/
def valueStreamWrong : ChangeSpec := { name := "valueStream", fn := fun _ => fun
  | [d1, d2] => { results := [.lit (.bool false)], args := [d1, d2] }
  | _ => none }
def ValueStreamWrongFalsely : Prop := valueStreamRow.holds Try.pinned (OpenSpec.ofChange valueStreamWrong)

/-- 'synodlaw06.ValueBack': WHATEVER THE INPUT: true; the input reads as it did. -/
def valueBackSpec : ChangeSpec := { name := "valueBack", fn := fun _ => fun
  | [d1, d2] => { results := [.lit (.bool true)], args := [d1, d2] }
  | _ => none }
def valueBackRow : OpenClaim := { program := "yticacnankpaohaa", sum := "e10b9204873ca53fc771b28abd394bcc2e0114711a80cd757c55bd9b38429d13", func := "synod/synodlaw06.ValueBack", spec := "valueBack", apart := false }
def ValueBackSaid : Prop := valueBackRow.holds Try.pinned (OpenSpec.ofChange valueBackSpec)

/-- ITS FALSE NEIGHBOUR: 'it returns false'. Refute it at one input. -/
def valueBackWrong : ChangeSpec := { name := "valueBack", fn := fun _ => fun
  | [d1, d2] => { results := [.lit (.bool false)], args := [d1, d2] }
  | _ => none }
def ValueBackWrongFalsely : Prop := valueBackRow.holds Try.pinned (OpenSpec.ofChange valueBackWrong)

/-- 'synodlaw06.ValueUnlike': WHATEVER THE INPUT: true; the input reads as it did. -/
def valueUnlikeSpec : ChangeSpec := { name := "valueUnlike", fn := fun _ => fun
  | [d1, d2] => { results := [.lit (.bool true)], args := [d1, d2] }
  | _ => none }
def valueUnlikeRow : OpenClaim := { program := "yticacnankpaohaa", sum := "e10b9204873ca53fc771b28abd394bcc2e0114711a80cd757c55bd9b38429d13", func := "synod/synodlaw06.ValueUnlike", spec := "valueUnlike", apart := false }
def ValueUnlikeSaid : Prop := valueUnlikeRow.holds Try.pinned (OpenSpec.ofChange valueUnlikeSpec)

/-- ITS FALSE NEIGHBOUR: 'it returns false'. Refute it at one input. -/
def valueUnlikeWrong : ChangeSpec := { name := "valueUnlike", fn := fun _ => fun
  | [d1, d2] => { results := [.lit (.bool false)], args := [d1, d2] }
  | _ => none }
def ValueUnlikeWrongFalsely : Prop := valueUnlikeRow.holds Try.pinned (OpenSpec.ofChange valueUnlikeWrong)

/-- 'synodlaw06.ValueSame': WHATEVER THE INPUT: true; the input reads as it did. -/
def valueSameSpec : ChangeSpec := { name := "valueSame", fn := fun _ => fun
  | [d1, d2] => { results := [.lit (.bool true)], args := [d1, d2] }
  | _ => none }
def valueSameRow : OpenClaim := { program := "yticacnankpaohaa", sum := "e10b9204873ca53fc771b28abd394bcc2e0114711a80cd757c55bd9b38429d13", func := "synod/synodlaw06.ValueSame", spec := "valueSame", apart := false }
def ValueSameSaid : Prop := valueSameRow.holds Try.pinned (OpenSpec.ofChange valueSameSpec)

/-- ITS FALSE NEIGHBOUR: 'it returns false'. Refute it at one input. -/
def valueSameWrong : ChangeSpec := { name := "valueSame", fn := fun _ => fun
  | [d1, d2] => { results := [.lit (.bool false)], args := [d1, d2] }
  | _ => none }
def ValueSameWrongFalsely : Prop := valueSameRow.holds Try.pinned (OpenSpec.ofChange valueSameWrong)

/- THE SECOND FORM. 'bulk': how many values and letters a reading holds, each counted each time it is reached (what is shared counts as often as it is met; a slice's spare places count too). A statement '..UptoSaid' is the law's where the arguments, and the package variables that the reading takes, are together of bulk at most 1048576: NARROWER than '..Said'. Prove '..Said' where nothing that the law and all that it calls make is longer than what came in: it says more and counts as full. Else prove '..UptoSaid'. A law counts once. -/
mutual
def uptoBulk {H : Type} : DataW H → Nat
  | .lit (.string bytes) => bytes.length + 1
  | .lit _ => 1
  | .nil => 1
  | .ptr d => uptoBulk d + 1
  | .slice elems spare => uptoBulkAll elems + uptoBulkAll spare + 1
  | .agg parts => uptoBulkAll parts + 1
  | .iface _ d => uptoBulk d + 1
  | .map entries => uptoBulkEntries entries + 1
  | .held _ => 1
def uptoBulkAll {H : Type} : List (DataW H) → Nat
  | [] => 0
  | d :: r => uptoBulk d + uptoBulkAll r
def uptoBulkEntries {H : Type} : List (Lit × DataW H) → Nat
  | [] => 0
  | x :: r => uptoBulkEntry x + uptoBulkEntries r
def uptoBulkEntry {H : Type} : Lit × DataW H → Nat
  | (.string bytes, d) => bytes.length + uptoBulk d + 1
  | (_, d) => uptoBulk d + 1
 end
def uptoSmall : (H : Type) → List (DataW H) → Bool := fun _ ds => decide (uptoBulkAll ds ≤ 1048576)
def OpenSpec.upto (s : _root_.Go.ChangeSpec) : _root_.Go.OpenSpec := { _root_.Go.OpenSpec.ofChange s with cond := some uptoSmall }

/-- 'synodlaw06.ValueChecks', WHERE WHAT IT READS IS OF BULK AT MOST 1048576: true; the input reads as it did. -/
def valueChecksUptoRow : OpenClaim := { program := "yticacnankpaohaa", sum := "e10b9204873ca53fc771b28abd394bcc2e0114711a80cd757c55bd9b38429d13", func := "synod/synodlaw06.ValueChecks", spec := "valueChecks", apart := false, narrowed := true }
def ValueChecksUptoSaid : Prop := valueChecksUptoRow.holds Try.pinned (OpenSpec.upto valueChecksSpec)

/-- 'synodlaw06.ValueCodes', WHERE WHAT IT READS IS OF BULK AT MOST 1048576: true; the input reads as it did. -/
def valueCodesUptoRow : OpenClaim := { program := "yticacnankpaohaa", sum := "e10b9204873ca53fc771b28abd394bcc2e0114711a80cd757c55bd9b38429d13", func := "synod/synodlaw06.ValueCodes", spec := "valueCodes", apart := false, narrowed := true }
def ValueCodesUptoSaid : Prop := valueCodesUptoRow.holds Try.pinned (OpenSpec.upto valueCodesSpec)

/-- 'synodlaw06.ValueStream', WHERE WHAT IT READS IS OF BULK AT MOST 1048576: true; the input reads as it did. -/
def valueStreamUptoRow : OpenClaim := { program := "yticacnankpaohaa", sum := "e10b9204873ca53fc771b28abd394bcc2e0114711a80cd757c55bd9b38429d13", func := "synod/synodlaw06.ValueStream", spec := "valueStream", apart := false, narrowed := true }
def ValueStreamUptoSaid : Prop := valueStreamUptoRow.holds Try.pinned (OpenSpec.upto valueStreamSpec)

/-- 'synodlaw06.ValueBack', WHERE WHAT IT READS IS OF BULK AT MOST 1048576: true; the input reads as it did. -/
def valueBackUptoRow : OpenClaim := { program := "yticacnankpaohaa", sum := "e10b9204873ca53fc771b28abd394bcc2e0114711a80cd757c55bd9b38429d13", func := "synod/synodlaw06.ValueBack", spec := "valueBack", apart := false, narrowed := true }
def ValueBackUptoSaid : Prop := valueBackUptoRow.holds Try.pinned (OpenSpec.upto valueBackSpec)

/-- 'synodlaw06.ValueUnlike', WHERE WHAT IT READS IS OF BULK AT MOST 1048576: true; the input reads as it did. -/
def valueUnlikeUptoRow : OpenClaim := { program := "yticacnankpaohaa", sum := "e10b9204873ca53fc771b28abd394bcc2e0114711a80cd757c55bd9b38429d13", func := "synod/synodlaw06.ValueUnlike", spec := "valueUnlike", apart := false, narrowed := true }
def ValueUnlikeUptoSaid : Prop := valueUnlikeUptoRow.holds Try.pinned (OpenSpec.upto valueUnlikeSpec)

/-- 'synodlaw06.ValueSame', WHERE WHAT IT READS IS OF BULK AT MOST 1048576: true; the input reads as it did. -/
def valueSameUptoRow : OpenClaim := { program := "yticacnankpaohaa", sum := "e10b9204873ca53fc771b28abd394bcc2e0114711a80cd757c55bd9b38429d13", func := "synod/synodlaw06.ValueSame", spec := "valueSame", apart := false, narrowed := true }
def ValueSameUptoSaid : Prop := valueSameUptoRow.holds Try.pinned (OpenSpec.upto valueSameSpec)

end Rows
end Go.Proofs.Yticacnankpaohaa
