/-
  No cell of these rows narrows 'for every input' (looked for: loops, veiled, ifaces, maps, wideKeys, modest, calm, conditions, laid).
  DERIVED. THE GIVEN ROWS OF THIS SEAT. 4 by the template 'for every input the law returns true; each argument reads behind the call as it read before'; 0 by the template 'total and deterministic' (their statements: YtlgpjjgkdpmidaaTotals.lean).
  GIVEN WITH THE SEED: the statements are not yours to turn. If you find one false, say at which input.
  Laid BY PROGRAM, IN A SANDBOX (cutbox-rows.mjs): the forced cells as the released guide's own fill.sh prints them over the translation 349f4d95cd202968… (all of the seat's roots in one cut). By AI agents, Wed Nov 11 2026. No macro, syntax, notation, axiom, sorry.
-/
import Derived.Test.YtlgpjjgkdpmidaaChecked
import GoSem.Claim
import GoSem.ClaimJoined
import GoSem.ClaimMapViews
import Derived.JoinedTies
import Derived.KernelRfl
namespace Go.Proofs.Ytlgpjjgkdpmidaa
/- THE CELL 'sum', in the pinned program and in every row, IS THE sha256 OF THE DUMP (.gsa) THAT YtlgpjjgkdpmidaaProg.lean LOADS. Nothing in Lean hashes anything: it is a label: what it is worth is what the hold of that sum in a sandbox is worth. -/
noncomputable def Try.pinned : Pinned := { name := "ytlgpjjgkdpmidaa", sum := "349f4d95cd202968c275abec6494330edc2e4ca3e5c56033280b7e64eaf16081", checked := Try.checked }
namespace Rows
def none {H : Type} : Left H := { results := [], args := [] }

/-- 'synodlaw16.ProposerBound': WHATEVER THE INPUT: true; the input reads as it did. -/
def proposerBoundSpec : ChangeSpec := { name := "proposerBound", fn := fun _ => fun
  | [d1, d2] => { results := [.lit (.bool true)], args := [d1, d2] }
  | _ => none }
def proposerBoundRow : OpenClaim := { program := "ytlgpjjgkdpmidaa", sum := "349f4d95cd202968c275abec6494330edc2e4ca3e5c56033280b7e64eaf16081", func := "synod/synodlaw16.ProposerBound", spec := "proposerBound", apart := false }
def ProposerBoundSaid : Prop := proposerBoundRow.holds Try.pinned (OpenSpec.ofChange proposerBoundSpec)

/-- ITS FALSE NEIGHBOUR: 'it returns false'. Refute it at one input. -/
def proposerBoundWrong : ChangeSpec := { name := "proposerBound", fn := fun _ => fun
  | [d1, d2] => { results := [.lit (.bool false)], args := [d1, d2] }
  | _ => none }
def ProposerBoundWrongFalsely : Prop := proposerBoundRow.holds Try.pinned (OpenSpec.ofChange proposerBoundWrong)

/-- 'synodlaw16.ProposerWindow': WHATEVER THE INPUT: true; the input reads as it did. -/
def proposerWindowSpec : ChangeSpec := { name := "proposerWindow", fn := fun _ => fun
  | [d1, d2, d3] => { results := [.lit (.bool true)], args := [d1, d2, d3] }
  | _ => none }
def proposerWindowRow : OpenClaim := { program := "ytlgpjjgkdpmidaa", sum := "349f4d95cd202968c275abec6494330edc2e4ca3e5c56033280b7e64eaf16081", func := "synod/synodlaw16.ProposerWindow", spec := "proposerWindow", apart := false }
def ProposerWindowSaid : Prop := proposerWindowRow.holds Try.pinned (OpenSpec.ofChange proposerWindowSpec)

/-- ITS FALSE NEIGHBOUR: 'it returns false'. Refute it at one input. -/
def proposerWindowWrong : ChangeSpec := { name := "proposerWindow", fn := fun _ => fun
  | [d1, d2, d3] => { results := [.lit (.bool false)], args := [d1, d2, d3] }
  | _ => none }
def ProposerWindowWrongFalsely : Prop := proposerWindowRow.holds Try.pinned (OpenSpec.ofChange proposerWindowWrong)

/-- 'synodlaw16.ProposerStops': WHATEVER THE INPUT: true; the input reads as it did. -/
def proposerStopsSpec : ChangeSpec := { name := "proposerStops", fn := fun _ => fun
  | [d1, d2, d3, d4] => { results := [.lit (.bool true)], args := [d1, d2, d3, d4] }
  | _ => none }
def proposerStopsRow : OpenClaim := { program := "ytlgpjjgkdpmidaa", sum := "349f4d95cd202968c275abec6494330edc2e4ca3e5c56033280b7e64eaf16081", func := "synod/synodlaw16.ProposerStops", spec := "proposerStops", apart := false }
def ProposerStopsSaid : Prop := proposerStopsRow.holds Try.pinned (OpenSpec.ofChange proposerStopsSpec)

/-- ITS FALSE NEIGHBOUR: 'it returns false'. Refute it at one input. -/
def proposerStopsWrong : ChangeSpec := { name := "proposerStops", fn := fun _ => fun
  | [d1, d2, d3, d4] => { results := [.lit (.bool false)], args := [d1, d2, d3, d4] }
  | _ => none }
def ProposerStopsWrongFalsely : Prop := proposerStopsRow.holds Try.pinned (OpenSpec.ofChange proposerStopsWrong)

/-- 'synodlaw16.ProposerAgain': WHATEVER THE INPUT: true; the input reads as it did. -/
def proposerAgainSpec : ChangeSpec := { name := "proposerAgain", fn := fun _ => fun
  | [d1, d2] => { results := [.lit (.bool true)], args := [d1, d2] }
  | _ => none }
def proposerAgainRow : OpenClaim := { program := "ytlgpjjgkdpmidaa", sum := "349f4d95cd202968c275abec6494330edc2e4ca3e5c56033280b7e64eaf16081", func := "synod/synodlaw16.ProposerAgain", spec := "proposerAgain", unfollowed := true, recurses := true, apart := false }
def ProposerAgainSaid : Prop := proposerAgainRow.holds Try.pinned (OpenSpec.ofChange proposerAgainSpec)

/-- ITS FALSE NEIGHBOUR: 'it returns false'. Refute it at one input. -/
def proposerAgainWrong : ChangeSpec := { name := "proposerAgain", fn := fun _ => fun
  | [d1, d2] => { results := [.lit (.bool false)], args := [d1, d2] }
  | _ => none }
def ProposerAgainWrongFalsely : Prop := proposerAgainRow.holds Try.pinned (OpenSpec.ofChange proposerAgainWrong)

/- THE SECOND FORM. 'bulk': how many values and letters a reading holds, each counted each time it is reached (what is shared counts as often as it is met; a slice's spare places count too). A statement '..UptoSaid' is the law's where the arguments, and the package variables that the reading takes, are together of bulk at most 1048576: NARROWER than '..Said'. Prove '..Said' where nothing that the law and all that it calls make is longer than what came in: it says more and counts as full. Else prove '..UptoSaid'. A law counts once. -/
mutual
def uptoBulk {H : Type} : DataW H → Nat
  | .lit (.string bytes) => bytes.length + 1
  | .lit _ => 1
  | .nil => 1
  | .ptr d => uptoBulk d + 1
  | .slice elems spare => uptoBulkAll elems + uptoBulkAll spare + 1
  | .agg parts => uptoBulkAll parts + 1
  | .iface _ d => uptoBulk d + 1
  | .map entries => uptoBulkEntries entries + 1
  | .held _ => 1
def uptoBulkAll {H : Type} : List (DataW H) → Nat
  | [] => 0
  | d :: r => uptoBulk d + uptoBulkAll r
def uptoBulkEntries {H : Type} : List (Lit × DataW H) → Nat
  | [] => 0
  | x :: r => uptoBulkEntry x + uptoBulkEntries r
def uptoBulkEntry {H : Type} : Lit × DataW H → Nat
  | (.string bytes, d) => bytes.length + uptoBulk d + 1
  | (_, d) => uptoBulk d + 1
 end
def uptoSmall : (H : Type) → List (DataW H) → Bool := fun _ ds => decide (uptoBulkAll ds ≤ 1048576)
def OpenSpec.upto (s : _root_.Go.ChangeSpec) : _root_.Go.OpenSpec := { _root_.Go.OpenSpec.ofChange s with cond := some uptoSmall }

/-- 'synodlaw16.ProposerBound', WHERE WHAT IT READS IS OF BULK AT MOST 1048576: true; the input reads as it did. -/
def proposerBoundUptoRow : OpenClaim := { program := "ytlgpjjgkdpmidaa", sum := "349f4d95cd202968c275abec6494330edc2e4ca3e5c56033280b7e64eaf16081", func := "synod/synodlaw16.ProposerBound", spec := "proposerBound", apart := false, narrowed := true }
def ProposerBoundUptoSaid : Prop := proposerBoundUptoRow.holds Try.pinned (OpenSpec.upto proposerBoundSpec)

/-- 'synodlaw16.ProposerWindow', WHERE WHAT IT READS IS OF BULK AT MOST 1048576: true; the input reads as it did. -/
def proposerWindowUptoRow : OpenClaim := { program := "ytlgpjjgkdpmidaa", sum := "349f4d95cd202968c275abec6494330edc2e4ca3e5c56033280b7e64eaf16081", func := "synod/synodlaw16.ProposerWindow", spec := "proposerWindow", apart := false, narrowed := true }
def ProposerWindowUptoSaid : Prop := proposerWindowUptoRow.holds Try.pinned (OpenSpec.upto proposerWindowSpec)

/-- 'synodlaw16.ProposerStops', WHERE WHAT IT READS IS OF BULK AT MOST 1048576: true; the input reads as it did. -/
def proposerStopsUptoRow : OpenClaim := { program := "ytlgpjjgkdpmidaa", sum := "349f4d95cd202968c275abec6494330edc2e4ca3e5c56033280b7e64eaf16081", func := "synod/synodlaw16.ProposerStops", spec := "proposerStops", apart := false, narrowed := true }
def ProposerStopsUptoSaid : Prop := proposerStopsUptoRow.holds Try.pinned (OpenSpec.upto proposerStopsSpec)

/-- 'synodlaw16.ProposerAgain', WHERE WHAT IT READS IS OF BULK AT MOST 1048576: true; the input reads as it did. -/
def proposerAgainUptoRow : OpenClaim := { program := "ytlgpjjgkdpmidaa", sum := "349f4d95cd202968c275abec6494330edc2e4ca3e5c56033280b7e64eaf16081", func := "synod/synodlaw16.ProposerAgain", spec := "proposerAgain", unfollowed := true, recurses := true, apart := false, narrowed := true }
def ProposerAgainUptoSaid : Prop := proposerAgainUptoRow.holds Try.pinned (OpenSpec.upto proposerAgainSpec)

end Rows
end Go.Proofs.Ytlgpjjgkdpmidaa
