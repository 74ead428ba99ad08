/- 'append([]int{}, xs...)' in this program. -/
import Derived.Test.YtnpjigeljhlomaaRows
import Derived.Test.YtnpjigeljhlomaaLibG
namespace Go.Proofs.Ytnpjigeljhlomaa
open Go.RowKit Go.Syn
set_option linter.unusedVariables false
theorem info_int : (Try.prog.info? 3).map (fun i => (i.zero, i.size, i.bytes)) = some (some (.int .i64 0), 1, 8) := by kernel_rfl
theorem clone_ints {ops : Array Oper} {rest : List Oper} {o : Oper} {a : Act} {Q : Exit → Act → World → Prop} {w : World} (hgd : Region.wanted o (yielded ops a.tmps) = true) (s x : Operand)
    (ho : o.op = .call { callee := .builtin .append, args := #[s, x], argTypes := #[41, 41] }) (g : Nat) (hs : a.eval s = .slice (some ⟨g, 0, none⟩) 0 0) (hg : w.heap[g]? = some (.cells #[] 3 (0, 0)))
    (ao : Option Addr) (c : Nat) (xs : List Int) (hx : a.eval x = .slice ao xs.length c) (I : Ints w ao xs) (hb : xs.length * 8 ≤ 140737488351232)
    (h : ∀ g' cap' w', Below g w w' → Ints w' (some ⟨g', 0, none⟩) xs → w'.ownsRow g 3 1 (.slice (some ⟨g', 0, none⟩) xs.length cap') xs.length (xs.map (Value.int .i64)) → wpList Try.prog ops Q rest (a.put o.dst (.slice (some ⟨g', 0, none⟩) xs.length cap')) w') :
    wpList Try.prog ops Q (o :: rest) a w := by
  obtain ⟨i0, hi, hz0, hz1, hz2⟩ := info_parts info_int
  refine wpList_clone hgd s x 41 ho 3 i0 (.int .i64 0) 1 8 Try.underlying41 hi hz0 hz1 hz2 rfl (by decide) g hs hg ao xs.length c (xs.map (Value.int .i64)) hx (by simp) I.cells (ints_oneCell _ _) I.len (by omega) ?_
  intro g' cap' w' h1 h2 h3
  exact h g' cap' w' h2 (Ints.of_cells I.len I.fits h3) h1
end Go.Proofs.Ytnpjigeljhlomaa
