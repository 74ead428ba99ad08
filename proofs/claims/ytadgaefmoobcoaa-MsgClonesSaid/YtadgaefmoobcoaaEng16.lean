/- Arguments that are opened whole, as the symbolic run reads them. No program in sight. -/
import Derived.Test.YtadgaefmoobcoaaEng15
import Derived.Test.YtadgaefmoobcoaaDat
namespace Go.Eng
open Go.RowKit Go.Syn
set_option linter.unusedVariables false
set_option linter.unusedSimpArgs false
/-- The element of a slice, cell by cell. -/
theorem cells_elt {α : Type} {f : α → Dat} {c : Nat} {w : World} {a : Option Addr} {xs : List α} (h : Cells w a (Dat.cellsAll (xs.map f))) (hc : ∀ x, (f x).cells.length = c) (h0 : 0 < c) {i : Nat} {x : α} (hi : xs[i]? = some x) :
    a.isSome = true ∧ ∀ (N : Nat → Prop), ¬ N ((a.getD ⟨0, 0, none⟩).block) → CellsAt w (.pointer (some (((a.getD ⟨0, 0, none⟩).add (i * c)).add 0))) (f x).cells N := by
  have h1 : ∃ u, (f x).cells[0]? = some u := ⟨_, List.getElem?_eq_getElem (by rw [hc]; exact h0)⟩
  obtain ⟨u, hu⟩ := h1
  obtain ⟨hp, hb, _⟩ := row_cell h hc hi hu
  cases a with
  | none => simp [PlainA] at hp
  | some ad =>
    refine ⟨rfl, fun N hN => ⟨_, rfl, ?_, fun j u hj => ?_⟩⟩
    · rw [add_add']
      have : (ad.add (i * c + 0)).block = ad.block := by unfold Addr.add; split <;> rfl
      show ¬ N (ad.add (i * c + 0)).block
      rw [this]; exact hN
    · obtain ⟨_, _, h3⟩ := row_cell h hc hi hj
      have e : ad = ⟨blk (some ad), ofs (some ad), none⟩ := Option.some.inj hp
      rw [add_add', add_add', show (some ad).getD (⟨0, 0, none⟩ : Addr) = ad from rfl, e, add_plain']
      rw [show i * c + (0 + j) = i * c + j by omega]
      exact h3
theorem and_small {x : Int} {n : Nat} (h : n ≤ 1000000) : 0 ≤ ifn .and .i64 x (n : Int) ∧ ifn .and .i64 x (n : Int) ≤ n := by
  have h1 : (BitVec.ofInt IntKind.i64.bits x &&& BitVec.ofInt IntKind.i64.bits (n : Int)).toNat ≤ n := by
    rw [BitVec.toNat_and]
    refine Nat.le_trans Nat.and_le_right ?_
    have : (BitVec.ofInt IntKind.i64.bits (n : Int)).toNat = n := by
      simp only [IntKind.bits, BitVec.toNat_ofInt]
      omega
    omega
  have h2 : ifn .and .i64 x (n : Int) = ((BitVec.ofInt IntKind.i64.bits x &&& BitVec.ofInt IntKind.i64.bits (n : Int)).toNat : Int) := by
    show IntKind.i64.wrap _ = _
    exact wrap_i64 (by omega)
  omega
end Go.Eng
