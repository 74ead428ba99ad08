/- Part 11 of the texts of a proof about the given program: what the statement's proof needs of them. -/
import Derived.OpenShut
import Derived.SizedLaws
import Derived.ChangeBears
import Derived.Deep.Slices
import Derived.Test.YtbedoemdjlollaaKJudgeTime10
namespace Go.Syn
open Go.RowKit
set_option linter.unusedVariables false
set_option linter.unusedSimpArgs false

inductive Dat where
  | int (k : IntKind) (n : Int)
  | bool (b : Bool)
  | str (s : ByteArray)
  | parts (ds : List Dat)
  | sl (a : Option Addr) (len cap : Nat) (ds : List Dat)

mutual
def Dat.cells : Dat → List Value
  | .int k n => [.int k n]
  | .bool b => [.bool b]
  | .str s => [.string s]
  | .parts ds => Dat.cellsAll ds
  | .sl a len cap _ => [.slice a len cap]
def Dat.cellsAll : List Dat → List Value
  | [] => []
  | d :: r => d.cells ++ Dat.cellsAll r
end


section
variable {P : Program} {w : World}
theorem cellsAll_get (c : Nat) (hc : 0 < c) : ∀ (ds : List Dat), (∀ d ∈ ds, d.cells.length = c) → ∀ k, (Dat.cellsAll ds)[k]? = (ds[k / c]?).bind fun d => d.cells[k % c]?
  | [], _, k => by simp [Dat.cellsAll]
  | d :: r, h, k => by
    have hd := h d (by simp)
    unfold Dat.cellsAll
    by_cases hk : k < c
    · rw [List.getElem?_append_left (by omega), Nat.div_eq_of_lt hk, Nat.mod_eq_of_lt hk]; simp
    · rw [List.getElem?_append_right (by omega), hd, cellsAll_get c hc r (fun d hd => h d (by simp [hd])) (k - c)]
      have e1 : k / c = (k - c) / c + 1 := by
        have := Nat.add_div_right (k - c) hc
        rw [show k - c + c = k by omega] at this; omega
      have e2 : k % c = (k - c) % c := by
        have := Nat.add_mod_right (k - c) c
        rw [show k - c + c = k by omega] at this; omega
      rw [e1, e2]; simp
end

section
variable {H : Type} {enc : TypeId × Value → H} {P : Program} {w : World} {base : Nat} {spare : Nat → Bool} {held : Bool}
end

section
variable {P : Program} {w : World} {t : TypeId} {d : Dat}
end

section
variable {H : Type} {enc : TypeId × Value → H} {P : Program} {w : World} {base : Nat} {spare : Nat → Bool} {held : Bool}
end

theorem row_cell {α : Type} {f : α → Dat} {c : Nat} {w : World} {a : Option Addr} {xs : List α} (h : Cells w a (Dat.cellsAll (xs.map f))) (hc : ∀ x, (f x).cells.length = c) {i : Nat} {x : α} (hi : xs[i]? = some x) {j : Nat} {u : Value} (hj : (f x).cells[j]? = some u) :
    PlainA a ∧ blk a < w.heap.size ∧ w.cell? ⟨blk a, ofs a + (i * c + j), none⟩ = some u := by
  have hj' : j < c := by
    rw [← hc x]
    rcases Nat.lt_or_ge j (f x).cells.length with q | q
    · exact q
    · rw [List.getElem?_eq_none q] at hj; cases hj
  have e : (Dat.cellsAll (xs.map f))[i * c + j]? = some u := by
    rw [cellsAll_get c (by omega) _ (fun d hd => by obtain ⟨y, _, rfl⟩ := List.mem_map.1 hd; exact hc y)]
    have e1 : (i * c + j) / c = i := by rw [Nat.mul_comm, Nat.mul_add_div (by omega), Nat.div_eq_of_lt hj']; omega
    have e2 : (i * c + j) % c = j := by rw [Nat.mul_comm, Nat.mul_add_mod, Nat.mod_eq_of_lt hj']
    rw [e1, e2, List.getElem?_map, hi]; exact hj
  have h0 : 0 < (Dat.cellsAll (xs.map f)).length := by
    rcases Nat.lt_or_ge (i * c + j) (Dat.cellsAll (xs.map f)).length with q | q
    · omega
    · rw [List.getElem?_eq_none q] at e; cases e
  obtain ⟨h1, h2, h3⟩ := h h0
  exact ⟨h1, h2, h3 _ _ e⟩
end Go.Syn

namespace Go.Eng
open Go.RowKit Go.Syn
set_option linter.unusedVariables false
set_option linter.unusedSimpArgs false
theorem cells_elt {α : Type} {f : α → Dat} {c : Nat} {w : World} {a : Option Addr} {xs : List α} (h : Cells w a (Dat.cellsAll (xs.map f))) (hc : ∀ x, (f x).cells.length = c) (h0 : 0 < c) {i : Nat} {x : α} (hi : xs[i]? = some x) :
    a.isSome = true ∧ ∀ (N : Nat → Prop), ¬ N ((a.getD ⟨0, 0, none⟩).block) → CellsAt w (.pointer (some (((a.getD ⟨0, 0, none⟩).add (i * c)).add 0))) (f x).cells N := by
  have h1 : ∃ u, (f x).cells[0]? = some u := ⟨_, List.getElem?_eq_getElem (by rw [hc]; exact h0)⟩
  obtain ⟨u, hu⟩ := h1
  obtain ⟨hp, hb, _⟩ := row_cell h hc hi hu
  cases a with
  | none => simp [PlainA] at hp
  | some ad =>
    refine ⟨rfl, fun N hN => ⟨_, rfl, ?_, fun j u hj => ?_⟩⟩
    · rw [add_add']
      have : (ad.add (i * c + 0)).block = ad.block := by unfold Addr.add; split <;> rfl
      show ¬ N (ad.add (i * c + 0)).block
      rw [this]; exact hN
    · obtain ⟨_, _, h3⟩ := row_cell h hc hi hj
      have e : ad = ⟨blk (some ad), ofs (some ad), none⟩ := Option.some.inj hp
      rw [add_add', add_add', show (some ad).getD (⟨0, 0, none⟩ : Addr) = ad from rfl, e, add_plain']
      rw [show i * c + (0 + j) = i * c + j by omega]
      exact h3
end Go.Eng

namespace Go.Eng
open Go.RowKit Go.Syn
set_option linter.unusedVariables false
set_option linter.unusedSimpArgs false
def PureAt (w : World) (V : Value) (e : Ending) (w' : World) : Prop := e = .returned V ∧ Below w.heap.size w w'
section
variable {P : Program} {w : World} {V : Value} {v : SV} {m : Mem} {ρ : Env} {pre : List Nat} {hx : HX} {L : Stack}
theorem pure_done (hv : ∀ ids, v.den ρ ids = V) : (Tree.done v m).holds ⟨P, w, fun _ => False, PureAt w V⟩ ρ pre hx L := fun ids w' hp hf => ⟨by rw [hv ids], hf.chg.below⟩
end
section
variable {P : Program} {W : World} {M : Nat → Prop} {R : Ending → World → Prop} {ρ : Env} {pre : List Nat} {hx : HX} {L : Stack} {f : Nat} {args : List SV} {m m' : Mem} {r : SV} {t : Tree}
theorem node_val (vs : Vals) {av : Array Value} {V : Value} (hcall : ∀ w, Calls P f av w (PureAt w V)) (hargs : ∀ ids, (args.map (SV.den ρ ids)).toArray = av) (hr : ∀ ids, r.den (ρ.add vs) ids = V) (hhp : m'.hp = m.hp) (hfit : hpFits m.c m.hp.length m.hp = true) (hc : (ρ.add vs).cnt = m'.c) (h1 : ∀ v, v ∈ vs.v → v.oneCell' = true)
    (h : t.holds ⟨P, W, M, R⟩ (ρ.add vs) pre hx L) : (Tree.call f args m r m' t).holds ⟨P, W, M, R⟩ ρ pre hx L :=
  node_pure vs hhp hfit hc h1 (fun ids w hp hf => by rw [hargs, hr]; exact hcall w) h
end
end Go.Eng
