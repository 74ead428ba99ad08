/- What my texts share: worlds that extend a world, slices of integers that read as a list. No program in sight. -/
import Derived.WalkKit
import Derived.WalkSmall
import Derived.WalkSpells
import Derived.ProofKit
import Derived.OpenShut
import Derived.Lib.Hide
import Derived.Deep.QuietTactic
import Derived.BigQuiet
namespace Go.Syn
open Go.RowKit
set_option linter.unusedVariables false
set_option linter.unusedSimpArgs false

/-- A world in which all that was in w is as it was. -/
structure ExtOf (w : World) where
  world : World
  ext : Below w.heap.size w world

instance ExtOf.nonempty (w : World) : Nonempty (ExtOf w) := ⟨⟨w, Below.refl _ _⟩⟩

section
variable {w : World}
def ExtOf.refl (w : World) : ExtOf w := ⟨w, Below.refl _ _⟩
@[simp, go_sem] theorem ExtOf.cell (x : ExtOf w) (b o : Nat) (h : b < w.heap.size) : x.world.cell? ⟨b, o, none⟩ = w.cell? ⟨b, o, none⟩ := x.ext.cell (p := ⟨b, o, none⟩) h
@[simp, go_sem] theorem ExtOf.frozen (x : ExtOf w) (b o : Nat) (h : b < w.heap.size) : x.world.frozen? ⟨b, o, none⟩ = w.frozen? ⟨b, o, none⟩ := x.ext.frozen (p := ⟨b, o, none⟩) h
theorem ExtOf.size (x : ExtOf w) : w.heap.size ≤ x.world.heap.size := x.ext.size
def ExtOf.trans (x : ExtOf w) (y : ExtOf x.world) : ExtOf w := ⟨y.world, x.ext.trans (y.ext.mono x.ext.size)⟩
@[simp] theorem ExtOf.trans_world (x : ExtOf w) (y : ExtOf x.world) : (x.trans y).world = y.world := rfl
end

theorem ext_of_below {w w' : World} (h : Below w.heap.size w w') : ∃ x : ExtOf w, w' = x.world := ⟨⟨w', h⟩, rfl⟩

section
variable {P : Program}
/-- A region that draws its order, walked once in the text's order, at the class of the worlds that extend the one at its start. -/
theorem wp_region_ext {id : Nat} {Q : Exit → Act → World → Prop} {a : Act} {w : World} {l : List Oper} (hm : P.follows .mixedOrders = true) (hB : Region.lexB .any l.toArray = true)
    (h : wpQuiet P l.toArray (fun w' => ∃ x : ExtOf w, w' = x.world) (fun a' => ∀ w', (∃ x : ExtOf w, w' = x.world) → Q .normal a' w') l a) : (Code.region id l.toArray true).wp P Q a w :=
  wp_region_quiet (C := fun w' => ∃ x : ExtOf w, w' = x.world) hm hB ⟨⟨_, (Below.refl _ w).drew⟩, rfl⟩ (by simpa using h)
end

/-- The block and the place at which a slice begins. -/
def blk (a : Option Addr) : Nat := match a with | some x => x.block | none => 0
def ofs (a : Option Addr) : Nat := match a with | some x => x.off | none => 0
/-- A slice that leads to a plain address. -/
def PlainA (a : Option Addr) : Prop := a = some ⟨blk a, ofs a, none⟩
@[simp, go_sem] theorem blk_some (b o : Nat) (s : Option Nat) : blk (some ⟨b, o, s⟩) = b := rfl
@[simp, go_sem] theorem ofs_some (b o : Nat) (s : Option Nat) : ofs (some ⟨b, o, s⟩) = o := rfl
@[simp, go_sem] theorem plainA_mk (b o : Nat) : PlainA (some ⟨b, o, none⟩) := rfl

section
variable {P : Program} {w : World}
@[go_sem] theorem run_indexAt_plain (t : TypeId) (a : Option Addr) (len cap : Nat) (k : IntKind) (i : Int) (hp : PlainA a) (h : P.underlying t = some (.slice (P.elem t))) :
    (Instr.indexAt t (.slice a len cap) (.int k i)).run P w =
      if 0 ≤ i ∧ i < len then ((sizeOf (P.elem t)).run P w).andThen fun s w => .ok (.pointer (some ((⟨blk a, ofs a, none⟩ : Addr).add (i.toNat * s)))) w
      else (boundsPanic k i len .index).run P w := by
  have e : a = some ⟨blk a, ofs a, none⟩ := hp
  rw [e]; exact run_indexAt_slice _ t _ len cap k i h
end

theorem ret_bool {a b : Bool} (h : a = true ↔ b = true) : Ending.returned (.bool a) = Ending.returned (.bool b) := by rw [Bool.eq_iff_iff.2 h]
theorem ret_int {k : IntKind} {a b : Int} (h : a = b) : Ending.returned (.int k a) = Ending.returned (.int k b) := by rw [h]

/-- A number that an int holds. -/
def I64 (n : Int) : Prop := -9223372036854775808 ≤ n ∧ n ≤ 9223372036854775807

/-- A slice of ints that reads as xs. -/
structure Ints (w : World) (a : Option Addr) (xs : List Int) : Prop where
  len : xs.length ≤ 9223372036854775807
  fits : ∀ x ∈ xs, I64 x
  at_ : 0 < xs.length → PlainA a ∧ blk a < w.heap.size ∧ ∀ i, i < xs.length → w.cell? ⟨blk a, ofs a + i, none⟩ = some (.int .i64 (xs.getD i 0))

theorem Ints.ext {w w' : World} {a : Option Addr} {xs : List Int} (h : Ints w a xs) (e : Below w.heap.size w w') : Ints w' a xs := by
  refine ⟨h.len, h.fits, fun h0 => ?_⟩
  obtain ⟨ha, hb, hc⟩ := h.at_ h0
  exact ⟨ha, Nat.lt_of_lt_of_le hb e.size, fun i hi => by rw [e.cell (p := ⟨blk a, ofs a + i, none⟩) hb]; exact hc i hi⟩

theorem Ints.nil {w : World} {a : Option Addr} : Ints w a [] := ⟨by simp, by simp, by simp⟩

theorem Ints.fit {w : World} {a : Option Addr} {xs : List Int} (h : Ints w a xs) (i : Nat) : I64 (xs.getD i 0) := by
  by_cases hi : i < xs.length
  · have e : xs.getD i 0 = xs[i] := by simp [List.getD, hi]
    rw [e]; exact h.fits _ (List.getElem_mem _)
  · have e : xs.getD i 0 = 0 := by simp [List.getD, List.getElem?_eq_none (Nat.le_of_not_lt hi)]
    rw [e]; exact ⟨by omega, by omega⟩

end Go.Syn

namespace Go.Syn
open Go.RowKit
/-- A callee that hands back v and leaves all that was: met inside a region that draws its order. -/
theorem quiet_ext {P : Program} {f : FuncId} {args : Array Value} {w : World} {x : ExtOf w} {v : Value}
    (h : Calls P f args x.world fun e w' => e = .returned v ∧ Below x.world.heap.size x.world w') : Calls P f args x.world fun e w'' => e = .returned v ∧ ∃ y : ExtOf w, w'' = y.world :=
  h.mono fun _ _ ⟨he, hb⟩ => ⟨he, x.trans ⟨_, hb⟩, rfl⟩
/-- .. of one that leaves the very world. -/
theorem quiet_ext_same {P : Program} {f : FuncId} {args : Array Value} {w : World} {x : ExtOf w} {v : Value}
    (h : Calls P f args x.world fun e w' => e = .returned v ∧ x.world = w') : Calls P f args x.world fun e w'' => e = .returned v ∧ ∃ y : ExtOf w, w'' = y.world :=
  h.mono fun _ _ ⟨he, hb⟩ => ⟨he, x, hb.symm⟩
theorem Ints.of_block {w : World} {b : Nat} {T : TypeId} {fr : Nat × Nat} (xs : List Int) (hl : xs.length ≤ 9223372036854775807) (hf : ∀ x ∈ xs, I64 x)
    (hb : w.heap[b]? = some (.cells (xs.map (Value.int .i64)).toArray T fr)) : Ints w (some ⟨b, 0, none⟩) xs := by
  have hlt : b < w.heap.size := by
    rcases Nat.lt_or_ge b w.heap.size with h | h
    · exact h
    · rw [Array.getElem?_eq_none h] at hb; cases hb
  refine ⟨hl, hf, fun _ => ⟨rfl, hlt, fun i hi => ?_⟩⟩
  simp [World.cell?, hb, hi]
theorem heap_top (w : World) (o : Obj) : (w.alloc o).heap[w.heap.size]? = some o := by show (w.heap.push o)[w.heap.size]? = _; simp
theorem Ints.lit2 (w : World) (a b : Int) (T : TypeId) (fa : I64 a) (fb : I64 b) : Ints (w.alloc (.cells #[.int .i64 a, .int .i64 b] T)) (some ⟨w.heap.size, 0, none⟩) [a, b] :=
  Ints.of_block [a, b] (by simp) (by simp [fa, fb]) (heap_top w _)
theorem Ints.lit2d (w : World) (a b : Int) (T : TypeId) (fa : I64 a) (fb : I64 b) : Ints (w.alloc (.cells #[.int .i64 a, .int .i64 b] T)).drew (some ⟨w.heap.size, 0, none⟩) [a, b] :=
  (Ints.lit2 w a b T fa fb).ext (Below.refl _ _).drew
theorem Ints.at_ext {w : World} {a : Option Addr} {xs : List Int} (h : Ints w a xs) (x : ExtOf w) : Ints x.world a xs := h.ext x.ext
end Go.Syn
