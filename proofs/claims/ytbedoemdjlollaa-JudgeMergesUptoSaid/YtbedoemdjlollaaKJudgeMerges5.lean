/- Part 5 of the texts of a proof about the given program: what the statement's proof needs of them. -/
import Derived.WalkKit
import Derived.WalkSmall
import Derived.WalkSpells
import Derived.ProofKit
import Derived.OpenShut
import Derived.Lib.Hide
import Derived.Deep.QuietTactic
import Derived.BigQuiet
import Derived.Maps.AppendAt
import Derived.Test.YtbedoemdjlollaaKJudgeMerges4
namespace Go.Syn
open Go.RowKit
set_option linter.unusedVariables false
set_option linter.unusedSimpArgs false

structure ExtOf (w : World) where
  world : World
  ext : Below w.heap.size w world

instance ExtOf.nonempty (w : World) : Nonempty (ExtOf w) := ⟨⟨w, Below.refl _ _⟩⟩

section
variable {w : World}
def ExtOf.refl (w : World) : ExtOf w := ⟨w, Below.refl _ _⟩
@[simp, go_sem] theorem ExtOf.cell (x : ExtOf w) (b o : Nat) (h : b < w.heap.size) : x.world.cell? ⟨b, o, none⟩ = w.cell? ⟨b, o, none⟩ := x.ext.cell (p := ⟨b, o, none⟩) h
@[simp, go_sem] theorem ExtOf.frozen (x : ExtOf w) (b o : Nat) (h : b < w.heap.size) : x.world.frozen? ⟨b, o, none⟩ = w.frozen? ⟨b, o, none⟩ := x.ext.frozen (p := ⟨b, o, none⟩) h
theorem ExtOf.size (x : ExtOf w) : w.heap.size ≤ x.world.heap.size := x.ext.size
def ExtOf.trans (x : ExtOf w) (y : ExtOf x.world) : ExtOf w := ⟨y.world, x.ext.trans (y.ext.mono x.ext.size)⟩
@[simp] theorem ExtOf.trans_world (x : ExtOf w) (y : ExtOf x.world) : (x.trans y).world = y.world := rfl
end

section
variable {P : Program}
end

def blk (a : Option Addr) : Nat := match a with | some x => x.block | none => 0
def ofs (a : Option Addr) : Nat := match a with | some x => x.off | none => 0
def PlainA (a : Option Addr) : Prop := a = some ⟨blk a, ofs a, none⟩
@[simp, go_sem] theorem blk_some (b o : Nat) (s : Option Nat) : blk (some ⟨b, o, s⟩) = b := rfl
@[simp, go_sem] theorem ofs_some (b o : Nat) (s : Option Nat) : ofs (some ⟨b, o, s⟩) = o := rfl
@[simp, go_sem] theorem plainA_mk (b o : Nat) : PlainA (some ⟨b, o, none⟩) := rfl

section
variable {P : Program} {w : World}
@[go_sem] theorem run_indexAt_plain (t : TypeId) (a : Option Addr) (len cap : Nat) (k : IntKind) (i : Int) (hp : PlainA a) (h : P.underlying t = some (.slice (P.elem t))) :
    (Instr.indexAt t (.slice a len cap) (.int k i)).run P w =
      if 0 ≤ i ∧ i < len then ((sizeOf (P.elem t)).run P w).andThen fun s w => .ok (.pointer (some ((⟨blk a, ofs a, none⟩ : Addr).add (i.toNat * s)))) w
      else (boundsPanic k i len .index).run P w := by
  have e : a = some ⟨blk a, ofs a, none⟩ := hp
  rw [e]; exact run_indexAt_slice _ t _ len cap k i h
end

theorem ret_bool {a b : Bool} (h : a = true ↔ b = true) : Ending.returned (.bool a) = Ending.returned (.bool b) := by rw [Bool.eq_iff_iff.2 h]
def I64 (n : Int) : Prop := -9223372036854775808 ≤ n ∧ n ≤ 9223372036854775807

structure Ints (w : World) (a : Option Addr) (xs : List Int) : Prop where
  len : xs.length ≤ 9223372036854775807
  fits : ∀ x ∈ xs, I64 x
  at_ : 0 < xs.length → PlainA a ∧ blk a < w.heap.size ∧ ∀ i, i < xs.length → w.cell? ⟨blk a, ofs a + i, none⟩ = some (.int .i64 (xs.getD i 0))

theorem Ints.ext {w w' : World} {a : Option Addr} {xs : List Int} (h : Ints w a xs) (e : Below w.heap.size w w') : Ints w' a xs := by
  refine ⟨h.len, h.fits, fun h0 => ?_⟩
  obtain ⟨ha, hb, hc⟩ := h.at_ h0
  exact ⟨ha, Nat.lt_of_lt_of_le hb e.size, fun i hi => by rw [e.cell (p := ⟨blk a, ofs a + i, none⟩) hb]; exact hc i hi⟩

theorem Ints.nil {w : World} {a : Option Addr} : Ints w a [] := ⟨by simp, by simp, by simp⟩

theorem Ints.fit {w : World} {a : Option Addr} {xs : List Int} (h : Ints w a xs) (i : Nat) : I64 (xs.getD i 0) := by
  by_cases hi : i < xs.length
  · have e : xs.getD i 0 = xs[i] := by simp [List.getD, hi]
    rw [e]; exact h.fits _ (List.getElem_mem _)
  · have e : xs.getD i 0 = 0 := by simp [List.getD, List.getElem?_eq_none (Nat.le_of_not_lt hi)]
    rw [e]; exact ⟨by omega, by omega⟩

end Go.Syn

namespace Go.Syn
open Go.RowKit
theorem Ints.of_block {w : World} {b : Nat} {T : TypeId} {fr : Nat × Nat} (xs : List Int) (hl : xs.length ≤ 9223372036854775807) (hf : ∀ x ∈ xs, I64 x)
    (hb : w.heap[b]? = some (.cells (xs.map (Value.int .i64)).toArray T fr)) : Ints w (some ⟨b, 0, none⟩) xs := by
  have hlt : b < w.heap.size := by
    rcases Nat.lt_or_ge b w.heap.size with h | h
    · exact h
    · rw [Array.getElem?_eq_none h] at hb; cases hb
  refine ⟨hl, hf, fun _ => ⟨rfl, hlt, fun i hi => ?_⟩⟩
  simp [World.cell?, hb, hi]
theorem heap_top (w : World) (o : Obj) : (w.alloc o).heap[w.heap.size]? = some o := by show (w.heap.push o)[w.heap.size]? = _; simp
end Go.Syn

set_option linter.unusedVariables false
set_option linter.unusedSimpArgs false
namespace Go.Syn
open Go.RowKit
theorem I64.of_wf {n : Int} (h : (Lit.int .i64 n).wf = true) : I64 n := by
  simp [Lit.wf, IntKind.min, IntKind.max, IntKind.signed, IntKind.bits] at h
  unfold I64; omega
theorem I64.wf {n : Int} (h : I64 n) : (Lit.int .i64 n).wf = true := WalkArith.wf_i64 h

end Go.Syn

namespace Go.Syn
open Go.RowKit
theorem Ints.lit (w : World) (xs : List Int) (T : TypeId) (hl : xs.length ≤ 9223372036854775807) (hf : ∀ x ∈ xs, I64 x) :
    ∀ w', Below (w.heap.size + 1) (w.alloc (.cells (xs.map (Value.int .i64)).toArray T)) w' → Ints w' (some ⟨w.heap.size, 0, none⟩) xs := fun w' hb =>
  (Ints.of_block xs hl hf (heap_top w _)).ext (by simpa using hb)
end Go.Syn

namespace Go.RowKit
theorem Below.allocW {W a : World} (h : Below W.heap.size W a) (o : Obj) : Below W.heap.size W (a.alloc o) := h.alloc h.size o
end Go.RowKit

namespace Go.Syn
open Go.RowKit
def Cells (w : World) (a : Option Addr) (cs : List Value) : Prop :=
  0 < cs.length → PlainA a ∧ blk a < w.heap.size ∧ ∀ i u, cs[i]? = some u → w.cell? ⟨blk a, ofs a + i, none⟩ = some u

theorem Cells.ext {w w' : World} {a : Option Addr} {cs : List Value} (h : Cells w a cs) (e : Below w.heap.size w w') : Cells w' a cs := fun h0 => by
  obtain ⟨ha, hb, hc⟩ := h h0
  exact ⟨ha, Nat.lt_of_lt_of_le hb e.size, fun i u hi => by rw [e.cell (p := ⟨blk a, ofs a + i, none⟩) hb]; exact hc i u hi⟩

theorem Ints.cells {w : World} {a : Option Addr} {xs : List Int} (h : Ints w a xs) : Cells w a (xs.map (Value.int .i64)) := fun h0 => by
  obtain ⟨ha, hb, hc⟩ := h.at_ (by simpa using h0)
  refine ⟨ha, hb, fun i u hi => ?_⟩
  have hlt : i < xs.length := by
    rcases Nat.lt_or_ge i xs.length with g | g
    · exact g
    · simp [List.getElem?_eq_none g] at hi
  have e : u = .int .i64 (xs.getD i 0) := by simp [hlt] at hi; simp [List.getD, hlt, hi]
  rw [e]; exact hc i hlt

theorem Ints.of_cells {w : World} {a : Option Addr} {xs : List Int} (hl : xs.length ≤ 9223372036854775807) (hf : ∀ x ∈ xs, I64 x) (h : Cells w a (xs.map (Value.int .i64))) : Ints w a xs := by
  refine ⟨hl, hf, fun h0 => ?_⟩
  obtain ⟨ha, hb, hc⟩ := h (by simpa using h0)
  exact ⟨ha, hb, fun i hi => hc i _ (by simp [List.getD, hi])⟩

theorem ownsRow_cells {w : World} {base : Nat} {e : TypeId} {size g n cap : Nat} {xs : List Value} (h : w.ownsRow base e size (.slice (some ⟨g, 0, none⟩) n cap) n xs) : Cells w (some ⟨g, 0, none⟩) xs := fun h0 => by
  have hlt := (h.lt g rfl).2
  refine ⟨rfl, hlt, fun i u hi => ?_⟩
  have := h.cells (g := g) rfl i u hi
  rw [Go.WideShapes.add_plain] at this
  exact this

section
variable {P : Program}
end
end Go.Syn

set_option linter.unusedVariables false
set_option linter.unusedSimpArgs false
namespace Go.Syn
open Go.RowKit
section
variable {P : Program}
theorem run_append_types (w : World) (t t' ty : TypeId) {e e' : TypeId} (b : Option Addr) (n c0 : Nat) (x : Value) (ht : P.underlying t = some (.slice e)) (ht' : P.underlying t' = some (.slice e')) :
    (Builtin.append_ #[t, t'] ty #[.slice b n c0, x]).run P w = (Builtin.append_ #[t, t] ty #[.slice b n c0, x]).run P w := by
  simp [Builtin.append_, run_underlying ht, run_underlying ht']

end

section
variable {P : Program}
end

def Blk (w : World) (b : Nat) (cs : List Value) (T : TypeId) : Prop := w.heap[b]? = some (.cells cs.toArray T (0, 0))

theorem Blk.cell {w : World} {b : Nat} {cs : List Value} {T : TypeId} (h : Blk w b cs T) (i : Nat) (v : Value) (hi : cs[i]? = some v) : w.cell? ⟨b, i, none⟩ = some v := by
  have h' : w.heap[b]? = some (.cells cs.toArray T (0, 0)) := h
  simp [World.cell?, h', hi]
theorem Blk.frozen {w : World} {b : Nat} {cs : List Value} {T : TypeId} (h : Blk w b cs T) (i : Nat) : w.frozen? ⟨b, i, none⟩ = false := by
  have h' : w.heap[b]? = some (.cells cs.toArray T (0, 0)) := h
  simp [World.frozen?, h']
theorem Blk.lt {w : World} {b : Nat} {cs : List Value} {T : TypeId} (h : Blk w b cs T) : b < w.heap.size := by
  rcases Nat.lt_or_ge b w.heap.size with q | q
  · exact q
  · unfold Blk at h; rw [Array.getElem?_eq_none q] at h; cases h
theorem Blk.ext {w w' : World} {b : Nat} {cs : List Value} {T : TypeId} (h : Blk w b cs T) (e : Below w.heap.size w w') : Blk w' b cs T := by
  unfold Blk; rw [e.block b h.lt]; exact h
theorem Blk.set {w : World} {b : Nat} {cs : List Value} {T : TypeId} (h : Blk w b cs T) (i : Nat) (v : Value) : Blk (w.setCell ⟨b, i, none⟩ v) b (cs.set i v) T := by
  have h' : w.heap[b]? = some (.cells cs.toArray T (0, 0)) := h
  unfold Blk World.setCell
  simp [Array.getElem?_modify, h']
theorem Blk.alloc {w : World} {b : Nat} {cs : List Value} {T : TypeId} (h : Blk w b cs T) (o : Obj) : Blk (w.alloc o) b cs T := h.ext ((Below.refl _ _).alloc (Nat.le_refl _) _)
theorem Blk.new (w : World) (cs : List Value) (T : TypeId) : Blk (w.alloc (.cells cs.toArray T)) w.heap.size cs T := heap_top w _
theorem Blk.drewN {w : World} {b : Nat} {cs : List Value} {T : TypeId} (h : Blk w b cs T) (n : Nat) : Blk (w.drewN n) b cs T := h
theorem Blk.drew {w : World} {b : Nat} {cs : List Value} {T : TypeId} (h : Blk w b cs T) : Blk w.drew b cs T := h
theorem Blk.grown {w w' : World} {b r : Nat} {cs : List Value} {T : TypeId} (h : Blk w b cs T) (hg : w.grownBy w' (some r)) (hr : b ≠ r) : Blk w' b cs T := by
  unfold Blk; rw [hg.block b h.lt (by simpa using hr)]; exact h
theorem Ints.drewN {w : World} {a : Option Addr} {xs : List Int} (h : Ints w a xs) (n : Nat) : Ints (w.drewN n) a xs := ⟨h.len, h.fits, h.at_⟩
theorem Ints.grown {w w' : World} {a : Option Addr} {xs : List Int} {r : Nat} (h : Ints w a xs) (hg : w.grownBy w' (some r)) (hr : blk a ≠ r) : Ints w' a xs := by
  refine ⟨h.len, h.fits, fun h0 => ?_⟩
  obtain ⟨ha, hb, hc⟩ := h.at_ h0
  refine ⟨ha, Nat.lt_of_lt_of_le hb hg.size, fun i hi => ?_⟩
  rw [World.cell?_of_block (w := w) (hg.block _ hb (by simpa using hr))]; exact hc i hi

end Go.Syn

namespace Go.Syn
open Go.RowKit
set_option linter.unusedVariables false

def prevOf (xs : List Int) (i : Nat) : Int := if i = 0 then 0 else xs.getD (i - 1) 0
def goodAt (xs : List Int) (i : Nat) : Prop := prevOf xs i < xs.getD i 0 ∧ xs.getD i 0 ≤ 9
instance (xs : List Int) (i : Nat) : Decidable (goodAt xs i) := inferInstanceAs (Decidable (_ ∧ _))
def SetOk (xs : List Int) : Prop := 1 ≤ xs.length ∧ xs.length ≤ 7 ∧ ∀ i, i < xs.length → goodAt xs i
instance (xs : List Int) : Decidable (SetOk xs) := inferInstanceAs (Decidable (_ ∧ _ ∧ _))
def setOkB (xs : List Int) : Bool := decide (SetOk xs)
theorem setOkB_iff {xs : List Int} : setOkB xs = true ↔ SetOk xs := by simp [setOkB]
def checkV (xs : List Int) : Int := if setOkB xs then 0 else 24

theorem prevOf_succ (xs : List Int) (k : Nat) : prevOf xs (k + 1) = xs.getD k 0 := by simp [prevOf]
theorem good_pos {xs : List Int} {k : Nat} (h : ∀ i, i < k → goodAt xs i) : 0 ≤ prevOf xs k := by
  induction k with
  | zero => simp [prevOf]
  | succ k ih =>
    have := ih fun i hi => h i (by omega)
    have g := (h k (by omega)).1
    rw [prevOf_succ]; omega
theorem SetOk.range {xs : List Int} (h : SetOk xs) {k : Nat} (hk : k < xs.length) : 1 ≤ xs.getD k 0 ∧ xs.getD k 0 ≤ 9 := by
  have := good_pos (k := k) fun i hi => h.2.2 i (by omega)
  have g := h.2.2 k hk
  unfold goodAt at g; omega
theorem SetOk.mono {xs : List Int} (h : SetOk xs) {j k : Nat} (hjk : j < k) (hk : k < xs.length) : xs.getD j 0 < xs.getD k 0 := by
  induction k with
  | zero => omega
  | succ k ih =>
    have g := (h.2.2 (k + 1) hk).1
    rw [prevOf_succ] at g
    by_cases e : j = k
    · subst e; exact g
    · have := ih (by omega) (by omega); omega
theorem SetOk.inj {xs : List Int} (h : SetOk xs) {j k : Nat} (hj : j < xs.length) (hk : k < xs.length) (e : xs.getD j 0 = xs.getD k 0) : j = k := by
  rcases Nat.lt_trichotomy j k with c | c | c
  · have := h.mono c hk; omega
  · exact c
  · have := h.mono c hj; omega
end Go.Syn
