/- Merged from XLib XLibF XLibG. -/
import Derived.WalkKit
import Derived.WalkSmall
import Derived.WalkSpells
import Derived.ProofKit
import Derived.OpenShut
import Derived.Lib.Hide
import Derived.Deep.QuietTactic
import Derived.BigQuiet
import Derived.Maps.AppendAt
/- What my texts share: worlds that extend a world, slices of integers that read as a list. No program in sight. -/
namespace Go.Syn
open Go.RowKit
set_option linter.unusedVariables false
set_option linter.unusedSimpArgs false

/-- A world in which all that was in w is as it was. -/
structure ExtOf (w : World) where
  world : World
  ext : Below w.heap.size w world

instance ExtOf.nonempty (w : World) : Nonempty (ExtOf w) := ⟨⟨w, Below.refl _ _⟩⟩

section
variable {w : World}
def ExtOf.refl (w : World) : ExtOf w := ⟨w, Below.refl _ _⟩
@[simp, go_sem] theorem ExtOf.cell (x : ExtOf w) (b o : Nat) (h : b < w.heap.size) : x.world.cell? ⟨b, o, none⟩ = w.cell? ⟨b, o, none⟩ := x.ext.cell (p := ⟨b, o, none⟩) h
@[simp, go_sem] theorem ExtOf.frozen (x : ExtOf w) (b o : Nat) (h : b < w.heap.size) : x.world.frozen? ⟨b, o, none⟩ = w.frozen? ⟨b, o, none⟩ := x.ext.frozen (p := ⟨b, o, none⟩) h
theorem ExtOf.size (x : ExtOf w) : w.heap.size ≤ x.world.heap.size := x.ext.size
def ExtOf.trans (x : ExtOf w) (y : ExtOf x.world) : ExtOf w := ⟨y.world, x.ext.trans (y.ext.mono x.ext.size)⟩
@[simp] theorem ExtOf.trans_world (x : ExtOf w) (y : ExtOf x.world) : (x.trans y).world = y.world := rfl
end

theorem ext_of_below {w w' : World} (h : Below w.heap.size w w') : ∃ x : ExtOf w, w' = x.world := ⟨⟨w', h⟩, rfl⟩

section
variable {P : Program}
/-- A region that draws its order, walked once in the text's order, at the class of the worlds that extend the one at its start. -/
theorem wp_region_ext {id : Nat} {Q : Exit → Act → World → Prop} {a : Act} {w : World} {l : List Oper} (hm : P.follows .mixedOrders = true) (hB : Region.lexB .any l.toArray = true)
    (h : wpQuiet P l.toArray (fun w' => ∃ x : ExtOf w, w' = x.world) (fun a' => ∀ w', (∃ x : ExtOf w, w' = x.world) → Q .normal a' w') l a) : (Code.region id l.toArray true).wp P Q a w :=
  wp_region_quiet (C := fun w' => ∃ x : ExtOf w, w' = x.world) hm hB ⟨⟨_, (Below.refl _ w).drew⟩, rfl⟩ (by simpa using h)
end

/-- The block and the place at which a slice begins. -/
def blk (a : Option Addr) : Nat := match a with | some x => x.block | none => 0
def ofs (a : Option Addr) : Nat := match a with | some x => x.off | none => 0
/-- A slice that leads to a plain address. -/
def PlainA (a : Option Addr) : Prop := a = some ⟨blk a, ofs a, none⟩
@[simp, go_sem] theorem blk_some (b o : Nat) (s : Option Nat) : blk (some ⟨b, o, s⟩) = b := rfl
@[simp, go_sem] theorem ofs_some (b o : Nat) (s : Option Nat) : ofs (some ⟨b, o, s⟩) = o := rfl
@[simp, go_sem] theorem plainA_mk (b o : Nat) : PlainA (some ⟨b, o, none⟩) := rfl

section
variable {P : Program} {w : World}
@[go_sem] theorem run_indexAt_plain (t : TypeId) (a : Option Addr) (len cap : Nat) (k : IntKind) (i : Int) (hp : PlainA a) (h : P.underlying t = some (.slice (P.elem t))) :
    (Instr.indexAt t (.slice a len cap) (.int k i)).run P w =
      if 0 ≤ i ∧ i < len then ((sizeOf (P.elem t)).run P w).andThen fun s w => .ok (.pointer (some ((⟨blk a, ofs a, none⟩ : Addr).add (i.toNat * s)))) w
      else (boundsPanic k i len .index).run P w := by
  have e : a = some ⟨blk a, ofs a, none⟩ := hp
  rw [e]; exact run_indexAt_slice _ t _ len cap k i h
end

theorem ret_bool {a b : Bool} (h : a = true ↔ b = true) : Ending.returned (.bool a) = Ending.returned (.bool b) := by rw [Bool.eq_iff_iff.2 h]
theorem ret_int {k : IntKind} {a b : Int} (h : a = b) : Ending.returned (.int k a) = Ending.returned (.int k b) := by rw [h]

/-- A number that an int holds. -/
def I64 (n : Int) : Prop := -9223372036854775808 ≤ n ∧ n ≤ 9223372036854775807

/-- A slice of ints that reads as xs. -/
structure Ints (w : World) (a : Option Addr) (xs : List Int) : Prop where
  len : xs.length ≤ 9223372036854775807
  fits : ∀ x ∈ xs, I64 x
  at_ : 0 < xs.length → PlainA a ∧ blk a < w.heap.size ∧ ∀ i, i < xs.length → w.cell? ⟨blk a, ofs a + i, none⟩ = some (.int .i64 (xs.getD i 0))

theorem Ints.ext {w w' : World} {a : Option Addr} {xs : List Int} (h : Ints w a xs) (e : Below w.heap.size w w') : Ints w' a xs := by
  refine ⟨h.len, h.fits, fun h0 => ?_⟩
  obtain ⟨ha, hb, hc⟩ := h.at_ h0
  exact ⟨ha, Nat.lt_of_lt_of_le hb e.size, fun i hi => by rw [e.cell (p := ⟨blk a, ofs a + i, none⟩) hb]; exact hc i hi⟩

theorem Ints.nil {w : World} {a : Option Addr} : Ints w a [] := ⟨by simp, by simp, by simp⟩

theorem Ints.fit {w : World} {a : Option Addr} {xs : List Int} (h : Ints w a xs) (i : Nat) : I64 (xs.getD i 0) := by
  by_cases hi : i < xs.length
  · have e : xs.getD i 0 = xs[i] := by simp [List.getD, hi]
    rw [e]; exact h.fits _ (List.getElem_mem _)
  · have e : xs.getD i 0 = 0 := by simp [List.getD, List.getElem?_eq_none (Nat.le_of_not_lt hi)]
    rw [e]; exact ⟨by omega, by omega⟩

end Go.Syn

namespace Go.Syn
open Go.RowKit
/-- A callee that hands back v and leaves all that was: met inside a region that draws its order. -/
theorem quiet_ext {P : Program} {f : FuncId} {args : Array Value} {w : World} {x : ExtOf w} {v : Value}
    (h : Calls P f args x.world fun e w' => e = .returned v ∧ Below x.world.heap.size x.world w') : Calls P f args x.world fun e w'' => e = .returned v ∧ ∃ y : ExtOf w, w'' = y.world :=
  h.mono fun _ _ ⟨he, hb⟩ => ⟨he, x.trans ⟨_, hb⟩, rfl⟩
/-- .. of one that leaves the very world. -/
theorem quiet_ext_same {P : Program} {f : FuncId} {args : Array Value} {w : World} {x : ExtOf w} {v : Value}
    (h : Calls P f args x.world fun e w' => e = .returned v ∧ x.world = w') : Calls P f args x.world fun e w'' => e = .returned v ∧ ∃ y : ExtOf w, w'' = y.world :=
  h.mono fun _ _ ⟨he, hb⟩ => ⟨he, x, hb.symm⟩
theorem Ints.of_block {w : World} {b : Nat} {T : TypeId} {fr : Nat × Nat} (xs : List Int) (hl : xs.length ≤ 9223372036854775807) (hf : ∀ x ∈ xs, I64 x)
    (hb : w.heap[b]? = some (.cells (xs.map (Value.int .i64)).toArray T fr)) : Ints w (some ⟨b, 0, none⟩) xs := by
  have hlt : b < w.heap.size := by
    rcases Nat.lt_or_ge b w.heap.size with h | h
    · exact h
    · rw [Array.getElem?_eq_none h] at hb; cases hb
  refine ⟨hl, hf, fun _ => ⟨rfl, hlt, fun i hi => ?_⟩⟩
  simp [World.cell?, hb, hi]
theorem heap_top (w : World) (o : Obj) : (w.alloc o).heap[w.heap.size]? = some o := by show (w.heap.push o)[w.heap.size]? = _; simp
theorem Ints.lit2 (w : World) (a b : Int) (T : TypeId) (fa : I64 a) (fb : I64 b) : Ints (w.alloc (.cells #[.int .i64 a, .int .i64 b] T)) (some ⟨w.heap.size, 0, none⟩) [a, b] :=
  Ints.of_block [a, b] (by simp) (by simp [fa, fb]) (heap_top w _)
theorem Ints.lit2d (w : World) (a b : Int) (T : TypeId) (fa : I64 a) (fb : I64 b) : Ints (w.alloc (.cells #[.int .i64 a, .int .i64 b] T)).drew (some ⟨w.heap.size, 0, none⟩) [a, b] :=
  (Ints.lit2 w a b T fa fb).ext (Below.refl _ _).drew
theorem Ints.at_ext {w : World} {a : Option Addr} {xs : List Int} (h : Ints w a xs) (x : ExtOf w) : Ints x.world a xs := h.ext x.ext
end Go.Syn

/- What the frames of the laws need: arguments as the walks take them. No program in sight. -/
set_option linter.unusedVariables false
set_option linter.unusedSimpArgs false
namespace Go.Syn
open Go.RowKit
/-! What the frames of the laws need: arguments as the walks take them. -/
theorem I64.of_wf {n : Int} (h : (Lit.int .i64 n).wf = true) : I64 n := by
  simp [Lit.wf, IntKind.min, IntKind.max, IntKind.signed, IntKind.bits] at h
  unfold I64; omega
theorem I64.wf {n : Int} (h : I64 n) : (Lit.int .i64 n).wf = true := WalkArith.wf_i64 h

theorem Ints.of_row {W : World} {x : Addr} {len cap : Nat} {zs : List Int} (hl : len ≤ cap) (hm : cap ≤ maxLen) (hz : len ≤ zs.length)
    (hc : ∀ i, i < zs.length → W.cell? (x.add i) = some (.int .i64 (zs.getD i 0))) (hw : ∀ n ∈ zs, (Lit.int .i64 n).wf = true) : Ints W (some x) (zs.take len) ∧ (zs.take len).length = len := by
  have hlen : (zs.take len).length = len := by simp; omega
  refine ⟨⟨?_, ?_, ?_⟩, hlen⟩
  · unfold maxLen at hm; omega
  · exact fun n hn => I64.of_wf (hw n (List.mem_of_mem_take hn))
  · intro h0
    obtain ⟨b, off, spot⟩ := x
    have hspot : spot = none := by simpa [Addr.add] using World.cell?_spot (hc 0 (by omega))
    subst hspot
    have hc' : ∀ i, i < len → W.cell? ⟨b, off + i, none⟩ = some (.int .i64 ((zs.take len).getD i 0)) := fun i hi => by
      have := hc i (by omega)
      rw [Go.WideShapes.add_plain] at this
      rw [this]; simp [List.getD, List.getElem?_take, hi]
    refine ⟨rfl, ?_, fun i hi => hc' i (by omega)⟩
    exact World.block_lt_of_cell? W ⟨b, off, none⟩ (by simpa using hc' 0 (by omega))
end Go.Syn

namespace Go.Syn
open Go.RowKit
theorem Ints.litAt (w : World) (b : Nat) (xs : List Int) (T : TypeId) (hl : xs.length ≤ 9223372036854775807) (hf : ∀ x ∈ xs, I64 x) (hb : w.heap.size = b) :
    Ints (w.alloc (.cells (xs.map (Value.int .i64)).toArray T)) (some ⟨b, 0, none⟩) xs := by
  subst hb; exact Ints.of_block xs hl hf (heap_top w _)
theorem Ints.lit (w : World) (xs : List Int) (T : TypeId) (hl : xs.length ≤ 9223372036854775807) (hf : ∀ x ∈ xs, I64 x) :
    ∀ w', Below (w.heap.size + 1) (w.alloc (.cells (xs.map (Value.int .i64)).toArray T)) w' → Ints w' (some ⟨w.heap.size, 0, none⟩) xs := fun w' hb =>
  (Ints.of_block xs hl hf (heap_top w _)).ext (by simpa using hb)
end Go.Syn

namespace Go.RowKit
theorem Below.step {W a b : World} (h : Below W.heap.size W a) (hb : Below a.heap.size a b) : Below W.heap.size W b := h.trans (hb.mono h.size)
theorem Below.allocW {W a : World} (h : Below W.heap.size W a) (o : Obj) : Below W.heap.size W (a.alloc o) := h.alloc h.size o
theorem Below.cellOf {W w' : World} (h : Below W.heap.size W w') {b o : Nat} {v : Value} (hc : W.cell? ⟨b, o, none⟩ = some v) : w'.cell? ⟨b, o, none⟩ = some v := by
  rw [h.cell (p := ⟨b, o, none⟩) (World.block_lt_of_cell? W ⟨b, o, none⟩ hc)]; exact hc
theorem Below.ltOf {W w' : World} (h : Below W.heap.size W w') {b : Nat} (hb : b < W.heap.size) : b < w'.heap.size := Nat.lt_of_lt_of_le hb h.size
end Go.RowKit

namespace Go.Syn
open Go.RowKit
theorem heap_at (w : World) (o : Obj) (b : Nat) (hb : w.heap.size = b) : (w.alloc o).heap[b]? = some o := by subst hb; exact heap_top w o
/-- A slice whose elements' cells read as cs. -/
def Cells (w : World) (a : Option Addr) (cs : List Value) : Prop :=
  0 < cs.length → PlainA a ∧ blk a < w.heap.size ∧ ∀ i u, cs[i]? = some u → w.cell? ⟨blk a, ofs a + i, none⟩ = some u

theorem Cells.ext {w w' : World} {a : Option Addr} {cs : List Value} (h : Cells w a cs) (e : Below w.heap.size w w') : Cells w' a cs := fun h0 => by
  obtain ⟨ha, hb, hc⟩ := h h0
  exact ⟨ha, Nat.lt_of_lt_of_le hb e.size, fun i u hi => by rw [e.cell (p := ⟨blk a, ofs a + i, none⟩) hb]; exact hc i u hi⟩

theorem Ints.cells {w : World} {a : Option Addr} {xs : List Int} (h : Ints w a xs) : Cells w a (xs.map (Value.int .i64)) := fun h0 => by
  obtain ⟨ha, hb, hc⟩ := h.at_ (by simpa using h0)
  refine ⟨ha, hb, fun i u hi => ?_⟩
  have hlt : i < xs.length := by
    rcases Nat.lt_or_ge i xs.length with g | g
    · exact g
    · simp [List.getElem?_eq_none g] at hi
  have e : u = .int .i64 (xs.getD i 0) := by simp [hlt] at hi; simp [List.getD, hlt, hi]
  rw [e]; exact hc i hlt

theorem Ints.of_cells {w : World} {a : Option Addr} {xs : List Int} (hl : xs.length ≤ 9223372036854775807) (hf : ∀ x ∈ xs, I64 x) (h : Cells w a (xs.map (Value.int .i64))) : Ints w a xs := by
  refine ⟨hl, hf, fun h0 => ?_⟩
  obtain ⟨ha, hb, hc⟩ := h (by simpa using h0)
  exact ⟨ha, hb, fun i hi => hc i _ (by simp [List.getD, hi])⟩

theorem ownsRow_cells {w : World} {base : Nat} {e : TypeId} {size g n cap : Nat} {xs : List Value} (h : w.ownsRow base e size (.slice (some ⟨g, 0, none⟩) n cap) n xs) : Cells w (some ⟨g, 0, none⟩) xs := fun h0 => by
  have hlt := (h.lt g rfl).2
  refine ⟨rfl, hlt, fun i u hi => ?_⟩
  have := h.cells (g := g) rfl i u hi
  rw [Go.WideShapes.add_plain] at this
  exact this

theorem grownBy_below {w w' : World} {row : Option Nat} {B : Nat} (hg : w.grownBy w' row) (hB : B ≤ w.heap.size) (hr : ∀ k, row = some k → B ≤ k) : Below B w w' := (Below.refl B w).grown hg hB hr

section
variable {P : Program}
theorem run_append_none (w : World) (t ty e : TypeId) (i : TypeInfo) (g n cap c : Nat) (hnc : n ≤ cap) (ht : P.underlying t = some (.slice e)) (hi : P.info? e = some i) :
    (Builtin.append_ #[t, t] ty #[.slice (some ⟨g, 0, none⟩) n cap, .slice none 0 c]).run P w = .ok (.slice (some ⟨g, 0, none⟩) n cap) w := by
  simp [Builtin.append_, run_underlying ht, sizeOf, typeInfo, hi, Builtin.lenOf, Builtin.firstCells, hnc, storeCells]

/-- 'append' onto a slice of the call's own that is not nil, from whatever slice. -/
theorem run_append_cells (w : World) (base : Nat) (t ty e : TypeId) (i : TypeInfo) (z : Value) (size bytes : Nat) (ht : P.underlying t = some (.slice e)) (hi : P.info? e = some i) (hz : i.zero = some z)
    (hsize : i.size = size) (hby : i.bytes = bytes) (hzs : z.cells.size = size) (hsz : 0 < size) (g n cap : Nat) (xs : List Value)
    (hown : w.ownsRow base e size (.slice (some ⟨g, 0, none⟩) n cap) n xs) (ao : Option Addr) (m c : Nat) (cs : List Value) (hl : cs.length = m * size) (hc : Cells w ao cs)
    (h1 : ∀ u ∈ cs, u.oneCell' = true) (h63 : n + m ≤ maxLen) (hbytes : (n + m) * bytes ≤ 140737488355328) (hbase : base ≤ w.heap.size) :
    ∃ g' cap' w', (Builtin.append_ #[t, t] ty #[.slice (some ⟨g, 0, none⟩) n cap, .slice ao m c]).run P w = .ok (.slice (some ⟨g', 0, none⟩) (n + m) cap') w' ∧
      w'.ownsRow base e size (.slice (some ⟨g', 0, none⟩) (n + m) cap') (n + m) (xs ++ cs) ∧ w.grownBy w' (some g) ∧ (g' = g ∨ g' = w.heap.size) := by
  have hnc : n ≤ cap := by
    rcases hown.2 with ⟨h, _⟩ | ⟨_, _, _, h, _, _, hn, _⟩
    · cases h
    · cases h; exact hn
  cases ao with
  | none =>
    have hm : m = 0 := by
      rcases Nat.eq_zero_or_pos cs.length with h0 | h0
      · rw [h0] at hl
        rcases Nat.mul_eq_zero.1 hl.symm with h | h
        · exact h
        · omega
      · have := (hc h0).1; simp [PlainA] at this
    subst hm
    have hcs : cs = [] := List.eq_nil_of_length_eq_zero (by simpa using hl)
    subst hcs
    exact ⟨g, cap, w, run_append_none w t ty e i g n cap c hnc ht hi, by simpa using hown, World.grownBy.refl _ _, .inl rfl⟩
  | some ad =>
    have hnews : ∀ j u, cs[j]? = some u → w.cell? (ad.add j) = some u := fun j u hj => by
      have h0 : 0 < cs.length := by
        rcases Nat.lt_or_ge j cs.length with h | h
        · omega
        · rw [List.getElem?_eq_none h] at hj; cases hj
      obtain ⟨ha, _, hcc⟩ := hc h0
      have e : ad = ⟨blk (some ad), ofs (some ad), none⟩ := Option.some.inj ha
      rw [e, Go.WideShapes.add_plain]; exact hcc j u hj
    obtain ⟨v', w', hr, ho, hg, hn, hb⟩ := run_append_own_at (P := P) w base t ty e i z size bytes ht hi hz hsize hby hzs hsz _ n xs hown ad m c cs hl hnews h1 h63 hbytes hbase
    rcases ho.2 with ⟨h, _⟩ | ⟨g', cap', cur, h, hrest⟩
    · have := (hn.1 h).1; cases this
    · subst h
      refine ⟨g', cap', w', hr, ho, hg, ?_⟩
      simpa [Value.ownBlock] using hb

theorem wpList_want {ops : Array Oper} {rest : List Oper} {o : Oper} {a : Act} {Q : Exit → Act → World → Prop} {w : World} (hw : Region.wanted o (yielded ops a.tmps) = true)
    (h : ∀ K : Act → World → Prop, (∀ a w, wpList P ops Q rest a w → K a w) → o.wp P a w K Q) : wpList P ops Q (o :: rest) a w :=
  wpList_step fun K hK => by rw [if_pos hw]; exact h K hK

/-- 'append([]T{}, xs...)': a clone. -/
theorem wpList_clone {ops : Array Oper} {rest : List Oper} {o : Oper} {a : Act} {Q : Exit → Act → World → Prop} {w : World} (hgd : Region.wanted o (yielded ops a.tmps) = true) (s x : Operand) (t : TypeId)
    (ho : o.op = .call { callee := .builtin .append, args := #[s, x], argTypes := #[t, t] }) (e : TypeId) (i : TypeInfo) (z : Value) (size bytes : Nat)
    (ht : P.underlying t = some (.slice e)) (hi : P.info? e = some i) (hz : i.zero = some z) (hsize : i.size = size) (hby : i.bytes = bytes) (hzs : z.cells.size = size) (hsz : 0 < size)
    (g : Nat) (hs : a.eval s = .slice (some ⟨g, 0, none⟩) 0 0) (hg : w.heap[g]? = some (.cells #[] e (0, 0)))
    (ao : Option Addr) (m c : Nat) (cs : List Value) (hx : a.eval x = .slice ao m c) (hl : cs.length = m * size) (hc : Cells w ao cs)
    (h1 : ∀ u ∈ cs, u.oneCell' = true) (h63 : m ≤ maxLen) (hbytes : m * bytes ≤ 140737488355328)
    (h : ∀ g' cap' w', w'.ownsRow g e size (.slice (some ⟨g', 0, none⟩) m cap') m cs → Below g w w' → Cells w' (some ⟨g', 0, none⟩) cs → wpList P ops Q rest (a.put o.dst (.slice (some ⟨g', 0, none⟩) m cap')) w') :
    wpList P ops Q (o :: rest) a w := by
  have hlt : g < w.heap.size := by
    rcases Nat.lt_or_ge g w.heap.size with q | q
    · exact q
    · rw [Array.getElem?_eq_none q] at hg; cases hg
  have hown : w.ownsRow g e size (.slice (some ⟨g, 0, none⟩) 0 0) 0 [] := ⟨by simp, .inr ⟨g, 0, #[], rfl, Nat.le_refl _, hg, Nat.le_refl _, Nat.zero_le _, by simp, by simp⟩⟩
  refine wpList_want hgd fun K hK => ?_
  obtain ⟨g', cap', w', hr, h2, h3, h4⟩ := run_append_cells (P := P) w g t o.type e i z size bytes ht hi hz hsize hby hzs hsz g 0 0 [] hown ao m c cs hl hc h1 (by omega) (by simpa using hbytes) (by omega)
  simp only [Nat.zero_add, List.nil_append] at hr h2
  unfold Oper.wp execOp
  simp only [ho, resolve, invoke, builtin, Sem.run_bind, Sem.run_pure, Result.andThen_ok, List.map_toArray, List.map_cons, List.map_nil, hs, hx, hr]
  exact hK _ _ (h g' cap' w' h2 (grownBy_below h3 (by omega) (fun k hk => by cases hk; exact Nat.le_refl _)) (ownsRow_cells h2))
/-- 'xs = append(xs, ys...)', xs the call's own and not nil. -/
theorem wpList_onto {ops : Array Oper} {rest : List Oper} {o : Oper} {a : Act} {Q : Exit → Act → World → Prop} {w : World} (hgd : Region.wanted o (yielded ops a.tmps) = true) (s x : Operand) (t : TypeId)
    (ho : o.op = .call { callee := .builtin .append, args := #[s, x], argTypes := #[t, t] }) (base : Nat) (e : TypeId) (i : TypeInfo) (z : Value) (size bytes : Nat)
    (ht : P.underlying t = some (.slice e)) (hi : P.info? e = some i) (hz : i.zero = some z) (hsize : i.size = size) (hby : i.bytes = bytes) (hzs : z.cells.size = size) (hsz : 0 < size)
    (g n cap : Nat) (xs : List Value) (hs : a.eval s = .slice (some ⟨g, 0, none⟩) n cap) (hown : w.ownsRow base e size (.slice (some ⟨g, 0, none⟩) n cap) n xs)
    (ao : Option Addr) (m c : Nat) (cs : List Value) (hx : a.eval x = .slice ao m c) (hl : cs.length = m * size) (hc : Cells w ao cs)
    (h1 : ∀ u ∈ cs, u.oneCell' = true) (h63 : n + m ≤ maxLen) (hbytes : (n + m) * bytes ≤ 140737488355328) (hbase : base ≤ w.heap.size)
    (h : ∀ g' cap' w', w'.ownsRow base e size (.slice (some ⟨g', 0, none⟩) (n + m) cap') (n + m) (xs ++ cs) → w.grownBy w' (some g) → (g' = g ∨ g' = w.heap.size) → wpList P ops Q rest (a.put o.dst (.slice (some ⟨g', 0, none⟩) (n + m) cap')) w') :
    wpList P ops Q (o :: rest) a w := by
  refine wpList_want hgd fun K hK => ?_
  obtain ⟨g', cap', w', hr, h2, h3, h4⟩ := run_append_cells (P := P) w base t o.type e i z size bytes ht hi hz hsize hby hzs hsz g n cap xs hown ao m c cs hl hc h1 h63 hbytes hbase
  unfold Oper.wp execOp
  simp only [ho, resolve, invoke, builtin, Sem.run_bind, Sem.run_pure, Result.andThen_ok, List.map_toArray, List.map_cons, List.map_nil, hs, hx, hr]
  exact hK _ _ (h g' cap' w' h2 h3 h4)

/-- The same, one integer: 'xs = append(xs, n)'. -/
theorem wpList_push_int {ops : Array Oper} {rest : List Oper} {o : Oper} {a : Act} {Q : Exit → Act → World → Prop} {w : World} (hgd : Region.wanted o (yielded ops a.tmps) = true) (s x : Operand) (t : TypeId)
    (ho : o.op = .call { callee := .builtin .append, args := #[s, x], argTypes := #[t, t] }) (base : Nat) (e : TypeId) (ht : P.underlying t = some (.slice e))
    (hinfo : (P.info? e).map (fun i => (i.zero, i.size, i.bytes)) = some (some (.int .i64 0), 1, 8))
    (g n cap : Nat) (xs : List Value) (hs : a.eval s = .slice (some ⟨g, 0, none⟩) n cap) (hown : w.ownsRow base e 1 (.slice (some ⟨g, 0, none⟩) n cap) n xs)
    (b c : Nat) (v : Int) (T : TypeId) (fr : Nat × Nat) (hx : a.eval x = .slice (some ⟨b, 0, none⟩) 1 c) (hb : w.heap[b]? = some (.cells #[.int .i64 v] T fr))
    (hbytes : (n + 1) * 8 ≤ 140737488355328) (hbase : base ≤ w.heap.size)
    (h : ∀ g' cap' w', w'.ownsRow base e 1 (.slice (some ⟨g', 0, none⟩) (n + 1) cap') (n + 1) (xs ++ [.int .i64 v]) → w.grownBy w' (some g) → (g' = g ∨ g' = w.heap.size) → wpList P ops Q rest (a.put o.dst (.slice (some ⟨g', 0, none⟩) (n + 1) cap')) w') :
    wpList P ops Q (o :: rest) a w := by
  obtain ⟨i0, hi, hz0, hz1, hz2⟩ := info_parts hinfo
  have hlt : b < w.heap.size := by
    rcases Nat.lt_or_ge b w.heap.size with q | q
    · exact q
    · rw [Array.getElem?_eq_none q] at hb; cases hb
  refine wpList_onto hgd s x t ho base e i0 (.int .i64 0) 1 8 ht hi hz0 hz1 hz2 rfl (by decide) g n cap xs hs hown _ 1 c [.int .i64 v] hx (by simp) (fun _ => ⟨rfl, hlt, fun i u hi => ?_⟩) (by simp [Value.oneCell']) (by unfold maxLen; omega) hbytes hbase h
  cases i with
  | zero => simp at hi; subst hi; simp [World.cell?, hb]
  | succ i => simp at hi
end
end Go.Syn

/- Append at two types, append onto nil, blocks that are known whole and change alone. No program in sight. -/
set_option linter.unusedVariables false
set_option linter.unusedSimpArgs false
namespace Go.Syn
open Go.RowKit
section
variable {P : Program}
theorem run_append_types (w : World) (t t' ty : TypeId) {e e' : TypeId} (b : Option Addr) (n c0 : Nat) (x : Value) (ht : P.underlying t = some (.slice e)) (ht' : P.underlying t' = some (.slice e')) :
    (Builtin.append_ #[t, t'] ty #[.slice b n c0, x]).run P w = (Builtin.append_ #[t, t] ty #[.slice b n c0, x]).run P w := by
  simp [Builtin.append_, run_underlying ht, run_underlying ht']

/-- 'append([]T(nil), xs...)', xs not empty. -/
theorem run_append_nil (w : World) (t t' ty e e' : TypeId) (i : TypeInfo) (z : Value) (size bytes : Nat) (ht : P.underlying t = some (.slice e)) (ht' : P.underlying t' = some (.slice e')) (hi : P.info? e = some i) (hz : i.zero = some z)
    (hsize : i.size = size) (hby : i.bytes = bytes) (hzs : z.cells.size = size) (hsz : 0 < size) (ao : Option Addr) (m c : Nat) (hm : 0 < m) (cs : List Value) (hl : cs.length = m * size) (hc : Cells w ao cs)
    (h1 : ∀ u ∈ cs, u.oneCell' = true) (h63 : m ≤ maxLen) (hbytes : m * bytes ≤ 140737488355328) :
    ∃ cap' w', (Builtin.append_ #[t, t'] ty #[.slice none 0 0, .slice ao m c]).run P w = .ok (.slice (some ⟨w.heap.size, 0, none⟩) m cap') w' ∧
      w'.ownsRow w.heap.size e size (.slice (some ⟨w.heap.size, 0, none⟩) m cap') m cs ∧ Below w.heap.size w w' := by
  rw [run_append_types w t t' ty none 0 0 _ ht ht']
  have h0 : 0 < cs.length := by rw [hl]; exact Nat.mul_pos hm hsz
  obtain ⟨ha, _, hcc⟩ := hc h0
  cases ao with
  | none => simp [PlainA] at ha
  | some ad =>
    have hnews : ∀ j u, cs[j]? = some u → w.cell? (ad.add j) = some u := fun j u hj => by
      have e : ad = ⟨blk (some ad), ofs (some ad), none⟩ := Option.some.inj ha
      rw [e, Go.WideShapes.add_plain]; exact hcc j u hj
    obtain ⟨v', w', hr, ho, hg, hn, hb⟩ := run_append_own_at (P := P) w w.heap.size t ty e i z size bytes ht hi hz hsize hby hzs hsz _ 0 [] (World.ownsRow_nil w _ e size) ad m c cs hl hnews h1 (by omega) (by simpa using hbytes) (Nat.le_refl _)
    simp only [Nat.zero_add, List.nil_append] at hr ho
    rcases ho.2 with ⟨h, h2⟩ | ⟨g', cap', cur, h, hrest⟩
    · omega
    · subst h
      have hg' : g' = w.heap.size := by simpa [Value.ownBlock] using hb
      subst hg'
      exact ⟨cap', w', hr, ho, grownBy_below hg (Nat.le_refl _) (fun k hk => by cases hk)⟩

theorem wpList_append_nil {ops : Array Oper} {rest : List Oper} {o : Oper} {a : Act} {Q : Exit → Act → World → Prop} {w : World} (hgd : Region.wanted o (yielded ops a.tmps) = true) (s x : Operand) (t t' : TypeId)
    (ho : o.op = .call { callee := .builtin .append, args := #[s, x], argTypes := #[t, t'] }) (e e' : TypeId) (i : TypeInfo) (z : Value) (size bytes : Nat)
    (ht : P.underlying t = some (.slice e)) (ht' : P.underlying t' = some (.slice e')) (hi : P.info? e = some i) (hz : i.zero = some z) (hsize : i.size = size) (hby : i.bytes = bytes) (hzs : z.cells.size = size) (hsz : 0 < size)
    (hs : a.eval s = .slice none 0 0) (ao : Option Addr) (m c : Nat) (hm : 0 < m) (cs : List Value) (hx : a.eval x = .slice ao m c) (hl : cs.length = m * size) (hc : Cells w ao cs)
    (h1 : ∀ u ∈ cs, u.oneCell' = true) (h63 : m ≤ maxLen) (hbytes : m * bytes ≤ 140737488355328)
    (h : ∀ cap' w', w'.ownsRow w.heap.size e size (.slice (some ⟨w.heap.size, 0, none⟩) m cap') m cs → Below w.heap.size w w' → Cells w' (some ⟨w.heap.size, 0, none⟩) cs → wpList P ops Q rest (a.put o.dst (.slice (some ⟨w.heap.size, 0, none⟩) m cap')) w') :
    wpList P ops Q (o :: rest) a w := by
  refine wpList_want hgd fun K hK => ?_
  obtain ⟨cap', w', hr, h2, h3⟩ := run_append_nil (P := P) w t t' o.type e e' i z size bytes ht ht' hi hz hsize hby hzs hsz ao m c hm cs hl hc h1 h63 hbytes
  unfold Oper.wp execOp
  simp only [ho, resolve, invoke, builtin, Sem.run_bind, Sem.run_pure, Result.andThen_ok, List.map_toArray, List.map_cons, List.map_nil, hs, hx, hr]
  exact hK _ _ (h cap' w' h2 h3 (ownsRow_cells h2))
end

section
variable {P : Program}
/-- 'xs = append(xs, v)', v of one cell. -/
theorem wpList_push_one {ops : Array Oper} {rest : List Oper} {o : Oper} {a : Act} {Q : Exit → Act → World → Prop} {w : World} (hgd : Region.wanted o (yielded ops a.tmps) = true) (s x : Operand) (t : TypeId)
    (ho : o.op = .call { callee := .builtin .append, args := #[s, x], argTypes := #[t, t] }) (base : Nat) (e : TypeId) (ht : P.underlying t = some (.slice e)) (z : Value) (bytes : Nat)
    (hinfo : (P.info? e).map (fun i => (i.zero, i.size, i.bytes)) = some (some z, 1, bytes)) (hz : z.cells.size = 1)
    (g n cap : Nat) (xs : List Value) (hs : a.eval s = .slice (some ⟨g, 0, none⟩) n cap) (hown : w.ownsRow base e 1 (.slice (some ⟨g, 0, none⟩) n cap) n xs)
    (b c : Nat) (v : Value) (hv : v.oneCell' = true) (T : TypeId) (fr : Nat × Nat) (hx : a.eval x = .slice (some ⟨b, 0, none⟩) 1 c) (hb : w.heap[b]? = some (.cells #[v] T fr))
    (hm : n + 1 ≤ maxLen) (hbytes : (n + 1) * bytes ≤ 140737488355328) (hbase : base ≤ w.heap.size)
    (h : ∀ g' cap' w', w'.ownsRow base e 1 (.slice (some ⟨g', 0, none⟩) (n + 1) cap') (n + 1) (xs ++ [v]) → w.grownBy w' (some g) → (g' = g ∨ g' = w.heap.size) → wpList P ops Q rest (a.put o.dst (.slice (some ⟨g', 0, none⟩) (n + 1) cap')) w') :
    wpList P ops Q (o :: rest) a w := by
  obtain ⟨i0, hi, hz0, hz1, hz2⟩ := info_parts hinfo
  have hlt : b < w.heap.size := by
    rcases Nat.lt_or_ge b w.heap.size with q | q
    · exact q
    · rw [Array.getElem?_eq_none q] at hb; cases hb
  refine wpList_onto hgd s x t ho base e i0 z 1 bytes ht hi hz0 hz1 hz2 hz (by decide) g n cap xs hs hown _ 1 c [v] hx (by simp) (fun _ => ⟨rfl, hlt, fun i u hi => ?_⟩) (by simpa using hv) hm hbytes hbase h
  cases i with
  | zero => simp at hi; subst hi; simp [World.cell?, hb]
  | succ i => simp at hi
end

/-- Block b is a row of those cells, none of them frozen. -/
def Blk (w : World) (b : Nat) (cs : List Value) (T : TypeId) : Prop := w.heap[b]? = some (.cells cs.toArray T (0, 0))

theorem Blk.cell {w : World} {b : Nat} {cs : List Value} {T : TypeId} (h : Blk w b cs T) (i : Nat) (v : Value) (hi : cs[i]? = some v) : w.cell? ⟨b, i, none⟩ = some v := by
  have h' : w.heap[b]? = some (.cells cs.toArray T (0, 0)) := h
  simp [World.cell?, h', hi]
theorem Blk.frozen {w : World} {b : Nat} {cs : List Value} {T : TypeId} (h : Blk w b cs T) (i : Nat) : w.frozen? ⟨b, i, none⟩ = false := by
  have h' : w.heap[b]? = some (.cells cs.toArray T (0, 0)) := h
  simp [World.frozen?, h']
theorem Blk.lt {w : World} {b : Nat} {cs : List Value} {T : TypeId} (h : Blk w b cs T) : b < w.heap.size := by
  rcases Nat.lt_or_ge b w.heap.size with q | q
  · exact q
  · unfold Blk at h; rw [Array.getElem?_eq_none q] at h; cases h
theorem Blk.ext {w w' : World} {b : Nat} {cs : List Value} {T : TypeId} (h : Blk w b cs T) (e : Below w.heap.size w w') : Blk w' b cs T := by
  unfold Blk; rw [e.block b h.lt]; exact h
theorem Blk.set {w : World} {b : Nat} {cs : List Value} {T : TypeId} (h : Blk w b cs T) (i : Nat) (v : Value) : Blk (w.setCell ⟨b, i, none⟩ v) b (cs.set i v) T := by
  have h' : w.heap[b]? = some (.cells cs.toArray T (0, 0)) := h
  unfold Blk World.setCell
  simp [Array.getElem?_modify, h']
theorem Blk.alloc {w : World} {b : Nat} {cs : List Value} {T : TypeId} (h : Blk w b cs T) (o : Obj) : Blk (w.alloc o) b cs T := h.ext ((Below.refl _ _).alloc (Nat.le_refl _) _)
theorem Blk.new (w : World) (cs : List Value) (T : TypeId) : Blk (w.alloc (.cells cs.toArray T)) w.heap.size cs T := heap_top w _
theorem Blk.drewN {w : World} {b : Nat} {cs : List Value} {T : TypeId} (h : Blk w b cs T) (n : Nat) : Blk (w.drewN n) b cs T := h
theorem Blk.via {w : World} {b : Nat} {cs' : List Value} {T : TypeId} (h : ∃ cs, Blk w b cs T ∧ cs = cs') : Blk w b cs' T := by
  obtain ⟨cs, h, rfl⟩ := h; exact h
theorem blk_to {w : World} {b : Nat} {cs cs' : List Value} {T : TypeId} (h : Blk w b cs T) (e : cs = cs') : Blk w b cs' T := e ▸ h
theorem Blk.drew {w : World} {b : Nat} {cs : List Value} {T : TypeId} (h : Blk w b cs T) : Blk w.drew b cs T := h
theorem Blk.grown {w w' : World} {b r : Nat} {cs : List Value} {T : TypeId} (h : Blk w b cs T) (hg : w.grownBy w' (some r)) (hr : b ≠ r) : Blk w' b cs T := by
  unfold Blk; rw [hg.block b h.lt (by simpa using hr)]; exact h
theorem Ints.drewN {w : World} {a : Option Addr} {xs : List Int} (h : Ints w a xs) (n : Nat) : Ints (w.drewN n) a xs := ⟨h.len, h.fits, h.at_⟩
theorem u64_sub (a b : Int) (h : 0 ≤ a - b) (h2 : a - b ≤ 18446744073709551615) : IntKind.u64.wrap (IntKind.u64.wrap a - IntKind.u64.wrap b) = a - b := by
  rw [IntKind.wrap_u64, IntKind.wrap_u64, IntKind.wrap_u64]; omega
theorem Ints.grown {w w' : World} {a : Option Addr} {xs : List Int} {r : Nat} (h : Ints w a xs) (hg : w.grownBy w' (some r)) (hr : blk a ≠ r) : Ints w' a xs := by
  refine ⟨h.len, h.fits, fun h0 => ?_⟩
  obtain ⟨ha, hb, hc⟩ := h.at_ h0
  refine ⟨ha, Nat.lt_of_lt_of_le hb hg.size, fun i hi => ?_⟩
  rw [World.cell?_of_block (w := w) (hg.block _ hb (by simpa using hr))]; exact hc i hi

/-! One block alone has changed. -/
theorem grown_refl (w : World) (r : Nat) : w.grownBy w (some r) := World.grownBy.refl _ _
theorem grown_set {w a : World} {r : Nat} (h : w.grownBy a (some r)) (o : Nat) (v : Value) : w.grownBy (a.setCell ⟨r, o, none⟩ v) (some r) := by
  refine ⟨h.os, h.tape, h.output, by simpa [World.setCell] using h.size, fun k hk hr => ?_⟩
  rw [Below.heap_setCell _ _ _ _ (by simpa using hr)]; exact h.block k hk hr
theorem grown_drewN {w a : World} {r : Nat} (h : w.grownBy a (some r)) (n : Nat) : w.grownBy (a.drewN n) (some r) := ⟨h.os, h.tape, h.output, h.size, h.block⟩
theorem grown_drew {w a : World} {r : Nat} (h : w.grownBy a (some r)) : w.grownBy a.drew (some r) := ⟨h.os, h.tape, h.output, h.size, h.block⟩
theorem grown_alloc {w a : World} {r : Nat} (h : w.grownBy a (some r)) (o : Obj) : w.grownBy (a.alloc o) (some r) := by
  refine ⟨h.os, h.tape, h.output, by simp; have := h.size; omega, fun k hk hr => ?_⟩
  rw [Below.heap_alloc _ _ _ (by have := h.size; omega)]; exact h.block k hk hr
theorem grown_ext {w a b : World} {r : Nat} (h : w.grownBy a (some r)) (e : Below a.heap.size a b) : w.grownBy b (some r) :=
  ⟨e.os.trans h.os, e.tape.trans h.tape, e.output.trans h.output, Nat.le_trans h.size e.size, fun k hk hr => (e.block k (Nat.lt_of_lt_of_le hk h.size)).trans (h.block k hk hr)⟩
theorem grown_trans {w a b : World} {r : Nat} (h : w.grownBy a (some r)) (e : a.grownBy b (some r)) : w.grownBy b (some r) :=
  ⟨e.os.trans h.os, e.tape.trans h.tape, e.output.trans h.output, Nat.le_trans h.size e.size, fun k hk hr => (e.block k (Nat.lt_of_lt_of_le hk h.size) hr).trans (h.block k hk hr)⟩
theorem below_grown {W w w' : World} {r : Nat} (h : Below W.heap.size W w) (hg : w.grownBy w' (some r)) (hr : W.heap.size ≤ r) : Below W.heap.size W w' :=
  h.grown hg h.size (fun k hk => by cases hk; exact hr)
theorem grown_fresh {w a a' : World} {b r : Nat} (h : w.grownBy a (some b)) (g : a.grownBy a' (some r)) (hr : w.heap.size ≤ r) : w.grownBy a' (some b) := by
  refine ⟨g.os.trans h.os, g.tape.trans h.tape, g.output.trans h.output, Nat.le_trans h.size g.size, fun k hk hb => ?_⟩
  rw [g.block k (Nat.lt_of_lt_of_le hk h.size) (by simp only [ne_eq, Option.some.injEq]; omega)]
  exact h.block k hk hb
theorem grown_below {w w' : World} {b : Nat} (h : Below w.heap.size w w') : w.grownBy w' (some b) := grown_ext (grown_refl w b) h
end Go.Syn
