/- What the frames of the laws need: arguments as the walks take them. No program in sight. -/
import Derived.Test.YticacnankpaohaaLib
import Derived.Maps.AppendAt
set_option linter.unusedVariables false
set_option linter.unusedSimpArgs false
namespace Go.Syn
open Go.RowKit
/-! What the frames of the laws need: arguments as the walks take them. -/
theorem I64.of_wf {n : Int} (h : (Lit.int .i64 n).wf = true) : I64 n := by
  simp [Lit.wf, IntKind.min, IntKind.max, IntKind.signed, IntKind.bits] at h
  unfold I64; omega
theorem I64.wf {n : Int} (h : I64 n) : (Lit.int .i64 n).wf = true := WalkArith.wf_i64 h

theorem Ints.of_row {W : World} {x : Addr} {len cap : Nat} {zs : List Int} (hl : len ≤ cap) (hm : cap ≤ maxLen) (hz : len ≤ zs.length)
    (hc : ∀ i, i < zs.length → W.cell? (x.add i) = some (.int .i64 (zs.getD i 0))) (hw : ∀ n ∈ zs, (Lit.int .i64 n).wf = true) : Ints W (some x) (zs.take len) ∧ (zs.take len).length = len := by
  have hlen : (zs.take len).length = len := by simp; omega
  refine ⟨⟨?_, ?_, ?_⟩, hlen⟩
  · unfold maxLen at hm; omega
  · exact fun n hn => I64.of_wf (hw n (List.mem_of_mem_take hn))
  · intro h0
    obtain ⟨b, off, spot⟩ := x
    have hspot : spot = none := by simpa [Addr.add] using World.cell?_spot (hc 0 (by omega))
    subst hspot
    have hc' : ∀ i, i < len → W.cell? ⟨b, off + i, none⟩ = some (.int .i64 ((zs.take len).getD i 0)) := fun i hi => by
      have := hc i (by omega)
      rw [Go.WideShapes.add_plain] at this
      rw [this]; simp [List.getD, List.getElem?_take, hi]
    refine ⟨rfl, ?_, fun i hi => hc' i (by omega)⟩
    exact World.block_lt_of_cell? W ⟨b, off, none⟩ (by simpa using hc' 0 (by omega))
end Go.Syn

namespace Go.Syn
open Go.RowKit
theorem Ints.litAt (w : World) (b : Nat) (xs : List Int) (T : TypeId) (hl : xs.length ≤ 9223372036854775807) (hf : ∀ x ∈ xs, I64 x) (hb : w.heap.size = b) :
    Ints (w.alloc (.cells (xs.map (Value.int .i64)).toArray T)) (some ⟨b, 0, none⟩) xs := by
  subst hb; exact Ints.of_block xs hl hf (heap_top w _)
theorem Ints.lit (w : World) (xs : List Int) (T : TypeId) (hl : xs.length ≤ 9223372036854775807) (hf : ∀ x ∈ xs, I64 x) :
    ∀ w', Below (w.heap.size + 1) (w.alloc (.cells (xs.map (Value.int .i64)).toArray T)) w' → Ints w' (some ⟨w.heap.size, 0, none⟩) xs := fun w' hb =>
  (Ints.of_block xs hl hf (heap_top w _)).ext (by simpa using hb)
end Go.Syn

namespace Go.RowKit
theorem Below.step {W a b : World} (h : Below W.heap.size W a) (hb : Below a.heap.size a b) : Below W.heap.size W b := h.trans (hb.mono h.size)
theorem Below.allocW {W a : World} (h : Below W.heap.size W a) (o : Obj) : Below W.heap.size W (a.alloc o) := h.alloc h.size o
theorem Below.cellOf {W w' : World} (h : Below W.heap.size W w') {b o : Nat} {v : Value} (hc : W.cell? ⟨b, o, none⟩ = some v) : w'.cell? ⟨b, o, none⟩ = some v := by
  rw [h.cell (p := ⟨b, o, none⟩) (World.block_lt_of_cell? W ⟨b, o, none⟩ hc)]; exact hc
theorem Below.ltOf {W w' : World} (h : Below W.heap.size W w') {b : Nat} (hb : b < W.heap.size) : b < w'.heap.size := Nat.lt_of_lt_of_le hb h.size
end Go.RowKit

namespace Go.Syn
open Go.RowKit
theorem heap_at (w : World) (o : Obj) (b : Nat) (hb : w.heap.size = b) : (w.alloc o).heap[b]? = some o := by subst hb; exact heap_top w o
/-- A slice whose elements' cells read as cs. -/
def Cells (w : World) (a : Option Addr) (cs : List Value) : Prop :=
  0 < cs.length → PlainA a ∧ blk a < w.heap.size ∧ ∀ i u, cs[i]? = some u → w.cell? ⟨blk a, ofs a + i, none⟩ = some u

theorem Cells.ext {w w' : World} {a : Option Addr} {cs : List Value} (h : Cells w a cs) (e : Below w.heap.size w w') : Cells w' a cs := fun h0 => by
  obtain ⟨ha, hb, hc⟩ := h h0
  exact ⟨ha, Nat.lt_of_lt_of_le hb e.size, fun i u hi => by rw [e.cell (p := ⟨blk a, ofs a + i, none⟩) hb]; exact hc i u hi⟩

theorem Ints.cells {w : World} {a : Option Addr} {xs : List Int} (h : Ints w a xs) : Cells w a (xs.map (Value.int .i64)) := fun h0 => by
  obtain ⟨ha, hb, hc⟩ := h.at_ (by simpa using h0)
  refine ⟨ha, hb, fun i u hi => ?_⟩
  have hlt : i < xs.length := by
    rcases Nat.lt_or_ge i xs.length with g | g
    · exact g
    · simp [List.getElem?_eq_none g] at hi
  have e : u = .int .i64 (xs.getD i 0) := by simp [hlt] at hi; simp [List.getD, hlt, hi]
  rw [e]; exact hc i hlt

theorem Ints.of_cells {w : World} {a : Option Addr} {xs : List Int} (hl : xs.length ≤ 9223372036854775807) (hf : ∀ x ∈ xs, I64 x) (h : Cells w a (xs.map (Value.int .i64))) : Ints w a xs := by
  refine ⟨hl, hf, fun h0 => ?_⟩
  obtain ⟨ha, hb, hc⟩ := h (by simpa using h0)
  exact ⟨ha, hb, fun i hi => hc i _ (by simp [List.getD, hi])⟩

theorem ownsRow_cells {w : World} {base : Nat} {e : TypeId} {size g n cap : Nat} {xs : List Value} (h : w.ownsRow base e size (.slice (some ⟨g, 0, none⟩) n cap) n xs) : Cells w (some ⟨g, 0, none⟩) xs := fun h0 => by
  have hlt := (h.lt g rfl).2
  refine ⟨rfl, hlt, fun i u hi => ?_⟩
  have := h.cells (g := g) rfl i u hi
  rw [Go.WideShapes.add_plain] at this
  exact this

theorem grownBy_below {w w' : World} {row : Option Nat} {B : Nat} (hg : w.grownBy w' row) (hB : B ≤ w.heap.size) (hr : ∀ k, row = some k → B ≤ k) : Below B w w' := (Below.refl B w).grown hg hB hr

section
variable {P : Program}
theorem run_append_none (w : World) (t ty e : TypeId) (i : TypeInfo) (g n cap c : Nat) (hnc : n ≤ cap) (ht : P.underlying t = some (.slice e)) (hi : P.info? e = some i) :
    (Builtin.append_ #[t, t] ty #[.slice (some ⟨g, 0, none⟩) n cap, .slice none 0 c]).run P w = .ok (.slice (some ⟨g, 0, none⟩) n cap) w := by
  simp [Builtin.append_, run_underlying ht, sizeOf, typeInfo, hi, Builtin.lenOf, Builtin.firstCells, hnc, storeCells]

/-- 'append' onto a slice of the call's own that is not nil, from whatever slice. -/
theorem run_append_cells (w : World) (base : Nat) (t ty e : TypeId) (i : TypeInfo) (z : Value) (size bytes : Nat) (ht : P.underlying t = some (.slice e)) (hi : P.info? e = some i) (hz : i.zero = some z)
    (hsize : i.size = size) (hby : i.bytes = bytes) (hzs : z.cells.size = size) (hsz : 0 < size) (g n cap : Nat) (xs : List Value)
    (hown : w.ownsRow base e size (.slice (some ⟨g, 0, none⟩) n cap) n xs) (ao : Option Addr) (m c : Nat) (cs : List Value) (hl : cs.length = m * size) (hc : Cells w ao cs)
    (h1 : ∀ u ∈ cs, u.oneCell' = true) (h63 : n + m ≤ maxLen) (hbytes : (n + m) * bytes ≤ 140737488355328) (hbase : base ≤ w.heap.size) :
    ∃ g' cap' w', (Builtin.append_ #[t, t] ty #[.slice (some ⟨g, 0, none⟩) n cap, .slice ao m c]).run P w = .ok (.slice (some ⟨g', 0, none⟩) (n + m) cap') w' ∧
      w'.ownsRow base e size (.slice (some ⟨g', 0, none⟩) (n + m) cap') (n + m) (xs ++ cs) ∧ w.grownBy w' (some g) ∧ (g' = g ∨ g' = w.heap.size) := by
  have hnc : n ≤ cap := by
    rcases hown.2 with ⟨h, _⟩ | ⟨_, _, _, h, _, _, hn, _⟩
    · cases h
    · cases h; exact hn
  cases ao with
  | none =>
    have hm : m = 0 := by
      rcases Nat.eq_zero_or_pos cs.length with h0 | h0
      · rw [h0] at hl
        rcases Nat.mul_eq_zero.1 hl.symm with h | h
        · exact h
        · omega
      · have := (hc h0).1; simp [PlainA] at this
    subst hm
    have hcs : cs = [] := List.eq_nil_of_length_eq_zero (by simpa using hl)
    subst hcs
    exact ⟨g, cap, w, run_append_none w t ty e i g n cap c hnc ht hi, by simpa using hown, World.grownBy.refl _ _, .inl rfl⟩
  | some ad =>
    have hnews : ∀ j u, cs[j]? = some u → w.cell? (ad.add j) = some u := fun j u hj => by
      have h0 : 0 < cs.length := by
        rcases Nat.lt_or_ge j cs.length with h | h
        · omega
        · rw [List.getElem?_eq_none h] at hj; cases hj
      obtain ⟨ha, _, hcc⟩ := hc h0
      have e : ad = ⟨blk (some ad), ofs (some ad), none⟩ := Option.some.inj ha
      rw [e, Go.WideShapes.add_plain]; exact hcc j u hj
    obtain ⟨v', w', hr, ho, hg, hn, hb⟩ := run_append_own_at (P := P) w base t ty e i z size bytes ht hi hz hsize hby hzs hsz _ n xs hown ad m c cs hl hnews h1 h63 hbytes hbase
    rcases ho.2 with ⟨h, _⟩ | ⟨g', cap', cur, h, hrest⟩
    · have := (hn.1 h).1; cases this
    · subst h
      refine ⟨g', cap', w', hr, ho, hg, ?_⟩
      simpa [Value.ownBlock] using hb

theorem wpList_want {ops : Array Oper} {rest : List Oper} {o : Oper} {a : Act} {Q : Exit → Act → World → Prop} {w : World} (hw : Region.wanted o (yielded ops a.tmps) = true)
    (h : ∀ K : Act → World → Prop, (∀ a w, wpList P ops Q rest a w → K a w) → o.wp P a w K Q) : wpList P ops Q (o :: rest) a w :=
  wpList_step fun K hK => by rw [if_pos hw]; exact h K hK

/-- 'append([]T{}, xs...)': a clone. -/
theorem wpList_clone {ops : Array Oper} {rest : List Oper} {o : Oper} {a : Act} {Q : Exit → Act → World → Prop} {w : World} (hgd : Region.wanted o (yielded ops a.tmps) = true) (s x : Operand) (t : TypeId)
    (ho : o.op = .call { callee := .builtin .append, args := #[s, x], argTypes := #[t, t] }) (e : TypeId) (i : TypeInfo) (z : Value) (size bytes : Nat)
    (ht : P.underlying t = some (.slice e)) (hi : P.info? e = some i) (hz : i.zero = some z) (hsize : i.size = size) (hby : i.bytes = bytes) (hzs : z.cells.size = size) (hsz : 0 < size)
    (g : Nat) (hs : a.eval s = .slice (some ⟨g, 0, none⟩) 0 0) (hg : w.heap[g]? = some (.cells #[] e (0, 0)))
    (ao : Option Addr) (m c : Nat) (cs : List Value) (hx : a.eval x = .slice ao m c) (hl : cs.length = m * size) (hc : Cells w ao cs)
    (h1 : ∀ u ∈ cs, u.oneCell' = true) (h63 : m ≤ maxLen) (hbytes : m * bytes ≤ 140737488355328)
    (h : ∀ g' cap' w', w'.ownsRow g e size (.slice (some ⟨g', 0, none⟩) m cap') m cs → Below g w w' → Cells w' (some ⟨g', 0, none⟩) cs → wpList P ops Q rest (a.put o.dst (.slice (some ⟨g', 0, none⟩) m cap')) w') :
    wpList P ops Q (o :: rest) a w := by
  have hlt : g < w.heap.size := by
    rcases Nat.lt_or_ge g w.heap.size with q | q
    · exact q
    · rw [Array.getElem?_eq_none q] at hg; cases hg
  have hown : w.ownsRow g e size (.slice (some ⟨g, 0, none⟩) 0 0) 0 [] := ⟨by simp, .inr ⟨g, 0, #[], rfl, Nat.le_refl _, hg, Nat.le_refl _, Nat.zero_le _, by simp, by simp⟩⟩
  refine wpList_want hgd fun K hK => ?_
  obtain ⟨g', cap', w', hr, h2, h3, h4⟩ := run_append_cells (P := P) w g t o.type e i z size bytes ht hi hz hsize hby hzs hsz g 0 0 [] hown ao m c cs hl hc h1 (by omega) (by simpa using hbytes) (by omega)
  simp only [Nat.zero_add, List.nil_append] at hr h2
  unfold Oper.wp execOp
  simp only [ho, resolve, invoke, builtin, Sem.run_bind, Sem.run_pure, Result.andThen_ok, List.map_toArray, List.map_cons, List.map_nil, hs, hx, hr]
  exact hK _ _ (h g' cap' w' h2 (grownBy_below h3 (by omega) (fun k hk => by cases hk; exact Nat.le_refl _)) (ownsRow_cells h2))
/-- 'xs = append(xs, ys...)', xs the call's own and not nil. -/
theorem wpList_onto {ops : Array Oper} {rest : List Oper} {o : Oper} {a : Act} {Q : Exit → Act → World → Prop} {w : World} (hgd : Region.wanted o (yielded ops a.tmps) = true) (s x : Operand) (t : TypeId)
    (ho : o.op = .call { callee := .builtin .append, args := #[s, x], argTypes := #[t, t] }) (base : Nat) (e : TypeId) (i : TypeInfo) (z : Value) (size bytes : Nat)
    (ht : P.underlying t = some (.slice e)) (hi : P.info? e = some i) (hz : i.zero = some z) (hsize : i.size = size) (hby : i.bytes = bytes) (hzs : z.cells.size = size) (hsz : 0 < size)
    (g n cap : Nat) (xs : List Value) (hs : a.eval s = .slice (some ⟨g, 0, none⟩) n cap) (hown : w.ownsRow base e size (.slice (some ⟨g, 0, none⟩) n cap) n xs)
    (ao : Option Addr) (m c : Nat) (cs : List Value) (hx : a.eval x = .slice ao m c) (hl : cs.length = m * size) (hc : Cells w ao cs)
    (h1 : ∀ u ∈ cs, u.oneCell' = true) (h63 : n + m ≤ maxLen) (hbytes : (n + m) * bytes ≤ 140737488355328) (hbase : base ≤ w.heap.size)
    (h : ∀ g' cap' w', w'.ownsRow base e size (.slice (some ⟨g', 0, none⟩) (n + m) cap') (n + m) (xs ++ cs) → w.grownBy w' (some g) → (g' = g ∨ g' = w.heap.size) → wpList P ops Q rest (a.put o.dst (.slice (some ⟨g', 0, none⟩) (n + m) cap')) w') :
    wpList P ops Q (o :: rest) a w := by
  refine wpList_want hgd fun K hK => ?_
  obtain ⟨g', cap', w', hr, h2, h3, h4⟩ := run_append_cells (P := P) w base t o.type e i z size bytes ht hi hz hsize hby hzs hsz g n cap xs hown ao m c cs hl hc h1 h63 hbytes hbase
  unfold Oper.wp execOp
  simp only [ho, resolve, invoke, builtin, Sem.run_bind, Sem.run_pure, Result.andThen_ok, List.map_toArray, List.map_cons, List.map_nil, hs, hx, hr]
  exact hK _ _ (h g' cap' w' h2 h3 h4)

/-- The same, one integer: 'xs = append(xs, n)'. -/
theorem wpList_push_int {ops : Array Oper} {rest : List Oper} {o : Oper} {a : Act} {Q : Exit → Act → World → Prop} {w : World} (hgd : Region.wanted o (yielded ops a.tmps) = true) (s x : Operand) (t : TypeId)
    (ho : o.op = .call { callee := .builtin .append, args := #[s, x], argTypes := #[t, t] }) (base : Nat) (e : TypeId) (ht : P.underlying t = some (.slice e))
    (hinfo : (P.info? e).map (fun i => (i.zero, i.size, i.bytes)) = some (some (.int .i64 0), 1, 8))
    (g n cap : Nat) (xs : List Value) (hs : a.eval s = .slice (some ⟨g, 0, none⟩) n cap) (hown : w.ownsRow base e 1 (.slice (some ⟨g, 0, none⟩) n cap) n xs)
    (b c : Nat) (v : Int) (T : TypeId) (fr : Nat × Nat) (hx : a.eval x = .slice (some ⟨b, 0, none⟩) 1 c) (hb : w.heap[b]? = some (.cells #[.int .i64 v] T fr))
    (hbytes : (n + 1) * 8 ≤ 140737488355328) (hbase : base ≤ w.heap.size)
    (h : ∀ g' cap' w', w'.ownsRow base e 1 (.slice (some ⟨g', 0, none⟩) (n + 1) cap') (n + 1) (xs ++ [.int .i64 v]) → w.grownBy w' (some g) → (g' = g ∨ g' = w.heap.size) → wpList P ops Q rest (a.put o.dst (.slice (some ⟨g', 0, none⟩) (n + 1) cap')) w') :
    wpList P ops Q (o :: rest) a w := by
  obtain ⟨i0, hi, hz0, hz1, hz2⟩ := info_parts hinfo
  have hlt : b < w.heap.size := by
    rcases Nat.lt_or_ge b w.heap.size with q | q
    · exact q
    · rw [Array.getElem?_eq_none q] at hb; cases hb
  refine wpList_onto hgd s x t ho base e i0 (.int .i64 0) 1 8 ht hi hz0 hz1 hz2 rfl (by decide) g n cap xs hs hown _ 1 c [.int .i64 v] hx (by simp) (fun _ => ⟨rfl, hlt, fun i u hi => ?_⟩) (by simp [Value.oneCell']) (by unfold maxLen; omega) hbytes hbase h
  cases i with
  | zero => simp at hi; subst hi; simp [World.cell?, hb]
  | succ i => simp at hi
end
end Go.Syn
