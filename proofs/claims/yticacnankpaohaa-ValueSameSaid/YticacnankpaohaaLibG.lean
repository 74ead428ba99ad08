/- Append at two types, append onto nil, blocks that are known whole and change alone. No program in sight. -/
import Derived.Test.YticacnankpaohaaLibF
set_option linter.unusedVariables false
set_option linter.unusedSimpArgs false
namespace Go.Syn
open Go.RowKit
section
variable {P : Program}
theorem run_append_types (w : World) (t t' ty : TypeId) {e e' : TypeId} (b : Option Addr) (n c0 : Nat) (x : Value) (ht : P.underlying t = some (.slice e)) (ht' : P.underlying t' = some (.slice e')) :
    (Builtin.append_ #[t, t'] ty #[.slice b n c0, x]).run P w = (Builtin.append_ #[t, t] ty #[.slice b n c0, x]).run P w := by
  simp [Builtin.append_, run_underlying ht, run_underlying ht']

/-- 'append([]T(nil), xs...)', xs not empty. -/
theorem run_append_nil (w : World) (t t' ty e e' : TypeId) (i : TypeInfo) (z : Value) (size bytes : Nat) (ht : P.underlying t = some (.slice e)) (ht' : P.underlying t' = some (.slice e')) (hi : P.info? e = some i) (hz : i.zero = some z)
    (hsize : i.size = size) (hby : i.bytes = bytes) (hzs : z.cells.size = size) (hsz : 0 < size) (ao : Option Addr) (m c : Nat) (hm : 0 < m) (cs : List Value) (hl : cs.length = m * size) (hc : Cells w ao cs)
    (h1 : ∀ u ∈ cs, u.oneCell' = true) (h63 : m ≤ maxLen) (hbytes : m * bytes ≤ 140737488355328) :
    ∃ cap' w', (Builtin.append_ #[t, t'] ty #[.slice none 0 0, .slice ao m c]).run P w = .ok (.slice (some ⟨w.heap.size, 0, none⟩) m cap') w' ∧
      w'.ownsRow w.heap.size e size (.slice (some ⟨w.heap.size, 0, none⟩) m cap') m cs ∧ Below w.heap.size w w' := by
  rw [run_append_types w t t' ty none 0 0 _ ht ht']
  have h0 : 0 < cs.length := by rw [hl]; exact Nat.mul_pos hm hsz
  obtain ⟨ha, _, hcc⟩ := hc h0
  cases ao with
  | none => simp [PlainA] at ha
  | some ad =>
    have hnews : ∀ j u, cs[j]? = some u → w.cell? (ad.add j) = some u := fun j u hj => by
      have e : ad = ⟨blk (some ad), ofs (some ad), none⟩ := Option.some.inj ha
      rw [e, Go.WideShapes.add_plain]; exact hcc j u hj
    obtain ⟨v', w', hr, ho, hg, hn, hb⟩ := run_append_own_at (P := P) w w.heap.size t ty e i z size bytes ht hi hz hsize hby hzs hsz _ 0 [] (World.ownsRow_nil w _ e size) ad m c cs hl hnews h1 (by omega) (by simpa using hbytes) (Nat.le_refl _)
    simp only [Nat.zero_add, List.nil_append] at hr ho
    rcases ho.2 with ⟨h, h2⟩ | ⟨g', cap', cur, h, hrest⟩
    · omega
    · subst h
      have hg' : g' = w.heap.size := by simpa [Value.ownBlock] using hb
      subst hg'
      exact ⟨cap', w', hr, ho, grownBy_below hg (Nat.le_refl _) (fun k hk => by cases hk)⟩

theorem wpList_append_nil {ops : Array Oper} {rest : List Oper} {o : Oper} {a : Act} {Q : Exit → Act → World → Prop} {w : World} (hgd : Region.wanted o (yielded ops a.tmps) = true) (s x : Operand) (t t' : TypeId)
    (ho : o.op = .call { callee := .builtin .append, args := #[s, x], argTypes := #[t, t'] }) (e e' : TypeId) (i : TypeInfo) (z : Value) (size bytes : Nat)
    (ht : P.underlying t = some (.slice e)) (ht' : P.underlying t' = some (.slice e')) (hi : P.info? e = some i) (hz : i.zero = some z) (hsize : i.size = size) (hby : i.bytes = bytes) (hzs : z.cells.size = size) (hsz : 0 < size)
    (hs : a.eval s = .slice none 0 0) (ao : Option Addr) (m c : Nat) (hm : 0 < m) (cs : List Value) (hx : a.eval x = .slice ao m c) (hl : cs.length = m * size) (hc : Cells w ao cs)
    (h1 : ∀ u ∈ cs, u.oneCell' = true) (h63 : m ≤ maxLen) (hbytes : m * bytes ≤ 140737488355328)
    (h : ∀ cap' w', w'.ownsRow w.heap.size e size (.slice (some ⟨w.heap.size, 0, none⟩) m cap') m cs → Below w.heap.size w w' → Cells w' (some ⟨w.heap.size, 0, none⟩) cs → wpList P ops Q rest (a.put o.dst (.slice (some ⟨w.heap.size, 0, none⟩) m cap')) w') :
    wpList P ops Q (o :: rest) a w := by
  refine wpList_want hgd fun K hK => ?_
  obtain ⟨cap', w', hr, h2, h3⟩ := run_append_nil (P := P) w t t' o.type e e' i z size bytes ht ht' hi hz hsize hby hzs hsz ao m c hm cs hl hc h1 h63 hbytes
  unfold Oper.wp execOp
  simp only [ho, resolve, invoke, builtin, Sem.run_bind, Sem.run_pure, Result.andThen_ok, List.map_toArray, List.map_cons, List.map_nil, hs, hx, hr]
  exact hK _ _ (h cap' w' h2 h3 (ownsRow_cells h2))
end

section
variable {P : Program}
/-- 'xs = append(xs, v)', v of one cell. -/
theorem wpList_push_one {ops : Array Oper} {rest : List Oper} {o : Oper} {a : Act} {Q : Exit → Act → World → Prop} {w : World} (hgd : Region.wanted o (yielded ops a.tmps) = true) (s x : Operand) (t : TypeId)
    (ho : o.op = .call { callee := .builtin .append, args := #[s, x], argTypes := #[t, t] }) (base : Nat) (e : TypeId) (ht : P.underlying t = some (.slice e)) (z : Value) (bytes : Nat)
    (hinfo : (P.info? e).map (fun i => (i.zero, i.size, i.bytes)) = some (some z, 1, bytes)) (hz : z.cells.size = 1)
    (g n cap : Nat) (xs : List Value) (hs : a.eval s = .slice (some ⟨g, 0, none⟩) n cap) (hown : w.ownsRow base e 1 (.slice (some ⟨g, 0, none⟩) n cap) n xs)
    (b c : Nat) (v : Value) (hv : v.oneCell' = true) (T : TypeId) (fr : Nat × Nat) (hx : a.eval x = .slice (some ⟨b, 0, none⟩) 1 c) (hb : w.heap[b]? = some (.cells #[v] T fr))
    (hm : n + 1 ≤ maxLen) (hbytes : (n + 1) * bytes ≤ 140737488355328) (hbase : base ≤ w.heap.size)
    (h : ∀ g' cap' w', w'.ownsRow base e 1 (.slice (some ⟨g', 0, none⟩) (n + 1) cap') (n + 1) (xs ++ [v]) → w.grownBy w' (some g) → (g' = g ∨ g' = w.heap.size) → wpList P ops Q rest (a.put o.dst (.slice (some ⟨g', 0, none⟩) (n + 1) cap')) w') :
    wpList P ops Q (o :: rest) a w := by
  obtain ⟨i0, hi, hz0, hz1, hz2⟩ := info_parts hinfo
  have hlt : b < w.heap.size := by
    rcases Nat.lt_or_ge b w.heap.size with q | q
    · exact q
    · rw [Array.getElem?_eq_none q] at hb; cases hb
  refine wpList_onto hgd s x t ho base e i0 z 1 bytes ht hi hz0 hz1 hz2 hz (by decide) g n cap xs hs hown _ 1 c [v] hx (by simp) (fun _ => ⟨rfl, hlt, fun i u hi => ?_⟩) (by simpa using hv) hm hbytes hbase h
  cases i with
  | zero => simp at hi; subst hi; simp [World.cell?, hb]
  | succ i => simp at hi
end

/-- Block b is a row of those cells, none of them frozen. -/
def Blk (w : World) (b : Nat) (cs : List Value) (T : TypeId) : Prop := w.heap[b]? = some (.cells cs.toArray T (0, 0))

theorem Blk.cell {w : World} {b : Nat} {cs : List Value} {T : TypeId} (h : Blk w b cs T) (i : Nat) (v : Value) (hi : cs[i]? = some v) : w.cell? ⟨b, i, none⟩ = some v := by
  have h' : w.heap[b]? = some (.cells cs.toArray T (0, 0)) := h
  simp [World.cell?, h', hi]
theorem Blk.frozen {w : World} {b : Nat} {cs : List Value} {T : TypeId} (h : Blk w b cs T) (i : Nat) : w.frozen? ⟨b, i, none⟩ = false := by
  have h' : w.heap[b]? = some (.cells cs.toArray T (0, 0)) := h
  simp [World.frozen?, h']
theorem Blk.lt {w : World} {b : Nat} {cs : List Value} {T : TypeId} (h : Blk w b cs T) : b < w.heap.size := by
  rcases Nat.lt_or_ge b w.heap.size with q | q
  · exact q
  · unfold Blk at h; rw [Array.getElem?_eq_none q] at h; cases h
theorem Blk.ext {w w' : World} {b : Nat} {cs : List Value} {T : TypeId} (h : Blk w b cs T) (e : Below w.heap.size w w') : Blk w' b cs T := by
  unfold Blk; rw [e.block b h.lt]; exact h
theorem Blk.set {w : World} {b : Nat} {cs : List Value} {T : TypeId} (h : Blk w b cs T) (i : Nat) (v : Value) : Blk (w.setCell ⟨b, i, none⟩ v) b (cs.set i v) T := by
  have h' : w.heap[b]? = some (.cells cs.toArray T (0, 0)) := h
  unfold Blk World.setCell
  simp [Array.getElem?_modify, h']
theorem Blk.alloc {w : World} {b : Nat} {cs : List Value} {T : TypeId} (h : Blk w b cs T) (o : Obj) : Blk (w.alloc o) b cs T := h.ext ((Below.refl _ _).alloc (Nat.le_refl _) _)
theorem Blk.new (w : World) (cs : List Value) (T : TypeId) : Blk (w.alloc (.cells cs.toArray T)) w.heap.size cs T := heap_top w _
theorem Blk.drewN {w : World} {b : Nat} {cs : List Value} {T : TypeId} (h : Blk w b cs T) (n : Nat) : Blk (w.drewN n) b cs T := h
theorem Blk.via {w : World} {b : Nat} {cs' : List Value} {T : TypeId} (h : ∃ cs, Blk w b cs T ∧ cs = cs') : Blk w b cs' T := by
  obtain ⟨cs, h, rfl⟩ := h; exact h
theorem blk_to {w : World} {b : Nat} {cs cs' : List Value} {T : TypeId} (h : Blk w b cs T) (e : cs = cs') : Blk w b cs' T := e ▸ h
theorem Blk.drew {w : World} {b : Nat} {cs : List Value} {T : TypeId} (h : Blk w b cs T) : Blk w.drew b cs T := h
theorem Blk.grown {w w' : World} {b r : Nat} {cs : List Value} {T : TypeId} (h : Blk w b cs T) (hg : w.grownBy w' (some r)) (hr : b ≠ r) : Blk w' b cs T := by
  unfold Blk; rw [hg.block b h.lt (by simpa using hr)]; exact h
theorem Ints.drewN {w : World} {a : Option Addr} {xs : List Int} (h : Ints w a xs) (n : Nat) : Ints (w.drewN n) a xs := ⟨h.len, h.fits, h.at_⟩
theorem u64_sub (a b : Int) (h : 0 ≤ a - b) (h2 : a - b ≤ 18446744073709551615) : IntKind.u64.wrap (IntKind.u64.wrap a - IntKind.u64.wrap b) = a - b := by
  rw [IntKind.wrap_u64, IntKind.wrap_u64, IntKind.wrap_u64]; omega
theorem Ints.grown {w w' : World} {a : Option Addr} {xs : List Int} {r : Nat} (h : Ints w a xs) (hg : w.grownBy w' (some r)) (hr : blk a ≠ r) : Ints w' a xs := by
  refine ⟨h.len, h.fits, fun h0 => ?_⟩
  obtain ⟨ha, hb, hc⟩ := h.at_ h0
  refine ⟨ha, Nat.lt_of_lt_of_le hb hg.size, fun i hi => ?_⟩
  rw [World.cell?_of_block (w := w) (hg.block _ hb (by simpa using hr))]; exact hc i hi

/-! One block alone has changed. -/
theorem grown_refl (w : World) (r : Nat) : w.grownBy w (some r) := World.grownBy.refl _ _
theorem grown_set {w a : World} {r : Nat} (h : w.grownBy a (some r)) (o : Nat) (v : Value) : w.grownBy (a.setCell ⟨r, o, none⟩ v) (some r) := by
  refine ⟨h.os, h.tape, h.output, by simpa [World.setCell] using h.size, fun k hk hr => ?_⟩
  rw [Below.heap_setCell _ _ _ _ (by simpa using hr)]; exact h.block k hk hr
theorem grown_drewN {w a : World} {r : Nat} (h : w.grownBy a (some r)) (n : Nat) : w.grownBy (a.drewN n) (some r) := ⟨h.os, h.tape, h.output, h.size, h.block⟩
theorem grown_drew {w a : World} {r : Nat} (h : w.grownBy a (some r)) : w.grownBy a.drew (some r) := ⟨h.os, h.tape, h.output, h.size, h.block⟩
theorem grown_alloc {w a : World} {r : Nat} (h : w.grownBy a (some r)) (o : Obj) : w.grownBy (a.alloc o) (some r) := by
  refine ⟨h.os, h.tape, h.output, by simp; have := h.size; omega, fun k hk hr => ?_⟩
  rw [Below.heap_alloc _ _ _ (by have := h.size; omega)]; exact h.block k hk hr
theorem grown_ext {w a b : World} {r : Nat} (h : w.grownBy a (some r)) (e : Below a.heap.size a b) : w.grownBy b (some r) :=
  ⟨e.os.trans h.os, e.tape.trans h.tape, e.output.trans h.output, Nat.le_trans h.size e.size, fun k hk hr => (e.block k (Nat.lt_of_lt_of_le hk h.size)).trans (h.block k hk hr)⟩
theorem grown_trans {w a b : World} {r : Nat} (h : w.grownBy a (some r)) (e : a.grownBy b (some r)) : w.grownBy b (some r) :=
  ⟨e.os.trans h.os, e.tape.trans h.tape, e.output.trans h.output, Nat.le_trans h.size e.size, fun k hk hr => (e.block k (Nat.lt_of_lt_of_le hk h.size) hr).trans (h.block k hk hr)⟩
theorem below_grown {W w w' : World} {r : Nat} (h : Below W.heap.size W w) (hg : w.grownBy w' (some r)) (hr : W.heap.size ≤ r) : Below W.heap.size W w' :=
  h.grown hg h.size (fun k hk => by cases hk; exact hr)
theorem grown_fresh {w a a' : World} {b r : Nat} (h : w.grownBy a (some b)) (g : a.grownBy a' (some r)) (hr : w.heap.size ≤ r) : w.grownBy a' (some b) := by
  refine ⟨g.os.trans h.os, g.tape.trans h.tape, g.output.trans h.output, Nat.le_trans h.size g.size, fun k hk hb => ?_⟩
  rw [g.block k (Nat.lt_of_lt_of_le hk h.size) (by simp only [ne_eq, Option.some.injEq]; omega)]
  exact h.block k hk hb
theorem grown_below {w w' : World} {b : Nat} (h : Below w.heap.size w w') : w.grownBy w' (some b) := grown_ext (grown_refl w b) h
end Go.Syn
