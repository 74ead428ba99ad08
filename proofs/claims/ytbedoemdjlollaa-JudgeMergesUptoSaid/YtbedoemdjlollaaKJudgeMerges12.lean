/- Part 12 of the texts of a proof about the given program: what the statement's proof needs of them. -/
import Derived.Laws.OwnMore
import Derived.Laws.IdiomCopy
import Derived.Laws.Slices
import Derived.Test.YtbedoemdjlollaaKJudgeMerges11
namespace Go.Eng
open Go.RowKit Go.Syn Go.MapKept
set_option linter.unusedVariables false
set_option linter.unusedSimpArgs false
def HX.row (base e : Nat) (a : Option Addr) (n cap : Nat) (xs : List Value) : HX :=
  ⟨fun k => cap ≠ 0 ∧ abk a = some k, fun w => (cap = 0 ∧ n = 0 ∧ xs = []) ∨ (cap ≠ 0 ∧ w.ownsRow base e 1 (.slice a n cap) n xs), fun w w' h eq => by
    rcases h with h | ⟨h0, h⟩
    · exact .inl h
    · refine .inr ⟨h0, h.1, ?_⟩
      rcases h.2 with q | ⟨g, c, cur, hv, hb, hg, rest⟩
      · exact .inl q
      · refine .inr ⟨g, c, cur, hv, hb, ?_, rest⟩
        cases hv
        rw [eq g ⟨h0, rfl⟩]; exact hg⟩
theorem owns_base {w : World} {b1 b2 e size n : Nat} {v : Value} {xs : List Value} (h : w.ownsRow b1 e size v n xs) (hb : b2 ≤ b1) : w.ownsRow b2 e size v n xs := by
  refine ⟨h.1, ?_⟩
  rcases h.2 with q | ⟨g, c2, cur, q, hb1, rest⟩
  · exact .inl q
  · exact .inr ⟨g, c2, cur, q, Nat.le_trans hb hb1, rest⟩
section
variable {P : Program}
end
section
variable {C : Cfg} {ρ : Env} {pre : List Nat} {hx rest : HX} {L : Stack} {m m' : Mem} {ty : Nat} {ps : List (Nat × SV)} {t : Tree}
end
theorem cellsAll_ints : ∀ (xs : List Int), Dat.cellsAll (xs.map (Dat.int .i64)) = xs.map (Value.int .i64)
  | [] => rfl
  | x :: r => by rw [List.map_cons, List.map_cons, ← cellsAll_ints r]; rfl
theorem ints_elt {w : World} {a : Option Addr} {xs : List Int} (h : Ints w a xs) {i : Nat} {x : Int} (hi : xs[i]? = some x) :
    a.isSome = true ∧ ∀ (N : Nat → Prop), ¬ N ((a.getD ⟨0, 0, none⟩).block) → CellsAt w (.pointer (some (((a.getD ⟨0, 0, none⟩).add (i * 1)).add 0))) [.int .i64 x] N :=
  cells_elt (f := Dat.int .i64) (c := 1) (by rw [cellsAll_ints]; exact h.cells) (fun _ => rfl) (by decide) hi
theorem pure_same {P : Program} {f : Nat} {av : Array Value} {w : World} {V : Value} (h : Calls P f av w fun e w' => e = .returned V ∧ w = w') : Calls P f av w (PureAt w V) :=
  h.mono fun e w' ⟨h1, h2⟩ => by subst h2; exact ⟨h1, Below.refl _ _⟩
end Go.Eng

namespace Go.Eng
open Go.RowKit Go.Syn Go.MapKept
set_option linter.unusedVariables false
set_option linter.unusedSimpArgs false
def spl (cur : List Value) (o : Nat) (vs : List Value) : List Value := cur.take o ++ vs ++ cur.drop (o + vs.length)
theorem spl_len {cur vs : List Value} {o : Nat} (h : o + vs.length ≤ cur.length) : (spl cur o vs).length = cur.length := by
  simp only [spl, List.length_append, List.length_take, List.length_drop]; omega
theorem set_spl {cur r : List Value} {o : Nat} {v : Value} (h : o + 1 + r.length ≤ cur.length) : spl (cur.set o v) (o + 1) r = spl cur o (v :: r) := by
  unfold spl
  rw [List.take_set, List.drop_set_of_lt (by omega), List.take_add_one]
  have h1 : cur[o]? = some cur[o] := List.getElem?_eq_getElem (by omega)
  rw [h1]
  simp only [Option.toList_some, List.set_append, List.length_take, List.length_cons]
  rw [if_neg (by omega), show o - min o cur.length = 0 by omega]
  simp only [List.set_cons_zero, List.append_assoc, List.singleton_append]
  rw [show o + 1 + r.length = o + (r.length + 1) by omega]
theorem setCells_blk {g e : Nat} : ∀ (vs : List Value) (o : Nat) (cur : List Value) (w : World), w.heap[g]? = some (.cells cur.toArray e (0, 0)) → o + vs.length ≤ cur.length →
    (w.setCells g o vs).heap[g]? = some (.cells (spl cur o vs).toArray e (0, 0)) ∧ w.grownBy (w.setCells g o vs) (some g)
  | [], o, cur, w, h, _ => by
    refine ⟨?_, World.grownBy.refl _ _⟩
    show w.heap[g]? = _
    rw [h]; simp [spl]
  | v :: r, o, cur, w, h, hl => by
    simp only [List.length_cons] at hl
    have h1 : (w.setCell ⟨g, o, none⟩ v).heap[g]? = some (.cells (cur.set o v).toArray e (0, 0)) := by
      have := heap_setCell_same w g o cur.toArray e v h
      rw [this]; simp
    obtain ⟨h2, h3⟩ := setCells_blk r (o + 1) (cur.set o v) (w.setCell ⟨g, o, none⟩ v) h1 (by simp; omega)
    refine ⟨?_, ?_⟩
    · show ((w.setCell ⟨g, o, none⟩ v).setCells g (o + 1) r).heap[g]? = _
      rw [h2, set_spl (by omega)]
    · refine ⟨h3.os, h3.tape, h3.output, Nat.le_trans (by simp) h3.size, fun k hk hne => ?_⟩
      show ((w.setCell ⟨g, o, none⟩ v).setCells g (o + 1) r).heap[k]? = _
      rw [h3.block k (by simpa using hk) hne]
      exact heap_setCell_other w _ k v (fun e => hne (by rw [e]))
theorem run_store_blk {P : Program} {w : World} {g e o : Nat} {cur vs : List Value} (h : w.heap[g]? = some (.cells cur.toArray e (0, 0))) (hl : o + vs.length ≤ cur.length) (h1 : ∀ v ∈ vs, v.oneCell' = true) :
    ∃ w', (storeCells ⟨g, o, none⟩ vs).run P w = .ok () w' ∧ w'.heap[g]? = some (.cells (spl cur o vs).toArray e (0, 0)) ∧ w.grownBy w' (some g) := by
  refine ⟨w.setCells g o vs, ?_, setCells_blk vs o cur w h hl⟩
  have := run_storeCells_cells (P := P) g o vs 0 w (fun j hj => ?_) (fun j _ => ?_) h1
  · simpa using this
  · rw [cell_of_row w g _ cur.toArray e (0, 0) h]
    simp; omega
  · exact frozen_of_row w g _ cur.toArray e h
theorem cells_blk {w : World} {g e o : Nat} {cur : List Value} (h : w.heap[g]? = some (.cells cur.toArray e (0, 0))) (j : Nat) : w.cell? ⟨g, o + j, none⟩ = cur[o + j]? := by
  rw [cell_of_row w g _ cur.toArray e (0, 0) h]; simp
def HX.rw (sz e : Nat) (a : Option Addr) (n cap : Nat) (xs : List Value) : HX :=
  ⟨fun k => cap ≠ 0 ∧ abk a = some k, fun w => (cap = 0 ∧ n = 0 ∧ xs = []) ∨ (cap ≠ 0 ∧ w.ownsRow 0 e sz (.slice a n cap) n xs), fun w w' h eq => by
    rcases h with h | ⟨h0, h⟩
    · exact .inl h
    · refine .inr ⟨h0, h.1, ?_⟩
      rcases h.2 with q | ⟨g, c, cur, hv, hb, hg, rest⟩
      · exact .inl q
      · refine .inr ⟨g, c, cur, hv, hb, ?_, rest⟩
        cases hv
        rw [eq g ⟨h0, rfl⟩]; exact hg⟩
theorem HX.rw_nil (sz e : Nat) (a : Option Addr) (w : World) : (HX.rw sz e a 0 0 []).X w := .inl ⟨rfl, rfl, rfl⟩
theorem rw_len {sz e n cap : Nat} {a : Option Addr} {xs : List Value} {w : World} (h : (HX.rw sz e a n cap xs).X w) : xs.length = n * sz := by
  rcases h with ⟨_, rfl, rfl⟩ | ⟨_, h⟩
  · simp
  · exact h.1
theorem rw_le {sz e n cap : Nat} {a : Option Addr} {xs : List Value} {w : World} (h : (HX.rw sz e a n cap xs).X w) : n ≤ cap ∧ cap ≤ maxLen := by
  rcases h with ⟨rfl, rfl, rfl⟩ | ⟨h0, h⟩
  · exact ⟨Nat.le_refl _, Nat.zero_le _⟩
  · rcases h.2 with ⟨q, q2⟩ | ⟨g, c2, cur, q, hb, hg, h1, h2, _⟩
    · cases q; exact absurd rfl h0
    · cases q; exact ⟨h1, h2⟩
theorem rw_cells {sz e n cap : Nat} {a : Option Addr} {xs : List Value} {w : World} (h : (HX.rw sz e a n cap xs).X w) : Cells w a xs := by
  rcases h with ⟨_, rfl, rfl⟩ | ⟨h0, h⟩
  · intro h; simp at h
  · rcases h.2 with ⟨q, q2⟩ | ⟨g, c2, cur, q, _⟩
    · cases q; exact absurd rfl h0
    · cases q; exact ownsRow_cells h
theorem rw_open {sz e n cap : Nat} {a : Option Addr} {xs : List Value} {w : World} (h : (HX.rw sz e a n cap xs).X w) (hc : cap ≠ 0) :
    ∃ (g : Nat) (cur : List Value), a = some ⟨g, 0, none⟩ ∧ g < w.heap.size ∧ w.heap[g]? = some (.cells cur.toArray e (0, 0)) ∧ n ≤ cap ∧ cap ≤ maxLen ∧ cur.length = cap * sz ∧ cur.take (n * sz) = xs := by
  rcases h with ⟨q, _⟩ | ⟨h0, h⟩
  · exact absurd q hc
  · rcases h.2 with ⟨q, q2⟩ | ⟨g, c2, cur, q, hb, hg, h1, h2, h3, h4⟩
    · cases q; exact absurd rfl h0
    · cases q
      refine ⟨g, cur.toList, rfl, ?_, by simpa using hg, h1, h2, by simpa using h3, h4⟩
      rcases Nat.lt_or_ge g w.heap.size with q2 | q2
      · exact q2
      · rw [Array.getElem?_eq_none q2] at hg; cases hg
theorem rw_shut {sz e n cap g : Nat} {cur : List Value} {w : World} (hc : cap ≠ 0) (hg : w.heap[g]? = some (.cells cur.toArray e (0, 0))) (h1 : n ≤ cap) (h2 : cap ≤ maxLen) (h3 : cur.length = cap * sz) : (HX.rw sz e (some ⟨g, 0, none⟩) n cap (cur.take (n * sz))).X w :=
  .inr ⟨hc, by rw [List.length_take, h3]; exact Nat.min_eq_left (Nat.mul_le_mul_right _ h1), .inr ⟨g, cap, cur.toArray, rfl, Nat.zero_le _, hg, h1, h2, by simpa using h3, by simp⟩⟩
section
variable {P : Program}
theorem run_rw (w : World) (t ty e : TypeId) (i : TypeInfo) (z : Value) (sz bytes : Nat) (ht : P.underlying t = some (.slice e)) (hi : P.info? e = some i) (hz : i.zero = some z) (hsize : i.size = sz) (hby : i.bytes = bytes) (hzs : z.cells.size = sz) (hsz : 0 < sz)
    (a : Option Addr) (n cap : Nat) (xs : List Value) (hrow : (HX.rw sz e a n cap xs).X w) (src : Addr) (m c : Nat) (news : List Value) (hm : 0 < m) (hl : news.length = m * sz) (hnews : ∀ j u, news[j]? = some u → w.cell? (src.add j) = some u) (h1 : ∀ u ∈ news, u.oneCell' = true)
    (h63 : n + m ≤ maxLen) (hbytes : (n + m) * bytes ≤ 140737488355328) :
    ∃ a' cap' w', (Builtin.append_ #[t, t] ty #[.slice a n cap, .slice (some src) m c]).run P w = .ok (.slice a' (n + m) cap') w' ∧ cap' ≠ 0 ∧ (HX.rw sz e a' (n + m) cap' (xs ++ news)).X w' ∧
      w.grownBy w' (if cap = 0 then none else abk a) ∧ ((cap ≠ 0 ∧ abk a' = abk a) ∨ ∃ g, abk a' = some g ∧ w.heap.size ≤ g) := by
  have key : ∀ v' w', w'.ownsRow 0 e sz v' (n + m) (xs ++ news) → ∃ a' cap', v' = .slice a' (n + m) cap' ∧ cap' ≠ 0 ∧ (HX.rw sz e a' (n + m) cap' (xs ++ news)).X w' := by
    intro v' w' ho
    rcases ho.2 with ⟨q, q2⟩ | ⟨g, c2, cur, q, hb, hg, hn, _⟩
    · omega
    · subst q
      exact ⟨_, c2, rfl, by omega, .inr ⟨by omega, ho⟩⟩
  have hob : ∀ (x : Option Addr) (p q : Nat), Value.ownBlock (.slice x p q) = abk x := fun x p q => by cases x <;> rfl
  rcases hrow with ⟨rfl, rfl, rfl⟩ | ⟨h0, h⟩
  · cases a with
    | none =>
      obtain ⟨v', w', hr, ho, hg, hn, hb⟩ := run_append_own_at (P := P) w 0 t ty e i z sz bytes ht hi hz hsize hby hzs hsz _ 0 [] (World.ownsRow_nil w 0 e sz) src m c news hl hnews h1 h63 hbytes (Nat.zero_le _)
      obtain ⟨a', cap', rfl, hc0, hx⟩ := key v' w' ho
      refine ⟨a', cap', w', hr, hc0, hx, hg, ?_⟩
      rw [hob] at hb
      rcases hb with hb | hb
      · obtain ⟨g, _, rfl, _⟩ := rw_open hx hc0
        cases hb
      · exact .inr ⟨_, hb, Nat.le_refl _⟩
    | some b =>
      obtain ⟨v', w', hr, ho, hg⟩ := run_append_arg_grows (P := P) w t ty e i z sz bytes ht hi hz hsize hby hzs hsz b 0 0 [] (by simp) (fun j u h => by simp at h) src m c news hl hnews (by omega) h63 hbytes
      obtain ⟨a', cap', rfl, hc0, hx⟩ := key v' w' (owns_base ho (Nat.zero_le _))
      refine ⟨a', cap', w', hr, hc0, hx, hg, .inr ?_⟩
      rcases ho.2 with ⟨q, q2⟩ | ⟨g, c2, cur, q, hb, hgk, hn, _⟩
      · omega
      · cases q
        exact ⟨g, rfl, hb⟩
  · obtain ⟨v', w', hr, ho, hg, hn, hb⟩ := run_append_own_at (P := P) w 0 t ty e i z sz bytes ht hi hz hsize hby hzs hsz _ n xs h src m c news hl hnews h1 h63 hbytes (Nat.zero_le _)
    obtain ⟨a', cap', rfl, hc0, hx⟩ := key v' w' ho
    rw [hob] at hg
    rw [hob, hob] at hb
    refine ⟨a', cap', w', hr, hc0, hx, by rw [if_neg h0]; exact hg, hb.elim (fun q => .inl ⟨h0, q⟩) (fun q => .inr ⟨_, q, Nat.le_refl _⟩)⟩
end
def HX.cl (a : Option Addr) (xs : List Value) : HX := ⟨fun k => xs ≠ [] ∧ k = Go.Syn.blk a, fun w => Cells w a xs, fun w w' h e h0 => by
  obtain ⟨ha, hb, hc⟩ := h h0
  have e2 := e (Go.Syn.blk a) ⟨fun q => by rw [q] at h0; simp at h0, rfl⟩
  refine ⟨ha, ?_, fun i u hi => by rw [World.cell?_of_block (w := w) e2]; exact hc i u hi⟩
  rcases Nat.lt_or_ge (Go.Syn.blk a) w'.heap.size with q | q
  · exact q
  · rw [Array.getElem?_eq_none q, Array.getElem?_eq_getElem hb] at e2; cases e2⟩
theorem cl_sep {w : World} {a : Option Addr} {xs : List Value} (h : Cells w a xs) : ∀ k, (HX.cl a xs).F k → k < w.heap.size := by
  rintro k ⟨h1, rfl⟩
  exact (h (List.length_pos_iff.2 h1)).2.1
section
variable {C : Cfg} {ρ : Env} {pre : List Nat} {hx hx' rest : HX} {L : Stack} {m m' : Mem} {ty : Nat} {ps : List (Nat × SV)} {t : Tree} {ids : List Nat} {w w' : World} {vs : Vals}
theorem Facts.act {F : Nat → Prop} {n bty : Nat} {cs cs' : List LV} (hf : Facts C m ρ ids hx w) (hg : Chg F w w') (hF0 : ∀ b, F b → b = idAt ids n ∨ (hx.F b ∧ (C.W.heap.size ≤ b ∨ C.M b))) (hn : m.hp[n]? = some (bty, cs))
    (hb : w'.heap[idAt ids n]? = some (.cells (cellsDen (ρ.add vs) ids cs').toArray bty (0, 0))) (hX : hx'.X w') (hF : ∀ b, hx'.F b → hx.F b ∨ (w.heap.size ≤ b ∧ b < w'.heap.size))
    (hhp : m'.hp = m.hp.set n (bty, cs')) (hfit : hpFits m.c m.hp.length m.hp = true) (hc : (ρ.add vs).cnt = m'.c) (h1 : ∀ v, v ∈ vs.v → v.oneCell' = true) : Facts C m' (ρ.add vs) ids hx' w' := by
  have hlt : n < m.hp.length := by
    rcases Nat.lt_or_ge n m.hp.length with q | q
    · exact q
    · rw [List.getElem?_eq_none q] at hn; cases hn
  have hmem := idAt_mem (ids := ids) (n := n) (hf.len ▸ hlt)
  refine ⟨by rw [hf.len, hhp]; simp, hf.nod, fun k t2 cs2 hk => ?_, hf.own, ?_, hX, ?_, envUp' hf hc h1⟩
  · rw [hhp, List.getElem?_set] at hk
    split at hk
    · rename_i e
      subst e
      simp only [hlt, if_true, Option.some.injEq, Prod.mk.injEq] at hk
      obtain ⟨rfl, rfl⟩ := hk
      exact hb
    · rename_i e
      have hk2 : k < m.hp.length := by
        rcases Nat.lt_or_ge k m.hp.length with q | q
        · exact q
        · rw [List.getElem?_eq_none q] at hk; cases hk
      have hmk := idAt_mem (ids := ids) (n := k) (hf.len ▸ hk2)
      have hne : ¬ F (idAt ids k) := fun q => by
        rcases hF0 _ q with q | q
        · exact e (idAt_inj hf.nod (hf.len ▸ hlt) (hf.len ▸ hk2) q.symm)
        · exact (hf.sep _ q.1).2 hmk
      rw [hg.block _ (hf.id_lt hmk) hne, hf.blk k t2 cs2 hk, cellsDen_add hf.cnt.cnt (List.prefix_refl _) hf.len (List.all_eq_true.1 hfit _ (List.mem_of_getElem? hk))]
  · refine ⟨hg.os.trans hf.chg.os, hg.tape.trans hf.chg.tape, hg.output.trans hf.chg.output, Nat.le_trans hf.chg.size hg.size, fun k hk hM => ?_⟩
    rw [hg.block k (Nat.lt_of_lt_of_le hk hf.chg.size) (fun q => ?_)]
    · exact hf.chg.block k hk hM
    · rcases hF0 _ q with q | ⟨_, q⟩
      · subst q
        rcases hf.own _ hmem with q | q
        · omega
        · exact hM q
      · rcases q with q | q
        · omega
        · exact hM q
  · intro b hb2
    rcases hF b hb2 with h | ⟨h2, h3⟩
    · exact ⟨Nat.lt_of_lt_of_le (hf.sep b h).1 hg.size, (hf.sep b h).2⟩
    · exact ⟨h3, fun hm => by have := hf.id_lt hm; omega⟩
theorem node_pushs {st e : TypeId} {so xo : Operand} {ac : Go.Call} {r : SV} {z : Value} {sz bytes : Nat} (hac : ac = { callee := .builtin .append, args := #[so, xo], argTypes := #[st, st] }) (ht : C.P.underlying st = some (.slice e)) (hinfo : (C.P.info? e).map (fun i => (i.zero, i.size, i.bytes)) = some (some z, sz, bytes)) (hz : z.cells.size = sz) (hsz : 0 < sz)
    (a : Option Addr) (n cap : Nat) (xs vs : List Value) (bn : Nat) {e2 : Nat} {lvs : List LV} (hso : ∀ ids, envOf ρ ids ps so = .slice a n cap) (hxo : ∀ ids, envOf ρ ids ps xo = .slice (some ⟨idAt ids bn, 0, none⟩) 1 1) (hn : m.hp[bn]? = some (e2, lvs)) (hlv : ∀ ids, cellsDen ρ ids lvs = vs) (hvl : vs.length = sz) (hv : ∀ v ∈ vs, v.oneCell' = true)
    (hdis : ∀ k, cap ≠ 0 → abk a = some k → ¬ rest.F k) (hM : ∀ k, cap ≠ 0 → abk a = some k → C.W.heap.size ≤ k ∨ C.M k) (h63 : n + 1 ≤ maxLen) (hbytes : (n + 1) * bytes ≤ 140737488355328)
    (hr : ∀ a' cap' ids, r.den (ρ.add ⟨[], [], [], [n + 1, cap'], [a']⟩) ids = .slice a' (n + 1) cap') (hhp : m'.hp = m.hp) (hfit : hpFits m.c m.hp.length m.hp = true) (hc : ∀ a' cap', (ρ.add ⟨[], [], [], [n + 1, cap'], [a']⟩).cnt = m'.c)
    (h : ∀ a' cap', cap' ≠ 0 → (∀ k, abk a' = some k → ¬ rest.F k) → ((cap ≠ 0 ∧ abk a' = abk a) ∨ ∃ g, abk a' = some g ∧ C.W.heap.size ≤ g ∧ ¬ (rest.and (HX.rw sz e a n cap xs)).F g) → t.holds C (ρ.add ⟨[], [], [], [n + 1, cap'], [a']⟩) pre (rest.and (HX.rw sz e a' (n + 1) cap' (xs ++ vs))) L) :
    (Tree.gen (.call ac) ty ps m (some r) m' t).holds C ρ pre (rest.and (HX.rw sz e a n cap xs)) L := by
  intro ids w hp hf
  subst hac
  unfold GenRun
  obtain ⟨i0, hi, hz0, hz1, hz2⟩ := info_parts hinfo
  have hrow0 : (HX.rw sz e a n cap xs).X w := hf.x.2
  have hblk0 := hf.blk bn e2 lvs hn
  rw [hlv] at hblk0
  have hnews : ∀ j u, vs[j]? = some u → w.cell? ((⟨idAt ids bn, 0, none⟩ : Addr).add j) = some u := fun j u hj => by
    have := cells_blk (o := 0) hblk0 j
    rw [Go.WideShapes.add_plain, this, Nat.zero_add]
    exact hj
  obtain ⟨a', cap', w', hrun, hc0, hrow, hg, hblk⟩ := run_rw (P := C.P) w st ty e i0 z sz bytes ht hi hz0 hz1 hz2 hz hsz a n cap xs hrow0 ⟨idAt ids bn, 0, none⟩ 1 1 vs (by decide) (by omega) hnews hv h63 hbytes
  have hlt : ∀ k, abk a' = some k → k < w'.heap.size := fun k hk => by
    obtain ⟨g, _, rfl, q, _⟩ := rw_open hrow hc0
    cases hk; exact q
  have hrow1 : ∀ b, (if cap = 0 then none else abk a) = some b → cap ≠ 0 ∧ abk a = some b := fun b hb => by
    by_cases q : cap = 0
    · rw [if_pos q] at hb; cases hb
    · rw [if_neg q] at hb; exact ⟨q, hb⟩
  have hdis' : ∀ k, abk a' = some k → ¬ rest.F k := fun k hk hF => by
    rcases hblk with ⟨q, q1⟩ | ⟨g, q1, q2⟩
    · exact hdis k q (by rw [← q1]; exact hk) hF
    · rw [q1] at hk; cases hk
      have := (hf.sep _ (.inl hF)).1; omega
  simp only [execOp, resolve, invoke, builtin, hso, hxo, Sem.run_bind, Sem.run_pure, Result.andThen_ok, List.map_toArray, List.map_cons, List.map_nil, hrun]
  refine ⟨⟨[], [], [], [n + 1, cap'], [a']⟩, ids, rest.and (HX.rw sz e a' (n + 1) cap' (xs ++ vs)), ?_, List.prefix_refl _, hf.turn (hx' := rest.and (HX.rw sz e a' (n + 1) cap' (xs ++ vs))) hg (fun b e => ?_) ⟨?_, hrow⟩ (fun k hk => ?_) hhp hfit (hc _ _) oneNil, holds_pre t hp (h a' cap' hc0 hdis' (hblk.imp_right fun ⟨g, q1, q2⟩ => ⟨g, q1, Nat.le_trans hf.chg.size q2, fun q => by have := (hf.sep _ q).1; omega⟩))⟩
  · simp only [Option.map_some, hr]
  · exact ⟨.inr (hrow1 b e), hM b (hrow1 b e).1 (hrow1 b e).2⟩
  · refine rest.loc w w' hf.x.1 fun k hk => hg.block k (hf.sep k (.inl hk)).1 fun q => ?_
    obtain ⟨q1, q2⟩ := hrow1 k q.symm
    exact hdis k q1 q2 hk
  · rcases hk with hk | hk
    · exact .inl (.inl hk)
    · rcases hblk with ⟨q, q1⟩ | ⟨g, q1, q2⟩
      · exact .inl (.inr ⟨q, by rw [← q1]; exact hk.2⟩)
      · have h3 := hlt k hk.2
        rw [hk.2] at q1; cases q1
        exact .inr ⟨q2, h3⟩
theorem node_gpure {op : Op} {r : SV} {V : Value} (vs : Vals) (hrun : ∀ ids w, pre <+: ids → Facts C m ρ ids hx w → (execOp (envOf ρ ids ps) ⟨none, op, ty, "", #[], none⟩).run C.P w = .ok (.value V) w) (hr : ∀ ids, r.den (ρ.add vs) ids = V) (hhp : m'.hp = m.hp) (hfit : hpFits m.c m.hp.length m.hp = true) (hc : (ρ.add vs).cnt = m'.c) (h1 : ∀ v, v ∈ vs.v → v.oneCell' = true)
    (h : t.holds C (ρ.add vs) pre hx L) : (Tree.gen op ty ps m (some r) m' t).holds C ρ pre hx L := by
  intro ids w hp hf
  unfold GenRun
  rw [hrun ids w hp hf]
  exact ⟨vs, ids, hx, by rw [Option.map_some, hr], List.prefix_refl _, hf.turn (grown_none w) (fun b hb => by cases hb) hf.x (fun k hk => .inl hk) hhp hfit hc h1, holds_pre t hp h⟩
theorem node_ld {l : LV} {cs : List LV} (vs : Vals) (hcell : ∀ ids w, pre <+: ids → Facts C m ρ ids hx w → CellsAt w (l.den ρ ids) (cellsDen (ρ.add vs) ids cs) (fun _ => False)) (hc : ∀ ids w, Facts C m ρ ids hx w → EnvOk (ρ.add vs) m'.c) (h : t.holds C (ρ.add vs) pre hx L) :
    (Tree.ld true l cs m m' t).holds C ρ pre hx L := fun ids w hp hf => ⟨vs, hcell ids w hp hf, hc ids w hf, holds_pre t hp h⟩
end
end Go.Eng

namespace Go.Eng
open Go.RowKit Go.Syn Go.MapKept
set_option linter.unusedVariables false
set_option linter.unusedSimpArgs false
theorem take_spl {cur vs : List Value} {o k : Nat} (h : o + vs.length ≤ k) (hk : k ≤ cur.length) : (spl cur o vs).take k = spl (cur.take k) o vs := by
  unfold spl
  have a1 : min o cur.length = o := by omega
  rw [List.take_append, List.take_append, List.take_take, List.drop_take]
  simp only [List.length_append, List.length_take, a1]
  rw [show min k o = o by omega, List.take_take, show min o k = o by omega, List.take_of_length_le (show vs.length ≤ k - o by omega)]
section
variable {C : Cfg} {ρ : Env} {pre : List Nat} {hx hx' rest : HX} {L : Stack} {m m' : Mem} {ty : Nat} {ps : List (Nat × SV)} {t : Tree} {ids : List Nat} {w w' : World} {vs : Vals}
theorem node_stores {et e sz : Nat} {xa xv : Operand} (a : Option Addr) (n cap : Nat) (xs us : List Value) (i off : Nat) (v : Value) (hsize : (C.P.info? et).map (·.size) = some us.length) (hxa : ∀ ids, envOf ρ ids ps xa = .pointer (some (((a.getD ⟨0, 0, none⟩).add (i * sz)).add off))) (hxv : ∀ ids, envOf ρ ids ps xv = v) (hv : v.cells = us.toArray) (h1 : ∀ u ∈ us, u.oneCell' = true)
    (hio : i * sz + off + us.length ≤ n * sz) (h0 : 0 < us.length) (hdis : ∀ k, cap ≠ 0 → abk a = some k → ¬ rest.F k) (hM : ∀ k, cap ≠ 0 → abk a = some k → C.W.heap.size ≤ k ∨ C.M k) (hhp : m'.hp = m.hp) (hfit : hpFits m.c m.hp.length m.hp = true) (hc : ρ.cnt = m'.c)
    (h : t.holds C ρ pre (rest.and (HX.rw sz e a n cap (spl xs (i * sz + off) us))) L) : (Tree.gen (.store et xa xv) ty ps m none m' t).holds C ρ pre (rest.and (HX.rw sz e a n cap xs)) L := by
  intro ids w hp hf
  unfold GenRun
  have hrow : (HX.rw sz e a n cap xs).X w := hf.x.2
  have hle := rw_le hrow
  have hn : n ≠ 0 := fun q => by rw [q] at hio; omega
  have hc0 : cap ≠ 0 := by omega
  obtain ⟨g, cur, rfl, hlt, hg, hnc, hcm, hcl, htk⟩ := rw_open hrow hc0
  have hmul : n * sz ≤ cap * sz := Nat.mul_le_mul_right _ hnc
  obtain ⟨w', hrun, hg', hgr⟩ := run_store_blk (P := C.P) (o := i * sz + off) (vs := us) hg (by omega) h1
  have hadr : (((some (⟨g, 0, none⟩ : Addr)).getD ⟨0, 0, none⟩).add (i * sz)).add off = ⟨g, i * sz + off, none⟩ := by
    rw [Option.getD_some, Go.WideShapes.add_plain, Go.WideShapes.add_plain, Nat.zero_add]
  rw [hadr] at hxa
  obtain ⟨i0, hi, hi2⟩ := Option.map_eq_some_iff.1 hsize
  have hrun2 : (Instr.storeAt et (.pointer (some ⟨g, i * sz + off, none⟩)) v).run C.P w = .ok () w' := by
    simp [Instr.storeAt, Instr.sureAddr, storeVar, sizeOf, typeInfo, hi, hi2, hv, hrun]
  have hcl2 : (spl cur (i * sz + off) us).length = cap * sz := by rw [spl_len (by omega)]; exact hcl
  have hX : (HX.rw sz e (some ⟨g, 0, none⟩) n cap (spl xs (i * sz + off) us)).X w' := by
    have := rw_shut hc0 hg' hnc hcm hcl2
    rwa [take_spl (by omega) (by omega), htk] at this
  simp only [execOp, hxa, hxv, Sem.run_bind, Sem.run_pure, Result.andThen_ok, hrun2]
  refine ⟨Vals.nil, ids, rest.and (HX.rw sz e (some ⟨g, 0, none⟩) n cap (spl xs (i * sz + off) us)), rfl, List.prefix_refl _, hf.turn hgr (fun b hb => by cases hb; exact ⟨.inr ⟨hc0, rfl⟩, hM _ hc0 rfl⟩) ⟨rest.loc w w' hf.x.1 fun k hk => hgr.block k (hf.sep k (.inl hk)).1 (fun q => hdis g hc0 rfl (by cases q; exact hk)), hX⟩ (fun k hk => .inl hk) hhp hfit (by rw [Env.add_nil]; exact hc) oneNil, ?_⟩
  rw [Env.add_nil]; exact holds_pre t hp h
end
theorem cl_elt {w : World} {a : Option Addr} {xs : List Value} (h : Cells w a xs) {i sz : Nat} (us : List Value) (hu : ∀ j u, us[j]? = some u → xs[i * sz + j]? = some u) (h0 : us ≠ []) :
    a.isSome = true ∧ ∀ (N : Nat → Prop), ¬ N ((a.getD ⟨0, 0, none⟩).block) → CellsAt w (.pointer (some (((a.getD ⟨0, 0, none⟩).add (i * sz)).add 0))) us N := by
  obtain ⟨u0, hu0⟩ : ∃ u, us[0]? = some u := ⟨_, List.getElem?_eq_getElem (List.length_pos_iff.2 h0)⟩
  have hx0 := hu 0 u0 hu0
  have hpos : 0 < xs.length := by
    rcases Nat.lt_or_ge (i * sz + 0) xs.length with q | q
    · omega
    · rw [List.getElem?_eq_none q] at hx0; cases hx0
  obtain ⟨ha, hb, hc⟩ := h hpos
  cases a with
  | none => simp [PlainA] at ha
  | some ad =>
    have e : ad = ⟨blk (some ad), ofs (some ad), none⟩ := Option.some.inj ha
    refine ⟨rfl, fun N hN => ⟨_, rfl, ?_, fun j u hj => ?_⟩⟩
    · show ¬ N ((ad.add (i * sz)).add 0).block
      rw [e, Go.WideShapes.add_plain, Go.WideShapes.add_plain]
      rw [e] at hN; exact hN
    · show w.cell? (((ad.add (i * sz)).add 0).add j) = some u
      have h2 := hc (i * sz + j) u (hu j u hj)
      have e2 : ((ad.add (i * sz)).add 0).add j = ⟨blk (some ad), ofs (some ad) + (i * sz + j), none⟩ := by
        rw [e, Go.WideShapes.add_plain, Go.WideShapes.add_plain, Go.WideShapes.add_plain]
        show (⟨_, _, _⟩ : Addr) = ⟨_, _, _⟩
        congr 1
        show ofs (some ad) + i * sz + 0 + j = ofs (some ad) + (i * sz + j)
        omega
      rw [e2]; exact h2
end Go.Eng

namespace Go.Eng
open Go.RowKit Go.Syn Go.MapKept
set_option linter.unusedVariables false
set_option linter.unusedSimpArgs false
section
variable {C : Cfg} {ρ : Env} {pre : List Nat} {hx : HX} {L : Stack} {m m' : Mem} {ty : Nat} {ps : List (Nat × SV)} {t : Tree}
theorem node_clones {st e : TypeId} {so xo : Operand} {ac : Go.Call} {r : SV} {z : Value} {sz bytes e2 : Nat} (hac : ac = { callee := .builtin .append, args := #[so, xo], argTypes := #[st, st] }) (ht : C.P.underlying st = some (.slice e)) (hinfo : (C.P.info? e).map (fun i => (i.zero, i.size, i.bytes)) = some (some z, sz, bytes)) (hz : z.cells.size = sz) (hsz : 0 < sz)
    (bn : Nat) (hn : m.hp[bn]? = some (e2, [])) (sa : List Nat → Option Addr) (n cap : Nat) (xs : List Value) (hlen : xs.length = n * sz) (hx_ : ∀ ids w, pre <+: ids → Facts C m ρ ids hx w → Cells w (sa ids) xs) (h1 : ∀ u ∈ xs, u.oneCell' = true) (hl : n ≤ maxLen) (hb : n * bytes ≤ 140737488355328)
    (hso : ∀ ids, envOf ρ ids ps so = .slice (some ⟨idAt ids bn, 0, none⟩) 0 0) (hxo : ∀ ids, envOf ρ ids ps xo = .slice (sa ids) n cap)
    (hr : ∀ a' cap' ids, r.den (ρ.add ⟨[], [], [], [n, cap'], [a']⟩) ids = .slice a' n cap') (hhp : m'.hp = m.hp) (hfit : hpFits m.c m.hp.length m.hp = true) (hc : ∀ a' cap', (ρ.add ⟨[], [], [], [n, cap'], [a']⟩).cnt = m'.c)
    (h : ∀ a' cap', (∀ k, cap' ≠ 0 → abk a' = some k → C.W.heap.size ≤ k ∧ ¬ hx.F k) → t.holds C (ρ.add ⟨[], [], [], [n, cap'], [a']⟩) pre (hx.and (HX.rw sz e a' n cap' xs)) L) :
    (Tree.gen (.call ac) ty ps m (some r) m' t).holds C ρ pre hx L := by
  intro ids w hp hf
  subst hac
  unfold GenRun
  obtain ⟨i0, hi, hz0, hz1, hz2⟩ := info_parts hinfo
  have hcs := hx_ ids w hp hf
  rcases Nat.eq_zero_or_pos n with h0 | h0
  · subst h0
    have hxe : xs = [] := List.eq_nil_of_length_eq_zero (by rw [hlen]; simp)
    have hrun : (Builtin.append_ #[st, st] ty #[.slice (some ⟨idAt ids bn, 0, none⟩) 0 0, .slice (sa ids) 0 cap]).run C.P w = .ok (.slice (some ⟨idAt ids bn, 0, none⟩) 0 0) w := by
      cases sa ids <;> simp [Builtin.append_, run_underlying ht, sizeOf, typeInfo, hi, Builtin.lenOf, Builtin.firstCells, storeCells, loadCells, loadCellsFrom]
    simp only [execOp, resolve, invoke, builtin, hso, hxo, Sem.run_bind, Sem.run_pure, Result.andThen_ok, List.map_toArray, List.map_cons, List.map_nil, hrun]
    refine ⟨⟨[], [], [], [0, 0], [some ⟨idAt ids bn, 0, none⟩]⟩, ids, hx.and (HX.rw sz e (some ⟨idAt ids bn, 0, none⟩) 0 0 xs), ?_, List.prefix_refl _, hf.turn (hx' := hx.and (HX.rw sz e (some ⟨idAt ids bn, 0, none⟩) 0 0 xs)) (grown_none w) (fun b e => by cases e) ⟨hf.x, .inl ⟨rfl, rfl, hxe⟩⟩ (fun k hk => ?_) hhp hfit (hc _ _) oneNil, holds_pre t hp (h _ 0 (fun k q _ => absurd rfl q))⟩
    · simp only [Option.map_some, hr]
    · rcases hk with hk | hk
      · exact .inl hk
      · exact absurd rfl hk.1
  · have hpos : 0 < xs.length := by rw [hlen]; exact Nat.mul_pos h0 hsz
    obtain ⟨ha, hab, hcc⟩ := hcs hpos
    obtain ⟨ad, had⟩ : ∃ ad, sa ids = some ad := by
      cases hs : sa ids with
      | none => rw [hs] at ha; simp [PlainA] at ha
      | some ad => exact ⟨ad, rfl⟩
    rw [had] at ha hcc
    have hnews : ∀ j u, xs[j]? = some u → w.cell? (ad.add j) = some u := fun j u hj => by
      have e : ad = ⟨blk (some ad), ofs (some ad), none⟩ := Option.some.inj ha
      rw [e, Go.WideShapes.add_plain]; exact hcc j u hj
    obtain ⟨a', cap', w', hrun, hc0, hrow, hg, hblk⟩ := run_rw (P := C.P) w st ty e i0 z sz bytes ht hi hz0 hz1 hz2 hz hsz (some ⟨idAt ids bn, 0, none⟩) 0 0 [] (HX.rw_nil _ _ _ w) ad n cap xs h0 hlen hnews h1 (by omega) (by rw [Nat.zero_add]; exact hb)
    simp only [Nat.zero_add, List.nil_append] at hrun hrow
    have hnew : ∀ k, abk a' = some k → w.heap.size ≤ k := fun k hk => by
      rcases hblk with ⟨q, _⟩ | ⟨g, q1, q2⟩
      · exact absurd rfl q
      · rw [q1] at hk; cases hk; exact q2
    have hlt : ∀ k, abk a' = some k → k < w'.heap.size := fun k hk => by
      obtain ⟨g, _, rfl, q, _⟩ := rw_open hrow hc0
      cases hk; exact q
    simp only [execOp, resolve, invoke, builtin, hso, hxo, had, Sem.run_bind, Sem.run_pure, Result.andThen_ok, List.map_toArray, List.map_cons, List.map_nil, hrun]
    refine ⟨⟨[], [], [], [n, cap'], [a']⟩, ids, hx.and (HX.rw sz e a' n cap' xs), ?_, List.prefix_refl _, hf.turn (hx' := hx.and (HX.rw sz e a' n cap' xs)) hg (fun b e => by cases e) ⟨hx.loc w w' hf.x fun k hk => hg.block k (hf.sep k hk).1 (fun q => by cases q), hrow⟩ (fun k hk => ?_) hhp hfit (hc _ _) oneNil, holds_pre t hp (h a' cap' (fun k _ hk => ⟨Nat.le_trans hf.chg.size (hnew k hk), fun hF => by have h3 := hnew k hk; have h4 := (hf.sep _ hF).1; omega⟩))⟩
    · simp only [Option.map_some, hr]
    · rcases hk with hk | hk
      · exact .inl hk
      · exact .inr ⟨hnew k hk.2, hlt k hk.2⟩
end
theorem rw_cl {sz e n cap : Nat} {a : Option Addr} {xs : List Value} {w : World} (h : (HX.rw sz e a n cap xs).X w) : (HX.cl a xs).X w ∧ ∀ k, (HX.cl a xs).F k → (HX.rw sz e a n cap xs).F k := by
  refine ⟨rw_cells h, ?_⟩
  rintro k ⟨h1, rfl⟩
  have hc : cap ≠ 0 := by
    rcases h with ⟨_, _, q⟩ | ⟨q, _⟩
    · exact absurd q h1
    · exact q
  obtain ⟨g, _, rfl, _⟩ := rw_open h hc
  exact ⟨hc, rfl⟩
theorem cl_part {w : World} {a : Option Addr} {xs : List Value} (h : Cells w a xs) {i sz off : Nat} (us : List Value) (hu : ∀ j u, us[j]? = some u → xs[i * sz + off + j]? = some u) (h0 : us ≠ []) :
    a.isSome = true ∧ ∀ (N : Nat → Prop), ¬ N ((a.getD ⟨0, 0, none⟩).block) → CellsAt w (.pointer (some (((a.getD ⟨0, 0, none⟩).add (i * sz)).add off))) us N := by
  obtain ⟨u0, hu0⟩ : ∃ u, us[0]? = some u := ⟨_, List.getElem?_eq_getElem (List.length_pos_iff.2 h0)⟩
  have hx0 := hu 0 u0 hu0
  have hpos : 0 < xs.length := by
    rcases Nat.lt_or_ge (i * sz + off + 0) xs.length with q | q
    · omega
    · rw [List.getElem?_eq_none q] at hx0; cases hx0
  obtain ⟨ha, hb, hc⟩ := h hpos
  cases a with
  | none => simp [PlainA] at ha
  | some ad =>
    have e : ad = ⟨blk (some ad), ofs (some ad), none⟩ := Option.some.inj ha
    have e1 : (ad.add (i * sz)).add off = ⟨blk (some ad), ofs (some ad) + i * sz + off, none⟩ := by
      rw [e, Go.WideShapes.add_plain, Go.WideShapes.add_plain]; rfl
    refine ⟨rfl, fun N hN => ⟨_, rfl, ?_, fun j u hj => ?_⟩⟩
    · show ¬ N ((ad.add (i * sz)).add off).block
      rw [e1]
      rw [e] at hN; exact hN
    · show w.cell? (((ad.add (i * sz)).add off).add j) = some u
      have h2 := hc (i * sz + off + j) u (hu j u hj)
      rw [e1, Go.WideShapes.add_plain, show ofs (some ad) + i * sz + off + j = ofs (some ad) + (i * sz + off + j) by omega]
      exact h2
end Go.Eng
