/- Rows that may begin in the middle of their block ('q = q[1:]'); pieces apart; calls that write a known block and pieces. No program in sight. -/
import Derived.Test.YtadgaefmoobcoaaEng35
namespace Go.Eng
open Go.RowKit Go.Syn Go.MapKept
set_option linter.unusedVariables false
set_option linter.unusedSimpArgs false
/-- What is left of a row of one's own. -/
structure Tw (w : World) (sz e : Nat) (a : Option Addr) (n cap : Nat) (xs : List Value) : Prop where
  len : xs.length = n * sz
  le : n ≤ cap
  ex : cap ≠ 0 → ∃ (g off : Nat) (cur : List Value), a = some ⟨g, off * sz, none⟩ ∧ w.heap[g]? = some (.cells cur.toArray e (0, 0)) ∧ cap ≤ maxLen ∧ cur.length = (off + cap) * sz ∧ (cur.drop (off * sz)).take (n * sz) = xs
def HX.tw (sz e : Nat) (a : Option Addr) (n cap : Nat) (xs : List Value) : HX := ⟨fun k => cap ≠ 0 ∧ abk a = some k, fun w => Tw w sz e a n cap xs, fun w w' h eq => ⟨h.len, h.le, fun hc => by
  obtain ⟨g, off, cur, rfl, h2, h3⟩ := h.ex hc
  exact ⟨g, off, cur, rfl, (eq g ⟨hc, rfl⟩).trans h2, h3⟩⟩⟩
theorem HX.tw_nil (sz e : Nat) (a : Option Addr) (w : World) : (HX.tw sz e a 0 0 []).X w := ⟨by simp, Nat.le_refl _, fun h => absurd rfl h⟩
theorem rw_tw {sz e n cap : Nat} {a : Option Addr} {xs : List Value} {w : World} (h : (HX.rw sz e a n cap xs).X w) : (HX.tw sz e a n cap xs).X w := ⟨rw_len h, (rw_le h).1, fun hc => by
  obtain ⟨g, cur, rfl, _, h2, h3, h4, h5, h6⟩ := rw_open h hc
  exact ⟨g, 0, cur, by rw [Nat.zero_mul], h2, h4, by rw [Nat.zero_add]; exact h5, by rw [Nat.zero_mul, List.drop_zero]; exact h6⟩⟩
theorem tw_lt {sz e n cap : Nat} {a : Option Addr} {xs : List Value} {w : World} (h : (HX.tw sz e a n cap xs).X w) : ∀ k, (HX.tw sz e a n cap xs).F k → k < w.heap.size := fun k hk => by
  obtain ⟨g, off, cur, rfl, h2, _⟩ := h.ex hk.1
  have : g = k := Option.some.inj hk.2
  subst this
  rcases Nat.lt_or_ge g w.heap.size with q | q
  · exact q
  · rw [Array.getElem?_eq_none q] at h2; cases h2
theorem tw_cell {sz e n cap g off : Nat} {cur xs : List Value} {w : World} (h2 : w.heap[g]? = some (.cells cur.toArray e (0, 0))) (h5 : (cur.drop (off * sz)).take (n * sz) = xs) {j : Nat} {u : Value} (hj : xs[j]? = some u) : w.cell? ⟨g, off * sz + j, none⟩ = some u := by
  rw [cells_blk h2]
  rw [← h5, List.getElem?_take] at hj
  split at hj
  · rw [List.getElem?_drop] at hj; exact hj
  · cases hj
theorem tw_cells {sz e n cap : Nat} {a : Option Addr} {xs : List Value} {w : World} (h : (HX.tw sz e a n cap xs).X w) : Cells w a xs := fun h0 => by
  have hl := h.len
  have hc : cap ≠ 0 := fun q => by
    have := h.le
    rw [show n = 0 by omega] at hl; simp at hl; rw [hl] at h0; simp at h0
  obtain ⟨g, off, cur, rfl, h2, h3, h4, h5⟩ := h.ex hc
  exact ⟨rfl, tw_lt h g ⟨hc, rfl⟩, fun i u hi => tw_cell (n := n) (cap := cap) h2 h5 hi⟩
section
variable {P : Program}
/-- An element behind what is left of a row. -/
theorem run_tw (w : World) (t ty e : TypeId) (i : TypeInfo) (z : Value) (sz bytes : Nat) (ht : P.underlying t = some (.slice e)) (hi : P.info? e = some i) (hz : i.zero = some z) (hsize : i.size = sz) (hby : i.bytes = bytes) (hzs : z.cells.size = sz) (hsz : 0 < sz)
    (a : Option Addr) (n cap : Nat) (xs : List Value) (hrow : (HX.tw sz e a n cap xs).X w) (src : Addr) (m c : Nat) (news : List Value) (hm : 0 < m) (hl : news.length = m * sz) (hnews : ∀ j u, news[j]? = some u → w.cell? (src.add j) = some u) (h1 : ∀ u ∈ news, u.oneCell' = true)
    (h63 : n + m ≤ maxLen) (hbytes : (n + m) * bytes ≤ 140737488355328) :
    ∃ a' cap' w', (Builtin.append_ #[t, t] ty #[.slice a n cap, .slice (some src) m c]).run P w = .ok (.slice a' (n + m) cap') w' ∧ cap' ≠ 0 ∧ (HX.tw sz e a' (n + m) cap' (xs ++ news)).X w' ∧
      w.grownBy w' (if cap = 0 then none else abk a) ∧ ((cap ≠ 0 ∧ abk a' = abk a) ∨ ∃ g, abk a' = some g ∧ w.heap.size ≤ g) := by
  by_cases hc : cap = 0
  · subst hc
    have hn := hrow.le
    have hlen := hrow.len
    obtain rfl : n = 0 := by omega
    obtain rfl : xs = [] := by simpa using hlen
    obtain ⟨a', cap', w', h2, h3, h4, h5, h6⟩ := run_rw (P := P) w t ty e i z sz bytes ht hi hz hsize hby hzs hsz a 0 0 [] (HX.rw_nil _ _ _ _) src m c news hm hl hnews h1 h63 hbytes
    exact ⟨a', cap', w', h2, h3, rw_tw h4, h5, h6⟩
  · obtain ⟨g, off, cur, rfl, h2, h3, h4, h5⟩ := hrow.ex hc
    have hle := hrow.le
    have hlen := hrow.len
    have hmul : ∀ {x y : Nat}, x ≤ y → x * sz ≤ y * sz := fun h => Nat.mul_le_mul_right _ h
    rw [if_neg hc]
    by_cases hroom : n + m ≤ cap
    · have hr := run_append_room_cells (P := P) w t ty e i ht hi g (off * sz) n cap src m c news (by rw [hsize]; exact hl) hnews h1 hroom
      have e1 : off * sz + n * sz + news.length ≤ cur.length := by
        rw [h4, hl, ← Nat.add_mul, ← Nat.add_mul]
        exact hmul (by omega)
      rw [hsize] at hr
      have hr := hr (fun j hj => by rw [cells_blk h2, List.getElem?_eq_getElem (by omega)]; rfl) (fun j hj => frozen_of_row w g _ cur.toArray e h2)
      obtain ⟨g1, g2⟩ := setCells_blk news (off * sz + n * sz) cur w h2 e1
      refine ⟨_, _, _, hr, hc, ⟨by rw [List.length_append, hlen, hl, Nat.add_mul], hroom, fun _ => ⟨g, off, _, rfl, g1, h3, by rw [spl_len e1]; exact h4, ?_⟩⟩, g2, .inl ⟨hc, rfl⟩⟩
      unfold spl
      have a1 : min (off * sz + n * sz) cur.length = off * sz + n * sz := by omega
      have hx : (cur.take (off * sz + n * sz)).drop (off * sz) = xs := by
        rw [List.drop_take, show off * sz + n * sz - off * sz = n * sz by omega]; exact h5
      rw [List.append_assoc, List.drop_append_of_le_length (by rw [List.length_take]; omega), hx, Nat.add_mul, ← hlen, ← hl, ← List.append_assoc, ← List.length_append]
      exact List.take_left
    · have hcells : ∀ j u, xs[j]? = some u → w.cell? ((⟨g, off * sz, none⟩ : Addr).add j) = some u := fun j u hj => by
        rw [Go.WideShapes.add_plain]
        exact tw_cell (n := n) (cap := cap) h2 h5 hj
      obtain ⟨v', w', hr, ho, hg⟩ := run_append_arg_grows (P := P) w t ty e i z sz bytes ht hi hz hsize hby hzs hsz ⟨g, off * sz, none⟩ n cap xs hlen hcells src m c news hl hnews (by omega) h63 hbytes
      rcases ho.2 with ⟨q, q2⟩ | ⟨g', c', cur', rfl, hb, hgk, hn, hcm, hsz', htk⟩
      · omega
      · have hc' : c' ≠ 0 := by omega
        refine ⟨some ⟨g', 0, none⟩, c', w', hr, hc', rw_tw ?_, ?_, .inr ⟨g', rfl, hb⟩⟩
        · have := rw_shut (sz := sz) (e := e) (n := n + m) (cap := c') (g := g') (cur := cur'.toList) (w := w') hc' (by simpa using hgk) hn hcm (by simpa using hsz')
          rwa [htk] at this
        · exact ⟨hg.os, hg.tape, hg.output, hg.size, fun k hk _ => hg.block k hk (fun q => by cases q)⟩
end
section
variable {C : Cfg} {ρ : Env} {pre : List Nat} {hx hx' rest : HX} {L : Stack} {m m' : Mem} {ty : Nat} {ps : List (Nat × SV)} {t : Tree} {ids : List Nat} {w w' : World} {args : List SV} {r : SV}
/-- 'xs = append(xs, v)' onto what is left of a row. -/
theorem node_pusht {st e : TypeId} {so xo : Operand} {ac : Go.Call} {z : Value} {sz bytes : Nat} (hac : ac = { callee := .builtin .append, args := #[so, xo], argTypes := #[st, st] }) (ht : C.P.underlying st = some (.slice e)) (hinfo : (C.P.info? e).map (fun i => (i.zero, i.size, i.bytes)) = some (some z, sz, bytes)) (hz : z.cells.size = sz) (hsz : 0 < sz)
    (a : Option Addr) (n cap : Nat) (xs vs : List Value) (bn : Nat) {e2 : Nat} {lvs : List LV} (hso : ∀ ids, envOf ρ ids ps so = .slice a n cap) (hxo : ∀ ids, envOf ρ ids ps xo = .slice (some ⟨idAt ids bn, 0, none⟩) 1 1) (hn : m.hp[bn]? = some (e2, lvs)) (hlv : ∀ ids, cellsDen ρ ids lvs = vs) (hvl : vs.length = sz) (hv : ∀ v ∈ vs, v.oneCell' = true)
    (hdis : ∀ k, cap ≠ 0 → abk a = some k → ¬ rest.F k) (hM : ∀ k, cap ≠ 0 → abk a = some k → C.W.heap.size ≤ k ∨ C.M k) (h63 : n + 1 ≤ maxLen) (hbytes : (n + 1) * bytes ≤ 140737488355328)
    (hr : ∀ a' cap' ids, r.den (ρ.add ⟨[], [], [], [n + 1, cap'], [a']⟩) ids = .slice a' (n + 1) cap') (hhp : m'.hp = m.hp) (hfit : hpFits m.c m.hp.length m.hp = true) (hc : ∀ a' cap', (ρ.add ⟨[], [], [], [n + 1, cap'], [a']⟩).cnt = m'.c)
    (h : ∀ a' cap', cap' ≠ 0 → (∀ k, abk a' = some k → ¬ rest.F k) → ((cap ≠ 0 ∧ abk a' = abk a) ∨ ∃ g, abk a' = some g ∧ C.W.heap.size ≤ g ∧ ¬ (rest.and (HX.tw sz e a n cap xs)).F g) → t.holds C (ρ.add ⟨[], [], [], [n + 1, cap'], [a']⟩) pre (rest.and (HX.tw sz e a' (n + 1) cap' (xs ++ vs))) L) :
    (Tree.gen (.call ac) ty ps m (some r) m' t).holds C ρ pre (rest.and (HX.tw sz e a n cap xs)) L := by
  intro ids w hp hf
  subst hac
  unfold GenRun
  obtain ⟨i0, hi, hz0, hz1, hz2⟩ := info_parts hinfo
  have hrow0 : (HX.tw sz e a n cap xs).X w := hf.x.2
  have hblk0 := hf.blk bn e2 lvs hn
  rw [hlv] at hblk0
  have hnews : ∀ j u, vs[j]? = some u → w.cell? ((⟨idAt ids bn, 0, none⟩ : Addr).add j) = some u := fun j u hj => by
    have := cells_blk (o := 0) hblk0 j
    rw [Go.WideShapes.add_plain, this, Nat.zero_add]
    exact hj
  obtain ⟨a', cap', w', hrun, hc0, hrow, hg, hblk⟩ := run_tw (P := C.P) w st ty e i0 z sz bytes ht hi hz0 hz1 hz2 hz hsz a n cap xs hrow0 ⟨idAt ids bn, 0, none⟩ 1 1 vs (by decide) (by omega) hnews hv h63 hbytes
  have hlt : ∀ k, abk a' = some k → k < w'.heap.size := fun k hk => tw_lt hrow k ⟨hc0, hk⟩
  have hrow1 : ∀ b, (if cap = 0 then none else abk a) = some b → cap ≠ 0 ∧ abk a = some b := fun b hb => by
    by_cases q : cap = 0
    · rw [if_pos q] at hb; cases hb
    · rw [if_neg q] at hb; exact ⟨q, hb⟩
  have hdis' : ∀ k, abk a' = some k → ¬ rest.F k := fun k hk hF => by
    rcases hblk with ⟨q, q1⟩ | ⟨g, q1, q2⟩
    · exact hdis k q (by rw [← q1]; exact hk) hF
    · rw [q1] at hk; cases hk
      have := (hf.sep _ (.inl hF)).1; omega
  simp only [execOp, resolve, invoke, builtin, hso, hxo, Sem.run_bind, Sem.run_pure, Result.andThen_ok, List.map_toArray, List.map_cons, List.map_nil, hrun]
  refine ⟨⟨[], [], [], [n + 1, cap'], [a']⟩, ids, rest.and (HX.tw sz e a' (n + 1) cap' (xs ++ vs)), ?_, List.prefix_refl _, hf.turn (hx' := rest.and (HX.tw sz e a' (n + 1) cap' (xs ++ vs))) hg (fun b e => ?_) ⟨?_, hrow⟩ (fun k hk => ?_) hhp hfit (hc _ _) oneNil, holds_pre t hp (h a' cap' hc0 hdis' (hblk.imp_right fun ⟨g, q1, q2⟩ => ⟨g, q1, Nat.le_trans hf.chg.size q2, fun q => by have := (hf.sep _ q).1; omega⟩))⟩
  · simp only [Option.map_some, hr]
  · exact ⟨.inr (hrow1 b e), hM b (hrow1 b e).1 (hrow1 b e).2⟩
  · refine rest.loc w w' hf.x.1 fun k hk => hg.block k (hf.sep k (.inl hk)).1 fun q => ?_
    obtain ⟨q1, q2⟩ := hrow1 k q.symm
    exact hdis k q1 q2 hk
  · rcases hk with hk | hk
    · exact .inl (.inl hk)
    · rcases hblk with ⟨q, q1⟩ | ⟨g, q1, q2⟩
      · exact .inl (.inr ⟨q, by rw [← q1]; exact hk.2⟩)
      · have : g = k := Option.some.inj (q1.symm.trans hk.2)
        subst this
        exact .inr ⟨q2, hlt _ q1⟩
end
end Go.Eng
namespace Go.Eng
open Go.RowKit Go.Syn Go.MapKept
set_option linter.unusedVariables false
set_option linter.unusedSimpArgs false
theorem tw_tail {sz e n cap : Nat} {a : Option Addr} {xs : List Value} {w : World} (h : (HX.tw sz e a n cap xs).X w) (h1 : 1 ≤ n) : (HX.tw sz e (sliA a 1 cap sz) (n - 1) (cap - 1) (xs.drop sz)).X w := by
  obtain ⟨hl, hle, hx⟩ := h
  have hmul : (n - 1) * sz = n * sz - sz := by rw [Nat.sub_mul, Nat.one_mul]
  refine ⟨by rw [List.length_drop, hl, hmul], by omega, fun hc => ?_⟩
  obtain ⟨g, off, cur, rfl, h2, h3, h4, h5⟩ := hx (by omega)
  refine ⟨g, off + 1, cur, ?_, h2, by omega, by rw [h4]; congr 1; omega, ?_⟩
  · unfold sliA
    rw [if_neg (by omega), Option.map_some, Go.WideShapes.add_plain, Nat.one_mul, Nat.add_mul, Nat.one_mul]
  · rw [← h5, List.drop_take, List.drop_drop, hmul, Nat.add_mul, Nat.one_mul]
theorem tw_tail_F {sz e n cap : Nat} {a : Option Addr} {xs : List Value} {k : Nat} (h : (HX.tw sz e (sliA a 1 cap sz) (n - 1) (cap - 1) (xs.drop sz)).F k) : (HX.tw sz e a n cap xs).F k := by
  refine ⟨fun q => h.1 (by omega), ?_⟩
  have h2 := h.2
  unfold sliA at h2
  split at h2
  · exact h2
  · cases a with
    | none => cases h2
    | some x =>
      have : (x.add (1 * sz)).block = x.block := by unfold Addr.add; split <;> rfl
      rw [← h2]; show some x.block = some (x.add (1 * sz)).block; rw [this]
/-- Pieces that are apart from one another. -/
def Dj (xs : List HX) : Prop := ∀ (i j : Nat) (a b : HX), xs[i]? = some a → xs[j]? = some b → i ≠ j → ∀ k, a.F k → ¬ b.F k
theorem Dj.set {xs : List HX} (h : Dj xs) {i : Nat} {a a' : HX} (hi : xs[i]? = some a) (hF : ∀ k, a'.F k → a.F k ∨ ∀ b ∈ xs, ¬ b.F k) : Dj (xs.set i a') := by
  have key : ∀ (j : Nat) (b : HX), xs[j]? = some b → i ≠ j → ∀ k, a'.F k → ¬ b.F k := fun j b hj hij k hk hb => by
    rcases hF k hk with q | q
    · exact h i j a b hi hj hij k q hb
    · exact q b (List.mem_of_getElem? hj) hb
  intro p q x y hx hy hpq k hk hk2
  rw [List.getElem?_set] at hx hy
  split at hx
  · rename_i e
    subst e
    rw [if_neg hpq] at hy
    split at hx
    · cases hx
      exact key q y hy hpq k hk hk2
    · cases hx
  · rename_i e
    split at hy
    · rename_i e2
      subst e2
      split at hy
      · cases hy
        exact key p x hx e k hk2 hk
      · cases hy
    · exact h p q x y hx hy hpq k hk hk2
section
variable {C : Cfg} {ρ : Env} {pre : List Nat} {hx hx' rest h0 : HX} {L : Stack} {m m' : Mem} {ty : Nat} {ps : List (Nat × SV)} {t : Tree} {ids : List Nat} {w w' : World} {args : List SV} {r : SV} {f : Nat}
/-- A call that writes the first known block, and changes pieces. -/
theorem node_touch {t0 : Nat} {cs0 cs' : List LV} {hp0 : List (Nat × List LV)} (AS : List Nat → Array Value) (Q : Vals → HX → Prop) (hhp : m.hp = (t0, cs0) :: hp0) (hhp' : m'.hp = (t0, cs') :: hp0) (hargs : ∀ ids, (args.map (SV.den ρ ids)).toArray = AS ids)
    (hcall : ∀ ids w, pre <+: ids → Facts C m ρ ids (rest.and h0) w → Calls C.P f (AS ids) w (fun e w' => ∃ vs h', Q vs h' ∧ e = .returned (r.den (ρ.add vs) ids) ∧ w'.heap[idAt ids 0]? = some (.cells (cellsDen (ρ.add vs) ids cs').toArray t0 (0, 0)) ∧ h'.X w' ∧ (∀ k, h'.F k → (h0.F k ∨ w.heap.size ≤ k) ∧ k < w'.heap.size) ∧ Chg (fun k => k = idAt ids 0 ∨ h0.F k) w w'))
    (hdis : ∀ k, h0.F k → ¬ rest.F k ∧ (C.W.heap.size ≤ k ∨ C.M k)) (hfit : hpFits m.c m.hp.length m.hp = true) (hc : ∀ vs h', Q vs h' → (ρ.add vs).cnt = m'.c ∧ ∀ v, v ∈ vs.v → v.oneCell' = true)
    (h : ∀ vs h', Q vs h' → (∀ k, h'.F k → ¬ rest.F k ∧ (C.W.heap.size ≤ k ∨ C.M k)) → t.holds C (ρ.add vs) pre (rest.and h') L) : (Tree.call f args m r m' t).holds C ρ pre (rest.and h0) L := by
  intro ids w hp hf
  rw [hargs]
  refine (hcall ids w hp hf).mono ?_
  rintro e w' ⟨vs, h', hQ, rfl, hb0, hX, hge, hch⟩
  have hm0 : idAt ids 0 ∈ ids := idAt_mem (ids := ids) (n := 0) (by rw [hf.len, hhp]; simp)
  have hadd : ∀ (cs : List LV) k ty', m.hp[k]? = some (ty', cs) → cellsDen (ρ.add vs) ids cs = cellsDen ρ ids cs := fun cs k ty' hk => cellsDen_add hf.cnt.cnt (List.prefix_refl _) hf.len (List.all_eq_true.1 hfit _ (List.mem_of_getElem? hk))
  refine ⟨vs, ids, rest.and h', rfl, List.prefix_refl _, ⟨by rw [hf.len, hhp, hhp']; rfl, hf.nod, fun k t2 cs2 hk => ?_, hf.own, ?_, ⟨rest.loc w w' hf.x.1 fun k hk => hch.block k (hf.sep k (.inl hk)).1 fun q => ?_, hX⟩, fun k hk => ?_, ⟨(hc _ _ hQ).1, fun v hv => ?_⟩⟩, holds_pre t hp (h vs h' hQ fun k hk => ?_)⟩
  · cases k with
    | zero =>
      rw [hhp'] at hk
      simp only [List.getElem?_cons_zero, Option.some.injEq, Prod.mk.injEq] at hk
      obtain ⟨rfl, rfl⟩ := hk
      exact hb0
    | succ k =>
      have hk2 : m.hp[k + 1]? = some (t2, cs2) := by rw [hhp]; rw [hhp'] at hk; exact hk
      have hlt : k + 1 < m.hp.length := by
        rcases Nat.lt_or_ge (k + 1) m.hp.length with q | q
        · exact q
        · rw [List.getElem?_eq_none q] at hk2; cases hk2
      have hmem := idAt_mem (ids := ids) (n := k + 1) (hf.len ▸ hlt)
      have hne : idAt ids (k + 1) ≠ idAt ids 0 := fun e => by
        have := idAt_inj hf.nod (by rw [hf.len]; exact hlt) (by rw [hf.len, hhp]; simp) e
        omega
      rw [hch.block _ (hf.id_lt hmem) (fun e2 => e2.elim hne fun q => (hf.sep _ (.inr q)).2 hmem), hf.blk (k + 1) t2 cs2 hk2, hadd cs2 _ _ hk2]
  · refine ⟨hch.os.trans hf.chg.os, hch.tape.trans hf.chg.tape, hch.output.trans hf.chg.output, Nat.le_trans hf.chg.size hch.size, fun k hk hM => ?_⟩
    rw [hch.block k (Nat.lt_of_lt_of_le hk hf.chg.size) (fun e => ?_)]
    · exact hf.chg.block k hk hM
    · rcases e with rfl | e
      · rcases hf.own _ hm0 with g | g
        · omega
        · exact hM g
      · rcases (hdis _ e).2 with g | g
        · omega
        · exact hM g
  · rcases q with rfl | q
    · exact (hf.sep _ (.inl hk)).2 hm0
    · exact (hdis k q).1 hk
  · rcases hk with hk | hk
    · exact ⟨Nat.lt_of_lt_of_le (hf.sep k (.inl hk)).1 hch.size, (hf.sep k (.inl hk)).2⟩
    · refine ⟨(hge k hk).2, fun hm => ?_⟩
      rcases (hge k hk).1 with q | q
      · exact (hf.sep k (.inr q)).2 hm
      · have := hf.id_lt hm; omega
  · simp only [Env.add, List.mem_append] at hv
    exact hv.elim (hf.cnt.one v) ((hc _ _ hQ).2 v)
  · rcases (hge k hk).1 with q | q
    · exact hdis k q
    · refine ⟨fun z => ?_, .inl (Nat.le_trans hf.chg.size q)⟩
      have := (hf.sep k (.inl z)).1
      omega
end
end Go.Eng
