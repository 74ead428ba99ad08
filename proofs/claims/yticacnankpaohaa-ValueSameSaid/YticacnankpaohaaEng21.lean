/- Rows of the call's own that may have no room yet; clones. No program in sight. -/
import Derived.Test.YticacnankpaohaaEng20
namespace Go.Eng
open Go.RowKit Go.Syn Go.MapKept
set_option linter.unusedVariables false
set_option linter.unusedSimpArgs false
/-- A row of the call's own, or one without room. -/
def HX.row (base e : Nat) (a : Option Addr) (n cap : Nat) (xs : List Value) : HX :=
  ⟨fun k => cap ≠ 0 ∧ abk a = some k, fun w => (cap = 0 ∧ n = 0 ∧ xs = []) ∨ (cap ≠ 0 ∧ w.ownsRow base e 1 (.slice a n cap) n xs), fun w w' h eq => by
    rcases h with h | ⟨h0, h⟩
    · exact .inl h
    · refine .inr ⟨h0, h.1, ?_⟩
      rcases h.2 with q | ⟨g, c, cur, hv, hb, hg, rest⟩
      · exact .inl q
      · refine .inr ⟨g, c, cur, hv, hb, ?_, rest⟩
        cases hv
        rw [eq g ⟨h0, rfl⟩]; exact hg⟩
theorem HX.row_nil (base e : Nat) (a : Option Addr) (w : World) : (HX.row base e a 0 0 []).X w := .inl ⟨rfl, rfl, rfl⟩
theorem row_len {base e n cap : Nat} {a : Option Addr} {xs : List Value} {w : World} (h : (HX.row base e a n cap xs).X w) : xs.length = n := by
  rcases h with ⟨_, rfl, rfl⟩ | ⟨_, h⟩
  · rfl
  · have := h.1; omega
theorem row_cells {base e n cap : Nat} {a : Option Addr} {xs : List Value} {w : World} (h : (HX.row base e a n cap xs).X w) : Cells w a xs := by
  rcases h with ⟨_, rfl, rfl⟩ | ⟨h0, h⟩
  · intro h; simp at h
  · rcases h.2 with ⟨q, q2⟩ | ⟨g, c2, cur, q, _⟩
    · cases q; exact absurd rfl h0
    · cases q; exact ownsRow_cells h
theorem row_at {base e n cap : Nat} {a : Option Addr} {xs : List Value} {w : World} (h : (HX.row base e a n cap xs).X w) (hc : cap ≠ 0) : ∃ g, a = some ⟨g, 0, none⟩ ∧ base ≤ g ∧ g < w.heap.size := by
  rcases h with ⟨q, _⟩ | ⟨h0, h⟩
  · exact absurd q hc
  · rcases h.2 with ⟨q, q2⟩ | ⟨g, c2, cur, q, hb, hg, _⟩
    · cases q; exact absurd rfl h0
    · cases q
      refine ⟨g, rfl, hb, ?_⟩
      rcases Nat.lt_or_ge g w.heap.size with q2 | q2
      · exact q2
      · rw [Array.getElem?_eq_none q2] at hg; cases hg
theorem row_ints {base e n cap : Nat} {a : Option Addr} {xs : List Int} {w : World} (h : (HX.row base e a n cap (xs.map (Value.int .i64))).X w) (hl : xs.length ≤ 9223372036854775807) (hf : ∀ x ∈ xs, I64 x) : Ints w a xs := by
  have hc := row_cells h
  refine ⟨hl, hf, fun h0 => ?_⟩
  obtain ⟨h1, h2, h3⟩ := hc (by simpa using h0)
  exact ⟨h1, h2, fun i hi => h3 i _ (by rw [List.getElem?_map, List.getD_eq_getElem?_getD, List.getElem?_eq_getElem hi]; rfl)⟩
theorem owns_base {w : World} {b1 b2 e size n : Nat} {v : Value} {xs : List Value} (h : w.ownsRow b1 e size v n xs) (hb : b2 ≤ b1) : w.ownsRow b2 e size v n xs := by
  refine ⟨h.1, ?_⟩
  rcases h.2 with q | ⟨g, c2, cur, q, hb1, rest⟩
  · exact .inl q
  · exact .inr ⟨g, c2, cur, q, Nat.le_trans hb hb1, rest⟩
section
variable {P : Program}
/-- Elements behind a row. -/
theorem run_row (w : World) (base : Nat) (t ty e : TypeId) (i : TypeInfo) (z : Value) (bytes : Nat) (ht : P.underlying t = some (.slice e)) (hi : P.info? e = some i) (hz : i.zero = some z) (hsize : i.size = 1) (hby : i.bytes = bytes) (hzs : z.cells.size = 1)
    (a : Option Addr) (n cap : Nat) (xs : List Value) (hrow : (HX.row base e a n cap xs).X w) (src : Addr) (m c : Nat) (news : List Value) (hm : 0 < m) (hl : news.length = m) (hnews : ∀ j u, news[j]? = some u → w.cell? (src.add j) = some u) (h1 : ∀ u ∈ news, u.oneCell' = true)
    (h63 : n + m ≤ maxLen) (hbytes : (n + m) * bytes ≤ 140737488355328) (hbase : base ≤ w.heap.size) :
    ∃ a' cap' w', (Builtin.append_ #[t, t] ty #[.slice a n cap, .slice (some src) m c]).run P w = .ok (.slice a' (n + m) cap') w' ∧ cap' ≠ 0 ∧ (HX.row base e a' (n + m) cap' (xs ++ news)).X w' ∧
      w.grownBy w' (if cap = 0 then none else abk a) ∧ ((cap ≠ 0 ∧ abk a' = abk a) ∨ ∃ g, abk a' = some g ∧ w.heap.size ≤ g) := by
  have key : ∀ v' w', w'.ownsRow base e 1 v' (n + m) (xs ++ news) → ∃ a' cap', v' = .slice a' (n + m) cap' ∧ cap' ≠ 0 ∧ (HX.row base e a' (n + m) cap' (xs ++ news)).X w' := by
    intro v' w' ho
    rcases ho.2 with ⟨q, q2⟩ | ⟨g, c2, cur, q, hb, hg, hn, _⟩
    · omega
    · subst q
      exact ⟨_, c2, rfl, by omega, .inr ⟨by omega, ho⟩⟩
  have hob : ∀ (x : Option Addr) (p q : Nat), Value.ownBlock (.slice x p q) = abk x := fun x p q => by cases x <;> rfl
  rcases hrow with ⟨rfl, rfl, rfl⟩ | ⟨h0, h⟩
  · cases a with
    | none =>
      obtain ⟨v', w', hr, ho, hg, hn, hb⟩ := run_append_own_at (P := P) w base t ty e i z 1 bytes ht hi hz hsize hby hzs (by decide) _ 0 [] (World.ownsRow_nil w base e 1) src m c news (by omega) hnews h1 h63 hbytes hbase
      obtain ⟨a', cap', rfl, hc0, hx⟩ := key v' w' ho
      refine ⟨a', cap', w', hr, hc0, hx, hg, ?_⟩
      rw [hob] at hb
      rcases hb with hb | hb
      · obtain ⟨g, rfl, _⟩ := row_at hx hc0
        cases hb
      · exact .inr ⟨_, hb, Nat.le_refl _⟩
    | some b =>
      obtain ⟨v', w', hr, ho, hg⟩ := run_append_arg_grows (P := P) w t ty e i z 1 bytes ht hi hz hsize hby hzs (by decide) b 0 0 [] rfl (fun j u h => by simp at h) src m c news (by omega) hnews (by omega) h63 hbytes
      obtain ⟨a', cap', rfl, hc0, hx⟩ := key v' w' (owns_base ho hbase)
      refine ⟨a', cap', w', hr, hc0, hx, hg, .inr ?_⟩
      rcases ho.2 with ⟨q, q2⟩ | ⟨g, c2, cur, q, hb, hgk, hn, _⟩
      · omega
      · cases q
        exact ⟨g, rfl, hb⟩
  · obtain ⟨v', w', hr, ho, hg, hn, hb⟩ := run_append_own_at (P := P) w base t ty e i z 1 bytes ht hi hz hsize hby hzs (by decide) _ n xs h src m c news (by omega) hnews h1 h63 hbytes hbase
    obtain ⟨a', cap', rfl, hc0, hx⟩ := key v' w' ho
    rw [hob] at hg
    rw [hob, hob] at hb
    refine ⟨a', cap', w', hr, hc0, hx, by rw [if_neg h0]; exact hg, hb.elim (fun q => .inl ⟨h0, q⟩) (fun q => .inr ⟨_, q, Nat.le_refl _⟩)⟩
end
section
variable {C : Cfg} {ρ : Env} {pre : List Nat} {hx rest : HX} {L : Stack} {m m' : Mem} {ty : Nat} {ps : List (Nat × SV)} {t : Tree}
/-- 'append([]T{}, xs...)': a clone. -/
theorem node_clone {st e : TypeId} {so xo : Operand} {ac : Go.Call} {r : SV} {z : Value} {bytes e2 : Nat} (hac : ac = { callee := .builtin .append, args := #[so, xo], argTypes := #[st, st] }) (ht : C.P.underlying st = some (.slice e)) (hinfo : (C.P.info? e).map (fun i => (i.zero, i.size, i.bytes)) = some (some z, 1, bytes)) (hz : z.cells.size = 1)
    (bn : Nat) (hn : m.hp[bn]? = some (e2, [])) (sa : List Nat → Option Addr) (cap : Nat) (xs : List Value) (hx_ : ∀ ids w, pre <+: ids → Facts C m ρ ids hx w → Cells w (sa ids) xs) (h1 : ∀ u ∈ xs, u.oneCell' = true) (hl : xs.length ≤ maxLen) (hb : xs.length * bytes ≤ 140737488355328)
    (hso : ∀ ids, envOf ρ ids ps so = .slice (some ⟨idAt ids bn, 0, none⟩) 0 0) (hxo : ∀ ids, envOf ρ ids ps xo = .slice (sa ids) xs.length cap)
    (hr : ∀ a' cap' ids, r.den (ρ.add ⟨[], [], [], [xs.length, cap'], [a']⟩) ids = .slice a' xs.length cap') (hhp : m'.hp = m.hp) (hfit : hpFits m.c m.hp.length m.hp = true) (hc : ∀ a' cap', (ρ.add ⟨[], [], [], [xs.length, cap'], [a']⟩).cnt = m'.c)
    (h : ∀ a' cap', (∀ k, cap' ≠ 0 → abk a' = some k → ¬ hx.F k) → t.holds C (ρ.add ⟨[], [], [], [xs.length, cap'], [a']⟩) pre (hx.and (HX.row C.W.heap.size e a' xs.length cap' xs)) L) :
    (Tree.gen (.call ac) ty ps m (some r) m' t).holds C ρ pre hx L := by
  intro ids w hp hf
  subst hac
  unfold GenRun
  obtain ⟨i0, hi, hz0, hz1, hz2⟩ := info_parts hinfo
  have hcs := hx_ ids w hp hf
  rcases Nat.eq_zero_or_pos xs.length with h0 | h0
  · have hxe : xs = [] := List.eq_nil_of_length_eq_zero h0
    have hrun : (Builtin.append_ #[st, st] ty #[.slice (some ⟨idAt ids bn, 0, none⟩) 0 0, .slice (sa ids) xs.length cap]).run C.P w = .ok (.slice (some ⟨idAt ids bn, 0, none⟩) 0 0) w := by
      rw [hxe]
      cases sa ids <;> simp [Builtin.append_, run_underlying ht, sizeOf, typeInfo, hi, Builtin.lenOf, Builtin.firstCells, storeCells, loadCells, loadCellsFrom]
    simp only [execOp, resolve, invoke, builtin, hso, hxo, Sem.run_bind, Sem.run_pure, Result.andThen_ok, List.map_toArray, List.map_cons, List.map_nil, hrun]
    refine ⟨⟨[], [], [], [xs.length, 0], [some ⟨idAt ids bn, 0, none⟩]⟩, ids, hx.and (HX.row C.W.heap.size e (some ⟨idAt ids bn, 0, none⟩) xs.length 0 xs), ?_, List.prefix_refl _, hf.turn (hx' := hx.and (HX.row C.W.heap.size e (some ⟨idAt ids bn, 0, none⟩) xs.length 0 xs)) (grown_none w) (fun b e => by cases e) ⟨hf.x, .inl ⟨rfl, h0, hxe⟩⟩ (fun k hk => ?_) hhp hfit (hc _ _) oneNil, holds_pre t hp (h _ 0 (fun k q _ => absurd rfl q))⟩
    · have := hr (some ⟨idAt ids bn, 0, none⟩) 0 ids
      simp only [Option.map_some, this]
      rw [h0]
    · rcases hk with hk | hk
      · exact .inl hk
      · exact absurd rfl hk.1
  · obtain ⟨ha, hab, hcc⟩ := hcs h0
    obtain ⟨ad, had⟩ : ∃ ad, sa ids = some ad := by
      cases hs : sa ids with
      | none => rw [hs] at ha; simp [PlainA] at ha
      | some ad => exact ⟨ad, rfl⟩
    rw [had] at ha hcc
    have hnews : ∀ j u, xs[j]? = some u → w.cell? (ad.add j) = some u := fun j u hj => by
      have e : ad = ⟨blk (some ad), ofs (some ad), none⟩ := Option.some.inj ha
      rw [e, Go.WideShapes.add_plain]; exact hcc j u hj
    obtain ⟨a', cap', w', hrun, hc0, hrow, hg, hblk⟩ := run_row (P := C.P) w C.W.heap.size st ty e i0 z bytes ht hi hz0 hz1 hz2 hz (some ⟨idAt ids bn, 0, none⟩) 0 0 [] (HX.row_nil _ _ _ w) ad xs.length cap xs h0 rfl hnews h1 (by omega) (by simpa using hb) hf.chg.size
    simp only [Nat.zero_add, List.nil_append] at hrun hrow
    have hnew : ∀ k, abk a' = some k → w.heap.size ≤ k := fun k hk => by
      rcases hblk with ⟨q, _⟩ | ⟨g, q1, q2⟩
      · exact absurd rfl q
      · rw [q1] at hk; cases hk; exact q2
    have hlt : ∀ k, abk a' = some k → k < w'.heap.size := fun k hk => by
      obtain ⟨g, rfl, _, q⟩ := row_at hrow hc0
      cases hk; exact q
    simp only [execOp, resolve, invoke, builtin, hso, hxo, had, Sem.run_bind, Sem.run_pure, Result.andThen_ok, List.map_toArray, List.map_cons, List.map_nil, hrun]
    refine ⟨⟨[], [], [], [xs.length, cap'], [a']⟩, ids, hx.and (HX.row C.W.heap.size e a' xs.length cap' xs), ?_, List.prefix_refl _, hf.turn (hx' := hx.and (HX.row C.W.heap.size e a' xs.length cap' xs)) hg (fun b e => by cases e) ⟨hx.loc w w' hf.x fun k hk => hg.block k (hf.sep k hk).1 (fun q => by cases q), hrow⟩ (fun k hk => ?_) hhp hfit (hc _ _) oneNil, holds_pre t hp (h a' cap' (fun k _ hk hF => by have h3 := hnew k hk; have h4 := (hf.sep _ hF).1; omega))⟩
    · simp only [Option.map_some, hr]
    · rcases hk with hk | hk
      · exact .inl hk
      · exact .inr ⟨hnew k hk.2, hlt k hk.2⟩
/-- 'xs = append(xs, v)' onto a row. -/
theorem node_pushr {st e : TypeId} {so xo : Operand} {ac : Go.Call} {r : SV} {z v : Value} {bytes : Nat} (hac : ac = { callee := .builtin .append, args := #[so, xo], argTypes := #[st, st] }) (ht : C.P.underlying st = some (.slice e)) (hinfo : (C.P.info? e).map (fun i => (i.zero, i.size, i.bytes)) = some (some z, 1, bytes)) (hz : z.cells.size = 1)
    (a : Option Addr) (n cap : Nat) (xs : List Value) (bn : Nat) {e2 : Nat} {lv : LV} (hso : ∀ ids, envOf ρ ids ps so = .slice a n cap) (hxo : ∀ ids, envOf ρ ids ps xo = .slice (some ⟨idAt ids bn, 0, none⟩) 1 1) (hn : m.hp[bn]? = some (e2, [lv])) (hlv : ∀ ids, lv.den ρ ids = v) (hv : v.oneCell' = true)
    (hdis : ∀ k, cap ≠ 0 → abk a = some k → ¬ rest.F k) (h63 : n + 1 ≤ maxLen) (hbytes : (n + 1) * bytes ≤ 140737488355328)
    (hr : ∀ a' cap' ids, r.den (ρ.add ⟨[], [], [], [n + 1, cap'], [a']⟩) ids = .slice a' (n + 1) cap') (hhp : m'.hp = m.hp) (hfit : hpFits m.c m.hp.length m.hp = true) (hc : ∀ a' cap', (ρ.add ⟨[], [], [], [n + 1, cap'], [a']⟩).cnt = m'.c)
    (h : ∀ a' cap', cap' ≠ 0 → (∀ k, abk a' = some k → ¬ rest.F k) → t.holds C (ρ.add ⟨[], [], [], [n + 1, cap'], [a']⟩) pre (rest.and (HX.row C.W.heap.size e a' (n + 1) cap' (xs ++ [v]))) L) :
    (Tree.gen (.call ac) ty ps m (some r) m' t).holds C ρ pre (rest.and (HX.row C.W.heap.size e a n cap xs)) L := by
  intro ids w hp hf
  subst hac
  unfold GenRun
  obtain ⟨i0, hi, hz0, hz1, hz2⟩ := info_parts hinfo
  have hrow0 : (HX.row C.W.heap.size e a n cap xs).X w := hf.x.2
  have hblk0 := hf.blk bn e2 [lv] hn
  have hnews : ∀ j u, [v][j]? = some u → w.cell? ((⟨idAt ids bn, 0, none⟩ : Addr).add j) = some u := fun j u hj => by
    cases j with
    | zero =>
      simp only [List.getElem?_cons_zero, Option.some.injEq] at hj
      subst hj
      simp [World.cell?, Addr.add, hblk0, cellsDen, hlv]
    | succ j => simp at hj
  obtain ⟨a', cap', w', hrun, hc0, hrow, hg, hblk⟩ := run_row (P := C.P) w C.W.heap.size st ty e i0 z bytes ht hi hz0 hz1 hz2 hz a n cap xs hrow0 ⟨idAt ids bn, 0, none⟩ 1 1 [v] (by decide) rfl hnews (by simp [hv]) h63 hbytes hf.chg.size
  have hlt : ∀ k, abk a' = some k → k < w'.heap.size := fun k hk => by
    obtain ⟨g, rfl, _, q⟩ := row_at hrow hc0
    cases hk; exact q
  have hrow1 : ∀ b, (if cap = 0 then none else abk a) = some b → (HX.row C.W.heap.size e a n cap xs).F b ∧ C.W.heap.size ≤ b := fun b hb => by
    by_cases q : cap = 0
    · rw [if_pos q] at hb; cases hb
    · rw [if_neg q] at hb
      obtain ⟨g, rfl, q2, _⟩ := row_at hrow0 q
      cases hb
      exact ⟨⟨q, rfl⟩, q2⟩
  have hdis' : ∀ k, abk a' = some k → ¬ rest.F k := fun k hk hF => by
    rcases hblk with ⟨q, q1⟩ | ⟨g, q1, q2⟩
    · exact hdis k q (by rw [← q1]; exact hk) hF
    · rw [q1] at hk; cases hk
      have := (hf.sep _ (.inl hF)).1; omega
  simp only [execOp, resolve, invoke, builtin, hso, hxo, Sem.run_bind, Sem.run_pure, Result.andThen_ok, List.map_toArray, List.map_cons, List.map_nil, hrun]
  refine ⟨⟨[], [], [], [n + 1, cap'], [a']⟩, ids, rest.and (HX.row C.W.heap.size e a' (n + 1) cap' (xs ++ [v])), ?_, List.prefix_refl _, hf.turn (hx' := rest.and (HX.row C.W.heap.size e a' (n + 1) cap' (xs ++ [v]))) hg (fun b e => ?_) ⟨?_, hrow⟩ (fun k hk => ?_) hhp hfit (hc _ _) oneNil, holds_pre t hp (h a' cap' hc0 hdis')⟩
  · simp only [Option.map_some, hr]
  · exact ⟨.inr (hrow1 b e).1, .inl (hrow1 b e).2⟩
  · refine rest.loc w w' hf.x.1 fun k hk => hg.block k (hf.sep k (.inl hk)).1 fun q => ?_
    obtain ⟨q1, _⟩ := hrow1 k q.symm
    exact hdis k q1.1 q1.2 hk
  · rcases hk with hk | hk
    · exact .inl (.inl hk)
    · rcases hblk with ⟨q, q1⟩ | ⟨g, q1, q2⟩
      · exact .inl (.inr ⟨q, by rw [← q1]; exact hk.2⟩)
      · have h3 := hlt k hk.2
        rw [hk.2] at q1; cases q1
        exact .inr ⟨q2, h3⟩
end
theorem cellsAll_ints : ∀ (xs : List Int), Dat.cellsAll (xs.map (Dat.int .i64)) = xs.map (Value.int .i64)
  | [] => rfl
  | x :: r => by rw [List.map_cons, List.map_cons, ← cellsAll_ints r]; rfl
/-- An int of a slice of ints. -/
theorem ints_elt {w : World} {a : Option Addr} {xs : List Int} (h : Ints w a xs) {i : Nat} {x : Int} (hi : xs[i]? = some x) :
    a.isSome = true ∧ ∀ (N : Nat → Prop), ¬ N ((a.getD ⟨0, 0, none⟩).block) → CellsAt w (.pointer (some (((a.getD ⟨0, 0, none⟩).add (i * 1)).add 0))) [.int .i64 x] N :=
  cells_elt (f := Dat.int .i64) (c := 1) (by rw [cellsAll_ints]; exact h.cells) (fun _ => rfl) (by decide) hi
theorem pure_same {P : Program} {f : Nat} {as : Array Value} {w : World} {V : Value} (h : Calls P f as w fun e w' => e = .returned V ∧ w = w') : Calls P f as w (PureAt w V) :=
  h.mono fun e w' ⟨h1, h2⟩ => by subst h2; exact ⟨h1, Below.refl _ _⟩
end Go.Eng
