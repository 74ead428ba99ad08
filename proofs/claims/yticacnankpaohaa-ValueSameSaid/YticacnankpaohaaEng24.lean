/- Clones of rows of elements of any size. No program in sight. -/
import Derived.Test.YticacnankpaohaaEng23
namespace Go.Eng
open Go.RowKit Go.Syn Go.MapKept
set_option linter.unusedVariables false
set_option linter.unusedSimpArgs false
section
variable {C : Cfg} {ρ : Env} {pre : List Nat} {hx : HX} {L : Stack} {m m' : Mem} {ty : Nat} {ps : List (Nat × SV)} {t : Tree}
/-- 'append([]T{}, xs...)', T of sz cells. -/
theorem node_clones {st e : TypeId} {so xo : Operand} {ac : Go.Call} {r : SV} {z : Value} {sz bytes e2 : Nat} (hac : ac = { callee := .builtin .append, args := #[so, xo], argTypes := #[st, st] }) (ht : C.P.underlying st = some (.slice e)) (hinfo : (C.P.info? e).map (fun i => (i.zero, i.size, i.bytes)) = some (some z, sz, bytes)) (hz : z.cells.size = sz) (hsz : 0 < sz)
    (bn : Nat) (hn : m.hp[bn]? = some (e2, [])) (sa : List Nat → Option Addr) (n cap : Nat) (xs : List Value) (hlen : xs.length = n * sz) (hx_ : ∀ ids w, pre <+: ids → Facts C m ρ ids hx w → Cells w (sa ids) xs) (h1 : ∀ u ∈ xs, u.oneCell' = true) (hl : n ≤ maxLen) (hb : n * bytes ≤ 140737488355328)
    (hso : ∀ ids, envOf ρ ids ps so = .slice (some ⟨idAt ids bn, 0, none⟩) 0 0) (hxo : ∀ ids, envOf ρ ids ps xo = .slice (sa ids) n cap)
    (hr : ∀ a' cap' ids, r.den (ρ.add ⟨[], [], [], [n, cap'], [a']⟩) ids = .slice a' n cap') (hhp : m'.hp = m.hp) (hfit : hpFits m.c m.hp.length m.hp = true) (hc : ∀ a' cap', (ρ.add ⟨[], [], [], [n, cap'], [a']⟩).cnt = m'.c)
    (h : ∀ a' cap', (∀ k, cap' ≠ 0 → abk a' = some k → C.W.heap.size ≤ k ∧ ¬ hx.F k) → t.holds C (ρ.add ⟨[], [], [], [n, cap'], [a']⟩) pre (hx.and (HX.rw sz e a' n cap' xs)) L) :
    (Tree.gen (.call ac) ty ps m (some r) m' t).holds C ρ pre hx L := by
  intro ids w hp hf
  subst hac
  unfold GenRun
  obtain ⟨i0, hi, hz0, hz1, hz2⟩ := info_parts hinfo
  have hcs := hx_ ids w hp hf
  rcases Nat.eq_zero_or_pos n with h0 | h0
  · subst h0
    have hxe : xs = [] := List.eq_nil_of_length_eq_zero (by rw [hlen]; simp)
    have hrun : (Builtin.append_ #[st, st] ty #[.slice (some ⟨idAt ids bn, 0, none⟩) 0 0, .slice (sa ids) 0 cap]).run C.P w = .ok (.slice (some ⟨idAt ids bn, 0, none⟩) 0 0) w := by
      cases sa ids <;> simp [Builtin.append_, run_underlying ht, sizeOf, typeInfo, hi, Builtin.lenOf, Builtin.firstCells, storeCells, loadCells, loadCellsFrom]
    simp only [execOp, resolve, invoke, builtin, hso, hxo, Sem.run_bind, Sem.run_pure, Result.andThen_ok, List.map_toArray, List.map_cons, List.map_nil, hrun]
    refine ⟨⟨[], [], [], [0, 0], [some ⟨idAt ids bn, 0, none⟩]⟩, ids, hx.and (HX.rw sz e (some ⟨idAt ids bn, 0, none⟩) 0 0 xs), ?_, List.prefix_refl _, hf.turn (hx' := hx.and (HX.rw sz e (some ⟨idAt ids bn, 0, none⟩) 0 0 xs)) (grown_none w) (fun b e => by cases e) ⟨hf.x, .inl ⟨rfl, rfl, hxe⟩⟩ (fun k hk => ?_) hhp hfit (hc _ _) oneNil, holds_pre t hp (h _ 0 (fun k q _ => absurd rfl q))⟩
    · simp only [Option.map_some, hr]
    · rcases hk with hk | hk
      · exact .inl hk
      · exact absurd rfl hk.1
  · have hpos : 0 < xs.length := by rw [hlen]; exact Nat.mul_pos h0 hsz
    obtain ⟨ha, hab, hcc⟩ := hcs hpos
    obtain ⟨ad, had⟩ : ∃ ad, sa ids = some ad := by
      cases hs : sa ids with
      | none => rw [hs] at ha; simp [PlainA] at ha
      | some ad => exact ⟨ad, rfl⟩
    rw [had] at ha hcc
    have hnews : ∀ j u, xs[j]? = some u → w.cell? (ad.add j) = some u := fun j u hj => by
      have e : ad = ⟨blk (some ad), ofs (some ad), none⟩ := Option.some.inj ha
      rw [e, Go.WideShapes.add_plain]; exact hcc j u hj
    obtain ⟨a', cap', w', hrun, hc0, hrow, hg, hblk⟩ := run_rw (P := C.P) w st ty e i0 z sz bytes ht hi hz0 hz1 hz2 hz hsz (some ⟨idAt ids bn, 0, none⟩) 0 0 [] (HX.rw_nil _ _ _ w) ad n cap xs h0 hlen hnews h1 (by omega) (by rw [Nat.zero_add]; exact hb)
    simp only [Nat.zero_add, List.nil_append] at hrun hrow
    have hnew : ∀ k, abk a' = some k → w.heap.size ≤ k := fun k hk => by
      rcases hblk with ⟨q, _⟩ | ⟨g, q1, q2⟩
      · exact absurd rfl q
      · rw [q1] at hk; cases hk; exact q2
    have hlt : ∀ k, abk a' = some k → k < w'.heap.size := fun k hk => by
      obtain ⟨g, _, rfl, q, _⟩ := rw_open hrow hc0
      cases hk; exact q
    simp only [execOp, resolve, invoke, builtin, hso, hxo, had, Sem.run_bind, Sem.run_pure, Result.andThen_ok, List.map_toArray, List.map_cons, List.map_nil, hrun]
    refine ⟨⟨[], [], [], [n, cap'], [a']⟩, ids, hx.and (HX.rw sz e a' n cap' xs), ?_, List.prefix_refl _, hf.turn (hx' := hx.and (HX.rw sz e a' n cap' xs)) hg (fun b e => by cases e) ⟨hx.loc w w' hf.x fun k hk => hg.block k (hf.sep k hk).1 (fun q => by cases q), hrow⟩ (fun k hk => ?_) hhp hfit (hc _ _) oneNil, holds_pre t hp (h a' cap' (fun k _ hk => ⟨Nat.le_trans hf.chg.size (hnew k hk), fun hF => by have h3 := hnew k hk; have h4 := (hf.sep _ hF).1; omega⟩))⟩
    · simp only [Option.map_some, hr]
    · rcases hk with hk | hk
      · exact .inl hk
      · exact .inr ⟨hnew k hk.2, hlt k hk.2⟩
end
theorem rw_cl {sz e n cap : Nat} {a : Option Addr} {xs : List Value} {w : World} (h : (HX.rw sz e a n cap xs).X w) : (HX.cl a xs).X w ∧ ∀ k, (HX.cl a xs).F k → (HX.rw sz e a n cap xs).F k := by
  refine ⟨rw_cells h, ?_⟩
  rintro k ⟨h1, rfl⟩
  have hc : cap ≠ 0 := by
    rcases h with ⟨_, _, q⟩ | ⟨q, _⟩
    · exact absurd q h1
    · exact q
  obtain ⟨g, _, rfl, _⟩ := rw_open h hc
  exact ⟨hc, rfl⟩
/-- Some cells of an element of cells that are read. -/
theorem cl_part {w : World} {a : Option Addr} {xs : List Value} (h : Cells w a xs) {i sz off : Nat} (us : List Value) (hu : ∀ j u, us[j]? = some u → xs[i * sz + off + j]? = some u) (h0 : us ≠ []) :
    a.isSome = true ∧ ∀ (N : Nat → Prop), ¬ N ((a.getD ⟨0, 0, none⟩).block) → CellsAt w (.pointer (some (((a.getD ⟨0, 0, none⟩).add (i * sz)).add off))) us N := by
  obtain ⟨u0, hu0⟩ : ∃ u, us[0]? = some u := ⟨_, List.getElem?_eq_getElem (List.length_pos_iff.2 h0)⟩
  have hx0 := hu 0 u0 hu0
  have hpos : 0 < xs.length := by
    rcases Nat.lt_or_ge (i * sz + off + 0) xs.length with q | q
    · omega
    · rw [List.getElem?_eq_none q] at hx0; cases hx0
  obtain ⟨ha, hb, hc⟩ := h hpos
  cases a with
  | none => simp [PlainA] at ha
  | some ad =>
    have e : ad = ⟨blk (some ad), ofs (some ad), none⟩ := Option.some.inj ha
    have e1 : (ad.add (i * sz)).add off = ⟨blk (some ad), ofs (some ad) + i * sz + off, none⟩ := by
      rw [e, Go.WideShapes.add_plain, Go.WideShapes.add_plain]; rfl
    refine ⟨rfl, fun N hN => ⟨_, rfl, ?_, fun j u hj => ?_⟩⟩
    · show ¬ N ((ad.add (i * sz)).add off).block
      rw [e1]
      rw [e] at hN; exact hN
    · show w.cell? (((ad.add (i * sz)).add off).add j) = some u
      have h2 := hc (i * sz + off + j) u (hu j u hj)
      rw [e1, Go.WideShapes.add_plain, show ofs (some ad) + i * sz + off + j = ofs (some ad) + (i * sz + off + j) by omega]
      exact h2
end Go.Eng
