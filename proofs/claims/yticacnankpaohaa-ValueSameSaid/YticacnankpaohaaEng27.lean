/- append of a literal slice and another: behind a known block. No program in sight. -/
import Derived.Test.YticacnankpaohaaEng26
namespace Go.Eng
open Go.RowKit Go.Syn
set_option linter.unusedVariables false
set_option linter.unusedSimpArgs false
section
variable {C : Cfg} {ρ : Env} {pre : List Nat} {hx : HX} {L : Stack} {m m' : Mem} {ty : Nat} {ps : List (Nat × SV)} {t : Tree}
theorem node_pre0 {st e : TypeId} {so xo : Operand} {ac : Go.Call} {r : SV} {z : Value} {sz bytes bn k : Nat} (hac : ac = { callee := .builtin .append, args := #[so, xo], argTypes := #[st, st] }) (ht : C.P.underlying st = some (.slice e)) (hinfo : (C.P.info? e).map (fun i => (i.zero, i.size, i.bytes)) = some (some z, sz, bytes)) (hz : z.cells.size = sz)
    (sa : List Nat → Option Addr) (cap2 : Nat) (hso : ∀ ids, envOf ρ ids ps so = .slice (some ⟨idAt ids bn, 0, none⟩) k k) (hxo : ∀ ids, pre <+: ids → envOf ρ ids ps xo = .slice (sa ids) 0 cap2) (hk : k ≤ maxLen)
    (hr : ∀ b ids, r.den (ρ.add ⟨[], [], [], [k, k], [some ⟨b, 0, none⟩]⟩) ids = .slice (some ⟨b, 0, none⟩) k k) (hhp : m'.hp = m.hp) (hfit : hpFits m.c m.hp.length m.hp = true) (hc : ∀ b, (ρ.add ⟨[], [], [], [k, k], [some ⟨b, 0, none⟩]⟩).cnt = m'.c)
    (h : ∀ ids, pre <+: ids → ids.length = m.hp.length → t.holds C (ρ.add ⟨[], [], [], [k, k], [some ⟨idAt ids bn, 0, none⟩]⟩) ids hx L) : (Tree.gen (.call ac) ty ps m (some r) m' t).holds C ρ pre hx L := by
  intro ids w hp hf
  subst hac
  unfold GenRun
  obtain ⟨i0, hi, hz0, hz1, hz2⟩ := info_parts hinfo
  have hrun : (Builtin.append_ #[st, st] ty #[.slice (some ⟨idAt ids bn, 0, none⟩) k k, .slice (sa ids) 0 cap2]).run C.P w = .ok (.slice (some ⟨idAt ids bn, 0, none⟩) k k) w := by
    have e0 : k + 0 ≤ k := by omega
    cases sa ids <;> simp [Builtin.append_, run_underlying ht, sizeOf, typeInfo, hi, Builtin.lenOf, Builtin.firstCells, storeCells, loadCells, loadCellsFrom]
  simp only [execOp, resolve, invoke, builtin, hso, hxo ids hp, Sem.run_bind, Sem.run_pure, Result.andThen_ok, List.map_toArray, List.map_cons, List.map_nil, hrun]
  refine ⟨_, ids, hx, ?_, List.prefix_refl _, hf.turn (hx' := hx) (grown_none w) (fun b e => by cases e) hf.x (fun k hk => .inl hk) hhp hfit (hc _) oneNil, h ids hp hf.len⟩
  simp only [Option.map_some, hr]
theorem node_pre {st e e2 : TypeId} {so xo : Operand} {ac : Go.Call} {r : SV} {z : Value} {sz bytes bn k : Nat} {lvs : List LV} (hac : ac = { callee := .builtin .append, args := #[so, xo], argTypes := #[st, st] }) (ht : C.P.underlying st = some (.slice e)) (hinfo : (C.P.info? e).map (fun i => (i.zero, i.size, i.bytes)) = some (some z, sz, bytes)) (hz : z.cells.size = sz) (hsz : 0 < sz)
    (us : List Value) (sa : List Nat → Option Addr) (n2 cap2 : Nat) (ys : List Value) (hn : m.hp[bn]? = some (e2, lvs)) (hus : ∀ ids, cellsDen ρ ids lvs = us) (hul : us.length = k * sz) (hlen : ys.length = n2 * sz) (hpos : 0 < n2) (hys : ∀ ids w, pre <+: ids → Facts C m ρ ids hx w → Cells w (sa ids) ys)
    (h63 : k + n2 ≤ maxLen) (hbytes : (k + n2) * bytes ≤ 140737488355328) (hso : ∀ ids, envOf ρ ids ps so = .slice (some ⟨idAt ids bn, 0, none⟩) k k) (hxo : ∀ ids, pre <+: ids → envOf ρ ids ps xo = .slice (sa ids) n2 cap2)
    (hr : ∀ a' cap' ids, r.den (ρ.add ⟨[], [], [], [k + n2, cap'], [a']⟩) ids = .slice a' (k + n2) cap') (hhp : m'.hp = m.hp) (hfit : hpFits m.c m.hp.length m.hp = true) (hc : ∀ a' cap', (ρ.add ⟨[], [], [], [k + n2, cap'], [a']⟩).cnt = m'.c)
    (h : ∀ a' cap', (∀ j, cap' ≠ 0 → abk a' = some j → C.W.heap.size ≤ j ∧ ¬ hx.F j) → t.holds C (ρ.add ⟨[], [], [], [k + n2, cap'], [a']⟩) pre (hx.and (HX.rw sz e a' (k + n2) cap' (us ++ ys))) L) : (Tree.gen (.call ac) ty ps m (some r) m' t).holds C ρ pre hx L := by
  intro ids w hp hf
  subst hac
  unfold GenRun
  obtain ⟨i0, hi, hz0, hz1, hz2⟩ := info_parts hinfo
  have hcs := hys ids w hp hf
  have hyl : 0 < ys.length := by rw [hlen]; exact Nat.mul_pos hpos hsz
  obtain ⟨ha, hab, hcc⟩ := hcs hyl
  obtain ⟨ad, had⟩ : ∃ ad, sa ids = some ad := by
    cases hs : sa ids with
    | none => rw [hs] at ha; simp [PlainA] at ha
    | some ad => exact ⟨ad, rfl⟩
  rw [had] at ha hcc
  have hnews : ∀ j u, ys[j]? = some u → w.cell? (ad.add j) = some u := fun j u hj => by
    have e : ad = ⟨blk (some ad), ofs (some ad), none⟩ := Option.some.inj ha
    rw [e, Go.WideShapes.add_plain]; exact hcc j u hj
  have hb := hf.blk bn _ _ hn
  rw [hus] at hb
  obtain ⟨v', w', hrun, ho, hg⟩ := run_append_arg_grows (P := C.P) w st ty e i0 z sz bytes ht hi hz0 hz1 hz2 hz hsz ⟨idAt ids bn, 0, none⟩ k k us hul (fun j u hj => by
    rw [add_plain', cells_blk hb, Nat.zero_add]; exact hj) ad n2 cap2 ys hlen hnews (by omega) h63 hbytes
  obtain ⟨a', cap', rfl, hc0, hrow, hnew⟩ : ∃ a' cap', v' = .slice a' (k + n2) cap' ∧ cap' ≠ 0 ∧ (HX.rw sz e a' (k + n2) cap' (us ++ ys)).X w' ∧ ∀ j, abk a' = some j → w.heap.size ≤ j := by
    rcases ho.2 with ⟨q, q2⟩ | ⟨g, c2, cur, q, hb1, hgk, hn1, _⟩
    · omega
    · have ho2 := owns_base ho (Nat.zero_le w.heap.size)
      subst q
      exact ⟨_, c2, rfl, by omega, .inr ⟨by omega, ho2⟩, fun j hj => by cases hj; exact hb1⟩
  have hlt : ∀ k, abk a' = some k → k < w'.heap.size := fun k hk => by
    obtain ⟨g, _, rfl, q, _⟩ := rw_open hrow hc0
    cases hk; exact q
  simp only [execOp, resolve, invoke, builtin, hso, hxo ids hp, had, Sem.run_bind, Sem.run_pure, Result.andThen_ok, List.map_toArray, List.map_cons, List.map_nil, hrun]
  refine ⟨⟨[], [], [], [k + n2, cap'], [a']⟩, ids, hx.and (HX.rw sz e a' (k + n2) cap' (us ++ ys)), ?_, List.prefix_refl _, hf.turn (hx' := hx.and (HX.rw sz e a' (k + n2) cap' (us ++ ys))) hg (fun b e => by cases e) ⟨hx.loc w w' hf.x fun k hk => hg.block k (hf.sep k hk).1 (fun q => by cases q), hrow⟩ (fun k hk => ?_) hhp hfit (hc _ _) oneNil, holds_pre t hp (h a' cap' (fun k _ hk => ⟨Nat.le_trans hf.chg.size (hnew k hk), fun hF => by have h3 := hnew k hk; have h4 := (hf.sep _ hF).1; omega⟩))⟩
  · simp only [Option.map_some, hr]
  · rcases hk with hk | hk
    · exact .inl hk
    · exact .inr ⟨hnew k hk.2, hlt k hk.2⟩
end
end Go.Eng
