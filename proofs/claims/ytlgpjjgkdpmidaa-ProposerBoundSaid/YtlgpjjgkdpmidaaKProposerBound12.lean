/- Part 12 of the texts of a proof about the given program: what the statement's proof needs of them. -/
import Derived.Laws.BytesArg
import GoSem.Extern.Table
import Derived.Laws.Cover3
import Derived.KernelRfl
import Derived.Test.YtlgpjjgkdpmidaaKProposerBound11
namespace Go.Eng
open Go.RowKit Go.Syn Go.MapKept
set_option linter.unusedVariables false
set_option linter.unusedSimpArgs false
section
variable {C : Cfg} {ρ : Env} {pre : List Nat} {hx hx' rest : HX} {L : Stack} {m m' : Mem} {ty : Nat} {ps : List (Nat × SV)} {t : Tree}
theorem node_appends {st e : TypeId} {so xo : Operand} {ac : Go.Call} {r : SV} {z : Value} {sz bytes : Nat} (hac : ac = { callee := .builtin .append, args := #[so, xo], argTypes := #[st, st] }) (ht : C.P.underlying st = some (.slice e)) (hinfo : (C.P.info? e).map (fun i => (i.zero, i.size, i.bytes)) = some (some z, sz, bytes)) (hz : z.cells.size = sz) (hsz : 0 < sz)
    (a : Option Addr) (n cap : Nat) (xs : List Value) (sa : List Nat → Option Addr) (n2 cap2 : Nat) (ys : List Value) (hlen : ys.length = n2 * sz) (hxs : ∀ ids w, pre <+: ids → Facts C m ρ ids hx w → (HX.rw sz e a n cap xs).X w) (hys : ∀ ids w, pre <+: ids → Facts C m ρ ids hx w → Cells w (sa ids) ys) (h1 : ∀ u ∈ ys, u.oneCell' = true)
    (hrest : ∀ w, hx.X w → rest.X w ∧ ∀ k, rest.F k → hx.F k) (hrow : ∀ k, cap ≠ 0 → abk a = some k → hx.F k) (hdis : ∀ k, cap ≠ 0 → abk a = some k → ¬ rest.F k) (hM : ∀ k, cap ≠ 0 → abk a = some k → C.W.heap.size ≤ k ∨ C.M k)
    (h63 : n + n2 ≤ maxLen) (hbytes : (n + n2) * bytes ≤ 140737488355328) (hso : ∀ ids, envOf ρ ids ps so = .slice a n cap) (hxo : ∀ ids, pre <+: ids → envOf ρ ids ps xo = .slice (sa ids) n2 cap2)
    (hr : ∀ a' cap' ids, r.den (ρ.add ⟨[], [], [], [n + n2, cap'], [a']⟩) ids = .slice a' (n + n2) cap') (hhp : m'.hp = m.hp) (hfit : hpFits m.c m.hp.length m.hp = true) (hc : ∀ a' cap', (ρ.add ⟨[], [], [], [n + n2, cap'], [a']⟩).cnt = m'.c)
    (h : ∀ a' cap', (n2 = 0 → a' = a ∧ cap' = cap) → (∀ k, cap' ≠ 0 → abk a' = some k → ¬ rest.F k) → (∀ k, cap' ≠ 0 → abk a' = some k → (cap ≠ 0 ∧ abk a = some k) ∨ (C.W.heap.size ≤ k ∧ ¬ hx.F k)) → t.holds C (ρ.add ⟨[], [], [], [n + n2, cap'], [a']⟩) pre (rest.and (HX.rw sz e a' (n + n2) cap' (xs ++ ys))) L) :
    (Tree.gen (.call ac) ty ps m (some r) m' t).holds C ρ pre hx L := by
  intro ids w hp hf
  subst hac
  unfold GenRun
  obtain ⟨i0, hi, hz0, hz1, hz2⟩ := info_parts hinfo
  have hrw := hxs ids w hp hf
  have hcs := hys ids w hp hf
  rcases Nat.eq_zero_or_pos n2 with h0 | h0
  · subst h0
    have hye : ys = [] := List.eq_nil_of_length_eq_zero (by rw [hlen]; simp)
    subst hye
    have hle := rw_le hrw
    have hrun : (Builtin.append_ #[st, st] ty #[.slice a n cap, .slice (sa ids) 0 cap2]).run C.P w = .ok (.slice a n cap) w := by
      have e0 : n + 0 ≤ cap := by omega
      cases a <;> cases sa ids <;> simp [Builtin.append_, run_underlying ht, sizeOf, typeInfo, hi, Builtin.lenOf, Builtin.firstCells, storeCells, loadCells, loadCellsFrom, hle.1]
    simp only [execOp, resolve, invoke, builtin, hso, hxo ids hp, Sem.run_bind, Sem.run_pure, Result.andThen_ok, List.map_toArray, List.map_cons, List.map_nil, hrun]
    refine ⟨⟨[], [], [], [n + 0, cap], [a]⟩, ids, rest.and (HX.rw sz e a (n + 0) cap (xs ++ [])), ?_, List.prefix_refl _, hf.turn (hx' := rest.and (HX.rw sz e a (n + 0) cap (xs ++ []))) (grown_none w) (fun b e => by cases e) ⟨(hrest w hf.x).1, by rw [List.append_nil]; exact hrw⟩ (fun k hk => ?_) hhp hfit (hc _ _) oneNil, holds_pre t hp (h a cap (fun _ => ⟨rfl, rfl⟩) (fun k h1 h2 => hdis k h1 h2) (fun k h1 h2 => .inl ⟨h1, h2⟩))⟩
    · rw [Option.map_some, hr]; rfl
    · rcases hk with hk | hk
      · exact .inl ((hrest w hf.x).2 k hk)
      · exact .inl (hrow k hk.1 hk.2)
  · have hpos : 0 < ys.length := by rw [hlen]; exact Nat.mul_pos h0 hsz
    obtain ⟨ha, hab, hcc⟩ := hcs hpos
    obtain ⟨ad, had⟩ : ∃ ad, sa ids = some ad := by
      cases hs : sa ids with
      | none => rw [hs] at ha; simp [PlainA] at ha
      | some ad => exact ⟨ad, rfl⟩
    rw [had] at ha hcc
    have hnews : ∀ j u, ys[j]? = some u → w.cell? (ad.add j) = some u := fun j u hj => by
      have e : ad = ⟨blk (some ad), ofs (some ad), none⟩ := Option.some.inj ha
      rw [e, Go.WideShapes.add_plain]; exact hcc j u hj
    obtain ⟨a', cap', w', hrun, hc0, hrow', hg, hblk⟩ := run_rw (P := C.P) w st ty e i0 z sz bytes ht hi hz0 hz1 hz2 hz hsz a n cap xs hrw ad n2 cap2 ys h0 hlen hnews h1 h63 hbytes
    have hlt : ∀ k, abk a' = some k → k < w'.heap.size := fun k hk => by
      obtain ⟨g, _, rfl, q, _⟩ := rw_open hrow' hc0
      cases hk; exact q
    have hrow1 : ∀ b, (if cap = 0 then none else abk a) = some b → cap ≠ 0 ∧ abk a = some b := fun b hb => by
      by_cases q : cap = 0
      · rw [if_pos q] at hb; cases hb
      · rw [if_neg q] at hb; exact ⟨q, hb⟩
    have hwhere : ∀ k, abk a' = some k → (cap ≠ 0 ∧ abk a = some k) ∨ w.heap.size ≤ k := fun k hk => by
      rcases hblk with ⟨q, q1⟩ | ⟨g, q1, q2⟩
      · exact .inl ⟨q, by rw [← q1]; exact hk⟩
      · rw [q1] at hk; cases hk; exact .inr q2
    have hnF : ∀ k, w.heap.size ≤ k → ¬ hx.F k := fun k hk hF => by have := (hf.sep _ hF).1; omega
    simp only [execOp, resolve, invoke, builtin, hso, hxo ids hp, had, Sem.run_bind, Sem.run_pure, Result.andThen_ok, List.map_toArray, List.map_cons, List.map_nil, hrun]
    refine ⟨⟨[], [], [], [n + n2, cap'], [a']⟩, ids, rest.and (HX.rw sz e a' (n + n2) cap' (xs ++ ys)), ?_, List.prefix_refl _, hf.turn (hx' := rest.and (HX.rw sz e a' (n + n2) cap' (xs ++ ys))) hg (fun b e => ?_) ⟨?_, hrow'⟩ (fun k hk => ?_) hhp hfit (hc _ _) oneNil, holds_pre t hp (h a' cap' (fun q => by omega) (fun k _ hk hF => ?_) (fun k _ hk => ?_))⟩
    · simp only [Option.map_some, hr]
    · exact ⟨hrow _ (hrow1 b e).1 (hrow1 b e).2, hM b (hrow1 b e).1 (hrow1 b e).2⟩
    · refine rest.loc w w' (hrest w hf.x).1 fun k hk => hg.block k (hf.sep k ((hrest w hf.x).2 k hk)).1 fun q => ?_
      obtain ⟨q1, q2⟩ := hrow1 k q.symm
      exact hdis k q1 q2 hk
    · rcases hk with hk | hk
      · exact .inl ((hrest w hf.x).2 k hk)
      · rcases hwhere k hk.2 with q | q
        · exact .inl (hrow k q.1 q.2)
        · exact .inr ⟨q, hlt k hk.2⟩
    · rcases hwhere k hk with q | q
      · exact hdis k q.1 q.2 hF
      · exact hnF k q ((hrest w hf.x).2 k hF)
    · rcases hwhere k hk with q | q
      · exact .inl q
      · exact .inr ⟨Nat.le_trans hf.chg.size q, hnF k q⟩
def sliA (a : Option Addr) (lo cap sz : Nat) : Option Addr := if cap = lo then a else a.map (·.add (lo * sz))
theorem node_from {st e : TypeId} {xo lo : Operand} {r : SV} {z : Value} {n cap l sz bytes : Nat} (a : Option Addr) (ht : C.P.underlying st = some (.slice e)) (hel : C.P.elem st = e) (hinfo : (C.P.info? e).map (fun i => (i.zero, i.size, i.bytes)) = some (some z, sz, bytes))
    (hxo : ∀ ids, envOf ρ ids ps xo = .slice a n cap) (hlo : ∀ ids, envOf ρ ids ps lo = .int .i64 (l : Int)) (hl : l ≤ n)
    (hr : ∀ ids, r.den (ρ.add ⟨[], [], [], [n - l, cap - l], [sliA a l cap sz]⟩) ids = .slice (sliA a l cap sz) (n - l) (cap - l)) (hhp : m'.hp = m.hp) (hfit : hpFits m.c m.hp.length m.hp = true) (hc : (ρ.add ⟨[], [], [], [n - l, cap - l], [sliA a l cap sz]⟩).cnt = m'.c)
    (h : t.holds C (ρ.add ⟨[], [], [], [n - l, cap - l], [sliA a l cap sz]⟩) pre hx L) :
    (Tree.gen (.slice st xo (some lo) none none) ty ps m (some r) m' t).holds C ρ pre hx L := by
  obtain ⟨i0, hi, hz0, hz1, hz2⟩ := info_parts hinfo
  refine node_gpure (V := .slice (sliA a l cap sz) (n - l) (cap - l)) _ (fun ids w hp hf => ?_) hr hhp hfit hc oneNil h
  have hsize : (sizeOf (C.P.elem st)).run C.P w = .ok sz w := by
    rw [hel]; simp [sizeOf, typeInfo, hi, hz1]
  have ht' : C.P.underlying st = some (.slice (C.P.elem st)) := by rw [ht, hel]
  have hrun : (Instr.sliceAt st (.slice a n cap) (some (.int .i64 (l : Int))) none none).run C.P w = .ok (.slice (sliA a l cap sz) (n - l) (cap - l)) w := by
    rw [run_sliceAt_slice w st _ _ _ _ ht', run_slice_l w st a n cap ht' .i64 (l : Int) (by omega) (by omega), hsize]
    simp [Result.andThen, sliced, sliA]
  simp only [execOp, hxo, hlo, Sem.run_bind, Sem.run_pure, Result.andThen_ok, Option.map_none, Option.map_some, hrun]
end
section
variable {C : Cfg} {ρ : Env} {pre : List Nat} {hx : HX} {L : Stack} {m m' : Mem} {ty : Nat} {ps : List (Nat × SV)} {t : Tree}
end
end Go.Eng

namespace Go.Eng
open Go.RowKit Go.Syn
set_option linter.unusedVariables false
set_option linter.unusedSimpArgs false
section
variable {C : Cfg} {ρ : Env} {pre : List Nat} {hx hx' : HX} {L : Stack} {m m' : Mem} {ty : Nat} {ps : List (Nat × SV)} {t : Tree}
theorem node_ldp {n off sz bty : Nat} {e : IE} {cs bcs : List LV} (vs : Vals) (i : Nat) {us : List Value} (hn : m.hp[n]? = some (bty, bcs)) (hi : e.den ρ = (i : Int)) (hb : ∀ ids, cellsDen ρ ids bcs = us) (hcs : ∀ ids j u, (cellsDen (ρ.add vs) ids cs)[j]? = some u → us[off + i * sz + j]? = some u)
    (hc : (ρ.add vs).cnt = m'.c) (h1 : ∀ v, v ∈ vs.v → v.oneCell' = true) (h : t.holds C (ρ.add vs) pre hx L) : (Tree.ld true (.pix n off sz e) cs m m' t).holds C ρ pre hx L := by
  refine node_ld vs (fun ids w hp hf => ?_) (fun ids w hf => envUp hf hc h1) h
  refine ⟨⟨idAt ids n, off + i * sz, none⟩, ?_, fun q => q, fun j u hj => ?_⟩
  · simp only [LV.den, hi, Int.toNat_natCast]
  · have h2 := hf.blk n bty bcs hn
    rw [hb] at h2
    rw [add_plain', cells_blk h2, hcs ids j u hj]
theorem node_bin {f : BinOp} {bt : Nat} {xo yo : Operand} {fl : TypeId} {r : SV} {x y V : Value} (vs : Vals) (hxo : ∀ ids, envOf ρ ids ps xo = x) (hyo : ∀ ids, envOf ρ ids ps yo = y) (hg : ∀ w, (eqGuard f bt xo yo x y).run C.P w = .ok () w) (hrun : ∀ w, (binOp f bt x y).run C.P w = .ok V w) (hr : ∀ ids, r.den (ρ.add vs) ids = V) (hhp : m'.hp = m.hp) (hfit : hpFits m.c m.hp.length m.hp = true) (hc : (ρ.add vs).cnt = m'.c) (h1 : ∀ v, v ∈ vs.v → v.oneCell' = true)
    (h : t.holds C (ρ.add vs) pre hx L) : (Tree.gen (.binOp f bt xo yo fl) ty ps m (some r) m' t).holds C ρ pre hx L := by
  refine node_gpure (V := V) vs (fun ids w hp hf2 => ?_) hr hhp hfit hc h1 h
  have hr2 := hrun w
  have hg2 := hg w
  unfold execOp
  simp only [hxo, hyo]
  simp [hr2, hg2]
end
end Go.Eng

namespace Go.Eng
open Go.RowKit Go.Syn
set_option linter.unusedVariables false
set_option linter.unusedSimpArgs false
section
variable {C : Cfg} {ρ : Env} {pre : List Nat} {hx : HX} {L : Stack} {m m' : Mem} {ty : Nat} {ps : List (Nat × SV)} {t : Tree}
end
end Go.Eng

namespace Go.Eng
open Go.RowKit Go.Syn
set_option linter.unusedVariables false
section
variable {C : Cfg} {ρ : Env} {pre : List Nat} {hx : HX} {L : Stack} {m m' : Mem} {args : List SV} {r : SV} {t f : Tree} {b : BE}
theorem br_F (c : Bool) (hb : b.den ρ = c) (hc : c = false) (h : f.holds C ρ pre hx L) : (Tree.br b t f).holds C ρ pre hx L := br_f (hb.trans hc) h
theorem br_T (c : Bool) (hb : b.den ρ = c) (hc : c = true) (h : t.holds C ρ pre hx L) : (Tree.br b t f).holds C ρ pre hx L := br_t (hb.trans hc) h
theorem again_V {key : Nat} {es : Vec} {I : Vals → HX → Prop} (v' : Vals) (hI : lkup key L = some I) (hv : ∀ ids, es.den ρ ids = v') (hx' : HX) (hX : ∀ w ids, Facts C m ρ ids hx w → HXok hx' w ids) (h : I v' hx') : (Tree.again key es m).holds C ρ pre hx L :=
  fun ids w hp hf => ⟨hx', hX w ids hf, I, hI, by rw [hv ids]; exact h⟩
theorem node_P {f : Nat} (vs : Vals) (AS : Array Value) (V : Value) (hargs : ∀ ids, (args.map (SV.den ρ ids)).toArray = AS) (hr : ∀ ids, r.den (ρ.add vs) ids = V) (hhp : m'.hp = m.hp) (hfit : hpFits m.c m.hp.length m.hp = true) (hc : (ρ.add vs).cnt = m'.c) (h1 : ∀ v, v ∈ vs.v → v.oneCell' = true) (hcall : ∀ ids w, pre <+: ids → Facts C m ρ ids hx w → Calls C.P f AS w (PureAt w V))
    (h : t.holds C (ρ.add vs) pre hx L) : (Tree.call f args m r m' t).holds C ρ pre hx L :=
  node_pure vs hhp hfit hc h1 (fun ids w hp hf => by rw [hargs, hr]; exact hcall ids w hp hf) h
end
end Go.Eng

namespace Go.Eng
open Go.RowKit Go.Syn
set_option linter.unusedVariables false
theorem nodup_idx {α : Type} {l : List α} (h : l.Nodup) {i j : Nat} {x : α} (hi : l[i]? = some x) (hj : l[j]? = some x) : i = j := by
  obtain ⟨q1, e1⟩ := List.getElem?_eq_some_iff.1 hi
  obtain ⟨q2, e2⟩ := List.getElem?_eq_some_iff.1 hj
  have hp := List.pairwise_iff_getElem.1 h
  rcases Nat.lt_trichotomy i j with q | q | q
  · exact absurd (e1.trans e2.symm) (hp i j q1 q2 q)
  · exact q
  · exact absurd (e2.trans e1.symm) (hp j i q2 q1 q)
theorem blk_cells {w : World} {b ty : Nat} {us : List Value} (h : Blk w b us ty) : Cells w (some ⟨b, 0, none⟩) us := fun h0 => by
  refine ⟨rfl, ?_, fun i u hi => ?_⟩
  · show b < w.heap.size
    rcases Nat.lt_or_ge b w.heap.size with q | q
    · exact q
    · have h2 : w.heap[b]? = _ := h
      rw [Array.getElem?_eq_none q] at h2; cases h2
  · have := cells_blk (o := 0) h i
    rw [Nat.zero_add] at this
    show w.cell? ⟨b, 0 + i, none⟩ = some u
    rw [Nat.zero_add, ← hi]
    exact this
section
variable {C : Cfg} {ρ : Env} {pre : List Nat} {hx hx2 : HX} {L : Stack} {m m' : Mem} {args : List SV} {r : SV} {t : Tree} {ids : List Nat} {w w' : World}
theorem node_out {f : Nat} (AS : List Nat → Array Value) (Q : Vals → HX → Prop) (hargs : ∀ ids, (args.map (SV.den ρ ids)).toArray = AS ids)
    (hcall : ∀ ids w, pre <+: ids → Facts C m ρ ids hx w → Calls C.P f (AS ids) w (fun e w' => ∃ vs hx2, Q vs hx2 ∧ e = .returned (r.den (ρ.add vs) ids) ∧ hx2.X w' ∧ (∀ k, hx2.F k → w.heap.size ≤ k ∧ k < w'.heap.size) ∧ Below w.heap.size w w'))
    (hhp : m'.hp = m.hp) (hfit : hpFits m.c m.hp.length m.hp = true) (hc : ∀ vs hx2, Q vs hx2 → (ρ.add vs).cnt = m'.c ∧ ∀ v, v ∈ vs.v → v.oneCell' = true)
    (h : ∀ vs hx2, Q vs hx2 → (∀ k, hx2.F k → C.W.heap.size ≤ k ∧ ¬ hx.F k) → t.holds C (ρ.add vs) pre (hx.and hx2) L) : (Tree.call f args m r m' t).holds C ρ pre hx L := by
  intro ids w hp hf
  rw [hargs]
  refine (hcall ids w hp hf).mono ?_
  rintro e w' ⟨vs, hx2, hQ, rfl, hX, hge, hbel⟩
  have hg : w.grownBy w' none := ⟨hbel.os, hbel.tape, hbel.output, hbel.size, fun k hk _ => hbel.block k hk⟩
  refine ⟨vs, ids, _, rfl, List.prefix_refl _, hf.turn (hx' := hx.and hx2) hg (fun b e => by cases e) ⟨hx.loc w w' hf.x fun k hk => hbel.block k (hf.sep k hk).1, hX⟩ (fun k hk => ?_) hhp hfit (hc _ _ hQ).1 (hc _ _ hQ).2, holds_pre t hp (h vs hx2 hQ (fun k h2 => ⟨Nat.le_trans hf.chg.size (hge k h2).1, fun q => by have := (hf.sep _ q).1; have := (hge k h2).1; omega⟩))⟩
  rcases hk with hk | hk
  · exact .inl hk
  · exact .inr (hge k hk)
theorem holds_env {ρ' : Env} (e : ρ = ρ') (h : t.holds C ρ' pre hx L) : t.holds C ρ pre hx L := e ▸ h
theorem holds_eq {hx' : HX} (e : hx = hx') (h : t.holds C ρ pre hx' L) : t.holds C ρ pre hx L := e ▸ h
theorem need_k {p : Need} (P : Prop) (he : p.den ρ = P) (hp : P) (h : t.holds C ρ pre hx L) : (Tree.need p t).holds C ρ pre hx L := by
  have hd : p.den ρ := he.mpr hp
  exact ⟨hd, fun _ => h⟩
theorem node_PI {f : Nat} (vs : Vals) (AS : List Nat → Array Value) (V : Value) (hargs : ∀ ids, (args.map (SV.den ρ ids)).toArray = AS ids) (hr : ∀ ids, r.den (ρ.add vs) ids = V) (hhp : m'.hp = m.hp) (hfit : hpFits m.c m.hp.length m.hp = true) (hc : (ρ.add vs).cnt = m'.c) (h1 : ∀ v, v ∈ vs.v → v.oneCell' = true) (hcall : ∀ ids w, pre <+: ids → Facts C m ρ ids hx w → Calls C.P f (AS ids) w (PureAt w V))
    (h : t.holds C (ρ.add vs) pre hx L) : (Tree.call f args m r m' t).holds C ρ pre hx L :=
  node_pure vs hhp hfit hc h1 (fun ids w hp hf => by rw [hargs, hr]; exact hcall ids w hp hf) h
theorem node_ldk {l : LV} {cs : List LV} (vs : Vals) (V : List Nat → Value) (us : List Value) (hl : ∀ ids, l.den ρ ids = V ids) (hcs : ∀ ids, cellsDen (ρ.add vs) ids cs = us) (hcell : ∀ ids w, pre <+: ids → Facts C m ρ ids hx w → CellsAt w (V ids) us (fun _ => False)) (hc : (ρ.add vs).cnt = m'.c) (h1 : ∀ v, v ∈ vs.v → v.oneCell' = true)
    (h : t.holds C (ρ.add vs) pre hx L) : (Tree.ld true l cs m m' t).holds C ρ pre hx L :=
  node_ld vs (fun ids w hp hf => by rw [hl, hcs]; exact hcell ids w hp hf) (fun ids w hf => envUp hf hc h1) h
theorem node_ld0 {l : LV} {cs : List LV} {k : Cnt} (vs : Vals) (V : Value) (us : List Value) (hl : ∀ ids, l.den ρ ids = V) (hcs : ∀ ids, cellsDen (ρ.add vs) ids cs = us) (hcell : CellsAt C.W V us C.M) (hρ : EnvOk ρ k) (hc : (ρ.add vs).cnt = m'.c) (h1 : ∀ v, v ∈ vs.v → v.oneCell' = true)
    (h : t.holds C (ρ.add vs) pre hx L) : (Tree.ld false l cs m m' t).holds C ρ pre hx L :=
  ⟨vs, fun ids => by rw [hl, hcs]; exact hcell, ⟨hc, fun v hv => by
    simp only [Env.add, List.mem_append] at hv
    exact hv.elim (hρ.one v) (h1 v)⟩, h⟩
end
end Go.Eng

namespace Go.Eng
open Go.RowKit Go.Syn
set_option linter.unusedVariables false
theorem flat_drop {α : Type} {f : α → List Value} {n : Nat} (hf : ∀ x, (f x).length = n) (es : List α) : ∀ i, (es.flatMap f).drop (i * n) = (es.drop i).flatMap f := by
  induction es with
  | nil => intro i; simp
  | cons x r ih =>
    intro i
    cases i with
    | zero => simp
    | succ i =>
      rw [List.drop_succ_cons, List.flatMap_cons, List.drop_append, hf, List.drop_of_length_le (by rw [hf, Nat.add_mul]; omega), List.nil_append, show (i + 1) * n - n = i * n by rw [Nat.add_mul]; omega, ih]
theorem flat_get {α : Type} {f : α → List Value} {n : Nat} (hf : ∀ x, (f x).length = n) {es : List α} {i : Nat} {e : α} (h : es[i]? = some e) {j : Nat} {u : Value} (hj : (f e)[j]? = some u) : (es.flatMap f)[i * n + j]? = some u := by
  obtain ⟨hi, he⟩ := List.getElem?_eq_some_iff.1 h
  have h1 : (es.flatMap f).drop (i * n) = f e ++ (es.drop (i + 1)).flatMap f := by
    rw [flat_drop hf, List.drop_eq_getElem_cons hi, he, List.flatMap_cons]
  have hl : j < (f e).length := by
    rcases Nat.lt_or_ge j (f e).length with q | q
    · exact q
    · rw [List.getElem?_eq_none q] at hj; cases hj
  rw [← List.getElem?_drop, h1, List.getElem?_append_left hl]; exact hj
theorem flat_part {α : Type} {f : α → List Value} {n : Nat} (hf : ∀ x, (f x).length = n) {w : World} {a : Option Addr} {es : List α} (h : Cells w a (es.flatMap f)) {i : Nat} {e : α} (hi : es[i]? = some e) {o : Nat} (us : List Value) (hu : ∀ j u, us[j]? = some u → (f e)[o + j]? = some u) (h0 : us ≠ []) :
    a.isSome = true ∧ ∀ (N : Nat → Prop), ¬ N ((a.getD ⟨0, 0, none⟩).block) → CellsAt w (.pointer (some (((a.getD ⟨0, 0, none⟩).add (i * n)).add o))) us N :=
  cl_part h us (fun j u hj => by rw [Nat.add_assoc]; exact flat_get hf hi (hu j u hj)) h0
section
variable {C : Cfg} {ρ : Env} {pre : List Nat} {hx : HX} {L : Stack} {m m' : Mem} {args : List SV} {r : SV} {t : Tree}
end
end Go.Eng

namespace Go.Eng
open Go.RowKit Go.Syn
set_option linter.unusedVariables false
section
variable {C : Cfg} {ρ : Env} {pre : List Nat} {rest hx : HX} {L : Stack} {m m' : Mem} {ty : Nat} {ps : List (Nat × SV)} {t : Tree}
end
end Go.Eng

namespace Go.Proofs.Ytlgpjjgkdpmidaa
open Go.Eng
abbrev tCmdb0 : List LV := [(tVi 0), (tVi 1), (tVi 2), (tVi 3), (tVi 4), (tVi 5), (tVi 6), (tVi 7)]
set_option maxRecDepth 100000 in
theorem tCmd : (runF ⟨tt, fns, {}⟩ (Try.f66.body.getD .skip) Try.f66.results.toList (entry Try.f66.ntmps [.agg [.int .i64 (.var 0), .int .i64 (.var 1), .int .i64 (.var 2), .int .i64 (.var 3), .int .i64 (.var 4), .int .i64 (.var 5), .int .i64 (.var 6), .int .i64 (.var 7)]] [] ⟨8, 0, 0, 0, 0⟩)) =
  (.br (.cmp .lss (.var 0) (.lit 1)) (.done (.lf (tLi 23)) ⟨[(36, tCmdb0)], ⟨8, 0, 0, 0, 0⟩⟩) (.br (.cmp .gtr (.var 0) (.lit 1073741824)) (.done (.lf (tLi 23)) ⟨[(36, tCmdb0)], ⟨8, 0, 0, 0, 0⟩⟩) (.br (.cmp .lss (.var 1) (.lit 1)) (.done (.lf (tLi 23)) ⟨[(36, tCmdb0)], ⟨8, 0, 0, 0, 0⟩⟩) (.br (.cmp .gtr (.var 1) (.lit 1099511627776)) (.done (.lf (tLi 23)) ⟨[(36, tCmdb0)], ⟨8, 0, 0, 0, 0⟩⟩) (.br (.cmp .lss (.var 2) (.lit 0)) (.done (.lf (tLi 23)) ⟨[(36, tCmdb0)], ⟨8, 0, 0, 0, 0⟩⟩) (.br (.cmp .geq (.var 2) (.var 1)) (.done (.lf (tLi 23)) ⟨[(36, tCmdb0)], ⟨8, 0, 0, 0, 0⟩⟩) (.call 71 [(.agg [(tVi 3), (tVi 4), (tVi 5), (tVi 6), (tVi 7)])] ⟨[(36, tCmdb0)], ⟨8, 0, 0, 0, 0⟩⟩ (.lf (tVi 8)) ⟨[(36, tCmdb0)], ⟨9, 0, 0, 0, 0⟩⟩ (.done (.lf (tVi 8)) ⟨[(36, tCmdb0)], ⟨9, 0, 0, 0, 0⟩⟩)))))))) := by kernel_rfl
abbrev tRCmdb0 : List LV := [(tVi 0), (tVi 1), (tVi 2), (tVi 3), (tVi 4), (tVi 5), (tVi 6), (tVi 7)]
set_option maxRecDepth 100000 in
theorem tRCmd : (runF ⟨tt, fns, {}⟩ (Try.f37.body.getD .skip) Try.f37.results.toList (entry Try.f37.ntmps [.agg [.int .i64 (.var 0), .int .i64 (.var 1), .int .i64 (.var 2), .int .i64 (.var 3), .int .i64 (.var 4), .int .i64 (.var 5), .int .i64 (.var 6), .int .i64 (.var 7)]] [] ⟨8, 0, 0, 0, 0⟩)) =
  (.br (.cmp .lss (.var 0) (.lit 1)) (.done (.lf (tLi 23)) ⟨[(36, tRCmdb0)], ⟨8, 0, 0, 0, 0⟩⟩) (.br (.cmp .gtr (.var 0) (.lit 1073741824)) (.done (.lf (tLi 23)) ⟨[(36, tRCmdb0)], ⟨8, 0, 0, 0, 0⟩⟩) (.br (.cmp .lss (.var 1) (.lit 1)) (.done (.lf (tLi 23)) ⟨[(36, tRCmdb0)], ⟨8, 0, 0, 0, 0⟩⟩) (.br (.cmp .gtr (.var 1) (.lit 1099511627776)) (.done (.lf (tLi 23)) ⟨[(36, tRCmdb0)], ⟨8, 0, 0, 0, 0⟩⟩) (.br (.cmp .lss (.var 2) (.lit 0)) (.done (.lf (tLi 23)) ⟨[(36, tRCmdb0)], ⟨8, 0, 0, 0, 0⟩⟩) (.br (.cmp .geq (.var 2) (.var 1)) (.done (.lf (tLi 23)) ⟨[(36, tRCmdb0)], ⟨8, 0, 0, 0, 0⟩⟩) (.call 53 [(.agg [(tVi 3), (tVi 4), (tVi 5), (tVi 6), (tVi 7)])] ⟨[(36, tRCmdb0)], ⟨8, 0, 0, 0, 0⟩⟩ (.lf (.bool (.var 0))) ⟨[(36, tRCmdb0)], ⟨8, 1, 0, 0, 0⟩⟩ (.br (.not (.var 0)) (.done (.lf (tLi 22)) ⟨[(36, tRCmdb0)], ⟨8, 1, 0, 0, 0⟩⟩) (.done (.lf (tLi 0)) ⟨[(36, tRCmdb0)], ⟨8, 1, 0, 0, 0⟩⟩))))))))) := by kernel_rfl
abbrev tChkb0 : List LV := [(tVi 2), (tVi 3), (tVi 4), (tVi 5), (tVi 6), (tVi 7), (tVi 8), (tVi 9)]
abbrev tChkm0 : Mem := ⟨[(31, [(tVi 0), (tSl 0 0 1), (tSl 1 2 3)]), (36, tChkb0)], ⟨11, 0, 0, 4, 2⟩⟩
abbrev tChkm1 : Mem := ⟨[(31, [(tVi 0), (tSl 0 0 1), (tSl 1 2 3)])], ⟨1, 0, 0, 4, 2⟩⟩
abbrev tChkm2 : Mem := ⟨[(31, [(tVi 0), (tSl 0 0 1), (tSl 1 2 3)])], ⟨2, 0, 0, 4, 2⟩⟩
set_option maxRecDepth 100000 in
theorem tChk : (runF ⟨tt, fns, { loops := [(15, ⟨[(50, .int .i64)], []⟩)] }⟩ (Try.f47.body.getD .skip) Try.f47.results.toList (entry Try.f47.ntmps [.agg [.int .i64 (.var 0), .sl 0 (.var 0) (.var 1), .sl 1 (.var 2) (.var 3)]] [] ⟨1, 0, 0, 4, 2⟩)) =
  (.br (.cmp .eql (.var 0) (.lit 0)) (.br (.cmp .gtr (.nat 0) (.lit 0)) (.done (.lf (tLi 25)) tChkm1) (.br (.cmp .gtr (.nat 2) (.lit 0)) (.done (.lf (tLi 25)) tChkm1) (.done (.lf (tLi 0)) tChkm1))) (.br (.cmp .eql (.var 0) (.lit 2)) (.br (.cmp .gtr (.nat 0) (.lit 0)) (.done (.lf (tLi 25)) tChkm1) (.call 26 [(.lf (tSl 1 2 3))] tChkm1 (.lf (tVi 1)) tChkm2 (.done (.lf (tVi 1)) tChkm2))) (.br (.cmp .eql (.var 0) (.lit 1)) (.br (.cmp .lss (.nat 0) (.lit 1)) (.done (.lf (tLi 25)) tChkm1) (.br (.cmp .gtr (.nat 0) (.lit 8)) (.done (.lf (tLi 25)) tChkm1) (.br (.cmp .gtr (.nat 2) (.lit 0)) (.done (.lf (tLi 25)) tChkm1) (.loop 15 ⟨[(.lit 0)], [], [], [], []⟩ tChkm1 tChkm2 (.br (.cmp .lss (.var 1) (.nat 0)) (.need (.inb 0 (.var 1) (.nat 0)) (.ld .false (.adr 0 (.var 1) 8 0) tChkb0 tChkm2 ⟨[(31, [(tVi 0), (tSl 0 0 1), (tSl 1 2 3)])], ⟨10, 0, 0, 4, 2⟩⟩ (.call 66 [(.agg tChkb0)] ⟨[(31, [(tVi 0), (tSl 0 0 1), (tSl 1 2 3)]), (36, tChkb0)], ⟨10, 0, 0, 4, 2⟩⟩ (.lf (tVi 10)) tChkm0 (.br (.cmp .neq (.var 10) (.lit 0)) (.done (.lf (tVi 10)) tChkm0) (.again 15 ⟨[(.op .add .i64 (.var 1) (.lit 1))], [], [], [], []⟩ tChkm0))))) (.done (.lf (tLi 0)) tChkm2)))))) (.done (.lf (tLi 25)) tChkm1)))) := by kernel_rfl
abbrev tRChkb0 : List LV := [(tVi 2), (tVi 3), (tVi 4), (tVi 5), (tVi 6), (tVi 7), (tVi 8), (tVi 9)]
abbrev tRChkm0 : Mem := ⟨[(31, [(tVi 0), (tSl 0 0 1), (tSl 1 2 3)])], ⟨10, 1, 0, 4, 2⟩⟩
abbrev tRChkm1 : Mem := ⟨[(31, [(tVi 0), (tSl 0 0 1), (tSl 1 2 3)])], ⟨11, 1, 0, 4, 2⟩⟩
abbrev tRChkm2 : Mem := ⟨[(31, [(tVi 0), (tSl 0 0 1), (tSl 1 2 3)])], ⟨10, 0, 0, 4, 2⟩⟩
abbrev tRChkm3 : Mem := ⟨[(31, [(tVi 0), (tSl 0 0 1), (tSl 1 2 3)])], ⟨11, 0, 0, 4, 2⟩⟩
abbrev tRChkm4 : Mem := ⟨[(31, [(tVi 0), (tSl 0 0 1), (tSl 1 2 3)])], ⟨1, 0, 0, 4, 2⟩⟩
abbrev tRChkm5 : Mem := ⟨[(31, [(tVi 0), (tSl 0 0 1), (tSl 1 2 3)])], ⟨1, 1, 0, 4, 2⟩⟩
abbrev tRChkm6 : Mem := ⟨[(31, [(tVi 0), (tSl 0 0 1), (tSl 1 2 3)])], ⟨2, 1, 0, 4, 2⟩⟩
abbrev tRChkm7 : Mem := ⟨[(31, [(tVi 0), (tSl 0 0 1), (tSl 1 2 3)])], ⟨2, 0, 0, 4, 2⟩⟩
abbrev tRChkt2 : Tree := (.br (.cmp .eql (.var 0) (.lit 2)) (.call 22 [(.lf (tSl 1 2 3))] tRChkm4 (.lf (.bool (.var 0))) tRChkm5 (.br (.not (.var 0)) (.done (.lf (tLi 24)) tRChkm5) (.loop 8 ⟨[(.lit 0)], [], [], [], []⟩ tRChkm5 tRChkm6 (.br (.cmp .lss (.var 1) (.nat 0)) (.need (.inb 0 (.var 1) (.nat 0)) (.ld .false (.adr 0 (.var 1) 8 0) tRChkb0 tRChkm6 tRChkm0 (.call 37 [(.agg tRChkb0)] tRChkm0 (.lf (tVi 10)) tRChkm1 (.br (.cmp .neq (.var 10) (.lit 0)) (.done (.lf (tVi 10)) tRChkm1) (.again 8 ⟨[(.op .add .i64 (.var 1) (.lit 1))], [], [], [], []⟩ tRChkm1))))) (.done (.lf (tLi 0)) tRChkm6))))) (.loop 8 ⟨[(.lit 0)], [], [], [], []⟩ tRChkm4 tRChkm7 (.br (.cmp .lss (.var 1) (.nat 0)) (.need (.inb 0 (.var 1) (.nat 0)) (.ld .false (.adr 0 (.var 1) 8 0) tRChkb0 tRChkm7 tRChkm2 (.call 37 [(.agg tRChkb0)] tRChkm2 (.lf (tVi 10)) tRChkm3 (.br (.cmp .neq (.var 10) (.lit 0)) (.done (.lf (tVi 10)) tRChkm3) (.again 8 ⟨[(.op .add .i64 (.var 1) (.lit 1))], [], [], [], []⟩ tRChkm3))))) (.done (.lf (tLi 0)) tRChkm7))))
abbrev tRChkt1 : Tree := (.br (.cmp .eql (.var 0) (.lit 1)) (.br (.cmp .eql (.nat 0) (.lit 0)) (.done (.lf (tLi 25)) tRChkm4) (.br (.cmp .gtr (.nat 0) (.lit 8)) (.done (.lf (tLi 25)) tRChkm4) tRChkt2)) tRChkt2)
abbrev tRChkt0 : Tree := (.br (.cmp .neq (.var 0) (.lit 2)) (.br (.cmp .neq (.nat 2) (.lit 0)) (.done (.lf (tLi 25)) tRChkm4) tRChkt1) tRChkt1)
set_option maxRecDepth 100000 in
theorem tRChk : (runF ⟨tt, fns, { loops := [(8, ⟨[(62, .int .i64)], []⟩)] }⟩ (Try.f24.body.getD .skip) Try.f24.results.toList (entry Try.f24.ntmps [.agg [.int .i64 (.var 0), .sl 0 (.var 0) (.var 1), .sl 1 (.var 2) (.var 3)]] [] ⟨1, 0, 0, 4, 2⟩)) =
  (.br (.cmp .lss (.var 0) (.lit 0)) (.done (.lf (tLi 25)) tRChkm4) (.br (.cmp .gtr (.var 0) (.lit 2)) (.done (.lf (tLi 25)) tRChkm4) (.br (.cmp .neq (.var 0) (.lit 1)) (.br (.cmp .neq (.nat 0) (.lit 0)) (.done (.lf (tLi 25)) tRChkm4) tRChkt0) tRChkt0))) := by kernel_rfl
abbrev tRChk0m0 : Mem := ⟨[(31, [(tLi 0), (tSl 0 0 1), (tSl 1 2 3)])], ⟨10, 0, 0, 4, 2⟩⟩
abbrev tRChk0m1 : Mem := ⟨[(31, [(tLi 0), (tSl 0 0 1), (tSl 1 2 3)])], ⟨0, 0, 0, 4, 2⟩⟩
abbrev tRChk0m2 : Mem := ⟨[(31, [(tLi 0), (tSl 0 0 1), (tSl 1 2 3)])], ⟨1, 0, 0, 4, 2⟩⟩
abbrev tRChk0m3 : Mem := ⟨[(31, [(tLi 0), (tSl 0 0 1), (tSl 1 2 3)])], ⟨9, 0, 0, 4, 2⟩⟩
set_option maxRecDepth 100000 in
theorem tRChk0 : (runF ⟨tt, fns, { loops := [(8, ⟨[(62, .int .i64)], []⟩)] }⟩ (Try.f24.body.getD .skip) Try.f24.results.toList (entry Try.f24.ntmps [.agg [.int .i64 (.lit 0), .sl 0 (.var 0) (.var 1), .sl 1 (.var 2) (.var 3)]] [] ⟨0, 0, 0, 4, 2⟩)) =
  (.br (.cmp .neq (.nat 0) (.lit 0)) (.done (.lf (tLi 25)) tRChk0m1) (.br (.cmp .neq (.nat 2) (.lit 0)) (.done (.lf (tLi 25)) tRChk0m1) (.loop 8 ⟨[(.lit 0)], [], [], [], []⟩ tRChk0m1 tRChk0m2 (.br (.cmp .lss (.var 0) (.nat 0)) (.need (.inb 0 (.var 0) (.nat 0)) (.ld .false (.adr 0 (.var 0) 8 0) [(tVi 1), (tVi 2), (tVi 3), (tVi 4), (tVi 5), (tVi 6), (tVi 7), (tVi 8)] tRChk0m2 tRChk0m3 (.call 37 [(.agg [(tVi 1), (tVi 2), (tVi 3), (tVi 4), (tVi 5), (tVi 6), (tVi 7), (tVi 8)])] tRChk0m3 (.lf (tVi 9)) tRChk0m0 (.br (.cmp .neq (.var 9) (.lit 0)) (.done (.lf (tVi 9)) tRChk0m0) (.again 8 ⟨[(.op .add .i64 (.var 0) (.lit 1))], [], [], [], []⟩ tRChk0m0))))) (.done (.lf (tLi 0)) tRChk0m2))))) := by kernel_rfl
abbrev tRChk1m0 : Mem := ⟨[(31, [(tLi 1), (tSl 0 0 1), (tSl 1 2 3)])], ⟨10, 0, 0, 4, 2⟩⟩
abbrev tRChk1m1 : Mem := ⟨[(31, [(tLi 1), (tSl 0 0 1), (tSl 1 2 3)])], ⟨0, 0, 0, 4, 2⟩⟩
abbrev tRChk1m2 : Mem := ⟨[(31, [(tLi 1), (tSl 0 0 1), (tSl 1 2 3)])], ⟨1, 0, 0, 4, 2⟩⟩
abbrev tRChk1m3 : Mem := ⟨[(31, [(tLi 1), (tSl 0 0 1), (tSl 1 2 3)])], ⟨9, 0, 0, 4, 2⟩⟩
set_option maxRecDepth 100000 in
theorem tRChk1 : (runF ⟨tt, fns, { loops := [(8, ⟨[(62, .int .i64)], []⟩)] }⟩ (Try.f24.body.getD .skip) Try.f24.results.toList (entry Try.f24.ntmps [.agg [.int .i64 (.lit 1), .sl 0 (.var 0) (.var 1), .sl 1 (.var 2) (.var 3)]] [] ⟨0, 0, 0, 4, 2⟩)) =
  (.br (.cmp .neq (.nat 2) (.lit 0)) (.done (.lf (tLi 25)) tRChk1m1) (.br (.cmp .eql (.nat 0) (.lit 0)) (.done (.lf (tLi 25)) tRChk1m1) (.br (.cmp .gtr (.nat 0) (.lit 8)) (.done (.lf (tLi 25)) tRChk1m1) (.loop 8 ⟨[(.lit 0)], [], [], [], []⟩ tRChk1m1 tRChk1m2 (.br (.cmp .lss (.var 0) (.nat 0)) (.need (.inb 0 (.var 0) (.nat 0)) (.ld .false (.adr 0 (.var 0) 8 0) [(tVi 1), (tVi 2), (tVi 3), (tVi 4), (tVi 5), (tVi 6), (tVi 7), (tVi 8)] tRChk1m2 tRChk1m3 (.call 37 [(.agg [(tVi 1), (tVi 2), (tVi 3), (tVi 4), (tVi 5), (tVi 6), (tVi 7), (tVi 8)])] tRChk1m3 (.lf (tVi 9)) tRChk1m0 (.br (.cmp .neq (.var 9) (.lit 0)) (.done (.lf (tVi 9)) tRChk1m0) (.again 8 ⟨[(.op .add .i64 (.var 0) (.lit 1))], [], [], [], []⟩ tRChk1m0))))) (.done (.lf (tLi 0)) tRChk1m2)))))) := by kernel_rfl
abbrev tRChk2m0 : Mem := ⟨[(31, [(tLi 2), (tSl 0 0 1), (tSl 1 2 3)])], ⟨10, 1, 0, 4, 2⟩⟩
abbrev tRChk2m1 : Mem := ⟨[(31, [(tLi 2), (tSl 0 0 1), (tSl 1 2 3)])], ⟨0, 0, 0, 4, 2⟩⟩
abbrev tRChk2m2 : Mem := ⟨[(31, [(tLi 2), (tSl 0 0 1), (tSl 1 2 3)])], ⟨0, 1, 0, 4, 2⟩⟩
abbrev tRChk2m3 : Mem := ⟨[(31, [(tLi 2), (tSl 0 0 1), (tSl 1 2 3)])], ⟨1, 1, 0, 4, 2⟩⟩
abbrev tRChk2m4 : Mem := ⟨[(31, [(tLi 2), (tSl 0 0 1), (tSl 1 2 3)])], ⟨9, 1, 0, 4, 2⟩⟩
set_option maxRecDepth 100000 in
theorem tRChk2 : (runF ⟨tt, fns, { loops := [(8, ⟨[(62, .int .i64)], []⟩)] }⟩ (Try.f24.body.getD .skip) Try.f24.results.toList (entry Try.f24.ntmps [.agg [.int .i64 (.lit 2), .sl 0 (.var 0) (.var 1), .sl 1 (.var 2) (.var 3)]] [] ⟨0, 0, 0, 4, 2⟩)) =
  (.br (.cmp .neq (.nat 0) (.lit 0)) (.done (.lf (tLi 25)) tRChk2m1) (.call 22 [(.lf (tSl 1 2 3))] tRChk2m1 (.lf (.bool (.var 0))) tRChk2m2 (.br (.not (.var 0)) (.done (.lf (tLi 24)) tRChk2m2) (.loop 8 ⟨[(.lit 0)], [], [], [], []⟩ tRChk2m2 tRChk2m3 (.br (.cmp .lss (.var 0) (.nat 0)) (.need (.inb 0 (.var 0) (.nat 0)) (.ld .false (.adr 0 (.var 0) 8 0) [(tVi 1), (tVi 2), (tVi 3), (tVi 4), (tVi 5), (tVi 6), (tVi 7), (tVi 8)] tRChk2m3 tRChk2m4 (.call 37 [(.agg [(tVi 1), (tVi 2), (tVi 3), (tVi 4), (tVi 5), (tVi 6), (tVi 7), (tVi 8)])] tRChk2m4 (.lf (tVi 9)) tRChk2m0 (.br (.cmp .neq (.var 9) (.lit 0)) (.done (.lf (tVi 9)) tRChk2m0) (.again 8 ⟨[(.op .add .i64 (.var 0) (.lit 1))], [], [], [], []⟩ tRChk2m0))))) (.done (.lf (tLi 0)) tRChk2m3)))))) := by kernel_rfl
set_option maxRecDepth 100000 in
theorem tInts : (runF ⟨tt, fns, { loops := [(4, ⟨[(13, .int .i64)], []⟩)] }⟩ (Try.f46.body.getD .skip) Try.f46.results.toList (entry Try.f46.ntmps [.lf (.sl 0 (.var 0) (.var 1)), .lf (.sl 1 (.var 2) (.var 3))] [] ⟨0, 0, 0, 4, 2⟩)) =
  (.br (.cmp .neq (.nat 0) (.nat 2)) (.done (.lf (.bool (.lit .false))) ⟨[], ⟨0, 0, 0, 4, 2⟩⟩) (.loop 4 ⟨[(.lit 0)], [], [], [], []⟩ ⟨[], ⟨0, 0, 0, 4, 2⟩⟩ ⟨[], ⟨1, 0, 0, 4, 2⟩⟩ (.br (.cmp .lss (.var 0) (.nat 0)) (.need (.inb 0 (.var 0) (.nat 0)) (.need (.inb 1 (.var 0) (.nat 2)) (.par (.ld .false (.adr 0 (.var 0) 1 0) [(tVi 1)] ⟨[], ⟨1, 0, 0, 4, 2⟩⟩ ⟨[], ⟨2, 0, 0, 4, 2⟩⟩ (.ld .false (.adr 1 (.var 0) 1 0) [(tVi 2)] ⟨[], ⟨2, 0, 0, 4, 2⟩⟩ ⟨[], ⟨3, 0, 0, 4, 2⟩⟩ (.br (.cmp .neq (.var 1) (.var 2)) (.done (.lf (.bool (.lit .false))) ⟨[], ⟨3, 0, 0, 4, 2⟩⟩) (.again 4 ⟨[(.op .add .i64 (.var 0) (.lit 1))], [], [], [], []⟩ ⟨[], ⟨3, 0, 0, 4, 2⟩⟩)))) (.ld .false (.adr 1 (.var 0) 1 0) [(tVi 1)] ⟨[], ⟨1, 0, 0, 4, 2⟩⟩ ⟨[], ⟨2, 0, 0, 4, 2⟩⟩ (.ld .false (.adr 0 (.var 0) 1 0) [(tVi 2)] ⟨[], ⟨2, 0, 0, 4, 2⟩⟩ ⟨[], ⟨3, 0, 0, 4, 2⟩⟩ (.br (.cmp .neq (.var 2) (.var 1)) (.done (.lf (.bool (.lit .false))) ⟨[], ⟨3, 0, 0, 4, 2⟩⟩) (.again 4 ⟨[(.op .add .i64 (.var 0) (.lit 1))], [], [], [], []⟩ ⟨[], ⟨3, 0, 0, 4, 2⟩⟩))))))) (.done (.lf (.bool (.lit .true))) ⟨[], ⟨1, 0, 0, 4, 2⟩⟩)))) := by kernel_rfl
abbrev tSameVm0 : Mem := ⟨[(31, [(tVi 0), (tSl 0 0 1), (tSl 1 2 3)]), (31, [(tVi 1), (tSl 2 4 5), (tSl 3 6 7)])], ⟨11, 1, 0, 8, 4⟩⟩
abbrev tSameVm1 : Mem := ⟨[(31, [(tVi 0), (tSl 0 0 1), (tSl 1 2 3)]), (31, [(tVi 1), (tSl 2 4 5), (tSl 3 6 7)])], ⟨19, 1, 0, 8, 4⟩⟩
abbrev tSameVm2 : Mem := ⟨[(31, [(tVi 0), (tSl 0 0 1), (tSl 1 2 3)]), (31, [(tVi 1), (tSl 2 4 5), (tSl 3 6 7)])], ⟨2, 0, 0, 8, 4⟩⟩
abbrev tSameVm3 : Mem := ⟨[(31, [(tVi 0), (tSl 0 0 1), (tSl 1 2 3)]), (31, [(tVi 1), (tSl 2 4 5), (tSl 3 6 7)])], ⟨2, 1, 0, 8, 4⟩⟩
abbrev tSameVm4 : Mem := ⟨[(31, [(tVi 0), (tSl 0 0 1), (tSl 1 2 3)]), (31, [(tVi 1), (tSl 2 4 5), (tSl 3 6 7)])], ⟨3, 1, 0, 8, 4⟩⟩
set_option maxRecDepth 100000 in
theorem tSameV : (runF ⟨tt, fns, { loops := [(4, ⟨[(31, .int .i64)], []⟩)] }⟩ (Try.f16.body.getD .skip) Try.f16.results.toList (entry Try.f16.ntmps [.agg [.int .i64 (.var 0), .sl 0 (.var 0) (.var 1), .sl 1 (.var 2) (.var 3)], .agg [.int .i64 (.var 1), .sl 2 (.var 4) (.var 5), .sl 3 (.var 6) (.var 7)]] [] ⟨2, 0, 0, 8, 4⟩)) =
  (.br (.cmp .neq (.var 0) (.var 1)) (.done (.lf (.bool (.lit .false))) tSameVm2) (.br (.cmp .neq (.nat 0) (.nat 4)) (.done (.lf (.bool (.lit .false))) tSameVm2) (.call 46 [(.lf (tSl 1 2 3)), (.lf (tSl 3 6 7))] tSameVm2 (.lf (.bool (.var 0))) tSameVm3 (.br (.not (.var 0)) (.done (.lf (.bool (.lit .false))) tSameVm3) (.loop 4 ⟨[(.lit 0)], [], [], [], []⟩ tSameVm3 tSameVm4 (.br (.cmp .lss (.var 2) (.nat 0)) (.need (.inb 0 (.var 2) (.nat 0)) (.need (.inb 2 (.var 2) (.nat 4)) (.par (.ld .false (.adr 0 (.var 2) 8 0) [(tVi 3), (tVi 4), (tVi 5), (tVi 6), (tVi 7), (tVi 8), (tVi 9), (tVi 10)] tSameVm4 tSameVm0 (.ld .false (.adr 2 (.var 2) 8 0) [(tVi 11), (tVi 12), (tVi 13), (tVi 14), (tVi 15), (tVi 16), (tVi 17), (tVi 18)] tSameVm0 tSameVm1 (.br (.not (.and (.cmp .eql (.var 3) (.var 11)) (.and (.cmp .eql (.var 4) (.var 12)) (.and (.cmp .eql (.var 5) (.var 13)) (.and (.cmp .eql (.var 6) (.var 14)) (.and (.cmp .eql (.var 7) (.var 15)) (.and (.cmp .eql (.var 8) (.var 16)) (.and (.cmp .eql (.var 9) (.var 17)) (.cmp .eql (.var 10) (.var 18)))))))))) (.done (.lf (.bool (.lit .false))) tSameVm1) (.again 4 ⟨[(.op .add .i64 (.var 2) (.lit 1))], [], [], [], []⟩ tSameVm1)))) (.ld .false (.adr 2 (.var 2) 8 0) [(tVi 3), (tVi 4), (tVi 5), (tVi 6), (tVi 7), (tVi 8), (tVi 9), (tVi 10)] tSameVm4 tSameVm0 (.ld .false (.adr 0 (.var 2) 8 0) [(tVi 11), (tVi 12), (tVi 13), (tVi 14), (tVi 15), (tVi 16), (tVi 17), (tVi 18)] tSameVm0 tSameVm1 (.br (.not (.and (.cmp .eql (.var 11) (.var 3)) (.and (.cmp .eql (.var 12) (.var 4)) (.and (.cmp .eql (.var 13) (.var 5)) (.and (.cmp .eql (.var 14) (.var 6)) (.and (.cmp .eql (.var 15) (.var 7)) (.and (.cmp .eql (.var 16) (.var 8)) (.and (.cmp .eql (.var 17) (.var 9)) (.cmp .eql (.var 18) (.var 10)))))))))) (.done (.lf (.bool (.lit .false))) tSameVm1) (.again 4 ⟨[(.op .add .i64 (.var 2) (.lit 1))], [], [], [], []⟩ tSameVm1))))))) (.done (.lf (.bool (.lit .true))) tSameVm4))))))) := by kernel_rfl
end Go.Proofs.Ytlgpjjgkdpmidaa

namespace Go.Eng
open Go.ChangeShapes Go.WideShapes Go.ChangeAt Go.RowKit Go.Syn
set_option linter.unusedVariables false
set_option linter.unusedSimpArgs false
section
variable {C : Cfg} {ρ : Env} {pre : List Nat} {hx : HX} {L : Stack} {m m' : Mem} {ty : Nat} {ps : List (Nat × SV)} {r : SV} {T : Tree}
theorem node_lit {t e len sz : Nat} {ps0 : Array (Nat × Operand)} (us : List Value) (parts : Array (Nat × Value)) (hp0 : ∀ ids, (ps0.map fun x => (x.1, envOf ρ ids ps x.2)) = parts) (hrun : ∀ w, (Instr.buildSlice t len parts).run C.P w = .ok (.slice (some ⟨w.heap.size, 0, none⟩) len len) (w.alloc (.cells us.toArray e))) (hl : us.length = len * sz) (hm : len ≤ maxLen)
    (hr : ∀ a' ids, r.den (ρ.add ⟨[], [], [], [len, len], [a']⟩) ids = .slice a' len len) (hhp : m'.hp = m.hp) (hfit : hpFits m.c m.hp.length m.hp = true) (hc : ∀ a', (ρ.add ⟨[], [], [], [len, len], [a']⟩).cnt = m'.c)
    (h : ∀ a', (∀ k, len ≠ 0 → abk a' = some k → C.W.heap.size ≤ k ∧ ¬ hx.F k) → T.holds C (ρ.add ⟨[], [], [], [len, len], [a']⟩) pre (hx.and (HX.rw sz e a' len len us)) L) : (Tree.gen (.buildSlice t len ps0) ty ps m (some r) m' T).holds C ρ pre hx L := by
  intro ids w hp hf
  unfold GenRun
  have hg : w.grownBy (w.alloc (.cells us.toArray e)) none := ⟨rfl, rfl, rfl, by show w.heap.size ≤ (w.heap.push _).size; simp, fun k hk _ => heap_alloc_old w _ hk⟩
  have hnew : (w.alloc (.cells us.toArray e)).heap[w.heap.size]? = some (.cells us.toArray e (0, 0)) := by show (w.heap.push _)[w.heap.size]? = _; simp
  have hrow : (HX.rw sz e (some ⟨w.heap.size, 0, none⟩) len len us).X (w.alloc (.cells us.toArray e)) := by
    by_cases h0 : len = 0
    · subst h0
      exact .inl ⟨rfl, rfl, List.eq_nil_of_length_eq_zero (by rw [hl]; simp)⟩
    · have := rw_shut (sz := sz) (n := len) (cap := len) h0 hnew (Nat.le_refl _) hm hl
      rwa [← hl, List.take_length] at this
  have hsz : (w.alloc (.cells us.toArray e)).heap.size = w.heap.size + 1 := by show (w.heap.push _).size = _; simp
  simp only [execOp, hp0, Sem.run_bind, Sem.run_pure, Result.andThen_ok, hrun]
  refine ⟨⟨[], [], [], [len, len], [some ⟨w.heap.size, 0, none⟩]⟩, ids, hx.and (HX.rw sz e (some ⟨w.heap.size, 0, none⟩) len len us), ?_, List.prefix_refl _, hf.turn (hx' := hx.and (HX.rw sz e (some ⟨w.heap.size, 0, none⟩) len len us)) hg (fun b e => by cases e) ⟨hx.loc w _ hf.x fun k hk => hg.block k (hf.sep k hk).1 (fun q => by cases q), hrow⟩ (fun k hk => ?_) hhp hfit (hc _) oneNil, holds_pre T hp (h _ (fun k _ hk => ?_))⟩
  · simp only [Option.map_some, hr]
  · rcases hk with hk | hk
    · exact .inl hk
    · have : w.heap.size = k := by have := hk.2; injection this
      exact .inr ⟨by omega, by omega⟩
  · have e1 : w.heap.size = k := by injection hk
    exact ⟨by have := hf.chg.size; omega, fun q => by have := (hf.sep k q).1; omega⟩
end
end Go.Eng
