/- Part 12 of the texts of a proof about the given program: what the statement's proof needs of them. -/
import Derived.Laws.BytesArg
import GoSem.Extern.Table
import Derived.Laws.Cover3
import Derived.KernelRfl
import Derived.Test.YtlgpjjgkdpmidaaKProposerAgain11
namespace Go.Eng
open Go.RowKit Go.Syn Go.MapKept
set_option linter.unusedVariables false
set_option linter.unusedSimpArgs false
section
variable {C : Cfg} {ρ : Env} {pre : List Nat} {hx hx' rest : HX} {L : Stack} {m m' : Mem} {ty : Nat} {ps : List (Nat × SV)} {t : Tree}
def sliA (a : Option Addr) (lo cap sz : Nat) : Option Addr := if cap = lo then a else a.map (·.add (lo * sz))
theorem node_from {st e : TypeId} {xo lo : Operand} {r : SV} {z : Value} {n cap l sz bytes : Nat} (a : Option Addr) (ht : C.P.underlying st = some (.slice e)) (hel : C.P.elem st = e) (hinfo : (C.P.info? e).map (fun i => (i.zero, i.size, i.bytes)) = some (some z, sz, bytes))
    (hxo : ∀ ids, envOf ρ ids ps xo = .slice a n cap) (hlo : ∀ ids, envOf ρ ids ps lo = .int .i64 (l : Int)) (hl : l ≤ n)
    (hr : ∀ ids, r.den (ρ.add ⟨[], [], [], [n - l, cap - l], [sliA a l cap sz]⟩) ids = .slice (sliA a l cap sz) (n - l) (cap - l)) (hhp : m'.hp = m.hp) (hfit : hpFits m.c m.hp.length m.hp = true) (hc : (ρ.add ⟨[], [], [], [n - l, cap - l], [sliA a l cap sz]⟩).cnt = m'.c)
    (h : t.holds C (ρ.add ⟨[], [], [], [n - l, cap - l], [sliA a l cap sz]⟩) pre hx L) :
    (Tree.gen (.slice st xo (some lo) none none) ty ps m (some r) m' t).holds C ρ pre hx L := by
  obtain ⟨i0, hi, hz0, hz1, hz2⟩ := info_parts hinfo
  refine node_gpure (V := .slice (sliA a l cap sz) (n - l) (cap - l)) _ (fun ids w hp hf => ?_) hr hhp hfit hc oneNil h
  have hsize : (sizeOf (C.P.elem st)).run C.P w = .ok sz w := by
    rw [hel]; simp [sizeOf, typeInfo, hi, hz1]
  have ht' : C.P.underlying st = some (.slice (C.P.elem st)) := by rw [ht, hel]
  have hrun : (Instr.sliceAt st (.slice a n cap) (some (.int .i64 (l : Int))) none none).run C.P w = .ok (.slice (sliA a l cap sz) (n - l) (cap - l)) w := by
    rw [run_sliceAt_slice w st _ _ _ _ ht', run_slice_l w st a n cap ht' .i64 (l : Int) (by omega) (by omega), hsize]
    simp [Result.andThen, sliced, sliA]
  simp only [execOp, hxo, hlo, Sem.run_bind, Sem.run_pure, Result.andThen_ok, Option.map_none, Option.map_some, hrun]
end
section
variable {C : Cfg} {ρ : Env} {pre : List Nat} {hx : HX} {L : Stack} {m m' : Mem} {ty : Nat} {ps : List (Nat × SV)} {t : Tree}
end
end Go.Eng

namespace Go.Eng
open Go.RowKit Go.Syn
set_option linter.unusedVariables false
set_option linter.unusedSimpArgs false
section
variable {C : Cfg} {ρ : Env} {pre : List Nat} {hx hx' : HX} {L : Stack} {m m' : Mem} {ty : Nat} {ps : List (Nat × SV)} {t : Tree}
theorem node_ldp {n off sz bty : Nat} {e : IE} {cs bcs : List LV} (vs : Vals) (i : Nat) {us : List Value} (hn : m.hp[n]? = some (bty, bcs)) (hi : e.den ρ = (i : Int)) (hb : ∀ ids, cellsDen ρ ids bcs = us) (hcs : ∀ ids j u, (cellsDen (ρ.add vs) ids cs)[j]? = some u → us[off + i * sz + j]? = some u)
    (hc : (ρ.add vs).cnt = m'.c) (h1 : ∀ v, v ∈ vs.v → v.oneCell' = true) (h : t.holds C (ρ.add vs) pre hx L) : (Tree.ld true (.pix n off sz e) cs m m' t).holds C ρ pre hx L := by
  refine node_ld vs (fun ids w hp hf => ?_) (fun ids w hf => envUp hf hc h1) h
  refine ⟨⟨idAt ids n, off + i * sz, none⟩, ?_, fun q => q, fun j u hj => ?_⟩
  · simp only [LV.den, hi, Int.toNat_natCast]
  · have h2 := hf.blk n bty bcs hn
    rw [hb] at h2
    rw [add_plain', cells_blk h2, hcs ids j u hj]
theorem node_stp {n o et bty : Nat} {xa xv : Operand} {bcs cs' : List LV} (vs : Vals) {us us' : List Value} {v : Value} (hn : m.hp[n]? = some (bty, bcs)) (hb : ∀ ids, cellsDen ρ ids bcs = us) (hsize : (C.P.info? et).map (·.size) = some us'.length) (hxa : ∀ ids, envOf ρ ids ps xa = .pointer (some ⟨idAt ids n, o, none⟩)) (hxv : ∀ ids, envOf ρ ids ps xv = v) (hv : v.cells = us'.toArray) (h1 : ∀ u ∈ us', u.oneCell' = true) (h0 : 0 < us'.length)
    (hl : o + us'.length ≤ us.length) (hhp : m'.hp = m.hp.set n (bty, cs')) (hcs' : ∀ ids, cellsDen (ρ.add vs) ids cs' = spl us o us') (hfit : hpFits m.c m.hp.length m.hp = true) (hc : (ρ.add vs).cnt = m'.c) (hone : ∀ v, v ∈ vs.v → v.oneCell' = true)
    (h : t.holds C (ρ.add vs) pre hx L) : (Tree.gen (.store et xa xv) ty ps m none m' t).holds C ρ pre hx L := by
  intro ids w hp hf
  have hlt : n < m.hp.length := by
    rcases Nat.lt_or_ge n m.hp.length with q | q
    · exact q
    · rw [List.getElem?_eq_none q] at hn; cases hn
  have h2 := hf.blk n bty bcs hn
  rw [hb] at h2
  obtain ⟨w', hr, hg, hgr⟩ := run_store_blk (P := C.P) (w := w) (g := idAt ids n) (o := o) (vs := us') h2 hl h1
  unfold GenRun
  obtain ⟨inf, hinf, hsz⟩ := Option.map_eq_some_iff.1 hsize
  have hrun2 : (Instr.storeAt et (.pointer (some ⟨idAt ids n, o, none⟩)) v).run C.P w = .ok () w' := by
    simp [Instr.storeAt, Instr.sureAddr, storeVar, sizeOf, typeInfo, hinf, hsz, hv, hr]
  simp only [execOp, hxa, hxv, Sem.run_bind, Sem.run_pure, Result.andThen_ok, hrun2]
  refine ⟨vs, ids, hx, rfl, List.prefix_refl _, ?_, holds_pre t hp h⟩
  have hmem := idAt_mem (ids := ids) (n := n) (hf.len ▸ hlt)
  refine hf.act (F := fun b => b = idAt ids n) (n := n) ⟨hgr.os, hgr.tape, hgr.output, hgr.size, fun k hk hne => hgr.block k hk (fun e => hne (Option.some.inj e))⟩ (fun b hb2 => .inl hb2) hn ?_ ?_ (fun b hb2 => .inl hb2) hhp hfit hc hone
  · rw [hcs']; exact hg
  · exact hx.loc w w' hf.x fun b hb2 => hgr.block b (hf.sep b hb2).1 (fun e => by cases e; exact (hf.sep _ hb2).2 hmem)
theorem node_bin {f : BinOp} {bt : Nat} {xo yo : Operand} {fl : TypeId} {r : SV} {x y V : Value} (vs : Vals) (hxo : ∀ ids, envOf ρ ids ps xo = x) (hyo : ∀ ids, envOf ρ ids ps yo = y) (hg : ∀ w, (eqGuard f bt xo yo x y).run C.P w = .ok () w) (hrun : ∀ w, (binOp f bt x y).run C.P w = .ok V w) (hr : ∀ ids, r.den (ρ.add vs) ids = V) (hhp : m'.hp = m.hp) (hfit : hpFits m.c m.hp.length m.hp = true) (hc : (ρ.add vs).cnt = m'.c) (h1 : ∀ v, v ∈ vs.v → v.oneCell' = true)
    (h : t.holds C (ρ.add vs) pre hx L) : (Tree.gen (.binOp f bt xo yo fl) ty ps m (some r) m' t).holds C ρ pre hx L := by
  refine node_gpure (V := V) vs (fun ids w hp hf2 => ?_) hr hhp hfit hc h1 h
  have hr2 := hrun w
  have hg2 := hg w
  unfold execOp
  simp only [hxo, hyo]
  simp [hr2, hg2]
end
end Go.Eng

namespace Go.Eng
open Go.RowKit Go.Syn
set_option linter.unusedVariables false
set_option linter.unusedSimpArgs false
section
variable {C : Cfg} {ρ : Env} {pre : List Nat} {hx : HX} {L : Stack} {m m' : Mem} {ty : Nat} {ps : List (Nat × SV)} {t : Tree}
end
end Go.Eng

namespace Go.Eng
open Go.RowKit Go.Syn
set_option linter.unusedVariables false
section
variable {C : Cfg} {ρ : Env} {pre : List Nat} {hx : HX} {L : Stack} {m m' : Mem} {args : List SV} {r : SV} {t f : Tree} {b : BE}
theorem br_F (c : Bool) (hb : b.den ρ = c) (hc : c = false) (h : f.holds C ρ pre hx L) : (Tree.br b t f).holds C ρ pre hx L := br_f (hb.trans hc) h
theorem br_T (c : Bool) (hb : b.den ρ = c) (hc : c = true) (h : t.holds C ρ pre hx L) : (Tree.br b t f).holds C ρ pre hx L := br_t (hb.trans hc) h
theorem again_V {key : Nat} {es : Vec} {I : Vals → HX → Prop} (v' : Vals) (hI : lkup key L = some I) (hv : ∀ ids, es.den ρ ids = v') (hx' : HX) (hX : ∀ w ids, Facts C m ρ ids hx w → HXok hx' w ids) (h : I v' hx') : (Tree.again key es m).holds C ρ pre hx L :=
  fun ids w hp hf => ⟨hx', hX w ids hf, I, hI, by rw [hv ids]; exact h⟩
theorem node_P {f : Nat} (vs : Vals) (AS : Array Value) (V : Value) (hargs : ∀ ids, (args.map (SV.den ρ ids)).toArray = AS) (hr : ∀ ids, r.den (ρ.add vs) ids = V) (hhp : m'.hp = m.hp) (hfit : hpFits m.c m.hp.length m.hp = true) (hc : (ρ.add vs).cnt = m'.c) (h1 : ∀ v, v ∈ vs.v → v.oneCell' = true) (hcall : ∀ ids w, pre <+: ids → Facts C m ρ ids hx w → Calls C.P f AS w (PureAt w V))
    (h : t.holds C (ρ.add vs) pre hx L) : (Tree.call f args m r m' t).holds C ρ pre hx L :=
  node_pure vs hhp hfit hc h1 (fun ids w hp hf => by rw [hargs, hr]; exact hcall ids w hp hf) h
end
end Go.Eng

namespace Go.Eng
open Go.RowKit Go.Syn
set_option linter.unusedVariables false
theorem nodup_idx {α : Type} {l : List α} (h : l.Nodup) {i j : Nat} {x : α} (hi : l[i]? = some x) (hj : l[j]? = some x) : i = j := by
  obtain ⟨q1, e1⟩ := List.getElem?_eq_some_iff.1 hi
  obtain ⟨q2, e2⟩ := List.getElem?_eq_some_iff.1 hj
  have hp := List.pairwise_iff_getElem.1 h
  rcases Nat.lt_trichotomy i j with q | q | q
  · exact absurd (e1.trans e2.symm) (hp i j q1 q2 q)
  · exact q
  · exact absurd (e2.trans e1.symm) (hp j i q2 q1 q)
theorem blk_cells {w : World} {b ty : Nat} {us : List Value} (h : Blk w b us ty) : Cells w (some ⟨b, 0, none⟩) us := fun h0 => by
  refine ⟨rfl, ?_, fun i u hi => ?_⟩
  · show b < w.heap.size
    rcases Nat.lt_or_ge b w.heap.size with q | q
    · exact q
    · have h2 : w.heap[b]? = _ := h
      rw [Array.getElem?_eq_none q] at h2; cases h2
  · have := cells_blk (o := 0) h i
    rw [Nat.zero_add] at this
    show w.cell? ⟨b, 0 + i, none⟩ = some u
    rw [Nat.zero_add, ← hi]
    exact this
section
variable {C : Cfg} {ρ : Env} {pre : List Nat} {hx hx2 : HX} {L : Stack} {m m' : Mem} {args : List SV} {r : SV} {t : Tree} {ids : List Nat} {w w' : World}
theorem node_out {f : Nat} (AS : List Nat → Array Value) (Q : Vals → HX → Prop) (hargs : ∀ ids, (args.map (SV.den ρ ids)).toArray = AS ids)
    (hcall : ∀ ids w, pre <+: ids → Facts C m ρ ids hx w → Calls C.P f (AS ids) w (fun e w' => ∃ vs hx2, Q vs hx2 ∧ e = .returned (r.den (ρ.add vs) ids) ∧ hx2.X w' ∧ (∀ k, hx2.F k → w.heap.size ≤ k ∧ k < w'.heap.size) ∧ Below w.heap.size w w'))
    (hhp : m'.hp = m.hp) (hfit : hpFits m.c m.hp.length m.hp = true) (hc : ∀ vs hx2, Q vs hx2 → (ρ.add vs).cnt = m'.c ∧ ∀ v, v ∈ vs.v → v.oneCell' = true)
    (h : ∀ vs hx2, Q vs hx2 → (∀ k, hx2.F k → C.W.heap.size ≤ k ∧ ¬ hx.F k) → t.holds C (ρ.add vs) pre (hx.and hx2) L) : (Tree.call f args m r m' t).holds C ρ pre hx L := by
  intro ids w hp hf
  rw [hargs]
  refine (hcall ids w hp hf).mono ?_
  rintro e w' ⟨vs, hx2, hQ, rfl, hX, hge, hbel⟩
  have hg : w.grownBy w' none := ⟨hbel.os, hbel.tape, hbel.output, hbel.size, fun k hk _ => hbel.block k hk⟩
  refine ⟨vs, ids, _, rfl, List.prefix_refl _, hf.turn (hx' := hx.and hx2) hg (fun b e => by cases e) ⟨hx.loc w w' hf.x fun k hk => hbel.block k (hf.sep k hk).1, hX⟩ (fun k hk => ?_) hhp hfit (hc _ _ hQ).1 (hc _ _ hQ).2, holds_pre t hp (h vs hx2 hQ (fun k h2 => ⟨Nat.le_trans hf.chg.size (hge k h2).1, fun q => by have := (hf.sep _ q).1; have := (hge k h2).1; omega⟩))⟩
  rcases hk with hk | hk
  · exact .inl hk
  · exact .inr (hge k hk)
theorem holds_env {ρ' : Env} (e : ρ = ρ') (h : t.holds C ρ' pre hx L) : t.holds C ρ pre hx L := e ▸ h
theorem holds_eq {hx' : HX} (e : hx = hx') (h : t.holds C ρ pre hx' L) : t.holds C ρ pre hx L := e ▸ h
theorem need_k {p : Need} (P : Prop) (he : p.den ρ = P) (hp : P) (h : t.holds C ρ pre hx L) : (Tree.need p t).holds C ρ pre hx L := by
  have hd : p.den ρ := he.mpr hp
  exact ⟨hd, fun _ => h⟩
theorem node_PI {f : Nat} (vs : Vals) (AS : List Nat → Array Value) (V : Value) (hargs : ∀ ids, (args.map (SV.den ρ ids)).toArray = AS ids) (hr : ∀ ids, r.den (ρ.add vs) ids = V) (hhp : m'.hp = m.hp) (hfit : hpFits m.c m.hp.length m.hp = true) (hc : (ρ.add vs).cnt = m'.c) (h1 : ∀ v, v ∈ vs.v → v.oneCell' = true) (hcall : ∀ ids w, pre <+: ids → Facts C m ρ ids hx w → Calls C.P f (AS ids) w (PureAt w V))
    (h : t.holds C (ρ.add vs) pre hx L) : (Tree.call f args m r m' t).holds C ρ pre hx L :=
  node_pure vs hhp hfit hc h1 (fun ids w hp hf => by rw [hargs, hr]; exact hcall ids w hp hf) h
theorem node_ldk {l : LV} {cs : List LV} (vs : Vals) (V : List Nat → Value) (us : List Value) (hl : ∀ ids, l.den ρ ids = V ids) (hcs : ∀ ids, cellsDen (ρ.add vs) ids cs = us) (hcell : ∀ ids w, pre <+: ids → Facts C m ρ ids hx w → CellsAt w (V ids) us (fun _ => False)) (hc : (ρ.add vs).cnt = m'.c) (h1 : ∀ v, v ∈ vs.v → v.oneCell' = true)
    (h : t.holds C (ρ.add vs) pre hx L) : (Tree.ld true l cs m m' t).holds C ρ pre hx L :=
  node_ld vs (fun ids w hp hf => by rw [hl, hcs]; exact hcell ids w hp hf) (fun ids w hf => envUp hf hc h1) h
theorem node_ld0 {l : LV} {cs : List LV} {k : Cnt} (vs : Vals) (V : Value) (us : List Value) (hl : ∀ ids, l.den ρ ids = V) (hcs : ∀ ids, cellsDen (ρ.add vs) ids cs = us) (hcell : CellsAt C.W V us C.M) (hρ : EnvOk ρ k) (hc : (ρ.add vs).cnt = m'.c) (h1 : ∀ v, v ∈ vs.v → v.oneCell' = true)
    (h : t.holds C (ρ.add vs) pre hx L) : (Tree.ld false l cs m m' t).holds C ρ pre hx L :=
  ⟨vs, fun ids => by rw [hl, hcs]; exact hcell, ⟨hc, fun v hv => by
    simp only [Env.add, List.mem_append] at hv
    exact hv.elim (hρ.one v) (h1 v)⟩, h⟩
end
end Go.Eng

namespace Go.Eng
open Go.RowKit Go.Syn
set_option linter.unusedVariables false
theorem flat_len {α : Type} {f : α → List Value} {n : Nat} (hf : ∀ x, (f x).length = n) (es : List α) : (es.flatMap f).length = es.length * n := by
  induction es with
  | nil => simp
  | cons x r ih => rw [List.flatMap_cons, List.length_append, ih, hf, List.length_cons, Nat.add_mul]; omega
theorem flat_drop {α : Type} {f : α → List Value} {n : Nat} (hf : ∀ x, (f x).length = n) (es : List α) : ∀ i, (es.flatMap f).drop (i * n) = (es.drop i).flatMap f := by
  induction es with
  | nil => intro i; simp
  | cons x r ih =>
    intro i
    cases i with
    | zero => simp
    | succ i =>
      rw [List.drop_succ_cons, List.flatMap_cons, List.drop_append, hf, List.drop_of_length_le (by rw [hf, Nat.add_mul]; omega), List.nil_append, show (i + 1) * n - n = i * n by rw [Nat.add_mul]; omega, ih]
theorem flat_get {α : Type} {f : α → List Value} {n : Nat} (hf : ∀ x, (f x).length = n) {es : List α} {i : Nat} {e : α} (h : es[i]? = some e) {j : Nat} {u : Value} (hj : (f e)[j]? = some u) : (es.flatMap f)[i * n + j]? = some u := by
  obtain ⟨hi, he⟩ := List.getElem?_eq_some_iff.1 h
  have h1 : (es.flatMap f).drop (i * n) = f e ++ (es.drop (i + 1)).flatMap f := by
    rw [flat_drop hf, List.drop_eq_getElem_cons hi, he, List.flatMap_cons]
  have hl : j < (f e).length := by
    rcases Nat.lt_or_ge j (f e).length with q | q
    · exact q
    · rw [List.getElem?_eq_none q] at hj; cases hj
  rw [← List.getElem?_drop, h1, List.getElem?_append_left hl]; exact hj
theorem flat_part {α : Type} {f : α → List Value} {n : Nat} (hf : ∀ x, (f x).length = n) {w : World} {a : Option Addr} {es : List α} (h : Cells w a (es.flatMap f)) {i : Nat} {e : α} (hi : es[i]? = some e) {o : Nat} (us : List Value) (hu : ∀ j u, us[j]? = some u → (f e)[o + j]? = some u) (h0 : us ≠ []) :
    a.isSome = true ∧ ∀ (N : Nat → Prop), ¬ N ((a.getD ⟨0, 0, none⟩).block) → CellsAt w (.pointer (some (((a.getD ⟨0, 0, none⟩).add (i * n)).add o))) us N :=
  cl_part h us (fun j u hj => by rw [Nat.add_assoc]; exact flat_get hf hi (hu j u hj)) h0
section
variable {C : Cfg} {ρ : Env} {pre : List Nat} {hx : HX} {L : Stack} {m m' : Mem} {args : List SV} {r : SV} {t : Tree}
end
end Go.Eng

namespace Go.Eng
open Go.RowKit Go.Syn
set_option linter.unusedVariables false
section
variable {C : Cfg} {ρ : Env} {pre : List Nat} {rest hx : HX} {L : Stack} {m m' : Mem} {ty : Nat} {ps : List (Nat × SV)} {t : Tree}
end
end Go.Eng

namespace Go.Proofs.Ytlgpjjgkdpmidaa
open Go.Eng
abbrev tCmdb0 : List LV := [(tVi 0), (tVi 1), (tVi 2), (tVi 3), (tVi 4), (tVi 5), (tVi 6), (tVi 7)]
set_option maxRecDepth 100000 in
theorem tCmd : (runF ⟨tt, fns, {}⟩ (Try.f66.body.getD .skip) Try.f66.results.toList (entry Try.f66.ntmps [.agg [.int .i64 (.var 0), .int .i64 (.var 1), .int .i64 (.var 2), .int .i64 (.var 3), .int .i64 (.var 4), .int .i64 (.var 5), .int .i64 (.var 6), .int .i64 (.var 7)]] [] ⟨8, 0, 0, 0, 0⟩)) =
  (.br (.cmp .lss (.var 0) (.lit 1)) (.done (.lf (tLi 23)) ⟨[(36, tCmdb0)], ⟨8, 0, 0, 0, 0⟩⟩) (.br (.cmp .gtr (.var 0) (.lit 1073741824)) (.done (.lf (tLi 23)) ⟨[(36, tCmdb0)], ⟨8, 0, 0, 0, 0⟩⟩) (.br (.cmp .lss (.var 1) (.lit 1)) (.done (.lf (tLi 23)) ⟨[(36, tCmdb0)], ⟨8, 0, 0, 0, 0⟩⟩) (.br (.cmp .gtr (.var 1) (.lit 1099511627776)) (.done (.lf (tLi 23)) ⟨[(36, tCmdb0)], ⟨8, 0, 0, 0, 0⟩⟩) (.br (.cmp .lss (.var 2) (.lit 0)) (.done (.lf (tLi 23)) ⟨[(36, tCmdb0)], ⟨8, 0, 0, 0, 0⟩⟩) (.br (.cmp .geq (.var 2) (.var 1)) (.done (.lf (tLi 23)) ⟨[(36, tCmdb0)], ⟨8, 0, 0, 0, 0⟩⟩) (.call 71 [(.agg [(tVi 3), (tVi 4), (tVi 5), (tVi 6), (tVi 7)])] ⟨[(36, tCmdb0)], ⟨8, 0, 0, 0, 0⟩⟩ (.lf (tVi 8)) ⟨[(36, tCmdb0)], ⟨9, 0, 0, 0, 0⟩⟩ (.done (.lf (tVi 8)) ⟨[(36, tCmdb0)], ⟨9, 0, 0, 0, 0⟩⟩)))))))) := by kernel_rfl
abbrev tChkb0 : List LV := [(tVi 2), (tVi 3), (tVi 4), (tVi 5), (tVi 6), (tVi 7), (tVi 8), (tVi 9)]
abbrev tChkm0 : Mem := ⟨[(31, [(tVi 0), (tSl 0 0 1), (tSl 1 2 3)]), (36, tChkb0)], ⟨11, 0, 0, 4, 2⟩⟩
abbrev tChkm1 : Mem := ⟨[(31, [(tVi 0), (tSl 0 0 1), (tSl 1 2 3)])], ⟨1, 0, 0, 4, 2⟩⟩
abbrev tChkm2 : Mem := ⟨[(31, [(tVi 0), (tSl 0 0 1), (tSl 1 2 3)])], ⟨2, 0, 0, 4, 2⟩⟩
set_option maxRecDepth 100000 in
theorem tChk : (runF ⟨tt, fns, { loops := [(15, ⟨[(50, .int .i64)], []⟩)] }⟩ (Try.f47.body.getD .skip) Try.f47.results.toList (entry Try.f47.ntmps [.agg [.int .i64 (.var 0), .sl 0 (.var 0) (.var 1), .sl 1 (.var 2) (.var 3)]] [] ⟨1, 0, 0, 4, 2⟩)) =
  (.br (.cmp .eql (.var 0) (.lit 0)) (.br (.cmp .gtr (.nat 0) (.lit 0)) (.done (.lf (tLi 25)) tChkm1) (.br (.cmp .gtr (.nat 2) (.lit 0)) (.done (.lf (tLi 25)) tChkm1) (.done (.lf (tLi 0)) tChkm1))) (.br (.cmp .eql (.var 0) (.lit 2)) (.br (.cmp .gtr (.nat 0) (.lit 0)) (.done (.lf (tLi 25)) tChkm1) (.call 26 [(.lf (tSl 1 2 3))] tChkm1 (.lf (tVi 1)) tChkm2 (.done (.lf (tVi 1)) tChkm2))) (.br (.cmp .eql (.var 0) (.lit 1)) (.br (.cmp .lss (.nat 0) (.lit 1)) (.done (.lf (tLi 25)) tChkm1) (.br (.cmp .gtr (.nat 0) (.lit 8)) (.done (.lf (tLi 25)) tChkm1) (.br (.cmp .gtr (.nat 2) (.lit 0)) (.done (.lf (tLi 25)) tChkm1) (.loop 15 ⟨[(.lit 0)], [], [], [], []⟩ tChkm1 tChkm2 (.br (.cmp .lss (.var 1) (.nat 0)) (.need (.inb 0 (.var 1) (.nat 0)) (.ld .false (.adr 0 (.var 1) 8 0) tChkb0 tChkm2 ⟨[(31, [(tVi 0), (tSl 0 0 1), (tSl 1 2 3)])], ⟨10, 0, 0, 4, 2⟩⟩ (.call 66 [(.agg tChkb0)] ⟨[(31, [(tVi 0), (tSl 0 0 1), (tSl 1 2 3)]), (36, tChkb0)], ⟨10, 0, 0, 4, 2⟩⟩ (.lf (tVi 10)) tChkm0 (.br (.cmp .neq (.var 10) (.lit 0)) (.done (.lf (tVi 10)) tChkm0) (.again 15 ⟨[(.op .add .i64 (.var 1) (.lit 1))], [], [], [], []⟩ tChkm0))))) (.done (.lf (tLi 0)) tChkm2)))))) (.done (.lf (tLi 25)) tChkm1)))) := by kernel_rfl
end Go.Proofs.Ytlgpjjgkdpmidaa

namespace Go.Eng
open Go.ChangeShapes Go.WideShapes Go.ChangeAt Go.RowKit Go.Syn
set_option linter.unusedVariables false
set_option linter.unusedSimpArgs false
section
variable {C : Cfg} {ρ : Env} {pre : List Nat} {hx : HX} {L : Stack} {m m' : Mem} {ty : Nat} {ps : List (Nat × SV)} {r : SV} {T : Tree}
theorem node_lit {t e len sz : Nat} {ps0 : Array (Nat × Operand)} (us : List Value) (parts : Array (Nat × Value)) (hp0 : ∀ ids, (ps0.map fun x => (x.1, envOf ρ ids ps x.2)) = parts) (hrun : ∀ w, (Instr.buildSlice t len parts).run C.P w = .ok (.slice (some ⟨w.heap.size, 0, none⟩) len len) (w.alloc (.cells us.toArray e))) (hl : us.length = len * sz) (hm : len ≤ maxLen)
    (hr : ∀ a' ids, r.den (ρ.add ⟨[], [], [], [len, len], [a']⟩) ids = .slice a' len len) (hhp : m'.hp = m.hp) (hfit : hpFits m.c m.hp.length m.hp = true) (hc : ∀ a', (ρ.add ⟨[], [], [], [len, len], [a']⟩).cnt = m'.c)
    (h : ∀ a', (∀ k, len ≠ 0 → abk a' = some k → C.W.heap.size ≤ k ∧ ¬ hx.F k) → T.holds C (ρ.add ⟨[], [], [], [len, len], [a']⟩) pre (hx.and (HX.rw sz e a' len len us)) L) : (Tree.gen (.buildSlice t len ps0) ty ps m (some r) m' T).holds C ρ pre hx L := by
  intro ids w hp hf
  unfold GenRun
  have hg : w.grownBy (w.alloc (.cells us.toArray e)) none := ⟨rfl, rfl, rfl, by show w.heap.size ≤ (w.heap.push _).size; simp, fun k hk _ => heap_alloc_old w _ hk⟩
  have hnew : (w.alloc (.cells us.toArray e)).heap[w.heap.size]? = some (.cells us.toArray e (0, 0)) := by show (w.heap.push _)[w.heap.size]? = _; simp
  have hrow : (HX.rw sz e (some ⟨w.heap.size, 0, none⟩) len len us).X (w.alloc (.cells us.toArray e)) := by
    by_cases h0 : len = 0
    · subst h0
      exact .inl ⟨rfl, rfl, List.eq_nil_of_length_eq_zero (by rw [hl]; simp)⟩
    · have := rw_shut (sz := sz) (n := len) (cap := len) h0 hnew (Nat.le_refl _) hm hl
      rwa [← hl, List.take_length] at this
  have hsz : (w.alloc (.cells us.toArray e)).heap.size = w.heap.size + 1 := by show (w.heap.push _).size = _; simp
  simp only [execOp, hp0, Sem.run_bind, Sem.run_pure, Result.andThen_ok, hrun]
  refine ⟨⟨[], [], [], [len, len], [some ⟨w.heap.size, 0, none⟩]⟩, ids, hx.and (HX.rw sz e (some ⟨w.heap.size, 0, none⟩) len len us), ?_, List.prefix_refl _, hf.turn (hx' := hx.and (HX.rw sz e (some ⟨w.heap.size, 0, none⟩) len len us)) hg (fun b e => by cases e) ⟨hx.loc w _ hf.x fun k hk => hg.block k (hf.sep k hk).1 (fun q => by cases q), hrow⟩ (fun k hk => ?_) hhp hfit (hc _) oneNil, holds_pre T hp (h _ (fun k _ hk => ?_))⟩
  · simp only [Option.map_some, hr]
  · rcases hk with hk | hk
    · exact .inl hk
    · have : w.heap.size = k := by have := hk.2; injection this
      exact .inr ⟨by omega, by omega⟩
  · have e1 : w.heap.size = k := by injection hk
    exact ⟨by have := hf.chg.size; omega, fun q => by have := (hf.sep k q).1; omega⟩
end
end Go.Eng
