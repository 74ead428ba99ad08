/- Reads and writes at an index of a known block; calls of functions without a body. No program in sight. -/
import Derived.Test.YticacnankpaohaaEng25
import GoSem.Extern.Table
import Derived.Laws.Cover3
namespace Go.Eng
open Go.RowKit Go.Syn
set_option linter.unusedVariables false
set_option linter.unusedSimpArgs false
section
variable {C : Cfg} {ρ : Env} {pre : List Nat} {hx hx' : HX} {L : Stack} {m m' : Mem} {ty : Nat} {ps : List (Nat × SV)} {t : Tree}
/-- A read at an index of a known block. -/
theorem node_ldp {n off sz bty : Nat} {e : IE} {cs bcs : List LV} (vs : Vals) (i : Nat) {us : List Value} (hn : m.hp[n]? = some (bty, bcs)) (hi : e.den ρ = (i : Int)) (hb : ∀ ids, cellsDen ρ ids bcs = us) (hcs : ∀ ids j u, (cellsDen (ρ.add vs) ids cs)[j]? = some u → us[off + i * sz + j]? = some u)
    (hc : (ρ.add vs).cnt = m'.c) (h1 : ∀ v, v ∈ vs.v → v.oneCell' = true) (h : t.holds C (ρ.add vs) pre hx L) : (Tree.ld true (.pix n off sz e) cs m m' t).holds C ρ pre hx L := by
  refine node_ld vs (fun ids w hp hf => ?_) (fun ids w hf => envUp hf hc h1) h
  refine ⟨⟨idAt ids n, off + i * sz, none⟩, ?_, fun q => q, fun j u hj => ?_⟩
  · simp only [LV.den, hi, Int.toNat_natCast]
  · have h2 := hf.blk n bty bcs hn
    rw [hb] at h2
    rw [add_plain', cells_blk h2, hcs ids j u hj]
/-- A write at an index of a known block. -/
theorem node_stp {n o et bty : Nat} {xa xv : Operand} {bcs cs' : List LV} (vs : Vals) {us us' : List Value} {v : Value} (hn : m.hp[n]? = some (bty, bcs)) (hb : ∀ ids, cellsDen ρ ids bcs = us) (hsize : (C.P.info? et).map (·.size) = some us'.length) (hxa : ∀ ids, envOf ρ ids ps xa = .pointer (some ⟨idAt ids n, o, none⟩)) (hxv : ∀ ids, envOf ρ ids ps xv = v) (hv : v.cells = us'.toArray) (h1 : ∀ u ∈ us', u.oneCell' = true) (h0 : 0 < us'.length)
    (hl : o + us'.length ≤ us.length) (hhp : m'.hp = m.hp.set n (bty, cs')) (hcs' : ∀ ids, cellsDen (ρ.add vs) ids cs' = spl us o us') (hfit : hpFits m.c m.hp.length m.hp = true) (hc : (ρ.add vs).cnt = m'.c) (hone : ∀ v, v ∈ vs.v → v.oneCell' = true)
    (h : t.holds C (ρ.add vs) pre hx L) : (Tree.gen (.store et xa xv) ty ps m none m' t).holds C ρ pre hx L := by
  intro ids w hp hf
  have hlt : n < m.hp.length := by
    rcases Nat.lt_or_ge n m.hp.length with q | q
    · exact q
    · rw [List.getElem?_eq_none q] at hn; cases hn
  have h2 := hf.blk n bty bcs hn
  rw [hb] at h2
  obtain ⟨w', hr, hg, hgr⟩ := run_store_blk (P := C.P) (w := w) (g := idAt ids n) (o := o) (vs := us') h2 hl h1
  unfold GenRun
  obtain ⟨inf, hinf, hsz⟩ := Option.map_eq_some_iff.1 hsize
  have hrun2 : (Instr.storeAt et (.pointer (some ⟨idAt ids n, o, none⟩)) v).run C.P w = .ok () w' := by
    simp [Instr.storeAt, Instr.sureAddr, storeVar, sizeOf, typeInfo, hinf, hsz, hv, hr]
  simp only [execOp, hxa, hxv, Sem.run_bind, Sem.run_pure, Result.andThen_ok, hrun2]
  refine ⟨vs, ids, hx, rfl, List.prefix_refl _, ?_, holds_pre t hp h⟩
  have hmem := idAt_mem (ids := ids) (n := n) (hf.len ▸ hlt)
  refine hf.act (F := fun b => b = idAt ids n) (n := n) ⟨hgr.os, hgr.tape, hgr.output, hgr.size, fun k hk hne => hgr.block k hk (fun e => hne (Option.some.inj e))⟩ (fun b hb2 => .inl hb2) hn ?_ ?_ (fun b hb2 => .inl hb2) hhp hfit hc hone
  · rw [hcs']; exact hg
  · exact hx.loc w w' hf.x fun b hb2 => hgr.block b (hf.sep b hb2).1 (fun e => by cases e; exact (hf.sep _ hb2).2 hmem)
/-- A call of a function that has no body. -/
theorem node_ext {g : Nat} {as : List Operand} {ts : Array TypeId} {fn : Func} {e : Array Value → Sem Value} {r : SV} {V : Value} {AS : Array Value} (vs : Vals) (hf : C.P.funcs[g]? = some fn) (hnm : (fn.name == "runtime.NumGoroutine") = false) (hb : fn.body.isNone = true) (hn : Extern.findNext fn = none) (he : Extern.find fn = some e)
    (has : ∀ ids, (as.map (envOf ρ ids ps)).toArray = AS) (hrun : ∀ w, (e AS).run C.P w = .ok V w) (hr : ∀ ids, r.den (ρ.add vs) ids = V) (hhp : m'.hp = m.hp) (hfit : hpFits m.c m.hp.length m.hp = true) (hc : (ρ.add vs).cnt = m'.c) (h1 : ∀ v, v ∈ vs.v → v.oneCell' = true)
    (h : t.holds C (ρ.add vs) pre hx L) : (Tree.gen (.call { callee := .value (.func g), args := as.toArray, argTypes := ts }) ty ps m (some r) m' t).holds C ρ pre hx L := by
  refine node_gpure (V := V) vs (fun ids w hp hf2 => ?_) hr hhp hfit hc h1 h
  have hr2 := hrun w
  unfold execOp
  simp only [resolve, envOf, Deferred.ofValue, List.map_toArray, has, Sem.run_bind, Sem.run_pure, Result.andThen_ok, invoke, callFunc, run_program, hf, hnm, hb, hn, he, run_mark, Bool.false_eq_true, if_false, if_true, Array.append_empty]
  simp [hr2]
theorem node_real {xo : Operand} {bt : Nat} {r : SV} {k : FloatKind} {x y : Nat} (vs : Vals) (hxo : ∀ ids, envOf ρ ids ps xo = .complex k x y) (hr : ∀ ids, r.den (ρ.add vs) ids = .float k x) (hhp : m'.hp = m.hp) (hfit : hpFits m.c m.hp.length m.hp = true) (hc : (ρ.add vs).cnt = m'.c) (h1 : ∀ v, v ∈ vs.v → v.oneCell' = true)
    (h : t.holds C (ρ.add vs) pre hx L) : (Tree.gen (.call { callee := .builtin .real, args := #[xo], argTypes := #[bt] }) ty ps m (some r) m' t).holds C ρ pre hx L := by
  refine node_gpure (V := .float k x) vs (fun ids w hp hf2 => ?_) hr hhp hfit hc h1 h
  simp only [execOp, resolve, invoke, builtin, hxo, Sem.run_bind, Sem.run_pure, Result.andThen_ok, List.map_toArray, List.map_cons, List.map_nil, run_real]
theorem node_imag {xo : Operand} {bt : Nat} {r : SV} {k : FloatKind} {x y : Nat} (vs : Vals) (hxo : ∀ ids, envOf ρ ids ps xo = .complex k x y) (hr : ∀ ids, r.den (ρ.add vs) ids = .float k y) (hhp : m'.hp = m.hp) (hfit : hpFits m.c m.hp.length m.hp = true) (hc : (ρ.add vs).cnt = m'.c) (h1 : ∀ v, v ∈ vs.v → v.oneCell' = true)
    (h : t.holds C (ρ.add vs) pre hx L) : (Tree.gen (.call { callee := .builtin .imag, args := #[xo], argTypes := #[bt] }) ty ps m (some r) m' t).holds C ρ pre hx L := by
  refine node_gpure (V := .float k y) vs (fun ids w hp hf2 => ?_) hr hhp hfit hc h1 h
  simp only [execOp, resolve, invoke, builtin, hxo, Sem.run_bind, Sem.run_pure, Result.andThen_ok, List.map_toArray, List.map_cons, List.map_nil, run_imag]
/-- An operation of two operands. -/
theorem node_bin {f : BinOp} {bt : Nat} {xo yo : Operand} {fl : TypeId} {r : SV} {x y V : Value} (vs : Vals) (hxo : ∀ ids, envOf ρ ids ps xo = x) (hyo : ∀ ids, envOf ρ ids ps yo = y) (hg : ∀ w, (eqGuard f bt xo yo x y).run C.P w = .ok () w) (hrun : ∀ w, (binOp f bt x y).run C.P w = .ok V w) (hr : ∀ ids, r.den (ρ.add vs) ids = V) (hhp : m'.hp = m.hp) (hfit : hpFits m.c m.hp.length m.hp = true) (hc : (ρ.add vs).cnt = m'.c) (h1 : ∀ v, v ∈ vs.v → v.oneCell' = true)
    (h : t.holds C (ρ.add vs) pre hx L) : (Tree.gen (.binOp f bt xo yo fl) ty ps m (some r) m' t).holds C ρ pre hx L := by
  refine node_gpure (V := V) vs (fun ids w hp hf2 => ?_) hr hhp hfit hc h1 h
  have hr2 := hrun w
  have hg2 := hg w
  unfold execOp
  simp only [hxo, hyo]
  simp [hr2, hg2]
/-- A conversion. -/
theorem node_conv {s d : Nat} {xo : Operand} {r : SV} {x V : Value} (vs : Vals) (hxo : ∀ ids, envOf ρ ids ps xo = x) (hrun : ∀ w, (convert s d x).run C.P w = .ok V w) (hr : ∀ ids, r.den (ρ.add vs) ids = V) (hhp : m'.hp = m.hp) (hfit : hpFits m.c m.hp.length m.hp = true) (hc : (ρ.add vs).cnt = m'.c) (h1 : ∀ v, v ∈ vs.v → v.oneCell' = true)
    (h : t.holds C (ρ.add vs) pre hx L) : (Tree.gen (.convert s d xo) ty ps m (some r) m' t).holds C ρ pre hx L := by
  refine node_gpure (V := V) vs (fun ids w hp hf2 => ?_) hr hhp hfit hc h1 h
  have hr2 := hrun w
  unfold execOp
  simp only [hxo]
  simp [hr2]
end
end Go.Eng
