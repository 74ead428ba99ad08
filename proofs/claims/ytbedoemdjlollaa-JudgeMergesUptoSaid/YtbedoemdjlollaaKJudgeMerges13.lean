/- Part 13 of the texts of a proof about the given program: what the statement's proof needs of them. -/
import Derived.Laws.BytesArg
import GoSem.Extern.Table
import Derived.Laws.Cover3
import Derived.KernelRfl
import Derived.Test.YtbedoemdjlollaaKJudgeMerges12
namespace Go.Eng
open Go.RowKit Go.Syn Go.MapKept
set_option linter.unusedVariables false
set_option linter.unusedSimpArgs false
section
variable {C : Cfg} {ρ : Env} {pre : List Nat} {hx hx' rest : HX} {L : Stack} {m m' : Mem} {ty : Nat} {ps : List (Nat × SV)} {t : Tree}
theorem node_appends {st e : TypeId} {so xo : Operand} {ac : Go.Call} {r : SV} {z : Value} {sz bytes : Nat} (hac : ac = { callee := .builtin .append, args := #[so, xo], argTypes := #[st, st] }) (ht : C.P.underlying st = some (.slice e)) (hinfo : (C.P.info? e).map (fun i => (i.zero, i.size, i.bytes)) = some (some z, sz, bytes)) (hz : z.cells.size = sz) (hsz : 0 < sz)
    (a : Option Addr) (n cap : Nat) (xs : List Value) (sa : List Nat → Option Addr) (n2 cap2 : Nat) (ys : List Value) (hlen : ys.length = n2 * sz) (hxs : ∀ ids w, pre <+: ids → Facts C m ρ ids hx w → (HX.rw sz e a n cap xs).X w) (hys : ∀ ids w, pre <+: ids → Facts C m ρ ids hx w → Cells w (sa ids) ys) (h1 : ∀ u ∈ ys, u.oneCell' = true)
    (hrest : ∀ w, hx.X w → rest.X w ∧ ∀ k, rest.F k → hx.F k) (hrow : ∀ k, cap ≠ 0 → abk a = some k → hx.F k) (hdis : ∀ k, cap ≠ 0 → abk a = some k → ¬ rest.F k) (hM : ∀ k, cap ≠ 0 → abk a = some k → C.W.heap.size ≤ k ∨ C.M k)
    (h63 : n + n2 ≤ maxLen) (hbytes : (n + n2) * bytes ≤ 140737488355328) (hso : ∀ ids, envOf ρ ids ps so = .slice a n cap) (hxo : ∀ ids, pre <+: ids → envOf ρ ids ps xo = .slice (sa ids) n2 cap2)
    (hr : ∀ a' cap' ids, r.den (ρ.add ⟨[], [], [], [n + n2, cap'], [a']⟩) ids = .slice a' (n + n2) cap') (hhp : m'.hp = m.hp) (hfit : hpFits m.c m.hp.length m.hp = true) (hc : ∀ a' cap', (ρ.add ⟨[], [], [], [n + n2, cap'], [a']⟩).cnt = m'.c)
    (h : ∀ a' cap', (n2 = 0 → a' = a ∧ cap' = cap) → (∀ k, cap' ≠ 0 → abk a' = some k → ¬ rest.F k) → (∀ k, cap' ≠ 0 → abk a' = some k → (cap ≠ 0 ∧ abk a = some k) ∨ (C.W.heap.size ≤ k ∧ ¬ hx.F k)) → t.holds C (ρ.add ⟨[], [], [], [n + n2, cap'], [a']⟩) pre (rest.and (HX.rw sz e a' (n + n2) cap' (xs ++ ys))) L) :
    (Tree.gen (.call ac) ty ps m (some r) m' t).holds C ρ pre hx L := by
  intro ids w hp hf
  subst hac
  unfold GenRun
  obtain ⟨i0, hi, hz0, hz1, hz2⟩ := info_parts hinfo
  have hrw := hxs ids w hp hf
  have hcs := hys ids w hp hf
  rcases Nat.eq_zero_or_pos n2 with h0 | h0
  · subst h0
    have hye : ys = [] := List.eq_nil_of_length_eq_zero (by rw [hlen]; simp)
    subst hye
    have hle := rw_le hrw
    have hrun : (Builtin.append_ #[st, st] ty #[.slice a n cap, .slice (sa ids) 0 cap2]).run C.P w = .ok (.slice a n cap) w := by
      have e0 : n + 0 ≤ cap := by omega
      cases a <;> cases sa ids <;> simp [Builtin.append_, run_underlying ht, sizeOf, typeInfo, hi, Builtin.lenOf, Builtin.firstCells, storeCells, loadCells, loadCellsFrom, hle.1]
    simp only [execOp, resolve, invoke, builtin, hso, hxo ids hp, Sem.run_bind, Sem.run_pure, Result.andThen_ok, List.map_toArray, List.map_cons, List.map_nil, hrun]
    refine ⟨⟨[], [], [], [n + 0, cap], [a]⟩, ids, rest.and (HX.rw sz e a (n + 0) cap (xs ++ [])), ?_, List.prefix_refl _, hf.turn (hx' := rest.and (HX.rw sz e a (n + 0) cap (xs ++ []))) (grown_none w) (fun b e => by cases e) ⟨(hrest w hf.x).1, by rw [List.append_nil]; exact hrw⟩ (fun k hk => ?_) hhp hfit (hc _ _) oneNil, holds_pre t hp (h a cap (fun _ => ⟨rfl, rfl⟩) (fun k h1 h2 => hdis k h1 h2) (fun k h1 h2 => .inl ⟨h1, h2⟩))⟩
    · rw [Option.map_some, hr]; rfl
    · rcases hk with hk | hk
      · exact .inl ((hrest w hf.x).2 k hk)
      · exact .inl (hrow k hk.1 hk.2)
  · have hpos : 0 < ys.length := by rw [hlen]; exact Nat.mul_pos h0 hsz
    obtain ⟨ha, hab, hcc⟩ := hcs hpos
    obtain ⟨ad, had⟩ : ∃ ad, sa ids = some ad := by
      cases hs : sa ids with
      | none => rw [hs] at ha; simp [PlainA] at ha
      | some ad => exact ⟨ad, rfl⟩
    rw [had] at ha hcc
    have hnews : ∀ j u, ys[j]? = some u → w.cell? (ad.add j) = some u := fun j u hj => by
      have e : ad = ⟨blk (some ad), ofs (some ad), none⟩ := Option.some.inj ha
      rw [e, Go.WideShapes.add_plain]; exact hcc j u hj
    obtain ⟨a', cap', w', hrun, hc0, hrow', hg, hblk⟩ := run_rw (P := C.P) w st ty e i0 z sz bytes ht hi hz0 hz1 hz2 hz hsz a n cap xs hrw ad n2 cap2 ys h0 hlen hnews h1 h63 hbytes
    have hlt : ∀ k, abk a' = some k → k < w'.heap.size := fun k hk => by
      obtain ⟨g, _, rfl, q, _⟩ := rw_open hrow' hc0
      cases hk; exact q
    have hrow1 : ∀ b, (if cap = 0 then none else abk a) = some b → cap ≠ 0 ∧ abk a = some b := fun b hb => by
      by_cases q : cap = 0
      · rw [if_pos q] at hb; cases hb
      · rw [if_neg q] at hb; exact ⟨q, hb⟩
    have hwhere : ∀ k, abk a' = some k → (cap ≠ 0 ∧ abk a = some k) ∨ w.heap.size ≤ k := fun k hk => by
      rcases hblk with ⟨q, q1⟩ | ⟨g, q1, q2⟩
      · exact .inl ⟨q, by rw [← q1]; exact hk⟩
      · rw [q1] at hk; cases hk; exact .inr q2
    have hnF : ∀ k, w.heap.size ≤ k → ¬ hx.F k := fun k hk hF => by have := (hf.sep _ hF).1; omega
    simp only [execOp, resolve, invoke, builtin, hso, hxo ids hp, had, Sem.run_bind, Sem.run_pure, Result.andThen_ok, List.map_toArray, List.map_cons, List.map_nil, hrun]
    refine ⟨⟨[], [], [], [n + n2, cap'], [a']⟩, ids, rest.and (HX.rw sz e a' (n + n2) cap' (xs ++ ys)), ?_, List.prefix_refl _, hf.turn (hx' := rest.and (HX.rw sz e a' (n + n2) cap' (xs ++ ys))) hg (fun b e => ?_) ⟨?_, hrow'⟩ (fun k hk => ?_) hhp hfit (hc _ _) oneNil, holds_pre t hp (h a' cap' (fun q => by omega) (fun k _ hk hF => ?_) (fun k _ hk => ?_))⟩
    · simp only [Option.map_some, hr]
    · exact ⟨hrow _ (hrow1 b e).1 (hrow1 b e).2, hM b (hrow1 b e).1 (hrow1 b e).2⟩
    · refine rest.loc w w' (hrest w hf.x).1 fun k hk => hg.block k (hf.sep k ((hrest w hf.x).2 k hk)).1 fun q => ?_
      obtain ⟨q1, q2⟩ := hrow1 k q.symm
      exact hdis k q1 q2 hk
    · rcases hk with hk | hk
      · exact .inl ((hrest w hf.x).2 k hk)
      · rcases hwhere k hk.2 with q | q
        · exact .inl (hrow k q.1 q.2)
        · exact .inr ⟨q, hlt k hk.2⟩
    · rcases hwhere k hk with q | q
      · exact hdis k q.1 q.2 hF
      · exact hnF k q ((hrest w hf.x).2 k hF)
    · rcases hwhere k hk with q | q
      · exact .inl q
      · exact .inr ⟨Nat.le_trans hf.chg.size q, hnF k q⟩
def sliA (a : Option Addr) (lo cap sz : Nat) : Option Addr := if cap = lo then a else a.map (·.add (lo * sz))
theorem node_from {st e : TypeId} {xo lo : Operand} {r : SV} {z : Value} {n cap l sz bytes : Nat} (a : Option Addr) (ht : C.P.underlying st = some (.slice e)) (hel : C.P.elem st = e) (hinfo : (C.P.info? e).map (fun i => (i.zero, i.size, i.bytes)) = some (some z, sz, bytes))
    (hxo : ∀ ids, envOf ρ ids ps xo = .slice a n cap) (hlo : ∀ ids, envOf ρ ids ps lo = .int .i64 (l : Int)) (hl : l ≤ n)
    (hr : ∀ ids, r.den (ρ.add ⟨[], [], [], [n - l, cap - l], [sliA a l cap sz]⟩) ids = .slice (sliA a l cap sz) (n - l) (cap - l)) (hhp : m'.hp = m.hp) (hfit : hpFits m.c m.hp.length m.hp = true) (hc : (ρ.add ⟨[], [], [], [n - l, cap - l], [sliA a l cap sz]⟩).cnt = m'.c)
    (h : t.holds C (ρ.add ⟨[], [], [], [n - l, cap - l], [sliA a l cap sz]⟩) pre hx L) :
    (Tree.gen (.slice st xo (some lo) none none) ty ps m (some r) m' t).holds C ρ pre hx L := by
  obtain ⟨i0, hi, hz0, hz1, hz2⟩ := info_parts hinfo
  refine node_gpure (V := .slice (sliA a l cap sz) (n - l) (cap - l)) _ (fun ids w hp hf => ?_) hr hhp hfit hc oneNil h
  have hsize : (sizeOf (C.P.elem st)).run C.P w = .ok sz w := by
    rw [hel]; simp [sizeOf, typeInfo, hi, hz1]
  have ht' : C.P.underlying st = some (.slice (C.P.elem st)) := by rw [ht, hel]
  have hrun : (Instr.sliceAt st (.slice a n cap) (some (.int .i64 (l : Int))) none none).run C.P w = .ok (.slice (sliA a l cap sz) (n - l) (cap - l)) w := by
    rw [run_sliceAt_slice w st _ _ _ _ ht', run_slice_l w st a n cap ht' .i64 (l : Int) (by omega) (by omega), hsize]
    simp [Result.andThen, sliced, sliA]
  simp only [execOp, hxo, hlo, Sem.run_bind, Sem.run_pure, Result.andThen_ok, Option.map_none, Option.map_some, hrun]
end
theorem sli_cells {w : World} {a : Option Addr} {xs : List Value} (h : Cells w a xs) (l k cap sz : Nat) (hl : l * sz ≤ xs.length) (hc : xs.length ≤ cap * sz) (hsz : 0 < sz) : Cells w (sliA a l cap sz) ((xs.drop (l * sz)).take k) := by
  intro h0
  have h1 : l * sz < xs.length := by simp only [List.length_take, List.length_drop] at h0; omega
  have hne : cap ≠ l := fun e => by subst e; omega
  obtain ⟨ha, hb, hcc⟩ := h (by omega)
  obtain ⟨ad, rfl⟩ : ∃ ad, a = some ad := by
    cases a with
    | none => simp [PlainA] at ha
    | some ad => exact ⟨ad, rfl⟩
  have e : ad = ⟨blk (some ad), ofs (some ad), none⟩ := Option.some.inj ha
  have e2 : sliA (some ad) l cap sz = some ⟨blk (some ad), ofs (some ad) + l * sz, none⟩ := by
    unfold sliA
    rw [if_neg hne, Option.map_some, e, Go.WideShapes.add_plain]; rfl
  rw [e2]
  refine ⟨rfl, hb, fun i u hi => ?_⟩
  have hi2 : xs[l * sz + i]? = some u := by
    rw [List.getElem?_take] at hi
    split at hi
    · rw [List.getElem?_drop] at hi; exact hi
    · cases hi
  have := hcc (l * sz + i) u hi2
  show w.cell? ⟨blk (some ad), ofs (some ad) + l * sz + i, none⟩ = some u
  rw [Nat.add_assoc]; exact this
section
variable {C : Cfg} {ρ : Env} {pre : List Nat} {hx : HX} {L : Stack} {m m' : Mem} {ty : Nat} {ps : List (Nat × SV)} {t : Tree}
end
end Go.Eng

namespace Go.Eng
open Go.RowKit Go.Syn
set_option linter.unusedVariables false
set_option linter.unusedSimpArgs false
section
variable {C : Cfg} {ρ : Env} {pre : List Nat} {hx hx' : HX} {L : Stack} {m m' : Mem} {ty : Nat} {ps : List (Nat × SV)} {t : Tree}
theorem node_ldp {n off sz bty : Nat} {e : IE} {cs bcs : List LV} (vs : Vals) (i : Nat) {us : List Value} (hn : m.hp[n]? = some (bty, bcs)) (hi : e.den ρ = (i : Int)) (hb : ∀ ids, cellsDen ρ ids bcs = us) (hcs : ∀ ids j u, (cellsDen (ρ.add vs) ids cs)[j]? = some u → us[off + i * sz + j]? = some u)
    (hc : (ρ.add vs).cnt = m'.c) (h1 : ∀ v, v ∈ vs.v → v.oneCell' = true) (h : t.holds C (ρ.add vs) pre hx L) : (Tree.ld true (.pix n off sz e) cs m m' t).holds C ρ pre hx L := by
  refine node_ld vs (fun ids w hp hf => ?_) (fun ids w hf => envUp hf hc h1) h
  refine ⟨⟨idAt ids n, off + i * sz, none⟩, ?_, fun q => q, fun j u hj => ?_⟩
  · simp only [LV.den, hi, Int.toNat_natCast]
  · have h2 := hf.blk n bty bcs hn
    rw [hb] at h2
    rw [add_plain', cells_blk h2, hcs ids j u hj]
theorem node_stp {n o et bty : Nat} {xa xv : Operand} {bcs cs' : List LV} (vs : Vals) {us us' : List Value} {v : Value} (hn : m.hp[n]? = some (bty, bcs)) (hb : ∀ ids, cellsDen ρ ids bcs = us) (hsize : (C.P.info? et).map (·.size) = some us'.length) (hxa : ∀ ids, envOf ρ ids ps xa = .pointer (some ⟨idAt ids n, o, none⟩)) (hxv : ∀ ids, envOf ρ ids ps xv = v) (hv : v.cells = us'.toArray) (h1 : ∀ u ∈ us', u.oneCell' = true) (h0 : 0 < us'.length)
    (hl : o + us'.length ≤ us.length) (hhp : m'.hp = m.hp.set n (bty, cs')) (hcs' : ∀ ids, cellsDen (ρ.add vs) ids cs' = spl us o us') (hfit : hpFits m.c m.hp.length m.hp = true) (hc : (ρ.add vs).cnt = m'.c) (hone : ∀ v, v ∈ vs.v → v.oneCell' = true)
    (h : t.holds C (ρ.add vs) pre hx L) : (Tree.gen (.store et xa xv) ty ps m none m' t).holds C ρ pre hx L := by
  intro ids w hp hf
  have hlt : n < m.hp.length := by
    rcases Nat.lt_or_ge n m.hp.length with q | q
    · exact q
    · rw [List.getElem?_eq_none q] at hn; cases hn
  have h2 := hf.blk n bty bcs hn
  rw [hb] at h2
  obtain ⟨w', hr, hg, hgr⟩ := run_store_blk (P := C.P) (w := w) (g := idAt ids n) (o := o) (vs := us') h2 hl h1
  unfold GenRun
  obtain ⟨inf, hinf, hsz⟩ := Option.map_eq_some_iff.1 hsize
  have hrun2 : (Instr.storeAt et (.pointer (some ⟨idAt ids n, o, none⟩)) v).run C.P w = .ok () w' := by
    simp [Instr.storeAt, Instr.sureAddr, storeVar, sizeOf, typeInfo, hinf, hsz, hv, hr]
  simp only [execOp, hxa, hxv, Sem.run_bind, Sem.run_pure, Result.andThen_ok, hrun2]
  refine ⟨vs, ids, hx, rfl, List.prefix_refl _, ?_, holds_pre t hp h⟩
  have hmem := idAt_mem (ids := ids) (n := n) (hf.len ▸ hlt)
  refine hf.act (F := fun b => b = idAt ids n) (n := n) ⟨hgr.os, hgr.tape, hgr.output, hgr.size, fun k hk hne => hgr.block k hk (fun e => hne (Option.some.inj e))⟩ (fun b hb2 => .inl hb2) hn ?_ ?_ (fun b hb2 => .inl hb2) hhp hfit hc hone
  · rw [hcs']; exact hg
  · exact hx.loc w w' hf.x fun b hb2 => hgr.block b (hf.sep b hb2).1 (fun e => by cases e; exact (hf.sep _ hb2).2 hmem)
theorem node_ext {g : Nat} {av : List Operand} {ts : Array TypeId} {fn : Func} {e : Array Value → Sem Value} {r : SV} {V : Value} {AS : Array Value} (vs : Vals) (hf : C.P.funcs[g]? = some fn) (hnm : (fn.name == "runtime.NumGoroutine") = false) (hb : fn.body.isNone = true) (hn : Extern.findNext fn = none) (he : Extern.find fn = some e)
    (has : ∀ ids, (av.map (envOf ρ ids ps)).toArray = AS) (hrun : ∀ w, (e AS).run C.P w = .ok V w) (hr : ∀ ids, r.den (ρ.add vs) ids = V) (hhp : m'.hp = m.hp) (hfit : hpFits m.c m.hp.length m.hp = true) (hc : (ρ.add vs).cnt = m'.c) (h1 : ∀ v, v ∈ vs.v → v.oneCell' = true)
    (h : t.holds C (ρ.add vs) pre hx L) : (Tree.gen (.call { callee := .value (.func g), args := av.toArray, argTypes := ts }) ty ps m (some r) m' t).holds C ρ pre hx L := by
  refine node_gpure (V := V) vs (fun ids w hp hf2 => ?_) hr hhp hfit hc h1 h
  have hr2 := hrun w
  unfold execOp
  simp only [resolve, envOf, Deferred.ofValue, List.map_toArray, has, Sem.run_bind, Sem.run_pure, Result.andThen_ok, invoke, callFunc, run_program, hf, hnm, hb, hn, he, run_mark, Bool.false_eq_true, if_false, if_true, Array.append_empty]
  simp [hr2]
theorem node_real {xo : Operand} {bt : Nat} {r : SV} {k : FloatKind} {x y : Nat} (vs : Vals) (hxo : ∀ ids, envOf ρ ids ps xo = .complex k x y) (hr : ∀ ids, r.den (ρ.add vs) ids = .float k x) (hhp : m'.hp = m.hp) (hfit : hpFits m.c m.hp.length m.hp = true) (hc : (ρ.add vs).cnt = m'.c) (h1 : ∀ v, v ∈ vs.v → v.oneCell' = true)
    (h : t.holds C (ρ.add vs) pre hx L) : (Tree.gen (.call { callee := .builtin .real, args := #[xo], argTypes := #[bt] }) ty ps m (some r) m' t).holds C ρ pre hx L := by
  refine node_gpure (V := .float k x) vs (fun ids w hp hf2 => ?_) hr hhp hfit hc h1 h
  simp only [execOp, resolve, invoke, builtin, hxo, Sem.run_bind, Sem.run_pure, Result.andThen_ok, List.map_toArray, List.map_cons, List.map_nil, run_real]
theorem node_imag {xo : Operand} {bt : Nat} {r : SV} {k : FloatKind} {x y : Nat} (vs : Vals) (hxo : ∀ ids, envOf ρ ids ps xo = .complex k x y) (hr : ∀ ids, r.den (ρ.add vs) ids = .float k y) (hhp : m'.hp = m.hp) (hfit : hpFits m.c m.hp.length m.hp = true) (hc : (ρ.add vs).cnt = m'.c) (h1 : ∀ v, v ∈ vs.v → v.oneCell' = true)
    (h : t.holds C (ρ.add vs) pre hx L) : (Tree.gen (.call { callee := .builtin .imag, args := #[xo], argTypes := #[bt] }) ty ps m (some r) m' t).holds C ρ pre hx L := by
  refine node_gpure (V := .float k y) vs (fun ids w hp hf2 => ?_) hr hhp hfit hc h1 h
  simp only [execOp, resolve, invoke, builtin, hxo, Sem.run_bind, Sem.run_pure, Result.andThen_ok, List.map_toArray, List.map_cons, List.map_nil, run_imag]
theorem node_bin {f : BinOp} {bt : Nat} {xo yo : Operand} {fl : TypeId} {r : SV} {x y V : Value} (vs : Vals) (hxo : ∀ ids, envOf ρ ids ps xo = x) (hyo : ∀ ids, envOf ρ ids ps yo = y) (hg : ∀ w, (eqGuard f bt xo yo x y).run C.P w = .ok () w) (hrun : ∀ w, (binOp f bt x y).run C.P w = .ok V w) (hr : ∀ ids, r.den (ρ.add vs) ids = V) (hhp : m'.hp = m.hp) (hfit : hpFits m.c m.hp.length m.hp = true) (hc : (ρ.add vs).cnt = m'.c) (h1 : ∀ v, v ∈ vs.v → v.oneCell' = true)
    (h : t.holds C (ρ.add vs) pre hx L) : (Tree.gen (.binOp f bt xo yo fl) ty ps m (some r) m' t).holds C ρ pre hx L := by
  refine node_gpure (V := V) vs (fun ids w hp hf2 => ?_) hr hhp hfit hc h1 h
  have hr2 := hrun w
  have hg2 := hg w
  unfold execOp
  simp only [hxo, hyo]
  simp [hr2, hg2]
theorem node_conv {s d : Nat} {xo : Operand} {r : SV} {x V : Value} (vs : Vals) (hxo : ∀ ids, envOf ρ ids ps xo = x) (hrun : ∀ w, (convert s d x).run C.P w = .ok V w) (hr : ∀ ids, r.den (ρ.add vs) ids = V) (hhp : m'.hp = m.hp) (hfit : hpFits m.c m.hp.length m.hp = true) (hc : (ρ.add vs).cnt = m'.c) (h1 : ∀ v, v ∈ vs.v → v.oneCell' = true)
    (h : t.holds C (ρ.add vs) pre hx L) : (Tree.gen (.convert s d xo) ty ps m (some r) m' t).holds C ρ pre hx L := by
  refine node_gpure (V := V) vs (fun ids w hp hf2 => ?_) hr hhp hfit hc h1 h
  have hr2 := hrun w
  unfold execOp
  simp only [hxo]
  simp [hr2]
end
end Go.Eng

namespace Go.Eng
open Go.RowKit Go.Syn
set_option linter.unusedVariables false
set_option linter.unusedSimpArgs false
section
variable {C : Cfg} {ρ : Env} {pre : List Nat} {hx : HX} {L : Stack} {m m' : Mem} {ty : Nat} {ps : List (Nat × SV)} {t : Tree}
end
end Go.Eng

namespace Go.Eng
open Go.RowKit Go.Syn
set_option linter.unusedVariables false
section
variable {C : Cfg} {ρ : Env} {pre : List Nat} {hx : HX} {L : Stack} {m m' : Mem} {args : List SV} {r : SV} {t f : Tree} {b : BE}
theorem br_F (c : Bool) (hb : b.den ρ = c) (hc : c = false) (h : f.holds C ρ pre hx L) : (Tree.br b t f).holds C ρ pre hx L := br_f (hb.trans hc) h
theorem br_T (c : Bool) (hb : b.den ρ = c) (hc : c = true) (h : t.holds C ρ pre hx L) : (Tree.br b t f).holds C ρ pre hx L := br_t (hb.trans hc) h
theorem again_V {key : Nat} {es : Vec} {I : Vals → HX → Prop} (v' : Vals) (hI : lkup key L = some I) (hv : ∀ ids, es.den ρ ids = v') (hx' : HX) (hX : ∀ w ids, Facts C m ρ ids hx w → HXok hx' w ids) (h : I v' hx') : (Tree.again key es m).holds C ρ pre hx L :=
  fun ids w hp hf => ⟨hx', hX w ids hf, I, hI, by rw [hv ids]; exact h⟩
theorem node_P {f : Nat} (vs : Vals) (AS : Array Value) (V : Value) (hargs : ∀ ids, (args.map (SV.den ρ ids)).toArray = AS) (hr : ∀ ids, r.den (ρ.add vs) ids = V) (hhp : m'.hp = m.hp) (hfit : hpFits m.c m.hp.length m.hp = true) (hc : (ρ.add vs).cnt = m'.c) (h1 : ∀ v, v ∈ vs.v → v.oneCell' = true) (hcall : ∀ ids w, pre <+: ids → Facts C m ρ ids hx w → Calls C.P f AS w (PureAt w V))
    (h : t.holds C (ρ.add vs) pre hx L) : (Tree.call f args m r m' t).holds C ρ pre hx L :=
  node_pure vs hhp hfit hc h1 (fun ids w hp hf => by rw [hargs, hr]; exact hcall ids w hp hf) h
end
theorem cl_stay {w w' : World} {a : Option Addr} {xs : List Value} (h : Cells w a xs) (hb : ∀ k, k < w.heap.size → w'.heap[k]? = w.heap[k]?) : Cells w' a xs := (HX.cl a xs).loc w w' h fun k hk => hb k (cl_sep h k hk)
end Go.Eng

namespace Go.Eng
open Go.RowKit Go.Syn
set_option linter.unusedVariables false
theorem blk_cells {w : World} {b ty : Nat} {us : List Value} (h : Blk w b us ty) : Cells w (some ⟨b, 0, none⟩) us := fun h0 => by
  refine ⟨rfl, ?_, fun i u hi => ?_⟩
  · show b < w.heap.size
    rcases Nat.lt_or_ge b w.heap.size with q | q
    · exact q
    · have h2 : w.heap[b]? = _ := h
      rw [Array.getElem?_eq_none q] at h2; cases h2
  · have := cells_blk (o := 0) h i
    rw [Nat.zero_add] at this
    show w.cell? ⟨b, 0 + i, none⟩ = some u
    rw [Nat.zero_add, ← hi]
    exact this
section
variable {C : Cfg} {ρ : Env} {pre : List Nat} {hx hx2 : HX} {L : Stack} {m m' : Mem} {args : List SV} {r : SV} {t : Tree} {ids : List Nat} {w w' : World}
theorem node_out {f : Nat} (AS : List Nat → Array Value) (Q : Vals → HX → Prop) (hargs : ∀ ids, (args.map (SV.den ρ ids)).toArray = AS ids)
    (hcall : ∀ ids w, pre <+: ids → Facts C m ρ ids hx w → Calls C.P f (AS ids) w (fun e w' => ∃ vs hx2, Q vs hx2 ∧ e = .returned (r.den (ρ.add vs) ids) ∧ hx2.X w' ∧ (∀ k, hx2.F k → w.heap.size ≤ k ∧ k < w'.heap.size) ∧ Below w.heap.size w w'))
    (hhp : m'.hp = m.hp) (hfit : hpFits m.c m.hp.length m.hp = true) (hc : ∀ vs hx2, Q vs hx2 → (ρ.add vs).cnt = m'.c ∧ ∀ v, v ∈ vs.v → v.oneCell' = true)
    (h : ∀ vs hx2, Q vs hx2 → (∀ k, hx2.F k → C.W.heap.size ≤ k ∧ ¬ hx.F k) → t.holds C (ρ.add vs) pre (hx.and hx2) L) : (Tree.call f args m r m' t).holds C ρ pre hx L := by
  intro ids w hp hf
  rw [hargs]
  refine (hcall ids w hp hf).mono ?_
  rintro e w' ⟨vs, hx2, hQ, rfl, hX, hge, hbel⟩
  have hg : w.grownBy w' none := ⟨hbel.os, hbel.tape, hbel.output, hbel.size, fun k hk _ => hbel.block k hk⟩
  refine ⟨vs, ids, _, rfl, List.prefix_refl _, hf.turn (hx' := hx.and hx2) hg (fun b e => by cases e) ⟨hx.loc w w' hf.x fun k hk => hbel.block k (hf.sep k hk).1, hX⟩ (fun k hk => ?_) hhp hfit (hc _ _ hQ).1 (hc _ _ hQ).2, holds_pre t hp (h vs hx2 hQ (fun k h2 => ⟨Nat.le_trans hf.chg.size (hge k h2).1, fun q => by have := (hf.sep _ q).1; have := (hge k h2).1; omega⟩))⟩
  rcases hk with hk | hk
  · exact .inl hk
  · exact .inr (hge k hk)
theorem holds_env {ρ' : Env} (e : ρ = ρ') (h : t.holds C ρ' pre hx L) : t.holds C ρ pre hx L := e ▸ h
theorem holds_eq {hx' : HX} (e : hx = hx') (h : t.holds C ρ pre hx' L) : t.holds C ρ pre hx L := e ▸ h
theorem need_k {p : Need} (P : Prop) (he : p.den ρ = P) (hp : P) (h : t.holds C ρ pre hx L) : (Tree.need p t).holds C ρ pre hx L := by
  have hd : p.den ρ := he.mpr hp
  exact ⟨hd, fun _ => h⟩
theorem node_PI {f : Nat} (vs : Vals) (AS : List Nat → Array Value) (V : Value) (hargs : ∀ ids, (args.map (SV.den ρ ids)).toArray = AS ids) (hr : ∀ ids, r.den (ρ.add vs) ids = V) (hhp : m'.hp = m.hp) (hfit : hpFits m.c m.hp.length m.hp = true) (hc : (ρ.add vs).cnt = m'.c) (h1 : ∀ v, v ∈ vs.v → v.oneCell' = true) (hcall : ∀ ids w, pre <+: ids → Facts C m ρ ids hx w → Calls C.P f (AS ids) w (PureAt w V))
    (h : t.holds C (ρ.add vs) pre hx L) : (Tree.call f args m r m' t).holds C ρ pre hx L :=
  node_pure vs hhp hfit hc h1 (fun ids w hp hf => by rw [hargs, hr]; exact hcall ids w hp hf) h
theorem node_ldk {l : LV} {cs : List LV} (vs : Vals) (V : List Nat → Value) (us : List Value) (hl : ∀ ids, l.den ρ ids = V ids) (hcs : ∀ ids, cellsDen (ρ.add vs) ids cs = us) (hcell : ∀ ids w, pre <+: ids → Facts C m ρ ids hx w → CellsAt w (V ids) us (fun _ => False)) (hc : (ρ.add vs).cnt = m'.c) (h1 : ∀ v, v ∈ vs.v → v.oneCell' = true)
    (h : t.holds C (ρ.add vs) pre hx L) : (Tree.ld true l cs m m' t).holds C ρ pre hx L :=
  node_ld vs (fun ids w hp hf => by rw [hl, hcs]; exact hcell ids w hp hf) (fun ids w hf => envUp hf hc h1) h
theorem node_ld0 {l : LV} {cs : List LV} {k : Cnt} (vs : Vals) (V : Value) (us : List Value) (hl : ∀ ids, l.den ρ ids = V) (hcs : ∀ ids, cellsDen (ρ.add vs) ids cs = us) (hcell : CellsAt C.W V us C.M) (hρ : EnvOk ρ k) (hc : (ρ.add vs).cnt = m'.c) (h1 : ∀ v, v ∈ vs.v → v.oneCell' = true)
    (h : t.holds C (ρ.add vs) pre hx L) : (Tree.ld false l cs m m' t).holds C ρ pre hx L :=
  ⟨vs, fun ids => by rw [hl, hcs]; exact hcell, ⟨hc, fun v hv => by
    simp only [Env.add, List.mem_append] at hv
    exact hv.elim (hρ.one v) (h1 v)⟩, h⟩
end
end Go.Eng

namespace Go.Eng
open Go.RowKit Go.Syn
set_option linter.unusedVariables false
theorem flat_len {α : Type} {f : α → List Value} {n : Nat} (hf : ∀ x, (f x).length = n) (es : List α) : (es.flatMap f).length = es.length * n := by
  induction es with
  | nil => simp
  | cons x r ih => rw [List.flatMap_cons, List.length_append, ih, hf, List.length_cons, Nat.add_mul]; omega
theorem flat_take {α : Type} {f : α → List Value} {n : Nat} (hf : ∀ x, (f x).length = n) (es : List α) : ∀ i, (es.flatMap f).take (i * n) = (es.take i).flatMap f := by
  induction es with
  | nil => intro i; simp
  | cons x r ih =>
    intro i
    cases i with
    | zero => simp
    | succ i =>
      rw [List.take_succ_cons, List.flatMap_cons, List.flatMap_cons, List.take_append, hf, List.take_of_length_le (by rw [hf, Nat.add_mul]; omega), show (i + 1) * n - n = i * n by rw [Nat.add_mul]; omega, ih]
theorem flat_drop {α : Type} {f : α → List Value} {n : Nat} (hf : ∀ x, (f x).length = n) (es : List α) : ∀ i, (es.flatMap f).drop (i * n) = (es.drop i).flatMap f := by
  induction es with
  | nil => intro i; simp
  | cons x r ih =>
    intro i
    cases i with
    | zero => simp
    | succ i =>
      rw [List.drop_succ_cons, List.flatMap_cons, List.drop_append, hf, List.drop_of_length_le (by rw [hf, Nat.add_mul]; omega), List.nil_append, show (i + 1) * n - n = i * n by rw [Nat.add_mul]; omega, ih]
theorem flat_get {α : Type} {f : α → List Value} {n : Nat} (hf : ∀ x, (f x).length = n) {es : List α} {i : Nat} {e : α} (h : es[i]? = some e) {j : Nat} {u : Value} (hj : (f e)[j]? = some u) : (es.flatMap f)[i * n + j]? = some u := by
  obtain ⟨hi, he⟩ := List.getElem?_eq_some_iff.1 h
  have h1 : (es.flatMap f).drop (i * n) = f e ++ (es.drop (i + 1)).flatMap f := by
    rw [flat_drop hf, List.drop_eq_getElem_cons hi, he, List.flatMap_cons]
  have hl : j < (f e).length := by
    rcases Nat.lt_or_ge j (f e).length with q | q
    · exact q
    · rw [List.getElem?_eq_none q] at hj; cases hj
  rw [← List.getElem?_drop, h1, List.getElem?_append_left hl]; exact hj
theorem flat_spl {α : Type} {f : α → List Value} {n : Nat} (hf : ∀ x, (f x).length = n) {es : List α} {i : Nat} {e e' : α} (h : es[i]? = some e) {o : Nat} {us : List Value} (ho : o + us.length ≤ n) (he : f e' = spl (f e) o us) : spl (es.flatMap f) (i * n + o) us = (es.set i e').flatMap f := by
  obtain ⟨hi, hee⟩ := List.getElem?_eq_some_iff.1 h
  have hfl := flat_len hf es
  have hd : es.flatMap f = (es.take i).flatMap f ++ (f e ++ (es.drop (i + 1)).flatMap f) := by
    conv => lhs; rw [← List.take_append_drop i es, List.drop_eq_getElem_cons hi, hee]
    rw [List.flatMap_append, List.flatMap_cons]
  have hl : ((es.take i).flatMap f).length = i * n := by rw [flat_len hf, List.length_take, Nat.min_eq_left (by omega)]
  have hs : es.set i e' = es.take i ++ e' :: es.drop (i + 1) := by
    rw [List.set_eq_take_append_cons_drop, if_pos hi]
  rw [hs, List.flatMap_append, List.flatMap_cons, he, hd]
  unfold spl
  have hfe := hf e
  clear hd hfl hs
  generalize (es.take i).flatMap f = A at hl ⊢
  generalize (es.drop (i + 1)).flatMap f = B
  rw [List.take_append, hl, List.take_of_length_le (by rw [hl]; omega), Nat.add_sub_cancel_left, List.drop_append, hl, List.drop_of_length_le (by rw [hl]; omega), List.nil_append]
  rw [show i * n + o + us.length - i * n = o + us.length by omega, List.take_append_of_le_length (by omega), List.drop_append_of_le_length (by omega)]
  simp only [List.append_assoc]
theorem flat_part {α : Type} {f : α → List Value} {n : Nat} (hf : ∀ x, (f x).length = n) {w : World} {a : Option Addr} {es : List α} (h : Cells w a (es.flatMap f)) {i : Nat} {e : α} (hi : es[i]? = some e) {o : Nat} (us : List Value) (hu : ∀ j u, us[j]? = some u → (f e)[o + j]? = some u) (h0 : us ≠ []) :
    a.isSome = true ∧ ∀ (N : Nat → Prop), ¬ N ((a.getD ⟨0, 0, none⟩).block) → CellsAt w (.pointer (some (((a.getD ⟨0, 0, none⟩).add (i * n)).add o))) us N :=
  cl_part h us (fun j u hj => by rw [Nat.add_assoc]; exact flat_get hf hi (hu j u hj)) h0
def RwNew (w : World) (V : Value → Value) (sz e n : Nat) (xs : List Value) (r : Ending) (w' : World) : Prop := ∃ a' c', r = .returned (V (.slice a' n c')) ∧ (HX.rw sz e a' n c' xs).X w' ∧ (∀ k, c' ≠ 0 → abk a' = some k → w.heap.size ≤ k) ∧ Below w.heap.size w w'
theorem rw_blt {sz e n cap : Nat} {a : Option Addr} {xs : List Value} {w : World} (h : (HX.rw sz e a n cap xs).X w) {k : Nat} (h1 : cap ≠ 0) (h2 : abk a = some k) : k < w.heap.size := by
  obtain ⟨g, _, rfl, q, _⟩ := rw_open h h1
  cases h2; exact q
theorem rw_sm {sz e n cap : Nat} {a : Option Addr} {xs : List Value} {w : World} (h : (HX.rw sz e a n cap xs).X w) (hne : xs ≠ []) : a.isSome = true := by
  have hc : cap ≠ 0 := fun q => by
    rcases h with ⟨_, _, h3⟩ | ⟨h3, _⟩
    · exact hne h3
    · exact h3 q
  obtain ⟨g, _, rfl, _⟩ := rw_open h hc
  rfl
section
variable {C : Cfg} {ρ : Env} {pre : List Nat} {hx : HX} {L : Stack} {m m' : Mem} {args : List SV} {r : SV} {t : Tree}
theorem node_rwn {f : Nat} {V : Value → Value} {sz e n : Nat} {xs : List Value} (AS : List Nat → Array Value) (vs : Option Addr → Nat → Vals) (hargs : ∀ ids, (args.map (SV.den ρ ids)).toArray = AS ids) (hcall : ∀ ids w, pre <+: ids → Facts C m ρ ids hx w → Calls C.P f (AS ids) w (RwNew w V sz e n xs))
    (hr : ∀ a' c' ids, r.den (ρ.add (vs a' c')) ids = V (.slice a' n c')) (hhp : m'.hp = m.hp) (hfit : hpFits m.c m.hp.length m.hp = true) (hc : ∀ a' c', (ρ.add (vs a' c')).cnt = m'.c) (h1 : ∀ a' c' v, v ∈ (vs a' c').v → v.oneCell' = true)
    (h : ∀ a' c', (xs ≠ [] → a'.isSome = true) → (∀ k, c' ≠ 0 → abk a' = some k → C.W.heap.size ≤ k ∧ ¬ hx.F k) → t.holds C (ρ.add (vs a' c')) pre (hx.and (HX.rw sz e a' n c' xs)) L) : (Tree.call f args m r m' t).holds C ρ pre hx L := by
  intro ids w hp hf
  rw [hargs]
  refine (hcall ids w hp hf).mono ?_
  rintro e w' ⟨a', c', rfl, hX, hge, hbel⟩
  have hg : w.grownBy w' none := ⟨hbel.os, hbel.tape, hbel.output, hbel.size, fun k hk _ => hbel.block k hk⟩
  refine ⟨_, ids, _, by rw [← hr a' c' ids], List.prefix_refl _, hf.turn (hx' := hx.and (HX.rw sz _ a' n c' xs)) hg (fun b e => by cases e) ⟨hx.loc w w' hf.x fun k hk => hbel.block k (hf.sep k hk).1, hX⟩ (fun k hk => ?_) hhp hfit (hc _ _) (h1 _ _), holds_pre t hp (h a' c' (rw_sm hX) (fun k h2 h3 => ⟨Nat.le_trans hf.chg.size (hge k h2 h3), fun q => by have := (hf.sep _ q).1; have := hge k h2 h3; omega⟩))⟩
  rcases hk with hk | hk
  · exact .inl hk
  · exact .inr ⟨hge k hk.1 hk.2, rw_blt hX hk.1 hk.2⟩
end
def Rise (ks : List Int) : Prop := ∀ (i j : Nat) (x y : Int), i < j → ks[i]? = some x → ks[j]? = some y → x < y
def posI (ks : List Int) (t : Int) : Nat := (ks.takeWhile fun x => decide (x < t)).length
theorem posI_of {ks : List Int} {t : Int} : ∀ {i : Nat}, i ≤ ks.length → (∀ (x : Nat) (k : Int), x < i → ks[x]? = some k → k < t) → (∀ (x : Nat) (k : Int), i ≤ x → ks[x]? = some k → t ≤ k) → posI ks t = i := by
  induction ks with
  | nil => intro i h _ _; simp at h; subst h; rfl
  | cons k r ih =>
    intro i h h1 h2
    cases i with
    | zero =>
      have : t ≤ k := h2 0 k (Nat.le_refl _) rfl
      unfold posI
      rw [List.takeWhile_cons, decide_eq_false (by omega)]; rfl
    | succ i =>
      have hk : k < t := h1 0 k (Nat.zero_lt_succ _) rfl
      unfold posI
      rw [List.takeWhile_cons, decide_eq_true hk]
      show (r.takeWhile _).length + 1 = i + 1
      have := ih (i := i) (by rw [List.length_cons] at h; omega) (fun x y hx hy => h1 (x + 1) y (by omega) (by simpa using hy)) (fun x y hx hy => h2 (x + 1) y (by omega) (by simpa using hy))
      unfold posI at this
      omega
theorem half_i64 {i j : Nat} (h : i + j ≤ 1099511627776) : IntKind.i64.wrap (ifn .shr .u64 (IntKind.u64.wrap (IntKind.i64.wrap ((i : Int) + (j : Int)))) 1) = (((i + j) / 2 : Nat) : Int) := by
  rw [wrap_i64 (x := (i : Int) + (j : Int)) (by omega)]
  have e1 : IntKind.u64.wrap ((i : Int) + (j : Int)) = ((i + j : Nat) : Int) := by
    show ((i : Int) + (j : Int)) % 18446744073709551616 = _
    omega
  rw [e1]
  have e2 : ifn .shr .u64 ((i + j : Nat) : Int) 1 = (((i + j) / 2 : Nat) : Int) := by
    show ((i + j : Nat) : Int).fdiv (2 ^ min (1 : Int).toNat 64) = _
    rw [show (2 : Int) ^ min (1 : Int).toNat 64 = 2 by decide, Int.fdiv_eq_ediv_of_nonneg _ (by decide)]
    omega
  have h2 : (i + j) / 2 ≤ i + j := Nat.div_le_self _ _
  rw [e2]
  generalize (i + j) / 2 = q at h2 ⊢
  rw [wrap_i64 (by omega)]
end Go.Eng

namespace Go.Eng
open Go.RowKit Go.Syn
set_option linter.unusedVariables false
section
variable {C : Cfg} {ρ : Env} {pre : List Nat} {rest hx : HX} {L : Stack} {m m' : Mem} {ty : Nat} {ps : List (Nat × SV)} {t : Tree}
theorem node_upto {st e : TypeId} {xo hi : Operand} {r : SV} {z : Value} {n cap u sz bytes : Nat} (a : Option Addr) (ht : C.P.underlying st = some (.slice e)) (hel : C.P.elem st = e) (hinfo : (C.P.info? e).map (fun i => (i.zero, i.size, i.bytes)) = some (some z, sz, bytes))
    (hxo : ∀ ids, envOf ρ ids ps xo = .slice a n cap) (hhi : ∀ ids, envOf ρ ids ps hi = .int .i64 (u : Int)) (hu : ∀ ids w, Facts C m ρ ids hx w → u ≤ cap)
    (hr : ∀ ids, r.den (ρ.add ⟨[], [], [], [u, cap], [sliA a 0 cap sz]⟩) ids = .slice (sliA a 0 cap sz) u cap) (hhp : m'.hp = m.hp) (hfit : hpFits m.c m.hp.length m.hp = true) (hc : (ρ.add ⟨[], [], [], [u, cap], [sliA a 0 cap sz]⟩).cnt = m'.c)
    (h : t.holds C (ρ.add ⟨[], [], [], [u, cap], [sliA a 0 cap sz]⟩) pre hx L) :
    (Tree.gen (.slice st xo none (some hi) none) ty ps m (some r) m' t).holds C ρ pre hx L := by
  obtain ⟨i0, hi', hz0, hz1, hz2⟩ := info_parts hinfo
  refine node_gpure (V := .slice (sliA a 0 cap sz) u cap) _ (fun ids w hp hf => ?_) hr hhp hfit hc oneNil h
  have hu := hu ids w hf
  have hsize : (sizeOf (C.P.elem st)).run C.P w = .ok sz w := by
    rw [hel]; simp [sizeOf, typeInfo, hi', hz1]
  have ht' : C.P.underlying st = some (.slice (C.P.elem st)) := by rw [ht, hel]
  have hrun : (Instr.sliceAt st (.slice a n cap) none (some (.int .i64 (u : Int))) none).run C.P w = .ok (.slice (sliA a 0 cap sz) u cap) w := by
    rw [run_sliceAt_slice w st _ _ _ _ ht', run_slice_h w st a n cap ht' .i64 (u : Int) (by omega) (by omega), hsize]
    simp [Result.andThen, sliced, sliA]
  simp only [execOp, hxo, hhi, Sem.run_bind, Sem.run_pure, Result.andThen_ok, Option.map_none, Option.map_some, hrun]
theorem zeroCells_len (z : Array Value) (k : Nat) : (Builtin.zeroCells z k).toList.length = k * z.size := by simp [Builtin.zeroCells]
theorem zeroCells_one {z : Array Value} (hz : 0 < z.size) (h : ∀ v ∈ z.toList, v.oneCell' = true) (k : Nat) : ∀ v ∈ (Builtin.zeroCells z k).toList, v.oneCell' = true := fun v hv => by
  simp only [Builtin.zeroCells, Array.toList_map, List.mem_map] at hv
  obtain ⟨i, _, rfl⟩ := hv
  have hlt : i % z.size < z.size := Nat.mod_lt _ hz
  rw [getElem!_pos z _ hlt]
  exact h _ (by rw [Array.mem_toList_iff]; exact Array.getElem_mem hlt)
theorem node_clear_rw {st e : TypeId} {xo : Operand} {ac : Go.Call} {r : SV} {z : Value} {sz bytes : Nat} (hac : ac = { callee := .builtin .clear, args := #[xo], argTypes := #[st] }) (ht : C.P.underlying st = some (.slice e)) (hinfo : (C.P.info? e).map (fun i => (i.zero, i.size, i.bytes)) = some (some z, sz, bytes)) (hz : z.cells.size = sz) (hsz : 0 < sz) (hone : ∀ v ∈ z.cells.toList, v.oneCell' = true)
    (a : Option Addr) (n cap i : Nat) (xs : List Value) (hi : i < n) (hxo : ∀ ids, envOf ρ ids ps xo = .slice (sliA a i cap sz) (n - i) (cap - i)) (hdis : ∀ k, cap ≠ 0 → abk a = some k → ¬ rest.F k) (hM : ∀ k, cap ≠ 0 → abk a = some k → C.W.heap.size ≤ k ∨ C.M k) (hr : ∀ ids, r.den (ρ.add Vals.nil) ids = .tuple #[]) (hhp : m'.hp = m.hp) (hfit : hpFits m.c m.hp.length m.hp = true) (hc : (ρ.add Vals.nil).cnt = m'.c)
    (h : t.holds C (ρ.add Vals.nil) pre (rest.and (HX.rw sz e a i cap (xs.take (i * sz)))) L) : (Tree.gen (.call ac) ty ps m (some r) m' t).holds C ρ pre (rest.and (HX.rw sz e a n cap xs)) L := by
  intro ids w hp hf
  subst hac
  unfold GenRun
  obtain ⟨i0, hi0, hz0, hz1, hz2⟩ := info_parts hinfo
  have hle := rw_le hf.x.2
  have hc0 : cap ≠ 0 := by omega
  obtain ⟨g, cur, rfl, hlt, hg, hnc, hcm, hcl, htk⟩ := rw_open hf.x.2 hc0
  have hmul : n * sz ≤ cap * sz := Nat.mul_le_mul_right _ hnc
  have hmul2 : i * sz + (n - i) * sz = n * sz := by rw [← Nat.add_mul]; congr 1; omega
  have hzl : (Builtin.zeroCells z.cells (n - i)).toList.length = (n - i) * sz := by rw [zeroCells_len, hz]
  obtain ⟨w', hrun, h2, h3⟩ := run_store_blk (P := C.P) (o := i * sz) (vs := (Builtin.zeroCells z.cells (n - i)).toList) hg (by rw [hzl, hcl]; omega) (zeroCells_one (by omega) hone _)
  have hA : sliA (some (⟨g, 0, none⟩ : Addr)) i cap sz = some ⟨g, i * sz, none⟩ := by
    unfold sliA
    rw [if_neg (by omega)]
    show some ((⟨g, 0, none⟩ : Addr).add (i * sz)) = _
    rw [Go.WideShapes.add_plain, Nat.zero_add]
  have hzv : (zeroValue e).run C.P w = .ok z w := by simp [zeroValue, typeInfo, hi0, hz0]
  have hrun2 : (Builtin.clear_ #[st] ty #[.slice (some ⟨g, i * sz, none⟩) (n - i) (cap - i)]).run C.P w = .ok (.tuple #[]) w' := by
    obtain ⟨q, hq⟩ : ∃ q, n - i = q + 1 := ⟨n - i - 1, by omega⟩
    rw [hq] at hrun ⊢
    simp [Builtin.clear_, run_underlying ht, hzv, hrun]
  simp only [execOp, resolve, invoke, builtin, hxo, hA, Sem.run_bind, Sem.run_pure, Result.andThen_ok, List.map_toArray, List.map_cons, List.map_nil, hrun2]
  have hX : (HX.rw sz e (some ⟨g, 0, none⟩) i cap (xs.take (i * sz))).X w' := by
    have hsl : (spl cur (i * sz) (Builtin.zeroCells z.cells (n - i)).toList).length = cap * sz := by rw [spl_len (by rw [hzl, hcl]; omega)]; exact hcl
    have := rw_shut hc0 h2 (show i ≤ cap by omega) hcm hsl
    have e1 : (spl cur (i * sz) (Builtin.zeroCells z.cells (n - i)).toList).take (i * sz) = xs.take (i * sz) := by
      unfold spl
      rw [List.append_assoc, List.take_append_of_le_length (by rw [List.length_take]; omega), List.take_take, Nat.min_self, ← htk, List.take_take, Nat.min_eq_left (by omega)]
    rw [e1] at this; exact this
  refine ⟨_, ids, rest.and (HX.rw sz e (some ⟨g, 0, none⟩) i cap (xs.take (i * sz))), ?_, List.prefix_refl _, hf.turn h3 (fun b hb => by cases hb; exact ⟨.inr ⟨hc0, rfl⟩, hM g hc0 rfl⟩) ⟨rest.loc w w' hf.x.1 fun k hk => h3.block k (hf.sep k (.inl hk)).1 (fun q => by cases q; exact hdis g hc0 rfl hk), hX⟩ (fun k hk => .inl hk) hhp hfit hc oneNil, holds_pre t hp h⟩
  simp only [Option.map_some, hr]
end
end Go.Eng

namespace Go.Proofs.Ytbedoemdjlollaa
open Go.Eng
abbrev tNumberm0 : Mem := ⟨[(50, [(tVi 0), (tVi 1)])], ⟨2, 1, 1, 0, 0⟩⟩
set_option maxRecDepth 100000 in
theorem tNumber : (runF ⟨tt, fns, {}⟩ (Try.f47.body.getD .skip) Try.f47.results.toList (entry Try.f47.ntmps [.agg [.int .i64 (.var 0), .int .i64 (.var 1)]] [] ⟨2, 0, 0, 0, 0⟩)) =
  (.call 63 [(.lf (tVi 0)), (.lf (tVi 1))] ⟨[(50, [(tVi 0), (tVi 1)])], ⟨2, 0, 0, 0, 0⟩⟩ (.tup [(.false, [(.val 0)]), (.false, [(.bool (.var 0))])]) tNumberm0 (.done (.lf (.val 0)) tNumberm0)) := by kernel_rfl
set_option maxRecDepth 100000 in
theorem tWhole : (runF ⟨tt, fns, {}⟩ (Try.f67.body.getD .skip) Try.f67.results.toList (entry Try.f67.ntmps [.lf (.val 0)] [] ⟨0, 0, 1, 0, 0⟩)) =
  (.call 82 [(.lf (.val 0))] ⟨[], ⟨0, 0, 1, 0, 0⟩⟩ (.lf (.val 1)) ⟨[], ⟨0, 0, 2, 0, 0⟩⟩ (.gen (.binOp .neq 138 (.tmp 5) (.tmp 6) 138) 4 [(5, (.lf (.val 1))), (6, (.lf (.val 0)))] ⟨[], ⟨0, 0, 2, 0, 0⟩⟩ (.some (.lf (.bool (.var 0)))) ⟨[], ⟨0, 1, 2, 0, 0⟩⟩ (.br (.var 0) (.done (.tup [(.false, [(tLi 0)]), (.false, [(.bool (.lit .false))])]) ⟨[], ⟨0, 1, 2, 0, 0⟩⟩) (.call 83 [(.lf (.val 0))] ⟨[], ⟨0, 1, 2, 0, 0⟩⟩ (.lf (.val 2)) ⟨[], ⟨0, 1, 3, 0, 0⟩⟩ (.gen (.binOp .gtr 138 (.tmp 10) (.const (.float .f64 4697254411347427328)) 138) 4 [(10, (.lf (.val 2)))] ⟨[], ⟨0, 1, 3, 0, 0⟩⟩ (.some (.lf (.bool (.var 1)))) ⟨[], ⟨0, 2, 3, 0, 0⟩⟩ (.br (.var 1) (.done (.tup [(.false, [(tLi 0)]), (.false, [(.bool (.lit .false))])]) ⟨[], ⟨0, 2, 3, 0, 0⟩⟩) (.gen (.convert 138 3 (.tmp 13)) 3 [(13, (.lf (.val 0)))] ⟨[], ⟨0, 2, 3, 0, 0⟩⟩ (.some (.lf (tVi 0))) ⟨[], ⟨1, 2, 3, 0, 0⟩⟩ (.done (.tup [(.false, [(tVi 0)]), (.false, [(.bool (.lit .true))])]) ⟨[], ⟨1, 2, 3, 0, 0⟩⟩)))))))) := by kernel_rfl
set_option maxRecDepth 100000 in
theorem tParts : (runF ⟨tt, fns, {}⟩ (Try.f51.body.getD .skip) Try.f51.results.toList (entry Try.f51.ntmps [.lf (.val 0)] [] ⟨0, 0, 1, 0, 0⟩)) =
  (.gen (.call ⟨(.builtin .real), #[(.tmp 10)], #[115]⟩) 138 [(10, (.lf (.val 0)))] ⟨[], ⟨0, 0, 1, 0, 0⟩⟩ (.some (.lf (.val 1))) ⟨[], ⟨0, 0, 2, 0, 0⟩⟩ (.call 67 [(.lf (.val 1))] ⟨[], ⟨0, 0, 2, 0, 0⟩⟩ (.tup [(.false, [(tVi 0)]), (.false, [(.bool (.var 0))])]) ⟨[], ⟨1, 1, 2, 0, 0⟩⟩ (.gen (.call ⟨(.builtin .imag), #[(.tmp 16)], #[115]⟩) 138 [(16, (.lf (.val 0)))] ⟨[], ⟨1, 1, 2, 0, 0⟩⟩ (.some (.lf (.val 2))) ⟨[], ⟨1, 1, 3, 0, 0⟩⟩ (.call 67 [(.lf (.val 2))] ⟨[], ⟨1, 1, 3, 0, 0⟩⟩ (.tup [(.false, [(tVi 1)]), (.false, [(.bool (.var 1))])]) ⟨[], ⟨2, 2, 3, 0, 0⟩⟩ (.br (.not (.var 0)) (.done (.tup [(.false, [(tLi 0)]), (.false, [(tLi 0)]), (.false, [(.bool (.lit .false))])]) ⟨[], ⟨2, 2, 3, 0, 0⟩⟩) (.br (.not (.var 1)) (.done (.tup [(.false, [(tLi 0)]), (.false, [(tLi 0)]), (.false, [(.bool (.lit .false))])]) ⟨[], ⟨2, 2, 3, 0, 0⟩⟩) (.done (.tup [(.false, [(tVi 0)]), (.false, [(tVi 1)]), (.false, [(.bool (.lit .true))])]) ⟨[], ⟨2, 2, 3, 0, 0⟩⟩))))))) := by kernel_rfl
set_option maxRecDepth 100000 in
theorem tBoth : (runF ⟨tt, fns, {}⟩ (Try.f66.body.getD .skip) Try.f66.results.toList (entry Try.f66.ntmps [.lf (.val 0), .lf (.val 1)] [] ⟨0, 0, 2, 0, 0⟩)) =
  (.call 51 [(.lf (.val 0))] ⟨[], ⟨0, 0, 2, 0, 0⟩⟩ (.tup [(.false, [(tVi 0)]), (.false, [(tVi 1)]), (.false, [(.bool (.var 0))])]) ⟨[], ⟨2, 1, 2, 0, 0⟩⟩ (.call 51 [(.lf (.val 1))] ⟨[], ⟨2, 1, 2, 0, 0⟩⟩ (.tup [(.false, [(tVi 2)]), (.false, [(tVi 3)]), (.false, [(.bool (.var 1))])]) ⟨[], ⟨4, 2, 2, 0, 0⟩⟩ (.br (.var 0) (.done (.lf (.bool (.var 1))) ⟨[], ⟨4, 2, 2, 0, 0⟩⟩) (.done (.lf (.bool (.lit .false))) ⟨[], ⟨4, 2, 2, 0, 0⟩⟩)))) := by kernel_rfl
set_option maxRecDepth 100000 in
theorem tRight : (runF ⟨tt, fns, {}⟩ (Try.f65.body.getD .skip) Try.f65.results.toList (entry Try.f65.ntmps [.lf (.val 0), .lf (.bool (.var 0))] [] ⟨0, 1, 1, 0, 0⟩)) =
  (.call 51 [(.lf (.val 0))] ⟨[], ⟨0, 1, 1, 0, 0⟩⟩ (.tup [(.false, [(tVi 0)]), (.false, [(tVi 1)]), (.false, [(.bool (.var 1))])]) ⟨[], ⟨2, 2, 1, 0, 0⟩⟩ (.br (.not (.var 0)) (.done (.tup [(.false, [(.cst (.complex .f64 0 0))]), (.false, [(.bool (.lit .false))])]) ⟨[], ⟨2, 2, 1, 0, 0⟩⟩) (.br (.not (.var 1)) (.done (.tup [(.false, [(.cst (.complex .f64 0 0))]), (.false, [(.bool (.lit .false))])]) ⟨[], ⟨2, 2, 1, 0, 0⟩⟩) (.call 63 [(.lf (tVi 0)), (.lf (tVi 1))] ⟨[], ⟨2, 2, 1, 0, 0⟩⟩ (.tup [(.false, [(.val 1)]), (.false, [(.bool (.var 2))])]) ⟨[], ⟨2, 3, 2, 0, 0⟩⟩ (.done (.tup [(.false, [(.val 1)]), (.false, [(.bool (.var 2))])]) ⟨[], ⟨2, 3, 2, 0, 0⟩⟩))))) := by kernel_rfl
set_option maxRecDepth 100000 in
theorem tAdd : (runF ⟨tt, fns, {}⟩ (Try.f48.body.getD .skip) Try.f48.results.toList (entry Try.f48.ntmps [.lf (.val 0), .lf (.val 1)] [] ⟨0, 0, 2, 0, 0⟩)) =
  (.gen (.binOp .add 115 (.tmp 6) (.tmp 7) 115) 115 [(6, (.lf (.val 0))), (7, (.lf (.val 1)))] ⟨[], ⟨0, 0, 2, 0, 0⟩⟩ (.some (.lf (.val 2))) ⟨[], ⟨0, 0, 3, 0, 0⟩⟩ (.call 66 [(.lf (.val 0)), (.lf (.val 1))] ⟨[], ⟨0, 0, 3, 0, 0⟩⟩ (.lf (.bool (.var 0))) ⟨[], ⟨0, 1, 3, 0, 0⟩⟩ (.call 65 [(.lf (.val 2)), (.lf (.bool (.var 0)))] ⟨[], ⟨0, 1, 3, 0, 0⟩⟩ (.tup [(.false, [(.val 3)]), (.false, [(.bool (.var 1))])]) ⟨[], ⟨0, 2, 4, 0, 0⟩⟩ (.done (.tup [(.false, [(.val 3)]), (.false, [(.bool (.var 1))])]) ⟨[], ⟨0, 2, 4, 0, 0⟩⟩)))) := by kernel_rfl
set_option maxRecDepth 100000 in
theorem tMul : (runF ⟨tt, fns, {}⟩ (Try.f49.body.getD .skip) Try.f49.results.toList (entry Try.f49.ntmps [.lf (.val 0), .lf (.val 1)] [] ⟨0, 0, 2, 0, 0⟩)) =
  (.gen (.binOp .mul 115 (.tmp 6) (.tmp 7) 115) 115 [(6, (.lf (.val 0))), (7, (.lf (.val 1)))] ⟨[], ⟨0, 0, 2, 0, 0⟩⟩ (.some (.lf (.val 2))) ⟨[], ⟨0, 0, 3, 0, 0⟩⟩ (.call 66 [(.lf (.val 0)), (.lf (.val 1))] ⟨[], ⟨0, 0, 3, 0, 0⟩⟩ (.lf (.bool (.var 0))) ⟨[], ⟨0, 1, 3, 0, 0⟩⟩ (.call 65 [(.lf (.val 2)), (.lf (.bool (.var 0)))] ⟨[], ⟨0, 1, 3, 0, 0⟩⟩ (.tup [(.false, [(.val 3)]), (.false, [(.bool (.var 1))])]) ⟨[], ⟨0, 2, 4, 0, 0⟩⟩ (.done (.tup [(.false, [(.val 3)]), (.false, [(.bool (.var 1))])]) ⟨[], ⟨0, 2, 4, 0, 0⟩⟩)))) := by kernel_rfl
set_option maxRecDepth 100000 in
theorem tTrunc : (runF ⟨tt, fns, {}⟩ (Try.f82.body.getD .skip) Try.f82.results.toList (entry Try.f82.ntmps [.lf (.val 0)] [] ⟨0, 0, 1, 0, 0⟩)) =
  (.gen (.call ⟨(.value (.func 90)), #[(.tmp 3)], #[138]⟩) 138 [(3, (.lf (.val 0)))] ⟨[], ⟨0, 0, 1, 0, 0⟩⟩ (.some (.lf (.val 1))) ⟨[], ⟨0, 0, 2, 0, 0⟩⟩ (.done (.lf (.val 1)) ⟨[], ⟨0, 0, 2, 0, 0⟩⟩)) := by kernel_rfl
set_option maxRecDepth 100000 in
theorem tAbs : (runF ⟨tt, fns, {}⟩ (Try.f83.body.getD .skip) Try.f83.results.toList (entry Try.f83.ntmps [.lf (.val 0)] [] ⟨0, 0, 1, 0, 0⟩)) =
  (.gen (.call ⟨(.value (.func 93)), #[(.tmp 3)], #[138]⟩) 169 [(3, (.lf (.val 0)))] ⟨[], ⟨0, 0, 1, 0, 0⟩⟩ (.some (.lf (.int .u64 (.var 0)))) ⟨[], ⟨1, 0, 1, 0, 0⟩⟩ (.gen (.call ⟨(.value (.func 92)), #[(.tmp 5)], #[169]⟩) 138 [(5, (.lf (.int .u64 (.op .andNot .u64 (.var 0) (.lit 9223372036854775808)))))] ⟨[], ⟨1, 0, 1, 0, 0⟩⟩ (.some (.lf (.val 1))) ⟨[], ⟨1, 0, 2, 0, 0⟩⟩ (.done (.lf (.val 1)) ⟨[], ⟨1, 0, 2, 0, 0⟩⟩))) := by kernel_rfl
set_option maxRecDepth 100000 in
theorem tTurn : (runF ⟨tt, fns, { loops := [(3, ⟨[(0, .val), (17, .int .i64)], []⟩)] }⟩ (Try.f50.body.getD .skip) Try.f50.results.toList (entry Try.f50.ntmps [.lf (.val 0), .lf (.int .i64 (.var 0))] [] ⟨1, 0, 1, 0, 0⟩)) =
  (.call 51 [(.lf (.val 0))] ⟨[], ⟨1, 0, 1, 0, 0⟩⟩ (.tup [(.false, [(tVi 1)]), (.false, [(tVi 2)]), (.false, [(.bool (.var 0))])]) ⟨[], ⟨3, 1, 1, 0, 0⟩⟩ (.loop 3 ⟨[(.lit 0)], [], [(.val 0)], [], []⟩ ⟨[], ⟨3, 1, 1, 0, 0⟩⟩ ⟨[], ⟨4, 1, 2, 0, 0⟩⟩ (.br (.cmp .lss (.var 3) (.op .and .i64 (.var 0) (.lit 3))) (.gen (.binOp .mul 115 (.tmp 19) (.const (.complex .f64 0 4607182418800017408)) 115) 115 [(19, (.lf (.val 1)))] ⟨[], ⟨4, 1, 2, 0, 0⟩⟩ (.some (.lf (.val 2))) ⟨[], ⟨4, 1, 3, 0, 0⟩⟩ (.again 3 ⟨[(.op .add .i64 (.var 3) (.lit 1))], [], [(.val 2)], [], []⟩ ⟨[], ⟨4, 1, 3, 0, 0⟩⟩)) (.call 65 [(.lf (.val 1)), (.lf (.bool (.var 0)))] ⟨[], ⟨4, 1, 2, 0, 0⟩⟩ (.tup [(.false, [(.val 2)]), (.false, [(.bool (.var 1))])]) ⟨[], ⟨4, 2, 3, 0, 0⟩⟩ (.done (.tup [(.false, [(.val 2)]), (.false, [(.bool (.var 1))])]) ⟨[], ⟨4, 2, 3, 0, 0⟩⟩))))) := by kernel_rfl
end Go.Proofs.Ytbedoemdjlollaa

namespace Go.Proofs.Ytbedoemdjlollaa
open Go.Eng
abbrev tCmdb0 : List LV := [(tVi 0), (tVi 1), (tVi 2), (tVi 3), (tVi 4), (tVi 5), (tVi 6), (tVi 7)]
set_option maxRecDepth 100000 in
theorem tCmd : (runF ⟨tt, fns, {}⟩ (Try.f39.body.getD .skip) Try.f39.results.toList (entry Try.f39.ntmps [.agg [.int .i64 (.var 0), .int .i64 (.var 1), .int .i64 (.var 2), .int .i64 (.var 3), .int .i64 (.var 4), .int .i64 (.var 5), .int .i64 (.var 6), .int .i64 (.var 7)]] [] ⟨8, 0, 0, 0, 0⟩)) =
  (.br (.cmp .lss (.var 0) (.lit 1)) (.done (.lf (tLi 23)) ⟨[(43, tCmdb0)], ⟨8, 0, 0, 0, 0⟩⟩) (.br (.cmp .gtr (.var 0) (.lit 1073741824)) (.done (.lf (tLi 23)) ⟨[(43, tCmdb0)], ⟨8, 0, 0, 0, 0⟩⟩) (.br (.cmp .lss (.var 1) (.lit 1)) (.done (.lf (tLi 23)) ⟨[(43, tCmdb0)], ⟨8, 0, 0, 0, 0⟩⟩) (.br (.cmp .gtr (.var 1) (.lit 1099511627776)) (.done (.lf (tLi 23)) ⟨[(43, tCmdb0)], ⟨8, 0, 0, 0, 0⟩⟩) (.br (.cmp .lss (.var 2) (.lit 0)) (.done (.lf (tLi 23)) ⟨[(43, tCmdb0)], ⟨8, 0, 0, 0, 0⟩⟩) (.br (.cmp .geq (.var 2) (.var 1)) (.done (.lf (tLi 23)) ⟨[(43, tCmdb0)], ⟨8, 0, 0, 0, 0⟩⟩) (.call 46 [(.agg [(tVi 3), (tVi 4), (tVi 5), (tVi 6), (tVi 7)])] ⟨[(43, tCmdb0)], ⟨8, 0, 0, 0, 0⟩⟩ (.lf (tVi 8)) ⟨[(43, tCmdb0)], ⟨9, 0, 0, 0, 0⟩⟩ (.done (.lf (tVi 8)) ⟨[(43, tCmdb0)], ⟨9, 0, 0, 0, 0⟩⟩)))))))) := by kernel_rfl
abbrev tRCmdb0 : List LV := [(tVi 0), (tVi 1), (tVi 2), (tVi 3), (tVi 4), (tVi 5), (tVi 6), (tVi 7)]
set_option maxRecDepth 100000 in
theorem tRCmd : (runF ⟨tt, fns, {}⟩ (Try.f16.body.getD .skip) Try.f16.results.toList (entry Try.f16.ntmps [.agg [.int .i64 (.var 0), .int .i64 (.var 1), .int .i64 (.var 2), .int .i64 (.var 3), .int .i64 (.var 4), .int .i64 (.var 5), .int .i64 (.var 6), .int .i64 (.var 7)]] [] ⟨8, 0, 0, 0, 0⟩)) =
  (.br (.cmp .lss (.var 0) (.lit 1)) (.done (.lf (tLi 23)) ⟨[(43, tRCmdb0)], ⟨8, 0, 0, 0, 0⟩⟩) (.br (.cmp .gtr (.var 0) (.lit 1073741824)) (.done (.lf (tLi 23)) ⟨[(43, tRCmdb0)], ⟨8, 0, 0, 0, 0⟩⟩) (.br (.cmp .lss (.var 1) (.lit 1)) (.done (.lf (tLi 23)) ⟨[(43, tRCmdb0)], ⟨8, 0, 0, 0, 0⟩⟩) (.br (.cmp .gtr (.var 1) (.lit 1099511627776)) (.done (.lf (tLi 23)) ⟨[(43, tRCmdb0)], ⟨8, 0, 0, 0, 0⟩⟩) (.br (.cmp .lss (.var 2) (.lit 0)) (.done (.lf (tLi 23)) ⟨[(43, tRCmdb0)], ⟨8, 0, 0, 0, 0⟩⟩) (.br (.cmp .geq (.var 2) (.var 1)) (.done (.lf (tLi 23)) ⟨[(43, tRCmdb0)], ⟨8, 0, 0, 0, 0⟩⟩) (.call 33 [(.agg [(tVi 3), (tVi 4), (tVi 5), (tVi 6), (tVi 7)])] ⟨[(43, tRCmdb0)], ⟨8, 0, 0, 0, 0⟩⟩ (.lf (.bool (.var 0))) ⟨[(43, tRCmdb0)], ⟨8, 1, 0, 0, 0⟩⟩ (.br (.not (.var 0)) (.done (.lf (tLi 22)) ⟨[(43, tRCmdb0)], ⟨8, 1, 0, 0, 0⟩⟩) (.done (.lf (tLi 0)) ⟨[(43, tRCmdb0)], ⟨8, 1, 0, 0, 0⟩⟩))))))))) := by kernel_rfl
abbrev tChkb0 : List LV := [(tVi 2), (tVi 3), (tVi 4), (tVi 5), (tVi 6), (tVi 7), (tVi 8), (tVi 9)]
abbrev tChkm0 : Mem := ⟨[(35, [(tVi 0), (tSl 0 0 1), (tSl 1 2 3)]), (43, tChkb0)], ⟨11, 0, 0, 4, 2⟩⟩
abbrev tChkm1 : Mem := ⟨[(35, [(tVi 0), (tSl 0 0 1), (tSl 1 2 3)])], ⟨1, 0, 0, 4, 2⟩⟩
abbrev tChkm2 : Mem := ⟨[(35, [(tVi 0), (tSl 0 0 1), (tSl 1 2 3)])], ⟨2, 0, 0, 4, 2⟩⟩
set_option maxRecDepth 100000 in
theorem tChk : (runF ⟨tt, fns, { loops := [(15, ⟨[(50, .int .i64)], []⟩)] }⟩ (Try.f24.body.getD .skip) Try.f24.results.toList (entry Try.f24.ntmps [.agg [.int .i64 (.var 0), .sl 0 (.var 0) (.var 1), .sl 1 (.var 2) (.var 3)]] [] ⟨1, 0, 0, 4, 2⟩)) =
  (.br (.cmp .eql (.var 0) (.lit 0)) (.br (.cmp .gtr (.nat 0) (.lit 0)) (.done (.lf (tLi 25)) tChkm1) (.br (.cmp .gtr (.nat 2) (.lit 0)) (.done (.lf (tLi 25)) tChkm1) (.done (.lf (tLi 0)) tChkm1))) (.br (.cmp .eql (.var 0) (.lit 2)) (.br (.cmp .gtr (.nat 0) (.lit 0)) (.done (.lf (tLi 25)) tChkm1) (.call 38 [(.lf (tSl 1 2 3))] tChkm1 (.lf (tVi 1)) tChkm2 (.done (.lf (tVi 1)) tChkm2))) (.br (.cmp .eql (.var 0) (.lit 1)) (.br (.cmp .lss (.nat 0) (.lit 1)) (.done (.lf (tLi 25)) tChkm1) (.br (.cmp .gtr (.nat 0) (.lit 8)) (.done (.lf (tLi 25)) tChkm1) (.br (.cmp .gtr (.nat 2) (.lit 0)) (.done (.lf (tLi 25)) tChkm1) (.loop 15 ⟨[(.lit 0)], [], [], [], []⟩ tChkm1 tChkm2 (.br (.cmp .lss (.var 1) (.nat 0)) (.need (.inb 0 (.var 1) (.nat 0)) (.ld .false (.adr 0 (.var 1) 8 0) tChkb0 tChkm2 ⟨[(35, [(tVi 0), (tSl 0 0 1), (tSl 1 2 3)])], ⟨10, 0, 0, 4, 2⟩⟩ (.call 39 [(.agg tChkb0)] ⟨[(35, [(tVi 0), (tSl 0 0 1), (tSl 1 2 3)]), (43, tChkb0)], ⟨10, 0, 0, 4, 2⟩⟩ (.lf (tVi 10)) tChkm0 (.br (.cmp .neq (.var 10) (.lit 0)) (.done (.lf (tVi 10)) tChkm0) (.again 15 ⟨[(.op .add .i64 (.var 1) (.lit 1))], [], [], [], []⟩ tChkm0))))) (.done (.lf (tLi 0)) tChkm2)))))) (.done (.lf (tLi 25)) tChkm1)))) := by kernel_rfl
abbrev tRChkb0 : List LV := [(tVi 2), (tVi 3), (tVi 4), (tVi 5), (tVi 6), (tVi 7), (tVi 8), (tVi 9)]
abbrev tRChkm0 : Mem := ⟨[(35, [(tVi 0), (tSl 0 0 1), (tSl 1 2 3)])], ⟨10, 1, 0, 4, 2⟩⟩
abbrev tRChkm1 : Mem := ⟨[(35, [(tVi 0), (tSl 0 0 1), (tSl 1 2 3)])], ⟨11, 1, 0, 4, 2⟩⟩
abbrev tRChkm2 : Mem := ⟨[(35, [(tVi 0), (tSl 0 0 1), (tSl 1 2 3)])], ⟨10, 0, 0, 4, 2⟩⟩
abbrev tRChkm3 : Mem := ⟨[(35, [(tVi 0), (tSl 0 0 1), (tSl 1 2 3)])], ⟨11, 0, 0, 4, 2⟩⟩
abbrev tRChkm4 : Mem := ⟨[(35, [(tVi 0), (tSl 0 0 1), (tSl 1 2 3)])], ⟨1, 0, 0, 4, 2⟩⟩
abbrev tRChkm5 : Mem := ⟨[(35, [(tVi 0), (tSl 0 0 1), (tSl 1 2 3)])], ⟨1, 1, 0, 4, 2⟩⟩
abbrev tRChkm6 : Mem := ⟨[(35, [(tVi 0), (tSl 0 0 1), (tSl 1 2 3)])], ⟨2, 1, 0, 4, 2⟩⟩
abbrev tRChkm7 : Mem := ⟨[(35, [(tVi 0), (tSl 0 0 1), (tSl 1 2 3)])], ⟨2, 0, 0, 4, 2⟩⟩
abbrev tRChkt2 : Tree := (.br (.cmp .eql (.var 0) (.lit 2)) (.call 18 [(.lf (tSl 1 2 3))] tRChkm4 (.lf (.bool (.var 0))) tRChkm5 (.br (.not (.var 0)) (.done (.lf (tLi 24)) tRChkm5) (.loop 8 ⟨[(.lit 0)], [], [], [], []⟩ tRChkm5 tRChkm6 (.br (.cmp .lss (.var 1) (.nat 0)) (.need (.inb 0 (.var 1) (.nat 0)) (.ld .false (.adr 0 (.var 1) 8 0) tRChkb0 tRChkm6 tRChkm0 (.call 16 [(.agg tRChkb0)] tRChkm0 (.lf (tVi 10)) tRChkm1 (.br (.cmp .neq (.var 10) (.lit 0)) (.done (.lf (tVi 10)) tRChkm1) (.again 8 ⟨[(.op .add .i64 (.var 1) (.lit 1))], [], [], [], []⟩ tRChkm1))))) (.done (.lf (tLi 0)) tRChkm6))))) (.loop 8 ⟨[(.lit 0)], [], [], [], []⟩ tRChkm4 tRChkm7 (.br (.cmp .lss (.var 1) (.nat 0)) (.need (.inb 0 (.var 1) (.nat 0)) (.ld .false (.adr 0 (.var 1) 8 0) tRChkb0 tRChkm7 tRChkm2 (.call 16 [(.agg tRChkb0)] tRChkm2 (.lf (tVi 10)) tRChkm3 (.br (.cmp .neq (.var 10) (.lit 0)) (.done (.lf (tVi 10)) tRChkm3) (.again 8 ⟨[(.op .add .i64 (.var 1) (.lit 1))], [], [], [], []⟩ tRChkm3))))) (.done (.lf (tLi 0)) tRChkm7))))
abbrev tRChkt1 : Tree := (.br (.cmp .eql (.var 0) (.lit 1)) (.br (.cmp .eql (.nat 0) (.lit 0)) (.done (.lf (tLi 25)) tRChkm4) (.br (.cmp .gtr (.nat 0) (.lit 8)) (.done (.lf (tLi 25)) tRChkm4) tRChkt2)) tRChkt2)
abbrev tRChkt0 : Tree := (.br (.cmp .neq (.var 0) (.lit 2)) (.br (.cmp .neq (.nat 2) (.lit 0)) (.done (.lf (tLi 25)) tRChkm4) tRChkt1) tRChkt1)
set_option maxRecDepth 100000 in
theorem tRChk : (runF ⟨tt, fns, { loops := [(8, ⟨[(62, .int .i64)], []⟩)] }⟩ (Try.f21.body.getD .skip) Try.f21.results.toList (entry Try.f21.ntmps [.agg [.int .i64 (.var 0), .sl 0 (.var 0) (.var 1), .sl 1 (.var 2) (.var 3)]] [] ⟨1, 0, 0, 4, 2⟩)) =
  (.br (.cmp .lss (.var 0) (.lit 0)) (.done (.lf (tLi 25)) tRChkm4) (.br (.cmp .gtr (.var 0) (.lit 2)) (.done (.lf (tLi 25)) tRChkm4) (.br (.cmp .neq (.var 0) (.lit 1)) (.br (.cmp .neq (.nat 0) (.lit 0)) (.done (.lf (tLi 25)) tRChkm4) tRChkt0) tRChkt0))) := by kernel_rfl
abbrev tRChk0m0 : Mem := ⟨[(35, [(tLi 0), (tSl 0 0 1), (tSl 1 2 3)])], ⟨10, 0, 0, 4, 2⟩⟩
abbrev tRChk0m1 : Mem := ⟨[(35, [(tLi 0), (tSl 0 0 1), (tSl 1 2 3)])], ⟨0, 0, 0, 4, 2⟩⟩
abbrev tRChk0m2 : Mem := ⟨[(35, [(tLi 0), (tSl 0 0 1), (tSl 1 2 3)])], ⟨1, 0, 0, 4, 2⟩⟩
abbrev tRChk0m3 : Mem := ⟨[(35, [(tLi 0), (tSl 0 0 1), (tSl 1 2 3)])], ⟨9, 0, 0, 4, 2⟩⟩
set_option maxRecDepth 100000 in
theorem tRChk0 : (runF ⟨tt, fns, { loops := [(8, ⟨[(62, .int .i64)], []⟩)] }⟩ (Try.f21.body.getD .skip) Try.f21.results.toList (entry Try.f21.ntmps [.agg [.int .i64 (.lit 0), .sl 0 (.var 0) (.var 1), .sl 1 (.var 2) (.var 3)]] [] ⟨0, 0, 0, 4, 2⟩)) =
  (.br (.cmp .neq (.nat 0) (.lit 0)) (.done (.lf (tLi 25)) tRChk0m1) (.br (.cmp .neq (.nat 2) (.lit 0)) (.done (.lf (tLi 25)) tRChk0m1) (.loop 8 ⟨[(.lit 0)], [], [], [], []⟩ tRChk0m1 tRChk0m2 (.br (.cmp .lss (.var 0) (.nat 0)) (.need (.inb 0 (.var 0) (.nat 0)) (.ld .false (.adr 0 (.var 0) 8 0) [(tVi 1), (tVi 2), (tVi 3), (tVi 4), (tVi 5), (tVi 6), (tVi 7), (tVi 8)] tRChk0m2 tRChk0m3 (.call 16 [(.agg [(tVi 1), (tVi 2), (tVi 3), (tVi 4), (tVi 5), (tVi 6), (tVi 7), (tVi 8)])] tRChk0m3 (.lf (tVi 9)) tRChk0m0 (.br (.cmp .neq (.var 9) (.lit 0)) (.done (.lf (tVi 9)) tRChk0m0) (.again 8 ⟨[(.op .add .i64 (.var 0) (.lit 1))], [], [], [], []⟩ tRChk0m0))))) (.done (.lf (tLi 0)) tRChk0m2))))) := by kernel_rfl
abbrev tRChk1m0 : Mem := ⟨[(35, [(tLi 1), (tSl 0 0 1), (tSl 1 2 3)])], ⟨10, 0, 0, 4, 2⟩⟩
abbrev tRChk1m1 : Mem := ⟨[(35, [(tLi 1), (tSl 0 0 1), (tSl 1 2 3)])], ⟨0, 0, 0, 4, 2⟩⟩
abbrev tRChk1m2 : Mem := ⟨[(35, [(tLi 1), (tSl 0 0 1), (tSl 1 2 3)])], ⟨1, 0, 0, 4, 2⟩⟩
abbrev tRChk1m3 : Mem := ⟨[(35, [(tLi 1), (tSl 0 0 1), (tSl 1 2 3)])], ⟨9, 0, 0, 4, 2⟩⟩
set_option maxRecDepth 100000 in
theorem tRChk1 : (runF ⟨tt, fns, { loops := [(8, ⟨[(62, .int .i64)], []⟩)] }⟩ (Try.f21.body.getD .skip) Try.f21.results.toList (entry Try.f21.ntmps [.agg [.int .i64 (.lit 1), .sl 0 (.var 0) (.var 1), .sl 1 (.var 2) (.var 3)]] [] ⟨0, 0, 0, 4, 2⟩)) =
  (.br (.cmp .neq (.nat 2) (.lit 0)) (.done (.lf (tLi 25)) tRChk1m1) (.br (.cmp .eql (.nat 0) (.lit 0)) (.done (.lf (tLi 25)) tRChk1m1) (.br (.cmp .gtr (.nat 0) (.lit 8)) (.done (.lf (tLi 25)) tRChk1m1) (.loop 8 ⟨[(.lit 0)], [], [], [], []⟩ tRChk1m1 tRChk1m2 (.br (.cmp .lss (.var 0) (.nat 0)) (.need (.inb 0 (.var 0) (.nat 0)) (.ld .false (.adr 0 (.var 0) 8 0) [(tVi 1), (tVi 2), (tVi 3), (tVi 4), (tVi 5), (tVi 6), (tVi 7), (tVi 8)] tRChk1m2 tRChk1m3 (.call 16 [(.agg [(tVi 1), (tVi 2), (tVi 3), (tVi 4), (tVi 5), (tVi 6), (tVi 7), (tVi 8)])] tRChk1m3 (.lf (tVi 9)) tRChk1m0 (.br (.cmp .neq (.var 9) (.lit 0)) (.done (.lf (tVi 9)) tRChk1m0) (.again 8 ⟨[(.op .add .i64 (.var 0) (.lit 1))], [], [], [], []⟩ tRChk1m0))))) (.done (.lf (tLi 0)) tRChk1m2)))))) := by kernel_rfl
abbrev tRChk2m0 : Mem := ⟨[(35, [(tLi 2), (tSl 0 0 1), (tSl 1 2 3)])], ⟨10, 1, 0, 4, 2⟩⟩
abbrev tRChk2m1 : Mem := ⟨[(35, [(tLi 2), (tSl 0 0 1), (tSl 1 2 3)])], ⟨0, 0, 0, 4, 2⟩⟩
abbrev tRChk2m2 : Mem := ⟨[(35, [(tLi 2), (tSl 0 0 1), (tSl 1 2 3)])], ⟨0, 1, 0, 4, 2⟩⟩
abbrev tRChk2m3 : Mem := ⟨[(35, [(tLi 2), (tSl 0 0 1), (tSl 1 2 3)])], ⟨1, 1, 0, 4, 2⟩⟩
abbrev tRChk2m4 : Mem := ⟨[(35, [(tLi 2), (tSl 0 0 1), (tSl 1 2 3)])], ⟨9, 1, 0, 4, 2⟩⟩
set_option maxRecDepth 100000 in
theorem tRChk2 : (runF ⟨tt, fns, { loops := [(8, ⟨[(62, .int .i64)], []⟩)] }⟩ (Try.f21.body.getD .skip) Try.f21.results.toList (entry Try.f21.ntmps [.agg [.int .i64 (.lit 2), .sl 0 (.var 0) (.var 1), .sl 1 (.var 2) (.var 3)]] [] ⟨0, 0, 0, 4, 2⟩)) =
  (.br (.cmp .neq (.nat 0) (.lit 0)) (.done (.lf (tLi 25)) tRChk2m1) (.call 18 [(.lf (tSl 1 2 3))] tRChk2m1 (.lf (.bool (.var 0))) tRChk2m2 (.br (.not (.var 0)) (.done (.lf (tLi 24)) tRChk2m2) (.loop 8 ⟨[(.lit 0)], [], [], [], []⟩ tRChk2m2 tRChk2m3 (.br (.cmp .lss (.var 0) (.nat 0)) (.need (.inb 0 (.var 0) (.nat 0)) (.ld .false (.adr 0 (.var 0) 8 0) [(tVi 1), (tVi 2), (tVi 3), (tVi 4), (tVi 5), (tVi 6), (tVi 7), (tVi 8)] tRChk2m3 tRChk2m4 (.call 16 [(.agg [(tVi 1), (tVi 2), (tVi 3), (tVi 4), (tVi 5), (tVi 6), (tVi 7), (tVi 8)])] tRChk2m4 (.lf (tVi 9)) tRChk2m0 (.br (.cmp .neq (.var 9) (.lit 0)) (.done (.lf (tVi 9)) tRChk2m0) (.again 8 ⟨[(.op .add .i64 (.var 0) (.lit 1))], [], [], [], []⟩ tRChk2m0))))) (.done (.lf (tLi 0)) tRChk2m3)))))) := by kernel_rfl
set_option maxRecDepth 100000 in
theorem tInts : (runF ⟨tt, fns, { loops := [(4, ⟨[(13, .int .i64)], []⟩)] }⟩ (Try.f37.body.getD .skip) Try.f37.results.toList (entry Try.f37.ntmps [.lf (.sl 0 (.var 0) (.var 1)), .lf (.sl 1 (.var 2) (.var 3))] [] ⟨0, 0, 0, 4, 2⟩)) =
  (.br (.cmp .neq (.nat 0) (.nat 2)) (.done (.lf (.bool (.lit .false))) ⟨[], ⟨0, 0, 0, 4, 2⟩⟩) (.loop 4 ⟨[(.lit 0)], [], [], [], []⟩ ⟨[], ⟨0, 0, 0, 4, 2⟩⟩ ⟨[], ⟨1, 0, 0, 4, 2⟩⟩ (.br (.cmp .lss (.var 0) (.nat 0)) (.need (.inb 0 (.var 0) (.nat 0)) (.need (.inb 1 (.var 0) (.nat 2)) (.par (.ld .false (.adr 0 (.var 0) 1 0) [(tVi 1)] ⟨[], ⟨1, 0, 0, 4, 2⟩⟩ ⟨[], ⟨2, 0, 0, 4, 2⟩⟩ (.ld .false (.adr 1 (.var 0) 1 0) [(tVi 2)] ⟨[], ⟨2, 0, 0, 4, 2⟩⟩ ⟨[], ⟨3, 0, 0, 4, 2⟩⟩ (.br (.cmp .neq (.var 1) (.var 2)) (.done (.lf (.bool (.lit .false))) ⟨[], ⟨3, 0, 0, 4, 2⟩⟩) (.again 4 ⟨[(.op .add .i64 (.var 0) (.lit 1))], [], [], [], []⟩ ⟨[], ⟨3, 0, 0, 4, 2⟩⟩)))) (.ld .false (.adr 1 (.var 0) 1 0) [(tVi 1)] ⟨[], ⟨1, 0, 0, 4, 2⟩⟩ ⟨[], ⟨2, 0, 0, 4, 2⟩⟩ (.ld .false (.adr 0 (.var 0) 1 0) [(tVi 2)] ⟨[], ⟨2, 0, 0, 4, 2⟩⟩ ⟨[], ⟨3, 0, 0, 4, 2⟩⟩ (.br (.cmp .neq (.var 2) (.var 1)) (.done (.lf (.bool (.lit .false))) ⟨[], ⟨3, 0, 0, 4, 2⟩⟩) (.again 4 ⟨[(.op .add .i64 (.var 0) (.lit 1))], [], [], [], []⟩ ⟨[], ⟨3, 0, 0, 4, 2⟩⟩))))))) (.done (.lf (.bool (.lit .true))) ⟨[], ⟨1, 0, 0, 4, 2⟩⟩)))) := by kernel_rfl
abbrev tSameVm0 : Mem := ⟨[(35, [(tVi 0), (tSl 0 0 1), (tSl 1 2 3)]), (35, [(tVi 1), (tSl 2 4 5), (tSl 3 6 7)])], ⟨11, 1, 0, 8, 4⟩⟩
abbrev tSameVm1 : Mem := ⟨[(35, [(tVi 0), (tSl 0 0 1), (tSl 1 2 3)]), (35, [(tVi 1), (tSl 2 4 5), (tSl 3 6 7)])], ⟨19, 1, 0, 8, 4⟩⟩
abbrev tSameVm2 : Mem := ⟨[(35, [(tVi 0), (tSl 0 0 1), (tSl 1 2 3)]), (35, [(tVi 1), (tSl 2 4 5), (tSl 3 6 7)])], ⟨2, 0, 0, 8, 4⟩⟩
abbrev tSameVm3 : Mem := ⟨[(35, [(tVi 0), (tSl 0 0 1), (tSl 1 2 3)]), (35, [(tVi 1), (tSl 2 4 5), (tSl 3 6 7)])], ⟨2, 1, 0, 8, 4⟩⟩
abbrev tSameVm4 : Mem := ⟨[(35, [(tVi 0), (tSl 0 0 1), (tSl 1 2 3)]), (35, [(tVi 1), (tSl 2 4 5), (tSl 3 6 7)])], ⟨3, 1, 0, 8, 4⟩⟩
set_option maxRecDepth 100000 in
theorem tSameV : (runF ⟨tt, fns, { loops := [(4, ⟨[(31, .int .i64)], []⟩)] }⟩ (Try.f22.body.getD .skip) Try.f22.results.toList (entry Try.f22.ntmps [.agg [.int .i64 (.var 0), .sl 0 (.var 0) (.var 1), .sl 1 (.var 2) (.var 3)], .agg [.int .i64 (.var 1), .sl 2 (.var 4) (.var 5), .sl 3 (.var 6) (.var 7)]] [] ⟨2, 0, 0, 8, 4⟩)) =
  (.br (.cmp .neq (.var 0) (.var 1)) (.done (.lf (.bool (.lit .false))) tSameVm2) (.br (.cmp .neq (.nat 0) (.nat 4)) (.done (.lf (.bool (.lit .false))) tSameVm2) (.call 37 [(.lf (tSl 1 2 3)), (.lf (tSl 3 6 7))] tSameVm2 (.lf (.bool (.var 0))) tSameVm3 (.br (.not (.var 0)) (.done (.lf (.bool (.lit .false))) tSameVm3) (.loop 4 ⟨[(.lit 0)], [], [], [], []⟩ tSameVm3 tSameVm4 (.br (.cmp .lss (.var 2) (.nat 0)) (.need (.inb 0 (.var 2) (.nat 0)) (.need (.inb 2 (.var 2) (.nat 4)) (.par (.ld .false (.adr 0 (.var 2) 8 0) [(tVi 3), (tVi 4), (tVi 5), (tVi 6), (tVi 7), (tVi 8), (tVi 9), (tVi 10)] tSameVm4 tSameVm0 (.ld .false (.adr 2 (.var 2) 8 0) [(tVi 11), (tVi 12), (tVi 13), (tVi 14), (tVi 15), (tVi 16), (tVi 17), (tVi 18)] tSameVm0 tSameVm1 (.br (.not (.and (.cmp .eql (.var 3) (.var 11)) (.and (.cmp .eql (.var 4) (.var 12)) (.and (.cmp .eql (.var 5) (.var 13)) (.and (.cmp .eql (.var 6) (.var 14)) (.and (.cmp .eql (.var 7) (.var 15)) (.and (.cmp .eql (.var 8) (.var 16)) (.and (.cmp .eql (.var 9) (.var 17)) (.cmp .eql (.var 10) (.var 18)))))))))) (.done (.lf (.bool (.lit .false))) tSameVm1) (.again 4 ⟨[(.op .add .i64 (.var 2) (.lit 1))], [], [], [], []⟩ tSameVm1)))) (.ld .false (.adr 2 (.var 2) 8 0) [(tVi 3), (tVi 4), (tVi 5), (tVi 6), (tVi 7), (tVi 8), (tVi 9), (tVi 10)] tSameVm4 tSameVm0 (.ld .false (.adr 0 (.var 2) 8 0) [(tVi 11), (tVi 12), (tVi 13), (tVi 14), (tVi 15), (tVi 16), (tVi 17), (tVi 18)] tSameVm0 tSameVm1 (.br (.not (.and (.cmp .eql (.var 11) (.var 3)) (.and (.cmp .eql (.var 12) (.var 4)) (.and (.cmp .eql (.var 13) (.var 5)) (.and (.cmp .eql (.var 14) (.var 6)) (.and (.cmp .eql (.var 15) (.var 7)) (.and (.cmp .eql (.var 16) (.var 8)) (.and (.cmp .eql (.var 17) (.var 9)) (.cmp .eql (.var 18) (.var 10)))))))))) (.done (.lf (.bool (.lit .false))) tSameVm1) (.again 4 ⟨[(.op .add .i64 (.var 2) (.lit 1))], [], [], [], []⟩ tSameVm1))))))) (.done (.lf (.bool (.lit .true))) tSameVm4))))))) := by kernel_rfl
end Go.Proofs.Ytbedoemdjlollaa

namespace Go.Proofs.Ytbedoemdjlollaa
open Go.Eng
abbrev tByNom0 : Mem := ⟨[(141, [(tVi 0), (tVi 1), (tSl 0 0 1)])], ⟨4, 0, 0, 2, 1⟩⟩
set_option maxRecDepth 100000 in
theorem tByNo : (runF ⟨tt, fns, {}⟩ (Try.f71.body.getD .skip) Try.f71.results.toList (entry Try.f71.ntmps [.agg [.int .i64 (.var 0), .int .i64 (.var 1), .sl 0 (.var 0) (.var 1)], .lf (.int .i64 (.var 2))] [] ⟨3, 0, 0, 2, 1⟩)) =
  (.call 84 [(.lf (tVi 0)), (.lf (tVi 2))] ⟨[(141, [(tVi 0), (tVi 1), (tSl 0 0 1)])], ⟨3, 0, 0, 2, 1⟩⟩ (.lf (tVi 3)) tByNom0 (.done (.lf (tVi 3)) tByNom0)) := by kernel_rfl
abbrev tBySeqm0 : Mem := ⟨[(143, [(tVi 0), (tVi 1), (tVi 2), (tVi 3)])], ⟨6, 0, 0, 0, 0⟩⟩
set_option maxRecDepth 100000 in
theorem tBySeq : (runF ⟨tt, fns, {}⟩ (Try.f76.body.getD .skip) Try.f76.results.toList (entry Try.f76.ntmps [.agg [.int .i64 (.var 0), .int .i64 (.var 1), .int .i64 (.var 2), .int .i64 (.var 3)], .lf (.int .i64 (.var 4))] [] ⟨5, 0, 0, 0, 0⟩)) =
  (.call 84 [(.lf (tVi 0)), (.lf (tVi 4))] ⟨[(143, [(tVi 0), (tVi 1), (tVi 2), (tVi 3)])], ⟨5, 0, 0, 0, 0⟩⟩ (.lf (tVi 5)) tBySeqm0 (.done (.lf (tVi 5)) tBySeqm0)) := by kernel_rfl
set_option maxRecDepth 100000 in
theorem tCmp : (runF ⟨tt, fns, {}⟩ (Try.f84.body.getD .skip) Try.f84.results.toList (entry Try.f84.ntmps [.lf (.int .i64 (.var 0)), .lf (.int .i64 (.var 1))] [] ⟨2, 0, 0, 0, 0⟩)) =
  (.call 94 [(.lf (tVi 0))] ⟨[], ⟨2, 0, 0, 0, 0⟩⟩ (.lf (.bool (.var 0))) ⟨[], ⟨2, 1, 0, 0, 0⟩⟩ (.call 94 [(.lf (tVi 1))] ⟨[], ⟨2, 1, 0, 0, 0⟩⟩ (.lf (.bool (.var 1))) ⟨[], ⟨2, 2, 0, 0, 0⟩⟩ (.br (.var 0) (.br (.var 1) (.done (.lf (tLi 0)) ⟨[], ⟨2, 2, 0, 0, 0⟩⟩) (.done (.lf (tLi (-1))) ⟨[], ⟨2, 2, 0, 0, 0⟩⟩)) (.br (.var 1) (.done (.lf (tLi 1)) ⟨[], ⟨2, 2, 0, 0, 0⟩⟩) (.br (.cmp .lss (.var 0) (.var 1)) (.done (.lf (tLi (-1))) ⟨[], ⟨2, 2, 0, 0, 0⟩⟩) (.br (.cmp .gtr (.var 0) (.var 1)) (.done (.lf (tLi 1)) ⟨[], ⟨2, 2, 0, 0, 0⟩⟩) (.done (.lf (tLi 0)) ⟨[], ⟨2, 2, 0, 0, 0⟩⟩))))))) := by kernel_rfl
set_option maxRecDepth 100000 in
theorem tNaN : (runF ⟨tt, fns, {}⟩ (Try.f94.body.getD .skip) Try.f94.results.toList (entry Try.f94.ntmps [.lf (.int .i64 (.var 0))] [] ⟨1, 0, 0, 0, 0⟩)) =
  (.done (.lf (.bool (.cmp .neq (.var 0) (.var 0)))) ⟨[], ⟨1, 0, 0, 0, 0⟩⟩) := by kernel_rfl
set_option maxRecDepth 100000 in
theorem tBsT : (runF ⟨tt, fns, {loops := [(3, ⟨[(9, .int .i64), (10, .int .i64)], []⟩)]}⟩ (Try.f70.body.getD .skip) Try.f70.results.toList (entry Try.f70.ntmps [.lf (.sl 0 (.var 0) (.var 1)), .lf (.int .i64 (.var 0)), .lf (.fnv 71 [])] [] ⟨1, 0, 0, 2, 1⟩)) =
  (.loop 3 ⟨[(.lit 0), (.nat 0)], [], [], [], []⟩ ⟨[], ⟨1, 0, 0, 2, 1⟩⟩ ⟨[], ⟨3, 0, 0, 2, 1⟩⟩ (.br (.cmp .lss (.var 1) (.var 2)) (.need (.inb 0 (.conv .i64 (.op .shr .u64 (.conv .u64 (.op .add .i64 (.var 1) (.var 2))) (.lit 1))) (.nat 0)) (.ld .false (.adr 0 (.conv .i64 (.op .shr .u64 (.conv .u64 (.op .add .i64 (.var 1) (.var 2))) (.lit 1))) 3 0) [(tVi 3), (tVi 4), (tSl 1 2 3)] ⟨[], ⟨3, 0, 0, 2, 1⟩⟩ ⟨[], ⟨5, 0, 0, 4, 2⟩⟩ (.call 71 [(.agg [(tVi 3), (tVi 4), (tSl 1 2 3)]), (.lf (tVi 0))] ⟨[], ⟨5, 0, 0, 4, 2⟩⟩ (.lf (tVi 5)) ⟨[], ⟨6, 0, 0, 4, 2⟩⟩ (.br (.cmp .lss (.var 5) (.lit 0)) (.again 3 ⟨[(.op .add .i64 (.conv .i64 (.op .shr .u64 (.conv .u64 (.op .add .i64 (.var 1) (.var 2))) (.lit 1))) (.lit 1)), (.var 2)], [], [], [], []⟩ ⟨[], ⟨6, 0, 0, 4, 2⟩⟩) (.again 3 ⟨[(.var 1), (.conv .i64 (.op .shr .u64 (.conv .u64 (.op .add .i64 (.var 1) (.var 2))) (.lit 1)))], [], [], [], []⟩ ⟨[], ⟨6, 0, 0, 4, 2⟩⟩))))) (.br (.cmp .lss (.var 1) (.nat 0)) (.need (.inb 0 (.var 1) (.nat 0)) (.ld .false (.adr 0 (.var 1) 3 0) [(tVi 3), (tVi 4), (tSl 1 2 3)] ⟨[], ⟨3, 0, 0, 2, 1⟩⟩ ⟨[], ⟨5, 0, 0, 4, 2⟩⟩ (.call 71 [(.agg [(tVi 3), (tVi 4), (tSl 1 2 3)]), (.lf (tVi 0))] ⟨[], ⟨5, 0, 0, 4, 2⟩⟩ (.lf (tVi 5)) ⟨[], ⟨6, 0, 0, 4, 2⟩⟩ (.done (.tup [(.false, [(tVi 1)]), (.false, [(.bool (.cmp .eql (.var 5) (.lit 0)))])]) ⟨[], ⟨6, 0, 0, 4, 2⟩⟩)))) (.done (.tup [(.false, [(tVi 1)]), (.false, [(.bool (.lit .false))])]) ⟨[], ⟨3, 0, 0, 2, 1⟩⟩)))) := by kernel_rfl
set_option maxRecDepth 100000 in
theorem tBsK : (runF ⟨tt, fns, {loops := [(3, ⟨[(9, .int .i64), (10, .int .i64)], []⟩)]}⟩ (Try.f75.body.getD .skip) Try.f75.results.toList (entry Try.f75.ntmps [.lf (.sl 0 (.var 0) (.var 1)), .lf (.int .i64 (.var 0)), .lf (.fnv 76 [])] [] ⟨1, 0, 0, 2, 1⟩)) =
  (.loop 3 ⟨[(.lit 0), (.nat 0)], [], [], [], []⟩ ⟨[], ⟨1, 0, 0, 2, 1⟩⟩ ⟨[], ⟨3, 0, 0, 2, 1⟩⟩ (.br (.cmp .lss (.var 1) (.var 2)) (.need (.inb 0 (.conv .i64 (.op .shr .u64 (.conv .u64 (.op .add .i64 (.var 1) (.var 2))) (.lit 1))) (.nat 0)) (.ld .false (.adr 0 (.conv .i64 (.op .shr .u64 (.conv .u64 (.op .add .i64 (.var 1) (.var 2))) (.lit 1))) 4 0) [(tVi 3), (tVi 4), (tVi 5), (tVi 6)] ⟨[], ⟨3, 0, 0, 2, 1⟩⟩ ⟨[], ⟨7, 0, 0, 2, 1⟩⟩ (.call 76 [(.agg [(tVi 3), (tVi 4), (tVi 5), (tVi 6)]), (.lf (tVi 0))] ⟨[], ⟨7, 0, 0, 2, 1⟩⟩ (.lf (tVi 7)) ⟨[], ⟨8, 0, 0, 2, 1⟩⟩ (.br (.cmp .lss (.var 7) (.lit 0)) (.again 3 ⟨[(.op .add .i64 (.conv .i64 (.op .shr .u64 (.conv .u64 (.op .add .i64 (.var 1) (.var 2))) (.lit 1))) (.lit 1)), (.var 2)], [], [], [], []⟩ ⟨[], ⟨8, 0, 0, 2, 1⟩⟩) (.again 3 ⟨[(.var 1), (.conv .i64 (.op .shr .u64 (.conv .u64 (.op .add .i64 (.var 1) (.var 2))) (.lit 1)))], [], [], [], []⟩ ⟨[], ⟨8, 0, 0, 2, 1⟩⟩))))) (.br (.cmp .lss (.var 1) (.nat 0)) (.need (.inb 0 (.var 1) (.nat 0)) (.ld .false (.adr 0 (.var 1) 4 0) [(tVi 3), (tVi 4), (tVi 5), (tVi 6)] ⟨[], ⟨3, 0, 0, 2, 1⟩⟩ ⟨[], ⟨7, 0, 0, 2, 1⟩⟩ (.call 76 [(.agg [(tVi 3), (tVi 4), (tVi 5), (tVi 6)]), (.lf (tVi 0))] ⟨[], ⟨7, 0, 0, 2, 1⟩⟩ (.lf (tVi 7)) ⟨[], ⟨8, 0, 0, 2, 1⟩⟩ (.done (.tup [(.false, [(tVi 1)]), (.false, [(.bool (.cmp .eql (.var 7) (.lit 0)))])]) ⟨[], ⟨8, 0, 0, 2, 1⟩⟩)))) (.done (.tup [(.false, [(tVi 1)]), (.false, [(.bool (.lit .false))])]) ⟨[], ⟨3, 0, 0, 2, 1⟩⟩)))) := by kernel_rfl
set_option maxRecDepth 100000 in
theorem tClT : (runF ⟨tt, fns, {}⟩ (Try.f68.body.getD .skip) Try.f68.results.toList (entry Try.f68.ntmps [.lf (.sl 0 (.var 0) (.var 1))] [] ⟨0, 0, 0, 2, 1⟩)) =
  (.br (.anone 0) (.done (.lf .nilsl) ⟨[], ⟨0, 0, 0, 2, 1⟩⟩) (.gen (.call ⟨(.builtin .append), #[(.tmp 5), (.tmp 6)], #[123, 123]⟩) 123 [(5, (.lf (.nsl 0 0 0 0))), (6, (.lf (tSl 0 0 1)))] ⟨[(141, [])], ⟨0, 0, 0, 2, 1⟩⟩ (.some (.lf (tSl 1 2 3))) ⟨[(141, [])], ⟨0, 0, 0, 4, 2⟩⟩ (.done (.lf (tSl 1 2 3)) ⟨[(141, [])], ⟨0, 0, 0, 4, 2⟩⟩))) := by kernel_rfl
set_option maxRecDepth 100000 in
theorem tClK : (runF ⟨tt, fns, {}⟩ (Try.f69.body.getD .skip) Try.f69.results.toList (entry Try.f69.ntmps [.lf (.sl 0 (.var 0) (.var 1))] [] ⟨0, 0, 0, 2, 1⟩)) =
  (.br (.anone 0) (.done (.lf .nilsl) ⟨[], ⟨0, 0, 0, 2, 1⟩⟩) (.gen (.call ⟨(.builtin .append), #[(.tmp 5), (.tmp 6)], #[139, 139]⟩) 139 [(5, (.lf (.nsl 0 0 0 0))), (6, (.lf (tSl 0 0 1)))] ⟨[(143, [])], ⟨0, 0, 0, 2, 1⟩⟩ (.some (.lf (tSl 1 2 3))) ⟨[(143, [])], ⟨0, 0, 0, 4, 2⟩⟩ (.done (.lf (tSl 1 2 3)) ⟨[(143, [])], ⟨0, 0, 0, 4, 2⟩⟩))) := by kernel_rfl
abbrev tInsTm0 : Mem := ⟨[(141, [(tVi 1), (tVi 2), .nilsl])], ⟨4, 0, 0, 10, 5⟩⟩
abbrev tInsTm1 : Mem := ⟨[(141, [(tVi 1), (tVi 2), .nilsl])], ⟨5, 0, 0, 10, 5⟩⟩
abbrev tInsTm2 : Mem := ⟨[(141, [(tVi 1), (tVi 2), .nilsl])], ⟨5, 0, 0, 12, 6⟩⟩
abbrev tInsTm3 : Mem := ⟨[(141, [(tVi 1), (tVi 2), .nilsl])], ⟨5, 0, 0, 14, 7⟩⟩
abbrev tInsTm4 : Mem := ⟨[(141, [(tVi 1), (tVi 2), .nilsl])], ⟨6, 0, 0, 14, 7⟩⟩
abbrev tInsTm5 : Mem := ⟨[(141, [(tVi 1), (tVi 2), .nilsl])], ⟨4, 1, 0, 10, 5⟩⟩
abbrev tInsTm6 : Mem := ⟨[(141, [(tVi 1), (tVi 2), .nilsl])], ⟨4, 1, 0, 12, 6⟩⟩
abbrev tInsTm7 : Mem := ⟨[(141, [(tVi 1), (tVi 2), .nilsl])], ⟨5, 1, 0, 12, 6⟩⟩
abbrev tInsTm8 : Mem := ⟨[(141, [(tVi 1), (tVi 2), .nilsl])], ⟨5, 1, 0, 14, 7⟩⟩
abbrev tInsTm9 : Mem := ⟨[(141, [(tVi 1), (tVi 2), .nilsl])], ⟨6, 1, 0, 14, 7⟩⟩
abbrev tInsTm10 : Mem := ⟨[(141, [(tVi 1), (tVi 2), .nilsl])], ⟨5, 1, 0, 10, 5⟩⟩
abbrev tInsTm11 : Mem := ⟨[(141, [(tVi 1), (tVi 2), .nilsl])], ⟨3, 0, 0, 4, 2⟩⟩
abbrev tInsTm12 : Mem := ⟨[(141, [(tVi 1), (tVi 2), .nilsl])], ⟨3, 0, 0, 6, 3⟩⟩
abbrev tInsTm13 : Mem := ⟨[(141, [(tVi 1), (tVi 2), .nilsl])], ⟨4, 0, 0, 4, 2⟩⟩
abbrev tInsTm14 : Mem := ⟨[(141, [(tVi 1), (tVi 2), .nilsl])], ⟨4, 0, 0, 6, 3⟩⟩
abbrev tInsTm15 : Mem := ⟨[(141, [(tVi 1), (tVi 2), .nilsl])], ⟨4, 0, 0, 8, 4⟩⟩
abbrev tInsTm16 : Mem := ⟨[(141, [(tVi 1), (tVi 2), .nilsl])], ⟨4, 1, 0, 8, 4⟩⟩
set_option maxRecDepth 100000 in
theorem tInsT : (runF ⟨tt, fns, {}⟩ (Try.f72.body.getD .skip) Try.f72.results.toList (entry Try.f72.ntmps [.lf (.sl 0 (.var 0) (.var 1)), .lf (.int .i64 (.var 0)), .lf (.nsl 0 0 1 1)] [(141, [.int .i64 (.var 1), .int .i64 (.var 2), .nilsl])] ⟨3, 0, 0, 2, 1⟩)) =
  (.gen (.slice 123 (.tmp 10) (.some (.tmp 11)) .none .none) 123 [(10, (.lf (tSl 0 0 1))), (11, (.lf (tVi 0)))] ⟨[(141, [(tVi 1), (tVi 2), .nilsl])], ⟨3, 0, 0, 2, 1⟩⟩ (.some (.lf (tSl 1 2 3))) tInsTm11 (.br (.cmp .eql (.var 0) (.nat 0)) (.gen (.call ⟨(.builtin .append), #[(.tmp 23), (.tmp 24)], #[123, 52]⟩) 123 [(23, (.lf (tSl 0 0 1))), (24, (.lf (.nsl 0 0 1 1)))] tInsTm11 (.some (.lf (tSl 2 4 5))) tInsTm12 (.done (.lf (tSl 2 4 5)) tInsTm12)) (.gen (.call ⟨(.builtin .cap), #[(.tmp 29)], #[123]⟩) 3 [(29, (.lf (tSl 0 0 1)))] tInsTm11 (.some (.lf (tVi 3))) tInsTm13 (.br (.cmp .gtr (.op .add .i64 (.nat 0) (.lit 1)) (.var 3)) (.gen (.slice 123 (.tmp 32) .none (.some (.tmp 33)) .none) 123 [(32, (.lf (tSl 0 0 1))), (33, (.lf (tVi 0)))] tInsTm13 (.some (.lf (tSl 2 4 5))) tInsTm14 (.gen (.call ⟨(.builtin .append), #[(.tmp 34), (.tmp 39)], #[123, 3]⟩) 123 [(34, (.lf (tSl 2 4 5))), (39, (.lf (.int .i64 (.op .sub .i64 (.op .add .i64 (.nat 0) (.lit 1)) (.var 0)))))] tInsTm14 (.some (.lf (tSl 3 6 7))) tInsTm15 (.gen (.slice 123 (.tmp 41) (.some (.tmp 42)) .none .none) 123 [(41, (.lf (tSl 3 6 7))), (42, (.lf (tVi 0)))] tInsTm15 (.some (.lf (tSl 4 8 9))) tInsTm0 (.gen (.call ⟨(.builtin .copy), #[(.tmp 43), (.tmp 44)], #[123, 52]⟩) 3 [(43, (.lf (tSl 4 8 9))), (44, (.lf (.nsl 0 0 1 1)))] tInsTm0 (.some (.lf (tVi 4))) tInsTm1 (.par (.gen (.slice 123 (.tmp 46) (.some (.tmp 49)) .none .none) 123 [(46, (.lf (tSl 3 6 7))), (49, (.lf (.int .i64 (.op .add .i64 (.var 0) (.lit 1)))))] tInsTm1 (.some (.lf (tSl 5 10 11))) tInsTm2 (.gen (.slice 123 (.tmp 51) (.some (.tmp 52)) .none .none) 123 [(51, (.lf (tSl 0 0 1))), (52, (.lf (tVi 0)))] tInsTm2 (.some (.lf (tSl 6 12 13))) tInsTm3 (.gen (.call ⟨(.builtin .copy), #[(.tmp 50), (.tmp 53)], #[123, 123]⟩) 3 [(50, (.lf (tSl 5 10 11))), (53, (.lf (tSl 6 12 13)))] tInsTm3 (.some (.lf (tVi 5))) tInsTm4 (.done (.lf (tSl 3 6 7)) tInsTm4)))) (.gen (.slice 123 (.tmp 51) (.some (.tmp 52)) .none .none) 123 [(51, (.lf (tSl 0 0 1))), (52, (.lf (tVi 0)))] tInsTm1 (.some (.lf (tSl 5 10 11))) tInsTm2 (.gen (.slice 123 (.tmp 46) (.some (.tmp 49)) .none .none) 123 [(46, (.lf (tSl 3 6 7))), (49, (.lf (.int .i64 (.op .add .i64 (.var 0) (.lit 1)))))] tInsTm2 (.some (.lf (tSl 6 12 13))) tInsTm3 (.gen (.call ⟨(.builtin .copy), #[(.tmp 50), (.tmp 53)], #[123, 123]⟩) 3 [(50, (.lf (tSl 6 12 13))), (53, (.lf (tSl 5 10 11)))] tInsTm3 (.some (.lf (tVi 5))) tInsTm4 (.done (.lf (tSl 3 6 7)) tInsTm4))))))))) (.gen (.slice 123 (.tmp 56) .none (.some (.tmp 59)) .none) 123 [(56, (.lf (tSl 0 0 1))), (59, (.lf (.int .i64 (.op .add .i64 (.nat 0) (.lit 1)))))] tInsTm13 (.some (.lf (tSl 2 4 5))) tInsTm14 (.gen (.slice 123 (.tmp 62) (.some (.tmp 65)) .none .none) 123 [(62, (.lf (tSl 2 4 5))), (65, (.lf (.int .i64 (.op .add .i64 (.var 0) (.lit 1)))))] tInsTm14 (.some (.lf (tSl 3 6 7))) tInsTm15 (.gen (.call ⟨(.value (.func 85)), #[(.tmp 61), (.tmp 66)], #[52, 52]⟩) 4 [(61, (.lf (.nsl 0 0 1 1))), (66, (.lf (tSl 3 6 7)))] tInsTm15 (.some (.lf (.bool (.var 0)))) tInsTm16 (.br (.not (.var 0)) (.par (.gen (.slice 123 (.tmp 69) (.some (.tmp 72)) .none .none) 123 [(69, (.lf (tSl 2 4 5))), (72, (.lf (.int .i64 (.op .add .i64 (.var 0) (.lit 1)))))] tInsTm16 (.some (.lf (tSl 4 8 9))) tInsTm5 (.gen (.slice 123 (.tmp 74) (.some (.tmp 75)) .none .none) 123 [(74, (.lf (tSl 2 4 5))), (75, (.lf (tVi 0)))] tInsTm5 (.some (.lf (tSl 5 10 11))) tInsTm6 (.gen (.call ⟨(.builtin .copy), #[(.tmp 73), (.tmp 76)], #[123, 123]⟩) 3 [(73, (.lf (tSl 4 8 9))), (76, (.lf (tSl 5 10 11)))] tInsTm6 (.some (.lf (tVi 4))) tInsTm7 (.gen (.slice 123 (.tmp 78) (.some (.tmp 79)) .none .none) 123 [(78, (.lf (tSl 2 4 5))), (79, (.lf (tVi 0)))] tInsTm7 (.some (.lf (tSl 6 12 13))) tInsTm8 (.gen (.call ⟨(.builtin .copy), #[(.tmp 80), (.tmp 81)], #[123, 52]⟩) 3 [(80, (.lf (tSl 6 12 13))), (81, (.lf (.nsl 0 0 1 1)))] tInsTm8 (.some (.lf (tVi 5))) tInsTm9 (.done (.lf (tSl 2 4 5)) tInsTm9)))))) (.gen (.slice 123 (.tmp 74) (.some (.tmp 75)) .none .none) 123 [(74, (.lf (tSl 2 4 5))), (75, (.lf (tVi 0)))] tInsTm16 (.some (.lf (tSl 4 8 9))) tInsTm5 (.gen (.slice 123 (.tmp 69) (.some (.tmp 72)) .none .none) 123 [(69, (.lf (tSl 2 4 5))), (72, (.lf (.int .i64 (.op .add .i64 (.var 0) (.lit 1)))))] tInsTm5 (.some (.lf (tSl 5 10 11))) tInsTm6 (.gen (.call ⟨(.builtin .copy), #[(.tmp 73), (.tmp 76)], #[123, 123]⟩) 3 [(73, (.lf (tSl 5 10 11))), (76, (.lf (tSl 4 8 9)))] tInsTm6 (.some (.lf (tVi 4))) tInsTm7 (.gen (.slice 123 (.tmp 78) (.some (.tmp 79)) .none .none) 123 [(78, (.lf (tSl 2 4 5))), (79, (.lf (tVi 0)))] tInsTm7 (.some (.lf (tSl 6 12 13))) tInsTm8 (.gen (.call ⟨(.builtin .copy), #[(.tmp 80), (.tmp 81)], #[123, 52]⟩) 3 [(80, (.lf (tSl 6 12 13))), (81, (.lf (.nsl 0 0 1 1)))] tInsTm8 (.some (.lf (tVi 5))) tInsTm9 (.done (.lf (tSl 2 4 5)) tInsTm9))))))) (.gen (.slice 123 (.tmp 84) (.some (.tmp 85)) .none .none) 123 [(84, (.lf (tSl 2 4 5))), (85, (.lf (.int .i64 (.nat 0))))] tInsTm16 (.some (.lf (tSl 4 8 9))) tInsTm5 (.gen (.call ⟨(.builtin .copy), #[(.tmp 86), (.tmp 87)], #[123, 52]⟩) 3 [(86, (.lf (tSl 4 8 9))), (87, (.lf (.nsl 0 0 1 1)))] tInsTm5 (.some (.lf (tVi 4))) tInsTm10 (.gen (.slice 123 (.tmp 89) (.some (.tmp 90)) .none .none) 123 [(89, (.lf (tSl 2 4 5))), (90, (.lf (tVi 0)))] tInsTm10 (.some (.lf (tSl 5 10 11))) tInsTm7 (.call 86 [(.lf (tSl 5 10 11)), (.lf (tLi 1))] tInsTm7 (.tup []) tInsTm7 (.done (.lf (tSl 2 4 5)) tInsTm7))))))))))))) := by kernel_rfl
abbrev tInsKm0 : Mem := ⟨[(143, [(tVi 1), (tVi 2), (tVi 3), (tVi 4)])], ⟨6, 0, 0, 10, 5⟩⟩
abbrev tInsKm1 : Mem := ⟨[(143, [(tVi 1), (tVi 2), (tVi 3), (tVi 4)])], ⟨7, 0, 0, 10, 5⟩⟩
abbrev tInsKm2 : Mem := ⟨[(143, [(tVi 1), (tVi 2), (tVi 3), (tVi 4)])], ⟨7, 0, 0, 12, 6⟩⟩
abbrev tInsKm3 : Mem := ⟨[(143, [(tVi 1), (tVi 2), (tVi 3), (tVi 4)])], ⟨7, 0, 0, 14, 7⟩⟩
abbrev tInsKm4 : Mem := ⟨[(143, [(tVi 1), (tVi 2), (tVi 3), (tVi 4)])], ⟨8, 0, 0, 14, 7⟩⟩
abbrev tInsKm5 : Mem := ⟨[(143, [(tVi 1), (tVi 2), (tVi 3), (tVi 4)])], ⟨6, 1, 0, 10, 5⟩⟩
abbrev tInsKm6 : Mem := ⟨[(143, [(tVi 1), (tVi 2), (tVi 3), (tVi 4)])], ⟨6, 1, 0, 12, 6⟩⟩
abbrev tInsKm7 : Mem := ⟨[(143, [(tVi 1), (tVi 2), (tVi 3), (tVi 4)])], ⟨7, 1, 0, 12, 6⟩⟩
abbrev tInsKm8 : Mem := ⟨[(143, [(tVi 1), (tVi 2), (tVi 3), (tVi 4)])], ⟨7, 1, 0, 14, 7⟩⟩
abbrev tInsKm9 : Mem := ⟨[(143, [(tVi 1), (tVi 2), (tVi 3), (tVi 4)])], ⟨8, 1, 0, 14, 7⟩⟩
abbrev tInsKm10 : Mem := ⟨[(143, [(tVi 1), (tVi 2), (tVi 3), (tVi 4)])], ⟨7, 1, 0, 10, 5⟩⟩
abbrev tInsKm11 : Mem := ⟨[(143, [(tVi 1), (tVi 2), (tVi 3), (tVi 4)])], ⟨5, 0, 0, 4, 2⟩⟩
abbrev tInsKm12 : Mem := ⟨[(143, [(tVi 1), (tVi 2), (tVi 3), (tVi 4)])], ⟨5, 0, 0, 6, 3⟩⟩
abbrev tInsKm13 : Mem := ⟨[(143, [(tVi 1), (tVi 2), (tVi 3), (tVi 4)])], ⟨6, 0, 0, 4, 2⟩⟩
abbrev tInsKm14 : Mem := ⟨[(143, [(tVi 1), (tVi 2), (tVi 3), (tVi 4)])], ⟨6, 0, 0, 6, 3⟩⟩
abbrev tInsKm15 : Mem := ⟨[(143, [(tVi 1), (tVi 2), (tVi 3), (tVi 4)])], ⟨6, 0, 0, 8, 4⟩⟩
abbrev tInsKm16 : Mem := ⟨[(143, [(tVi 1), (tVi 2), (tVi 3), (tVi 4)])], ⟨6, 1, 0, 8, 4⟩⟩
set_option maxRecDepth 100000 in
theorem tInsK : (runF ⟨tt, fns, {}⟩ (Try.f77.body.getD .skip) Try.f77.results.toList (entry Try.f77.ntmps [.lf (.sl 0 (.var 0) (.var 1)), .lf (.int .i64 (.var 0)), .lf (.nsl 0 0 1 1)] [(143, [.int .i64 (.var 1), .int .i64 (.var 2), .int .i64 (.var 3), .int .i64 (.var 4)])] ⟨5, 0, 0, 2, 1⟩)) =
  (.gen (.slice 139 (.tmp 10) (.some (.tmp 11)) .none .none) 139 [(10, (.lf (tSl 0 0 1))), (11, (.lf (tVi 0)))] ⟨[(143, [(tVi 1), (tVi 2), (tVi 3), (tVi 4)])], ⟨5, 0, 0, 2, 1⟩⟩ (.some (.lf (tSl 1 2 3))) tInsKm11 (.br (.cmp .eql (.var 0) (.nat 0)) (.gen (.call ⟨(.builtin .append), #[(.tmp 23), (.tmp 24)], #[139, 139]⟩) 139 [(23, (.lf (tSl 0 0 1))), (24, (.lf (.nsl 0 0 1 1)))] tInsKm11 (.some (.lf (tSl 2 4 5))) tInsKm12 (.done (.lf (tSl 2 4 5)) tInsKm12)) (.gen (.call ⟨(.builtin .cap), #[(.tmp 29)], #[139]⟩) 3 [(29, (.lf (tSl 0 0 1)))] tInsKm11 (.some (.lf (tVi 5))) tInsKm13 (.br (.cmp .gtr (.op .add .i64 (.nat 0) (.lit 1)) (.var 5)) (.gen (.slice 139 (.tmp 32) .none (.some (.tmp 33)) .none) 139 [(32, (.lf (tSl 0 0 1))), (33, (.lf (tVi 0)))] tInsKm13 (.some (.lf (tSl 2 4 5))) tInsKm14 (.gen (.call ⟨(.builtin .append), #[(.tmp 34), (.tmp 39)], #[139, 3]⟩) 139 [(34, (.lf (tSl 2 4 5))), (39, (.lf (.int .i64 (.op .sub .i64 (.op .add .i64 (.nat 0) (.lit 1)) (.var 0)))))] tInsKm14 (.some (.lf (tSl 3 6 7))) tInsKm15 (.gen (.slice 139 (.tmp 41) (.some (.tmp 42)) .none .none) 139 [(41, (.lf (tSl 3 6 7))), (42, (.lf (tVi 0)))] tInsKm15 (.some (.lf (tSl 4 8 9))) tInsKm0 (.gen (.call ⟨(.builtin .copy), #[(.tmp 43), (.tmp 44)], #[139, 139]⟩) 3 [(43, (.lf (tSl 4 8 9))), (44, (.lf (.nsl 0 0 1 1)))] tInsKm0 (.some (.lf (tVi 6))) tInsKm1 (.par (.gen (.slice 139 (.tmp 46) (.some (.tmp 49)) .none .none) 139 [(46, (.lf (tSl 3 6 7))), (49, (.lf (.int .i64 (.op .add .i64 (.var 0) (.lit 1)))))] tInsKm1 (.some (.lf (tSl 5 10 11))) tInsKm2 (.gen (.slice 139 (.tmp 51) (.some (.tmp 52)) .none .none) 139 [(51, (.lf (tSl 0 0 1))), (52, (.lf (tVi 0)))] tInsKm2 (.some (.lf (tSl 6 12 13))) tInsKm3 (.gen (.call ⟨(.builtin .copy), #[(.tmp 50), (.tmp 53)], #[139, 139]⟩) 3 [(50, (.lf (tSl 5 10 11))), (53, (.lf (tSl 6 12 13)))] tInsKm3 (.some (.lf (tVi 7))) tInsKm4 (.done (.lf (tSl 3 6 7)) tInsKm4)))) (.gen (.slice 139 (.tmp 51) (.some (.tmp 52)) .none .none) 139 [(51, (.lf (tSl 0 0 1))), (52, (.lf (tVi 0)))] tInsKm1 (.some (.lf (tSl 5 10 11))) tInsKm2 (.gen (.slice 139 (.tmp 46) (.some (.tmp 49)) .none .none) 139 [(46, (.lf (tSl 3 6 7))), (49, (.lf (.int .i64 (.op .add .i64 (.var 0) (.lit 1)))))] tInsKm2 (.some (.lf (tSl 6 12 13))) tInsKm3 (.gen (.call ⟨(.builtin .copy), #[(.tmp 50), (.tmp 53)], #[139, 139]⟩) 3 [(50, (.lf (tSl 6 12 13))), (53, (.lf (tSl 5 10 11)))] tInsKm3 (.some (.lf (tVi 7))) tInsKm4 (.done (.lf (tSl 3 6 7)) tInsKm4))))))))) (.gen (.slice 139 (.tmp 56) .none (.some (.tmp 59)) .none) 139 [(56, (.lf (tSl 0 0 1))), (59, (.lf (.int .i64 (.op .add .i64 (.nat 0) (.lit 1)))))] tInsKm13 (.some (.lf (tSl 2 4 5))) tInsKm14 (.gen (.slice 139 (.tmp 62) (.some (.tmp 65)) .none .none) 139 [(62, (.lf (tSl 2 4 5))), (65, (.lf (.int .i64 (.op .add .i64 (.var 0) (.lit 1)))))] tInsKm14 (.some (.lf (tSl 3 6 7))) tInsKm15 (.gen (.call ⟨(.value (.func 88)), #[(.tmp 61), (.tmp 66)], #[139, 139]⟩) 4 [(61, (.lf (.nsl 0 0 1 1))), (66, (.lf (tSl 3 6 7)))] tInsKm15 (.some (.lf (.bool (.var 0)))) tInsKm16 (.br (.not (.var 0)) (.par (.gen (.slice 139 (.tmp 69) (.some (.tmp 72)) .none .none) 139 [(69, (.lf (tSl 2 4 5))), (72, (.lf (.int .i64 (.op .add .i64 (.var 0) (.lit 1)))))] tInsKm16 (.some (.lf (tSl 4 8 9))) tInsKm5 (.gen (.slice 139 (.tmp 74) (.some (.tmp 75)) .none .none) 139 [(74, (.lf (tSl 2 4 5))), (75, (.lf (tVi 0)))] tInsKm5 (.some (.lf (tSl 5 10 11))) tInsKm6 (.gen (.call ⟨(.builtin .copy), #[(.tmp 73), (.tmp 76)], #[139, 139]⟩) 3 [(73, (.lf (tSl 4 8 9))), (76, (.lf (tSl 5 10 11)))] tInsKm6 (.some (.lf (tVi 6))) tInsKm7 (.gen (.slice 139 (.tmp 78) (.some (.tmp 79)) .none .none) 139 [(78, (.lf (tSl 2 4 5))), (79, (.lf (tVi 0)))] tInsKm7 (.some (.lf (tSl 6 12 13))) tInsKm8 (.gen (.call ⟨(.builtin .copy), #[(.tmp 80), (.tmp 81)], #[139, 139]⟩) 3 [(80, (.lf (tSl 6 12 13))), (81, (.lf (.nsl 0 0 1 1)))] tInsKm8 (.some (.lf (tVi 7))) tInsKm9 (.done (.lf (tSl 2 4 5)) tInsKm9)))))) (.gen (.slice 139 (.tmp 74) (.some (.tmp 75)) .none .none) 139 [(74, (.lf (tSl 2 4 5))), (75, (.lf (tVi 0)))] tInsKm16 (.some (.lf (tSl 4 8 9))) tInsKm5 (.gen (.slice 139 (.tmp 69) (.some (.tmp 72)) .none .none) 139 [(69, (.lf (tSl 2 4 5))), (72, (.lf (.int .i64 (.op .add .i64 (.var 0) (.lit 1)))))] tInsKm5 (.some (.lf (tSl 5 10 11))) tInsKm6 (.gen (.call ⟨(.builtin .copy), #[(.tmp 73), (.tmp 76)], #[139, 139]⟩) 3 [(73, (.lf (tSl 5 10 11))), (76, (.lf (tSl 4 8 9)))] tInsKm6 (.some (.lf (tVi 6))) tInsKm7 (.gen (.slice 139 (.tmp 78) (.some (.tmp 79)) .none .none) 139 [(78, (.lf (tSl 2 4 5))), (79, (.lf (tVi 0)))] tInsKm7 (.some (.lf (tSl 6 12 13))) tInsKm8 (.gen (.call ⟨(.builtin .copy), #[(.tmp 80), (.tmp 81)], #[139, 139]⟩) 3 [(80, (.lf (tSl 6 12 13))), (81, (.lf (.nsl 0 0 1 1)))] tInsKm8 (.some (.lf (tVi 7))) tInsKm9 (.done (.lf (tSl 2 4 5)) tInsKm9))))))) (.gen (.slice 139 (.tmp 84) (.some (.tmp 85)) .none .none) 139 [(84, (.lf (tSl 2 4 5))), (85, (.lf (.int .i64 (.nat 0))))] tInsKm16 (.some (.lf (tSl 4 8 9))) tInsKm5 (.gen (.call ⟨(.builtin .copy), #[(.tmp 86), (.tmp 87)], #[139, 139]⟩) 3 [(86, (.lf (tSl 4 8 9))), (87, (.lf (.nsl 0 0 1 1)))] tInsKm5 (.some (.lf (tVi 6))) tInsKm10 (.gen (.slice 139 (.tmp 89) (.some (.tmp 90)) .none .none) 139 [(89, (.lf (tSl 2 4 5))), (90, (.lf (tVi 0)))] tInsKm10 (.some (.lf (tSl 5 10 11))) tInsKm7 (.call 89 [(.lf (tSl 5 10 11)), (.lf (tLi 1))] tInsKm7 (.tup []) tInsKm7 (.done (.lf (tSl 2 4 5)) tInsKm7))))))))))))) := by kernel_rfl
abbrev tAsk1m0 : Mem := ⟨[(149, [(.adr 0 (.var 4) 3 0)]), (143, [(tVi 0), (tVi 1), (tVi 2), (tVi 3)])], ⟨6, 0, 0, 0, 1⟩⟩
set_option maxRecDepth 100000 in
theorem tAsk1 : (runF ⟨tt, fns, {cur := [0]}⟩ (Try.f74.body.getD .skip) Try.f74.results.toList (entry Try.f74.ntmps [.agg [.int .i64 (.var 0), .int .i64 (.var 1), .int .i64 (.var 2), .int .i64 (.var 3)], .lf (.ptr 0 0)] [(149, [.adr 0 (.var 4) 3 0])] ⟨5, 0, 0, 0, 1⟩)) =
  (.ld .true (.adr 0 (.var 4) 3 1) [(tVi 5)] ⟨[(149, [(.adr 0 (.var 4) 3 0)]), (143, [(tVi 0), (tVi 1), (tVi 2), (tVi 3)])], ⟨5, 0, 0, 0, 1⟩⟩ tAsk1m0 (.done (.lf (.bool (.cmp .leq (.var 0) (.var 5)))) tAsk1m0)) := by kernel_rfl
abbrev tIdxKm0 : Mem := ⟨[(149, [(.adr 1 (.var 0) 3 0)])], ⟨2, 0, 0, 2, 2⟩⟩
abbrev tIdxKm1 : Mem := ⟨[(149, [(.adr 1 (.var 0) 3 0)])], ⟨6, 0, 0, 2, 2⟩⟩
abbrev tIdxKm2 : Mem := ⟨[(149, [(.adr 1 (.var 0) 3 0)])], ⟨6, 1, 0, 2, 2⟩⟩
set_option maxRecDepth 100000 in
theorem tIdxK : (runF ⟨tt, fns, {cur := [0], loops := [(2, ⟨[(8, .int .i64)], []⟩)]}⟩ (Try.f87.body.getD .skip) Try.f87.results.toList (entry Try.f87.ntmps [.lf (.sl 0 (.var 0) (.var 1)), .lf (.fnv 74 [(0, 0)])] [(149, [.adr 1 (.var 0) 3 0])] ⟨1, 0, 0, 2, 2⟩)) =
  (.loop 2 ⟨[(.lit 0)], [], [], [], []⟩ ⟨[(149, [(.adr 1 (.var 0) 3 0)])], ⟨1, 0, 0, 2, 2⟩⟩ tIdxKm0 (.br (.cmp .lss (.var 1) (.nat 0)) (.need (.inb 0 (.var 1) (.nat 0)) (.ld .true (.adr 0 (.var 1) 4 0) [(tVi 2), (tVi 3), (tVi 4), (tVi 5)] tIdxKm0 tIdxKm1 (.call 74 [(.agg [(tVi 2), (tVi 3), (tVi 4), (tVi 5)]), (.lf (.ptr 0 0))] tIdxKm1 (.lf (.bool (.var 0))) tIdxKm2 (.br (.var 0) (.done (.lf (tVi 1)) tIdxKm2) (.again 2 ⟨[(.op .add .i64 (.var 1) (.lit 1))], [], [], [], []⟩ tIdxKm2))))) (.done (.lf (tLi (-1))) tIdxKm0))) := by kernel_rfl
abbrev tDelKm0 : Mem := ⟨[(149, [(.adr 1 (.var 0) 3 0)]), (143, [(tVi 4), (tVi 5), (tVi 6), (tVi 7)])], ⟨8, 1, 0, 2, 2⟩⟩
abbrev tDelKm1 : Mem := ⟨[(149, [(.adr 1 (.var 0) 3 0)])], ⟨2, 0, 0, 2, 2⟩⟩
abbrev tDelKm2 : Mem := ⟨[(149, [(.adr 1 (.var 0) 3 0)])], ⟨4, 0, 0, 2, 2⟩⟩
abbrev tDelKm3 : Mem := ⟨[(149, [(.adr 1 (.var 0) 3 0)])], ⟨4, 0, 0, 4, 3⟩⟩
abbrev tDelKm4 : Mem := ⟨[(149, [(.adr 1 (.var 0) 3 0)])], ⟨4, 0, 0, 6, 4⟩⟩
set_option maxRecDepth 100000 in
theorem tDelK : (runF ⟨tt, fns, {cur := [0], loops := [(5, ⟨[(5, .int .i64), (6, .int .i64)], []⟩)]}⟩ (Try.f73.body.getD .skip) Try.f73.results.toList (entry Try.f73.ntmps [.lf (.sl 0 (.var 0) (.var 1)), .lf (.fnv 74 [(0, 0)])] [(149, [.adr 1 (.var 0) 3 0])] ⟨1, 0, 0, 2, 2⟩)) =
  (.call 87 [(.lf (tSl 0 0 1)), (.lf (.fnv 74 [(0, 0)]))] ⟨[(149, [(.adr 1 (.var 0) 3 0)])], ⟨1, 0, 0, 2, 2⟩⟩ (.lf (tVi 1)) tDelKm1 (.br (.cmp .eql (.var 1) (.lit (-1))) (.done (.lf (tSl 0 0 1)) tDelKm1) (.loop 5 ⟨[(.var 1), (.op .add .i64 (.var 1) (.lit 1))], [], [], [], []⟩ tDelKm1 tDelKm2 (.br (.cmp .lss (.var 3) (.nat 0)) (.need (.inb 0 (.var 3) (.nat 0)) (.ld .true (.adr 0 (.var 3) 4 0) [(tVi 4), (tVi 5), (tVi 6), (tVi 7)] tDelKm2 ⟨[(149, [(.adr 1 (.var 0) 3 0)])], ⟨8, 0, 0, 2, 2⟩⟩ (.call 74 [(.agg [(tVi 4), (tVi 5), (tVi 6), (tVi 7)]), (.lf (.ptr 0 0))] ⟨[(149, [(.adr 1 (.var 0) 3 0)]), (143, [(tVi 4), (tVi 5), (tVi 6), (tVi 7)])], ⟨8, 0, 0, 2, 2⟩⟩ (.lf (.bool (.var 0))) tDelKm0 (.br (.not (.var 0)) (.need (.inb 0 (.var 2) (.nat 0)) (.gen (.store 143 (.tmp 33) (.tmp 32)) 0 [(33, (.lf (.adr 0 (.var 2) 4 0))), (32, (.agg [(tVi 4), (tVi 5), (tVi 6), (tVi 7)]))] tDelKm0 .none tDelKm0 (.again 5 ⟨[(.op .add .i64 (.var 2) (.lit 1)), (.op .add .i64 (.var 3) (.lit 1))], [], [], [], []⟩ tDelKm0))) (.again 5 ⟨[(.var 2), (.op .add .i64 (.var 3) (.lit 1))], [], [], [], []⟩ tDelKm0))))) (.gen (.slice 139 (.tmp 36) (.some (.tmp 37)) .none .none) 139 [(36, (.lf (tSl 0 0 1))), (37, (.lf (tVi 2)))] tDelKm2 (.some (.lf (tSl 2 2 3))) tDelKm3 (.gen (.call ⟨(.builtin .clear), #[(.tmp 38)], #[139]⟩) 0 [(38, (.lf (tSl 2 2 3)))] tDelKm3 (.some (.tup [])) tDelKm3 (.gen (.slice 139 (.tmp 39) .none (.some (.tmp 40)) .none) 139 [(39, (.lf (tSl 0 0 1))), (40, (.lf (tVi 2)))] tDelKm3 (.some (.lf (tSl 3 4 5))) tDelKm4 (.done (.lf (tSl 3 4 5)) tDelKm4)))))))) := by kernel_rfl
set_option maxRecDepth 100000 in
theorem tTClone : (runF ⟨tt, fns, {cur := [1], loops := [(3, ⟨[(9, .int .i64)], []⟩)]}⟩ (Try.f54.body.getD .skip) Try.f54.results.toList (entry Try.f54.ntmps [.lf (.sl 0 (.var 0) (.var 1))] [] ⟨0, 0, 0, 2, 1⟩)) =
  (.call 68 [(.lf (tSl 0 0 1))] ⟨[], ⟨0, 0, 0, 2, 1⟩⟩ (.lf (tSl 1 2 3)) ⟨[], ⟨0, 0, 0, 4, 2⟩⟩ (.loop 3 ⟨[(.lit 0)], [], [], [], []⟩ ⟨[], ⟨0, 0, 0, 4, 2⟩⟩ ⟨[], ⟨1, 0, 0, 4, 2⟩⟩ (.br (.cmp .lss (.var 0) (.nat 2)) (.need (.inb 1 (.var 0) (.nat 2)) (.ld .true (.adr 1 (.var 0) 3 2) [(tSl 2 4 5)] ⟨[], ⟨1, 0, 0, 4, 2⟩⟩ ⟨[], ⟨1, 0, 0, 6, 3⟩⟩ (.call 69 [(.lf (tSl 2 4 5))] ⟨[], ⟨1, 0, 0, 6, 3⟩⟩ (.lf (tSl 3 6 7)) ⟨[], ⟨1, 0, 0, 8, 4⟩⟩ (.need (.inb 1 (.var 0) (.nat 2)) (.gen (.store 139 (.tmp 21) (.tmp 19)) 0 [(21, (.lf (.adr 1 (.var 0) 3 2))), (19, (.lf (tSl 3 6 7)))] ⟨[], ⟨1, 0, 0, 8, 4⟩⟩ .none ⟨[], ⟨1, 0, 0, 8, 4⟩⟩ (.again 3 ⟨[(.op .add .i64 (.var 0) (.lit 1))], [], [], [], []⟩ ⟨[], ⟨1, 0, 0, 8, 4⟩⟩)))))) (.done (.lf (tSl 1 2 3)) ⟨[], ⟨1, 0, 0, 4, 2⟩⟩)))) := by kernel_rfl
abbrev tTKeepb0 : List LV := [(tVi 0), (tVi 1), (tVi 2), (tVi 3), (tVi 4), (tVi 5), (tVi 6), (tVi 7)]
abbrev tTKeepm0 : Mem := ⟨[(43, tTKeepb0), (62, [(tVi 8), (tVi 9), (tVi 10)]), (143, [(tVi 1), (tVi 8), (tVi 9), (tVi 10)])], ⟨14, 2, 0, 10, 5⟩⟩
abbrev tTKeepm1 : Mem := ⟨[(43, tTKeepb0), (62, [(tVi 8), (tVi 9), (tVi 10)]), (143, [(tVi 1), (tVi 8), (tVi 9), (tVi 10)])], ⟨14, 2, 0, 12, 6⟩⟩
abbrev tTKeepm2 : Mem := ⟨[(43, tTKeepb0), (62, [(tVi 8), (tVi 9), (tVi 10)])], ⟨11, 0, 0, 4, 2⟩⟩
abbrev tTKeepm3 : Mem := ⟨[(43, tTKeepb0), (62, [(tVi 8), (tVi 9), (tVi 10)])], ⟨12, 1, 0, 4, 2⟩⟩
abbrev tTKeepm4 : Mem := ⟨[(43, tTKeepb0), (62, [(tVi 8), (tVi 9), (tVi 10)])], ⟨12, 1, 0, 6, 3⟩⟩
abbrev tTKeepm5 : Mem := ⟨[(43, tTKeepb0), (62, [(tVi 8), (tVi 9), (tVi 10)])], ⟨13, 2, 0, 6, 3⟩⟩
abbrev tTKeepm6 : Mem := ⟨[(43, tTKeepb0), (62, [(tVi 8), (tVi 9), (tVi 10)])], ⟨14, 2, 0, 6, 3⟩⟩
abbrev tTKeepm7 : Mem := ⟨[(43, tTKeepb0), (62, [(tVi 8), (tVi 9), (tVi 10)])], ⟨14, 2, 0, 8, 4⟩⟩
set_option maxRecDepth 100000 in
theorem tTKeep : (runF ⟨tt, fns, {cur := [1, 2, 3, 4, 5, 6, 7, 8]}⟩ (Try.f56.body.getD .skip) Try.f56.results.toList (entry Try.f56.ntmps [.lf (.sl 0 (.var 0) (.var 1)), .agg [.int .i64 (.var 0), .int .i64 (.var 1), .int .i64 (.var 2), .int .i64 (.var 3), .int .i64 (.var 4), .int .i64 (.var 5), .int .i64 (.var 6), .int .i64 (.var 7)], .agg [.int .i64 (.var 8), .int .i64 (.var 9), .int .i64 (.var 10)]] [] ⟨11, 0, 0, 2, 1⟩)) =
  (.call 54 [(.lf (tSl 0 0 1))] ⟨[(43, tTKeepb0), (62, [(tVi 8), (tVi 9), (tVi 10)])], ⟨11, 0, 0, 2, 1⟩⟩ (.lf (tSl 1 2 3)) tTKeepm2 (.call 70 [(.lf (tSl 1 2 3)), (.lf (tVi 0)), (.lf (.fnv 71 []))] tTKeepm2 (.tup [(.false, [(tVi 11)]), (.false, [(.bool (.var 0))])]) tTKeepm3 (.br (.not (.var 0)) (.done (.lf (tSl 1 2 3)) tTKeepm3) (.need (.inb 1 (.var 11) (.nat 2)) (.ld .true (.adr 1 (.var 11) 3 2) [(tSl 2 4 5)] tTKeepm3 tTKeepm4 (.call 75 [(.lf (tSl 2 4 5)), (.lf (tVi 1)), (.lf (.fnv 76 []))] tTKeepm4 (.tup [(.false, [(tVi 12)]), (.false, [(.bool (.var 1))])]) tTKeepm5 (.br (.var 1) (.done (.lf (tSl 1 2 3)) tTKeepm5) (.ld .true (.adr 1 (.var 11) 3 1) [(tVi 13)] tTKeepm5 tTKeepm6 (.br (.cmp .leq (.var 1) (.var 13)) (.done (.lf (tSl 1 2 3)) tTKeepm6) (.ld .true (.adr 1 (.var 11) 3 2) [(tSl 3 6 7)] tTKeepm6 tTKeepm7 (.br (.cmp .geq (.nat 6) (.lit 8)) (.done (.lf (tSl 1 2 3)) tTKeepm7) (.par (.ld .true (.adr 1 (.var 11) 3 2) [(tSl 4 8 9)] tTKeepm7 ⟨[(43, tTKeepb0), (62, [(tVi 8), (tVi 9), (tVi 10)])], ⟨14, 2, 0, 10, 5⟩⟩ (.call 77 [(.lf (tSl 4 8 9)), (.lf (tVi 12)), (.lf (.nsl 2 0 1 1))] tTKeepm0 (.lf (tSl 5 10 11)) tTKeepm1 (.gen (.store 139 (.tmp 68) (.tmp 66)) 0 [(68, (.lf (.adr 1 (.var 11) 3 2))), (66, (.lf (tSl 5 10 11)))] tTKeepm1 .none tTKeepm1 (.done (.lf (tSl 1 2 3)) tTKeepm1)))) (.ld .true (.adr 1 (.var 11) 3 2) [(tSl 4 8 9)] ⟨[(43, tTKeepb0), (62, [(tVi 8), (tVi 9), (tVi 10)]), (143, [(tVi 1), (tVi 8), (tVi 9), (tVi 10)])], ⟨14, 2, 0, 8, 4⟩⟩ tTKeepm0 (.call 77 [(.lf (tSl 4 8 9)), (.lf (tVi 12)), (.lf (.nsl 2 0 1 1))] tTKeepm0 (.lf (tSl 5 10 11)) tTKeepm1 (.gen (.store 139 (.tmp 68) (.tmp 66)) 0 [(68, (.lf (.adr 1 (.var 11) 3 2))), (66, (.lf (tSl 5 10 11)))] tTKeepm1 .none tTKeepm1 (.done (.lf (tSl 1 2 3)) tTKeepm1)))))))))))))))) := by kernel_rfl
abbrev tTValidm0 : Mem := ⟨[(141, [(tVi 2), (tVi 3), (tSl 1 2 3)]), (143, [(tVi 6), (tVi 7), (tVi 8), (tVi 9)])], ⟨10, 0, 0, 4, 2⟩⟩
abbrev tTValidm1 : Mem := ⟨[(141, [(tVi 2), (tVi 3), (tSl 1 2 3)])], ⟨4, 0, 0, 4, 2⟩⟩
abbrev tTValidm2 : Mem := ⟨[(141, [(tVi 2), (tVi 3), (tSl 1 2 3)])], ⟨6, 0, 0, 4, 2⟩⟩
set_option maxRecDepth 100000 in
theorem tTValid : (runF ⟨tt, fns, {loops := [(3, ⟨[(11, .int .i64), (3, .int .i64)], []⟩), (10, ⟨[(47, .int .i64), (6, .int .i64)], []⟩)]}⟩ (Try.f53.body.getD .skip) Try.f53.results.toList (entry Try.f53.ntmps [.lf (.sl 0 (.var 0) (.var 1))] [] ⟨0, 0, 0, 2, 1⟩)) =
  (.loop 3 ⟨[(.lit 0), (.lit 0)], [], [], [], []⟩ ⟨[], ⟨0, 0, 0, 2, 1⟩⟩ ⟨[], ⟨2, 0, 0, 2, 1⟩⟩ (.br (.cmp .lss (.var 0) (.nat 0)) (.need (.inb 0 (.var 0) (.nat 0)) (.ld .false (.adr 0 (.var 0) 3 0) [(tVi 2), (tVi 3), (tSl 1 2 3)] ⟨[], ⟨2, 0, 0, 2, 1⟩⟩ ⟨[], ⟨4, 0, 0, 4, 2⟩⟩ (.br (.cmp .leq (.var 2) (.var 1)) (.done (.lf (.bool (.lit .false))) tTValidm1) (.br (.cmp .gtr (.var 2) (.lit 1073741824)) (.done (.lf (.bool (.lit .false))) tTValidm1) (.br (.cmp .lss (.var 3) (.lit 0)) (.done (.lf (.bool (.lit .false))) tTValidm1) (.br (.cmp .gtr (.var 3) (.lit 1099511627776)) (.done (.lf (.bool (.lit .false))) tTValidm1) (.br (.cmp .gtr (.nat 2) (.lit 8)) (.done (.lf (.bool (.lit .false))) tTValidm1) (.loop 10 ⟨[(.lit 0), (.var 3)], [], [], [], []⟩ tTValidm1 tTValidm2 (.br (.cmp .lss (.var 4) (.nat 2)) (.need (.inb 1 (.var 4) (.nat 2)) (.ld .false (.adr 1 (.var 4) 4 0) [(tVi 6), (tVi 7), (tVi 8), (tVi 9)] tTValidm2 ⟨[(141, [(tVi 2), (tVi 3), (tSl 1 2 3)])], ⟨10, 0, 0, 4, 2⟩⟩ (.br (.cmp .leq (.var 6) (.var 5)) (.done (.lf (.bool (.lit .false))) tTValidm0) (.br (.cmp .gtr (.var 6) (.lit 1099511627776)) (.done (.lf (.bool (.lit .false))) tTValidm0) (.br (.cmp .lss (.var 7) (.lit 1)) (.done (.lf (.bool (.lit .false))) tTValidm0) (.br (.cmp .gtr (.var 7) (.lit 3)) (.done (.lf (.bool (.lit .false))) tTValidm0) (.again 10 ⟨[(.op .add .i64 (.var 4) (.lit 1)), (.var 6)], [], [], [], []⟩ tTValidm0))))))) (.again 3 ⟨[(.op .add .i64 (.var 0) (.lit 1)), (.var 2)], [], [], [], []⟩ tTValidm2)))))))))) (.done (.lf (.bool (.cmp .leq (.nat 0) (.lit 16)))) ⟨[], ⟨2, 0, 0, 2, 1⟩⟩))) := by kernel_rfl
end Go.Proofs.Ytbedoemdjlollaa

namespace Go.Proofs.Ytbedoemdjlollaa
open Go.ChangeShapes Go.WideShapes Go.ChangeAt Go.RowKit Go.Syn Go.Eng
set_option linter.unusedVariables false
set_option linter.unusedSimpArgs false
set_option maxRecDepth 100000
structure KpD where
  seq : Int
  kind : Int
  re : Int
  im : Int
def KpD.cells (k : KpD) : List Value := [.int .i64 k.seq, .int .i64 k.kind, .int .i64 k.re, .int .i64 k.im]
structure SsD where
  no : Int
  ack : Int
  kept : List KpD
structure SE where
  s : SsD
  a : Option Addr
  c : Nat
def SE.cells (e : SE) : List Value := [.int .i64 e.s.no, .int .i64 e.s.ack, .slice e.a e.s.kept.length e.c]
def kcells (l : List KpD) : List Value := l.flatMap KpD.cells
def secells (l : List SE) : List Value := l.flatMap SE.cells
theorem kp_len (k : KpD) : k.cells.length = 4 := rfl
theorem se_len (e : SE) : e.cells.length = 3 := rfl
theorem kp_one (l : List KpD) : ∀ v ∈ kcells l, v.oneCell' = true := fun v hv => by
  obtain ⟨k, _, h⟩ := List.mem_flatMap.1 hv
  simp only [KpD.cells, List.mem_cons, List.not_mem_nil, or_false] at h
  rcases h with rfl | rfl | rfl | rfl <;> rfl
theorem se_one (l : List SE) : ∀ v ∈ secells l, v.oneCell' = true := fun v hv => by
  obtain ⟨k, _, h⟩ := List.mem_flatMap.1 hv
  simp only [SE.cells, List.mem_cons, List.not_mem_nil, or_false] at h
  rcases h with rfl | rfl | rfl <;> rfl
theorem kcells_len (l : List KpD) : (kcells l).length = l.length * 4 := flat_len kp_len l
theorem secells_len (l : List SE) : (secells l).length = l.length * 3 := flat_len se_len l
theorem info_kp : (Try.prog.info? 143).map (fun i => (i.zero, i.size, i.bytes)) = some (some (.agg #[.int .i64 0, .int .i64 0, .int .i64 0, .int .i64 0]), 4, 32) := by kernel_rfl
theorem info_se : (Try.prog.info? 141).map (fun i => (i.zero, i.size, i.bytes)) = some (some (.agg #[.int .i64 0, .int .i64 0, .slice none 0 0]), 3, 40) := by kernel_rfl
def cmpI (x y : Int) : Int := if x < y then -1 else if x > y then 1 else 0
theorem nan_any (x : Int) (w : World) : Calls Try.prog 94 #[.int .i64 x] w (PureAt w (.bool false)) := by
  refine calls_at (tab_ok _) Try.func94 rfl tNaN (ρ := ⟨[x], [], [], [], []⟩) (ids := []) rfl (Facts.initP rfl oneNil) (pure_done fun ids => ?_)
  show Value.bool (x != x) = _
  simp
theorem cmpS_any (x y : Int) (w : World) : Calls Try.prog 84 #[.int .i64 x, .int .i64 y] w (PureAt w (.int .i64 (cmpI x y))) := by
  refine calls_at (tab_ok _) Try.func84 rfl tCmp (ρ := ⟨[x, y], [], [], [], []⟩) (ids := []) rfl (Facts.initP rfl oneNil) ?_
  refine node_P ⟨[], [false], [], [], []⟩ #[.int .i64 x] (.bool false) (by intros; kernel_rfl) (by intros; kernel_rfl) (by intros; kernel_rfl) (by intros; kernel_rfl) (by intros; kernel_rfl) oneNil (fun ids w2 hp hf => nan_any x w2) ?_
  refine node_P ⟨[], [false], [], [], []⟩ #[.int .i64 y] (.bool false) (by intros; kernel_rfl) (by intros; kernel_rfl) (by intros; kernel_rfl) (by intros; kernel_rfl) (by intros; kernel_rfl) oneNil (fun ids w2 hp hf => nan_any y w2) ?_
  refine br_f (by kernel_rfl) (br_f (by kernel_rfl) ?_)
  unfold cmpI
  by_cases h1 : x < y
  · rw [if_pos h1]
    exact br_T (decide (x < y)) (by kernel_rfl) (decide_eq_true h1) (pure_done (by intros; kernel_rfl))
  · rw [if_neg h1]
    refine br_F (decide (x < y)) (by kernel_rfl) (decide_eq_false h1) ?_
    by_cases h2 : x > y
    · rw [if_pos h2]
      exact br_T (decide (x > y)) (by kernel_rfl) (decide_eq_true h2) (pure_done (by intros; kernel_rfl))
    · rw [if_neg h2]
      exact br_F (decide (x > y)) (by kernel_rfl) (decide_eq_false h2) (pure_done (by intros; kernel_rfl))
theorem byno_any (e : SE) (t : Int) (w : World) : Calls Try.prog 71 #[.agg e.cells.toArray, .int .i64 t] w (PureAt w (.int .i64 (cmpI e.s.no t))) := by
  refine calls_at (tab_ok _) Try.func71 rfl tByNo (ρ := ⟨[e.s.no, e.s.ack, t], [], [], [e.s.kept.length, e.c], [e.a]⟩) (ids := []) rfl (Facts.initP rfl oneNil) ?_
  exact node_P ⟨[cmpI e.s.no t], [], [], [], []⟩ #[.int .i64 e.s.no, .int .i64 t] (.int .i64 (cmpI e.s.no t)) (by intros; kernel_rfl) (by intros; kernel_rfl) (by intros; kernel_rfl) (by intros; kernel_rfl) (by intros; kernel_rfl) oneNil (fun ids w2 hp hf => cmpS_any _ _ w2) (pure_done (by intros; kernel_rfl))
theorem byseq_any (k : KpD) (t : Int) (w : World) : Calls Try.prog 76 #[.agg k.cells.toArray, .int .i64 t] w (PureAt w (.int .i64 (cmpI k.seq t))) := by
  refine calls_at (tab_ok _) Try.func76 rfl tBySeq (ρ := ⟨[k.seq, k.kind, k.re, k.im, t], [], [], [], []⟩) (ids := []) rfl (Facts.initP rfl oneNil) ?_
  exact node_P ⟨[cmpI k.seq t], [], [], [], []⟩ #[.int .i64 k.seq, .int .i64 t] (.int .i64 (cmpI k.seq t)) (by intros; kernel_rfl) (by intros; kernel_rfl) (by intros; kernel_rfl) (by intros; kernel_rfl) (by intros; kernel_rfl) oneNil (fun ids w2 hp hf => cmpS_any _ _ w2) (pure_done (by intros; kernel_rfl))
def hitI (ks : List Int) (t : Int) : Bool := decide (ks[posI ks t]? = some t)
def BsI (ks : List Int) (t : Int) (vs : Vals) (hx : HX) : Prop := ∃ i j : Nat, i ≤ j ∧ j ≤ ks.length ∧ (∀ (x : Nat) (k : Int), x < i → ks[x]? = some k → k < t) ∧ (∀ (x : Nat) (k : Int), j ≤ x → ks[x]? = some k → t ≤ k) ∧ vs = ⟨[(i : Int), (j : Int)], [], [], [], []⟩ ∧ hx = HX.nil
theorem bst_any (a : Option Addr) (cap : Nat) (es : List SE) (t : Int) (w : World) (H : Cells w a (secells es)) (hr : Rise (es.map fun e => e.s.no)) (hl : es.length ≤ 1000000) :
    Calls Try.prog 70 #[.slice a es.length cap, .int .i64 t, .func (.func 71) #[] #[]] w (PureAt w (.tuple #[.int .i64 (posI (es.map fun e => e.s.no) t : Int), .bool (hitI (es.map fun e => e.s.no) t)])) := by
  refine calls_at (tab_ok _) Try.func70 rfl tBsT (ρ := ⟨[t], [], [], [es.length, cap], [a]⟩) (ids := []) (hx := HX.nil) rfl (Facts.initP rfl oneNil) ?_
  obtain ⟨ks, eks⟩ : ∃ k, k = es.map fun e => e.s.no := ⟨_, rfl⟩
  rw [← eks] at hr ⊢
  have hkl : ks.length = es.length := by rw [eks, List.length_map]
  have hkg : ∀ {x : Nat} {e : SE}, es[x]? = some e → ks[x]? = some (e.s.no) := fun h => by rw [eks, List.getElem?_map, h]; rfl
  refine loop_i (BsI ks t) (fun vs => ((vs.i.getD 1 0) - (vs.i.getD 0 0)).toNat) (fun ids w2 hp hf => ⟨HX.nil, HXok.none _ _, 0, es.length, Nat.zero_le _, by omega, fun x k h => absurd h (Nat.not_lt_zero _), (fun x k h h2 => by rw [List.getElem?_eq_none (by omega)] at h2; cases h2), rfl, rfl⟩) ?_
  rintro vs hx' hcnt ⟨i, j, hij, hj, h1, h2, rfl, rfl⟩
  by_cases hlt : i < j
  · refine br_T (decide ((i : Int) < (j : Int))) (by kernel_rfl) (decide_eq_true (by omega)) ?_
    obtain ⟨h, eh⟩ : ∃ h : Nat, h = (i + j) / 2 := ⟨_, rfl⟩
    have hv : IntKind.i64.wrap (ifn .shr .u64 (IntKind.u64.wrap (IntKind.i64.wrap ((i : Int) + (j : Int)))) 1) = (h : Int) := by rw [eh]; exact half_i64 (by omega)
    have hb : i ≤ h ∧ h < j := by omega
    obtain ⟨e, he⟩ : ∃ e, es[h]? = some e := ⟨_, List.getElem?_eq_getElem (by omega)⟩
    have hk := hkg he
    obtain ⟨s1, q1⟩ := flat_part se_len H he (o := 0) e.cells (fun j u hj => by rw [Nat.zero_add]; exact hj) (by simp [SE.cells])
    refine need_k (a.isSome = true ∧ 0 ≤ IntKind.i64.wrap (ifn .shr .u64 (IntKind.u64.wrap (IntKind.i64.wrap ((i : Int) + (j : Int)))) 1) ∧ IntKind.i64.wrap (ifn .shr .u64 (IntKind.u64.wrap (IntKind.i64.wrap ((i : Int) + (j : Int)))) 1) < (es.length : Int)) (by kernel_rfl) ⟨s1, by rw [hv]; omega, by rw [hv]; omega⟩ ?_
    refine node_ld0 (k := ⟨3, 0, 0, 2, 1⟩) ⟨[e.s.no, e.s.ack], [], [], [e.s.kept.length, e.c], [e.a]⟩ (.pointer (some (((a.getD ⟨0, 0, none⟩).add ((IntKind.i64.wrap (ifn .shr .u64 (IntKind.u64.wrap (IntKind.i64.wrap ((i : Int) + (j : Int)))) 1)).toNat * 3)).add 0))) e.cells (by intros; kernel_rfl) (by intros; kernel_rfl) (by rw [hv]; exact q1 _ (fun q => q)) ⟨rfl, oneNil⟩ (by kernel_rfl) oneNil ?_
    refine node_P ⟨[cmpI (e.s.no) t], [], [], [], []⟩ #[.agg e.cells.toArray, .int .i64 t] (.int .i64 (cmpI (e.s.no) t)) (by intros; kernel_rfl) (by intros; kernel_rfl) (by intros; kernel_rfl) (by intros; kernel_rfl) (by intros; kernel_rfl) oneNil (fun ids w2 hp hf => byno_any e t w2) ?_
    by_cases hc : e.s.no < t
    · refine br_T (decide (cmpI (e.s.no) t < 0)) (by kernel_rfl) (decide_eq_true (by unfold cmpI; rw [if_pos hc]; decide)) ?_
      refine again_V ⟨[((h + 1 : Nat) : Int), (j : Int)], [], [], [], []⟩ rfl (fun ids => Eq.trans (b := ⟨[IntKind.i64.wrap (IntKind.i64.wrap (ifn .shr .u64 (IntKind.u64.wrap (IntKind.i64.wrap ((i : Int) + (j : Int)))) 1) + 1), (j : Int)], [], [], [], []⟩) (by kernel_rfl) (by rw [hv, wrap_i64 (by omega)]; rfl)) HX.nil (fun w2 ids hf => HXok.none _ _) ⟨⟨h + 1, j, by omega, hj, fun x k hx hk2 => ?_, h2, rfl, rfl⟩, ?_⟩
      · rcases Nat.lt_or_ge x h with q | q
        · exact Int.lt_trans (hr x h k _ q hk2 hk) hc
        · have : x = h := by omega
          subst this; rw [hk] at hk2; cases hk2; exact hc
      · show ((j : Int) - ((h + 1 : Nat) : Int)).toNat < ((j : Int) - (i : Int)).toNat
        omega
    · refine br_F (decide (cmpI (e.s.no) t < 0)) (by kernel_rfl) (decide_eq_false (by unfold cmpI; rw [if_neg hc]; split <;> decide)) ?_
      refine again_V ⟨[(i : Int), (h : Int)], [], [], [], []⟩ rfl (fun ids => Eq.trans (b := ⟨[(i : Int), IntKind.i64.wrap (ifn .shr .u64 (IntKind.u64.wrap (IntKind.i64.wrap ((i : Int) + (j : Int)))) 1)], [], [], [], []⟩) (by kernel_rfl) (by rw [hv])) HX.nil (fun w2 ids hf => HXok.none _ _) ⟨⟨i, h, hb.1, by omega, h1, fun x k hx hk2 => ?_, rfl, rfl⟩, ?_⟩
      · rcases Nat.lt_or_ge h x with q | q
        · have := hr h x _ k q hk hk2
          omega
        · have : x = h := by omega
          subst this; rw [hk] at hk2; cases hk2; omega
      · show ((h : Int) - (i : Int)).toNat < ((j : Int) - (i : Int)).toNat
        omega
  · refine br_F (decide ((i : Int) < (j : Int))) (by kernel_rfl) (decide_eq_false (by omega)) ?_
    obtain rfl : i = j := by omega
    have hpos : posI ks t = i := posI_of hj h1 h2
    unfold hitI
    rw [hpos]
    by_cases hn : i < es.length
    · refine br_T (decide ((i : Int) < (es.length : Int))) (by kernel_rfl) (decide_eq_true (by omega)) ?_
      obtain ⟨e, he⟩ : ∃ e, es[i]? = some e := ⟨_, List.getElem?_eq_getElem hn⟩
      have hk := hkg he
      obtain ⟨s1, q1⟩ := flat_part se_len H he (o := 0) e.cells (fun j u hj => by rw [Nat.zero_add]; exact hj) (by simp [SE.cells])
      refine need_k (a.isSome = true ∧ 0 ≤ (i : Int) ∧ (i : Int) < (es.length : Int)) (by kernel_rfl) ⟨s1, by omega, by omega⟩ ?_
      refine node_ld0 (k := ⟨3, 0, 0, 2, 1⟩) ⟨[e.s.no, e.s.ack], [], [], [e.s.kept.length, e.c], [e.a]⟩ (.pointer (some (((a.getD ⟨0, 0, none⟩).add (i * 3)).add 0))) e.cells (by intros; kernel_rfl) (by intros; kernel_rfl) (q1 _ (fun q => q)) ⟨rfl, oneNil⟩ (by kernel_rfl) oneNil ?_
      refine node_P ⟨[cmpI (e.s.no) t], [], [], [], []⟩ #[.agg e.cells.toArray, .int .i64 t] (.int .i64 (cmpI (e.s.no) t)) (by intros; kernel_rfl) (by intros; kernel_rfl) (by intros; kernel_rfl) (by intros; kernel_rfl) (by intros; kernel_rfl) oneNil (fun ids w2 hp hf => byno_any e t w2) ?_
      have hd : decide (ks[i]? = some t) = (cmpI (e.s.no) t == 0) := by
        rw [hk]
        unfold cmpI
        by_cases q1 : e.s.no < t
        · rw [if_pos q1]; exact decide_eq_false (fun q => by cases q; omega)
        · rw [if_neg q1]
          by_cases q2 : e.s.no > t
          · rw [if_pos q2]; exact decide_eq_false (fun q => by cases q; omega)
          · rw [if_neg q2]; exact decide_eq_true (congrArg some (by omega))
      rw [hd]
      exact pure_done (by intros; kernel_rfl)
    · refine br_F (decide ((i : Int) < (es.length : Int))) (by kernel_rfl) (decide_eq_false (by omega)) ?_
      rw [List.getElem?_eq_none (by omega), decide_eq_false (by simp)]
      exact pure_done (by intros; kernel_rfl)
theorem bsk_any (a : Option Addr) (cap : Nat) (es : List KpD) (t : Int) (w : World) (H : Cells w a (kcells es)) (hr : Rise (es.map fun e => e.seq)) (hl : es.length ≤ 1000000) :
    Calls Try.prog 75 #[.slice a es.length cap, .int .i64 t, .func (.func 76) #[] #[]] w (PureAt w (.tuple #[.int .i64 (posI (es.map fun e => e.seq) t : Int), .bool (hitI (es.map fun e => e.seq) t)])) := by
  refine calls_at (tab_ok _) Try.func75 rfl tBsK (ρ := ⟨[t], [], [], [es.length, cap], [a]⟩) (ids := []) (hx := HX.nil) rfl (Facts.initP rfl oneNil) ?_
  obtain ⟨ks, eks⟩ : ∃ k, k = es.map fun e => e.seq := ⟨_, rfl⟩
  rw [← eks] at hr ⊢
  have hkl : ks.length = es.length := by rw [eks, List.length_map]
  have hkg : ∀ {x : Nat} {e : KpD}, es[x]? = some e → ks[x]? = some (e.seq) := fun h => by rw [eks, List.getElem?_map, h]; rfl
  refine loop_i (BsI ks t) (fun vs => ((vs.i.getD 1 0) - (vs.i.getD 0 0)).toNat) (fun ids w2 hp hf => ⟨HX.nil, HXok.none _ _, 0, es.length, Nat.zero_le _, by omega, fun x k h => absurd h (Nat.not_lt_zero _), (fun x k h h2 => by rw [List.getElem?_eq_none (by omega)] at h2; cases h2), rfl, rfl⟩) ?_
  rintro vs hx' hcnt ⟨i, j, hij, hj, h1, h2, rfl, rfl⟩
  by_cases hlt : i < j
  · refine br_T (decide ((i : Int) < (j : Int))) (by kernel_rfl) (decide_eq_true (by omega)) ?_
    obtain ⟨h, eh⟩ : ∃ h : Nat, h = (i + j) / 2 := ⟨_, rfl⟩
    have hv : IntKind.i64.wrap (ifn .shr .u64 (IntKind.u64.wrap (IntKind.i64.wrap ((i : Int) + (j : Int)))) 1) = (h : Int) := by rw [eh]; exact half_i64 (by omega)
    have hb : i ≤ h ∧ h < j := by omega
    obtain ⟨e, he⟩ : ∃ e, es[h]? = some e := ⟨_, List.getElem?_eq_getElem (by omega)⟩
    have hk := hkg he
    obtain ⟨s1, q1⟩ := flat_part kp_len H he (o := 0) e.cells (fun j u hj => by rw [Nat.zero_add]; exact hj) (by simp [KpD.cells])
    refine need_k (a.isSome = true ∧ 0 ≤ IntKind.i64.wrap (ifn .shr .u64 (IntKind.u64.wrap (IntKind.i64.wrap ((i : Int) + (j : Int)))) 1) ∧ IntKind.i64.wrap (ifn .shr .u64 (IntKind.u64.wrap (IntKind.i64.wrap ((i : Int) + (j : Int)))) 1) < (es.length : Int)) (by kernel_rfl) ⟨s1, by rw [hv]; omega, by rw [hv]; omega⟩ ?_
    refine node_ld0 (k := ⟨3, 0, 0, 2, 1⟩) ⟨[e.seq, e.kind, e.re, e.im], [], [], [], []⟩ (.pointer (some (((a.getD ⟨0, 0, none⟩).add ((IntKind.i64.wrap (ifn .shr .u64 (IntKind.u64.wrap (IntKind.i64.wrap ((i : Int) + (j : Int)))) 1)).toNat * 4)).add 0))) e.cells (by intros; kernel_rfl) (by intros; kernel_rfl) (by rw [hv]; exact q1 _ (fun q => q)) ⟨rfl, oneNil⟩ (by kernel_rfl) oneNil ?_
    refine node_P ⟨[cmpI (e.seq) t], [], [], [], []⟩ #[.agg e.cells.toArray, .int .i64 t] (.int .i64 (cmpI (e.seq) t)) (by intros; kernel_rfl) (by intros; kernel_rfl) (by intros; kernel_rfl) (by intros; kernel_rfl) (by intros; kernel_rfl) oneNil (fun ids w2 hp hf => byseq_any e t w2) ?_
    by_cases hc : e.seq < t
    · refine br_T (decide (cmpI (e.seq) t < 0)) (by kernel_rfl) (decide_eq_true (by unfold cmpI; rw [if_pos hc]; decide)) ?_
      refine again_V ⟨[((h + 1 : Nat) : Int), (j : Int)], [], [], [], []⟩ rfl (fun ids => Eq.trans (b := ⟨[IntKind.i64.wrap (IntKind.i64.wrap (ifn .shr .u64 (IntKind.u64.wrap (IntKind.i64.wrap ((i : Int) + (j : Int)))) 1) + 1), (j : Int)], [], [], [], []⟩) (by kernel_rfl) (by rw [hv, wrap_i64 (by omega)]; rfl)) HX.nil (fun w2 ids hf => HXok.none _ _) ⟨⟨h + 1, j, by omega, hj, fun x k hx hk2 => ?_, h2, rfl, rfl⟩, ?_⟩
      · rcases Nat.lt_or_ge x h with q | q
        · exact Int.lt_trans (hr x h k _ q hk2 hk) hc
        · have : x = h := by omega
          subst this; rw [hk] at hk2; cases hk2; exact hc
      · show ((j : Int) - ((h + 1 : Nat) : Int)).toNat < ((j : Int) - (i : Int)).toNat
        omega
    · refine br_F (decide (cmpI (e.seq) t < 0)) (by kernel_rfl) (decide_eq_false (by unfold cmpI; rw [if_neg hc]; split <;> decide)) ?_
      refine again_V ⟨[(i : Int), (h : Int)], [], [], [], []⟩ rfl (fun ids => Eq.trans (b := ⟨[(i : Int), IntKind.i64.wrap (ifn .shr .u64 (IntKind.u64.wrap (IntKind.i64.wrap ((i : Int) + (j : Int)))) 1)], [], [], [], []⟩) (by kernel_rfl) (by rw [hv])) HX.nil (fun w2 ids hf => HXok.none _ _) ⟨⟨i, h, hb.1, by omega, h1, fun x k hx hk2 => ?_, rfl, rfl⟩, ?_⟩
      · rcases Nat.lt_or_ge h x with q | q
        · have := hr h x _ k q hk hk2
          omega
        · have : x = h := by omega
          subst this; rw [hk] at hk2; cases hk2; omega
      · show ((h : Int) - (i : Int)).toNat < ((j : Int) - (i : Int)).toNat
        omega
  · refine br_F (decide ((i : Int) < (j : Int))) (by kernel_rfl) (decide_eq_false (by omega)) ?_
    obtain rfl : i = j := by omega
    have hpos : posI ks t = i := posI_of hj h1 h2
    unfold hitI
    rw [hpos]
    by_cases hn : i < es.length
    · refine br_T (decide ((i : Int) < (es.length : Int))) (by kernel_rfl) (decide_eq_true (by omega)) ?_
      obtain ⟨e, he⟩ : ∃ e, es[i]? = some e := ⟨_, List.getElem?_eq_getElem hn⟩
      have hk := hkg he
      obtain ⟨s1, q1⟩ := flat_part kp_len H he (o := 0) e.cells (fun j u hj => by rw [Nat.zero_add]; exact hj) (by simp [KpD.cells])
      refine need_k (a.isSome = true ∧ 0 ≤ (i : Int) ∧ (i : Int) < (es.length : Int)) (by kernel_rfl) ⟨s1, by omega, by omega⟩ ?_
      refine node_ld0 (k := ⟨3, 0, 0, 2, 1⟩) ⟨[e.seq, e.kind, e.re, e.im], [], [], [], []⟩ (.pointer (some (((a.getD ⟨0, 0, none⟩).add (i * 4)).add 0))) e.cells (by intros; kernel_rfl) (by intros; kernel_rfl) (q1 _ (fun q => q)) ⟨rfl, oneNil⟩ (by kernel_rfl) oneNil ?_
      refine node_P ⟨[cmpI (e.seq) t], [], [], [], []⟩ #[.agg e.cells.toArray, .int .i64 t] (.int .i64 (cmpI (e.seq) t)) (by intros; kernel_rfl) (by intros; kernel_rfl) (by intros; kernel_rfl) (by intros; kernel_rfl) (by intros; kernel_rfl) oneNil (fun ids w2 hp hf => byseq_any e t w2) ?_
      have hd : decide (ks[i]? = some t) = (cmpI (e.seq) t == 0) := by
        rw [hk]
        unfold cmpI
        by_cases q1 : e.seq < t
        · rw [if_pos q1]; exact decide_eq_false (fun q => by cases q; omega)
        · rw [if_neg q1]
          by_cases q2 : e.seq > t
          · rw [if_pos q2]; exact decide_eq_false (fun q => by cases q; omega)
          · rw [if_neg q2]; exact decide_eq_true (congrArg some (by omega))
      rw [hd]
      exact pure_done (by intros; kernel_rfl)
    · refine br_F (decide ((i : Int) < (es.length : Int))) (by kernel_rfl) (decide_eq_false (by omega)) ?_
      rw [List.getElem?_eq_none (by omega), decide_eq_false (by simp)]
      exact pure_done (by intros; kernel_rfl)
theorem clk_any (a : Option Addr) (cap : Nat) (l : List KpD) (w : World) (H : Cells w a (kcells l)) (hl : l.length ≤ 1000000) : Calls Try.prog 69 #[.slice a l.length cap] w (RwNew w id 4 143 l.length (kcells l)) := by
  refine calls_at (tab_ok _) Try.func69 rfl tClK (ρ := ⟨[], [], [], [l.length, cap], [a]⟩) (ids := []) (hx := HX.cl a (kcells l)) rfl (Facts.initq rfl oneNil H (cl_sep H)) ?_
  by_cases h : a.isNone = true
  · refine br_T a.isNone (by kernel_rfl) h ?_
    obtain rfl : a = none := by simpa using h
    have e : l = [] := by
      cases l with
      | nil => rfl
      | cons x r => exact absurd (H (by rw [kcells_len, List.length_cons]; omega)).1 (by simp [PlainA])
    subst e
    intro ids w2 hp hf
    exact ⟨none, 0, rfl, HX.rw_nil _ _ _ _, fun k q => absurd rfl q, hf.chg.below⟩
  · refine br_F a.isNone (by kernel_rfl) (by cases a with | none => exact absurd rfl h | some x => rfl) ?_
    refine node_clones (sz := 4) (xs := kcells l) rfl Try.underlying139 info_kp rfl (by decide) 0 rfl (fun _ => a) l.length cap (kcells_len _) (fun ids w2 hp hf => hf.x) (kp_one l) (by unfold maxLen; omega) (by omega) (by intros; kernel_rfl) (by intros; kernel_rfl) (by intros; kernel_rfl) (by kernel_rfl) (by kernel_rfl) (by intros; kernel_rfl) ?_
    intro a' c' hfr ids w2 hp hf
    exact ⟨a', c', by kernel_rfl, hf.x.2, fun k h1 h2 => (hfr k h1 h2).1, hf.chg.below⟩
theorem clt_any (a : Option Addr) (cap : Nat) (es : List SE) (w : World) (H : Cells w a (secells es)) (hl : es.length ≤ 1000000) : Calls Try.prog 68 #[.slice a es.length cap] w (RwNew w id 3 141 es.length (secells es)) := by
  refine calls_at (tab_ok _) Try.func68 rfl tClT (ρ := ⟨[], [], [], [es.length, cap], [a]⟩) (ids := []) (hx := HX.cl a (secells es)) rfl (Facts.initq rfl oneNil H (cl_sep H)) ?_
  by_cases h : a.isNone = true
  · refine br_T a.isNone (by kernel_rfl) h ?_
    obtain rfl : a = none := by simpa using h
    have e : es = [] := by
      cases es with
      | nil => rfl
      | cons x r => exact absurd (H (by rw [secells_len, List.length_cons]; omega)).1 (by simp [PlainA])
    subst e
    intro ids w2 hp hf
    exact ⟨none, 0, rfl, HX.rw_nil _ _ _ _, fun k q => absurd rfl q, hf.chg.below⟩
  · refine br_F a.isNone (by kernel_rfl) (by cases a with | none => exact absurd rfl h | some x => rfl) ?_
    refine node_clones (sz := 3) (xs := secells es) rfl Try.underlying123 info_se rfl (by decide) 0 rfl (fun _ => a) es.length cap (secells_len _) (fun ids w2 hp hf => hf.x) (se_one es) (by unfold maxLen; omega) (by omega) (by intros; kernel_rfl) (by intros; kernel_rfl) (by intros; kernel_rfl) (by kernel_rfl) (by kernel_rfl) (by intros; kernel_rfl) ?_
    intro a' c' hfr ids w2 hp hf
    exact ⟨a', c', by kernel_rfl, hf.x.2, fun k h1 h2 => (hfr k h1 h2).1, hf.chg.below⟩
end Go.Proofs.Ytbedoemdjlollaa
