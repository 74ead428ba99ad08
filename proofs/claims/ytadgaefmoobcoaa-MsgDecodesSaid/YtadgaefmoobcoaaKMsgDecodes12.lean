/- Part 12 of the texts of a proof about the given program: what the statement's proof needs of them. -/
import Derived.Laws.BytesArg
import GoSem.Extern.Table
import Derived.Laws.Cover3
import Derived.KernelRfl
import Derived.Test.YtadgaefmoobcoaaKMsgDecodes11
namespace Go.Eng
open Go.RowKit Go.Syn Go.MapKept
set_option linter.unusedVariables false
set_option linter.unusedSimpArgs false
section
variable {C : Cfg} {ρ : Env} {pre : List Nat} {hx hx' rest : HX} {L : Stack} {m m' : Mem} {ty : Nat} {ps : List (Nat × SV)} {t : Tree}
theorem node_appends {st e : TypeId} {so xo : Operand} {ac : Go.Call} {r : SV} {z : Value} {sz bytes : Nat} (hac : ac = { callee := .builtin .append, args := #[so, xo], argTypes := #[st, st] }) (ht : C.P.underlying st = some (.slice e)) (hinfo : (C.P.info? e).map (fun i => (i.zero, i.size, i.bytes)) = some (some z, sz, bytes)) (hz : z.cells.size = sz) (hsz : 0 < sz)
    (a : Option Addr) (n cap : Nat) (xs : List Value) (sa : List Nat → Option Addr) (n2 cap2 : Nat) (ys : List Value) (hlen : ys.length = n2 * sz) (hxs : ∀ ids w, pre <+: ids → Facts C m ρ ids hx w → (HX.rw sz e a n cap xs).X w) (hys : ∀ ids w, pre <+: ids → Facts C m ρ ids hx w → Cells w (sa ids) ys) (h1 : ∀ u ∈ ys, u.oneCell' = true)
    (hrest : ∀ w, hx.X w → rest.X w ∧ ∀ k, rest.F k → hx.F k) (hrow : ∀ k, cap ≠ 0 → abk a = some k → hx.F k) (hdis : ∀ k, cap ≠ 0 → abk a = some k → ¬ rest.F k) (hM : ∀ k, cap ≠ 0 → abk a = some k → C.W.heap.size ≤ k ∨ C.M k)
    (h63 : n + n2 ≤ maxLen) (hbytes : (n + n2) * bytes ≤ 140737488355328) (hso : ∀ ids, envOf ρ ids ps so = .slice a n cap) (hxo : ∀ ids, pre <+: ids → envOf ρ ids ps xo = .slice (sa ids) n2 cap2)
    (hr : ∀ a' cap' ids, r.den (ρ.add ⟨[], [], [], [n + n2, cap'], [a']⟩) ids = .slice a' (n + n2) cap') (hhp : m'.hp = m.hp) (hfit : hpFits m.c m.hp.length m.hp = true) (hc : ∀ a' cap', (ρ.add ⟨[], [], [], [n + n2, cap'], [a']⟩).cnt = m'.c)
    (h : ∀ a' cap', (n2 = 0 → a' = a ∧ cap' = cap) → (∀ k, cap' ≠ 0 → abk a' = some k → ¬ rest.F k) → (∀ k, cap' ≠ 0 → abk a' = some k → (cap ≠ 0 ∧ abk a = some k) ∨ (C.W.heap.size ≤ k ∧ ¬ hx.F k)) → t.holds C (ρ.add ⟨[], [], [], [n + n2, cap'], [a']⟩) pre (rest.and (HX.rw sz e a' (n + n2) cap' (xs ++ ys))) L) :
    (Tree.gen (.call ac) ty ps m (some r) m' t).holds C ρ pre hx L := by
  intro ids w hp hf
  subst hac
  unfold GenRun
  obtain ⟨i0, hi, hz0, hz1, hz2⟩ := info_parts hinfo
  have hrw := hxs ids w hp hf
  have hcs := hys ids w hp hf
  rcases Nat.eq_zero_or_pos n2 with h0 | h0
  · subst h0
    have hye : ys = [] := List.eq_nil_of_length_eq_zero (by rw [hlen]; simp)
    subst hye
    have hle := rw_le hrw
    have hrun : (Builtin.append_ #[st, st] ty #[.slice a n cap, .slice (sa ids) 0 cap2]).run C.P w = .ok (.slice a n cap) w := by
      have e0 : n + 0 ≤ cap := by omega
      cases a <;> cases sa ids <;> simp [Builtin.append_, run_underlying ht, sizeOf, typeInfo, hi, Builtin.lenOf, Builtin.firstCells, storeCells, loadCells, loadCellsFrom, hle.1]
    simp only [execOp, resolve, invoke, builtin, hso, hxo ids hp, Sem.run_bind, Sem.run_pure, Result.andThen_ok, List.map_toArray, List.map_cons, List.map_nil, hrun]
    refine ⟨⟨[], [], [], [n + 0, cap], [a]⟩, ids, rest.and (HX.rw sz e a (n + 0) cap (xs ++ [])), ?_, List.prefix_refl _, hf.turn (hx' := rest.and (HX.rw sz e a (n + 0) cap (xs ++ []))) (grown_none w) (fun b e => by cases e) ⟨(hrest w hf.x).1, by rw [List.append_nil]; exact hrw⟩ (fun k hk => ?_) hhp hfit (hc _ _) oneNil, holds_pre t hp (h a cap (fun _ => ⟨rfl, rfl⟩) (fun k h1 h2 => hdis k h1 h2) (fun k h1 h2 => .inl ⟨h1, h2⟩))⟩
    · rw [Option.map_some, hr]; rfl
    · rcases hk with hk | hk
      · exact .inl ((hrest w hf.x).2 k hk)
      · exact .inl (hrow k hk.1 hk.2)
  · have hpos : 0 < ys.length := by rw [hlen]; exact Nat.mul_pos h0 hsz
    obtain ⟨ha, hab, hcc⟩ := hcs hpos
    obtain ⟨ad, had⟩ : ∃ ad, sa ids = some ad := by
      cases hs : sa ids with
      | none => rw [hs] at ha; simp [PlainA] at ha
      | some ad => exact ⟨ad, rfl⟩
    rw [had] at ha hcc
    have hnews : ∀ j u, ys[j]? = some u → w.cell? (ad.add j) = some u := fun j u hj => by
      have e : ad = ⟨blk (some ad), ofs (some ad), none⟩ := Option.some.inj ha
      rw [e, Go.WideShapes.add_plain]; exact hcc j u hj
    obtain ⟨a', cap', w', hrun, hc0, hrow', hg, hblk⟩ := run_rw (P := C.P) w st ty e i0 z sz bytes ht hi hz0 hz1 hz2 hz hsz a n cap xs hrw ad n2 cap2 ys h0 hlen hnews h1 h63 hbytes
    have hlt : ∀ k, abk a' = some k → k < w'.heap.size := fun k hk => by
      obtain ⟨g, _, rfl, q, _⟩ := rw_open hrow' hc0
      cases hk; exact q
    have hrow1 : ∀ b, (if cap = 0 then none else abk a) = some b → cap ≠ 0 ∧ abk a = some b := fun b hb => by
      by_cases q : cap = 0
      · rw [if_pos q] at hb; cases hb
      · rw [if_neg q] at hb; exact ⟨q, hb⟩
    have hwhere : ∀ k, abk a' = some k → (cap ≠ 0 ∧ abk a = some k) ∨ w.heap.size ≤ k := fun k hk => by
      rcases hblk with ⟨q, q1⟩ | ⟨g, q1, q2⟩
      · exact .inl ⟨q, by rw [← q1]; exact hk⟩
      · rw [q1] at hk; cases hk; exact .inr q2
    have hnF : ∀ k, w.heap.size ≤ k → ¬ hx.F k := fun k hk hF => by have := (hf.sep _ hF).1; omega
    simp only [execOp, resolve, invoke, builtin, hso, hxo ids hp, had, Sem.run_bind, Sem.run_pure, Result.andThen_ok, List.map_toArray, List.map_cons, List.map_nil, hrun]
    refine ⟨⟨[], [], [], [n + n2, cap'], [a']⟩, ids, rest.and (HX.rw sz e a' (n + n2) cap' (xs ++ ys)), ?_, List.prefix_refl _, hf.turn (hx' := rest.and (HX.rw sz e a' (n + n2) cap' (xs ++ ys))) hg (fun b e => ?_) ⟨?_, hrow'⟩ (fun k hk => ?_) hhp hfit (hc _ _) oneNil, holds_pre t hp (h a' cap' (fun q => by omega) (fun k _ hk hF => ?_) (fun k _ hk => ?_))⟩
    · simp only [Option.map_some, hr]
    · exact ⟨hrow _ (hrow1 b e).1 (hrow1 b e).2, hM b (hrow1 b e).1 (hrow1 b e).2⟩
    · refine rest.loc w w' (hrest w hf.x).1 fun k hk => hg.block k (hf.sep k ((hrest w hf.x).2 k hk)).1 fun q => ?_
      obtain ⟨q1, q2⟩ := hrow1 k q.symm
      exact hdis k q1 q2 hk
    · rcases hk with hk | hk
      · exact .inl ((hrest w hf.x).2 k hk)
      · rcases hwhere k hk.2 with q | q
        · exact .inl (hrow k q.1 q.2)
        · exact .inr ⟨q, hlt k hk.2⟩
    · rcases hwhere k hk with q | q
      · exact hdis k q.1 q.2 hF
      · exact hnF k q ((hrest w hf.x).2 k hF)
    · rcases hwhere k hk with q | q
      · exact .inl q
      · exact .inr ⟨Nat.le_trans hf.chg.size q, hnF k q⟩
def sliA (a : Option Addr) (lo cap sz : Nat) : Option Addr := if cap = lo then a else a.map (·.add (lo * sz))
theorem node_from {st e : TypeId} {xo lo : Operand} {r : SV} {z : Value} {n cap l sz bytes : Nat} (a : Option Addr) (ht : C.P.underlying st = some (.slice e)) (hel : C.P.elem st = e) (hinfo : (C.P.info? e).map (fun i => (i.zero, i.size, i.bytes)) = some (some z, sz, bytes))
    (hxo : ∀ ids, envOf ρ ids ps xo = .slice a n cap) (hlo : ∀ ids, envOf ρ ids ps lo = .int .i64 (l : Int)) (hl : l ≤ n)
    (hr : ∀ ids, r.den (ρ.add ⟨[], [], [], [n - l, cap - l], [sliA a l cap sz]⟩) ids = .slice (sliA a l cap sz) (n - l) (cap - l)) (hhp : m'.hp = m.hp) (hfit : hpFits m.c m.hp.length m.hp = true) (hc : (ρ.add ⟨[], [], [], [n - l, cap - l], [sliA a l cap sz]⟩).cnt = m'.c)
    (h : t.holds C (ρ.add ⟨[], [], [], [n - l, cap - l], [sliA a l cap sz]⟩) pre hx L) :
    (Tree.gen (.slice st xo (some lo) none none) ty ps m (some r) m' t).holds C ρ pre hx L := by
  obtain ⟨i0, hi, hz0, hz1, hz2⟩ := info_parts hinfo
  refine node_gpure (V := .slice (sliA a l cap sz) (n - l) (cap - l)) _ (fun ids w hp hf => ?_) hr hhp hfit hc oneNil h
  have hsize : (sizeOf (C.P.elem st)).run C.P w = .ok sz w := by
    rw [hel]; simp [sizeOf, typeInfo, hi, hz1]
  have ht' : C.P.underlying st = some (.slice (C.P.elem st)) := by rw [ht, hel]
  have hrun : (Instr.sliceAt st (.slice a n cap) (some (.int .i64 (l : Int))) none none).run C.P w = .ok (.slice (sliA a l cap sz) (n - l) (cap - l)) w := by
    rw [run_sliceAt_slice w st _ _ _ _ ht', run_slice_l w st a n cap ht' .i64 (l : Int) (by omega) (by omega), hsize]
    simp [Result.andThen, sliced, sliA]
  simp only [execOp, hxo, hlo, Sem.run_bind, Sem.run_pure, Result.andThen_ok, Option.map_none, Option.map_some, hrun]
theorem node_span {st e : TypeId} {xo lo hi : Operand} {r : SV} {z : Value} {n cap l u sz bytes : Nat} (a : Option Addr) (ht : C.P.underlying st = some (.slice e)) (hel : C.P.elem st = e) (hinfo : (C.P.info? e).map (fun i => (i.zero, i.size, i.bytes)) = some (some z, sz, bytes))
    (hxo : ∀ ids, envOf ρ ids ps xo = .slice a n cap) (hlo : ∀ ids, envOf ρ ids ps lo = .int .i64 (l : Int)) (hhi : ∀ ids, envOf ρ ids ps hi = .int .i64 (u : Int)) (hlu : l ≤ u) (hu : u ≤ cap)
    (hr : ∀ ids, r.den (ρ.add ⟨[], [], [], [u - l, cap - l], [sliA a l cap sz]⟩) ids = .slice (sliA a l cap sz) (u - l) (cap - l)) (hhp : m'.hp = m.hp) (hfit : hpFits m.c m.hp.length m.hp = true) (hc : (ρ.add ⟨[], [], [], [u - l, cap - l], [sliA a l cap sz]⟩).cnt = m'.c)
    (h : t.holds C (ρ.add ⟨[], [], [], [u - l, cap - l], [sliA a l cap sz]⟩) pre hx L) :
    (Tree.gen (.slice st xo (some lo) (some hi) none) ty ps m (some r) m' t).holds C ρ pre hx L := by
  obtain ⟨i0, hi', hz0, hz1, hz2⟩ := info_parts hinfo
  refine node_gpure (V := .slice (sliA a l cap sz) (u - l) (cap - l)) _ (fun ids w hp hf => ?_) hr hhp hfit hc oneNil h
  have hsize : (sizeOf (C.P.elem st)).run C.P w = .ok sz w := by
    rw [hel]; simp [sizeOf, typeInfo, hi', hz1]
  have ht' : C.P.underlying st = some (.slice (C.P.elem st)) := by rw [ht, hel]
  have hrun : (Instr.sliceAt st (.slice a n cap) (some (.int .i64 (l : Int))) (some (.int .i64 (u : Int))) none).run C.P w = .ok (.slice (sliA a l cap sz) (u - l) (cap - l)) w := by
    rw [run_sliceAt_slice w st _ _ _ _ ht', run_slice_lh w st a n cap ht' .i64 .i64 (l : Int) (u : Int) (by omega) (by omega) (by omega), hsize]
    simp [Result.andThen, sliced, sliA]
  simp only [execOp, hxo, hlo, hhi, Sem.run_bind, Sem.run_pure, Result.andThen_ok, Option.map_none, Option.map_some, hrun]
end
theorem sli_cells {w : World} {a : Option Addr} {xs : List Value} (h : Cells w a xs) (l k cap sz : Nat) (hl : l * sz ≤ xs.length) (hc : xs.length ≤ cap * sz) (hsz : 0 < sz) : Cells w (sliA a l cap sz) ((xs.drop (l * sz)).take k) := by
  intro h0
  have h1 : l * sz < xs.length := by simp only [List.length_take, List.length_drop] at h0; omega
  have hne : cap ≠ l := fun e => by subst e; omega
  obtain ⟨ha, hb, hcc⟩ := h (by omega)
  obtain ⟨ad, rfl⟩ : ∃ ad, a = some ad := by
    cases a with
    | none => simp [PlainA] at ha
    | some ad => exact ⟨ad, rfl⟩
  have e : ad = ⟨blk (some ad), ofs (some ad), none⟩ := Option.some.inj ha
  have e2 : sliA (some ad) l cap sz = some ⟨blk (some ad), ofs (some ad) + l * sz, none⟩ := by
    unfold sliA
    rw [if_neg hne, Option.map_some, e, Go.WideShapes.add_plain]; rfl
  rw [e2]
  refine ⟨rfl, hb, fun i u hi => ?_⟩
  have hi2 : xs[l * sz + i]? = some u := by
    rw [List.getElem?_take] at hi
    split at hi
    · rw [List.getElem?_drop] at hi; exact hi
    · cases hi
  have := hcc (l * sz + i) u hi2
  show w.cell? ⟨blk (some ad), ofs (some ad) + l * sz + i, none⟩ = some u
  rw [Nat.add_assoc]; exact this
section
variable {C : Cfg} {ρ : Env} {pre : List Nat} {hx : HX} {L : Stack} {m m' : Mem} {ty : Nat} {ps : List (Nat × SV)} {t : Tree}
end
end Go.Eng

namespace Go.Eng
open Go.RowKit Go.Syn
set_option linter.unusedVariables false
set_option linter.unusedSimpArgs false
section
variable {C : Cfg} {ρ : Env} {pre : List Nat} {hx hx' : HX} {L : Stack} {m m' : Mem} {ty : Nat} {ps : List (Nat × SV)} {t : Tree}
theorem node_ldp {n off sz bty : Nat} {e : IE} {cs bcs : List LV} (vs : Vals) (i : Nat) {us : List Value} (hn : m.hp[n]? = some (bty, bcs)) (hi : e.den ρ = (i : Int)) (hb : ∀ ids, cellsDen ρ ids bcs = us) (hcs : ∀ ids j u, (cellsDen (ρ.add vs) ids cs)[j]? = some u → us[off + i * sz + j]? = some u)
    (hc : (ρ.add vs).cnt = m'.c) (h1 : ∀ v, v ∈ vs.v → v.oneCell' = true) (h : t.holds C (ρ.add vs) pre hx L) : (Tree.ld true (.pix n off sz e) cs m m' t).holds C ρ pre hx L := by
  refine node_ld vs (fun ids w hp hf => ?_) (fun ids w hf => envUp hf hc h1) h
  refine ⟨⟨idAt ids n, off + i * sz, none⟩, ?_, fun q => q, fun j u hj => ?_⟩
  · simp only [LV.den, hi, Int.toNat_natCast]
  · have h2 := hf.blk n bty bcs hn
    rw [hb] at h2
    rw [add_plain', cells_blk h2, hcs ids j u hj]
theorem node_bin {f : BinOp} {bt : Nat} {xo yo : Operand} {fl : TypeId} {r : SV} {x y V : Value} (vs : Vals) (hxo : ∀ ids, envOf ρ ids ps xo = x) (hyo : ∀ ids, envOf ρ ids ps yo = y) (hg : ∀ w, (eqGuard f bt xo yo x y).run C.P w = .ok () w) (hrun : ∀ w, (binOp f bt x y).run C.P w = .ok V w) (hr : ∀ ids, r.den (ρ.add vs) ids = V) (hhp : m'.hp = m.hp) (hfit : hpFits m.c m.hp.length m.hp = true) (hc : (ρ.add vs).cnt = m'.c) (h1 : ∀ v, v ∈ vs.v → v.oneCell' = true)
    (h : t.holds C (ρ.add vs) pre hx L) : (Tree.gen (.binOp f bt xo yo fl) ty ps m (some r) m' t).holds C ρ pre hx L := by
  refine node_gpure (V := V) vs (fun ids w hp hf2 => ?_) hr hhp hfit hc h1 h
  have hr2 := hrun w
  have hg2 := hg w
  unfold execOp
  simp only [hxo, hyo]
  simp [hr2, hg2]
end
end Go.Eng

namespace Go.Eng
open Go.RowKit Go.Syn
set_option linter.unusedVariables false
set_option linter.unusedSimpArgs false
section
variable {C : Cfg} {ρ : Env} {pre : List Nat} {hx : HX} {L : Stack} {m m' : Mem} {ty : Nat} {ps : List (Nat × SV)} {t : Tree}
end
end Go.Eng

namespace Go.Eng
open Go.RowKit Go.Syn
set_option linter.unusedVariables false
section
variable {C : Cfg} {ρ : Env} {pre : List Nat} {hx : HX} {L : Stack} {m m' : Mem} {args : List SV} {r : SV} {t f : Tree} {b : BE}
theorem br_F (c : Bool) (hb : b.den ρ = c) (hc : c = false) (h : f.holds C ρ pre hx L) : (Tree.br b t f).holds C ρ pre hx L := br_f (hb.trans hc) h
theorem br_T (c : Bool) (hb : b.den ρ = c) (hc : c = true) (h : t.holds C ρ pre hx L) : (Tree.br b t f).holds C ρ pre hx L := br_t (hb.trans hc) h
theorem again_V {key : Nat} {es : Vec} {I : Vals → HX → Prop} (v' : Vals) (hI : lkup key L = some I) (hv : ∀ ids, es.den ρ ids = v') (hx' : HX) (hX : ∀ w ids, Facts C m ρ ids hx w → HXok hx' w ids) (h : I v' hx') : (Tree.again key es m).holds C ρ pre hx L :=
  fun ids w hp hf => ⟨hx', hX w ids hf, I, hI, by rw [hv ids]; exact h⟩
theorem node_P {f : Nat} (vs : Vals) (AS : Array Value) (V : Value) (hargs : ∀ ids, (args.map (SV.den ρ ids)).toArray = AS) (hr : ∀ ids, r.den (ρ.add vs) ids = V) (hhp : m'.hp = m.hp) (hfit : hpFits m.c m.hp.length m.hp = true) (hc : (ρ.add vs).cnt = m'.c) (h1 : ∀ v, v ∈ vs.v → v.oneCell' = true) (hcall : ∀ ids w, pre <+: ids → Facts C m ρ ids hx w → Calls C.P f AS w (PureAt w V))
    (h : t.holds C (ρ.add vs) pre hx L) : (Tree.call f args m r m' t).holds C ρ pre hx L :=
  node_pure vs hhp hfit hc h1 (fun ids w hp hf => by rw [hargs, hr]; exact hcall ids w hp hf) h
end
theorem cl_stay {w w' : World} {a : Option Addr} {xs : List Value} (h : Cells w a xs) (hb : ∀ k, k < w.heap.size → w'.heap[k]? = w.heap[k]?) : Cells w' a xs := (HX.cl a xs).loc w w' h fun k hk => hb k (cl_sep h k hk)
end Go.Eng

namespace Go.Proofs.Ytadgaefmoobcoaa
open Go.Eng
abbrev tCmdb0 : List LV := [(tVi 0), (tVi 1), (tVi 2), (tVi 3), (tVi 4), (tVi 5), (tVi 6), (tVi 7)]
set_option maxRecDepth 100000 in
theorem tCmd : (runF ⟨tt, fns, {}⟩ (Try.f67.body.getD .skip) Try.f67.results.toList (entry Try.f67.ntmps [.agg [.int .i64 (.var 0), .int .i64 (.var 1), .int .i64 (.var 2), .int .i64 (.var 3), .int .i64 (.var 4), .int .i64 (.var 5), .int .i64 (.var 6), .int .i64 (.var 7)]] [] ⟨8, 0, 0, 0, 0⟩)) =
  (.br (.cmp .lss (.var 0) (.lit 1)) (.done (.lf (tLi 23)) ⟨[(32, tCmdb0)], ⟨8, 0, 0, 0, 0⟩⟩) (.br (.cmp .gtr (.var 0) (.lit 1073741824)) (.done (.lf (tLi 23)) ⟨[(32, tCmdb0)], ⟨8, 0, 0, 0, 0⟩⟩) (.br (.cmp .lss (.var 1) (.lit 1)) (.done (.lf (tLi 23)) ⟨[(32, tCmdb0)], ⟨8, 0, 0, 0, 0⟩⟩) (.br (.cmp .gtr (.var 1) (.lit 1099511627776)) (.done (.lf (tLi 23)) ⟨[(32, tCmdb0)], ⟨8, 0, 0, 0, 0⟩⟩) (.br (.cmp .lss (.var 2) (.lit 0)) (.done (.lf (tLi 23)) ⟨[(32, tCmdb0)], ⟨8, 0, 0, 0, 0⟩⟩) (.br (.cmp .geq (.var 2) (.var 1)) (.done (.lf (tLi 23)) ⟨[(32, tCmdb0)], ⟨8, 0, 0, 0, 0⟩⟩) (.call 88 [(.agg [(tVi 3), (tVi 4), (tVi 5), (tVi 6), (tVi 7)])] ⟨[(32, tCmdb0)], ⟨8, 0, 0, 0, 0⟩⟩ (.lf (tVi 8)) ⟨[(32, tCmdb0)], ⟨9, 0, 0, 0, 0⟩⟩ (.done (.lf (tVi 8)) ⟨[(32, tCmdb0)], ⟨9, 0, 0, 0, 0⟩⟩)))))))) := by kernel_rfl
abbrev tRCmdb0 : List LV := [(tVi 0), (tVi 1), (tVi 2), (tVi 3), (tVi 4), (tVi 5), (tVi 6), (tVi 7)]
set_option maxRecDepth 100000 in
theorem tRCmd : (runF ⟨tt, fns, {}⟩ (Try.f38.body.getD .skip) Try.f38.results.toList (entry Try.f38.ntmps [.agg [.int .i64 (.var 0), .int .i64 (.var 1), .int .i64 (.var 2), .int .i64 (.var 3), .int .i64 (.var 4), .int .i64 (.var 5), .int .i64 (.var 6), .int .i64 (.var 7)]] [] ⟨8, 0, 0, 0, 0⟩)) =
  (.br (.cmp .lss (.var 0) (.lit 1)) (.done (.lf (tLi 23)) ⟨[(32, tRCmdb0)], ⟨8, 0, 0, 0, 0⟩⟩) (.br (.cmp .gtr (.var 0) (.lit 1073741824)) (.done (.lf (tLi 23)) ⟨[(32, tRCmdb0)], ⟨8, 0, 0, 0, 0⟩⟩) (.br (.cmp .lss (.var 1) (.lit 1)) (.done (.lf (tLi 23)) ⟨[(32, tRCmdb0)], ⟨8, 0, 0, 0, 0⟩⟩) (.br (.cmp .gtr (.var 1) (.lit 1099511627776)) (.done (.lf (tLi 23)) ⟨[(32, tRCmdb0)], ⟨8, 0, 0, 0, 0⟩⟩) (.br (.cmp .lss (.var 2) (.lit 0)) (.done (.lf (tLi 23)) ⟨[(32, tRCmdb0)], ⟨8, 0, 0, 0, 0⟩⟩) (.br (.cmp .geq (.var 2) (.var 1)) (.done (.lf (tLi 23)) ⟨[(32, tRCmdb0)], ⟨8, 0, 0, 0, 0⟩⟩) (.call 69 [(.agg [(tVi 3), (tVi 4), (tVi 5), (tVi 6), (tVi 7)])] ⟨[(32, tRCmdb0)], ⟨8, 0, 0, 0, 0⟩⟩ (.lf (.bool (.var 0))) ⟨[(32, tRCmdb0)], ⟨8, 1, 0, 0, 0⟩⟩ (.br (.not (.var 0)) (.done (.lf (tLi 22)) ⟨[(32, tRCmdb0)], ⟨8, 1, 0, 0, 0⟩⟩) (.done (.lf (tLi 0)) ⟨[(32, tRCmdb0)], ⟨8, 1, 0, 0, 0⟩⟩))))))))) := by kernel_rfl
abbrev tChkb0 : List LV := [(tVi 2), (tVi 3), (tVi 4), (tVi 5), (tVi 6), (tVi 7), (tVi 8), (tVi 9)]
abbrev tChkm0 : Mem := ⟨[(27, [(tVi 0), (tSl 0 0 1), (tSl 1 2 3)]), (32, tChkb0)], ⟨11, 0, 0, 4, 2⟩⟩
abbrev tChkm1 : Mem := ⟨[(27, [(tVi 0), (tSl 0 0 1), (tSl 1 2 3)])], ⟨1, 0, 0, 4, 2⟩⟩
abbrev tChkm2 : Mem := ⟨[(27, [(tVi 0), (tSl 0 0 1), (tSl 1 2 3)])], ⟨2, 0, 0, 4, 2⟩⟩
set_option maxRecDepth 100000 in
theorem tChk : (runF ⟨tt, fns, { loops := [(15, ⟨[(50, .int .i64)], []⟩)] }⟩ (Try.f30.body.getD .skip) Try.f30.results.toList (entry Try.f30.ntmps [.agg [.int .i64 (.var 0), .sl 0 (.var 0) (.var 1), .sl 1 (.var 2) (.var 3)]] [] ⟨1, 0, 0, 4, 2⟩)) =
  (.br (.cmp .eql (.var 0) (.lit 0)) (.br (.cmp .gtr (.nat 0) (.lit 0)) (.done (.lf (tLi 25)) tChkm1) (.br (.cmp .gtr (.nat 2) (.lit 0)) (.done (.lf (tLi 25)) tChkm1) (.done (.lf (tLi 0)) tChkm1))) (.br (.cmp .eql (.var 0) (.lit 2)) (.br (.cmp .gtr (.nat 0) (.lit 0)) (.done (.lf (tLi 25)) tChkm1) (.call 66 [(.lf (tSl 1 2 3))] tChkm1 (.lf (tVi 1)) tChkm2 (.done (.lf (tVi 1)) tChkm2))) (.br (.cmp .eql (.var 0) (.lit 1)) (.br (.cmp .lss (.nat 0) (.lit 1)) (.done (.lf (tLi 25)) tChkm1) (.br (.cmp .gtr (.nat 0) (.lit 8)) (.done (.lf (tLi 25)) tChkm1) (.br (.cmp .gtr (.nat 2) (.lit 0)) (.done (.lf (tLi 25)) tChkm1) (.loop 15 ⟨[(.lit 0)], [], [], [], []⟩ tChkm1 tChkm2 (.br (.cmp .lss (.var 1) (.nat 0)) (.need (.inb 0 (.var 1) (.nat 0)) (.ld .false (.adr 0 (.var 1) 8 0) tChkb0 tChkm2 ⟨[(27, [(tVi 0), (tSl 0 0 1), (tSl 1 2 3)])], ⟨10, 0, 0, 4, 2⟩⟩ (.call 67 [(.agg tChkb0)] ⟨[(27, [(tVi 0), (tSl 0 0 1), (tSl 1 2 3)]), (32, tChkb0)], ⟨10, 0, 0, 4, 2⟩⟩ (.lf (tVi 10)) tChkm0 (.br (.cmp .neq (.var 10) (.lit 0)) (.done (.lf (tVi 10)) tChkm0) (.again 15 ⟨[(.op .add .i64 (.var 1) (.lit 1))], [], [], [], []⟩ tChkm0))))) (.done (.lf (tLi 0)) tChkm2)))))) (.done (.lf (tLi 25)) tChkm1)))) := by kernel_rfl
abbrev tRChkb0 : List LV := [(tVi 2), (tVi 3), (tVi 4), (tVi 5), (tVi 6), (tVi 7), (tVi 8), (tVi 9)]
abbrev tRChkm0 : Mem := ⟨[(27, [(tVi 0), (tSl 0 0 1), (tSl 1 2 3)])], ⟨10, 1, 0, 4, 2⟩⟩
abbrev tRChkm1 : Mem := ⟨[(27, [(tVi 0), (tSl 0 0 1), (tSl 1 2 3)])], ⟨11, 1, 0, 4, 2⟩⟩
abbrev tRChkm2 : Mem := ⟨[(27, [(tVi 0), (tSl 0 0 1), (tSl 1 2 3)])], ⟨10, 0, 0, 4, 2⟩⟩
abbrev tRChkm3 : Mem := ⟨[(27, [(tVi 0), (tSl 0 0 1), (tSl 1 2 3)])], ⟨11, 0, 0, 4, 2⟩⟩
abbrev tRChkm4 : Mem := ⟨[(27, [(tVi 0), (tSl 0 0 1), (tSl 1 2 3)])], ⟨1, 0, 0, 4, 2⟩⟩
abbrev tRChkm5 : Mem := ⟨[(27, [(tVi 0), (tSl 0 0 1), (tSl 1 2 3)])], ⟨1, 1, 0, 4, 2⟩⟩
abbrev tRChkm6 : Mem := ⟨[(27, [(tVi 0), (tSl 0 0 1), (tSl 1 2 3)])], ⟨2, 1, 0, 4, 2⟩⟩
abbrev tRChkm7 : Mem := ⟨[(27, [(tVi 0), (tSl 0 0 1), (tSl 1 2 3)])], ⟨2, 0, 0, 4, 2⟩⟩
abbrev tRChkt2 : Tree := (.br (.cmp .eql (.var 0) (.lit 2)) (.call 68 [(.lf (tSl 1 2 3))] tRChkm4 (.lf (.bool (.var 0))) tRChkm5 (.br (.not (.var 0)) (.done (.lf (tLi 24)) tRChkm5) (.loop 8 ⟨[(.lit 0)], [], [], [], []⟩ tRChkm5 tRChkm6 (.br (.cmp .lss (.var 1) (.nat 0)) (.need (.inb 0 (.var 1) (.nat 0)) (.ld .false (.adr 0 (.var 1) 8 0) tRChkb0 tRChkm6 tRChkm0 (.call 38 [(.agg tRChkb0)] tRChkm0 (.lf (tVi 10)) tRChkm1 (.br (.cmp .neq (.var 10) (.lit 0)) (.done (.lf (tVi 10)) tRChkm1) (.again 8 ⟨[(.op .add .i64 (.var 1) (.lit 1))], [], [], [], []⟩ tRChkm1))))) (.done (.lf (tLi 0)) tRChkm6))))) (.loop 8 ⟨[(.lit 0)], [], [], [], []⟩ tRChkm4 tRChkm7 (.br (.cmp .lss (.var 1) (.nat 0)) (.need (.inb 0 (.var 1) (.nat 0)) (.ld .false (.adr 0 (.var 1) 8 0) tRChkb0 tRChkm7 tRChkm2 (.call 38 [(.agg tRChkb0)] tRChkm2 (.lf (tVi 10)) tRChkm3 (.br (.cmp .neq (.var 10) (.lit 0)) (.done (.lf (tVi 10)) tRChkm3) (.again 8 ⟨[(.op .add .i64 (.var 1) (.lit 1))], [], [], [], []⟩ tRChkm3))))) (.done (.lf (tLi 0)) tRChkm7))))
abbrev tRChkt1 : Tree := (.br (.cmp .eql (.var 0) (.lit 1)) (.br (.cmp .eql (.nat 0) (.lit 0)) (.done (.lf (tLi 25)) tRChkm4) (.br (.cmp .gtr (.nat 0) (.lit 8)) (.done (.lf (tLi 25)) tRChkm4) tRChkt2)) tRChkt2)
abbrev tRChkt0 : Tree := (.br (.cmp .neq (.var 0) (.lit 2)) (.br (.cmp .neq (.nat 2) (.lit 0)) (.done (.lf (tLi 25)) tRChkm4) tRChkt1) tRChkt1)
set_option maxRecDepth 100000 in
theorem tRChk : (runF ⟨tt, fns, { loops := [(8, ⟨[(62, .int .i64)], []⟩)] }⟩ (Try.f37.body.getD .skip) Try.f37.results.toList (entry Try.f37.ntmps [.agg [.int .i64 (.var 0), .sl 0 (.var 0) (.var 1), .sl 1 (.var 2) (.var 3)]] [] ⟨1, 0, 0, 4, 2⟩)) =
  (.br (.cmp .lss (.var 0) (.lit 0)) (.done (.lf (tLi 25)) tRChkm4) (.br (.cmp .gtr (.var 0) (.lit 2)) (.done (.lf (tLi 25)) tRChkm4) (.br (.cmp .neq (.var 0) (.lit 1)) (.br (.cmp .neq (.nat 0) (.lit 0)) (.done (.lf (tLi 25)) tRChkm4) tRChkt0) tRChkt0))) := by kernel_rfl
abbrev tRChk0m0 : Mem := ⟨[(27, [(tLi 0), (tSl 0 0 1), (tSl 1 2 3)])], ⟨10, 0, 0, 4, 2⟩⟩
abbrev tRChk0m1 : Mem := ⟨[(27, [(tLi 0), (tSl 0 0 1), (tSl 1 2 3)])], ⟨0, 0, 0, 4, 2⟩⟩
abbrev tRChk0m2 : Mem := ⟨[(27, [(tLi 0), (tSl 0 0 1), (tSl 1 2 3)])], ⟨1, 0, 0, 4, 2⟩⟩
abbrev tRChk0m3 : Mem := ⟨[(27, [(tLi 0), (tSl 0 0 1), (tSl 1 2 3)])], ⟨9, 0, 0, 4, 2⟩⟩
set_option maxRecDepth 100000 in
theorem tRChk0 : (runF ⟨tt, fns, { loops := [(8, ⟨[(62, .int .i64)], []⟩)] }⟩ (Try.f37.body.getD .skip) Try.f37.results.toList (entry Try.f37.ntmps [.agg [.int .i64 (.lit 0), .sl 0 (.var 0) (.var 1), .sl 1 (.var 2) (.var 3)]] [] ⟨0, 0, 0, 4, 2⟩)) =
  (.br (.cmp .neq (.nat 0) (.lit 0)) (.done (.lf (tLi 25)) tRChk0m1) (.br (.cmp .neq (.nat 2) (.lit 0)) (.done (.lf (tLi 25)) tRChk0m1) (.loop 8 ⟨[(.lit 0)], [], [], [], []⟩ tRChk0m1 tRChk0m2 (.br (.cmp .lss (.var 0) (.nat 0)) (.need (.inb 0 (.var 0) (.nat 0)) (.ld .false (.adr 0 (.var 0) 8 0) [(tVi 1), (tVi 2), (tVi 3), (tVi 4), (tVi 5), (tVi 6), (tVi 7), (tVi 8)] tRChk0m2 tRChk0m3 (.call 38 [(.agg [(tVi 1), (tVi 2), (tVi 3), (tVi 4), (tVi 5), (tVi 6), (tVi 7), (tVi 8)])] tRChk0m3 (.lf (tVi 9)) tRChk0m0 (.br (.cmp .neq (.var 9) (.lit 0)) (.done (.lf (tVi 9)) tRChk0m0) (.again 8 ⟨[(.op .add .i64 (.var 0) (.lit 1))], [], [], [], []⟩ tRChk0m0))))) (.done (.lf (tLi 0)) tRChk0m2))))) := by kernel_rfl
abbrev tRChk1m0 : Mem := ⟨[(27, [(tLi 1), (tSl 0 0 1), (tSl 1 2 3)])], ⟨10, 0, 0, 4, 2⟩⟩
abbrev tRChk1m1 : Mem := ⟨[(27, [(tLi 1), (tSl 0 0 1), (tSl 1 2 3)])], ⟨0, 0, 0, 4, 2⟩⟩
abbrev tRChk1m2 : Mem := ⟨[(27, [(tLi 1), (tSl 0 0 1), (tSl 1 2 3)])], ⟨1, 0, 0, 4, 2⟩⟩
abbrev tRChk1m3 : Mem := ⟨[(27, [(tLi 1), (tSl 0 0 1), (tSl 1 2 3)])], ⟨9, 0, 0, 4, 2⟩⟩
set_option maxRecDepth 100000 in
theorem tRChk1 : (runF ⟨tt, fns, { loops := [(8, ⟨[(62, .int .i64)], []⟩)] }⟩ (Try.f37.body.getD .skip) Try.f37.results.toList (entry Try.f37.ntmps [.agg [.int .i64 (.lit 1), .sl 0 (.var 0) (.var 1), .sl 1 (.var 2) (.var 3)]] [] ⟨0, 0, 0, 4, 2⟩)) =
  (.br (.cmp .neq (.nat 2) (.lit 0)) (.done (.lf (tLi 25)) tRChk1m1) (.br (.cmp .eql (.nat 0) (.lit 0)) (.done (.lf (tLi 25)) tRChk1m1) (.br (.cmp .gtr (.nat 0) (.lit 8)) (.done (.lf (tLi 25)) tRChk1m1) (.loop 8 ⟨[(.lit 0)], [], [], [], []⟩ tRChk1m1 tRChk1m2 (.br (.cmp .lss (.var 0) (.nat 0)) (.need (.inb 0 (.var 0) (.nat 0)) (.ld .false (.adr 0 (.var 0) 8 0) [(tVi 1), (tVi 2), (tVi 3), (tVi 4), (tVi 5), (tVi 6), (tVi 7), (tVi 8)] tRChk1m2 tRChk1m3 (.call 38 [(.agg [(tVi 1), (tVi 2), (tVi 3), (tVi 4), (tVi 5), (tVi 6), (tVi 7), (tVi 8)])] tRChk1m3 (.lf (tVi 9)) tRChk1m0 (.br (.cmp .neq (.var 9) (.lit 0)) (.done (.lf (tVi 9)) tRChk1m0) (.again 8 ⟨[(.op .add .i64 (.var 0) (.lit 1))], [], [], [], []⟩ tRChk1m0))))) (.done (.lf (tLi 0)) tRChk1m2)))))) := by kernel_rfl
abbrev tRChk2m0 : Mem := ⟨[(27, [(tLi 2), (tSl 0 0 1), (tSl 1 2 3)])], ⟨10, 1, 0, 4, 2⟩⟩
abbrev tRChk2m1 : Mem := ⟨[(27, [(tLi 2), (tSl 0 0 1), (tSl 1 2 3)])], ⟨0, 0, 0, 4, 2⟩⟩
abbrev tRChk2m2 : Mem := ⟨[(27, [(tLi 2), (tSl 0 0 1), (tSl 1 2 3)])], ⟨0, 1, 0, 4, 2⟩⟩
abbrev tRChk2m3 : Mem := ⟨[(27, [(tLi 2), (tSl 0 0 1), (tSl 1 2 3)])], ⟨1, 1, 0, 4, 2⟩⟩
abbrev tRChk2m4 : Mem := ⟨[(27, [(tLi 2), (tSl 0 0 1), (tSl 1 2 3)])], ⟨9, 1, 0, 4, 2⟩⟩
set_option maxRecDepth 100000 in
theorem tRChk2 : (runF ⟨tt, fns, { loops := [(8, ⟨[(62, .int .i64)], []⟩)] }⟩ (Try.f37.body.getD .skip) Try.f37.results.toList (entry Try.f37.ntmps [.agg [.int .i64 (.lit 2), .sl 0 (.var 0) (.var 1), .sl 1 (.var 2) (.var 3)]] [] ⟨0, 0, 0, 4, 2⟩)) =
  (.br (.cmp .neq (.nat 0) (.lit 0)) (.done (.lf (tLi 25)) tRChk2m1) (.call 68 [(.lf (tSl 1 2 3))] tRChk2m1 (.lf (.bool (.var 0))) tRChk2m2 (.br (.not (.var 0)) (.done (.lf (tLi 24)) tRChk2m2) (.loop 8 ⟨[(.lit 0)], [], [], [], []⟩ tRChk2m2 tRChk2m3 (.br (.cmp .lss (.var 0) (.nat 0)) (.need (.inb 0 (.var 0) (.nat 0)) (.ld .false (.adr 0 (.var 0) 8 0) [(tVi 1), (tVi 2), (tVi 3), (tVi 4), (tVi 5), (tVi 6), (tVi 7), (tVi 8)] tRChk2m3 tRChk2m4 (.call 38 [(.agg [(tVi 1), (tVi 2), (tVi 3), (tVi 4), (tVi 5), (tVi 6), (tVi 7), (tVi 8)])] tRChk2m4 (.lf (tVi 9)) tRChk2m0 (.br (.cmp .neq (.var 9) (.lit 0)) (.done (.lf (tVi 9)) tRChk2m0) (.again 8 ⟨[(.op .add .i64 (.var 0) (.lit 1))], [], [], [], []⟩ tRChk2m0))))) (.done (.lf (tLi 0)) tRChk2m3)))))) := by kernel_rfl
abbrev tPutCmdb0 : List LV := [(tVi 0), (tVi 1), (tVi 2), (tVi 3), (tVi 4), (tVi 5), (tVi 6), (tVi 7)]
abbrev tPutCmdm0 : Mem := ⟨[(113, [(tSl 5 10 11)]), (32, tPutCmdb0)], ⟨8, 0, 0, 12, 6⟩⟩
abbrev tPutCmdm1 : Mem := ⟨[(113, [(tSl 6 12 13)]), (32, tPutCmdb0)], ⟨8, 0, 0, 14, 7⟩⟩
abbrev tPutCmdm2 : Mem := ⟨[(113, [(tSl 7 14 15)]), (32, tPutCmdb0)], ⟨8, 0, 0, 16, 8⟩⟩
abbrev tPutCmdm3 : Mem := ⟨[(113, [(tSl 8 16 17)]), (32, tPutCmdb0)], ⟨8, 0, 0, 18, 9⟩⟩
abbrev tPutCmdm4 : Mem := ⟨[(113, [(tSl 4 8 9)]), (32, tPutCmdb0)], ⟨8, 0, 0, 10, 5⟩⟩
abbrev tPutCmdm5 : Mem := ⟨[(113, [(tSl 1 2 3)]), (32, tPutCmdb0)], ⟨8, 0, 0, 4, 2⟩⟩
abbrev tPutCmdm6 : Mem := ⟨[(113, [(tSl 2 4 5)]), (32, tPutCmdb0)], ⟨8, 0, 0, 6, 3⟩⟩
abbrev tPutCmdm7 : Mem := ⟨[(113, [(tSl 3 6 7)]), (32, tPutCmdb0)], ⟨8, 0, 0, 8, 4⟩⟩
set_option maxRecDepth 100000 in
theorem tPutCmd : (runF ⟨tt, fns, { unroll := [2], touch := [(45, [0])], ret := [(45, .one (.lf (.is (.ptr 0 0))))] }⟩ (Try.f44.body.getD .skip) Try.f44.results.toList (entry Try.f44.ntmps [.lf (.ptr 0 0), .agg [.int .i64 (.var 0), .int .i64 (.var 1), .int .i64 (.var 2), .int .i64 (.var 3), .int .i64 (.var 4), .int .i64 (.var 5), .int .i64 (.var 6), .int .i64 (.var 7)]] [(113, [.sl 0 (.var 0) (.var 1)])] ⟨8, 0, 0, 2, 1⟩)) =
  (.call 45 [(.lf (.ptr 0 0)), (.lf (tVi 0))] ⟨[(113, [(tSl 0 0 1)]), (32, tPutCmdb0)], ⟨8, 0, 0, 2, 1⟩⟩ (.lf (.ptr 0 0)) tPutCmdm5 (.call 45 [(.lf (.ptr 0 0)), (.lf (tVi 1))] tPutCmdm5 (.lf (.ptr 0 0)) tPutCmdm6 (.call 45 [(.lf (.ptr 0 0)), (.lf (tVi 2))] tPutCmdm6 (.lf (.ptr 0 0)) tPutCmdm7 (.call 45 [(.lf (.ptr 0 0)), (.lf (tVi 3))] tPutCmdm7 (.lf (.ptr 0 0)) tPutCmdm4 (.call 45 [(.lf (.ptr 0 0)), (.lf (tVi 4))] tPutCmdm4 (.lf (.ptr 0 0)) tPutCmdm0 (.call 45 [(.lf (.ptr 0 0)), (.lf (tVi 5))] tPutCmdm0 (.lf (.ptr 0 0)) tPutCmdm1 (.call 45 [(.lf (.ptr 0 0)), (.lf (tVi 6))] tPutCmdm1 (.lf (.ptr 0 0)) tPutCmdm2 (.call 45 [(.lf (.ptr 0 0)), (.lf (tVi 7))] tPutCmdm2 (.lf (.ptr 0 0)) tPutCmdm3 (.done (.tup []) tPutCmdm3))))))))) := by kernel_rfl
abbrev tTakeCmdb0 : List LV := [(tVi 4), (tVi 7), (tVi 10), (tVi 13), (tVi 16), (tVi 19), (tVi 22), (tVi 25)]
abbrev tTakeCmdb1 : List LV := [(tVi 4), (tVi 7), (tVi 10), (tLi 0), (tLi 0), (tLi 0), (tLi 0), (tLi 0)]
abbrev tTakeCmdb2 : List LV := [(tLi 0), (tLi 0), (tLi 0), (tLi 0), (tLi 0), (tLi 0), (tLi 0), (tLi 0)]
abbrev tTakeCmdm0 : Mem := ⟨[(128, [(tSl 5 10 11), (tVi 14), (tVi 15)]), (32, tTakeCmdb2), (32, tTakeCmdb1)], ⟨17, 0, 0, 12, 6⟩⟩
abbrev tTakeCmdm1 : Mem := ⟨[(128, [(tSl 6 12 13), (tVi 17), (tVi 18)]), (32, tTakeCmdb2), (32, tTakeCmdb1)], ⟨20, 0, 0, 14, 7⟩⟩
abbrev tTakeCmdm2 : Mem := ⟨[(128, [(tSl 7 14 15), (tVi 20), (tVi 21)]), (32, tTakeCmdb2), (32, tTakeCmdb1)], ⟨23, 0, 0, 16, 8⟩⟩
abbrev tTakeCmdm3 : Mem := ⟨[(128, [(tSl 4 8 9), (tVi 11), (tVi 12)]), (32, tTakeCmdb2), (32, tTakeCmdb1)], ⟨14, 0, 0, 10, 5⟩⟩
abbrev tTakeCmdm4 : Mem := ⟨[(128, [(tSl 1 2 3), (tVi 2), (tVi 3)]), (32, tTakeCmdb2)], ⟨5, 0, 0, 4, 2⟩⟩
abbrev tTakeCmdm5 : Mem := ⟨[(128, [(tSl 2 4 5), (tVi 5), (tVi 6)]), (32, tTakeCmdb2)], ⟨8, 0, 0, 6, 3⟩⟩
set_option maxRecDepth 100000 in
theorem tTakeCmd : (runF ⟨tt, fns, { touch := [(84, [0])] }⟩ (Try.f83.body.getD .skip) Try.f83.results.toList (entry Try.f83.ntmps [.lf (.ptr 0 0)] [(128, [.sl 0 (.var 0) (.var 1), .int .i64 (.var 0), .int .i64 (.var 1)])] ⟨2, 0, 0, 2, 1⟩)) =
  (.call 84 [(.lf (.ptr 0 0))] ⟨[(128, [(tSl 0 0 1), (tVi 0), (tVi 1)]), (32, tTakeCmdb2)], ⟨2, 0, 0, 2, 1⟩⟩ (.lf (tVi 4)) tTakeCmdm4 (.call 84 [(.lf (.ptr 0 0))] tTakeCmdm4 (.lf (tVi 7)) tTakeCmdm5 (.call 84 [(.lf (.ptr 0 0))] tTakeCmdm5 (.lf (tVi 10)) ⟨[(128, [(tSl 3 6 7), (tVi 8), (tVi 9)]), (32, tTakeCmdb2)], ⟨11, 0, 0, 8, 4⟩⟩ (.call 84 [(.lf (.ptr 0 0))] ⟨[(128, [(tSl 3 6 7), (tVi 8), (tVi 9)]), (32, tTakeCmdb2), (32, tTakeCmdb1)], ⟨11, 0, 0, 8, 4⟩⟩ (.lf (tVi 13)) tTakeCmdm3 (.call 84 [(.lf (.ptr 0 0))] tTakeCmdm3 (.lf (tVi 16)) tTakeCmdm0 (.call 84 [(.lf (.ptr 0 0))] tTakeCmdm0 (.lf (tVi 19)) tTakeCmdm1 (.call 84 [(.lf (.ptr 0 0))] tTakeCmdm1 (.lf (tVi 22)) tTakeCmdm2 (.call 84 [(.lf (.ptr 0 0))] tTakeCmdm2 (.lf (tVi 25)) ⟨[(128, [(tSl 8 16 17), (tVi 23), (tVi 24)]), (32, tTakeCmdb2), (32, tTakeCmdb1)], ⟨26, 0, 0, 18, 9⟩⟩ (.done (.agg tTakeCmdb0) ⟨[(128, [(tSl 8 16 17), (tVi 23), (tVi 24)]), (32, tTakeCmdb0), (32, tTakeCmdb0)], ⟨26, 0, 0, 18, 9⟩⟩))))))))) := by kernel_rfl
set_option maxRecDepth 100000 in
theorem tInts : (runF ⟨tt, fns, { loops := [(4, ⟨[(13, .int .i64)], []⟩)] }⟩ (Try.f73.body.getD .skip) Try.f73.results.toList (entry Try.f73.ntmps [.lf (.sl 0 (.var 0) (.var 1)), .lf (.sl 1 (.var 2) (.var 3))] [] ⟨0, 0, 0, 4, 2⟩)) =
  (.br (.cmp .neq (.nat 0) (.nat 2)) (.done (.lf (.bool (.lit .false))) ⟨[], ⟨0, 0, 0, 4, 2⟩⟩) (.loop 4 ⟨[(.lit 0)], [], [], [], []⟩ ⟨[], ⟨0, 0, 0, 4, 2⟩⟩ ⟨[], ⟨1, 0, 0, 4, 2⟩⟩ (.br (.cmp .lss (.var 0) (.nat 0)) (.need (.inb 0 (.var 0) (.nat 0)) (.need (.inb 1 (.var 0) (.nat 2)) (.par (.ld .false (.adr 0 (.var 0) 1 0) [(tVi 1)] ⟨[], ⟨1, 0, 0, 4, 2⟩⟩ ⟨[], ⟨2, 0, 0, 4, 2⟩⟩ (.ld .false (.adr 1 (.var 0) 1 0) [(tVi 2)] ⟨[], ⟨2, 0, 0, 4, 2⟩⟩ ⟨[], ⟨3, 0, 0, 4, 2⟩⟩ (.br (.cmp .neq (.var 1) (.var 2)) (.done (.lf (.bool (.lit .false))) ⟨[], ⟨3, 0, 0, 4, 2⟩⟩) (.again 4 ⟨[(.op .add .i64 (.var 0) (.lit 1))], [], [], [], []⟩ ⟨[], ⟨3, 0, 0, 4, 2⟩⟩)))) (.ld .false (.adr 1 (.var 0) 1 0) [(tVi 1)] ⟨[], ⟨1, 0, 0, 4, 2⟩⟩ ⟨[], ⟨2, 0, 0, 4, 2⟩⟩ (.ld .false (.adr 0 (.var 0) 1 0) [(tVi 2)] ⟨[], ⟨2, 0, 0, 4, 2⟩⟩ ⟨[], ⟨3, 0, 0, 4, 2⟩⟩ (.br (.cmp .neq (.var 2) (.var 1)) (.done (.lf (.bool (.lit .false))) ⟨[], ⟨3, 0, 0, 4, 2⟩⟩) (.again 4 ⟨[(.op .add .i64 (.var 0) (.lit 1))], [], [], [], []⟩ ⟨[], ⟨3, 0, 0, 4, 2⟩⟩))))))) (.done (.lf (.bool (.lit .true))) ⟨[], ⟨1, 0, 0, 4, 2⟩⟩)))) := by kernel_rfl
abbrev tSameVm0 : Mem := ⟨[(27, [(tVi 0), (tSl 0 0 1), (tSl 1 2 3)]), (27, [(tVi 1), (tSl 2 4 5), (tSl 3 6 7)])], ⟨11, 1, 0, 8, 4⟩⟩
abbrev tSameVm1 : Mem := ⟨[(27, [(tVi 0), (tSl 0 0 1), (tSl 1 2 3)]), (27, [(tVi 1), (tSl 2 4 5), (tSl 3 6 7)])], ⟨19, 1, 0, 8, 4⟩⟩
abbrev tSameVm2 : Mem := ⟨[(27, [(tVi 0), (tSl 0 0 1), (tSl 1 2 3)]), (27, [(tVi 1), (tSl 2 4 5), (tSl 3 6 7)])], ⟨2, 0, 0, 8, 4⟩⟩
abbrev tSameVm3 : Mem := ⟨[(27, [(tVi 0), (tSl 0 0 1), (tSl 1 2 3)]), (27, [(tVi 1), (tSl 2 4 5), (tSl 3 6 7)])], ⟨2, 1, 0, 8, 4⟩⟩
abbrev tSameVm4 : Mem := ⟨[(27, [(tVi 0), (tSl 0 0 1), (tSl 1 2 3)]), (27, [(tVi 1), (tSl 2 4 5), (tSl 3 6 7)])], ⟨3, 1, 0, 8, 4⟩⟩
set_option maxRecDepth 100000 in
theorem tSameV : (runF ⟨tt, fns, { loops := [(4, ⟨[(31, .int .i64)], []⟩)] }⟩ (Try.f48.body.getD .skip) Try.f48.results.toList (entry Try.f48.ntmps [.agg [.int .i64 (.var 0), .sl 0 (.var 0) (.var 1), .sl 1 (.var 2) (.var 3)], .agg [.int .i64 (.var 1), .sl 2 (.var 4) (.var 5), .sl 3 (.var 6) (.var 7)]] [] ⟨2, 0, 0, 8, 4⟩)) =
  (.br (.cmp .neq (.var 0) (.var 1)) (.done (.lf (.bool (.lit .false))) tSameVm2) (.br (.cmp .neq (.nat 0) (.nat 4)) (.done (.lf (.bool (.lit .false))) tSameVm2) (.call 73 [(.lf (tSl 1 2 3)), (.lf (tSl 3 6 7))] tSameVm2 (.lf (.bool (.var 0))) tSameVm3 (.br (.not (.var 0)) (.done (.lf (.bool (.lit .false))) tSameVm3) (.loop 4 ⟨[(.lit 0)], [], [], [], []⟩ tSameVm3 tSameVm4 (.br (.cmp .lss (.var 2) (.nat 0)) (.need (.inb 0 (.var 2) (.nat 0)) (.need (.inb 2 (.var 2) (.nat 4)) (.par (.ld .false (.adr 0 (.var 2) 8 0) [(tVi 3), (tVi 4), (tVi 5), (tVi 6), (tVi 7), (tVi 8), (tVi 9), (tVi 10)] tSameVm4 tSameVm0 (.ld .false (.adr 2 (.var 2) 8 0) [(tVi 11), (tVi 12), (tVi 13), (tVi 14), (tVi 15), (tVi 16), (tVi 17), (tVi 18)] tSameVm0 tSameVm1 (.br (.not (.and (.cmp .eql (.var 3) (.var 11)) (.and (.cmp .eql (.var 4) (.var 12)) (.and (.cmp .eql (.var 5) (.var 13)) (.and (.cmp .eql (.var 6) (.var 14)) (.and (.cmp .eql (.var 7) (.var 15)) (.and (.cmp .eql (.var 8) (.var 16)) (.and (.cmp .eql (.var 9) (.var 17)) (.cmp .eql (.var 10) (.var 18)))))))))) (.done (.lf (.bool (.lit .false))) tSameVm1) (.again 4 ⟨[(.op .add .i64 (.var 2) (.lit 1))], [], [], [], []⟩ tSameVm1)))) (.ld .false (.adr 2 (.var 2) 8 0) [(tVi 3), (tVi 4), (tVi 5), (tVi 6), (tVi 7), (tVi 8), (tVi 9), (tVi 10)] tSameVm4 tSameVm0 (.ld .false (.adr 0 (.var 2) 8 0) [(tVi 11), (tVi 12), (tVi 13), (tVi 14), (tVi 15), (tVi 16), (tVi 17), (tVi 18)] tSameVm0 tSameVm1 (.br (.not (.and (.cmp .eql (.var 11) (.var 3)) (.and (.cmp .eql (.var 12) (.var 4)) (.and (.cmp .eql (.var 13) (.var 5)) (.and (.cmp .eql (.var 14) (.var 6)) (.and (.cmp .eql (.var 15) (.var 7)) (.and (.cmp .eql (.var 16) (.var 8)) (.and (.cmp .eql (.var 17) (.var 9)) (.cmp .eql (.var 18) (.var 10)))))))))) (.done (.lf (.bool (.lit .false))) tSameVm1) (.again 4 ⟨[(.op .add .i64 (.var 2) (.lit 1))], [], [], [], []⟩ tSameVm1))))))) (.done (.lf (.bool (.lit .true))) tSameVm4))))))) := by kernel_rfl
end Go.Proofs.Ytadgaefmoobcoaa

namespace Go.Eng
open Go.RowKit Go.Syn
set_option linter.unusedVariables false
theorem blk_cells {w : World} {b ty : Nat} {us : List Value} (h : Blk w b us ty) : Cells w (some ⟨b, 0, none⟩) us := fun h0 => by
  refine ⟨rfl, ?_, fun i u hi => ?_⟩
  · show b < w.heap.size
    rcases Nat.lt_or_ge b w.heap.size with q | q
    · exact q
    · have h2 : w.heap[b]? = _ := h
      rw [Array.getElem?_eq_none q] at h2; cases h2
  · have := cells_blk (o := 0) h i
    rw [Nat.zero_add] at this
    show w.cell? ⟨b, 0 + i, none⟩ = some u
    rw [Nat.zero_add, ← hi]
    exact this
section
variable {C : Cfg} {ρ : Env} {pre : List Nat} {hx hx2 : HX} {L : Stack} {m m' : Mem} {args : List SV} {r : SV} {t : Tree} {ids : List Nat} {w w' : World}
theorem node_out {f : Nat} (AS : List Nat → Array Value) (Q : Vals → HX → Prop) (hargs : ∀ ids, (args.map (SV.den ρ ids)).toArray = AS ids)
    (hcall : ∀ ids w, pre <+: ids → Facts C m ρ ids hx w → Calls C.P f (AS ids) w (fun e w' => ∃ vs hx2, Q vs hx2 ∧ e = .returned (r.den (ρ.add vs) ids) ∧ hx2.X w' ∧ (∀ k, hx2.F k → w.heap.size ≤ k ∧ k < w'.heap.size) ∧ Below w.heap.size w w'))
    (hhp : m'.hp = m.hp) (hfit : hpFits m.c m.hp.length m.hp = true) (hc : ∀ vs hx2, Q vs hx2 → (ρ.add vs).cnt = m'.c ∧ ∀ v, v ∈ vs.v → v.oneCell' = true)
    (h : ∀ vs hx2, Q vs hx2 → (∀ k, hx2.F k → C.W.heap.size ≤ k ∧ ¬ hx.F k) → t.holds C (ρ.add vs) pre (hx.and hx2) L) : (Tree.call f args m r m' t).holds C ρ pre hx L := by
  intro ids w hp hf
  rw [hargs]
  refine (hcall ids w hp hf).mono ?_
  rintro e w' ⟨vs, hx2, hQ, rfl, hX, hge, hbel⟩
  have hg : w.grownBy w' none := ⟨hbel.os, hbel.tape, hbel.output, hbel.size, fun k hk _ => hbel.block k hk⟩
  refine ⟨vs, ids, _, rfl, List.prefix_refl _, hf.turn (hx' := hx.and hx2) hg (fun b e => by cases e) ⟨hx.loc w w' hf.x fun k hk => hbel.block k (hf.sep k hk).1, hX⟩ (fun k hk => ?_) hhp hfit (hc _ _ hQ).1 (hc _ _ hQ).2, holds_pre t hp (h vs hx2 hQ (fun k h2 => ⟨Nat.le_trans hf.chg.size (hge k h2).1, fun q => by have := (hf.sep _ q).1; have := (hge k h2).1; omega⟩))⟩
  rcases hk with hk | hk
  · exact .inl hk
  · exact .inr (hge k hk)
theorem holds_env {ρ' : Env} (e : ρ = ρ') (h : t.holds C ρ' pre hx L) : t.holds C ρ pre hx L := e ▸ h
theorem holds_eq {hx' : HX} (e : hx = hx') (h : t.holds C ρ pre hx' L) : t.holds C ρ pre hx L := e ▸ h
theorem need_k {p : Need} (P : Prop) (he : p.den ρ = P) (hp : P) (h : t.holds C ρ pre hx L) : (Tree.need p t).holds C ρ pre hx L := by
  have hd : p.den ρ := he.mpr hp
  exact ⟨hd, fun _ => h⟩
theorem node_PI {f : Nat} (vs : Vals) (AS : List Nat → Array Value) (V : Value) (hargs : ∀ ids, (args.map (SV.den ρ ids)).toArray = AS ids) (hr : ∀ ids, r.den (ρ.add vs) ids = V) (hhp : m'.hp = m.hp) (hfit : hpFits m.c m.hp.length m.hp = true) (hc : (ρ.add vs).cnt = m'.c) (h1 : ∀ v, v ∈ vs.v → v.oneCell' = true) (hcall : ∀ ids w, pre <+: ids → Facts C m ρ ids hx w → Calls C.P f (AS ids) w (PureAt w V))
    (h : t.holds C (ρ.add vs) pre hx L) : (Tree.call f args m r m' t).holds C ρ pre hx L :=
  node_pure vs hhp hfit hc h1 (fun ids w hp hf => by rw [hargs, hr]; exact hcall ids w hp hf) h
theorem node_ldk {l : LV} {cs : List LV} (vs : Vals) (V : List Nat → Value) (us : List Value) (hl : ∀ ids, l.den ρ ids = V ids) (hcs : ∀ ids, cellsDen (ρ.add vs) ids cs = us) (hcell : ∀ ids w, pre <+: ids → Facts C m ρ ids hx w → CellsAt w (V ids) us (fun _ => False)) (hc : (ρ.add vs).cnt = m'.c) (h1 : ∀ v, v ∈ vs.v → v.oneCell' = true)
    (h : t.holds C (ρ.add vs) pre hx L) : (Tree.ld true l cs m m' t).holds C ρ pre hx L :=
  node_ld vs (fun ids w hp hf => by rw [hl, hcs]; exact hcell ids w hp hf) (fun ids w hf => envUp hf hc h1) h
theorem node_ld0 {l : LV} {cs : List LV} {k : Cnt} (vs : Vals) (V : Value) (us : List Value) (hl : ∀ ids, l.den ρ ids = V) (hcs : ∀ ids, cellsDen (ρ.add vs) ids cs = us) (hcell : CellsAt C.W V us C.M) (hρ : EnvOk ρ k) (hc : (ρ.add vs).cnt = m'.c) (h1 : ∀ v, v ∈ vs.v → v.oneCell' = true)
    (h : t.holds C (ρ.add vs) pre hx L) : (Tree.ld false l cs m m' t).holds C ρ pre hx L :=
  ⟨vs, fun ids => by rw [hl, hcs]; exact hcell, ⟨hc, fun v hv => by
    simp only [Env.add, List.mem_append] at hv
    exact hv.elim (hρ.one v) (h1 v)⟩, h⟩
end
end Go.Eng

namespace Go.Eng
open Go.RowKit Go.Syn
set_option linter.unusedVariables false
theorem flat_drop {α : Type} {f : α → List Value} {n : Nat} (hf : ∀ x, (f x).length = n) (es : List α) : ∀ i, (es.flatMap f).drop (i * n) = (es.drop i).flatMap f := by
  induction es with
  | nil => intro i; simp
  | cons x r ih =>
    intro i
    cases i with
    | zero => simp
    | succ i =>
      rw [List.drop_succ_cons, List.flatMap_cons, List.drop_append, hf, List.drop_of_length_le (by rw [hf, Nat.add_mul]; omega), List.nil_append, show (i + 1) * n - n = i * n by rw [Nat.add_mul]; omega, ih]
theorem flat_get {α : Type} {f : α → List Value} {n : Nat} (hf : ∀ x, (f x).length = n) {es : List α} {i : Nat} {e : α} (h : es[i]? = some e) {j : Nat} {u : Value} (hj : (f e)[j]? = some u) : (es.flatMap f)[i * n + j]? = some u := by
  obtain ⟨hi, he⟩ := List.getElem?_eq_some_iff.1 h
  have h1 : (es.flatMap f).drop (i * n) = f e ++ (es.drop (i + 1)).flatMap f := by
    rw [flat_drop hf, List.drop_eq_getElem_cons hi, he, List.flatMap_cons]
  have hl : j < (f e).length := by
    rcases Nat.lt_or_ge j (f e).length with q | q
    · exact q
    · rw [List.getElem?_eq_none q] at hj; cases hj
  rw [← List.getElem?_drop, h1, List.getElem?_append_left hl]; exact hj
theorem flat_part {α : Type} {f : α → List Value} {n : Nat} (hf : ∀ x, (f x).length = n) {w : World} {a : Option Addr} {es : List α} (h : Cells w a (es.flatMap f)) {i : Nat} {e : α} (hi : es[i]? = some e) {o : Nat} (us : List Value) (hu : ∀ j u, us[j]? = some u → (f e)[o + j]? = some u) (h0 : us ≠ []) :
    a.isSome = true ∧ ∀ (N : Nat → Prop), ¬ N ((a.getD ⟨0, 0, none⟩).block) → CellsAt w (.pointer (some (((a.getD ⟨0, 0, none⟩).add (i * n)).add o))) us N :=
  cl_part h us (fun j u hj => by rw [Nat.add_assoc]; exact flat_get hf hi (hu j u hj)) h0
section
variable {C : Cfg} {ρ : Env} {pre : List Nat} {hx : HX} {L : Stack} {m m' : Mem} {args : List SV} {r : SV} {t : Tree}
end
end Go.Eng

namespace Go.Eng
open Go.RowKit Go.Syn
set_option linter.unusedVariables false
section
variable {C : Cfg} {ρ : Env} {pre : List Nat} {rest hx : HX} {L : Stack} {m m' : Mem} {ty : Nat} {ps : List (Nat × SV)} {t : Tree}
theorem node_upto {st e : TypeId} {xo hi : Operand} {r : SV} {z : Value} {n cap u sz bytes : Nat} (a : Option Addr) (ht : C.P.underlying st = some (.slice e)) (hel : C.P.elem st = e) (hinfo : (C.P.info? e).map (fun i => (i.zero, i.size, i.bytes)) = some (some z, sz, bytes))
    (hxo : ∀ ids, envOf ρ ids ps xo = .slice a n cap) (hhi : ∀ ids, envOf ρ ids ps hi = .int .i64 (u : Int)) (hu : ∀ ids w, Facts C m ρ ids hx w → u ≤ cap)
    (hr : ∀ ids, r.den (ρ.add ⟨[], [], [], [u, cap], [sliA a 0 cap sz]⟩) ids = .slice (sliA a 0 cap sz) u cap) (hhp : m'.hp = m.hp) (hfit : hpFits m.c m.hp.length m.hp = true) (hc : (ρ.add ⟨[], [], [], [u, cap], [sliA a 0 cap sz]⟩).cnt = m'.c)
    (h : t.holds C (ρ.add ⟨[], [], [], [u, cap], [sliA a 0 cap sz]⟩) pre hx L) :
    (Tree.gen (.slice st xo none (some hi) none) ty ps m (some r) m' t).holds C ρ pre hx L := by
  obtain ⟨i0, hi', hz0, hz1, hz2⟩ := info_parts hinfo
  refine node_gpure (V := .slice (sliA a 0 cap sz) u cap) _ (fun ids w hp hf => ?_) hr hhp hfit hc oneNil h
  have hu := hu ids w hf
  have hsize : (sizeOf (C.P.elem st)).run C.P w = .ok sz w := by
    rw [hel]; simp [sizeOf, typeInfo, hi', hz1]
  have ht' : C.P.underlying st = some (.slice (C.P.elem st)) := by rw [ht, hel]
  have hrun : (Instr.sliceAt st (.slice a n cap) none (some (.int .i64 (u : Int))) none).run C.P w = .ok (.slice (sliA a 0 cap sz) u cap) w := by
    rw [run_sliceAt_slice w st _ _ _ _ ht', run_slice_h w st a n cap ht' .i64 (u : Int) (by omega) (by omega), hsize]
    simp [Result.andThen, sliced, sliA]
  simp only [execOp, hxo, hhi, Sem.run_bind, Sem.run_pure, Result.andThen_ok, Option.map_none, Option.map_some, hrun]
end
end Go.Eng

namespace Go.Eng
set_option linter.unusedVariables false
set_option linter.unusedSimpArgs false
def blen (u : Nat) : Nat := if u = 0 then 0 else u.log2 + 1
def nlen (u : Nat) : Nat := (blen u + 7) / 8
def digs : Nat → Nat → List Int
  | 0, _ => []
  | n + 1, u => digs n (u / 256) ++ [((u % 256 : Nat) : Int)]
def numB (u : Nat) : List Int := (nlen u : Int) :: digs (nlen u) u
def Byt (bs : List Int) : Prop := ∀ b ∈ bs, 0 ≤ b ∧ b < 256
def valB (ds : List Int) : Nat := ds.foldl (fun a d => 256 * a + d.toNat) 0
theorem digs_len : ∀ (n u : Nat), (digs n u).length = n
  | 0, _ => rfl
  | n + 1, u => by simp [digs, digs_len n]
theorem digs_front : ∀ (n u : Nat), digs (n + 1) u = ((u / 256 ^ n % 256 : Nat) : Int) :: digs n u
  | 0, u => by simp [digs]
  | n + 1, u => by
    rw [digs, digs_front n (u / 256), digs, List.cons_append, Nat.div_div_eq_div_mul, show 256 * 256 ^ n = 256 ^ (n + 1) by rw [Nat.pow_succ, Nat.mul_comm]]
theorem digs_get : ∀ (n u j : Nat), j < n → (digs n u)[j]? = some ((u / 256 ^ (n - 1 - j) % 256 : Nat) : Int)
  | 0, _, _, h => by omega
  | n + 1, u, 0, _ => by rw [digs_front]; rfl
  | n + 1, u, j + 1, h => by
    rw [digs_front, List.getElem?_cons_succ, digs_get n u j (by omega)]
    rw [show n - 1 - j = n + 1 - 1 - (j + 1) by omega]
theorem valB_snoc (ds : List Int) (d : Int) : valB (ds ++ [d]) = 256 * valB ds + d.toNat := by simp [valB]
theorem valB_digs : ∀ (n u : Nat), valB (digs n u) = u % 256 ^ n
  | 0, u => by simp [digs, valB, Nat.mod_one]
  | n + 1, u => by
    rw [digs, valB_snoc, valB_digs n, Int.toNat_natCast]
    have h1 : u % 256 ^ (n + 1) = 256 * (u / 256 % 256 ^ n) + u % 256 := by
      rw [Nat.pow_succ, Nat.mul_comm (256 ^ n) 256, Nat.mod_mul]; omega
    omega
theorem blen_lt {u k : Nat} (h : u < 2 ^ k) : blen u ≤ k := by
  unfold blen
  split
  · omega
  · rename_i h0
    have := (Nat.log2_lt h0).2 h
    omega
theorem lt_blen (u : Nat) : u < 2 ^ blen u := by
  unfold blen
  split
  · rename_i h; rw [h]; decide
  · exact Nat.lt_log2_self
theorem blen_ge {u k : Nat} (h : 2 ^ k ≤ u) : k < blen u := by
  rcases Nat.lt_or_ge k (blen u) with q | q
  · exact q
  · have h1 := lt_blen u
    have h2 : 2 ^ blen u ≤ 2 ^ k := Nat.pow_le_pow_right (by decide) q
    omega
theorem nlen_le {u k : Nat} (h : u < 256 ^ k) : nlen u ≤ k := by
  have h1 : (256 : Nat) ^ k = 2 ^ (8 * k) := by rw [Nat.pow_mul]
  have := blen_lt (h1 ▸ h)
  unfold nlen; omega
theorem nlen_gt {u k : Nat} (h : 256 ^ k ≤ u) : k < nlen u := by
  have h1 : (256 : Nat) ^ k = 2 ^ (8 * k) := by rw [Nat.pow_mul]
  have := blen_ge (h1 ▸ h)
  unfold nlen; omega
theorem nlen_8 {u : Nat} (h : u < 2 ^ 64) : nlen u ≤ 8 := nlen_le (k := 8) (by simpa using h)
theorem valB_lt : ∀ {ds : List Int}, Byt ds → valB ds < 256 ^ ds.length := by
  intro ds
  have key : ∀ (ds : List Int) (a k : Nat), a < 256 ^ k → Byt ds → ds.foldl (fun a d => 256 * a + d.toNat) a < 256 ^ (k + ds.length) := by
    intro ds
    induction ds with
    | nil => intro a k h _; simpa using h
    | cons d r ih =>
      intro a k h hb
      have h1 := hb d (by simp)
      have := ih (256 * a + d.toNat) (k + 1) (by rw [Nat.pow_succ]; omega) (fun b q => hb b (by simp [q]))
      rw [List.foldl_cons, List.length_cons, show k + (r.length + 1) = k + 1 + r.length by omega]
      exact this
  intro h
  have := key ds 0 0 (by decide) h
  simpa [valB] using this
theorem digs_valB {ds : List Int} (h : Byt ds) : digs ds.length (valB ds) = ds := by
  induction hn : ds.length generalizing ds with
  | zero =>
    have : ds = [] := List.length_eq_zero_iff.1 hn
    subst this; rfl
  | succ n ih =>
    have hne : ds ≠ [] := by intro e; subst e; simp at hn
    obtain ⟨l, d, rfl⟩ : ∃ l d, ds = l ++ [d] := ⟨ds.dropLast, ds.getLast hne, (List.dropLast_concat_getLast hne).symm⟩
    have hl : l.length = n := by simpa using hn
    have hd := h d (by simp)
    have hb : Byt l := fun b q => h b (by simp [q])
    rw [digs, valB_snoc]
    have e1 : (256 * valB l + d.toNat) / 256 = valB l := by omega
    have e2 : (256 * valB l + d.toNat) % 256 = d.toNat := by omega
    rw [e1, e2, ih hb hl]
    congr 1
    simp only [List.cons.injEq, and_true]
    omega
theorem nlen_valB {ds : List Int} (h : Byt ds) : nlen (valB ds) = ds.length ↔ ¬ (ds ≠ [] ∧ ds.headD 0 = 0) := by
  cases ds with
  | nil => simp [valB, nlen, blen]
  | cons d r =>
    have hd := h d (by simp)
    have hb : Byt r := fun b q => h b (by simp [q])
    have hv : valB (d :: r) = d.toNat * 256 ^ r.length + valB r := by
      have h1 := digs_valB h
      rw [List.length_cons, digs_front] at h1
      obtain ⟨h2, h3⟩ := List.cons.inj h1
      have h4 : valB (digs r.length (valB (d :: r))) = valB r := by rw [h3]
      rw [valB_digs] at h4
      have h5 : valB (d :: r) / 256 ^ r.length < 256 := by
        rw [Nat.div_lt_iff_lt_mul (Nat.pow_pos (by decide))]
        have := valB_lt h
        rwa [List.length_cons, Nat.pow_succ, Nat.mul_comm] at this
      have h6 := Nat.div_add_mod (valB (d :: r)) (256 ^ r.length)
      have h7 : valB (d :: r) / 256 ^ r.length = d.toNat := by
        rw [Nat.mod_eq_of_lt h5] at h2
        exact (Int.toNat_natCast _).symm.trans (congrArg Int.toNat h2)
      rw [h7, h4, Nat.mul_comm] at h6
      exact h6.symm
    have hr := valB_lt hb
    simp only [ne_eq, reduceCtorEq, not_false_eq_true, List.headD_cons, true_and, List.length_cons]
    constructor
    · intro e h0
      have : valB (d :: r) < 256 ^ r.length := by rw [hv, h0]; simpa using hr
      have := nlen_le this
      omega
    · intro h0
      have h1 : 256 ^ r.length ≤ valB (d :: r) := by
        rw [hv]
        have : 1 * 256 ^ r.length ≤ d.toNat * 256 ^ r.length := Nat.mul_le_mul_right _ (by omega)
        omega
      have := nlen_gt h1
      have h2 := nlen_le (valB_lt h)
      rw [List.length_cons] at h2
      omega
def readN (l : List Int) (bad : Int) : List Int × Int × Nat :=
  if bad ≠ 0 then (l, bad, 0) else
  match l with
  | [] => (l, 10, 0)
  | n :: r => if 8 < n then (l, 11, 0) else if r.length < n.toNat then (l, 10, 0) else if nlen (valB (r.take n.toNat)) ≠ n.toNat then (l, 11, 0) else (r.drop n.toNat, 0, valB (r.take n.toNat))
def readC (most : Int) (l : List Int) (bad : Int) : List Int × Int × Nat :=
  let r := readN l bad
  if ((max 0 most).toNat) < r.2.2 then (r.1, 12, 0) else r
theorem readN_ok {l : List Int} {bad : Int} (hb : Byt l) (h : (readN l bad).2.1 = 0) : bad = 0 ∧ l = numB (readN l bad).2.2 ++ (readN l bad).1 ∧ (readN l bad).2.2 < 2 ^ 64 := by
  unfold readN at *
  by_cases h0 : bad = 0
  · rw [if_neg (by simpa using h0)] at *
    cases l with
    | nil => simp at h
    | cons n r =>
      have hn := hb n (by simp)
      have hr : Byt r := fun b q => hb b (by simp [q])
      simp only at *
      by_cases h1 : 8 < n
      · rw [if_pos h1] at h; simp at h
      · rw [if_neg h1] at *
        by_cases h2 : r.length < n.toNat
        · rw [if_pos h2] at h; simp at h
        · rw [if_neg h2] at *
          by_cases h3 : nlen (valB (r.take n.toNat)) ≠ n.toNat
          · rw [if_pos h3] at h; simp at h
          · rw [if_neg h3] at *
            have h3 : nlen (valB (r.take n.toNat)) = n.toNat := Decidable.not_not.1 h3
            have hbt : Byt (r.take n.toNat) := fun b q => hr b (List.mem_of_mem_take q)
            have hlt : (r.take n.toNat).length = n.toNat := by rw [List.length_take]; omega
            refine ⟨h0, ?_, ?_⟩
            · unfold numB
              rw [h3]
              have := digs_valB hbt
              rw [hlt] at this
              rw [this, List.cons_append, List.take_append_drop]
              congr 1; omega
            · have := valB_lt hbt
              rw [hlt] at this
              exact Nat.lt_of_lt_of_le this (by
                have : (256 : Nat) ^ n.toNat ≤ 256 ^ 8 := Nat.pow_le_pow_right (by decide) (by omega)
                simpa using this)
  · rw [if_pos h0] at h; exact absurd h h0
def foldN (i : Int) : Nat := if 0 ≤ i then (2 * i).toNat else (-2 * i - 1).toNat
def unfoldN (u : Nat) : Int := if u % 2 = 0 then ((u / 2 : Nat) : Int) else -((u / 2 : Nat) : Int) - 1
theorem foldN_lt {i : Int} (h : -9223372036854775808 ≤ i ∧ i ≤ 9223372036854775807) : foldN i < 2 ^ 64 := by
  unfold foldN; split <;> omega
end Go.Eng

namespace Go.Proofs.Ytadgaefmoobcoaa
open Go.Eng
set_option maxRecDepth 100000 in
theorem tLen64 : (runF ⟨tt, fns, {}⟩ (Try.f89.body.getD .skip) Try.f89.results.toList (entry Try.f89.ntmps [.lf (.int .u64 (.var 0))] [] ⟨1, 0, 0, 0, 0⟩)) =
  (.br (.cmp .geq (.var 0) (.lit 4294967296)) (.br (.cmp .geq (.op .shr .u64 (.var 0) (.lit 32)) (.lit 65536)) (.br (.cmp .geq (.op .shr .u64 (.op .shr .u64 (.var 0) (.lit 32)) (.lit 16)) (.lit 256)) (.gen (.index 9 (.const (.string ⟨#[0, 1, 2, 2, 3, 3, 3, 3, 4, 4, 4, 4, 4, 4, 4, 4, 5, 5, 5, 5, 5, 5, 5, 5, 5, 5, 5, 5, 5, 5, 5, 5, 6, 6, 6, 6, 6, 6, 6, 6, 6, 6, 6, 6, 6, 6, 6, 6, 6, 6, 6, 6, 6, 6, 6, 6, 6, 6, 6, 6, 6, 6, 6, 6, 7, 7, 7, 7, 7, 7, 7, 7, 7, 7, 7, 7, 7, 7, 7, 7, 7, 7, 7, 7, 7, 7, 7, 7, 7, 7, 7, 7, 7, 7, 7, 7, 7, 7, 7, 7, 7, 7, 7, 7, 7, 7, 7, 7, 7, 7, 7, 7, 7, 7, 7, 7, 7, 7, 7, 7, 7, 7, 7, 7, 7, 7, 7, 7, 8, 8, 8, 8, 8, 8, 8, 8, 8, 8, 8, 8, 8, 8, 8, 8, 8, 8, 8, 8, 8, 8, 8, 8, 8, 8, 8, 8, 8, 8, 8, 8, 8, 8, 8, 8, 8, 8, 8, 8, 8, 8, 8, 8, 8, 8, 8, 8, 8, 8, 8, 8, 8, 8, 8, 8, 8, 8, 8, 8, 8, 8, 8, 8, 8, 8, 8, 8, 8, 8, 8, 8, 8, 8, 8, 8, 8, 8, 8, 8, 8, 8, 8, 8, 8, 8, 8, 8, 8, 8, 8, 8, 8, 8, 8, 8, 8, 8, 8, 8, 8, 8, 8, 8, 8, 8, 8, 8, 8, 8, 8, 8, 8, 8, 8, 8, 8, 8, 8, 8, 8, 8, 8, 8, 8, 8, 8, 8]⟩)) (.tmp 21)) 5 [(21, (.lf (.int .u8 (.conv .u8 (.op .shr .u64 (.op .shr .u64 (.op .shr .u64 (.var 0) (.lit 32)) (.lit 16)) (.lit 8))))))] ⟨[], ⟨1, 0, 0, 0, 0⟩⟩ (.some (.lf (.int .u8 (.var 1)))) ⟨[], ⟨2, 0, 0, 0, 0⟩⟩ (.done (.lf (.int .i64 (.op .add .i64 (.lit 56) (.conv .i64 (.var 1))))) ⟨[], ⟨2, 0, 0, 0, 0⟩⟩)) (.gen (.index 9 (.const (.string ⟨#[0, 1, 2, 2, 3, 3, 3, 3, 4, 4, 4, 4, 4, 4, 4, 4, 5, 5, 5, 5, 5, 5, 5, 5, 5, 5, 5, 5, 5, 5, 5, 5, 6, 6, 6, 6, 6, 6, 6, 6, 6, 6, 6, 6, 6, 6, 6, 6, 6, 6, 6, 6, 6, 6, 6, 6, 6, 6, 6, 6, 6, 6, 6, 6, 7, 7, 7, 7, 7, 7, 7, 7, 7, 7, 7, 7, 7, 7, 7, 7, 7, 7, 7, 7, 7, 7, 7, 7, 7, 7, 7, 7, 7, 7, 7, 7, 7, 7, 7, 7, 7, 7, 7, 7, 7, 7, 7, 7, 7, 7, 7, 7, 7, 7, 7, 7, 7, 7, 7, 7, 7, 7, 7, 7, 7, 7, 7, 7, 8, 8, 8, 8, 8, 8, 8, 8, 8, 8, 8, 8, 8, 8, 8, 8, 8, 8, 8, 8, 8, 8, 8, 8, 8, 8, 8, 8, 8, 8, 8, 8, 8, 8, 8, 8, 8, 8, 8, 8, 8, 8, 8, 8, 8, 8, 8, 8, 8, 8, 8, 8, 8, 8, 8, 8, 8, 8, 8, 8, 8, 8, 8, 8, 8, 8, 8, 8, 8, 8, 8, 8, 8, 8, 8, 8, 8, 8, 8, 8, 8, 8, 8, 8, 8, 8, 8, 8, 8, 8, 8, 8, 8, 8, 8, 8, 8, 8, 8, 8, 8, 8, 8, 8, 8, 8, 8, 8, 8, 8, 8, 8, 8, 8, 8, 8, 8, 8, 8, 8, 8, 8, 8, 8, 8, 8, 8, 8]⟩)) (.tmp 21)) 5 [(21, (.lf (.int .u8 (.conv .u8 (.op .shr .u64 (.op .shr .u64 (.var 0) (.lit 32)) (.lit 16))))))] ⟨[], ⟨1, 0, 0, 0, 0⟩⟩ (.some (.lf (.int .u8 (.var 1)))) ⟨[], ⟨2, 0, 0, 0, 0⟩⟩ (.done (.lf (.int .i64 (.op .add .i64 (.lit 48) (.conv .i64 (.var 1))))) ⟨[], ⟨2, 0, 0, 0, 0⟩⟩))) (.br (.cmp .geq (.op .shr .u64 (.var 0) (.lit 32)) (.lit 256)) (.gen (.index 9 (.const (.string ⟨#[0, 1, 2, 2, 3, 3, 3, 3, 4, 4, 4, 4, 4, 4, 4, 4, 5, 5, 5, 5, 5, 5, 5, 5, 5, 5, 5, 5, 5, 5, 5, 5, 6, 6, 6, 6, 6, 6, 6, 6, 6, 6, 6, 6, 6, 6, 6, 6, 6, 6, 6, 6, 6, 6, 6, 6, 6, 6, 6, 6, 6, 6, 6, 6, 7, 7, 7, 7, 7, 7, 7, 7, 7, 7, 7, 7, 7, 7, 7, 7, 7, 7, 7, 7, 7, 7, 7, 7, 7, 7, 7, 7, 7, 7, 7, 7, 7, 7, 7, 7, 7, 7, 7, 7, 7, 7, 7, 7, 7, 7, 7, 7, 7, 7, 7, 7, 7, 7, 7, 7, 7, 7, 7, 7, 7, 7, 7, 7, 8, 8, 8, 8, 8, 8, 8, 8, 8, 8, 8, 8, 8, 8, 8, 8, 8, 8, 8, 8, 8, 8, 8, 8, 8, 8, 8, 8, 8, 8, 8, 8, 8, 8, 8, 8, 8, 8, 8, 8, 8, 8, 8, 8, 8, 8, 8, 8, 8, 8, 8, 8, 8, 8, 8, 8, 8, 8, 8, 8, 8, 8, 8, 8, 8, 8, 8, 8, 8, 8, 8, 8, 8, 8, 8, 8, 8, 8, 8, 8, 8, 8, 8, 8, 8, 8, 8, 8, 8, 8, 8, 8, 8, 8, 8, 8, 8, 8, 8, 8, 8, 8, 8, 8, 8, 8, 8, 8, 8, 8, 8, 8, 8, 8, 8, 8, 8, 8, 8, 8, 8, 8, 8, 8, 8, 8, 8, 8]⟩)) (.tmp 21)) 5 [(21, (.lf (.int .u8 (.conv .u8 (.op .shr .u64 (.op .shr .u64 (.var 0) (.lit 32)) (.lit 8))))))] ⟨[], ⟨1, 0, 0, 0, 0⟩⟩ (.some (.lf (.int .u8 (.var 1)))) ⟨[], ⟨2, 0, 0, 0, 0⟩⟩ (.done (.lf (.int .i64 (.op .add .i64 (.lit 40) (.conv .i64 (.var 1))))) ⟨[], ⟨2, 0, 0, 0, 0⟩⟩)) (.gen (.index 9 (.const (.string ⟨#[0, 1, 2, 2, 3, 3, 3, 3, 4, 4, 4, 4, 4, 4, 4, 4, 5, 5, 5, 5, 5, 5, 5, 5, 5, 5, 5, 5, 5, 5, 5, 5, 6, 6, 6, 6, 6, 6, 6, 6, 6, 6, 6, 6, 6, 6, 6, 6, 6, 6, 6, 6, 6, 6, 6, 6, 6, 6, 6, 6, 6, 6, 6, 6, 7, 7, 7, 7, 7, 7, 7, 7, 7, 7, 7, 7, 7, 7, 7, 7, 7, 7, 7, 7, 7, 7, 7, 7, 7, 7, 7, 7, 7, 7, 7, 7, 7, 7, 7, 7, 7, 7, 7, 7, 7, 7, 7, 7, 7, 7, 7, 7, 7, 7, 7, 7, 7, 7, 7, 7, 7, 7, 7, 7, 7, 7, 7, 7, 8, 8, 8, 8, 8, 8, 8, 8, 8, 8, 8, 8, 8, 8, 8, 8, 8, 8, 8, 8, 8, 8, 8, 8, 8, 8, 8, 8, 8, 8, 8, 8, 8, 8, 8, 8, 8, 8, 8, 8, 8, 8, 8, 8, 8, 8, 8, 8, 8, 8, 8, 8, 8, 8, 8, 8, 8, 8, 8, 8, 8, 8, 8, 8, 8, 8, 8, 8, 8, 8, 8, 8, 8, 8, 8, 8, 8, 8, 8, 8, 8, 8, 8, 8, 8, 8, 8, 8, 8, 8, 8, 8, 8, 8, 8, 8, 8, 8, 8, 8, 8, 8, 8, 8, 8, 8, 8, 8, 8, 8, 8, 8, 8, 8, 8, 8, 8, 8, 8, 8, 8, 8, 8, 8, 8, 8, 8, 8]⟩)) (.tmp 21)) 5 [(21, (.lf (.int .u8 (.conv .u8 (.op .shr .u64 (.var 0) (.lit 32))))))] ⟨[], ⟨1, 0, 0, 0, 0⟩⟩ (.some (.lf (.int .u8 (.var 1)))) ⟨[], ⟨2, 0, 0, 0, 0⟩⟩ (.done (.lf (.int .i64 (.op .add .i64 (.lit 32) (.conv .i64 (.var 1))))) ⟨[], ⟨2, 0, 0, 0, 0⟩⟩)))) (.br (.cmp .geq (.var 0) (.lit 65536)) (.br (.cmp .geq (.op .shr .u64 (.var 0) (.lit 16)) (.lit 256)) (.gen (.index 9 (.const (.string ⟨#[0, 1, 2, 2, 3, 3, 3, 3, 4, 4, 4, 4, 4, 4, 4, 4, 5, 5, 5, 5, 5, 5, 5, 5, 5, 5, 5, 5, 5, 5, 5, 5, 6, 6, 6, 6, 6, 6, 6, 6, 6, 6, 6, 6, 6, 6, 6, 6, 6, 6, 6, 6, 6, 6, 6, 6, 6, 6, 6, 6, 6, 6, 6, 6, 7, 7, 7, 7, 7, 7, 7, 7, 7, 7, 7, 7, 7, 7, 7, 7, 7, 7, 7, 7, 7, 7, 7, 7, 7, 7, 7, 7, 7, 7, 7, 7, 7, 7, 7, 7, 7, 7, 7, 7, 7, 7, 7, 7, 7, 7, 7, 7, 7, 7, 7, 7, 7, 7, 7, 7, 7, 7, 7, 7, 7, 7, 7, 7, 8, 8, 8, 8, 8, 8, 8, 8, 8, 8, 8, 8, 8, 8, 8, 8, 8, 8, 8, 8, 8, 8, 8, 8, 8, 8, 8, 8, 8, 8, 8, 8, 8, 8, 8, 8, 8, 8, 8, 8, 8, 8, 8, 8, 8, 8, 8, 8, 8, 8, 8, 8, 8, 8, 8, 8, 8, 8, 8, 8, 8, 8, 8, 8, 8, 8, 8, 8, 8, 8, 8, 8, 8, 8, 8, 8, 8, 8, 8, 8, 8, 8, 8, 8, 8, 8, 8, 8, 8, 8, 8, 8, 8, 8, 8, 8, 8, 8, 8, 8, 8, 8, 8, 8, 8, 8, 8, 8, 8, 8, 8, 8, 8, 8, 8, 8, 8, 8, 8, 8, 8, 8, 8, 8, 8, 8, 8, 8]⟩)) (.tmp 21)) 5 [(21, (.lf (.int .u8 (.conv .u8 (.op .shr .u64 (.op .shr .u64 (.var 0) (.lit 16)) (.lit 8))))))] ⟨[], ⟨1, 0, 0, 0, 0⟩⟩ (.some (.lf (.int .u8 (.var 1)))) ⟨[], ⟨2, 0, 0, 0, 0⟩⟩ (.done (.lf (.int .i64 (.op .add .i64 (.lit 24) (.conv .i64 (.var 1))))) ⟨[], ⟨2, 0, 0, 0, 0⟩⟩)) (.gen (.index 9 (.const (.string ⟨#[0, 1, 2, 2, 3, 3, 3, 3, 4, 4, 4, 4, 4, 4, 4, 4, 5, 5, 5, 5, 5, 5, 5, 5, 5, 5, 5, 5, 5, 5, 5, 5, 6, 6, 6, 6, 6, 6, 6, 6, 6, 6, 6, 6, 6, 6, 6, 6, 6, 6, 6, 6, 6, 6, 6, 6, 6, 6, 6, 6, 6, 6, 6, 6, 7, 7, 7, 7, 7, 7, 7, 7, 7, 7, 7, 7, 7, 7, 7, 7, 7, 7, 7, 7, 7, 7, 7, 7, 7, 7, 7, 7, 7, 7, 7, 7, 7, 7, 7, 7, 7, 7, 7, 7, 7, 7, 7, 7, 7, 7, 7, 7, 7, 7, 7, 7, 7, 7, 7, 7, 7, 7, 7, 7, 7, 7, 7, 7, 8, 8, 8, 8, 8, 8, 8, 8, 8, 8, 8, 8, 8, 8, 8, 8, 8, 8, 8, 8, 8, 8, 8, 8, 8, 8, 8, 8, 8, 8, 8, 8, 8, 8, 8, 8, 8, 8, 8, 8, 8, 8, 8, 8, 8, 8, 8, 8, 8, 8, 8, 8, 8, 8, 8, 8, 8, 8, 8, 8, 8, 8, 8, 8, 8, 8, 8, 8, 8, 8, 8, 8, 8, 8, 8, 8, 8, 8, 8, 8, 8, 8, 8, 8, 8, 8, 8, 8, 8, 8, 8, 8, 8, 8, 8, 8, 8, 8, 8, 8, 8, 8, 8, 8, 8, 8, 8, 8, 8, 8, 8, 8, 8, 8, 8, 8, 8, 8, 8, 8, 8, 8, 8, 8, 8, 8, 8, 8]⟩)) (.tmp 21)) 5 [(21, (.lf (.int .u8 (.conv .u8 (.op .shr .u64 (.var 0) (.lit 16))))))] ⟨[], ⟨1, 0, 0, 0, 0⟩⟩ (.some (.lf (.int .u8 (.var 1)))) ⟨[], ⟨2, 0, 0, 0, 0⟩⟩ (.done (.lf (.int .i64 (.op .add .i64 (.lit 16) (.conv .i64 (.var 1))))) ⟨[], ⟨2, 0, 0, 0, 0⟩⟩))) (.br (.cmp .geq (.var 0) (.lit 256)) (.gen (.index 9 (.const (.string ⟨#[0, 1, 2, 2, 3, 3, 3, 3, 4, 4, 4, 4, 4, 4, 4, 4, 5, 5, 5, 5, 5, 5, 5, 5, 5, 5, 5, 5, 5, 5, 5, 5, 6, 6, 6, 6, 6, 6, 6, 6, 6, 6, 6, 6, 6, 6, 6, 6, 6, 6, 6, 6, 6, 6, 6, 6, 6, 6, 6, 6, 6, 6, 6, 6, 7, 7, 7, 7, 7, 7, 7, 7, 7, 7, 7, 7, 7, 7, 7, 7, 7, 7, 7, 7, 7, 7, 7, 7, 7, 7, 7, 7, 7, 7, 7, 7, 7, 7, 7, 7, 7, 7, 7, 7, 7, 7, 7, 7, 7, 7, 7, 7, 7, 7, 7, 7, 7, 7, 7, 7, 7, 7, 7, 7, 7, 7, 7, 7, 8, 8, 8, 8, 8, 8, 8, 8, 8, 8, 8, 8, 8, 8, 8, 8, 8, 8, 8, 8, 8, 8, 8, 8, 8, 8, 8, 8, 8, 8, 8, 8, 8, 8, 8, 8, 8, 8, 8, 8, 8, 8, 8, 8, 8, 8, 8, 8, 8, 8, 8, 8, 8, 8, 8, 8, 8, 8, 8, 8, 8, 8, 8, 8, 8, 8, 8, 8, 8, 8, 8, 8, 8, 8, 8, 8, 8, 8, 8, 8, 8, 8, 8, 8, 8, 8, 8, 8, 8, 8, 8, 8, 8, 8, 8, 8, 8, 8, 8, 8, 8, 8, 8, 8, 8, 8, 8, 8, 8, 8, 8, 8, 8, 8, 8, 8, 8, 8, 8, 8, 8, 8, 8, 8, 8, 8, 8, 8]⟩)) (.tmp 21)) 5 [(21, (.lf (.int .u8 (.conv .u8 (.op .shr .u64 (.var 0) (.lit 8))))))] ⟨[], ⟨1, 0, 0, 0, 0⟩⟩ (.some (.lf (.int .u8 (.var 1)))) ⟨[], ⟨2, 0, 0, 0, 0⟩⟩ (.done (.lf (.int .i64 (.op .add .i64 (.lit 8) (.conv .i64 (.var 1))))) ⟨[], ⟨2, 0, 0, 0, 0⟩⟩)) (.gen (.index 9 (.const (.string ⟨#[0, 1, 2, 2, 3, 3, 3, 3, 4, 4, 4, 4, 4, 4, 4, 4, 5, 5, 5, 5, 5, 5, 5, 5, 5, 5, 5, 5, 5, 5, 5, 5, 6, 6, 6, 6, 6, 6, 6, 6, 6, 6, 6, 6, 6, 6, 6, 6, 6, 6, 6, 6, 6, 6, 6, 6, 6, 6, 6, 6, 6, 6, 6, 6, 7, 7, 7, 7, 7, 7, 7, 7, 7, 7, 7, 7, 7, 7, 7, 7, 7, 7, 7, 7, 7, 7, 7, 7, 7, 7, 7, 7, 7, 7, 7, 7, 7, 7, 7, 7, 7, 7, 7, 7, 7, 7, 7, 7, 7, 7, 7, 7, 7, 7, 7, 7, 7, 7, 7, 7, 7, 7, 7, 7, 7, 7, 7, 7, 8, 8, 8, 8, 8, 8, 8, 8, 8, 8, 8, 8, 8, 8, 8, 8, 8, 8, 8, 8, 8, 8, 8, 8, 8, 8, 8, 8, 8, 8, 8, 8, 8, 8, 8, 8, 8, 8, 8, 8, 8, 8, 8, 8, 8, 8, 8, 8, 8, 8, 8, 8, 8, 8, 8, 8, 8, 8, 8, 8, 8, 8, 8, 8, 8, 8, 8, 8, 8, 8, 8, 8, 8, 8, 8, 8, 8, 8, 8, 8, 8, 8, 8, 8, 8, 8, 8, 8, 8, 8, 8, 8, 8, 8, 8, 8, 8, 8, 8, 8, 8, 8, 8, 8, 8, 8, 8, 8, 8, 8, 8, 8, 8, 8, 8, 8, 8, 8, 8, 8, 8, 8, 8, 8, 8, 8, 8, 8]⟩)) (.tmp 21)) 5 [(21, (.lf (.int .u8 (.conv .u8 (.var 0)))))] ⟨[], ⟨1, 0, 0, 0, 0⟩⟩ (.some (.lf (.int .u8 (.var 1)))) ⟨[], ⟨2, 0, 0, 0, 0⟩⟩ (.done (.lf (.int .i64 (.op .add .i64 (.lit 0) (.conv .i64 (.var 1))))) ⟨[], ⟨2, 0, 0, 0, 0⟩⟩))))) := by kernel_rfl
set_option maxRecDepth 100000 in
theorem tSize : (runF ⟨tt, fns, {}⟩ (Try.f71.body.getD .skip) Try.f71.results.toList (entry Try.f71.ntmps [.lf (.int .u64 (.var 0))] [] ⟨1, 0, 0, 0, 0⟩)) =
  (.call 89 [(.lf (.int .u64 (.var 0)))] ⟨[], ⟨1, 0, 0, 0, 0⟩⟩ (.lf (tVi 1)) ⟨[], ⟨2, 0, 0, 0, 0⟩⟩ (.done (.lf (.int .i64 (.op .add .i64 (.lit 1) (.op .quo .i64 (.op .add .i64 (.var 1) (.lit 7)) (.lit 8))))) ⟨[], ⟨2, 0, 0, 0, 0⟩⟩)) := by kernel_rfl
set_option maxRecDepth 100000 in
theorem tFold : (runF ⟨tt, fns, {}⟩ (Try.f72.body.getD .skip) Try.f72.results.toList (entry Try.f72.ntmps [.lf (.int .i64 (.var 0))] [] ⟨1, 0, 0, 0, 0⟩)) =
  (.done (.lf (.int .u64 (.op .xor .u64 (.op .shl .u64 (.conv .u64 (.var 0)) (.lit 1)) (.conv .u64 (.op .shr .i64 (.var 0) (.lit 63)))))) ⟨[], ⟨1, 0, 0, 0, 0⟩⟩) := by kernel_rfl
set_option maxRecDepth 100000 in
theorem tUnfold : (runF ⟨tt, fns, {}⟩ (Try.f90.body.getD .skip) Try.f90.results.toList (entry Try.f90.ntmps [.lf (.int .u64 (.var 0))] [] ⟨1, 0, 0, 0, 0⟩)) =
  (.done (.lf (.int .i64 (.op .xor .i64 (.conv .i64 (.op .shr .u64 (.var 0) (.lit 1))) (.op .sub .i64 (.lit 0) (.conv .i64 (.op .and .u64 (.var 0) (.lit 1))))))) ⟨[], ⟨1, 0, 0, 0, 0⟩⟩) := by kernel_rfl
set_option maxRecDepth 100000 in
theorem tRUnfold : (runF ⟨tt, fns, {}⟩ (Try.f79.body.getD .skip) Try.f79.results.toList (entry Try.f79.ntmps [.lf (.int .u64 (.var 0))] [] ⟨1, 0, 0, 0, 0⟩)) =
  (.br (.cmp .eql (.op .rem .u64 (.var 0) (.lit 2)) (.lit 0)) (.done (.lf (.int .i64 (.conv .i64 (.op .quo .u64 (.var 0) (.lit 2))))) ⟨[], ⟨1, 0, 0, 0, 0⟩⟩) (.done (.lf (.int .i64 (.op .sub .i64 (.op .sub .i64 (.lit 0) (.conv .i64 (.op .quo .u64 (.var 0) (.lit 2)))) (.lit 1)))) ⟨[], ⟨1, 0, 0, 0, 0⟩⟩)) := by kernel_rfl
abbrev tWNumb0 : List LV := [(.int .u8 (.conv .u8 (.op .shr .u64 (.var 0) (.op .mul .i64 (.lit 8) (.var 2)))))]
abbrev tWNumb1 : List LV := [(.int .u8 (.conv .u8 (.op .sub .i64 (.var 1) (.lit 1))))]
abbrev tWNumm0 : Mem := ⟨[(113, [(tSl 2 4 5)]), (5, tWNumb1), (5, tWNumb0)], ⟨3, 0, 0, 6, 3⟩⟩
abbrev tWNumm1 : Mem := ⟨[(113, [(tSl 2 4 5)]), (5, tWNumb1), (5, tWNumb0)], ⟨3, 0, 0, 8, 4⟩⟩
abbrev tWNumm2 : Mem := ⟨[(113, [(tSl 3 6 7)]), (5, tWNumb1), (5, tWNumb0)], ⟨3, 0, 0, 8, 4⟩⟩
abbrev tWNumm3 : Mem := ⟨[(113, [(tSl 2 4 5)]), (5, tWNumb1)], ⟨3, 0, 0, 6, 3⟩⟩
set_option maxRecDepth 100000 in
theorem tWNum : (runF ⟨tt, fns, { loops := [(6, ⟨[(6, .int .i64)], [0]⟩)] }⟩ (Try.f42.body.getD .skip) Try.f42.results.toList (entry Try.f42.ntmps [.lf (.ptr 0 0), .lf (.int .u64 (.var 0))] [(113, [.sl 0 (.var 0) (.var 1)])] ⟨1, 0, 0, 2, 1⟩)) =
  (.call 71 [(.lf (.int .u64 (.var 0)))] ⟨[(113, [(tSl 0 0 1)])], ⟨1, 0, 0, 2, 1⟩⟩ (.lf (tVi 1)) ⟨[(113, [(tSl 0 0 1)])], ⟨2, 0, 0, 2, 1⟩⟩ (.gen (.call ⟨(.builtin .append), #[(.tmp 16), (.tmp 19)], #[35, 35]⟩) 35 [(16, (.lf (tSl 0 0 1))), (19, (.lf (.nsl 1 0 1 1)))] ⟨[(113, [(tSl 0 0 1)]), (5, tWNumb1)], ⟨2, 0, 0, 2, 1⟩⟩ (.some (.lf (tSl 1 2 3))) ⟨[(113, [(tSl 0 0 1)]), (5, tWNumb1)], ⟨2, 0, 0, 4, 2⟩⟩ (.loop 6 ⟨[(.op .sub .i64 (.op .sub .i64 (.var 1) (.lit 1)) (.lit 1))], [], [], [(.var 2), (.var 3)], [(.var 1)]⟩ ⟨[(113, [(tSl 1 2 3)]), (5, tWNumb1)], ⟨2, 0, 0, 4, 2⟩⟩ tWNumm3 (.br (.cmp .geq (.var 2) (.lit 0)) (.need (.nn (.op .mul .i64 (.lit 8) (.var 2))) (.par (.gen (.call ⟨(.builtin .append), #[(.tmp 33), (.tmp 39)], #[35, 35]⟩) 35 [(33, (.lf (tSl 2 4 5))), (39, (.lf (.nsl 2 0 1 1)))] tWNumm0 (.some (.lf (tSl 3 6 7))) tWNumm1 (.again 6 ⟨[(.op .sub .i64 (.var 2) (.lit 1))], [], [], [(.var 6), (.var 7)], [(.var 3)]⟩ tWNumm2)) (.gen (.call ⟨(.builtin .append), #[(.tmp 33), (.tmp 39)], #[35, 35]⟩) 35 [(33, (.lf (tSl 2 4 5))), (39, (.lf (.nsl 2 0 1 1)))] tWNumm0 (.some (.lf (tSl 3 6 7))) tWNumm1 (.again 6 ⟨[(.op .sub .i64 (.var 2) (.lit 1))], [], [], [(.var 6), (.var 7)], [(.var 3)]⟩ tWNumm2)))) (.done (.lf (.ptr 0 0)) tWNumm3))))) := by kernel_rfl
abbrev tWIntm0 : Mem := ⟨[(113, [(tSl 0 0 1)])], ⟨2, 0, 0, 2, 1⟩⟩
abbrev tWIntm1 : Mem := ⟨[(113, [(tSl 1 2 3)])], ⟨2, 0, 0, 4, 2⟩⟩
set_option maxRecDepth 100000 in
theorem tWInt : (runF ⟨tt, fns, { touch := [(42, [0])], ret := [(42, .one (.lf (.is (.ptr 0 0))))] }⟩ (Try.f45.body.getD .skip) Try.f45.results.toList (entry Try.f45.ntmps [.lf (.ptr 0 0), .lf (.int .i64 (.var 0))] [(113, [.sl 0 (.var 0) (.var 1)])] ⟨1, 0, 0, 2, 1⟩)) =
  (.call 72 [(.lf (tVi 0))] ⟨[(113, [(tSl 0 0 1)])], ⟨1, 0, 0, 2, 1⟩⟩ (.lf (.int .u64 (.var 1))) tWIntm0 (.call 42 [(.lf (.ptr 0 0)), (.lf (.int .u64 (.var 1)))] tWIntm0 (.lf (.ptr 0 0)) tWIntm1 (.done (.lf (.ptr 0 0)) tWIntm1))) := by kernel_rfl
abbrev tWBytesm0 : Mem := ⟨[(113, [(tSl 0 0 1)])], ⟨0, 0, 0, 4, 2⟩⟩
set_option maxRecDepth 100000 in
theorem tWBytes : (runF ⟨tt, fns, {}⟩ (Try.f47.body.getD .skip) Try.f47.results.toList (entry Try.f47.ntmps [.lf (.ptr 0 0)] [(113, [.sl 0 (.var 0) (.var 1)])] ⟨0, 0, 0, 2, 1⟩)) =
  (.gen (.call ⟨(.builtin .append), #[(.const (.slice .none 0 0)), (.tmp 8)], #[35, 35]⟩) 35 [(8, (.lf (tSl 0 0 1)))] ⟨[(113, [(tSl 0 0 1)])], ⟨0, 0, 0, 2, 1⟩⟩ (.some (.lf (tSl 1 2 3))) tWBytesm0 (.done (.lf (tSl 1 2 3)) tWBytesm0)) := by kernel_rfl
set_option maxRecDepth 100000 in
theorem tWNew : (runF ⟨tt, fns, {}⟩ (Try.f40.body.getD .skip) Try.f40.results.toList (entry Try.f40.ntmps [] [] ⟨0, 0, 0, 0, 0⟩)) =
  (.done (.lf (.ptr 0 0)) ⟨[(113, [.nilsl])], ⟨0, 0, 0, 0, 0⟩⟩) := by kernel_rfl
set_option maxRecDepth 100000 in
theorem tRNew : (runF ⟨tt, fns, {}⟩ (Try.f58.body.getD .skip) Try.f58.results.toList (entry Try.f58.ntmps [.lf (.sl 0 (.var 0) (.var 1))] [] ⟨0, 0, 0, 2, 1⟩)) =
  (.gen (.call ⟨(.builtin .append), #[(.const (.slice .none 0 0)), (.tmp 3)], #[35, 35]⟩) 35 [(3, (.lf (tSl 0 0 1)))] ⟨[], ⟨0, 0, 0, 2, 1⟩⟩ (.some (.lf (tSl 1 2 3))) ⟨[], ⟨0, 0, 0, 4, 2⟩⟩ (.done (.lf (.ptr 0 0)) ⟨[(128, [(tSl 1 2 3), (tLi 0), (tLi 0)])], ⟨0, 0, 0, 4, 2⟩⟩)) := by kernel_rfl
abbrev tRNumm0 : Mem := ⟨[(128, [(tSl 0 0 1), (tVi 0), (tVi 1)])], ⟨2, 0, 0, 2, 1⟩⟩
abbrev tRNumm1 : Mem := ⟨[(128, [(tSl 0 0 1), (tVi 0), (tVi 1)])], ⟨3, 0, 0, 2, 1⟩⟩
abbrev tRNumm2 : Mem := ⟨[(128, [(tSl 0 0 1), (tVi 0), (tVi 1)])], ⟨3, 0, 0, 4, 2⟩⟩
abbrev tRNumm3 : Mem := ⟨[(128, [(tSl 0 0 1), (tVi 0), (tVi 1)])], ⟨5, 0, 0, 4, 2⟩⟩
abbrev tRNumm4 : Mem := ⟨[(128, [(tSl 0 0 1), (tVi 0), (tVi 1)])], ⟨6, 0, 0, 4, 2⟩⟩
set_option maxRecDepth 100000 in
theorem tRNum : (runF ⟨tt, fns, { loops := [(10, ⟨[(3, .int .u64), (70, .int .i64)], []⟩)] }⟩ (Try.f81.body.getD .skip) Try.f81.results.toList (entry Try.f81.ntmps [.lf (.ptr 0 0)] [(128, [.sl 0 (.var 0) (.var 1), .int .i64 (.var 0), .int .i64 (.var 1)])] ⟨2, 0, 0, 2, 1⟩)) =
  (.br (.cmp .neq (.var 1) (.lit 0)) (.done (.lf (.int .u64 (.lit 0))) tRNumm0) (.br (.cmp .geq (.var 0) (.nat 0)) (.done (.lf (.int .u64 (.lit 0))) ⟨[(128, [(tSl 0 0 1), (tVi 0), (tLi 10)])], ⟨2, 0, 0, 2, 1⟩⟩) (.need (.inb 0 (.var 0) (.nat 0)) (.ld .false (.adr 0 (.var 0) 1 0) [(.int .u8 (.var 2))] tRNumm0 tRNumm1 (.br (.cmp .gtr (.conv .i64 (.var 2)) (.lit 8)) (.done (.lf (.int .u64 (.lit 0))) ⟨[(128, [(tSl 0 0 1), (tVi 0), (tLi 11)])], ⟨3, 0, 0, 2, 1⟩⟩) (.br (.cmp .gtr (.conv .i64 (.var 2)) (.op .sub .i64 (.op .sub .i64 (.nat 0) (.var 0)) (.lit 1))) (.done (.lf (.int .u64 (.lit 0))) ⟨[(128, [(tSl 0 0 1), (tVi 0), (tLi 10)])], ⟨3, 0, 0, 2, 1⟩⟩) (.gen (.slice 35 (.tmp 55) (.some (.tmp 60)) (.some (.tmp 67)) .none) 35 [(55, (.lf (tSl 0 0 1))), (60, (.lf (.int .i64 (.op .add .i64 (.var 0) (.lit 1))))), (67, (.lf (.int .i64 (.op .add .i64 (.op .add .i64 (.var 0) (.lit 1)) (.conv .i64 (.var 2))))))] tRNumm1 (.some (.lf (tSl 1 2 3))) tRNumm2 (.loop 10 ⟨[(.lit 0), (.lit 0)], [], [], [], []⟩ tRNumm2 tRNumm3 (.br (.cmp .lss (.var 4) (.nat 2)) (.need (.inb 1 (.var 4) (.nat 2)) (.ld .false (.adr 1 (.var 4) 1 0) [(.int .u8 (.var 5))] tRNumm3 tRNumm4 (.again 10 ⟨[(.op .or .u64 (.op .shl .u64 (.var 3) (.lit 8)) (.conv .u64 (.var 5))), (.op .add .i64 (.var 4) (.lit 1))], [], [], [], []⟩ tRNumm4))) (.call 71 [(.lf (.int .u64 (.var 3)))] tRNumm3 (.lf (tVi 5)) tRNumm4 (.br (.cmp .neq (.var 5) (.op .add .i64 (.conv .i64 (.var 2)) (.lit 1))) (.done (.lf (.int .u64 (.lit 0))) ⟨[(128, [(tSl 0 0 1), (tVi 0), (tLi 11)])], ⟨6, 0, 0, 4, 2⟩⟩) (.done (.lf (.int .u64 (.var 3))) ⟨[(128, [(tSl 0 0 1), (.int .i64 (.op .add .i64 (.var 0) (.op .add .i64 (.conv .i64 (.var 2)) (.lit 1)))), (tVi 1)])], ⟨6, 0, 0, 4, 2⟩⟩)))))))))))) := by kernel_rfl
abbrev tRCountm0 : Mem := ⟨[(128, [(tSl 1 2 3), (tVi 3), (tVi 4)])], ⟨6, 0, 0, 4, 2⟩⟩
set_option maxRecDepth 100000 in
theorem tRCount : (runF ⟨tt, fns, { touch := [(81, [0])] }⟩ (Try.f59.body.getD .skip) Try.f59.results.toList (entry Try.f59.ntmps [.lf (.ptr 0 0), .lf (.int .i64 (.var 2))] [(128, [.sl 0 (.var 0) (.var 1), .int .i64 (.var 0), .int .i64 (.var 1)])] ⟨3, 0, 0, 2, 1⟩)) =
  (.call 81 [(.lf (.ptr 0 0))] ⟨[(128, [(tSl 0 0 1), (tVi 0), (tVi 1)])], ⟨3, 0, 0, 2, 1⟩⟩ (.lf (.int .u64 (.var 5))) tRCountm0 (.br (.cmp .gtr (.var 5) (.conv .u64 (.mx (.lit 0) (.var 2)))) (.done (.lf (tLi 0)) ⟨[(128, [(tSl 1 2 3), (tVi 3), (tLi 12)])], ⟨6, 0, 0, 4, 2⟩⟩) (.done (.lf (.int .i64 (.conv .i64 (.var 5)))) tRCountm0))) := by kernel_rfl
abbrev tRIntm0 : Mem := ⟨[(128, [(tSl 1 2 3), (tVi 2), (tVi 3)])], ⟨5, 0, 0, 4, 2⟩⟩
abbrev tRIntm1 : Mem := ⟨[(128, [(tSl 1 2 3), (tVi 2), (tVi 3)])], ⟨6, 0, 0, 4, 2⟩⟩
set_option maxRecDepth 100000 in
theorem tRInt : (runF ⟨tt, fns, { touch := [(81, [0])] }⟩ (Try.f84.body.getD .skip) Try.f84.results.toList (entry Try.f84.ntmps [.lf (.ptr 0 0)] [(128, [.sl 0 (.var 0) (.var 1), .int .i64 (.var 0), .int .i64 (.var 1)])] ⟨2, 0, 0, 2, 1⟩)) =
  (.call 81 [(.lf (.ptr 0 0))] ⟨[(128, [(tSl 0 0 1), (tVi 0), (tVi 1)])], ⟨2, 0, 0, 2, 1⟩⟩ (.lf (.int .u64 (.var 4))) tRIntm0 (.call 90 [(.lf (.int .u64 (.var 4)))] tRIntm0 (.lf (tVi 5)) tRIntm1 (.done (.lf (tVi 5)) tRIntm1))) := by kernel_rfl
set_option maxRecDepth 100000 in
theorem tRErr : (runF ⟨tt, fns, {}⟩ (Try.f60.body.getD .skip) Try.f60.results.toList (entry Try.f60.ntmps [.lf (.ptr 0 0)] [(128, [.sl 0 (.var 0) (.var 1), .int .i64 (.var 0), .int .i64 (.var 1)])] ⟨2, 0, 0, 2, 1⟩)) =
  (.done (.lf (tVi 1)) ⟨[(128, [(tSl 0 0 1), (tVi 0), (tVi 1)])], ⟨2, 0, 0, 2, 1⟩⟩) := by kernel_rfl
abbrev tRDonem0 : Mem := ⟨[(128, [(tSl 0 0 1), (tVi 0), (tLi 13)])], ⟨3, 0, 0, 2, 1⟩⟩
abbrev tRDonem1 : Mem := ⟨[(128, [(tSl 0 0 1), (tVi 0), (tVi 1)])], ⟨2, 0, 0, 2, 1⟩⟩
abbrev tRDonem2 : Mem := ⟨[(128, [(tSl 0 0 1), (tVi 0), (tVi 1)])], ⟨3, 0, 0, 2, 1⟩⟩
set_option maxRecDepth 100000 in
theorem tRDone : (runF ⟨tt, fns, { touch := [] }⟩ (Try.f62.body.getD .skip) Try.f62.results.toList (entry Try.f62.ntmps [.lf (.ptr 0 0)] [(128, [.sl 0 (.var 0) (.var 1), .int .i64 (.var 0), .int .i64 (.var 1)])] ⟨2, 0, 0, 2, 1⟩)) =
  (.br (.cmp .eql (.var 1) (.lit 0)) (.br (.cmp .lss (.var 0) (.nat 0)) (.call 60 [(.lf (.ptr 0 0))] ⟨[(128, [(tSl 0 0 1), (tVi 0), (tLi 13)])], ⟨2, 0, 0, 2, 1⟩⟩ (.lf (tVi 2)) tRDonem0 (.done (.lf (tVi 2)) tRDonem0)) (.call 60 [(.lf (.ptr 0 0))] tRDonem1 (.lf (tVi 2)) tRDonem2 (.done (.lf (tVi 2)) tRDonem2))) (.call 60 [(.lf (.ptr 0 0))] tRDonem1 (.lf (tVi 2)) tRDonem2 (.done (.lf (tVi 2)) tRDonem2))) := by kernel_rfl
abbrev tQReadNumm0 : Mem := ⟨[(95, [(tSl 0 0 1), (tVi 0)]), (95, [.nilsl, (tLi 0)])], ⟨2, 0, 0, 2, 1⟩⟩
abbrev tQReadNumm1 : Mem := ⟨[(95, [(tSl 0 0 1), (tVi 0)]), (95, [.nilsl, (tLi 0)])], ⟨3, 0, 0, 2, 1⟩⟩
abbrev tQReadNumm2 : Mem := ⟨[(95, [(tSl 0 0 1), (tVi 0)]), (95, [.nilsl, (tLi 0)])], ⟨5, 0, 0, 2, 1⟩⟩
abbrev tQReadNumm3 : Mem := ⟨[(95, [(tSl 0 0 1), (tVi 0)]), (95, [.nilsl, (tLi 0)])], ⟨6, 0, 0, 2, 1⟩⟩
abbrev tQReadNumm4 : Mem := ⟨[(95, [(tSl 0 0 1), (tVi 0)]), (95, [.nilsl, (tLi 0)])], ⟨4, 0, 0, 2, 1⟩⟩
set_option maxRecDepth 100000 in
theorem tQReadNum : (runF ⟨tt, fns, { loops := [(18, ⟨[(5, .int .u64), (6, .int .i64)], []⟩)] }⟩ (Try.f78.body.getD .skip) Try.f78.results.toList (entry Try.f78.ntmps [.agg [.sl 0 (.var 0) (.var 1), .int .i64 (.var 0)]] [] ⟨1, 0, 0, 2, 1⟩)) =
  (.br (.cmp .neq (.var 0) (.lit 0)) (.done (.tup [(.true, [(tSl 0 0 1), (tVi 0)]), (.false, [(.int .u64 (.lit 0))])]) ⟨[(95, [(tSl 0 0 1), (tVi 0)]), (95, [(tSl 0 0 1), (tVi 0)])], ⟨1, 0, 0, 2, 1⟩⟩) (.br (.cmp .eql (.nat 0) (.lit 0)) (.done (.tup [(.true, [(tSl 0 0 1), (tLi 10)]), (.false, [(.int .u64 (.lit 0))])]) ⟨[(95, [(tSl 0 0 1), (tLi 10)]), (95, [(tSl 0 0 1), (tLi 10)])], ⟨1, 0, 0, 2, 1⟩⟩) (.need (.inb 0 (.lit 0) (.nat 0)) (.ld .false (.adr 0 (.lit 0) 1 0) [(.int .u8 (.var 1))] ⟨[(95, [(tSl 0 0 1), (tVi 0)]), (95, [.nilsl, (tLi 0)])], ⟨1, 0, 0, 2, 1⟩⟩ tQReadNumm0 (.br (.cmp .gtr (.conv .i64 (.var 1)) (.lit 8)) (.done (.tup [(.true, [(tSl 0 0 1), (tLi 11)]), (.false, [(.int .u64 (.lit 0))])]) ⟨[(95, [(tSl 0 0 1), (tLi 11)]), (95, [(tSl 0 0 1), (tLi 11)])], ⟨2, 0, 0, 2, 1⟩⟩) (.br (.cmp .lss (.op .sub .i64 (.nat 0) (.lit 1)) (.conv .i64 (.var 1))) (.done (.tup [(.true, [(tSl 0 0 1), (tLi 10)]), (.false, [(.int .u64 (.lit 0))])]) ⟨[(95, [(tSl 0 0 1), (tLi 10)]), (95, [(tSl 0 0 1), (tLi 10)])], ⟨2, 0, 0, 2, 1⟩⟩) (.br (.cmp .gtr (.conv .i64 (.var 1)) (.lit 0)) (.need (.inb 0 (.lit 1) (.nat 0)) (.ld .false (.adr 0 (.lit 1) 1 0) [(.int .u8 (.var 2))] tQReadNumm0 tQReadNumm1 (.br (.cmp .eql (.var 2) (.lit 0)) (.done (.tup [(.true, [(tSl 0 0 1), (tLi 11)]), (.false, [(.int .u64 (.lit 0))])]) ⟨[(95, [(tSl 0 0 1), (tLi 11)]), (95, [(tSl 0 0 1), (tLi 11)])], ⟨3, 0, 0, 2, 1⟩⟩) (.loop 18 ⟨[(.lit 0), (.lit 1)], [], [], [], []⟩ tQReadNumm1 tQReadNumm2 (.br (.cmp .leq (.var 4) (.conv .i64 (.var 1))) (.need (.inb 0 (.var 4) (.nat 0)) (.ld .false (.adr 0 (.var 4) 1 0) [(.int .u8 (.var 5))] tQReadNumm2 tQReadNumm3 (.again 18 ⟨[(.op .add .u64 (.op .mul .u64 (.lit 256) (.var 3)) (.conv .u64 (.var 5))), (.op .add .i64 (.var 4) (.lit 1))], [], [], [], []⟩ tQReadNumm3))) (.gen (.slice 35 (.tmp 60) (.some (.tmp 62)) .none .none) 35 [(60, (.lf (tSl 0 0 1))), (62, (.lf (.int .i64 (.op .add .i64 (.conv .i64 (.var 1)) (.lit 1)))))] tQReadNumm2 (.some (.lf (tSl 1 2 3))) ⟨[(95, [(tSl 0 0 1), (tVi 0)]), (95, [.nilsl, (tLi 0)])], ⟨5, 0, 0, 4, 2⟩⟩ (.done (.tup [(.true, [(tSl 1 2 3), (tVi 0)]), (.false, [(.int .u64 (.var 3))])]) ⟨[(95, [(tSl 1 2 3), (tVi 0)]), (95, [(tSl 1 2 3), (tVi 0)])], ⟨5, 0, 0, 4, 2⟩⟩))))))) (.loop 18 ⟨[(.lit 0), (.lit 1)], [], [], [], []⟩ tQReadNumm0 tQReadNumm4 (.br (.cmp .leq (.var 3) (.conv .i64 (.var 1))) (.need (.inb 0 (.var 3) (.nat 0)) (.ld .false (.adr 0 (.var 3) 1 0) [(.int .u8 (.var 4))] tQReadNumm4 tQReadNumm2 (.again 18 ⟨[(.op .add .u64 (.op .mul .u64 (.lit 256) (.var 2)) (.conv .u64 (.var 4))), (.op .add .i64 (.var 3) (.lit 1))], [], [], [], []⟩ tQReadNumm2))) (.gen (.slice 35 (.tmp 60) (.some (.tmp 62)) .none .none) 35 [(60, (.lf (tSl 0 0 1))), (62, (.lf (.int .i64 (.op .add .i64 (.conv .i64 (.var 1)) (.lit 1)))))] tQReadNumm4 (.some (.lf (tSl 1 2 3))) ⟨[(95, [(tSl 0 0 1), (tVi 0)]), (95, [.nilsl, (tLi 0)])], ⟨4, 0, 0, 4, 2⟩⟩ (.done (.tup [(.true, [(tSl 1 2 3), (tVi 0)]), (.false, [(.int .u64 (.var 2))])]) ⟨[(95, [(tSl 1 2 3), (tVi 0)]), (95, [(tSl 1 2 3), (tVi 0)])], ⟨4, 0, 0, 4, 2⟩⟩))))))))))) := by kernel_rfl
abbrev tQCountm0 : Mem := ⟨[(95, [(tSl 1 2 3), (tLi 12)]), (95, [(tSl 1 2 3), (tLi 12)])], ⟨4, 0, 0, 4, 2⟩⟩
abbrev tQCountm1 : Mem := ⟨[(95, [(tSl 1 2 3), (tVi 2)]), (95, [(tSl 1 2 3), (tVi 2)])], ⟨4, 0, 0, 4, 2⟩⟩
set_option maxRecDepth 100000 in
theorem tQCount : (runF ⟨tt, fns, {}⟩ (Try.f75.body.getD .skip) Try.f75.results.toList (entry Try.f75.ntmps [.agg [.sl 0 (.var 0) (.var 1), .int .i64 (.var 0)], .lf (.int .i64 (.var 1))] [] ⟨2, 0, 0, 2, 1⟩)) =
  (.call 78 [(.agg [(tSl 0 0 1), (tVi 0)])] ⟨[(95, [(tSl 0 0 1), (tVi 0)]), (95, [.nilsl, (tLi 0)])], ⟨2, 0, 0, 2, 1⟩⟩ (.tup [(.true, [(tSl 1 2 3), (tVi 2)]), (.false, [(.int .u64 (.var 3))])]) ⟨[(95, [(tSl 0 0 1), (tVi 0)]), (95, [.nilsl, (tLi 0)])], ⟨4, 0, 0, 4, 2⟩⟩ (.br (.cmp .lss (.var 1) (.lit 0)) (.br (.cmp .eql (.var 2) (.lit 0)) (.br (.cmp .gtr (.var 3) (.conv .u64 (.lit 0))) (.done (.tup [(.true, [(tSl 1 2 3), (tLi 12)]), (.false, [(tLi 0)])]) tQCountm0) (.done (.tup [(.true, [(tSl 1 2 3), (tVi 2)]), (.false, [(.int .i64 (.conv .i64 (.var 3)))])]) tQCountm1)) (.done (.tup [(.true, [(tSl 1 2 3), (tVi 2)]), (.false, [(.int .i64 (.conv .i64 (.var 3)))])]) tQCountm1)) (.br (.cmp .eql (.var 2) (.lit 0)) (.br (.cmp .gtr (.var 3) (.conv .u64 (.var 1))) (.done (.tup [(.true, [(tSl 1 2 3), (tLi 12)]), (.false, [(tLi 0)])]) tQCountm0) (.done (.tup [(.true, [(tSl 1 2 3), (tVi 2)]), (.false, [(.int .i64 (.conv .i64 (.var 3)))])]) tQCountm1)) (.done (.tup [(.true, [(tSl 1 2 3), (tVi 2)]), (.false, [(.int .i64 (.conv .i64 (.var 3)))])]) tQCountm1)))) := by kernel_rfl
abbrev tQDonem0 : Mem := ⟨[(95, [(tSl 0 0 1), (tVi 0)]), (95, [(tSl 0 0 1), (tVi 0)])], ⟨1, 0, 0, 2, 1⟩⟩
set_option maxRecDepth 100000 in
theorem tQDone : (runF ⟨tt, fns, {}⟩ (Try.f57.body.getD .skip) Try.f57.results.toList (entry Try.f57.ntmps [.agg [.sl 0 (.var 0) (.var 1), .int .i64 (.var 0)]] [] ⟨1, 0, 0, 2, 1⟩)) =
  (.br (.cmp .eql (.var 0) (.lit 0)) (.br (.cmp .gtr (.nat 0) (.lit 0)) (.done (.agg [(tSl 0 0 1), (tLi 13)]) ⟨[(95, [(tSl 0 0 1), (tLi 13)]), (95, [(tSl 0 0 1), (tLi 13)])], ⟨1, 0, 0, 2, 1⟩⟩) (.done (.agg [(tSl 0 0 1), (tVi 0)]) tQDonem0)) (.done (.agg [(tSl 0 0 1), (tVi 0)]) tQDonem0)) := by kernel_rfl
end Go.Proofs.Ytadgaefmoobcoaa

namespace Go.Proofs.Ytadgaefmoobcoaa
open Go.ChangeShapes Go.WideShapes Go.ChangeAt Go.RowKit Go.Syn Go.Eng
set_option linter.unusedVariables false
set_option linter.unusedSimpArgs false
def lenTab : ByteArray := ⟨#[0, 1, 2, 2, 3, 3, 3, 3, 4, 4, 4, 4, 4, 4, 4, 4, 5, 5, 5, 5, 5, 5, 5, 5, 5, 5, 5, 5, 5, 5, 5, 5, 6, 6, 6, 6, 6, 6, 6, 6, 6, 6, 6, 6, 6, 6, 6, 6, 6, 6, 6, 6, 6, 6, 6, 6, 6, 6, 6, 6, 6, 6, 6, 6, 7, 7, 7, 7, 7, 7, 7, 7, 7, 7, 7, 7, 7, 7, 7, 7, 7, 7, 7, 7, 7, 7, 7, 7, 7, 7, 7, 7, 7, 7, 7, 7, 7, 7, 7, 7, 7, 7, 7, 7, 7, 7, 7, 7, 7, 7, 7, 7, 7, 7, 7, 7, 7, 7, 7, 7, 7, 7, 7, 7, 7, 7, 7, 7, 8, 8, 8, 8, 8, 8, 8, 8, 8, 8, 8, 8, 8, 8, 8, 8, 8, 8, 8, 8, 8, 8, 8, 8, 8, 8, 8, 8, 8, 8, 8, 8, 8, 8, 8, 8, 8, 8, 8, 8, 8, 8, 8, 8, 8, 8, 8, 8, 8, 8, 8, 8, 8, 8, 8, 8, 8, 8, 8, 8, 8, 8, 8, 8, 8, 8, 8, 8, 8, 8, 8, 8, 8, 8, 8, 8, 8, 8, 8, 8, 8, 8, 8, 8, 8, 8, 8, 8, 8, 8, 8, 8, 8, 8, 8, 8, 8, 8, 8, 8, 8, 8, 8, 8, 8, 8, 8, 8, 8, 8, 8, 8, 8, 8, 8, 8, 8, 8, 8, 8, 8, 8, 8, 8, 8, 8, 8, 8]⟩
theorem lenTab_at {x : Nat} (h : x < 256) : (lenTab[x]?).map UInt8.toNat = some (blen x) :=
  (of_decide_eq_true (by kernel_rfl) : ∀ i : Fin 256, (lenTab[i.val]?).map UInt8.toNat = some (blen i.val)) ⟨x, h⟩
section
variable {C : Cfg} {ρ : Env} {pre : List Nat} {hx : HX} {L : Stack} {m m' : Mem} {ty : Nat} {ps : List (Nat × SV)} {t : Tree}
theorem node_len8 {st : Nat} {xi : Operand} {k : IntKind} {r : SV} (x : Nat) (hx2 : x < 256) (ht : C.P.underlying st = some .string) (hxi : ∀ ids, envOf ρ ids ps xi = .int k (x : Int)) (hr : ∀ ids, r.den (ρ.add ⟨[(blen x : Int)], [], [], [], []⟩) ids = .int .u8 (blen x : Int)) (hhp : m'.hp = m.hp) (hfit : hpFits m.c m.hp.length m.hp = true) (hc : (ρ.add ⟨[(blen x : Int)], [], [], [], []⟩).cnt = m'.c)
    (h : t.holds C (ρ.add ⟨[(blen x : Int)], [], [], [], []⟩) pre hx L) : (Tree.gen (.index st (.const (.string lenTab)) xi) ty ps m (some r) m' t).holds C ρ pre hx L := by
  refine node_gpure (V := .int .u8 (blen x : Int)) _ (fun ids w hp hf => ?_) hr hhp hfit hc oneNil h
  have hb := lenTab_at hx2
  obtain ⟨b, hb1, hb2⟩ := Option.map_eq_some_iff.1 hb
  have e : (Instr.index st (.string lenTab) (.int k (x : Int))).run C.P w = .ok (.int .u8 (blen x : Int)) w := by
    simp only [Instr.index, asIntOf, Sem.run_bind, Sem.run_pure, Result.andThen_ok, run_underlying ht]
    rw [if_pos (by omega), Int.toNat_natCast, hb1, ← hb2]
    rfl
  have e2 : envOf ρ ids ps (.const (.string lenTab)) = .string lenTab := rfl
  simp only [execOp, hxi, e2, Sem.run_bind, e, Result.andThen_ok, Sem.run_pure]
end
theorem shr_u64 {u k : Nat} (hk : k ≤ 64) : ifn .shr .u64 (u : Int) (k : Int) = ((u / 2 ^ k : Nat) : Int) := by
  show Int.fdiv (u : Int) (2 ^ min (k : Int).toNat 64) = _
  rw [Int.toNat_natCast, Nat.min_eq_left hk]
  show Int.fdiv (u : Int) ((2 : Nat) ^ k : Int) = _
  rw [← Int.natCast_pow, Int.fdiv_eq_ediv_of_nonneg _ (Int.natCast_nonneg _)]
  exact (Int.natCast_ediv u (2 ^ k)).symm
theorem blen_shift {u k : Nat} (h : 2 ^ k ≤ u) : blen u = k + blen (u / 2 ^ k) := by
  have hp : 0 < 2 ^ k := Nat.pow_pos (by decide)
  have h1 : 0 < u / 2 ^ k := Nat.div_pos h hp
  have hu : u ≠ 0 := by omega
  unfold blen
  rw [if_neg hu, if_neg (by omega)]
  have h2 := (Nat.log2_eq_iff (n := u / 2 ^ k) (by omega)).1 rfl
  have h3 : u.log2 = k + (u / 2 ^ k).log2 := by
    refine (Nat.log2_eq_iff hu).2 ⟨?_, ?_⟩
    · rw [Nat.pow_add, Nat.mul_comm]
      exact (Nat.le_div_iff_mul_le hp).1 h2.1
    · rw [show k + (u / 2 ^ k).log2 + 1 = (u / 2 ^ k).log2 + 1 + k by omega, Nat.pow_add]
      exact (Nat.div_lt_iff_lt_mul hp).1 h2.2
  omega
theorem u8_small {x : Nat} (h : x < 256) : IntKind.u8.wrap (x : Int) = (x : Int) := IntWalk.u8_in _ (by omega)
set_option maxRecDepth 100000 in
theorem len64_any {u : Nat} (hu : u < 2 ^ 64) (w : World) : Calls Try.prog 89 #[.int .u64 (u : Int)] w (PureAt w (.int .i64 (blen u : Int))) := by
  refine calls_at (tab_ok _) Try.func89 rfl tLen64 (ρ := ⟨[(u : Int)], [], [], [], []⟩) (ids := []) rfl (Facts.initP rfl oneNil) ?_
  have cgt : ∀ (a b : Nat), b ≤ a → decide ((a : Int) ≥ (b : Int)) = true := fun a b h => decide_eq_true (by omega)
  have clt : ∀ (a b : Nat), a < b → decide ((a : Int) ≥ (b : Int)) = false := fun a b h => decide_eq_false (by omega)
  have e32 : ifn .shr .u64 (u : Int) 32 = ((u / 2 ^ 32 : Nat) : Int) := shr_u64 (k := 32) (by decide)
  have e16 : ∀ v : Nat, ifn .shr .u64 (v : Int) 16 = ((v / 2 ^ 16 : Nat) : Int) := fun v => shr_u64 (k := 16) (by decide)
  have e8 : ∀ v : Nat, ifn .shr .u64 (v : Int) 8 = ((v / 2 ^ 8 : Nat) : Int) := fun v => shr_u64 (k := 8) (by decide)
  have fin : ∀ (k b : Nat), k ≤ 64 → b ≤ 64 → blen u = k + b → ∀ (X : Int), X = ifn .add .i64 (k : Int) (IntKind.i64.wrap (b : Int)) → Value.int .i64 X = .int .i64 (blen u : Int) := fun k b h1 h2 h3 X hX => by
    rw [hX, h3, wrap_i64 (by omega)]
    show Value.int .i64 (IntKind.i64.wrap ((k : Int) + (b : Int))) = _
    rw [wrap_i64 (by omega)]; congr 1
  have b8 : ∀ {x : Nat}, x < 256 → blen x ≤ 64 := fun h => Nat.le_trans (blen_lt (k := 8) (by simpa using h)) (by decide)
  by_cases h32 : 4294967296 ≤ u
  · refine br_t (show decide ((u : Int) ≥ 4294967296) = true by exact cgt _ 4294967296 h32) ?_
    by_cases h16 : 65536 ≤ u / 2 ^ 32
    · refine br_t (show decide (ifn .shr .u64 ((u : Int)) 32 ≥ 65536) = true by rw [e32]; exact cgt _ 65536 h16) ?_
      by_cases h8 : 256 ≤ u / 2 ^ 32 / 2 ^ 16
      · refine br_t (show decide (ifn .shr .u64 (ifn .shr .u64 ((u : Int)) 32) 16 ≥ 256) = true by rw [e32, e16]; exact cgt _ 256 h8) ?_
        refine node_len8 (k := .u8) (u / 2 ^ 32 / 2 ^ 16 / 2 ^ 8) (by omega) Try.underlying9 (fun _ => ?_) (fun _ => rfl) rfl rfl rfl ?_
        · show Value.int .u8 (IntKind.u8.wrap (ifn .shr .u64 (ifn .shr .u64 (ifn .shr .u64 ((u : Int)) 32) 16) 8)) = _
          rw [e32, e16, e8, u8_small (by omega)]
        exact pure_done fun _ => fin 56 (blen (u / 2 ^ 32 / 2 ^ 16 / 2 ^ 8)) (by decide) (b8 (by omega)) (by have q0 := blen_shift (k := 32) (u := u) (by omega); have q1 := blen_shift (k := 16) (u := u / 2 ^ 32) (by omega); have q2 := blen_shift (k := 8) (u := u / 2 ^ 32 / 2 ^ 16) (by omega); omega) _ rfl
      · refine br_f (show decide (ifn .shr .u64 (ifn .shr .u64 ((u : Int)) 32) 16 ≥ 256) = false by rw [e32, e16]; exact clt _ 256 (by omega)) ?_
        refine node_len8 (k := .u8) (u / 2 ^ 32 / 2 ^ 16) (by omega) Try.underlying9 (fun _ => ?_) (fun _ => rfl) rfl rfl rfl ?_
        · show Value.int .u8 (IntKind.u8.wrap (ifn .shr .u64 (ifn .shr .u64 ((u : Int)) 32) 16)) = _
          rw [e32, e16, u8_small (by omega)]
        exact pure_done fun _ => fin 48 (blen (u / 2 ^ 32 / 2 ^ 16)) (by decide) (b8 (by omega)) (by have q0 := blen_shift (k := 32) (u := u) (by omega); have q1 := blen_shift (k := 16) (u := u / 2 ^ 32) (by omega); omega) _ rfl
    · refine br_f (show decide (ifn .shr .u64 ((u : Int)) 32 ≥ 65536) = false by rw [e32]; exact clt _ 65536 (by omega)) ?_
      by_cases h8 : 256 ≤ u / 2 ^ 32
      · refine br_t (show decide (ifn .shr .u64 ((u : Int)) 32 ≥ 256) = true by rw [e32]; exact cgt _ 256 h8) ?_
        refine node_len8 (k := .u8) (u / 2 ^ 32 / 2 ^ 8) (by omega) Try.underlying9 (fun _ => ?_) (fun _ => rfl) rfl rfl rfl ?_
        · show Value.int .u8 (IntKind.u8.wrap (ifn .shr .u64 (ifn .shr .u64 ((u : Int)) 32) 8)) = _
          rw [e32, e8, u8_small (by omega)]
        exact pure_done fun _ => fin 40 (blen (u / 2 ^ 32 / 2 ^ 8)) (by decide) (b8 (by omega)) (by have q0 := blen_shift (k := 32) (u := u) (by omega); have q1 := blen_shift (k := 8) (u := u / 2 ^ 32) (by omega); omega) _ rfl
      · refine br_f (show decide (ifn .shr .u64 ((u : Int)) 32 ≥ 256) = false by rw [e32]; exact clt _ 256 (by omega)) ?_
        refine node_len8 (k := .u8) (u / 2 ^ 32) (by omega) Try.underlying9 (fun _ => ?_) (fun _ => rfl) rfl rfl rfl ?_
        · show Value.int .u8 (IntKind.u8.wrap (ifn .shr .u64 ((u : Int)) 32)) = _
          rw [e32, u8_small (by omega)]
        exact pure_done fun _ => fin 32 (blen (u / 2 ^ 32)) (by decide) (b8 (by omega)) (by have q0 := blen_shift (k := 32) (u := u) (by omega); omega) _ rfl
  · refine br_f (show decide ((u : Int) ≥ 4294967296) = false by exact clt _ 4294967296 (by omega)) ?_
    by_cases h16 : 65536 ≤ u
    · refine br_t (show decide ((u : Int) ≥ 65536) = true by exact cgt _ 65536 h16) ?_
      by_cases h8 : 256 ≤ u / 2 ^ 16
      · refine br_t (show decide (ifn .shr .u64 ((u : Int)) 16 ≥ 256) = true by rw [e16]; exact cgt _ 256 h8) ?_
        refine node_len8 (k := .u8) (u / 2 ^ 16 / 2 ^ 8) (by omega) Try.underlying9 (fun _ => ?_) (fun _ => rfl) rfl rfl rfl ?_
        · show Value.int .u8 (IntKind.u8.wrap (ifn .shr .u64 (ifn .shr .u64 ((u : Int)) 16) 8)) = _
          rw [e16, e8, u8_small (by omega)]
        exact pure_done fun _ => fin 24 (blen (u / 2 ^ 16 / 2 ^ 8)) (by decide) (b8 (by omega)) (by have q0 := blen_shift (k := 16) (u := u) (by omega); have q1 := blen_shift (k := 8) (u := u / 2 ^ 16) (by omega); omega) _ rfl
      · refine br_f (show decide (ifn .shr .u64 ((u : Int)) 16 ≥ 256) = false by rw [e16]; exact clt _ 256 (by omega)) ?_
        refine node_len8 (k := .u8) (u / 2 ^ 16) (by omega) Try.underlying9 (fun _ => ?_) (fun _ => rfl) rfl rfl rfl ?_
        · show Value.int .u8 (IntKind.u8.wrap (ifn .shr .u64 ((u : Int)) 16)) = _
          rw [e16, u8_small (by omega)]
        exact pure_done fun _ => fin 16 (blen (u / 2 ^ 16)) (by decide) (b8 (by omega)) (by have q0 := blen_shift (k := 16) (u := u) (by omega); omega) _ rfl
    · refine br_f (show decide ((u : Int) ≥ 65536) = false by exact clt _ 65536 (by omega)) ?_
      by_cases h8 : 256 ≤ u
      · refine br_t (show decide ((u : Int) ≥ 256) = true by exact cgt _ 256 h8) ?_
        refine node_len8 (k := .u8) (u / 2 ^ 8) (by omega) Try.underlying9 (fun _ => ?_) (fun _ => rfl) rfl rfl rfl ?_
        · show Value.int .u8 (IntKind.u8.wrap (ifn .shr .u64 ((u : Int)) 8)) = _
          rw [e8, u8_small (by omega)]
        exact pure_done fun _ => fin 8 (blen (u / 2 ^ 8)) (by decide) (b8 (by omega)) (by have q0 := blen_shift (k := 8) (u := u) (by omega); omega) _ rfl
      · refine br_f (show decide ((u : Int) ≥ 256) = false by exact clt _ 256 (by omega)) ?_
        refine node_len8 (k := .u8) (u) (by omega) Try.underlying9 (fun _ => ?_) (fun _ => rfl) rfl rfl rfl ?_
        · show Value.int .u8 (IntKind.u8.wrap ((u : Int))) = _
          rw [u8_small (by omega)]
        exact pure_done fun _ => fin 0 (blen (u)) (by decide) (b8 (by omega)) (by  omega) _ rfl
theorem size_any {u : Nat} (hu : u < 2 ^ 64) (w : World) : Calls Try.prog 71 #[.int .u64 (u : Int)] w (PureAt w (.int .i64 ((nlen u + 1 : Nat) : Int))) := by
  refine calls_at (tab_ok _) Try.func71 rfl tSize (ρ := ⟨[(u : Int)], [], [], [], []⟩) (ids := []) rfl (Facts.initP rfl oneNil) ?_
  refine node_val ⟨[(blen u : Int)], [], [], [], []⟩ (fun w => len64_any hu w) (fun _ => rfl) (fun _ => rfl) rfl rfl rfl oneNil ?_
  have h64 := blen_lt hu
  refine pure_done fun _ => ?_
  show Value.int .i64 (IntKind.i64.wrap (1 + IntKind.i64.wrap (Int.tdiv (IntKind.i64.wrap ((blen u : Int) + 7)) 8))) = _
  have e : Int.tdiv ((blen u : Int) + 7) 8 = ((nlen u : Nat) : Int) := by
    unfold nlen
    rw [show (blen u : Int) + 7 = ((blen u + 7 : Nat) : Int) by omega]
    rfl
  have h8 : nlen u ≤ 8 := nlen_8 hu
  rw [wrap_i64 (x := (blen u : Int) + 7) (by omega), e, wrap_i64 (x := (nlen u : Int)) (by omega), wrap_i64 (by omega)]
  congr 1; omega
theorem fold_any {i : Int} (h : I64 i) (w : World) : Calls Try.prog 72 #[.int .i64 i] w (PureAt w (.int .u64 (foldN i : Int))) := by
  refine calls_at (tab_ok _) Try.func72 rfl tFold (ρ := ⟨[i], [], [], [], []⟩) (ids := []) rfl (Facts.initP rfl oneNil) ?_
  refine pure_done fun _ => ?_
  show Value.int .u64 (ifn .xor .u64 (ifn .shl .u64 (IntKind.u64.wrap i) 1) (IntKind.u64.wrap (ifn .shr .i64 i 63))) = _
  congr 1
  have h2 := h
  unfold I64 at h2
  have wr : ∀ x : Int, IntKind.u64.wrap x = x % 18446744073709551616 := fun x => rfl
  have hs : ifn .shr .i64 i 63 = if 0 ≤ i then 0 else -1 := by
    show Int.fdiv i (2 ^ 63) = _
    have : Int.fdiv i (2 ^ 63) = i / 2 ^ 63 := Int.fdiv_eq_ediv_of_nonneg _ (by decide)
    rw [this]
    split <;> omega
  rw [hs]
  have hshl : ifn .shl .u64 (IntKind.u64.wrap i) 1 = (2 * i) % 18446744073709551616 := by
    show IntKind.u64.wrap (IntKind.u64.wrap i * 2 ^ 1) = _
    rw [wr, wr]; omega
  rw [hshl]
  unfold foldN
  by_cases h0 : 0 ≤ i
  · rw [if_pos h0, if_pos h0]
    show IntKind.u64.wrap (BitVec.ofInt 64 ((2 * i) % 18446744073709551616) ^^^ BitVec.ofInt 64 (IntKind.u64.wrap 0)).toNat = _
    have e : BitVec.ofInt 64 (IntKind.u64.wrap 0) = 0#64 := by decide
    rw [e, BitVec.xor_zero, BitVec.toNat_ofInt, wr]; omega
  · rw [if_neg h0, if_neg h0]
    show IntKind.u64.wrap (BitVec.ofInt 64 ((2 * i) % 18446744073709551616) ^^^ BitVec.ofInt 64 (IntKind.u64.wrap (-1))).toNat = _
    have e : BitVec.ofInt 64 (IntKind.u64.wrap (-1)) = BitVec.allOnes 64 := by decide
    rw [e, BitVec.xor_allOnes, BitVec.toNat_not, BitVec.toNat_ofInt, wr]; omega
theorem unfold_any {u : Nat} (hu : u < 2 ^ 64) (w : World) : Calls Try.prog 90 #[.int .u64 (u : Int)] w (PureAt w (.int .i64 (unfoldN u))) := by
  refine calls_at (tab_ok _) Try.func90 rfl tUnfold (ρ := ⟨[(u : Int)], [], [], [], []⟩) (ids := []) rfl (Facts.initP rfl oneNil) ?_
  refine pure_done fun _ => ?_
  show Value.int .i64 (ifn .xor .i64 (IntKind.i64.wrap (ifn .shr .u64 (u : Int) 1)) (ifn .sub .i64 0 (IntKind.i64.wrap (ifn .and .u64 (u : Int) 1)))) = _
  congr 1
  have e1 : ifn .shr .u64 (u : Int) 1 = ((u / 2 : Nat) : Int) := shr_u64 (k := 1) (by decide)
  have e2 : ifn .and .u64 (u : Int) 1 = ((u % 2 : Nat) : Int) := by
    show IntKind.u64.wrap ((BitVec.ofInt 64 (u : Int) &&& BitVec.ofInt 64 1).toNat : Int) = _
    have e3 : (BitVec.ofInt 64 (u : Int) &&& BitVec.ofInt 64 1).toNat = u % 2 := by
      rw [BitVec.toNat_and]
      have h2 : (BitVec.ofInt 64 (u : Int)).toNat = u := by simp only [BitVec.toNat_ofInt]; omega
      have h3 : (BitVec.ofInt 64 1).toNat = 2 ^ 1 - 1 := by decide
      rw [h2, h3]
      exact Nat.and_two_pow_sub_one_eq_mod u 1
    rw [e3]
    exact IntWalk.u64_in _ (by omega)
  rw [e1, e2, wrap_i64 (x := ((u / 2 : Nat) : Int)) (by omega), wrap_i64 (x := ((u % 2 : Nat) : Int)) (by omega)]
  have wr : ∀ x : Int, -9223372036854775808 ≤ x ∧ x ≤ 9223372036854775807 → IntKind.i64.wrap x = x := fun x h => wrap_i64 h
  unfold unfoldN
  rcases (by omega : u % 2 = 0 ∨ u % 2 = 1) with h | h
  · rw [h, if_pos rfl]
    have e : ifn .sub .i64 0 ((0 : Nat) : Int) = 0 := by decide
    rw [e]
    show IntKind.i64.wrap ((BitVec.ofInt 64 ((u / 2 : Nat) : Int) ^^^ BitVec.ofInt 64 0).toNat : Int) = _
    have e2 : BitVec.ofInt 64 0 = 0#64 := by decide
    rw [e2, BitVec.xor_zero, BitVec.toNat_ofInt]
    rw [wr _ (by omega)]; omega
  · rw [h, if_neg (by decide)]
    have e : ifn .sub .i64 0 ((1 : Nat) : Int) = -1 := by decide
    rw [e]
    show IntKind.i64.wrap ((BitVec.ofInt 64 ((u / 2 : Nat) : Int) ^^^ BitVec.ofInt 64 (-1)).toNat : Int) = _
    have e2 : BitVec.ofInt 64 (-1) = BitVec.allOnes 64 := by decide
    rw [e2, BitVec.xor_allOnes, BitVec.toNat_not, BitVec.toNat_ofInt]
    have e3 : (((2 : Nat) ^ 64 - 1 - ((((u / 2 : Nat) : Int) % ((2 ^ 64 : Nat) : Int)).toNat) : Nat) : Int) = 18446744073709551615 - ((u / 2 : Nat) : Int) := by omega
    rw [e3]
    have : ∀ y : Int, 9223372036854775808 ≤ y ∧ y ≤ 18446744073709551615 → IntKind.i64.wrap y = y - 18446744073709551616 := fun y hy => by
      have hm : y % (2 ^ IntKind.i64.bits : Int) = y := Int.emod_eq_of_lt (by omega) (show y < 18446744073709551616 by omega)
      unfold IntKind.wrap
      simp only [hm]
      rw [if_pos (by simp only [IntKind.signed, Bool.true_and, decide_eq_true_eq]; exact hy.1)]
      rfl
    rw [this _ (by omega)]; omega
theorem runfold_any {u : Nat} (hu : u < 2 ^ 64) (w : World) : Calls Try.prog 79 #[.int .u64 (u : Int)] w (PureAt w (.int .i64 (unfoldN u))) := by
  refine calls_at (tab_ok _) Try.func79 rfl tRUnfold (ρ := ⟨[(u : Int)], [], [], [], []⟩) (ids := []) rfl (Facts.initP rfl oneNil) ?_
  have e1 : Int.tmod (u : Int) 2 = ((u % 2 : Nat) : Int) := rfl
  have e2 : IntKind.u64.wrap (Int.tdiv (u : Int) 2) = ((u / 2 : Nat) : Int) := by
    show IntKind.u64.wrap ((u / 2 : Nat) : Int) = _
    exact IntWalk.u64_in _ (by omega)
  unfold unfoldN
  by_cases h : u % 2 = 0
  · refine br_t (show (Int.tmod (u : Int) 2 == 0) = true by rw [e1, h]; rfl) (pure_done fun _ => ?_)
    show Value.int .i64 (IntKind.i64.wrap (IntKind.u64.wrap (Int.tdiv (u : Int) 2))) = _
    rw [e2, if_pos h, wrap_i64 (by omega)]
  · refine br_f (show (Int.tmod (u : Int) 2 == 0) = false by rw [e1, show u % 2 = 1 by omega]; rfl) (pure_done fun _ => ?_)
    show Value.int .i64 (IntKind.i64.wrap (IntKind.i64.wrap (0 - IntKind.i64.wrap (IntKind.u64.wrap (Int.tdiv (u : Int) 2))) - 1)) = _
    rw [e2, if_neg h, wrap_i64 (x := ((u / 2 : Nat) : Int)) (by omega), wrap_i64 (x := 0 - ((u / 2 : Nat) : Int)) (by omega), wrap_i64 (by omega)]
    congr 1; omega
end Go.Proofs.Ytadgaefmoobcoaa

namespace Go.Proofs.Ytadgaefmoobcoaa
open Go.ChangeShapes Go.WideShapes Go.ChangeAt Go.RowKit Go.Syn Go.Eng
set_option linter.unusedVariables false
set_option maxRecDepth 100000
set_option linter.unusedSimpArgs false
def frow (a : Option Addr) (cap : Nat) (bs : List Int) : HX := HX.rw 1 5 a bs.length cap (bcells bs)
theorem frow_none (hx : HX) : hx.and (frow none 0 []) = hx := HX.ext (by
    funext k
    exact propext ⟨fun h => h.elim id fun h => absurd rfl h.1, .inl⟩) (by
    funext w
    exact propext ⟨fun h => h.1, fun h => ⟨h, HX.rw_nil _ _ _ _⟩⟩)
theorem frow_snoc (a : Option Addr) (cap : Nat) (bs : List Int) (d : Int) : HX.rw 1 5 a (bs.length + 1) cap (bcells bs ++ [.int .u8 d]) = frow a cap (bs ++ [d]) := by
  unfold frow bcells
  rw [List.length_append, List.map_append]; rfl
theorem frow_app (a : Option Addr) (cap : Nat) (bs cs : List Int) : HX.rw 1 5 a (bs.length + cs.length) cap (bcells bs ++ bcells cs) = frow a cap (bs ++ cs) := by
  unfold frow bcells
  rw [List.length_append, List.map_append]
theorem frow_cells {a : Option Addr} {cap : Nat} {bs : List Int} {w : World} (h : (frow a cap bs).X w) : Cells w a (bcells bs) := rw_cells h
theorem frow_lt {a : Option Addr} {cap : Nat} {bs : List Int} {w : World} (h : (frow a cap bs).X w) {k : Nat} (h1 : cap ≠ 0) (h2 : abk a = some k) : k < w.heap.size := by
  obtain ⟨g, _, rfl, q, _⟩ := rw_open h h1
  cases h2; exact q
theorem frow_le {a : Option Addr} {cap : Nat} {bs : List Int} {w : World} (h : (frow a cap bs).X w) : bs.length ≤ cap := (rw_le h).1
theorem blk_sliA (a : Option Addr) (l cap sz : Nat) : blk (sliA a l cap sz) = blk a := by
  unfold sliA
  split
  · rfl
  · cases a with
    | none => rfl
    | some ad => simp only [Option.map_some]; show (ad.add (l * sz)).block = ad.block; unfold Addr.add; split <;> rfl
theorem bcells_sub (bs : List Int) (l k : Nat) : ((bcells bs).drop l).take k = bcells ((bs.drop l).take k) := by unfold bcells; rw [← List.map_drop, ← List.map_take]
theorem cl_none (hx : HX) (a : Option Addr) : hx.and (HX.cl a (bcells [])) = hx := HX.ext (by
    funext k
    exact propext ⟨fun h => h.elim id fun h => absurd rfl h.1, .inl⟩) (by
    funext w
    exact propext ⟨fun h => h.1, fun h => ⟨h, fun q => by simp [bcells] at q⟩⟩)
def NewO (w : World) (V : Value → Value) (bs : List Int) (e : Ending) (w' : World) : Prop := ∃ a' c', e = .returned (V (.slice a' bs.length c')) ∧ (frow a' c' bs).X w' ∧ (∀ k, c' ≠ 0 → abk a' = some k → w.heap.size ≤ k) ∧ Below w.heap.size w w'
theorem row_some {a : Option Addr} {cap : Nat} {bs : List Int} {w : World} (h : (frow a cap bs).X w) (hne : bs ≠ []) : a.isSome = true := by
  have hc : cap ≠ 0 := fun q => by
    rcases h with ⟨_, _, h3⟩ | ⟨h3, _⟩
    · exact hne (bcells_nil.1 h3)
    · exact h3 q
  obtain ⟨g, _, rfl, _⟩ := rw_open h hc
  rfl
section
variable {C : Cfg} {ρ : Env} {pre : List Nat} {hx rest : HX} {L : Stack} {m m' : Mem} {args : List SV} {r : SV} {t : Tree} {a : Option Addr} {cap : Nat} {g : List Int}
end
end Go.Proofs.Ytadgaefmoobcoaa

namespace Go.Proofs.Ytadgaefmoobcoaa
open Go.ChangeShapes Go.WideShapes Go.ChangeAt Go.RowKit Go.Syn Go.Eng
set_option linter.unusedVariables false
set_option maxRecDepth 100000
set_option linter.unusedSimpArgs false
structure WAt (w : World) (nb : Nat) (a : Option Addr) (cap : Nat) (bs : List Int) : Prop where
  blk : Blk w nb [.slice a bs.length cap] 113
  mem : (frow a cap bs).X w
  sep : ∀ k, (frow a cap bs).F k → k < w.heap.size ∧ k ≠ nb
def WR (w : World) (nb : Nat) (a : Option Addr) (cap : Nat) (bs' : List Int) (V : Value) (e : Ending) (w' : World) : Prop :=
  ∃ a' cap', e = .returned V ∧ Blk w' nb [.slice a' bs'.length cap'] 113 ∧ (frow a' cap' bs').X w' ∧ Chg (fun x => x = nb ∨ (cap ≠ 0 ∧ abk a = some x)) w w' ∧ (∀ k, cap' ≠ 0 → abk a' = some k → (cap ≠ 0 ∧ abk a = some k) ∨ w.heap.size ≤ k)
theorem digs_step {n u j : Nat} (h : j < n) : (digs n u).take (j + 1) = (digs n u).take j ++ [((u / 256 ^ (n - 1 - j) % 256 : Nat) : Int)] := by
  rw [List.take_add_one, digs_get n u j h]; rfl
def WnI (W : World) (a : Option Addr) (cap : Nat) (bs : List Int) (u : Nat) (vs : Vals) (hx : HX) : Prop := ∃ (j : Nat) (a' : Option Addr) (cap' : Nat), j ≤ nlen u ∧ (∀ k, cap' ≠ 0 → abk a' = some k → (cap ≠ 0 ∧ abk a = some k) ∨ W.heap.size ≤ k) ∧
  vs = ⟨[(nlen u : Int) - 1 - j], [], [], [(bs ++ (nlen u : Int) :: (digs (nlen u) u).take j).length, cap'], [a']⟩ ∧ hx = HX.nil.and (frow a' cap' (bs ++ (nlen u : Int) :: (digs (nlen u) u).take j))
set_option maxRecDepth 100000 in
theorem wnum_any (nb : Nat) (a : Option Addr) (cap : Nat) (bs : List Int) (u : Nat) (hu : u < 2 ^ 64) (w : World) (H : WAt w nb a cap bs) (hl : bs.length + 9 ≤ 140737488355328) : Calls Try.prog 42 #[.pointer (some ⟨nb, 0, none⟩), .int .u64 (u : Int)] w (WR w nb a cap (bs ++ numB u) (.pointer (some ⟨nb, 0, none⟩))) := by
  have h8 := nlen_8 hu
  refine calls_at (tab_ok _) Try.func42 rfl tWNum (ρ := ⟨[(u : Int)], [], [], [bs.length, cap], [a]⟩) (ids := [nb]) (hx := HX.nil.and (frow a cap bs)) (M := fun x => x = nb ∨ (cap ≠ 0 ∧ abk a = some x)) rfl (Facts.initx rfl oneNil H.blk rfl (.inl rfl) ⟨trivial, H.mem⟩ (fun k hk => hk.elim (fun q => q.elim) (H.sep k))) ?_
  refine node_val ⟨[((nlen u + 1 : Nat) : Int)], [], [], [], []⟩ (fun w => size_any hu w) (fun _ => rfl) (fun _ => rfl) rfl rfl rfl oneNil ?_
  have hn1 : IntKind.i64.wrap (((nlen u + 1 : Nat) : Int) - 1) = (nlen u : Int) := by rw [wrap_i64 (by omega)]; omega
  refine node_pushs (sz := 1) (vs := [.int .u8 (nlen u : Int)]) rfl Try.underlying35 info_byte rfl (by decide) a bs.length cap (bcells bs) 1 (fun _ => rfl) (fun _ => rfl) rfl (fun _ => ?_) rfl (by simp [Value.oneCell']) (fun k _ _ q => q.elim) (fun k h1 h2 => .inr (.inr ⟨h1, h2⟩)) (by unfold maxLen; omega) (by omega) (fun _ _ _ => rfl) rfl rfl (fun _ _ => rfl) ?_
  · show [Value.int .u8 (IntKind.u8.wrap (IntKind.i64.wrap (((nlen u + 1 : Nat) : Int) - 1)))] = _
    rw [hn1, u8_small (by omega)]
  intro a1 c1 hc1 hf1 hor1
  have hfr : ∀ k, c1 ≠ 0 → abk a1 = some k → (cap ≠ 0 ∧ abk a = some k) ∨ w.heap.size ≤ k := fun k h1 h2 => by
    rcases hor1 with ⟨q1, q2⟩ | ⟨g, q1, q2, _⟩
    · exact .inl ⟨q1, q2 ▸ h2⟩
    · rw [q1] at h2; cases h2; exact .inr q2
  rw [frow_snoc]
  have hlen : ∀ j, j ≤ nlen u → (bs ++ (nlen u : Int) :: (digs (nlen u) u).take j).length = bs.length + 1 + j := fun j hj => by
    rw [List.length_append, List.length_cons, List.length_take, digs_len]; omega
  refine loop_i (WnI w a cap bs u) (fun vs => (vs.i.headD 0 + 1).toNat) (fun ids w2 hp hf => ⟨_, ⟨hf.x, hf.sep⟩, 0, a1, c1, Nat.zero_le _, hfr, ?_, by rw [List.take_zero]⟩) ?_
  · rw [hlen 0 (Nat.zero_le _)]
    show (⟨[IntKind.i64.wrap (IntKind.i64.wrap (((nlen u + 1 : Nat) : Int) - 1) - 1)], [], [], [bs.length + 1, c1], [a1]⟩ : Vals) = _
    rw [hn1, wrap_i64 (by omega)]
    simp
  rintro vs hx' hcnt ⟨j, a2, c2, hj, hfr2, rfl, rfl⟩
  by_cases hlt : j < nlen u
  · refine br_t (show decide ((nlen u : Int) - 1 - j ≥ 0) = true from decide_eq_true (by omega)) ?_
    have e8 : ifn .mul .i64 8 ((nlen u : Int) - 1 - j) = ((8 * (nlen u - 1 - j) : Nat) : Int) := by
      show IntKind.i64.wrap (8 * ((nlen u : Int) - 1 - j)) = _
      rw [wrap_i64 (by omega)]; omega
    have ebyte : IntKind.u8.wrap (ifn .shr .u64 (u : Int) (ifn .mul .i64 8 ((nlen u : Int) - 1 - j))) = ((u / 256 ^ (nlen u - 1 - j) % 256 : Nat) : Int) := by
      rw [e8, shr_u64 (by omega), show (2 : Nat) ^ (8 * (nlen u - 1 - j)) = 256 ^ (nlen u - 1 - j) by rw [Nat.pow_mul]]
      generalize u / 256 ^ (nlen u - 1 - j) = q
      show (q : Int) % 256 = _
      omega
    refine need_i (show (0 : Int) ≤ ifn .mul .i64 8 ((nlen u : Int) - 1 - j) by rw [e8]; omega) ?_
    have way : ∀ {ty : Nat} {ps : List (Nat × SV)} {m m' : Mem} {t : Tree} {r : SV} {L : Stack} (hx : HX), t = t → True := fun _ _ => trivial
    have hpl := hlen j hj
    refine par_i ?_ ?_
    all_goals
      refine node_pushs (sz := 1) (vs := [.int .u8 ((u / 256 ^ (nlen u - 1 - j) % 256 : Nat) : Int)]) rfl Try.underlying35 info_byte rfl (by decide) a2 (bs ++ (nlen u : Int) :: (digs (nlen u) u).take j).length c2 (bcells (bs ++ (nlen u : Int) :: (digs (nlen u) u).take j)) 2 (fun _ => rfl) (fun _ => rfl) rfl (fun _ => ?_) rfl (by simp [Value.oneCell']) (fun k _ _ q => q.elim) (fun k h1 h2 => ?_) (by unfold maxLen; omega) (by omega) (fun _ _ _ => rfl) rfl rfl (fun _ _ => rfl) ?_
      · show [Value.int .u8 (IntKind.u8.wrap (ifn .shr .u64 (u : Int) (ifn .mul .i64 8 ((nlen u : Int) - 1 - j))))] = _
        rw [ebyte]
      · rcases hfr2 k h1 h2 with q | q
        · exact .inr (.inr q)
        · exact .inl q
      intro a3 c3 hc3 hf3 hor3
      rw [frow_snoc, List.append_assoc, List.cons_append, ← digs_step hlt]
      intro ids w2 hp hf
      refine ⟨_, ⟨hf.x, hf.sep⟩, _, rfl, ⟨j + 1, a3, c3, by omega, fun k h1 h2 => ?_, ?_, rfl⟩, ?_⟩
      · rcases hor3 with ⟨q1, q2⟩ | ⟨g, q1, q2, _⟩
        · exact hfr2 k q1 (q2 ▸ h2)
        · rw [q1] at h2; cases h2; exact .inr q2
      · rw [hlen (j + 1) (by omega)]
        show (⟨[IntKind.i64.wrap ((nlen u : Int) - 1 - j - 1)], [], [], [(bs ++ (nlen u : Int) :: (digs (nlen u) u).take j).length + 1, c3], [a3]⟩ : Vals) = _
        rw [wrap_i64 (by omega), hpl]
        simp only [Vals.mk.injEq, List.cons.injEq, and_true, true_and]
        omega
      · show (IntKind.i64.wrap ((nlen u : Int) - 1 - j - 1) + 1).toNat < ((nlen u : Int) - 1 - j + 1).toNat
        rw [wrap_i64 (by omega)]; omega
  · refine br_f (show decide ((nlen u : Int) - 1 - j ≥ 0) = false from decide_eq_false (by omega)) ?_
    obtain rfl : j = nlen u := by omega
    have ht : (digs (nlen u) u).take (nlen u) = digs (nlen u) u := List.take_of_length_le (by rw [digs_len]; exact Nat.le_refl _)
    rw [ht]
    intro ids w2 hp hf
    refine ⟨a2, c2, ?_, ?_, hf.x.2, hf.chg, hfr2⟩
    · show Ending.returned (.pointer (some ⟨idAt ids 0, 0, none⟩)) = _
      rw [idAt0 hp]
    · have := hf.blkAt 0 rfl
      rw [idAt0 hp] at this
      exact this
section
variable {C : Cfg} {ρ : Env} {pre : List Nat} {rest : HX} {L : Stack} {m m' : Mem} {args : List SV} {r : SV} {t : Tree} {a : Option Addr} {cap : Nat} {bs bs' : List Int}
theorem w_at {ids : List Nat} {w : World} {cs : List LV} (n : Nat) (hf : Facts C m ρ ids (rest.and (frow a cap bs)) w) (hn : m.hp[n]? = some (113, cs)) (hcs : ∀ ids, cellsDen ρ ids cs = [.slice a bs.length cap]) : WAt w (idAt ids n) a cap bs := by
  have hlt : n < m.hp.length := by
    rcases Nat.lt_or_ge n m.hp.length with q | q
    · exact q
    · rw [List.getElem?_eq_none q] at hn; cases hn
  have hmem := idAt_mem (ids := ids) (n := n) (hf.len ▸ hlt)
  have hb := hf.blk n _ _ hn
  rw [hcs] at hb
  exact ⟨hb, hf.x.2, fun k hk => ⟨(hf.sep k (.inr hk)).1, fun e => (hf.sep k (.inr hk)).2 (e ▸ hmem)⟩⟩
theorem node_wr {fn : Nat} {cs : List LV} (n : Nat) (vs : Option Addr → Nat → Vals) (V : List Nat → Value) (AS : List Nat → Array Value) (hP : C.P = Try.prog) (hn : m.hp[n]? = some (113, cs)) (hcs : ∀ ids, cellsDen ρ ids cs = [.slice a bs.length cap]) (hM : ∀ k, cap ≠ 0 → abk a = some k → C.W.heap.size ≤ k ∨ C.M k) (hrest : ∀ k, cap ≠ 0 → abk a = some k → ¬ rest.F k)
    (hargs : ∀ ids, (args.map (SV.den ρ ids)).toArray = AS ids) (hcall : ∀ ids w, pre <+: ids → Facts C m ρ ids (rest.and (frow a cap bs)) w → WAt w (idAt ids n) a cap bs → Calls Try.prog fn (AS ids) w (WR w (idAt ids n) a cap bs' (V ids)))
    (cs' : List LV) (hhp : m'.hp = m.hp.set n (113, cs')) (hcs' : ∀ a' cap' ids, cellsDen (ρ.add (vs a' cap')) ids cs' = [.slice a' bs'.length cap']) (hr : ∀ a' cap' ids, r.den (ρ.add (vs a' cap')) ids = V ids) (hfit : hpFits m.c m.hp.length m.hp = true) (hc : ∀ a' cap', (ρ.add (vs a' cap')).cnt = m'.c) (h1 : ∀ a' cap' v, v ∈ (vs a' cap').v → v.oneCell' = true)
    (h : ∀ a' cap', (∀ k, cap' ≠ 0 → abk a' = some k → (C.W.heap.size ≤ k ∨ C.M k) ∧ ¬ rest.F k) → (∀ k, cap' ≠ 0 → abk a' = some k → (cap ≠ 0 ∧ abk a = some k) ∨ C.W.heap.size ≤ k) → t.holds C (ρ.add (vs a' cap')) pre (rest.and (frow a' cap' bs')) L) :
    (Tree.call fn args m r m' t).holds C ρ pre (rest.and (frow a cap bs)) L := by
  intro ids w hp hf
  rw [hP, hargs]
  refine (hcall ids w hp hf (w_at n hf hn hcs)).mono ?_
  rintro e w' ⟨a', cap', rfl, hb, hX, hch, hfr⟩
  have nres : ∀ k, w.heap.size ≤ k → ¬ rest.F k := fun k hk hF => by have := (hf.sep k (.inl hF)).1; omega
  have hlt : n < m.hp.length := by
    rcases Nat.lt_or_ge n m.hp.length with q | q
    · exact q
    · rw [List.getElem?_eq_none q] at hn; cases hn
  refine ⟨_, ids, rest.and (frow a' cap' bs'), by rw [← hr a' cap' ids], List.prefix_refl _, hf.act (hx' := rest.and (frow a' cap' bs')) hch (fun b hb => ?_) hn (by rw [hcs']; exact hb) ⟨rest.loc w w' hf.x.1 fun k hk => hch.block k (hf.sep k (.inl hk)).1 fun q => ?_, hX⟩ (fun k hk => ?_) hhp hfit (hc _ _) (h1 _ _), holds_pre t hp (h a' cap' (fun k h1 h2 => ⟨?_, fun hF => ?_⟩) (fun k h1 h2 => ?_))⟩
  · rcases hb with hb | ⟨h1, h2⟩
    · exact .inl hb
    · exact .inr ⟨.inr ⟨h1, h2⟩, hM b h1 h2⟩
  · rcases q with q | ⟨h1, h2⟩
    · exact (hf.sep k (.inl hk)).2 (q ▸ idAt_mem (hf.len ▸ hlt))
    · exact hrest k h1 h2 hk
  · rcases hk with hk | hk
    · exact .inl (.inl hk)
    · rcases hfr k hk.1 hk.2 with q | q
      · exact .inl (.inr q)
      · exact .inr ⟨q, frow_lt hX hk.1 hk.2⟩
  · rcases hfr k h1 h2 with q | q
    · exact hM k q.1 q.2
    · exact .inl (Nat.le_trans hf.chg.size q)
  · rcases hfr k h1 h2 with q | q
    · exact hrest k q.1 q.2 hF
    · exact nres k q hF
  · rcases hfr k h1 h2 with q | q
    · exact .inl q
    · exact .inr (Nat.le_trans hf.chg.size q)
end
theorem wint_any (nb : Nat) (a : Option Addr) (cap : Nat) (bs : List Int) (i : Int) (hi : I64 i) (w : World) (H : WAt w nb a cap bs) (hl : bs.length + 9 ≤ 140737488355328) : Calls Try.prog 45 #[.pointer (some ⟨nb, 0, none⟩), .int .i64 i] w (WR w nb a cap (bs ++ numB (foldN i)) (.pointer (some ⟨nb, 0, none⟩))) := by
  have hu := foldN_lt hi
  refine calls_at (tab_ok _) Try.func45 rfl tWInt (ρ := ⟨[i], [], [], [bs.length, cap], [a]⟩) (ids := [nb]) (hx := HX.nil.and (frow a cap bs)) (M := fun x => x = nb ∨ (cap ≠ 0 ∧ abk a = some x)) rfl (Facts.initx rfl oneNil H.blk rfl (.inl rfl) ⟨trivial, H.mem⟩ (fun k hk => hk.elim (fun q => q.elim) (H.sep k))) ?_
  refine node_val ⟨[(foldN i : Int)], [], [], [], []⟩ (fun w => fold_any hi w) (fun _ => rfl) (fun _ => rfl) rfl rfl rfl oneNil ?_
  refine node_wr 0 (fun a' c' => ⟨[], [], [], [(bs ++ numB (foldN i)).length, c'], [a']⟩) (fun ids => .pointer (some ⟨idAt ids 0, 0, none⟩)) (fun ids => #[.pointer (some ⟨idAt ids 0, 0, none⟩), .int .u64 (foldN i : Int)]) rfl rfl (fun _ => rfl) (fun k h1 h2 => .inr (.inr ⟨h1, h2⟩)) (fun k _ _ q => q.elim) (fun _ => rfl) (fun ids w2 hp hf HW => wnum_any _ a cap bs (foldN i) hu w2 HW hl) [.sl 1 (.var 2) (.var 3)] rfl (fun _ _ _ => rfl) (fun _ _ _ => rfl) rfl (fun _ _ => rfl) (fun _ _ => oneNil) ?_
  intro a' c' hk hk2 ids w2 hp hf
  refine ⟨a', c', ?_, ?_, hf.x.2, hf.chg, hk2⟩
  · show Ending.returned (.pointer (some ⟨idAt ids 0, 0, none⟩)) = _
    rw [idAt0 hp]
  · have := hf.blkAt 0 rfl
    rw [idAt0 hp] at this
    exact this
theorem wbytes_any (nb : Nat) (a : Option Addr) (cap : Nat) (bs : List Int) (w : World) (H : WAt w nb a cap bs) (hl : bs.length ≤ 140737488355328) : Calls Try.prog 47 #[.pointer (some ⟨nb, 0, none⟩)] w (NewO w id bs) := by
  refine calls_at (tab_ok _) Try.func47 rfl tWBytes (ρ := ⟨[], [], [], [bs.length, cap], [a]⟩) (ids := [nb]) (hx := frow a cap bs) (M := fun x => x = nb) rfl (Facts.initx rfl oneNil H.blk rfl rfl H.mem H.sep) ?_
  refine node_appends (xs := []) rfl Try.underlying35 info_byte rfl (by decide) none 0 0 (fun _ => a) bs.length cap (bcells bs) (by simp [bcells_len]) (fun ids w _ _ => HX.rw_nil _ _ _ w) (fun ids w2 hp hf => frow_cells hf.x) (bcells_one bs) (fun w h => ⟨h, fun _ q => q⟩) (fun k h => absurd rfl h) (fun k h => absurd rfl h) (fun k h => absurd rfl h) (by unfold maxLen; omega) (by omega) (by intros; kernel_rfl) (by intros; kernel_rfl) (by intros; kernel_rfl) rfl rfl (fun _ _ => rfl) ?_
  intro a' c' _ hd hw ids w2 hp hf
  have e0 := hf.blkAt 0 rfl
  rw [idAt0 hp] at e0
  have hX := hf.x.2
  rw [Nat.zero_add, List.nil_append] at hX
  refine ⟨a', c', ?_, hX, fun k h1 h2 => ?_, (hf.chg.same (e0.trans H.blk.symm)).below⟩
  · show Ending.returned (.slice a' (0 + bs.length) c') = _
    rw [Nat.zero_add]; rfl
  · rcases hw k h1 h2 with q | q
    · exact absurd rfl q.1
    · exact q.1
theorem wnew_any (w : World) : Calls Try.prog 40 #[] w (NewB w 113 [.slice none 0 0]) := by
  refine calls_at (tab_ok _) Try.func40 rfl tWNew (ρ := ⟨[], [], [], [], []⟩) (ids := []) rfl (Facts.initP rfl oneNil) ?_
  exact new_done (k := 0) rfl (fun _ => rfl) (fun _ => rfl)
end Go.Proofs.Ytadgaefmoobcoaa

namespace Go.Proofs.Ytadgaefmoobcoaa
open Go.ChangeShapes Go.WideShapes Go.ChangeAt Go.RowKit Go.Syn Go.Eng
set_option linter.unusedVariables false
set_option linter.unusedSimpArgs false
set_option maxRecDepth 100000
def rcells (a : Option Addr) (cap : Nat) (bs : List Int) (ix : Nat) (bad : Int) : List Value := [.slice a bs.length cap, .int .i64 (ix : Int), .int .i64 bad]
structure RdAt (w : World) (nb : Nat) (a : Option Addr) (cap : Nat) (bs : List Int) (ix : Nat) (bad : Int) : Prop where
  blk : Blk w nb (rcells a cap bs ix bad) 128
  mem : Cells w a (bcells bs)
  ne : bs ≠ [] → Go.Syn.blk a ≠ nb
  byt : Byt bs
  len : bs.length ≤ 140737488355328
  cap : bs.length ≤ cap
  ix : ix ≤ bs.length
def ixN (bs : List Int) (ix : Nat) (bad : Int) : Nat := bs.length - (readN (bs.drop ix) bad).1.length
theorem getD_blk {a : Option Addr} (h : a.isSome = true) : (a.getD ⟨0, 0, none⟩).block = blk a := by
  cases a with
  | none => cases h
  | some ad => rfl
theorem sliA_some {a : Option Addr} {l cap sz : Nat} (h : a.isSome = true) : (sliA a l cap sz).isSome = true := by
  unfold sliA
  split
  · exact h
  · cases a with
    | none => cases h
    | some ad => rfl
theorem readN_suffix (l : List Int) (bad : Int) : ∃ k, k ≤ l.length ∧ (readN l bad).1 = l.drop k := by
  unfold readN
  split
  · exact ⟨0, Nat.zero_le _, rfl⟩
  · cases l with
    | nil => exact ⟨0, Nat.zero_le _, rfl⟩
    | cons n r =>
      simp only
      split
      · exact ⟨0, Nat.zero_le _, rfl⟩
      · split
        · exact ⟨0, Nat.zero_le _, rfl⟩
        · split
          · exact ⟨0, Nat.zero_le _, rfl⟩
          · refine ⟨n.toNat + 1, ?_, rfl⟩
            rw [List.length_cons]; omega
theorem ixN_le (bs : List Int) (ix : Nat) (bad : Int) : ixN bs ix bad ≤ bs.length := Nat.sub_le _ _
theorem ixN_drop {bs : List Int} {ix : Nat} (h : ix ≤ bs.length) (bad : Int) : bs.drop (ixN bs ix bad) = (readN (bs.drop ix) bad).1 := by
  obtain ⟨k, hk, e⟩ := readN_suffix (bs.drop ix) bad
  rw [List.length_drop] at hk
  unfold ixN
  rw [e, List.drop_drop, List.length_drop]
  congr 1; omega
theorem readN_u64 {l : List Int} (hb : Byt l) (bad : Int) : (readN l bad).2.2 < 2 ^ 64 := by
  by_cases h : (readN l bad).2.1 = 0
  · exact (readN_ok hb h).2.2
  · unfold readN at *
    by_cases h0 : bad = 0
    · rw [if_neg (by simpa using h0)] at *
      cases l with
      | nil => decide
      | cons n r =>
        simp only at *
        by_cases h1 : 8 < n
        · rw [if_pos h1]; show 0 < 2 ^ 64; decide
        · rw [if_neg h1] at *
          by_cases h2 : r.length < n.toNat
          · rw [if_pos h2]; show 0 < 2 ^ 64; decide
          · rw [if_neg h2] at *
            by_cases h3 : nlen (valB (r.take n.toNat)) ≠ n.toNat
            · rw [if_pos h3]; show 0 < 2 ^ 64; decide
            · rw [if_neg h3] at h; exact absurd rfl h
    · rw [if_pos h0]; show 0 < 2 ^ 64; decide
theorem or_byte {u : Nat} {c : Int} (hu : u < 2 ^ 56) (hc : 0 ≤ c ∧ c < 256) : ifn .or .u64 (ifn .shl .u64 (u : Int) 8) (IntKind.u64.wrap c) = ((256 * u + c.toNat : Nat) : Int) := by
  have wr : ∀ x : Int, IntKind.u64.wrap x = x % 18446744073709551616 := fun x => rfl
  have e1 : ifn .shl .u64 (u : Int) 8 = ((256 * u : Nat) : Int) := by
    show IntKind.u64.wrap ((u : Int) * 256) = _
    rw [wr]; omega
  have e2 : IntKind.u64.wrap c = (c.toNat : Int) := by rw [wr]; omega
  rw [e1, e2]
  show IntKind.u64.wrap ((BitVec.ofInt 64 ((256 * u : Nat) : Int) ||| BitVec.ofInt 64 (c.toNat : Int)).toNat : Int) = _
  have e3 : (BitVec.ofInt 64 ((256 * u : Nat) : Int) ||| BitVec.ofInt 64 (c.toNat : Int)).toNat = 256 * u + c.toNat := by
    rw [BitVec.toNat_or]
    have h1 : (BitVec.ofInt 64 ((256 * u : Nat) : Int)).toNat = 256 * u := by simp only [BitVec.toNat_ofInt]; omega
    have h2 : (BitVec.ofInt 64 (c.toNat : Int)).toNat = c.toNat := by simp only [BitVec.toNat_ofInt]; omega
    rw [h1, h2]
    exact (Nat.two_pow_add_eq_or_of_lt (i := 8) (show c.toNat < 2 ^ 8 by omega) u).symm
  rw [e3, wr]; omega
theorem valB_step {ds : List Int} {k : Nat} {c : Int} (h : ds[k]? = some c) : valB (ds.take (k + 1)) = 256 * valB (ds.take k) + c.toNat := by
  rw [List.take_add_one, h]
  exact valB_snoc _ _
def RnI (ds : List Int) (vs : Vals) (hx : HX) : Prop := ∃ k : Nat, k ≤ ds.length ∧ vs = ⟨[(valB (ds.take k) : Int), (k : Int)], [], [], [], []⟩ ∧ hx = HX.nil
theorem rnum_any (nb : Nat) (a : Option Addr) (cap : Nat) (bs : List Int) (ix : Nat) (bad : Int) (w : World) (H : RdAt w nb a cap bs ix bad) :
    Calls Try.prog 81 #[.pointer (some ⟨nb, 0, none⟩)] w (At1 w nb 128 (.int .u64 ((readN (bs.drop ix) bad).2.2 : Int)) (rcells a cap bs (ixN bs ix bad) (readN (bs.drop ix) bad).2.1)) := by
  have hlen := H.len
  have hix := H.ix
  have hcap := H.cap
  have done : ∀ {v : SV} {ρ : Env} {cs : List LV} {r : List (Nat × List LV)} {n : Cnt} {hx : HX} {L : Stack} (l' : List Int) (bad' : Int) (u' : Nat), readN (bs.drop ix) bad = (l', bad', u') → l'.length ≤ bs.length → (∀ ids, v.den ρ ids = .int .u64 (u' : Int)) → (∀ ids, cellsDen ρ ids cs = rcells a cap bs (bs.length - l'.length) bad') →
      (Tree.done v ⟨(128, cs) :: r, n⟩).holds ⟨Try.prog, w, fun x => x = nb, At1 w nb 128 (.int .u64 ((readN (bs.drop ix) bad).2.2 : Int)) (rcells a cap bs (ixN bs ix bad) (readN (bs.drop ix) bad).2.1)⟩ ρ [nb] hx L := fun l' bad' u' e hl hv hc => by
    unfold ixN
    rw [e]
    exact at1_done hv hc
  have hdl : (bs.drop ix).length = bs.length - ix := List.length_drop
  have hself : bs.length - (bs.drop ix).length = ix := by rw [hdl]; omega
  refine calls_at (tab_ok _) Try.func81 rfl tRNum (ρ := ⟨[(ix : Int), bad], [], [], [bs.length, cap], [a]⟩) (ids := [nb]) (hx := HX.nil) (M := fun x => x = nb) rfl (Facts.initx rfl oneNil H.blk rfl rfl trivial (fun k hk => hk.elim)) ?_
  by_cases h0 : bad = 0
  · subst h0
    refine br_f rfl ?_
    by_cases h1 : bs.length ≤ ix
    · refine br_t (show decide ((ix : Int) ≥ (bs.length : Int)) = true from decide_eq_true (by omega)) ?_
      have e : bs.drop ix = [] := List.drop_of_length_le h1
      exact done (bs.drop ix) 10 0 (by rw [e]; rfl) (by rw [hdl]; omega) (fun _ => rfl) (fun _ => by rw [hself]; rfl)
    · refine br_f (show decide ((ix : Int) ≥ (bs.length : Int)) = false from decide_eq_false (by omega)) ?_
      obtain ⟨n, hn⟩ : ∃ n, bs[ix]? = some n := ⟨_, List.getElem?_eq_getElem (by omega)⟩
      have hnb := H.byt n (List.mem_of_getElem? hn)
      have hbne : bs ≠ [] := fun e => by subst e; simp at hn
      have hdr : bs.drop ix = n :: bs.drop (ix + 1) := by
        have := List.drop_eq_getElem_cons (show ix < bs.length by omega)
        rw [this]
        rw [List.getElem?_eq_getElem (by omega)] at hn
        rw [Option.some.inj hn]
      obtain ⟨s1, c1⟩ := b_elt H.mem hn
      have hNb : (a.getD ⟨0, 0, none⟩).block ≠ nb := by
        have h1 := (H.mem (by rw [bcells_len]; exact List.length_pos_iff.2 hbne)).1
        have h2 := H.ne hbne
        cases a with
        | none => simp [PlainA] at h1
        | some ad => exact h2
      refine need_i ⟨s1, (show (0 : Int) ≤ ix by omega), (show (ix : Int) < bs.length by omega)⟩ ?_
      refine ⟨⟨[n], [], [], [], []⟩, fun ids => c1 _ hNb, ⟨rfl, oneNil⟩, ?_⟩
      have hnw : IntKind.i64.wrap n = n := wrap_i64 (by omega)
      by_cases h8 : 8 < n
      · refine br_t (show decide (IntKind.i64.wrap n > 8) = true by rw [hnw]; exact decide_eq_true h8) ?_
        exact done (bs.drop ix) 11 0 (by rw [hdr]; unfold readN; rw [if_neg (by simp)]; dsimp only; rw [if_pos h8]) (by rw [hdl]; omega) (fun _ => rfl) (fun _ => by rw [hself]; rfl)
      · refine br_f (show decide (IntKind.i64.wrap n > 8) = false by rw [hnw]; exact decide_eq_false (by omega)) ?_
        have hsub : ifn .sub .i64 (ifn .sub .i64 (bs.length : Int) (ix : Int)) 1 = (bs.length : Int) - ix - 1 := by
          show IntKind.i64.wrap (IntKind.i64.wrap ((bs.length : Int) - ix) - 1) = _
          rw [wrap_i64 (x := (bs.length : Int) - ix) (by omega), wrap_i64 (by omega)]
        by_cases hs : (bs.drop (ix + 1)).length < n.toNat
        · have hs2 := hs
          rw [List.length_drop] at hs2
          refine br_t (show decide (IntKind.i64.wrap n > ifn .sub .i64 (ifn .sub .i64 (bs.length : Int) (ix : Int)) 1) = true by rw [hnw, hsub]; exact decide_eq_true (by omega)) ?_
          exact done (bs.drop ix) 10 0 (by rw [hdr]; unfold readN; rw [if_neg (by simp)]; dsimp only; rw [if_neg h8, if_pos hs]) (by rw [hdl]; omega) (fun _ => rfl) (fun _ => by rw [hself]; rfl)
        · have hs2 := hs
          rw [List.length_drop] at hs2
          refine br_f (show decide (IntKind.i64.wrap n > ifn .sub .i64 (ifn .sub .i64 (bs.length : Int) (ix : Int)) 1) = false by rw [hnw, hsub]; exact decide_eq_false (by omega)) ?_
          obtain ⟨c, rfl⟩ : ∃ c : Nat, n = (c : Int) := ⟨n.toNat, by omega⟩
          rw [Int.toNat_natCast] at hs hs2
          have hw1 : IntKind.i64.wrap ((ix : Int) + 1) = ((ix + 1 : Nat) : Int) := by rw [wrap_i64 (by omega)]; omega
          have hw2 : IntKind.i64.wrap (IntKind.i64.wrap ((ix : Int) + 1) + IntKind.i64.wrap (c : Int)) = ((ix + 1 + c : Nat) : Int) := by rw [hw1, hnw, wrap_i64 (by omega)]; omega
          obtain ⟨ds, hds⟩ : ∃ ds, ds = (bs.drop (ix + 1)).take c := ⟨_, rfl⟩
          have hdsl : ds.length = c := by rw [hds, List.length_take, List.length_drop]; omega
          have hdsb : Byt ds := fun b q => H.byt b (List.mem_of_mem_drop (List.mem_of_mem_take (hds ▸ q)))
          have hdc : ix + 1 + c - (ix + 1) = c := by omega
          have hu2 : ix + 1 + c ≤ bs.length := by omega
          have hu3 : ix + 1 + c ≤ cap := Nat.le_trans hu2 hcap
          refine node_span (l := ix + 1) (u := ix + 1 + c) a Try.underlying35 (by kernel_rfl) info_byte (fun _ => rfl) (fun _ => ?_) (fun _ => ?_) (by omega) hu3 (fun _ => rfl) rfl rfl rfl ?_
          · show Value.int .i64 (IntKind.i64.wrap ((ix : Int) + 1)) = _
            rw [hw1]
          · show Value.int .i64 (IntKind.i64.wrap (IntKind.i64.wrap ((ix : Int) + 1) + IntKind.i64.wrap (c : Int))) = _
            rw [hw2]
          rw [hdc]
          have hcl : Cells w (sliA a (ix + 1) cap 1) (bcells ds) := by
            have := sli_cells H.mem (ix + 1) c cap 1 (by rw [bcells_len]; omega) (by rw [bcells_len]; omega) (by decide)
            rw [Nat.mul_one, bcells_sub] at this
            rw [hds]; exact this
          have hcne : ∀ N : Nat → Prop, (N = fun x => x = nb) → ¬ N ((sliA a (ix + 1) cap 1).getD ⟨0, 0, none⟩).block := fun N hN => by
            rw [hN]
            intro e
            have h3 := sliA_some (l := ix + 1) (cap := cap) (sz := 1) s1
            rw [getD_blk h3, blk_sliA] at e
            exact H.ne hbne e
          refine loop_i (RnI ds) (fun vs => ds.length - (vs.i.getD 1 0).toNat) (fun ids w2 hp hf => ⟨HX.nil, HXok.none _ _, 0, Nat.zero_le _, rfl, rfl⟩) ?_
          rintro vs hx' hcnt ⟨k, hk1, rfl, rfl⟩
          by_cases hk : k < ds.length
          · refine br_t (show decide ((k : Int) < (c : Int)) = true from decide_eq_true (by omega)) ?_
            obtain ⟨d, hd⟩ : ∃ d, ds[k]? = some d := ⟨_, List.getElem?_eq_getElem hk⟩
            have hdb := hdsb d (List.mem_of_getElem? hd)
            obtain ⟨s2, c2⟩ := b_elt hcl hd
            refine need_i ⟨s2, (show (0 : Int) ≤ k by omega), (show (k : Int) < c by omega)⟩ ?_
            refine ⟨⟨[d], [], [], [], []⟩, fun ids => c2 _ (hcne _ rfl), ⟨rfl, oneNil⟩, ?_⟩
            intro ids w2 hp hf
            have hv : valB (ds.take k) < 2 ^ 56 := by
              have h1 := valB_lt (ds := ds.take k) (fun b q => hdsb b (List.mem_of_mem_take q))
              rw [List.length_take, Nat.min_eq_left (by omega)] at h1
              have h2 : (256 : Nat) ^ k ≤ 256 ^ 7 := Nat.pow_le_pow_right (by decide) (by omega)
              exact Nat.lt_of_lt_of_le h1 (by simpa using h2)
            have hwk : IntKind.i64.wrap ((k : Int) + 1) = ((k + 1 : Nat) : Int) := by rw [wrap_i64 (by omega)]; omega
            refine ⟨HX.nil, HXok.none _ _, _, rfl, ⟨k + 1, by omega, ?_, rfl⟩, ?_⟩
            · rw [valB_step hd, ← or_byte hv hdb, ← hwk]; rfl
            · show ds.length - (IntKind.i64.wrap ((k : Int) + 1)).toNat < ds.length - ((k : Int)).toNat
              rw [hwk]; omega
          · refine br_f (show decide ((k : Int) < (c : Int)) = false from decide_eq_false (by omega)) ?_
            obtain rfl : k = ds.length := by omega
            rw [List.take_length]
            have hv64 : valB ds < 2 ^ 64 := by
              have h1 := valB_lt hdsb
              have h2 : (256 : Nat) ^ ds.length ≤ 256 ^ 8 := Nat.pow_le_pow_right (by decide) (by omega)
              exact Nat.lt_of_lt_of_le h1 (by simpa using h2)
            refine node_val ⟨[((nlen (valB ds) + 1 : Nat) : Int)], [], [], [], []⟩ (fun w => size_any hv64 w) (fun _ => rfl) (fun _ => rfl) rfl rfl rfl oneNil ?_
            have hcw : ifn .add .i64 (IntKind.i64.wrap (c : Int)) 1 = ((c + 1 : Nat) : Int) := by
              show IntKind.i64.wrap (IntKind.i64.wrap (c : Int) + 1) = _
              rw [hnw, wrap_i64 (by omega)]; omega
            have hrd : ∀ q : Prop, readN (bs.drop ix) 0 = (if nlen (valB ds) ≠ c then (bs.drop ix, 11, 0) else ((bs.drop (ix + 1)).drop c, 0, valB ds)) := fun _ => by
              rw [hdr]; unfold readN; rw [if_neg (by simp)]; dsimp only
              rw [Int.toNat_natCast, if_neg h8, if_neg hs, ← hds]
            have hrd := hrd True
            by_cases hz : nlen (valB ds) = c
            · refine br_f (show (((nlen (valB ds) + 1 : Nat) : Int) != ifn .add .i64 (IntKind.i64.wrap (c : Int)) 1) = false by rw [hcw, hz]; simp) ?_
              rw [if_neg (by simpa using hz), List.drop_drop] at hrd
              refine done _ 0 (valB ds) hrd (by rw [List.length_drop]; omega) (fun _ => rfl) (fun _ => ?_)
              show [Value.slice a bs.length cap, .int .i64 (IntKind.i64.wrap ((ix : Int) + ifn .add .i64 (IntKind.i64.wrap (c : Int)) 1)), .int .i64 0] = _
              rw [hcw, wrap_i64 (by omega)]
              unfold rcells
              rw [List.length_drop]
              congr 3; omega
            · refine br_t (show (((nlen (valB ds) + 1 : Nat) : Int) != ifn .add .i64 (IntKind.i64.wrap (c : Int)) 1) = true by rw [hcw]; simp only [bne_iff_ne]; omega) ?_
              rw [if_pos hz] at hrd
              exact done (bs.drop ix) 11 0 hrd (by rw [hdl]; omega) (fun _ => rfl) (fun _ => by rw [hself]; rfl)
  · refine br_t (show (bad != 0) = true by simpa using h0) ?_
    exact done (bs.drop ix) bad 0 (by unfold readN; rw [if_pos h0]) (by rw [hdl]; omega) (fun _ => rfl) (fun _ => by rw [hself]; rfl)
end Go.Proofs.Ytadgaefmoobcoaa
