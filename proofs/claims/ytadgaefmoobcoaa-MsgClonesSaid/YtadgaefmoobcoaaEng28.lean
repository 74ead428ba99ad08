/- Merged from XEng25 XEng26 XEng27 XEng28. -/
import Derived.Test.YtadgaefmoobcoaaEng24
import Derived.Laws.BytesArg
import GoSem.Extern.Table
import Derived.Laws.Cover3
import Derived.KernelRfl
/- Appends of any cells, slices of slices and of arrays, bytes as texts. No program in sight. -/
namespace Go.Eng
open Go.RowKit Go.Syn Go.MapKept
set_option linter.unusedVariables false
set_option linter.unusedSimpArgs false
section
variable {C : Cfg} {ρ : Env} {pre : List Nat} {hx hx' rest : HX} {L : Stack} {m m' : Mem} {ty : Nat} {ps : List (Nat × SV)} {t : Tree}
/-- What a tree needs of the pieces beside may be had another way. -/
theorem holds_hx (t : Tree) (hF : ∀ w, hx.X w → hx'.X w ∧ ∀ k, hx'.F k → hx.F k) : ∀ {m : Mem} {ids : List Nat} {w : World}, Facts C m ρ ids hx w → Facts C m ρ ids hx' w := fun hf =>
  ⟨hf.len, hf.nod, hf.blk, hf.own, hf.chg, (hF _ hf.x).1, fun k hk => hf.sep k ((hF _ hf.x).2 k hk), hf.cnt⟩
theorem HX.rw0_F (sz e : Nat) (a : Option Addr) (n : Nat) (xs : List Value) (k : Nat) : ¬ (HX.rw sz e a n 0 xs).F k := fun h => h.1 rfl
/-- 'append(xs, ys...)', xs a row (or the empty one), ys cells that are read. -/
theorem node_appends {st e : TypeId} {so xo : Operand} {ac : Go.Call} {r : SV} {z : Value} {sz bytes : Nat} (hac : ac = { callee := .builtin .append, args := #[so, xo], argTypes := #[st, st] }) (ht : C.P.underlying st = some (.slice e)) (hinfo : (C.P.info? e).map (fun i => (i.zero, i.size, i.bytes)) = some (some z, sz, bytes)) (hz : z.cells.size = sz) (hsz : 0 < sz)
    (a : Option Addr) (n cap : Nat) (xs : List Value) (sa : List Nat → Option Addr) (n2 cap2 : Nat) (ys : List Value) (hlen : ys.length = n2 * sz) (hxs : ∀ ids w, pre <+: ids → Facts C m ρ ids hx w → (HX.rw sz e a n cap xs).X w) (hys : ∀ ids w, pre <+: ids → Facts C m ρ ids hx w → Cells w (sa ids) ys) (h1 : ∀ u ∈ ys, u.oneCell' = true)
    (hrest : ∀ w, hx.X w → rest.X w ∧ ∀ k, rest.F k → hx.F k) (hrow : ∀ k, cap ≠ 0 → abk a = some k → hx.F k) (hdis : ∀ k, cap ≠ 0 → abk a = some k → ¬ rest.F k) (hM : ∀ k, cap ≠ 0 → abk a = some k → C.W.heap.size ≤ k ∨ C.M k)
    (h63 : n + n2 ≤ maxLen) (hbytes : (n + n2) * bytes ≤ 140737488355328) (hso : ∀ ids, envOf ρ ids ps so = .slice a n cap) (hxo : ∀ ids, pre <+: ids → envOf ρ ids ps xo = .slice (sa ids) n2 cap2)
    (hr : ∀ a' cap' ids, r.den (ρ.add ⟨[], [], [], [n + n2, cap'], [a']⟩) ids = .slice a' (n + n2) cap') (hhp : m'.hp = m.hp) (hfit : hpFits m.c m.hp.length m.hp = true) (hc : ∀ a' cap', (ρ.add ⟨[], [], [], [n + n2, cap'], [a']⟩).cnt = m'.c)
    (h : ∀ a' cap', (n2 = 0 → a' = a ∧ cap' = cap) → (∀ k, cap' ≠ 0 → abk a' = some k → ¬ rest.F k) → (∀ k, cap' ≠ 0 → abk a' = some k → (cap ≠ 0 ∧ abk a = some k) ∨ (C.W.heap.size ≤ k ∧ ¬ hx.F k)) → t.holds C (ρ.add ⟨[], [], [], [n + n2, cap'], [a']⟩) pre (rest.and (HX.rw sz e a' (n + n2) cap' (xs ++ ys))) L) :
    (Tree.gen (.call ac) ty ps m (some r) m' t).holds C ρ pre hx L := by
  intro ids w hp hf
  subst hac
  unfold GenRun
  obtain ⟨i0, hi, hz0, hz1, hz2⟩ := info_parts hinfo
  have hrw := hxs ids w hp hf
  have hcs := hys ids w hp hf
  rcases Nat.eq_zero_or_pos n2 with h0 | h0
  · subst h0
    have hye : ys = [] := List.eq_nil_of_length_eq_zero (by rw [hlen]; simp)
    subst hye
    have hle := rw_le hrw
    have hrun : (Builtin.append_ #[st, st] ty #[.slice a n cap, .slice (sa ids) 0 cap2]).run C.P w = .ok (.slice a n cap) w := by
      have e0 : n + 0 ≤ cap := by omega
      cases a <;> cases sa ids <;> simp [Builtin.append_, run_underlying ht, sizeOf, typeInfo, hi, Builtin.lenOf, Builtin.firstCells, storeCells, loadCells, loadCellsFrom, hle.1]
    simp only [execOp, resolve, invoke, builtin, hso, hxo ids hp, Sem.run_bind, Sem.run_pure, Result.andThen_ok, List.map_toArray, List.map_cons, List.map_nil, hrun]
    refine ⟨⟨[], [], [], [n + 0, cap], [a]⟩, ids, rest.and (HX.rw sz e a (n + 0) cap (xs ++ [])), ?_, List.prefix_refl _, hf.turn (hx' := rest.and (HX.rw sz e a (n + 0) cap (xs ++ []))) (grown_none w) (fun b e => by cases e) ⟨(hrest w hf.x).1, by rw [List.append_nil]; exact hrw⟩ (fun k hk => ?_) hhp hfit (hc _ _) oneNil, holds_pre t hp (h a cap (fun _ => ⟨rfl, rfl⟩) (fun k h1 h2 => hdis k h1 h2) (fun k h1 h2 => .inl ⟨h1, h2⟩))⟩
    · rw [Option.map_some, hr]; rfl
    · rcases hk with hk | hk
      · exact .inl ((hrest w hf.x).2 k hk)
      · exact .inl (hrow k hk.1 hk.2)
  · have hpos : 0 < ys.length := by rw [hlen]; exact Nat.mul_pos h0 hsz
    obtain ⟨ha, hab, hcc⟩ := hcs hpos
    obtain ⟨ad, had⟩ : ∃ ad, sa ids = some ad := by
      cases hs : sa ids with
      | none => rw [hs] at ha; simp [PlainA] at ha
      | some ad => exact ⟨ad, rfl⟩
    rw [had] at ha hcc
    have hnews : ∀ j u, ys[j]? = some u → w.cell? (ad.add j) = some u := fun j u hj => by
      have e : ad = ⟨blk (some ad), ofs (some ad), none⟩ := Option.some.inj ha
      rw [e, Go.WideShapes.add_plain]; exact hcc j u hj
    obtain ⟨a', cap', w', hrun, hc0, hrow', hg, hblk⟩ := run_rw (P := C.P) w st ty e i0 z sz bytes ht hi hz0 hz1 hz2 hz hsz a n cap xs hrw ad n2 cap2 ys h0 hlen hnews h1 h63 hbytes
    have hlt : ∀ k, abk a' = some k → k < w'.heap.size := fun k hk => by
      obtain ⟨g, _, rfl, q, _⟩ := rw_open hrow' hc0
      cases hk; exact q
    have hrow1 : ∀ b, (if cap = 0 then none else abk a) = some b → cap ≠ 0 ∧ abk a = some b := fun b hb => by
      by_cases q : cap = 0
      · rw [if_pos q] at hb; cases hb
      · rw [if_neg q] at hb; exact ⟨q, hb⟩
    have hwhere : ∀ k, abk a' = some k → (cap ≠ 0 ∧ abk a = some k) ∨ w.heap.size ≤ k := fun k hk => by
      rcases hblk with ⟨q, q1⟩ | ⟨g, q1, q2⟩
      · exact .inl ⟨q, by rw [← q1]; exact hk⟩
      · rw [q1] at hk; cases hk; exact .inr q2
    have hnF : ∀ k, w.heap.size ≤ k → ¬ hx.F k := fun k hk hF => by have := (hf.sep _ hF).1; omega
    simp only [execOp, resolve, invoke, builtin, hso, hxo ids hp, had, Sem.run_bind, Sem.run_pure, Result.andThen_ok, List.map_toArray, List.map_cons, List.map_nil, hrun]
    refine ⟨⟨[], [], [], [n + n2, cap'], [a']⟩, ids, rest.and (HX.rw sz e a' (n + n2) cap' (xs ++ ys)), ?_, List.prefix_refl _, hf.turn (hx' := rest.and (HX.rw sz e a' (n + n2) cap' (xs ++ ys))) hg (fun b e => ?_) ⟨?_, hrow'⟩ (fun k hk => ?_) hhp hfit (hc _ _) oneNil, holds_pre t hp (h a' cap' (fun q => by omega) (fun k _ hk hF => ?_) (fun k _ hk => ?_))⟩
    · simp only [Option.map_some, hr]
    · exact ⟨hrow _ (hrow1 b e).1 (hrow1 b e).2, hM b (hrow1 b e).1 (hrow1 b e).2⟩
    · refine rest.loc w w' (hrest w hf.x).1 fun k hk => hg.block k (hf.sep k ((hrest w hf.x).2 k hk)).1 fun q => ?_
      obtain ⟨q1, q2⟩ := hrow1 k q.symm
      exact hdis k q1 q2 hk
    · rcases hk with hk | hk
      · exact .inl ((hrest w hf.x).2 k hk)
      · rcases hwhere k hk.2 with q | q
        · exact .inl (hrow k q.1 q.2)
        · exact .inr ⟨q, hlt k hk.2⟩
    · rcases hwhere k hk with q | q
      · exact hdis k q.1 q.2 hF
      · exact hnF k q ((hrest w hf.x).2 k hF)
    · rcases hwhere k hk with q | q
      · exact .inl q
      · exact .inr ⟨Nat.le_trans hf.chg.size q, hnF k q⟩
/-- 'e[:]', e an array that is a known block. -/
theorem node_arr {st e : TypeId} {xo : Operand} {r : SV} {z : Value} {n sz bytes bn : Nat} (ht : C.P.underlying st = some (.array n e)) (hinfo : (C.P.info? e).map (fun i => (i.zero, i.size, i.bytes)) = some (some z, sz, bytes)) (hal : C.P.arrayLen st = n) (hel : C.P.elem st = e)
    (hxo : ∀ ids, envOf ρ ids ps xo = .pointer (some ⟨idAt ids bn, 0, none⟩))
    (hr : ∀ b ids, r.den (ρ.add ⟨[], [], [], [n, n], [some ⟨b, 0, none⟩]⟩) ids = .slice (some ⟨b, 0, none⟩) n n) (hhp : m'.hp = m.hp) (hfit : hpFits m.c m.hp.length m.hp = true) (hc : ∀ b, (ρ.add ⟨[], [], [], [n, n], [some ⟨b, 0, none⟩]⟩).cnt = m'.c)
    (h : ∀ ids, pre <+: ids → ids.length = m.hp.length → t.holds C (ρ.add ⟨[], [], [], [n, n], [some ⟨idAt ids bn, 0, none⟩]⟩) ids hx L) :
    (Tree.gen (.slice st xo none none none) ty ps m (some r) m' t).holds C ρ pre hx L := by
  intro ids w hp hf
  unfold GenRun
  obtain ⟨i0, hi, hz0, hz1, hz2⟩ := info_parts hinfo
  have hsize : (sizeOf (C.P.elem st)).run C.P w = .ok sz w := by
    rw [hel]; simp [sizeOf, typeInfo, hi, hz1]
  have hrun : (Instr.sliceAt st (.pointer (some ⟨idAt ids bn, 0, none⟩)) none none none).run C.P w = .ok (.slice (some ⟨idAt ids bn, 0, none⟩) n n) w := by
    rw [run_sliceAt_array_all w st ⟨idAt ids bn, 0, none⟩ (by rw [ht, hal, hel]), hsize, hal]
    simp [Result.andThen, slicedAt, Go.WideShapes.add_plain]
  simp only [execOp, hxo, Sem.run_bind, Sem.run_pure, Result.andThen_ok, Option.map_none, hrun]
  exact ⟨⟨[], [], [], [n, n], [some ⟨idAt ids bn, 0, none⟩]⟩, ids, hx, by rw [Option.map_some, hr], List.prefix_refl _, hf.turn (grown_none w) (fun b hb => by cases hb) hf.x (fun k hk => .inl hk) hhp hfit (hc _) oneNil, h ids hp hf.len⟩
/-- 'x[lo:]' and 'x[lo:hi]' of a slice. -/
def sliA (a : Option Addr) (lo cap sz : Nat) : Option Addr := if cap = lo then a else a.map (·.add (lo * sz))
theorem node_from {st e : TypeId} {xo lo : Operand} {r : SV} {z : Value} {n cap l sz bytes : Nat} (a : Option Addr) (ht : C.P.underlying st = some (.slice e)) (hel : C.P.elem st = e) (hinfo : (C.P.info? e).map (fun i => (i.zero, i.size, i.bytes)) = some (some z, sz, bytes))
    (hxo : ∀ ids, envOf ρ ids ps xo = .slice a n cap) (hlo : ∀ ids, envOf ρ ids ps lo = .int .i64 (l : Int)) (hl : l ≤ n)
    (hr : ∀ ids, r.den (ρ.add ⟨[], [], [], [n - l, cap - l], [sliA a l cap sz]⟩) ids = .slice (sliA a l cap sz) (n - l) (cap - l)) (hhp : m'.hp = m.hp) (hfit : hpFits m.c m.hp.length m.hp = true) (hc : (ρ.add ⟨[], [], [], [n - l, cap - l], [sliA a l cap sz]⟩).cnt = m'.c)
    (h : t.holds C (ρ.add ⟨[], [], [], [n - l, cap - l], [sliA a l cap sz]⟩) pre hx L) :
    (Tree.gen (.slice st xo (some lo) none none) ty ps m (some r) m' t).holds C ρ pre hx L := by
  obtain ⟨i0, hi, hz0, hz1, hz2⟩ := info_parts hinfo
  refine node_gpure (V := .slice (sliA a l cap sz) (n - l) (cap - l)) _ (fun ids w hp hf => ?_) hr hhp hfit hc oneNil h
  have hsize : (sizeOf (C.P.elem st)).run C.P w = .ok sz w := by
    rw [hel]; simp [sizeOf, typeInfo, hi, hz1]
  have ht' : C.P.underlying st = some (.slice (C.P.elem st)) := by rw [ht, hel]
  have hrun : (Instr.sliceAt st (.slice a n cap) (some (.int .i64 (l : Int))) none none).run C.P w = .ok (.slice (sliA a l cap sz) (n - l) (cap - l)) w := by
    rw [run_sliceAt_slice w st _ _ _ _ ht', run_slice_l w st a n cap ht' .i64 (l : Int) (by omega) (by omega), hsize]
    simp [Result.andThen, sliced, sliA]
  simp only [execOp, hxo, hlo, Sem.run_bind, Sem.run_pure, Result.andThen_ok, Option.map_none, Option.map_some, hrun]
theorem node_span {st e : TypeId} {xo lo hi : Operand} {r : SV} {z : Value} {n cap l u sz bytes : Nat} (a : Option Addr) (ht : C.P.underlying st = some (.slice e)) (hel : C.P.elem st = e) (hinfo : (C.P.info? e).map (fun i => (i.zero, i.size, i.bytes)) = some (some z, sz, bytes))
    (hxo : ∀ ids, envOf ρ ids ps xo = .slice a n cap) (hlo : ∀ ids, envOf ρ ids ps lo = .int .i64 (l : Int)) (hhi : ∀ ids, envOf ρ ids ps hi = .int .i64 (u : Int)) (hlu : l ≤ u) (hu : u ≤ cap)
    (hr : ∀ ids, r.den (ρ.add ⟨[], [], [], [u - l, cap - l], [sliA a l cap sz]⟩) ids = .slice (sliA a l cap sz) (u - l) (cap - l)) (hhp : m'.hp = m.hp) (hfit : hpFits m.c m.hp.length m.hp = true) (hc : (ρ.add ⟨[], [], [], [u - l, cap - l], [sliA a l cap sz]⟩).cnt = m'.c)
    (h : t.holds C (ρ.add ⟨[], [], [], [u - l, cap - l], [sliA a l cap sz]⟩) pre hx L) :
    (Tree.gen (.slice st xo (some lo) (some hi) none) ty ps m (some r) m' t).holds C ρ pre hx L := by
  obtain ⟨i0, hi', hz0, hz1, hz2⟩ := info_parts hinfo
  refine node_gpure (V := .slice (sliA a l cap sz) (u - l) (cap - l)) _ (fun ids w hp hf => ?_) hr hhp hfit hc oneNil h
  have hsize : (sizeOf (C.P.elem st)).run C.P w = .ok sz w := by
    rw [hel]; simp [sizeOf, typeInfo, hi', hz1]
  have ht' : C.P.underlying st = some (.slice (C.P.elem st)) := by rw [ht, hel]
  have hrun : (Instr.sliceAt st (.slice a n cap) (some (.int .i64 (l : Int))) (some (.int .i64 (u : Int))) none).run C.P w = .ok (.slice (sliA a l cap sz) (u - l) (cap - l)) w := by
    rw [run_sliceAt_slice w st _ _ _ _ ht', run_slice_lh w st a n cap ht' .i64 .i64 (l : Int) (u : Int) (by omega) (by omega) (by omega), hsize]
    simp [Result.andThen, sliced, sliA]
  simp only [execOp, hxo, hlo, hhi, Sem.run_bind, Sem.run_pure, Result.andThen_ok, Option.map_none, Option.map_some, hrun]
end
/-- Cells of a part of a slice. -/
theorem sli_cells {w : World} {a : Option Addr} {xs : List Value} (h : Cells w a xs) (l k cap sz : Nat) (hl : l * sz ≤ xs.length) (hc : xs.length ≤ cap * sz) (hsz : 0 < sz) : Cells w (sliA a l cap sz) ((xs.drop (l * sz)).take k) := by
  intro h0
  have h1 : l * sz < xs.length := by simp only [List.length_take, List.length_drop] at h0; omega
  have hne : cap ≠ l := fun e => by subst e; omega
  obtain ⟨ha, hb, hcc⟩ := h (by omega)
  obtain ⟨ad, rfl⟩ : ∃ ad, a = some ad := by
    cases a with
    | none => simp [PlainA] at ha
    | some ad => exact ⟨ad, rfl⟩
  have e : ad = ⟨blk (some ad), ofs (some ad), none⟩ := Option.some.inj ha
  have e2 : sliA (some ad) l cap sz = some ⟨blk (some ad), ofs (some ad) + l * sz, none⟩ := by
    unfold sliA
    rw [if_neg hne, Option.map_some, e, Go.WideShapes.add_plain]; rfl
  rw [e2]
  refine ⟨rfl, hb, fun i u hi => ?_⟩
  have hi2 : xs[l * sz + i]? = some u := by
    rw [List.getElem?_take] at hi
    split at hi
    · rw [List.getElem?_drop] at hi; exact hi
    · cases hi
  have := hcc (l * sz + i) u hi2
  show w.cell? ⟨blk (some ad), ofs (some ad) + l * sz + i, none⟩ = some u
  rw [Nat.add_assoc]; exact this
section
variable {C : Cfg} {ρ : Env} {pre : List Nat} {hx : HX} {L : Stack} {m m' : Mem} {ty : Nat} {ps : List (Nat × SV)} {t : Tree}
/-- 'string(xs)'. -/
theorem node_text {st dst e : TypeId} {xo : Operand} {r : SV} (ht : C.P.underlying st = some (.slice e)) (he : C.P.underlying e = some (.int .u8)) (hd : C.P.underlying dst = some .string) (sa : Option Addr) (cap : Nat) (bs : List Int) (hxo : ∀ ids, envOf ρ ids ps xo = .slice sa bs.length cap) (hcells : ∀ ids w, pre <+: ids → Facts C m ρ ids hx w → Cells w sa (bs.map (Value.int .u8)))
    (hr : ∀ ids, r.den (ρ.add ⟨[], [], [.string (strOfNums bs)], [], []⟩) ids = .string (strOfNums bs)) (hhp : m'.hp = m.hp) (hfit : hpFits m.c m.hp.length m.hp = true) (hc : (ρ.add ⟨[], [], [.string (strOfNums bs)], [], []⟩).cnt = m'.c)
    (h : t.holds C (ρ.add ⟨[], [], [.string (strOfNums bs)], [], []⟩) pre hx L) :
    (Tree.gen (.convert st dst xo) ty ps m (some r) m' t).holds C ρ pre hx L := by
  refine node_gpure (V := .string (strOfNums bs)) _ (fun ids w hp hf => ?_) hr hhp hfit hc (fun v hv => by simp only [List.mem_singleton] at hv; subst hv; rfl) h
  have hrun : (convert st dst (.slice sa bs.length cap)).run C.P w = .ok (.string (strOfNums bs)) w := by
    have hcs := hcells ids w hp hf
    rcases Nat.eq_zero_or_pos bs.length with h0 | h0
    · have hb : bs = [] := List.eq_nil_of_length_eq_zero h0
      subst hb
      cases sa with
      | none => exact run_convert_bytes_nil w st e ht he _ _ dst hd
      | some ad =>
        rw [run_convert_bytes_string w st dst e _ _ _ ht he hd, run_bytesToString w ad _ cap [] (by simp [loadCells, loadCellsFrom])]
        rfl
    · obtain ⟨ha, hb, hcc⟩ := hcs (by simpa using h0)
      obtain ⟨ad, rfl⟩ : ∃ ad, sa = some ad := by
        cases sa with
        | none => simp [PlainA] at ha
        | some ad => exact ⟨ad, rfl⟩
      have e1 : ad = ⟨blk (some ad), ofs (some ad), none⟩ := Option.some.inj ha
      rw [e1]
      refine run_convert_bytes_arg w st e ht he (blk (some ad)) (ofs (some ad)) bs.length cap bs rfl (fun i hi => ?_) dst hd
      refine hcc i _ ?_
      rw [List.getElem?_map, List.getD, List.getElem?_eq_getElem hi]; rfl
  simp only [execOp, hxo, Sem.run_bind, Sem.run_pure, Result.andThen_ok, hrun]
/-- 's == t' of texts. -/
theorem node_texteq {st : TypeId} {xo yo : Operand} {fl : TypeId} {r : SV} (x y : ByteArray) (hxo : ∀ ids, envOf ρ ids ps xo = .string x) (hyo : ∀ ids, envOf ρ ids ps yo = .string y)
    (hr : ∀ ids, r.den (ρ.add ⟨[], [x.toList == y.toList], [], [], []⟩) ids = .bool (x.toList == y.toList)) (hhp : m'.hp = m.hp) (hfit : hpFits m.c m.hp.length m.hp = true) (hc : (ρ.add ⟨[], [x.toList == y.toList], [], [], []⟩).cnt = m'.c)
    (h : t.holds C (ρ.add ⟨[], [x.toList == y.toList], [], [], []⟩) pre hx L) :
    (Tree.gen (.binOp .eql st xo yo fl) ty ps m (some r) m' t).holds C ρ pre hx L := by
  refine node_gpure (V := .bool (x.toList == y.toList)) _ (fun ids w hp hf => ?_) hr hhp hfit hc oneNil h
  simp only [execOp, hxo, hyo, eqGuard_at_string, binOp, Op.stringOp, Sem.run_bind, Sem.run_pure, Result.andThen_ok]
end
end Go.Eng

/- Reads and writes at an index of a known block; calls of functions without a body. No program in sight. -/
namespace Go.Eng
open Go.RowKit Go.Syn
set_option linter.unusedVariables false
set_option linter.unusedSimpArgs false
section
variable {C : Cfg} {ρ : Env} {pre : List Nat} {hx hx' : HX} {L : Stack} {m m' : Mem} {ty : Nat} {ps : List (Nat × SV)} {t : Tree}
/-- A read at an index of a known block. -/
theorem node_ldp {n off sz bty : Nat} {e : IE} {cs bcs : List LV} (vs : Vals) (i : Nat) {us : List Value} (hn : m.hp[n]? = some (bty, bcs)) (hi : e.den ρ = (i : Int)) (hb : ∀ ids, cellsDen ρ ids bcs = us) (hcs : ∀ ids j u, (cellsDen (ρ.add vs) ids cs)[j]? = some u → us[off + i * sz + j]? = some u)
    (hc : (ρ.add vs).cnt = m'.c) (h1 : ∀ v, v ∈ vs.v → v.oneCell' = true) (h : t.holds C (ρ.add vs) pre hx L) : (Tree.ld true (.pix n off sz e) cs m m' t).holds C ρ pre hx L := by
  refine node_ld vs (fun ids w hp hf => ?_) (fun ids w hf => envUp hf hc h1) h
  refine ⟨⟨idAt ids n, off + i * sz, none⟩, ?_, fun q => q, fun j u hj => ?_⟩
  · simp only [LV.den, hi, Int.toNat_natCast]
  · have h2 := hf.blk n bty bcs hn
    rw [hb] at h2
    rw [add_plain', cells_blk h2, hcs ids j u hj]
/-- A write at an index of a known block. -/
theorem node_stp {n o et bty : Nat} {xa xv : Operand} {bcs cs' : List LV} (vs : Vals) {us us' : List Value} {v : Value} (hn : m.hp[n]? = some (bty, bcs)) (hb : ∀ ids, cellsDen ρ ids bcs = us) (hsize : (C.P.info? et).map (·.size) = some us'.length) (hxa : ∀ ids, envOf ρ ids ps xa = .pointer (some ⟨idAt ids n, o, none⟩)) (hxv : ∀ ids, envOf ρ ids ps xv = v) (hv : v.cells = us'.toArray) (h1 : ∀ u ∈ us', u.oneCell' = true) (h0 : 0 < us'.length)
    (hl : o + us'.length ≤ us.length) (hhp : m'.hp = m.hp.set n (bty, cs')) (hcs' : ∀ ids, cellsDen (ρ.add vs) ids cs' = spl us o us') (hfit : hpFits m.c m.hp.length m.hp = true) (hc : (ρ.add vs).cnt = m'.c) (hone : ∀ v, v ∈ vs.v → v.oneCell' = true)
    (h : t.holds C (ρ.add vs) pre hx L) : (Tree.gen (.store et xa xv) ty ps m none m' t).holds C ρ pre hx L := by
  intro ids w hp hf
  have hlt : n < m.hp.length := by
    rcases Nat.lt_or_ge n m.hp.length with q | q
    · exact q
    · rw [List.getElem?_eq_none q] at hn; cases hn
  have h2 := hf.blk n bty bcs hn
  rw [hb] at h2
  obtain ⟨w', hr, hg, hgr⟩ := run_store_blk (P := C.P) (w := w) (g := idAt ids n) (o := o) (vs := us') h2 hl h1
  unfold GenRun
  obtain ⟨inf, hinf, hsz⟩ := Option.map_eq_some_iff.1 hsize
  have hrun2 : (Instr.storeAt et (.pointer (some ⟨idAt ids n, o, none⟩)) v).run C.P w = .ok () w' := by
    simp [Instr.storeAt, Instr.sureAddr, storeVar, sizeOf, typeInfo, hinf, hsz, hv, hr]
  simp only [execOp, hxa, hxv, Sem.run_bind, Sem.run_pure, Result.andThen_ok, hrun2]
  refine ⟨vs, ids, hx, rfl, List.prefix_refl _, ?_, holds_pre t hp h⟩
  have hmem := idAt_mem (ids := ids) (n := n) (hf.len ▸ hlt)
  refine hf.act (F := fun b => b = idAt ids n) (n := n) ⟨hgr.os, hgr.tape, hgr.output, hgr.size, fun k hk hne => hgr.block k hk (fun e => hne (Option.some.inj e))⟩ (fun b hb2 => .inl hb2) hn ?_ ?_ (fun b hb2 => .inl hb2) hhp hfit hc hone
  · rw [hcs']; exact hg
  · exact hx.loc w w' hf.x fun b hb2 => hgr.block b (hf.sep b hb2).1 (fun e => by cases e; exact (hf.sep _ hb2).2 hmem)
/-- A call of a function that has no body. -/
theorem node_ext {g : Nat} {as : List Operand} {ts : Array TypeId} {fn : Func} {e : Array Value → Sem Value} {r : SV} {V : Value} {AS : Array Value} (vs : Vals) (hf : C.P.funcs[g]? = some fn) (hnm : (fn.name == "runtime.NumGoroutine") = false) (hb : fn.body.isNone = true) (hn : Extern.findNext fn = none) (he : Extern.find fn = some e)
    (has : ∀ ids, (as.map (envOf ρ ids ps)).toArray = AS) (hrun : ∀ w, (e AS).run C.P w = .ok V w) (hr : ∀ ids, r.den (ρ.add vs) ids = V) (hhp : m'.hp = m.hp) (hfit : hpFits m.c m.hp.length m.hp = true) (hc : (ρ.add vs).cnt = m'.c) (h1 : ∀ v, v ∈ vs.v → v.oneCell' = true)
    (h : t.holds C (ρ.add vs) pre hx L) : (Tree.gen (.call { callee := .value (.func g), args := as.toArray, argTypes := ts }) ty ps m (some r) m' t).holds C ρ pre hx L := by
  refine node_gpure (V := V) vs (fun ids w hp hf2 => ?_) hr hhp hfit hc h1 h
  have hr2 := hrun w
  unfold execOp
  simp only [resolve, envOf, Deferred.ofValue, List.map_toArray, has, Sem.run_bind, Sem.run_pure, Result.andThen_ok, invoke, callFunc, run_program, hf, hnm, hb, hn, he, run_mark, Bool.false_eq_true, if_false, if_true, Array.append_empty]
  simp [hr2]
theorem node_real {xo : Operand} {bt : Nat} {r : SV} {k : FloatKind} {x y : Nat} (vs : Vals) (hxo : ∀ ids, envOf ρ ids ps xo = .complex k x y) (hr : ∀ ids, r.den (ρ.add vs) ids = .float k x) (hhp : m'.hp = m.hp) (hfit : hpFits m.c m.hp.length m.hp = true) (hc : (ρ.add vs).cnt = m'.c) (h1 : ∀ v, v ∈ vs.v → v.oneCell' = true)
    (h : t.holds C (ρ.add vs) pre hx L) : (Tree.gen (.call { callee := .builtin .real, args := #[xo], argTypes := #[bt] }) ty ps m (some r) m' t).holds C ρ pre hx L := by
  refine node_gpure (V := .float k x) vs (fun ids w hp hf2 => ?_) hr hhp hfit hc h1 h
  simp only [execOp, resolve, invoke, builtin, hxo, Sem.run_bind, Sem.run_pure, Result.andThen_ok, List.map_toArray, List.map_cons, List.map_nil, run_real]
theorem node_imag {xo : Operand} {bt : Nat} {r : SV} {k : FloatKind} {x y : Nat} (vs : Vals) (hxo : ∀ ids, envOf ρ ids ps xo = .complex k x y) (hr : ∀ ids, r.den (ρ.add vs) ids = .float k y) (hhp : m'.hp = m.hp) (hfit : hpFits m.c m.hp.length m.hp = true) (hc : (ρ.add vs).cnt = m'.c) (h1 : ∀ v, v ∈ vs.v → v.oneCell' = true)
    (h : t.holds C (ρ.add vs) pre hx L) : (Tree.gen (.call { callee := .builtin .imag, args := #[xo], argTypes := #[bt] }) ty ps m (some r) m' t).holds C ρ pre hx L := by
  refine node_gpure (V := .float k y) vs (fun ids w hp hf2 => ?_) hr hhp hfit hc h1 h
  simp only [execOp, resolve, invoke, builtin, hxo, Sem.run_bind, Sem.run_pure, Result.andThen_ok, List.map_toArray, List.map_cons, List.map_nil, run_imag]
/-- An operation of two operands. -/
theorem node_bin {f : BinOp} {bt : Nat} {xo yo : Operand} {fl : TypeId} {r : SV} {x y V : Value} (vs : Vals) (hxo : ∀ ids, envOf ρ ids ps xo = x) (hyo : ∀ ids, envOf ρ ids ps yo = y) (hg : ∀ w, (eqGuard f bt xo yo x y).run C.P w = .ok () w) (hrun : ∀ w, (binOp f bt x y).run C.P w = .ok V w) (hr : ∀ ids, r.den (ρ.add vs) ids = V) (hhp : m'.hp = m.hp) (hfit : hpFits m.c m.hp.length m.hp = true) (hc : (ρ.add vs).cnt = m'.c) (h1 : ∀ v, v ∈ vs.v → v.oneCell' = true)
    (h : t.holds C (ρ.add vs) pre hx L) : (Tree.gen (.binOp f bt xo yo fl) ty ps m (some r) m' t).holds C ρ pre hx L := by
  refine node_gpure (V := V) vs (fun ids w hp hf2 => ?_) hr hhp hfit hc h1 h
  have hr2 := hrun w
  have hg2 := hg w
  unfold execOp
  simp only [hxo, hyo]
  simp [hr2, hg2]
/-- A conversion. -/
theorem node_conv {s d : Nat} {xo : Operand} {r : SV} {x V : Value} (vs : Vals) (hxo : ∀ ids, envOf ρ ids ps xo = x) (hrun : ∀ w, (convert s d x).run C.P w = .ok V w) (hr : ∀ ids, r.den (ρ.add vs) ids = V) (hhp : m'.hp = m.hp) (hfit : hpFits m.c m.hp.length m.hp = true) (hc : (ρ.add vs).cnt = m'.c) (h1 : ∀ v, v ∈ vs.v → v.oneCell' = true)
    (h : t.holds C (ρ.add vs) pre hx L) : (Tree.gen (.convert s d xo) ty ps m (some r) m' t).holds C ρ pre hx L := by
  refine node_gpure (V := V) vs (fun ids w hp hf2 => ?_) hr hhp hfit hc h1 h
  have hr2 := hrun w
  unfold execOp
  simp only [hxo]
  simp [hr2]
end
end Go.Eng

/- append of a literal slice and another: behind a known block. No program in sight. -/
namespace Go.Eng
open Go.RowKit Go.Syn
set_option linter.unusedVariables false
set_option linter.unusedSimpArgs false
section
variable {C : Cfg} {ρ : Env} {pre : List Nat} {hx : HX} {L : Stack} {m m' : Mem} {ty : Nat} {ps : List (Nat × SV)} {t : Tree}
theorem node_pre0 {st e : TypeId} {so xo : Operand} {ac : Go.Call} {r : SV} {z : Value} {sz bytes bn k : Nat} (hac : ac = { callee := .builtin .append, args := #[so, xo], argTypes := #[st, st] }) (ht : C.P.underlying st = some (.slice e)) (hinfo : (C.P.info? e).map (fun i => (i.zero, i.size, i.bytes)) = some (some z, sz, bytes)) (hz : z.cells.size = sz)
    (sa : List Nat → Option Addr) (cap2 : Nat) (hso : ∀ ids, envOf ρ ids ps so = .slice (some ⟨idAt ids bn, 0, none⟩) k k) (hxo : ∀ ids, pre <+: ids → envOf ρ ids ps xo = .slice (sa ids) 0 cap2) (hk : k ≤ maxLen)
    (hr : ∀ b ids, r.den (ρ.add ⟨[], [], [], [k, k], [some ⟨b, 0, none⟩]⟩) ids = .slice (some ⟨b, 0, none⟩) k k) (hhp : m'.hp = m.hp) (hfit : hpFits m.c m.hp.length m.hp = true) (hc : ∀ b, (ρ.add ⟨[], [], [], [k, k], [some ⟨b, 0, none⟩]⟩).cnt = m'.c)
    (h : ∀ ids, pre <+: ids → ids.length = m.hp.length → t.holds C (ρ.add ⟨[], [], [], [k, k], [some ⟨idAt ids bn, 0, none⟩]⟩) ids hx L) : (Tree.gen (.call ac) ty ps m (some r) m' t).holds C ρ pre hx L := by
  intro ids w hp hf
  subst hac
  unfold GenRun
  obtain ⟨i0, hi, hz0, hz1, hz2⟩ := info_parts hinfo
  have hrun : (Builtin.append_ #[st, st] ty #[.slice (some ⟨idAt ids bn, 0, none⟩) k k, .slice (sa ids) 0 cap2]).run C.P w = .ok (.slice (some ⟨idAt ids bn, 0, none⟩) k k) w := by
    have e0 : k + 0 ≤ k := by omega
    cases sa ids <;> simp [Builtin.append_, run_underlying ht, sizeOf, typeInfo, hi, Builtin.lenOf, Builtin.firstCells, storeCells, loadCells, loadCellsFrom]
  simp only [execOp, resolve, invoke, builtin, hso, hxo ids hp, Sem.run_bind, Sem.run_pure, Result.andThen_ok, List.map_toArray, List.map_cons, List.map_nil, hrun]
  refine ⟨_, ids, hx, ?_, List.prefix_refl _, hf.turn (hx' := hx) (grown_none w) (fun b e => by cases e) hf.x (fun k hk => .inl hk) hhp hfit (hc _) oneNil, h ids hp hf.len⟩
  simp only [Option.map_some, hr]
theorem node_pre {st e e2 : TypeId} {so xo : Operand} {ac : Go.Call} {r : SV} {z : Value} {sz bytes bn k : Nat} {lvs : List LV} (hac : ac = { callee := .builtin .append, args := #[so, xo], argTypes := #[st, st] }) (ht : C.P.underlying st = some (.slice e)) (hinfo : (C.P.info? e).map (fun i => (i.zero, i.size, i.bytes)) = some (some z, sz, bytes)) (hz : z.cells.size = sz) (hsz : 0 < sz)
    (us : List Value) (sa : List Nat → Option Addr) (n2 cap2 : Nat) (ys : List Value) (hn : m.hp[bn]? = some (e2, lvs)) (hus : ∀ ids, cellsDen ρ ids lvs = us) (hul : us.length = k * sz) (hlen : ys.length = n2 * sz) (hpos : 0 < n2) (hys : ∀ ids w, pre <+: ids → Facts C m ρ ids hx w → Cells w (sa ids) ys)
    (h63 : k + n2 ≤ maxLen) (hbytes : (k + n2) * bytes ≤ 140737488355328) (hso : ∀ ids, envOf ρ ids ps so = .slice (some ⟨idAt ids bn, 0, none⟩) k k) (hxo : ∀ ids, pre <+: ids → envOf ρ ids ps xo = .slice (sa ids) n2 cap2)
    (hr : ∀ a' cap' ids, r.den (ρ.add ⟨[], [], [], [k + n2, cap'], [a']⟩) ids = .slice a' (k + n2) cap') (hhp : m'.hp = m.hp) (hfit : hpFits m.c m.hp.length m.hp = true) (hc : ∀ a' cap', (ρ.add ⟨[], [], [], [k + n2, cap'], [a']⟩).cnt = m'.c)
    (h : ∀ a' cap', (∀ j, cap' ≠ 0 → abk a' = some j → C.W.heap.size ≤ j ∧ ¬ hx.F j) → t.holds C (ρ.add ⟨[], [], [], [k + n2, cap'], [a']⟩) pre (hx.and (HX.rw sz e a' (k + n2) cap' (us ++ ys))) L) : (Tree.gen (.call ac) ty ps m (some r) m' t).holds C ρ pre hx L := by
  intro ids w hp hf
  subst hac
  unfold GenRun
  obtain ⟨i0, hi, hz0, hz1, hz2⟩ := info_parts hinfo
  have hcs := hys ids w hp hf
  have hyl : 0 < ys.length := by rw [hlen]; exact Nat.mul_pos hpos hsz
  obtain ⟨ha, hab, hcc⟩ := hcs hyl
  obtain ⟨ad, had⟩ : ∃ ad, sa ids = some ad := by
    cases hs : sa ids with
    | none => rw [hs] at ha; simp [PlainA] at ha
    | some ad => exact ⟨ad, rfl⟩
  rw [had] at ha hcc
  have hnews : ∀ j u, ys[j]? = some u → w.cell? (ad.add j) = some u := fun j u hj => by
    have e : ad = ⟨blk (some ad), ofs (some ad), none⟩ := Option.some.inj ha
    rw [e, Go.WideShapes.add_plain]; exact hcc j u hj
  have hb := hf.blk bn _ _ hn
  rw [hus] at hb
  obtain ⟨v', w', hrun, ho, hg⟩ := run_append_arg_grows (P := C.P) w st ty e i0 z sz bytes ht hi hz0 hz1 hz2 hz hsz ⟨idAt ids bn, 0, none⟩ k k us hul (fun j u hj => by
    rw [add_plain', cells_blk hb, Nat.zero_add]; exact hj) ad n2 cap2 ys hlen hnews (by omega) h63 hbytes
  obtain ⟨a', cap', rfl, hc0, hrow, hnew⟩ : ∃ a' cap', v' = .slice a' (k + n2) cap' ∧ cap' ≠ 0 ∧ (HX.rw sz e a' (k + n2) cap' (us ++ ys)).X w' ∧ ∀ j, abk a' = some j → w.heap.size ≤ j := by
    rcases ho.2 with ⟨q, q2⟩ | ⟨g, c2, cur, q, hb1, hgk, hn1, _⟩
    · omega
    · have ho2 := owns_base ho (Nat.zero_le w.heap.size)
      subst q
      exact ⟨_, c2, rfl, by omega, .inr ⟨by omega, ho2⟩, fun j hj => by cases hj; exact hb1⟩
  have hlt : ∀ k, abk a' = some k → k < w'.heap.size := fun k hk => by
    obtain ⟨g, _, rfl, q, _⟩ := rw_open hrow hc0
    cases hk; exact q
  simp only [execOp, resolve, invoke, builtin, hso, hxo ids hp, had, Sem.run_bind, Sem.run_pure, Result.andThen_ok, List.map_toArray, List.map_cons, List.map_nil, hrun]
  refine ⟨⟨[], [], [], [k + n2, cap'], [a']⟩, ids, hx.and (HX.rw sz e a' (k + n2) cap' (us ++ ys)), ?_, List.prefix_refl _, hf.turn (hx' := hx.and (HX.rw sz e a' (k + n2) cap' (us ++ ys))) hg (fun b e => by cases e) ⟨hx.loc w w' hf.x fun k hk => hg.block k (hf.sep k hk).1 (fun q => by cases q), hrow⟩ (fun k hk => ?_) hhp hfit (hc _ _) oneNil, holds_pre t hp (h a' cap' (fun k _ hk => ⟨Nat.le_trans hf.chg.size (hnew k hk), fun hF => by have h3 := hnew k hk; have h4 := (hf.sep _ hF).1; omega⟩))⟩
  · simp only [Option.map_some, hr]
  · rcases hk with hk | hk
    · exact .inl hk
    · exact .inr ⟨hnew k hk.2, hlt k hk.2⟩
end
end Go.Eng

/- More nodes: branches and calls whose checks are left to the kernel. No program in sight. -/
namespace Go.Eng
open Go.RowKit Go.Syn
set_option linter.unusedVariables false
section
variable {C : Cfg} {ρ : Env} {pre : List Nat} {hx : HX} {L : Stack} {m m' : Mem} {args : List SV} {r : SV} {t f : Tree} {b : BE}
theorem br_F (c : Bool) (hb : b.den ρ = c) (hc : c = false) (h : f.holds C ρ pre hx L) : (Tree.br b t f).holds C ρ pre hx L := br_f (hb.trans hc) h
theorem br_T (c : Bool) (hb : b.den ρ = c) (hc : c = true) (h : t.holds C ρ pre hx L) : (Tree.br b t f).holds C ρ pre hx L := br_t (hb.trans hc) h
theorem again_V {key : Nat} {es : Vec} {I : Vals → HX → Prop} (v' : Vals) (hI : lkup key L = some I) (hv : ∀ ids, es.den ρ ids = v') (hx' : HX) (hX : ∀ w ids, Facts C m ρ ids hx w → HXok hx' w ids) (h : I v' hx') : (Tree.again key es m).holds C ρ pre hx L :=
  fun ids w hp hf => ⟨hx', hX w ids hf, I, hI, by rw [hv ids]; exact h⟩
/-- A call that is pure, its arguments and its answer told. -/
theorem node_P {f : Nat} (vs : Vals) (AS : Array Value) (V : Value) (hargs : ∀ ids, (args.map (SV.den ρ ids)).toArray = AS) (hr : ∀ ids, r.den (ρ.add vs) ids = V) (hhp : m'.hp = m.hp) (hfit : hpFits m.c m.hp.length m.hp = true) (hc : (ρ.add vs).cnt = m'.c) (h1 : ∀ v, v ∈ vs.v → v.oneCell' = true) (hcall : ∀ ids w, pre <+: ids → Facts C m ρ ids hx w → Calls C.P f AS w (PureAt w V))
    (h : t.holds C (ρ.add vs) pre hx L) : (Tree.call f args m r m' t).holds C ρ pre hx L :=
  node_pure vs hhp hfit hc h1 (fun ids w hp hf => by rw [hargs, hr]; exact hcall ids w hp hf) h
end
/-- Cells that lie still. -/
theorem cl_stay {w w' : World} {a : Option Addr} {xs : List Value} (h : Cells w a xs) (hb : ∀ k, k < w.heap.size → w'.heap[k]? = w.heap[k]?) : Cells w' a xs := (HX.cl a xs).loc w w' h fun k hk => hb k (cl_sep h k hk)
end Go.Eng
