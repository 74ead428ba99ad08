/- Making rows, stores into rows. No program in sight. -/
import Derived.Test.YticacnankpaohaaEng22
namespace Go.Eng
open Go.RowKit Go.Syn Go.MapKept
set_option linter.unusedVariables false
set_option linter.unusedSimpArgs false
theorem take_spl {cur vs : List Value} {o k : Nat} (h : o + vs.length ≤ k) (hk : k ≤ cur.length) : (spl cur o vs).take k = spl (cur.take k) o vs := by
  unfold spl
  have a1 : min o cur.length = o := by omega
  rw [List.take_append, List.take_append, List.take_take, List.drop_take]
  simp only [List.length_append, List.length_take, a1]
  rw [show min k o = o by omega, List.take_take, show min o k = o by omega, List.take_of_length_le (show vs.length ≤ k - o by omega)]
section
variable {C : Cfg} {ρ : Env} {pre : List Nat} {hx hx' rest : HX} {L : Stack} {m m' : Mem} {ty : Nat} {ps : List (Nat × SV)} {t : Tree} {ids : List Nat} {w w' : World} {vs : Vals}
/-- 'make([]T, n)', T of one cell. -/
theorem node_makeS {st e : TypeId} {lo co : Operand} {r : SV} {z : Value} {bytes : Nat} (ht : C.P.underlying st = some (.slice e)) (hinfo : (C.P.info? e).map (fun i => (i.zero, i.size, i.bytes)) = some (some z, 1, bytes)) (hz : z.cells = #[z]) (n : Nat) (hlo : ∀ ids, envOf ρ ids ps lo = .int .i64 (n : Int)) (hco : ∀ ids, envOf ρ ids ps co = .int .i64 (n : Int)) (hb : bytes * n ≤ 281474976710656) (h63 : n ≤ maxLen)
    (hr : ∀ i ids, r.den (ρ.add ⟨[], [], [], [n, n], [some ⟨i, 0, none⟩]⟩) ids = .slice (some ⟨i, 0, none⟩) n n) (hhp : m'.hp = m.hp) (hfit : hpFits m.c m.hp.length m.hp = true) (hc : ∀ i, (ρ.add ⟨[], [], [], [n, n], [some ⟨i, 0, none⟩]⟩).cnt = m'.c)
    (h : ∀ i, C.W.heap.size ≤ i → ¬ hx.F i → t.holds C (ρ.add ⟨[], [], [], [n, n], [some ⟨i, 0, none⟩]⟩) pre (hx.and (HX.rw 1 e (some ⟨i, 0, none⟩) n n (List.replicate n z))) L) : (Tree.gen (.makeSlice st lo co) ty ps m (some r) m' t).holds C ρ pre hx L := by
  intro ids w hp hf
  unfold GenRun
  obtain ⟨i0, hi, hz0, hz1, hz2⟩ := info_parts hinfo
  obtain ⟨w', hrun, ho, hg⟩ := run_make_full (P := C.P) w 0 st e i0 z 1 ht hi hz0 hz1 .i64 .i64 n (by rw [hz2]; exact hb) h63 (Nat.zero_le _)
  rw [hz, Nat.mul_one, toList_madeCells_one] at ho
  have hlt : w.heap.size < w'.heap.size := by
    rcases ho.2 with ⟨q, _⟩ | ⟨g, c, cur, q, _, hgk, _⟩
    · cases q
    · cases q
      rcases Nat.lt_or_ge w.heap.size w'.heap.size with q2 | q2
      · exact q2
      · rw [Array.getElem?_eq_none q2] at hgk; cases hgk
  have hX : (HX.rw 1 e (some ⟨w.heap.size, 0, none⟩) n n (List.replicate n z)).X w' := by
    rcases Nat.eq_zero_or_pos n with q | q
    · subst q; exact .inl ⟨rfl, rfl, rfl⟩
    · exact .inr ⟨by omega, ho⟩
  simp only [execOp, hlo, hco, Sem.run_bind, Sem.run_pure, Result.andThen_ok, hrun]
  refine ⟨⟨[], [], [], [n, n], [some ⟨w.heap.size, 0, none⟩]⟩, ids, hx.and (HX.rw 1 e (some ⟨w.heap.size, 0, none⟩) n n (List.replicate n z)), ?_, List.prefix_refl _, hf.turn (hx' := hx.and (HX.rw 1 e (some ⟨w.heap.size, 0, none⟩) n n (List.replicate n z))) hg (fun b hb => by cases hb) ⟨hx.loc w w' hf.x fun k hk => hg.block k (hf.sep k hk).1 (fun q => by cases q), hX⟩ (fun k hk => ?_) hhp hfit (hc _) oneNil, holds_pre t hp (h _ hf.chg.size (fun q => by have := (hf.sep _ q).1; omega))⟩
  · simp only [Option.map_some, hr]
  · rcases hk with hk | hk
    · exact .inl hk
    · have : some w.heap.size = some k := hk.2
      cases this
      exact .inr ⟨Nat.le_refl _, hlt⟩
/-- A store into a row. -/
theorem node_stores {et e sz : Nat} {xa xv : Operand} (a : Option Addr) (n cap : Nat) (xs us : List Value) (i off : Nat) (v : Value) (hsize : (C.P.info? et).map (·.size) = some us.length) (hxa : ∀ ids, envOf ρ ids ps xa = .pointer (some (((a.getD ⟨0, 0, none⟩).add (i * sz)).add off))) (hxv : ∀ ids, envOf ρ ids ps xv = v) (hv : v.cells = us.toArray) (h1 : ∀ u ∈ us, u.oneCell' = true)
    (hio : i * sz + off + us.length ≤ n * sz) (h0 : 0 < us.length) (hdis : ∀ k, cap ≠ 0 → abk a = some k → ¬ rest.F k) (hM : ∀ k, cap ≠ 0 → abk a = some k → C.W.heap.size ≤ k ∨ C.M k) (hhp : m'.hp = m.hp) (hfit : hpFits m.c m.hp.length m.hp = true) (hc : ρ.cnt = m'.c)
    (h : t.holds C ρ pre (rest.and (HX.rw sz e a n cap (spl xs (i * sz + off) us))) L) : (Tree.gen (.store et xa xv) ty ps m none m' t).holds C ρ pre (rest.and (HX.rw sz e a n cap xs)) L := by
  intro ids w hp hf
  unfold GenRun
  have hrow : (HX.rw sz e a n cap xs).X w := hf.x.2
  have hle := rw_le hrow
  have hn : n ≠ 0 := fun q => by rw [q] at hio; omega
  have hc0 : cap ≠ 0 := by omega
  obtain ⟨g, cur, rfl, hlt, hg, hnc, hcm, hcl, htk⟩ := rw_open hrow hc0
  have hmul : n * sz ≤ cap * sz := Nat.mul_le_mul_right _ hnc
  obtain ⟨w', hrun, hg', hgr⟩ := run_store_blk (P := C.P) (o := i * sz + off) (vs := us) hg (by omega) h1
  have hadr : (((some (⟨g, 0, none⟩ : Addr)).getD ⟨0, 0, none⟩).add (i * sz)).add off = ⟨g, i * sz + off, none⟩ := by
    rw [Option.getD_some, Go.WideShapes.add_plain, Go.WideShapes.add_plain, Nat.zero_add]
  rw [hadr] at hxa
  obtain ⟨i0, hi, hi2⟩ := Option.map_eq_some_iff.1 hsize
  have hrun2 : (Instr.storeAt et (.pointer (some ⟨g, i * sz + off, none⟩)) v).run C.P w = .ok () w' := by
    simp [Instr.storeAt, Instr.sureAddr, storeVar, sizeOf, typeInfo, hi, hi2, hv, hrun]
  have hcl2 : (spl cur (i * sz + off) us).length = cap * sz := by rw [spl_len (by omega)]; exact hcl
  have hX : (HX.rw sz e (some ⟨g, 0, none⟩) n cap (spl xs (i * sz + off) us)).X w' := by
    have := rw_shut hc0 hg' hnc hcm hcl2
    rwa [take_spl (by omega) (by omega), htk] at this
  simp only [execOp, hxa, hxv, Sem.run_bind, Sem.run_pure, Result.andThen_ok, hrun2]
  refine ⟨Vals.nil, ids, rest.and (HX.rw sz e (some ⟨g, 0, none⟩) n cap (spl xs (i * sz + off) us)), rfl, List.prefix_refl _, hf.turn hgr (fun b hb => by cases hb; exact ⟨.inr ⟨hc0, rfl⟩, hM _ hc0 rfl⟩) ⟨rest.loc w w' hf.x.1 fun k hk => hgr.block k (hf.sep k (.inl hk)).1 (fun q => hdis g hc0 rfl (by cases q; exact hk)), hX⟩ (fun k hk => .inl hk) hhp hfit (by rw [Env.add_nil]; exact hc) oneNil, ?_⟩
  rw [Env.add_nil]; exact holds_pre t hp h
end
/-- An element of cells that are read. -/
theorem cl_elt {w : World} {a : Option Addr} {xs : List Value} (h : Cells w a xs) {i sz : Nat} (us : List Value) (hu : ∀ j u, us[j]? = some u → xs[i * sz + j]? = some u) (h0 : us ≠ []) :
    a.isSome = true ∧ ∀ (N : Nat → Prop), ¬ N ((a.getD ⟨0, 0, none⟩).block) → CellsAt w (.pointer (some (((a.getD ⟨0, 0, none⟩).add (i * sz)).add 0))) us N := by
  obtain ⟨u0, hu0⟩ : ∃ u, us[0]? = some u := ⟨_, List.getElem?_eq_getElem (List.length_pos_iff.2 h0)⟩
  have hx0 := hu 0 u0 hu0
  have hpos : 0 < xs.length := by
    rcases Nat.lt_or_ge (i * sz + 0) xs.length with q | q
    · omega
    · rw [List.getElem?_eq_none q] at hx0; cases hx0
  obtain ⟨ha, hb, hc⟩ := h hpos
  cases a with
  | none => simp [PlainA] at ha
  | some ad =>
    have e : ad = ⟨blk (some ad), ofs (some ad), none⟩ := Option.some.inj ha
    refine ⟨rfl, fun N hN => ⟨_, rfl, ?_, fun j u hj => ?_⟩⟩
    · show ¬ N ((ad.add (i * sz)).add 0).block
      rw [e, Go.WideShapes.add_plain, Go.WideShapes.add_plain]
      rw [e] at hN; exact hN
    · show w.cell? (((ad.add (i * sz)).add 0).add j) = some u
      have h2 := hc (i * sz + j) u (hu j u hj)
      have e2 : ((ad.add (i * sz)).add 0).add j = ⟨blk (some ad), ofs (some ad) + (i * sz + j), none⟩ := by
        rw [e, Go.WideShapes.add_plain, Go.WideShapes.add_plain, Go.WideShapes.add_plain]
        show (⟨_, _, _⟩ : Addr) = ⟨_, _, _⟩
        congr 1
        show ofs (some ad) + i * sz + 0 + j = ofs (some ad) + (i * sz + j)
        omega
      rw [e2]; exact h2
/-- Pieces alone at the start, of which some may be changed. -/
theorem Facts.initm {P : Program} {w : World} {M : Nat → Prop} {R : Ending → World → Prop} {ρ : Env} {c : Cnt} {hx : HX} (hc : ρ.cnt = c) (h1 : ∀ v, v ∈ ρ.v → v.oneCell' = true) (hX : hx.X w) (hsep : ∀ k, hx.F k → k < w.heap.size) : Facts ⟨P, w, M, R⟩ ⟨[], c⟩ ρ [] hx w :=
  ⟨rfl, by simp, (fun n t2 cs2 hn => by simp at hn), (fun id hid => by cases hid), Chg.refl _ _, hX, (fun k hk => ⟨hsep k hk, by simp⟩), ⟨hc, h1⟩⟩
end Go.Eng
