/- slices.Delete of one packet. -/
import Derived.Test.YteeecfdcebcbbaaBytes
namespace Go.Proofs.Yteeecfdcebcbbaa
open Go.ChangeShapes Go.WideShapes Go.ChangeAt Go.RowKit Go.Syn Go.Eng
set_option linter.unusedVariables false
set_option linter.unusedSimpArgs false
set_option maxRecDepth 100000 in
theorem tNDel : (runF ⟨tt, fns, {}⟩ (Try.f22.body.getD .skip) Try.f22.results.toList (entry Try.f22.ntmps [.lf (.sl 0 (.var 0) (.var 1)), .lf (.int .i64 (.var 0)), .lf (.int .i64 (.var 1))] [] ⟨2, 0, 0, 2, 1⟩)) =
  (.gen (.slice 38 (.tmp 8) (.some (.tmp 9)) (.some (.tmp 10)) (.some (.tmp 12))) 38 [(8, (.lf (.sl 0 (.var 0) (.var 1)))), (9, (.lf (.int .i64 (.var 0)))), (10, (.lf (.int .i64 (.var 1)))), (12, (.lf (.int .i64 (.nat 0))))] ⟨[], ⟨2, 0, 0, 2, 1⟩⟩ (.some (.lf (.sl 1 (.var 2) (.var 3)))) ⟨[], ⟨2, 0, 0, 4, 2⟩⟩ (.br (.cmp .eql (.var 0) (.var 1)) (.done (.lf (.sl 0 (.var 0) (.var 1))) ⟨[], ⟨2, 0, 0, 4, 2⟩⟩) (.par (.gen (.slice 38 (.tmp 20) .none (.some (.tmp 21)) .none) 38 [(20, (.lf (.sl 0 (.var 0) (.var 1)))), (21, (.lf (.int .i64 (.var 0))))] ⟨[], ⟨2, 0, 0, 4, 2⟩⟩ (.some (.lf (.sl 2 (.var 4) (.var 5)))) ⟨[], ⟨2, 0, 0, 6, 3⟩⟩ (.gen (.slice 38 (.tmp 23) (.some (.tmp 24)) .none .none) 38 [(23, (.lf (.sl 0 (.var 0) (.var 1)))), (24, (.lf (.int .i64 (.var 1))))] ⟨[], ⟨2, 0, 0, 6, 3⟩⟩ (.some (.lf (.sl 3 (.var 6) (.var 7)))) ⟨[], ⟨2, 0, 0, 8, 4⟩⟩ (.gen (.call ⟨(.builtin .append), #[(.tmp 22), (.tmp 25)], #[38, 38]⟩) 38 [(22, (.lf (.sl 2 (.var 4) (.var 5)))), (25, (.lf (.sl 3 (.var 6) (.var 7))))] ⟨[], ⟨2, 0, 0, 8, 4⟩⟩ (.some (.lf (.sl 4 (.var 8) (.var 9)))) ⟨[], ⟨2, 0, 0, 10, 5⟩⟩ (.gen (.slice 38 (.tmp 27) (.some (.tmp 29)) (.some (.tmp 30)) .none) 38 [(27, (.lf (.sl 4 (.var 8) (.var 9)))), (29, (.lf (.int .i64 (.nat 8)))), (30, (.lf (.int .i64 (.nat 0))))] ⟨[], ⟨2, 0, 0, 10, 5⟩⟩ (.some (.lf (.sl 5 (.var 10) (.var 11)))) ⟨[], ⟨2, 0, 0, 12, 6⟩⟩ (.gen (.call ⟨(.builtin .clear), #[(.tmp 31)], #[38]⟩) 0 [(31, (.lf (.sl 5 (.var 10) (.var 11))))] ⟨[], ⟨2, 0, 0, 12, 6⟩⟩ (.some (.tup [])) ⟨[], ⟨2, 0, 0, 12, 6⟩⟩ (.done (.lf (.sl 4 (.var 8) (.var 9))) ⟨[], ⟨2, 0, 0, 12, 6⟩⟩)))))) (.gen (.slice 38 (.tmp 23) (.some (.tmp 24)) .none .none) 38 [(23, (.lf (.sl 0 (.var 0) (.var 1)))), (24, (.lf (.int .i64 (.var 1))))] ⟨[], ⟨2, 0, 0, 4, 2⟩⟩ (.some (.lf (.sl 2 (.var 4) (.var 5)))) ⟨[], ⟨2, 0, 0, 6, 3⟩⟩ (.gen (.slice 38 (.tmp 20) .none (.some (.tmp 21)) .none) 38 [(20, (.lf (.sl 0 (.var 0) (.var 1)))), (21, (.lf (.int .i64 (.var 0))))] ⟨[], ⟨2, 0, 0, 6, 3⟩⟩ (.some (.lf (.sl 3 (.var 6) (.var 7)))) ⟨[], ⟨2, 0, 0, 8, 4⟩⟩ (.gen (.call ⟨(.builtin .append), #[(.tmp 22), (.tmp 25)], #[38, 38]⟩) 38 [(22, (.lf (.sl 3 (.var 6) (.var 7)))), (25, (.lf (.sl 2 (.var 4) (.var 5))))] ⟨[], ⟨2, 0, 0, 8, 4⟩⟩ (.some (.lf (.sl 4 (.var 8) (.var 9)))) ⟨[], ⟨2, 0, 0, 10, 5⟩⟩ (.gen (.slice 38 (.tmp 27) (.some (.tmp 29)) (.some (.tmp 30)) .none) 38 [(27, (.lf (.sl 4 (.var 8) (.var 9)))), (29, (.lf (.int .i64 (.nat 8)))), (30, (.lf (.int .i64 (.nat 0))))] ⟨[], ⟨2, 0, 0, 10, 5⟩⟩ (.some (.lf (.sl 5 (.var 10) (.var 11)))) ⟨[], ⟨2, 0, 0, 12, 6⟩⟩ (.gen (.call ⟨(.builtin .clear), #[(.tmp 31)], #[38]⟩) 0 [(31, (.lf (.sl 5 (.var 10) (.var 11))))] ⟨[], ⟨2, 0, 0, 12, 6⟩⟩ (.some (.tup [])) ⟨[], ⟨2, 0, 0, 12, 6⟩⟩ (.done (.lf (.sl 4 (.var 8) (.var 9))) ⟨[], ⟨2, 0, 0, 12, 6⟩⟩))))))))) := by kernel_rfl
theorem info_pk : (Try.prog.info? 30).map (fun i => (i.zero, i.size, i.bytes)) = some (some (.agg #[.int .i64 0, .int .i64 0, .slice none 0 0]), 3, 40) := by kernel_rfl
theorem elem_pk : Try.prog.elem 38 = 30 := by kernel_rfl
theorem size_pk (w : World) : (sizeOf (Try.prog.elem 38)).run Try.prog w = .ok 3 w := by
  rw [elem_pk]
  obtain ⟨i0, hi, _, h1, _⟩ := info_parts info_pk
  simp [sizeOf, typeInfo, hi, h1]
theorem und_pk : Try.prog.underlying 38 = some (.slice (Try.prog.elem 38)) := by rw [elem_pk]; exact Try.underlying38
def delCur (cur : List Value) (n i : Nat) : List Value :=
  spl (spl cur (i * 3) ((cur.drop ((i + 1) * 3)).take ((n - (i + 1)) * 3))) ((n - 1) * 3) [.int .i64 0, .int .i64 0, .slice none 0 0]
section
variable {C : Cfg} {ρ : Env} {pre : List Nat} {hx : HX} {L : Stack} {m m' : Mem} {ty : Nat} {ps : List (Nat × SV)} {t : Tree}
theorem node_slice_pk {so : Operand} {lo hi mx : Option Operand} {r : SV} (hP : C.P = Try.prog) (a : Option Addr) (len cap l h k : Nat) (hso : ∀ ids, envOf ρ ids ps so = .slice a len cap)
    (hrun : ∀ ids w, (Instr.sliceAt 38 (.slice a len cap) (lo.map (envOf ρ ids ps)) (hi.map (envOf ρ ids ps)) (mx.map (envOf ρ ids ps))).run Try.prog w = .ok (.slice (if k = l then a else a.map (·.add (l * 3))) (h - l) (k - l)) w)
    (hr : ∀ ids, r.den (ρ.add ⟨[], [], [], [h - l, k - l], [if k = l then a else a.map (·.add (l * 3))]⟩) ids = .slice (if k = l then a else a.map (·.add (l * 3))) (h - l) (k - l)) (hhp : m'.hp = m.hp) (hfit : hpFits m.c m.hp.length m.hp = true) (hc : (ρ.add ⟨[], [], [], [h - l, k - l], [if k = l then a else a.map (·.add (l * 3))]⟩).cnt = m'.c)
    (hh : t.holds C (ρ.add ⟨[], [], [], [h - l, k - l], [if k = l then a else a.map (·.add (l * 3))]⟩) pre hx L) : (Tree.gen (.slice 38 so lo hi mx) ty ps m (some r) m' t).holds C ρ pre hx L := by
  refine node_gpure _ (fun ids w hp hf => ?_) hr hhp hfit hc oneNil hh
  simp only [execOp, hso, hP, hrun ids w, Sem.run_bind, Sem.run_pure, Result.andThen_ok]
end
theorem zero_pk (w : World) : (zeroValue 30).run Try.prog w = .ok (.agg #[.int .i64 0, .int .i64 0, .slice none 0 0]) w := by
  obtain ⟨i0, hi, h0, h1, _⟩ := info_parts info_pk
  simp [zeroValue, typeInfo, hi, h0]
section
variable {P : Program} {w : World} {g i n cap : Nat} {cur : List Value}
theorem run_app_in (ty : Nat) (hg : w.heap[g]? = some (.cells cur.toArray 30 (0, 0))) (hl : cur.length = cap * 3) (hn : n ≤ cap) (hi : i < n) (h1 : ∀ u ∈ (cur.drop ((i + 1) * 3)).take ((n - (i + 1)) * 3), u.oneCell' = true) :
    ∃ w', (Builtin.append_ #[38, 38] ty #[.slice (some ⟨g, 0, none⟩) i cap, .slice (if cap = i + 1 then some ⟨g, 0, none⟩ else some ((⟨g, 0, none⟩ : Addr).add ((i + 1) * 3))) (n - (i + 1)) (cap - (i + 1))]).run Try.prog w = .ok (.slice (some ⟨g, 0, none⟩) (i + (n - (i + 1))) cap) w' ∧
      w'.heap[g]? = some (.cells (spl cur (i * 3) ((cur.drop ((i + 1) * 3)).take ((n - (i + 1)) * 3))).toArray 30 (0, 0)) ∧ w.grownBy w' (some g) := by
  obtain ⟨i0, hi0, _, hs, _⟩ := info_parts info_pk
  have hul : ((cur.drop ((i + 1) * 3)).take ((n - (i + 1)) * 3)).length = (n - (i + 1)) * 3 := by rw [List.length_take, List.length_drop]; omega
  have hr := run_append_room_cells (P := Try.prog) w 38 ty 30 i0 Try.underlying38 hi0 g 0 i cap (if cap = i + 1 then ⟨g, 0, none⟩ else (⟨g, 0, none⟩ : Addr).add ((i + 1) * 3)) (n - (i + 1)) (cap - (i + 1)) ((cur.drop ((i + 1) * 3)).take ((n - (i + 1)) * 3)) (by rw [hul, hs]) (fun j u hj => ?_) h1 (by omega) (fun j hj => ?_) (fun j hj => ?_)
  · rw [hs] at hr
    obtain ⟨h2, h3⟩ := setCells_blk ((cur.drop ((i + 1) * 3)).take ((n - (i + 1)) * 3)) (0 + i * 3) cur w hg (by rw [hul]; omega)
    rw [Nat.zero_add] at hr h2 h3
    refine ⟨_, ?_, h2, h3⟩
    rw [← hr]
    congr 3
    split <;> rfl
  · have hj2 : j < (n - (i + 1)) * 3 := by
      rcases Nat.lt_or_ge j ((n - (i + 1)) * 3) with q | q
      · exact q
      · rw [List.getElem?_eq_none (by rw [hul]; exact q)] at hj; cases hj
    rw [if_neg (by omega), Go.WideShapes.add_plain, Go.WideShapes.add_plain, Nat.zero_add, cells_blk hg]
    rw [List.getElem?_take, if_pos hj2, List.getElem?_drop] at hj
    exact hj
  · rw [hs, cells_blk hg]
    rw [hul] at hj
    simp; omega
  · exact frozen_of_row w g _ cur.toArray 30 hg
theorem run_clear_in (ty : Nat) {o k c : Nat} (hg : w.heap[g]? = some (.cells cur.toArray 30 (0, 0))) (ho : o + 3 ≤ cur.length) :
    ∃ w', (Builtin.clear_ #[38] ty #[.slice (some ⟨g, o, none⟩) 1 c]).run Try.prog w = .ok (.tuple #[]) w' ∧ w'.heap[g]? = some (.cells (spl cur o [.int .i64 0, .int .i64 0, .slice none 0 0]).toArray 30 (0, 0)) ∧ w.grownBy w' (some g) := by
  obtain ⟨w', hr, h2, h3⟩ := run_store_blk (P := Try.prog) (o := o) (vs := [.int .i64 0, .int .i64 0, .slice none 0 0]) hg (by simpa using ho) (by intro v hv; simp at hv; rcases hv with rfl | rfl | rfl <;> rfl)
  refine ⟨w', ?_, h2, h3⟩
  have hz : (Builtin.zeroCells (Value.agg #[.int .i64 0, .int .i64 0, .slice none 0 0]).cells 1).toList = [.int .i64 0, .int .i64 0, .slice none 0 0] := by kernel_rfl
  simp [Builtin.clear_, run_underlying Try.underlying38, zero_pk, hz, hr]
end
section
variable {C : Cfg} {ρ : Env} {pre : List Nat} {rest : HX} {L : Stack} {m m' : Mem} {ty : Nat} {ps : List (Nat × SV)} {t : Tree} {g i n cap : Nat} {cur : List Value}
theorem node_app_in {so xo : Operand} {ac : Go.Call} {r : SV} (hP : C.P = Try.prog) (hac : ac = { callee := .builtin .append, args := #[so, xo], argTypes := #[38, 38] }) (hl : cur.length = cap * 3) (hn : n ≤ cap) (hi : i < n) (h1 : ∀ u ∈ (cur.drop ((i + 1) * 3)).take ((n - (i + 1)) * 3), u.oneCell' = true)
    (hso : ∀ ids, envOf ρ ids ps so = .slice (some ⟨g, 0, none⟩) i cap) (hxo : ∀ ids, envOf ρ ids ps xo = .slice (if cap = i + 1 then some ⟨g, 0, none⟩ else some ((⟨g, 0, none⟩ : Addr).add ((i + 1) * 3))) (n - (i + 1)) (cap - (i + 1)))
    (hM : C.W.heap.size ≤ g ∨ C.M g) (hdis : ¬ rest.F g)
    (hr : ∀ ids, r.den (ρ.add ⟨[], [], [], [i + (n - (i + 1)), cap], [some ⟨g, 0, none⟩]⟩) ids = .slice (some ⟨g, 0, none⟩) (i + (n - (i + 1))) cap) (hhp : m'.hp = m.hp) (hfit : hpFits m.c m.hp.length m.hp = true) (hc : (ρ.add ⟨[], [], [], [i + (n - (i + 1)), cap], [some ⟨g, 0, none⟩]⟩).cnt = m'.c)
    (h : t.holds C (ρ.add ⟨[], [], [], [i + (n - (i + 1)), cap], [some ⟨g, 0, none⟩]⟩) pre (rest.and (HX.blk g (.cells (spl cur (i * 3) ((cur.drop ((i + 1) * 3)).take ((n - (i + 1)) * 3))).toArray 30 (0, 0)))) L) :
    (Tree.gen (.call ac) ty ps m (some r) m' t).holds C ρ pre (rest.and (HX.blk g (.cells cur.toArray 30 (0, 0)))) L := by
  intro ids w hp hf
  subst hac
  unfold GenRun
  obtain ⟨w', hrun, h2, h3⟩ := run_app_in (i := i) ty hf.x.2 hl hn hi h1
  simp only [execOp, resolve, invoke, builtin, hso, hxo, hP, Sem.run_bind, Sem.run_pure, Result.andThen_ok, List.map_toArray, List.map_cons, List.map_nil, hrun]
  refine ⟨_, ids, rest.and (HX.blk g (.cells (spl cur (i * 3) ((cur.drop ((i + 1) * 3)).take ((n - (i + 1)) * 3))).toArray 30 (0, 0))), ?_, List.prefix_refl _, hf.turn h3 (fun b hb => by cases hb; exact ⟨.inr rfl, hM⟩) ⟨rest.loc w w' hf.x.1 fun k hk => h3.block k (hf.sep k (.inl hk)).1 (fun q => hdis (by cases q; exact hk)), h2⟩ (fun k hk => .inl hk) hhp hfit hc oneNil, holds_pre t hp h⟩
  simp only [Option.map_some, hr]
theorem node_clear_in {xo : Operand} {ac : Go.Call} {r : SV} {o c : Nat} (hP : C.P = Try.prog) (hac : ac = { callee := .builtin .clear, args := #[xo], argTypes := #[38] }) (ho : o + 3 ≤ cur.length) (hxo : ∀ ids, envOf ρ ids ps xo = .slice (some ⟨g, o, none⟩) 1 c)
    (hM : C.W.heap.size ≤ g ∨ C.M g) (hdis : ¬ rest.F g) (hr : ∀ ids, r.den (ρ.add Vals.nil) ids = .tuple #[]) (hhp : m'.hp = m.hp) (hfit : hpFits m.c m.hp.length m.hp = true) (hc : (ρ.add Vals.nil).cnt = m'.c)
    (h : t.holds C (ρ.add Vals.nil) pre (rest.and (HX.blk g (.cells (spl cur o [.int .i64 0, .int .i64 0, .slice none 0 0]).toArray 30 (0, 0)))) L) :
    (Tree.gen (.call ac) ty ps m (some r) m' t).holds C ρ pre (rest.and (HX.blk g (.cells cur.toArray 30 (0, 0)))) L := by
  intro ids w hp hf
  subst hac
  unfold GenRun
  obtain ⟨w', hrun, h2, h3⟩ := run_clear_in (k := 0) (c := c) ty hf.x.2 ho
  simp only [execOp, resolve, invoke, builtin, hxo, hP, Sem.run_bind, Sem.run_pure, Result.andThen_ok, List.map_toArray, List.map_cons, List.map_nil, hrun]
  refine ⟨_, ids, rest.and (HX.blk g (.cells (spl cur o [.int .i64 0, .int .i64 0, .slice none 0 0]).toArray 30 (0, 0))), ?_, List.prefix_refl _, hf.turn h3 (fun b hb => by cases hb; exact ⟨.inr rfl, hM⟩) ⟨rest.loc w w' hf.x.1 fun k hk => h3.block k (hf.sep k (.inl hk)).1 (fun q => hdis (by cases q; exact hk)), h2⟩ (fun k hk => .inl hk) hhp hfit hc oneNil, holds_pre t hp h⟩
  simp only [Option.map_some, hr]
end
theorem del_take {cur : List Value} {n i cap : Nat} (hl : cur.length = cap * 3) (hn : n ≤ cap) (hi : i < n) : (delCur cur n i).take ((n - 1) * 3) = (cur.take (n * 3)).take (i * 3) ++ (cur.take (n * 3)).drop ((i + 1) * 3) := by
  unfold delCur
  have hul : ((cur.drop ((i + 1) * 3)).take ((n - (i + 1)) * 3)).length = (n - (i + 1)) * 3 := by rw [List.length_take, List.length_drop]; omega
  have hl1 : (spl cur (i * 3) ((cur.drop ((i + 1) * 3)).take ((n - (i + 1)) * 3))).length = cap * 3 := by rw [spl_len (by rw [hul]; omega)]; exact hl
  generalize hc2 : spl cur (i * 3) ((cur.drop ((i + 1) * 3)).take ((n - (i + 1)) * 3)) = c2 at hl1 ⊢
  have e1 : (spl c2 ((n - 1) * 3) [.int .i64 0, .int .i64 0, .slice none 0 0]).take ((n - 1) * 3) = c2.take ((n - 1) * 3) := by
    unfold spl
    rw [List.append_assoc, List.take_append_of_le_length (by rw [List.length_take]; omega), List.take_take, Nat.min_self]
  rw [e1, ← hc2]
  unfold spl
  rw [List.take_take, show min (i * 3) (n * 3) = i * 3 by omega, List.append_assoc, List.take_append, List.length_take, show min (i * 3) cur.length = i * 3 by omega, List.take_of_length_le (i := (n - 1) * 3) (by rw [List.length_take]; omega)]
  congr 1
  rw [List.take_append_of_le_length (by rw [hul]; omega), List.take_take, List.drop_take]
  congr 1; omega
def DelR (w : World) (a : Option Addr) (n cap : Nat) (xs : List Value) (i : Nat) (e : Ending) (w' : World) : Prop := e = .returned (.slice a (n - 1) cap) ∧ (HX.rw 3 30 a (n - 1) cap (xs.take (i * 3) ++ xs.drop ((i + 1) * 3))).X w' ∧ ∃ g, abk a = some g ∧ w.grownBy w' (some g)
theorem slice_lhm (a : Option Addr) (len cap l h k : Nat) (h1 : l ≤ h) (h2 : h ≤ k) (h3 : k ≤ cap) (w : World) : (Instr.sliceAt 38 (.slice a len cap) (some (.int .i64 (l : Int))) (some (.int .i64 (h : Int))) (some (.int .i64 (k : Int)))).run Try.prog w = .ok (.slice (if k = l then a else a.map (·.add (l * 3))) (h - l) (k - l)) w := by
  have := run_slice_lhm (P := Try.prog) w 38 a len cap und_pk .i64 .i64 .i64 (l : Int) (h : Int) (k : Int) (by omega) (by omega) (by omega) (by omega)
  simp only [run_sliceAt_slice _ _ _ _ _ _ und_pk, this, size_pk, Result.andThen_ok, sliced, Int.toNat_natCast]
theorem slice_h (a : Option Addr) (len cap h : Nat) (h1 : h ≤ cap) (w : World) : (Instr.sliceAt 38 (.slice a len cap) none (some (.int .i64 (h : Int))) none).run Try.prog w = .ok (.slice (if cap = 0 then a else a.map (·.add (0 * 3))) (h - 0) (cap - 0)) w := by
  have := run_slice_h (P := Try.prog) w 38 a len cap und_pk .i64 (h : Int) (by omega) (by omega)
  simp only [run_sliceAt_slice _ _ _ _ _ _ und_pk, this, size_pk, Result.andThen_ok, sliced, Int.toNat_natCast]
theorem slice_l (a : Option Addr) (len cap l : Nat) (h1 : l ≤ len) (w : World) : (Instr.sliceAt 38 (.slice a len cap) (some (.int .i64 (l : Int))) none none).run Try.prog w = .ok (.slice (if cap = l then a else a.map (·.add (l * 3))) (len - l) (cap - l)) w := by
  have := run_slice_l (P := Try.prog) w 38 a len cap und_pk .i64 (l : Int) (by omega) (by omega)
  simp only [run_sliceAt_slice _ _ _ _ _ _ und_pk, this, size_pk, Result.andThen_ok, sliced, Int.toNat_natCast]
theorem slice_lh (a : Option Addr) (len cap l h : Nat) (h1 : l ≤ h) (h2 : h ≤ cap) (w : World) : (Instr.sliceAt 38 (.slice a len cap) (some (.int .i64 (l : Int))) (some (.int .i64 (h : Int))) none).run Try.prog w = .ok (.slice (if cap = l then a else a.map (·.add (l * 3))) (h - l) (cap - l)) w := by
  have := run_slice_lh (P := Try.prog) w 38 a len cap und_pk .i64 .i64 (l : Int) (h : Int) (by omega) (by omega) (by omega)
  simp only [run_sliceAt_slice _ _ _ _ _ _ und_pk, this, size_pk, Result.andThen_ok, sliced, Int.toNat_natCast]
theorem del_any (a : Option Addr) (n cap : Nat) (xs : List Value) (i : Nat) (w : World) (H : (HX.rw 3 30 a n cap xs).X w) (hi : i < n) (hb : n ≤ 1000000) (h1 : ∀ u ∈ xs, u.oneCell' = true) :
    Calls Try.prog 22 #[.slice a n cap, .int .i64 (i : Int), .int .i64 ((i + 1 : Nat) : Int)] w (DelR w a n cap xs i) := by
  have hle := rw_le H
  obtain ⟨g, cur, rfl, hlt, hg, hnc, hcm, hcl, htk⟩ := rw_open H (by omega)
  have hone : ∀ u ∈ (cur.drop ((i + 1) * 3)).take ((n - (i + 1)) * 3), u.oneCell' = true := fun u hu => h1 u (by
    rw [show (n - (i + 1)) * 3 = n * 3 - (i + 1) * 3 by omega, ← List.drop_take, htk] at hu
    exact List.mem_of_mem_drop hu)
  refine calls_at (tab_ok _) Try.func22 rfl tNDel (ρ := ⟨[(i : Int), ((i + 1 : Nat) : Int)], [], [], [n, cap], [some ⟨g, 0, none⟩]⟩) (ids := []) (hx := HX.nil.and (HX.blk g (.cells cur.toArray 30 (0, 0)))) (M := fun x => x = g) rfl
    (Facts.initm rfl oneNil ⟨trivial, hg⟩ (fun k hk => by rcases hk with hk | hk; cases hk; exact hk ▸ hlt)) ?_
  refine node_slice_pk rfl (some ⟨g, 0, none⟩) n cap i (i + 1) n (fun _ => rfl) (fun ids w => slice_lhm _ n cap i (i + 1) n (by omega) (by omega) hnc w) (fun _ => rfl) rfl rfl rfl ?_
  refine br_f (show ((i : Int) == ((i + 1 : Nat) : Int)) = false by simp; omega) ?_
  have fin : ∀ {ρ : Env} {L : Stack} {c : Cnt} {v : SV}, (∀ ids, v.den ρ ids = .slice (some ⟨g, 0, none⟩) (i + (n - (i + 1))) cap) → (Tree.done v ⟨[], c⟩).holds ⟨Try.prog, w, fun x => x = g, DelR w (some ⟨g, 0, none⟩) n cap xs i⟩ ρ [] (HX.nil.and (HX.blk g (.cells (delCur cur n i).toArray 30 (0, 0)))) L := fun hv ids w' hp hf => by
    refine ⟨?_, ?_, g, rfl, hf.chg.grown⟩
    · rw [hv ids, show i + (n - (i + 1)) = n - 1 by omega]
    · have hdl : (delCur cur n i).length = cap * 3 := by
        have hul : ((cur.drop ((i + 1) * 3)).take ((n - (i + 1)) * 3)).length = (n - (i + 1)) * 3 := by rw [List.length_take, List.length_drop]; omega
        unfold delCur
        rw [spl_len, spl_len, hcl]
        · rw [hul]; omega
        · rw [spl_len (by rw [hul]; omega)]; simp; omega
      have := rw_shut (by omega) hf.x.2 (show n - 1 ≤ cap by omega) hcm hdl
      rwa [del_take hcl hnc hi, htk] at this
  have cap0 : (if cap = 0 then (some ⟨g, 0, none⟩ : Option Addr) else (some (⟨g, 0, none⟩ : Addr)).map (·.add (0 * 3))) = some ⟨g, 0, none⟩ := by
    rw [if_neg (by omega)]; rfl
  have hend : (if cap = n - 1 then (some ⟨g, 0, none⟩ : Option Addr) else (some (⟨g, 0, none⟩ : Addr)).map (·.add ((n - 1) * 3))) = some ⟨g, (n - 1) * 3, none⟩ := by
    rw [if_neg (by omega)]
    show some ((⟨g, 0, none⟩ : Addr).add ((n - 1) * 3)) = some _
    rw [Go.WideShapes.add_plain, Nat.zero_add]
  have e1 : i + (n - (i + 1)) = n - 1 := by omega
  refine par_i ?_ ?_
  · refine node_slice_pk rfl (some ⟨g, 0, none⟩) n cap 0 i cap (fun _ => rfl) (fun ids w => slice_h _ n cap i (by omega) w) (fun _ => rfl) rfl rfl rfl ?_
    refine node_slice_pk rfl (some ⟨g, 0, none⟩) n cap (i + 1) n cap (fun _ => rfl) (fun ids w => slice_l _ n cap (i + 1) (by omega) w) (fun _ => rfl) rfl rfl rfl ?_
    refine node_app_in (i := i) (n := n) (cap := cap) rfl rfl hcl hnc hi hone (fun _ => by show Value.slice (if cap = 0 then (some ⟨g, 0, none⟩ : Option Addr) else (some (⟨g, 0, none⟩ : Addr)).map (·.add (0 * 3))) (i - 0) (cap - 0) = _; rw [cap0]; rfl) (fun _ => rfl) (.inr rfl) (fun h => h) (fun _ => rfl) rfl rfl rfl ?_
    refine node_slice_pk rfl (some ⟨g, 0, none⟩) (i + (n - (i + 1))) cap (n - 1) n cap (fun _ => rfl) (fun ids w => by rw [e1]; exact slice_lh _ (n - 1) cap (n - 1) n (by omega) hnc w) (fun _ => rfl) rfl rfl rfl ?_
    refine node_clear_in (o := (n - 1) * 3) (c := cap - (n - 1)) rfl rfl ?_ (fun _ => by show Value.slice (if cap = n - 1 then (some ⟨g, 0, none⟩ : Option Addr) else (some (⟨g, 0, none⟩ : Addr)).map (·.add ((n - 1) * 3))) (n - (n - 1)) (cap - (n - 1)) = _; rw [hend, show n - (n - 1) = 1 by omega]) (.inr rfl) (fun h => h) (fun _ => rfl) rfl rfl rfl (fin fun _ => rfl)
    rw [spl_len (by rw [List.length_take, List.length_drop]; omega)]; omega
  · refine node_slice_pk rfl (some ⟨g, 0, none⟩) n cap (i + 1) n cap (fun _ => rfl) (fun ids w => slice_l _ n cap (i + 1) (by omega) w) (fun _ => rfl) rfl rfl rfl ?_
    refine node_slice_pk rfl (some ⟨g, 0, none⟩) n cap 0 i cap (fun _ => rfl) (fun ids w => slice_h _ n cap i (by omega) w) (fun _ => rfl) rfl rfl rfl ?_
    refine node_app_in (i := i) (n := n) (cap := cap) rfl rfl hcl hnc hi hone (fun _ => by show Value.slice (if cap = 0 then (some ⟨g, 0, none⟩ : Option Addr) else (some (⟨g, 0, none⟩ : Addr)).map (·.add (0 * 3))) (i - 0) (cap - 0) = _; rw [cap0]; rfl) (fun _ => rfl) (.inr rfl) (fun h => h) (fun _ => rfl) rfl rfl rfl ?_
    refine node_slice_pk rfl (some ⟨g, 0, none⟩) (i + (n - (i + 1))) cap (n - 1) n cap (fun _ => rfl) (fun ids w => by rw [e1]; exact slice_lh _ (n - 1) cap (n - 1) n (by omega) hnc w) (fun _ => rfl) rfl rfl rfl ?_
    refine node_clear_in (o := (n - 1) * 3) (c := cap - (n - 1)) rfl rfl ?_ (fun _ => by show Value.slice (if cap = n - 1 then (some ⟨g, 0, none⟩ : Option Addr) else (some (⟨g, 0, none⟩ : Addr)).map (·.add ((n - 1) * 3))) (n - (n - 1)) (cap - (n - 1)) = _; rw [hend, show n - (n - 1) = 1 by omega]) (.inr rfl) (fun h => h) (fun _ => rfl) rfl rfl rfl (fin fun _ => rfl)
    rw [spl_len (by rw [List.length_take, List.length_drop]; omega)]; omega
end Go.Proofs.Yteeecfdcebcbbaa
