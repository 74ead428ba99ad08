/- More on rows: s[:h], clear. No program in sight. -/
import Derived.Test.YtadgaefmoobcoaaEng30
namespace Go.Eng
open Go.RowKit Go.Syn
set_option linter.unusedVariables false
section
variable {C : Cfg} {ρ : Env} {pre : List Nat} {rest hx : HX} {L : Stack} {m m' : Mem} {ty : Nat} {ps : List (Nat × SV)} {t : Tree}
theorem node_upto {st e : TypeId} {xo hi : Operand} {r : SV} {z : Value} {n cap u sz bytes : Nat} (a : Option Addr) (ht : C.P.underlying st = some (.slice e)) (hel : C.P.elem st = e) (hinfo : (C.P.info? e).map (fun i => (i.zero, i.size, i.bytes)) = some (some z, sz, bytes))
    (hxo : ∀ ids, envOf ρ ids ps xo = .slice a n cap) (hhi : ∀ ids, envOf ρ ids ps hi = .int .i64 (u : Int)) (hu : ∀ ids w, Facts C m ρ ids hx w → u ≤ cap)
    (hr : ∀ ids, r.den (ρ.add ⟨[], [], [], [u, cap], [sliA a 0 cap sz]⟩) ids = .slice (sliA a 0 cap sz) u cap) (hhp : m'.hp = m.hp) (hfit : hpFits m.c m.hp.length m.hp = true) (hc : (ρ.add ⟨[], [], [], [u, cap], [sliA a 0 cap sz]⟩).cnt = m'.c)
    (h : t.holds C (ρ.add ⟨[], [], [], [u, cap], [sliA a 0 cap sz]⟩) pre hx L) :
    (Tree.gen (.slice st xo none (some hi) none) ty ps m (some r) m' t).holds C ρ pre hx L := by
  obtain ⟨i0, hi', hz0, hz1, hz2⟩ := info_parts hinfo
  refine node_gpure (V := .slice (sliA a 0 cap sz) u cap) _ (fun ids w hp hf => ?_) hr hhp hfit hc oneNil h
  have hu := hu ids w hf
  have hsize : (sizeOf (C.P.elem st)).run C.P w = .ok sz w := by
    rw [hel]; simp [sizeOf, typeInfo, hi', hz1]
  have ht' : C.P.underlying st = some (.slice (C.P.elem st)) := by rw [ht, hel]
  have hrun : (Instr.sliceAt st (.slice a n cap) none (some (.int .i64 (u : Int))) none).run C.P w = .ok (.slice (sliA a 0 cap sz) u cap) w := by
    rw [run_sliceAt_slice w st _ _ _ _ ht', run_slice_h w st a n cap ht' .i64 (u : Int) (by omega) (by omega), hsize]
    simp [Result.andThen, sliced, sliA]
  simp only [execOp, hxo, hhi, Sem.run_bind, Sem.run_pure, Result.andThen_ok, Option.map_none, Option.map_some, hrun]
theorem zeroCells_len (z : Array Value) (k : Nat) : (Builtin.zeroCells z k).toList.length = k * z.size := by simp [Builtin.zeroCells]
theorem zeroCells_one {z : Array Value} (hz : 0 < z.size) (h : ∀ v ∈ z.toList, v.oneCell' = true) (k : Nat) : ∀ v ∈ (Builtin.zeroCells z k).toList, v.oneCell' = true := fun v hv => by
  simp only [Builtin.zeroCells, Array.toList_map, List.mem_map] at hv
  obtain ⟨i, _, rfl⟩ := hv
  have hlt : i % z.size < z.size := Nat.mod_lt _ hz
  rw [getElem!_pos z _ hlt]
  exact h _ (by rw [Array.mem_toList_iff]; exact Array.getElem_mem hlt)
/-- What lies behind a place is cleared, and forgotten. -/
theorem node_clear_rw {st e : TypeId} {xo : Operand} {ac : Go.Call} {r : SV} {z : Value} {sz bytes : Nat} (hac : ac = { callee := .builtin .clear, args := #[xo], argTypes := #[st] }) (ht : C.P.underlying st = some (.slice e)) (hinfo : (C.P.info? e).map (fun i => (i.zero, i.size, i.bytes)) = some (some z, sz, bytes)) (hz : z.cells.size = sz) (hsz : 0 < sz) (hone : ∀ v ∈ z.cells.toList, v.oneCell' = true)
    (a : Option Addr) (n cap i : Nat) (xs : List Value) (hi : i < n) (hxo : ∀ ids, envOf ρ ids ps xo = .slice (sliA a i cap sz) (n - i) (cap - i)) (hdis : ∀ k, cap ≠ 0 → abk a = some k → ¬ rest.F k) (hM : ∀ k, cap ≠ 0 → abk a = some k → C.W.heap.size ≤ k ∨ C.M k) (hr : ∀ ids, r.den (ρ.add Vals.nil) ids = .tuple #[]) (hhp : m'.hp = m.hp) (hfit : hpFits m.c m.hp.length m.hp = true) (hc : (ρ.add Vals.nil).cnt = m'.c)
    (h : t.holds C (ρ.add Vals.nil) pre (rest.and (HX.rw sz e a i cap (xs.take (i * sz)))) L) : (Tree.gen (.call ac) ty ps m (some r) m' t).holds C ρ pre (rest.and (HX.rw sz e a n cap xs)) L := by
  intro ids w hp hf
  subst hac
  unfold GenRun
  obtain ⟨i0, hi0, hz0, hz1, hz2⟩ := info_parts hinfo
  have hle := rw_le hf.x.2
  have hc0 : cap ≠ 0 := by omega
  obtain ⟨g, cur, rfl, hlt, hg, hnc, hcm, hcl, htk⟩ := rw_open hf.x.2 hc0
  have hmul : n * sz ≤ cap * sz := Nat.mul_le_mul_right _ hnc
  have hmul2 : i * sz + (n - i) * sz = n * sz := by rw [← Nat.add_mul]; congr 1; omega
  have hzl : (Builtin.zeroCells z.cells (n - i)).toList.length = (n - i) * sz := by rw [zeroCells_len, hz]
  obtain ⟨w', hrun, h2, h3⟩ := run_store_blk (P := C.P) (o := i * sz) (vs := (Builtin.zeroCells z.cells (n - i)).toList) hg (by rw [hzl, hcl]; omega) (zeroCells_one (by omega) hone _)
  have hA : sliA (some (⟨g, 0, none⟩ : Addr)) i cap sz = some ⟨g, i * sz, none⟩ := by
    unfold sliA
    rw [if_neg (by omega)]
    show some ((⟨g, 0, none⟩ : Addr).add (i * sz)) = _
    rw [Go.WideShapes.add_plain, Nat.zero_add]
  have hzv : (zeroValue e).run C.P w = .ok z w := by simp [zeroValue, typeInfo, hi0, hz0]
  have hrun2 : (Builtin.clear_ #[st] ty #[.slice (some ⟨g, i * sz, none⟩) (n - i) (cap - i)]).run C.P w = .ok (.tuple #[]) w' := by
    obtain ⟨q, hq⟩ : ∃ q, n - i = q + 1 := ⟨n - i - 1, by omega⟩
    rw [hq] at hrun ⊢
    simp [Builtin.clear_, run_underlying ht, hzv, hrun]
  simp only [execOp, resolve, invoke, builtin, hxo, hA, Sem.run_bind, Sem.run_pure, Result.andThen_ok, List.map_toArray, List.map_cons, List.map_nil, hrun2]
  have hX : (HX.rw sz e (some ⟨g, 0, none⟩) i cap (xs.take (i * sz))).X w' := by
    have hsl : (spl cur (i * sz) (Builtin.zeroCells z.cells (n - i)).toList).length = cap * sz := by rw [spl_len (by rw [hzl, hcl]; omega)]; exact hcl
    have := rw_shut hc0 h2 (show i ≤ cap by omega) hcm hsl
    have e1 : (spl cur (i * sz) (Builtin.zeroCells z.cells (n - i)).toList).take (i * sz) = xs.take (i * sz) := by
      unfold spl
      rw [List.append_assoc, List.take_append_of_le_length (by rw [List.length_take]; omega), List.take_take, Nat.min_self, ← htk, List.take_take, Nat.min_eq_left (by omega)]
    rw [e1] at this; exact this
  refine ⟨_, ids, rest.and (HX.rw sz e (some ⟨g, 0, none⟩) i cap (xs.take (i * sz))), ?_, List.prefix_refl _, hf.turn h3 (fun b hb => by cases hb; exact ⟨.inr ⟨hc0, rfl⟩, hM g hc0 rfl⟩) ⟨rest.loc w w' hf.x.1 fun k hk => h3.block k (hf.sep k (.inl hk)).1 (fun q => by cases q; exact hdis g hc0 rfl hk), hX⟩ (fun k hk => .inl hk) hhp hfit hc oneNil, holds_pre t hp h⟩
  simp only [Option.map_some, hr]
end
end Go.Eng
