/- Steps over maps from ints to any value. No program in sight. -/
import Derived.Test.YtadgaefmoobcoaaEng32
import Derived.Test.YtadgaefmoobcoaaVMap
namespace Go.Eng
open Go.RowKit Go.Syn Go.MapKept
set_option linter.unusedVariables false
set_option linter.unusedSimpArgs false
def HX.vmap (b : Nat) (m : List (Int × Value)) : HX := ⟨fun k => k = b, fun w => VMap w b m, fun w w' h e => h.loc (e b rfl)⟩
theorem VMap.lookup1 {P : Program} {w : World} {b : Nat} {m : List (Int × Value)} {t kt et : TypeId} (h : VMap w b m) (k : Int) (ht : P.underlying t = some (.map kt et)) (hk : P.underlying kt = some (.int .i64)) {z : Value} (hz : (zeroValue et).run P w = .ok z w) :
    (Instr.lookup t (.map (some b)) (.int .i64 k) false).run P w = .ok ((vlk m k).getD z) w := by
  obtain ⟨es, clock, h1, h2, h3, f | f⟩ := h.find k
  · obtain ⟨f1, f2, _⟩ := f
    have q := run_findKey (P := P) (w := w) hk f1
    simp [Instr.lookup, run_underlying ht, MapKept.run_getObj_map h1, run_checkKey (P := P) (w := w) (k := .int .i64 k) hk rfl _ 9999, q, hz, Result.andThen, f2]
  · obtain ⟨j, e, v, f1, _, _, f4, _, f5⟩ := f
    have q := run_findKey (P := P) (w := w) hk f1
    simp [Instr.lookup, run_underlying ht, MapKept.run_getObj_map h1, run_checkKey (P := P) (w := w) (k := .int .i64 k) hk rfl _ 9999, q, Result.andThen, f4, f5]
section
variable {C : Cfg} {ρ : Env} {pre : List Nat} {hx rest : HX} {L : Stack} {m m' : Mem} {ty : Nat} {ps : List (Nat × SV)} {t : Tree}
/-- 'v, ok := m[k]'. -/
theorem node_vlook {mt kt et : TypeId} {xo ko : Operand} {r : SV} {z : Value} (vs : Vals) (b : Nat) (mm : List (Int × Value)) (k : Int) (hx_ : ∀ w, hx.X w → VMap w b mm) (hmo : ∀ ids, envOf ρ ids ps xo = .map (some b)) (hko : ∀ ids, envOf ρ ids ps ko = .int .i64 k)
    (ht : C.P.underlying mt = some (.map kt et)) (hk : C.P.underlying kt = some (.int .i64)) (hz : ∀ w, (zeroValue et).run C.P w = .ok z w)
    (hr : ∀ ids, r.den (ρ.add vs) ids = .tuple #[(vlk mm k).getD z, .bool (vlk mm k).isSome]) (hhp : m'.hp = m.hp) (hfit : hpFits m.c m.hp.length m.hp = true) (hc : (ρ.add vs).cnt = m'.c) (h1 : ∀ v, v ∈ vs.v → v.oneCell' = true)
    (h : t.holds C (ρ.add vs) pre hx L) : (Tree.gen (.lookup mt xo ko true) ty ps m (some r) m' t).holds C ρ pre hx L := by
  refine node_gpure (V := .tuple #[(vlk mm k).getD z, .bool (vlk mm k).isSome]) vs (fun ids w hp hf => ?_) hr hhp hfit hc h1 h
  have hrun := (hx_ w hf.x).lookup (P := C.P) (t := mt) k ht hk (hz w)
  simp only [execOp, hmo, hko, Sem.run_bind, Sem.run_pure, Result.andThen_ok, hrun]
/-- 'm[k]'. -/
theorem node_vlook1 {mt kt et : TypeId} {xo ko : Operand} {r : SV} {z : Value} (vs : Vals) (b : Nat) (mm : List (Int × Value)) (k : Int) (hx_ : ∀ w, hx.X w → VMap w b mm) (hmo : ∀ ids, envOf ρ ids ps xo = .map (some b)) (hko : ∀ ids, envOf ρ ids ps ko = .int .i64 k)
    (ht : C.P.underlying mt = some (.map kt et)) (hk : C.P.underlying kt = some (.int .i64)) (hz : ∀ w, (zeroValue et).run C.P w = .ok z w)
    (hr : ∀ ids, r.den (ρ.add vs) ids = (vlk mm k).getD z) (hhp : m'.hp = m.hp) (hfit : hpFits m.c m.hp.length m.hp = true) (hc : (ρ.add vs).cnt = m'.c) (h1 : ∀ v, v ∈ vs.v → v.oneCell' = true)
    (h : t.holds C (ρ.add vs) pre hx L) : (Tree.gen (.lookup mt xo ko false) ty ps m (some r) m' t).holds C ρ pre hx L := by
  refine node_gpure (V := (vlk mm k).getD z) vs (fun ids w hp hf => ?_) hr hhp hfit hc h1 h
  have hrun := (hx_ w hf.x).lookup1 (P := C.P) (t := mt) k ht hk (hz w)
  simp only [execOp, hmo, hko, Sem.run_bind, Sem.run_pure, Result.andThen_ok, hrun]
/-- 'm[k] = v', m the last piece of memory. -/
theorem node_vput {mt kt et : TypeId} {xo ko vo : Operand} (b : Nat) (mm : List (Int × Value)) (k : Int) (v : Value) (hown : C.W.heap.size ≤ b ∨ C.M b) (hdis : ¬ rest.F b) (hmo : ∀ ids, envOf ρ ids ps xo = .map (some b)) (hko : ∀ ids, envOf ρ ids ps ko = .int .i64 k) (hvo : ∀ ids, envOf ρ ids ps vo = v)
    (ht : C.P.underlying mt = some (.map kt et)) (hk : C.P.underlying kt = some (.int .i64)) (hhp : m'.hp = m.hp) (hfit : hpFits m.c m.hp.length m.hp = true) (hc : ρ.cnt = m'.c)
    (h : t.holds C ρ pre (rest.and (HX.vmap b (vput mm k v))) L) : (Tree.gen (.mapUpdate mt xo ko vo) ty ps m none m' t).holds C ρ pre (rest.and (HX.vmap b mm)) L := by
  intro ids w hp hf
  unfold GenRun
  obtain ⟨w', hrun, h1, h2⟩ := VMap.update (P := C.P) (t := mt) (show VMap w b mm from hf.x.2) k v ht hk
  simp only [execOp, hmo, hko, hvo, Sem.run_bind, Sem.run_pure, Result.andThen_ok, hrun]
  refine ⟨Vals.nil, ids, rest.and (HX.vmap b (vput mm k v)), rfl, List.prefix_refl _, hf.turn h2 (fun b' e => by cases e; exact ⟨.inr rfl, hown⟩) ⟨rest.loc w w' hf.x.1 fun q hq => h2.block q (hf.sep q (.inl hq)).1 (fun e => hdis (by cases e; exact hq)), h1⟩ (fun k hk => .inl hk) hhp hfit (by rw [Env.add_nil]; exact hc) oneNil, ?_⟩
  rw [Env.add_nil]; exact holds_pre t hp h
/-- 'delete(m, k)', m the last piece of memory. -/
theorem node_vdel {mt kt kt2 et : TypeId} {xo ko : Operand} {ac : Go.Call} {r : SV} (hac : ac = { callee := .builtin .delete, args := #[xo, ko], argTypes := #[mt, kt2] }) (b : Nat) (mm : List (Int × Value)) (k : Int) (he : kt2 = kt) (hown : C.W.heap.size ≤ b ∨ C.M b) (hdis : ¬ rest.F b) (hmo : ∀ ids, envOf ρ ids ps xo = .map (some b)) (hko : ∀ ids, envOf ρ ids ps ko = .int .i64 k)
    (ht : C.P.underlying mt = some (.map kt et)) (hk : C.P.underlying kt = some (.int .i64)) (hr : ∀ ids, r.den (ρ.add Vals.nil) ids = .tuple #[]) (hhp : m'.hp = m.hp) (hfit : hpFits m.c m.hp.length m.hp = true) (hc : (ρ.add Vals.nil).cnt = m'.c)
    (h : t.holds C (ρ.add Vals.nil) pre (rest.and (HX.vmap b (vdel mm k))) L) : (Tree.gen (.call ac) ty ps m (some r) m' t).holds C ρ pre (rest.and (HX.vmap b mm)) L := by
  intro ids w hp hf
  subst hac
  subst he
  unfold GenRun
  obtain ⟨w', hrun, h1, h2⟩ := VMap.delete (P := C.P) (t := mt) (show VMap w b mm from hf.x.2) k ty ht hk
  simp only [execOp, resolve, invoke, builtin, hmo, hko, Sem.run_bind, Sem.run_pure, Result.andThen_ok, List.map_toArray, List.map_cons, List.map_nil, hrun]
  exact ⟨Vals.nil, ids, rest.and (HX.vmap b (vdel mm k)), by simp only [Option.map_some, hr], List.prefix_refl _, hf.turn h2 (fun b' e => by cases e; exact ⟨.inr rfl, hown⟩) ⟨rest.loc w w' hf.x.1 fun q hq => h2.block q (hf.sep q (.inl hq)).1 (fun e => hdis (by cases e; exact hq)), h1⟩ (fun k hk => .inl hk) hhp hfit hc oneNil, holds_pre t hp h⟩
end
end Go.Eng
