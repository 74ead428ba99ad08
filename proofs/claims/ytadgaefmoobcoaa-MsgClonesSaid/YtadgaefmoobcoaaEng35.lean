/- More steps over maps: len, == nil, stores and deletions inside a larger piece; append of one cell's element onto a row told of by its place. No program in sight. -/
import Derived.Test.YtadgaefmoobcoaaAl
namespace Go.Eng
open Go.RowKit Go.Syn Go.MapKept
set_option linter.unusedVariables false
set_option linter.unusedSimpArgs false
theorem eq_mapnil {P : Program} {mt kt et : TypeId} (b : Option Nat) (ht : P.underlying mt = some (.map kt et)) (w : World) : (Op.equal mt (.map b) (.map none)).run P w = .ok b.isNone w := by
  show (Op.equalIn (9999 + 1) mt (.map b) (.map none)).run P w = _
  unfold Op.equalIn
  cases b <;> simp [run_underlying ht, Result.andThen]
theorem eq_ptrnil {P : Program} {pt et : TypeId} (a : Option Addr) (ht : P.underlying pt = some (.pointer et)) (w : World) : (Op.equal pt (.pointer a) (.pointer none)).run P w = .ok a.isNone w := by
  show (Op.equalIn (9999 + 1) pt (.pointer a) (.pointer none)).run P w = _
  unfold Op.equalIn
  cases a <;> simp [run_underlying ht, Result.andThen]
section
variable {C : Cfg} {ρ : Env} {pre : List Nat} {hx rest : HX} {L : Stack} {m m' : Mem} {ty : Nat} {ps : List (Nat × SV)} {t : Tree}
/-- 'len(m)'. -/
theorem node_vlen {mt kt et : TypeId} {xo : Operand} {ac : Go.Call} {r : SV} (vs : Vals) (hac : ac = { callee := .builtin .len, args := #[xo], argTypes := #[mt] }) (b : Nat) (mm : List (Int × Value)) (hx_ : ∀ w, hx.X w → VMap w b mm) (hmo : ∀ ids, envOf ρ ids ps xo = .map (some b))
    (ht : C.P.underlying mt = some (.map kt et)) (hr : ∀ ids, r.den (ρ.add vs) ids = .int .i64 (mm.length : Int)) (hl : mm.length ≤ 4611686018427387904) (hhp : m'.hp = m.hp) (hfit : hpFits m.c m.hp.length m.hp = true) (hc : (ρ.add vs).cnt = m'.c) (h1 : ∀ v, v ∈ vs.v → v.oneCell' = true)
    (h : t.holds C (ρ.add vs) pre hx L) : (Tree.gen (.call ac) ty ps m (some r) m' t).holds C ρ pre hx L := by
  subst hac
  refine node_gpure (V := .int .i64 (mm.length : Int)) vs (fun ids w hp hf => ?_) hr hhp hfit hc h1 h
  obtain ⟨es, clock, h1, h2, h3⟩ := hx_ w hf.x
  have hl2 : es.size = mm.length := by
    have := congrArg List.length h3
    rwa [List.length_map, List.length_map, Array.length_toList] at this
  have hg : goInt es.size = Value.int .i64 (mm.length : Int) := by
    unfold goInt
    rw [hl2]
  simp only [execOp, resolve, invoke, builtin, hmo, Sem.run_bind, Sem.run_pure, Result.andThen_ok, List.map_toArray, List.map_cons, List.map_nil]
  simp [Builtin.len_, run_underlying ht, MapKept.run_getObj_map h1, Result.andThen, hg]
/-- 'm == nil'. -/
theorem node_mnil {mt kt et : TypeId} {xo yo : Operand} {fl : TypeId} {r : SV} (b : Option Nat) (vs : Vals) (ht : C.P.underlying mt = some (.map kt et)) (hxo : ∀ ids, envOf ρ ids ps xo = .map b) (hyo : ∀ ids, envOf ρ ids ps yo = .map none)
    (hr : ∀ ids, r.den (ρ.add vs) ids = .bool b.isNone) (hhp : m'.hp = m.hp) (hfit : hpFits m.c m.hp.length m.hp = true) (hc : (ρ.add vs).cnt = m'.c) (h1 : ∀ v, v ∈ vs.v → v.oneCell' = true)
    (h : t.holds C (ρ.add vs) pre hx L) : (Tree.gen (.binOp .eql mt xo yo fl) ty ps m (some r) m' t).holds C ρ pre hx L := by
  refine node_bin (x := .map b) (y := .map none) (V := .bool b.isNone) vs hxo hyo (fun w => by simp [eqGuard]) (fun w => ?_) hr hhp hfit hc h1 h
  show ((do pure (Value.bool (← Op.equal mt (.map b) (.map none)))) : Sem Value).run C.P w = _
  simp only [Sem.run_bind, eq_mapnil b ht w, Result.andThen_ok, Sem.run_pure]
/-- 'p == nil', 'p != nil'. -/
theorem node_pnil {pt et : TypeId} {xo yo : Operand} {fl : TypeId} {r : SV} (a : Option Addr) (vs : Vals) (ht : C.P.underlying pt = some (.pointer et)) (hxo : ∀ ids, envOf ρ ids ps xo = .pointer a) (hyo : ∀ ids, envOf ρ ids ps yo = .pointer none)
    (hr : ∀ ids, r.den (ρ.add vs) ids = .bool a.isNone) (hhp : m'.hp = m.hp) (hfit : hpFits m.c m.hp.length m.hp = true) (hc : (ρ.add vs).cnt = m'.c) (h1 : ∀ v, v ∈ vs.v → v.oneCell' = true)
    (h : t.holds C (ρ.add vs) pre hx L) : (Tree.gen (.binOp .eql pt xo yo fl) ty ps m (some r) m' t).holds C ρ pre hx L := by
  refine node_bin (x := .pointer a) (y := .pointer none) (V := .bool a.isNone) vs hxo hyo (fun w => by simp [eqGuard]) (fun w => ?_) hr hhp hfit hc h1 h
  show ((do pure (Value.bool ((← Op.equal pt (.pointer a) (.pointer none))))) : Sem Value).run C.P w = _
  simp only [Sem.run_bind, eq_ptrnil a ht w, Result.andThen_ok, Sem.run_pure]
theorem node_pnn {pt et : TypeId} {xo yo : Operand} {fl : TypeId} {r : SV} (a : Option Addr) (vs : Vals) (ht : C.P.underlying pt = some (.pointer et)) (hxo : ∀ ids, envOf ρ ids ps xo = .pointer a) (hyo : ∀ ids, envOf ρ ids ps yo = .pointer none)
    (hr : ∀ ids, r.den (ρ.add vs) ids = .bool a.isSome) (hhp : m'.hp = m.hp) (hfit : hpFits m.c m.hp.length m.hp = true) (hc : (ρ.add vs).cnt = m'.c) (h1 : ∀ v, v ∈ vs.v → v.oneCell' = true)
    (h : t.holds C (ρ.add vs) pre hx L) : (Tree.gen (.binOp .neq pt xo yo fl) ty ps m (some r) m' t).holds C ρ pre hx L := by
  refine node_bin (x := .pointer a) (y := .pointer none) (V := .bool a.isSome) vs hxo hyo (fun w => by simp [eqGuard]) (fun w => ?_) hr hhp hfit hc h1 h
  show ((do pure (Value.bool (!(← Op.equal pt (.pointer a) (.pointer none))))) : Sem Value).run C.P w = _
  simp only [Sem.run_bind, eq_ptrnil a ht w, Result.andThen_ok, Sem.run_pure]
  cases a <;> rfl
/-- 'range m', m inside a larger piece that is only read. -/
theorem node_vrangeX {mt kt et : TypeId} {xo : Operand} {r : SV} (b : Nat) (mm : List (Int × Value)) (hx_ : ∀ w, hx.X w → VMap w b mm) (hb : hx.F b) (hmo : ∀ ids, envOf ρ ids ps xo = .map (some b)) (ht : C.P.underlying mt = some (.map kt et))
    (hr : ∀ v ids, r.den (ρ.add ⟨[], [], [v], [], []⟩) ids = v) (hhp : m'.hp = m.hp) (hfit : hpFits m.c m.hp.length m.hp = true) (hc : ∀ v, (ρ.add ⟨[], [], [v], [], []⟩).cnt = m'.c)
    (h : ∀ i, C.W.heap.size ≤ i → ¬ hx.F i → t.holds C (ρ.add ⟨[], [], [.pointer (some ⟨i, 0, none⟩)], [], []⟩) pre (hx.and (HX.rng i b mm mm none)) L) : (Tree.gen (.range mt xo) ty ps m (some r) m' t).holds C ρ pre hx L := by
  intro ids w hp hf
  unfold GenRun
  obtain ⟨es, clock, h1, h2, h3⟩ := hx_ w hf.x
  have hrun := run_range_map (P := C.P) w mt kt et b es clock ht h1
  simp only [execOp, hmo, Sem.run_bind, Sem.run_pure, Result.andThen_ok, hrun]
  have hg : w.grownBy (w.alloc (.mapIter (some b) clock #[] clock)) none := ⟨rfl, rfl, rfl, by show w.heap.size ≤ (w.heap.push _).size; simp, fun k hk _ => heap_alloc_old w _ hk⟩
  have hold : ∀ k, hx.F k → (w.alloc (.mapIter (some b) clock #[] clock)).heap[k]? = w.heap[k]? := fun k hk => heap_alloc_old w _ (hf.sep k hk).1
  refine ⟨⟨[], [], [.pointer (some ⟨w.heap.size, 0, none⟩)], [], []⟩, ids, _, ?_, List.prefix_refl _, hf.turn (hx' := hx.and (HX.rng w.heap.size b mm mm none)) hg (fun b' e => by cases e) ⟨hx.loc _ _ hf.x fun k hk => hold k hk, ?_⟩ (fun k hk => ?_) hhp hfit (hc _) (fun v hv => ?_), holds_pre t hp (h w.heap.size hf.chg.size (fun q => by have := (hf.sep _ q).1; omega))⟩
  · simp only [Option.map_some, hr]
  · refine ⟨es, clock, #[], clock, clock, (hold b hb).trans h1, h2, h3, heap_alloc_new _ _, h2.1, Nat.le_refl _, Nat.le_refl _, ?_, fun p hp => by cases hp⟩
    rw [List.filter_eq_self.2 (fun e _ => by simp)]; exact h3
  · rcases hk with hk | hk | hk
    · exact .inl hk
    · exact .inr ⟨Nat.le_of_eq hk.symm, by rw [show k = w.heap.size from hk]; show w.heap.size < (w.heap.push _).size; simp⟩
    · exact .inl (by rw [show k = b from hk]; exact hb)
  · simp only [List.mem_singleton] at hv; subst hv; rfl
/-- 'm[k] = v', m inside a larger piece. -/
theorem node_vputX {mt kt et : TypeId} {xo ko vo : Operand} (hx' : HX) (b : Nat) (mm : List (Int × Value)) (k : Int) (v : Value) (hx_ : ∀ w, hx.X w → VMap w b mm) (hb : hx.F b) (hown : C.W.heap.size ≤ b ∨ C.M b) (hmo : ∀ ids, envOf ρ ids ps xo = .map (some b)) (hko : ∀ ids, envOf ρ ids ps ko = .int .i64 k) (hvo : ∀ ids, envOf ρ ids ps vo = v)
    (ht : C.P.underlying mt = some (.map kt et)) (hk : C.P.underlying kt = some (.int .i64)) (hX : ∀ w w', hx.X w → VMap w' b (mput mm k v) → (∀ q, hx.F q → q ≠ b → w'.heap[q]? = w.heap[q]?) → hx'.X w') (hF : ∀ k, hx'.F k → hx.F k) (hhp : m'.hp = m.hp) (hfit : hpFits m.c m.hp.length m.hp = true) (hc : ρ.cnt = m'.c)
    (h : t.holds C ρ pre hx' L) : (Tree.gen (.mapUpdate mt xo ko vo) ty ps m none m' t).holds C ρ pre hx L := by
  intro ids w hp hf
  unfold GenRun
  obtain ⟨w', hrun, h1, h2⟩ := (hx_ w hf.x).update (P := C.P) (t := mt) k v ht hk
  simp only [execOp, hmo, hko, hvo, Sem.run_bind, Sem.run_pure, Result.andThen_ok, hrun]
  refine ⟨Vals.nil, ids, hx', rfl, List.prefix_refl _, hf.turn h2 (fun b' e => by cases e; exact ⟨hb, hown⟩) (hX w w' hf.x h1 fun q hq hne => h2.block q (hf.sep q hq).1 fun e => hne (Option.some.inj e)) (fun k hk => .inl (hF k hk)) hhp hfit (by rw [Env.add_nil]; exact hc) oneNil, ?_⟩
  rw [Env.add_nil]; exact holds_pre t hp h
/-- 'delete(m, k)', m inside a larger piece. -/
theorem node_vdelX {mt kt kt2 et : TypeId} {xo ko : Operand} {ac : Go.Call} {r : SV} (hac : ac = { callee := .builtin .delete, args := #[xo, ko], argTypes := #[mt, kt2] }) (hx' : HX) (b : Nat) (mm : List (Int × Value)) (k : Int) (he : kt2 = kt) (hx_ : ∀ w, hx.X w → VMap w b mm) (hb : hx.F b) (hown : C.W.heap.size ≤ b ∨ C.M b) (hmo : ∀ ids, envOf ρ ids ps xo = .map (some b)) (hko : ∀ ids, envOf ρ ids ps ko = .int .i64 k)
    (ht : C.P.underlying mt = some (.map kt et)) (hk : C.P.underlying kt = some (.int .i64)) (hX : ∀ w w', hx.X w → VMap w' b (mdel mm k) → (∀ q, hx.F q → q ≠ b → w'.heap[q]? = w.heap[q]?) → hx'.X w') (hF : ∀ k, hx'.F k → hx.F k) (hr : ∀ ids, r.den (ρ.add Vals.nil) ids = .tuple #[]) (hhp : m'.hp = m.hp) (hfit : hpFits m.c m.hp.length m.hp = true) (hc : (ρ.add Vals.nil).cnt = m'.c)
    (h : t.holds C (ρ.add Vals.nil) pre hx' L) : (Tree.gen (.call ac) ty ps m (some r) m' t).holds C ρ pre hx L := by
  intro ids w hp hf
  subst hac
  subst he
  unfold GenRun
  obtain ⟨w', hrun, h1, h2⟩ := (hx_ w hf.x).delete (P := C.P) (t := mt) k ty ht hk
  simp only [execOp, resolve, invoke, builtin, hmo, hko, Sem.run_bind, Sem.run_pure, Result.andThen_ok, List.map_toArray, List.map_cons, List.map_nil, hrun]
  exact ⟨Vals.nil, ids, hx', by simp only [Option.map_some, hr], List.prefix_refl _, hf.turn h2 (fun b' e => by cases e; exact ⟨hb, hown⟩) (hX w w' hf.x h1 fun q hq hne => h2.block q (hf.sep q hq).1 fun e => hne (Option.some.inj e)) (fun k hk => .inl (hF k hk)) hhp hfit hc oneNil, holds_pre t hp h⟩
end
end Go.Eng
