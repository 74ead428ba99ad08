/- Part 14 of the texts of a proof about the given program: what the statement's proof needs of them. -/
import Derived.Lib.AppendZerosOnto
import Derived.Lib.Overlaps
import Derived.KernelRfl
import Derived.Test.YtlgpjjgkdpmidaaKProposerAgain13
namespace Go.Eng
open Go.RowKit Go.Syn
set_option linter.unusedVariables false
section
variable {C : Cfg} {ρ : Env} {pre : List Nat} {rest hx : HX} {L : Stack} {m m' : Mem} {ty : Nat} {ps : List (Nat × SV)} {t : Tree}
end
section
variable {C : Cfg} {ρ : Env} {pre : List Nat} {hx : HX} {L : Stack} {m m' : Mem} {ty : Nat} {ps : List (Nat × SV)} {t : Tree} {r : Option SV}
end
section
variable {C : Cfg} {ρ : Env} {pre : List Nat} {rest hx : HX} {L : Stack} {m m' : Mem} {args : List SV} {r : SV} {t : Tree}
end
end Go.Eng

namespace Go.Eng
open Go.RowKit Go.Syn Go.MapKept
set_option linter.unusedVariables false
set_option linter.unusedSimpArgs false
def HX.vmap (b : Nat) (m : List (Int × Value)) : HX := ⟨fun k => k = b, fun w => VMap w b m, fun w w' h e => h.loc (e b rfl)⟩
theorem VMap.lookup1 {P : Program} {w : World} {b : Nat} {m : List (Int × Value)} {t kt et : TypeId} (h : VMap w b m) (k : Int) (ht : P.underlying t = some (.map kt et)) (hk : P.underlying kt = some (.int .i64)) {z : Value} (hz : (zeroValue et).run P w = .ok z w) :
    (Instr.lookup t (.map (some b)) (.int .i64 k) false).run P w = .ok ((vlk m k).getD z) w := by
  obtain ⟨es, clock, h1, h2, h3, f | f⟩ := h.find k
  · obtain ⟨f1, f2, _⟩ := f
    have q := run_findKey (P := P) (w := w) hk f1
    simp [Instr.lookup, run_underlying ht, MapKept.run_getObj_map h1, run_checkKey (P := P) (w := w) (k := .int .i64 k) hk rfl _ 9999, q, hz, Result.andThen, f2]
  · obtain ⟨j, e, v, f1, _, _, f4, _, f5⟩ := f
    have q := run_findKey (P := P) (w := w) hk f1
    simp [Instr.lookup, run_underlying ht, MapKept.run_getObj_map h1, run_checkKey (P := P) (w := w) (k := .int .i64 k) hk rfl _ 9999, q, Result.andThen, f4, f5]
section
variable {C : Cfg} {ρ : Env} {pre : List Nat} {hx rest : HX} {L : Stack} {m m' : Mem} {ty : Nat} {ps : List (Nat × SV)} {t : Tree}
theorem node_vlook {mt kt et : TypeId} {xo ko : Operand} {r : SV} {z : Value} (vs : Vals) (b : Nat) (mm : List (Int × Value)) (k : Int) (hx_ : ∀ w, hx.X w → VMap w b mm) (hmo : ∀ ids, envOf ρ ids ps xo = .map (some b)) (hko : ∀ ids, envOf ρ ids ps ko = .int .i64 k)
    (ht : C.P.underlying mt = some (.map kt et)) (hk : C.P.underlying kt = some (.int .i64)) (hz : ∀ w, (zeroValue et).run C.P w = .ok z w)
    (hr : ∀ ids, r.den (ρ.add vs) ids = .tuple #[(vlk mm k).getD z, .bool (vlk mm k).isSome]) (hhp : m'.hp = m.hp) (hfit : hpFits m.c m.hp.length m.hp = true) (hc : (ρ.add vs).cnt = m'.c) (h1 : ∀ v, v ∈ vs.v → v.oneCell' = true)
    (h : t.holds C (ρ.add vs) pre hx L) : (Tree.gen (.lookup mt xo ko true) ty ps m (some r) m' t).holds C ρ pre hx L := by
  refine node_gpure (V := .tuple #[(vlk mm k).getD z, .bool (vlk mm k).isSome]) vs (fun ids w hp hf => ?_) hr hhp hfit hc h1 h
  have hrun := (hx_ w hf.x).lookup (P := C.P) (t := mt) k ht hk (hz w)
  simp only [execOp, hmo, hko, Sem.run_bind, Sem.run_pure, Result.andThen_ok, hrun]
theorem node_vlook1 {mt kt et : TypeId} {xo ko : Operand} {r : SV} {z : Value} (vs : Vals) (b : Nat) (mm : List (Int × Value)) (k : Int) (hx_ : ∀ w, hx.X w → VMap w b mm) (hmo : ∀ ids, envOf ρ ids ps xo = .map (some b)) (hko : ∀ ids, envOf ρ ids ps ko = .int .i64 k)
    (ht : C.P.underlying mt = some (.map kt et)) (hk : C.P.underlying kt = some (.int .i64)) (hz : ∀ w, (zeroValue et).run C.P w = .ok z w)
    (hr : ∀ ids, r.den (ρ.add vs) ids = (vlk mm k).getD z) (hhp : m'.hp = m.hp) (hfit : hpFits m.c m.hp.length m.hp = true) (hc : (ρ.add vs).cnt = m'.c) (h1 : ∀ v, v ∈ vs.v → v.oneCell' = true)
    (h : t.holds C (ρ.add vs) pre hx L) : (Tree.gen (.lookup mt xo ko false) ty ps m (some r) m' t).holds C ρ pre hx L := by
  refine node_gpure (V := (vlk mm k).getD z) vs (fun ids w hp hf => ?_) hr hhp hfit hc h1 h
  have hrun := (hx_ w hf.x).lookup1 (P := C.P) (t := mt) k ht hk (hz w)
  simp only [execOp, hmo, hko, Sem.run_bind, Sem.run_pure, Result.andThen_ok, hrun]
theorem node_vput {mt kt et : TypeId} {xo ko vo : Operand} (b : Nat) (mm : List (Int × Value)) (k : Int) (v : Value) (hown : C.W.heap.size ≤ b ∨ C.M b) (hdis : ¬ rest.F b) (hmo : ∀ ids, envOf ρ ids ps xo = .map (some b)) (hko : ∀ ids, envOf ρ ids ps ko = .int .i64 k) (hvo : ∀ ids, envOf ρ ids ps vo = v)
    (ht : C.P.underlying mt = some (.map kt et)) (hk : C.P.underlying kt = some (.int .i64)) (hhp : m'.hp = m.hp) (hfit : hpFits m.c m.hp.length m.hp = true) (hc : ρ.cnt = m'.c)
    (h : t.holds C ρ pre (rest.and (HX.vmap b (vput mm k v))) L) : (Tree.gen (.mapUpdate mt xo ko vo) ty ps m none m' t).holds C ρ pre (rest.and (HX.vmap b mm)) L := by
  intro ids w hp hf
  unfold GenRun
  obtain ⟨w', hrun, h1, h2⟩ := VMap.update (P := C.P) (t := mt) (show VMap w b mm from hf.x.2) k v ht hk
  simp only [execOp, hmo, hko, hvo, Sem.run_bind, Sem.run_pure, Result.andThen_ok, hrun]
  refine ⟨Vals.nil, ids, rest.and (HX.vmap b (vput mm k v)), rfl, List.prefix_refl _, hf.turn h2 (fun b' e => by cases e; exact ⟨.inr rfl, hown⟩) ⟨rest.loc w w' hf.x.1 fun q hq => h2.block q (hf.sep q (.inl hq)).1 (fun e => hdis (by cases e; exact hq)), h1⟩ (fun k hk => .inl hk) hhp hfit (by rw [Env.add_nil]; exact hc) oneNil, ?_⟩
  rw [Env.add_nil]; exact holds_pre t hp h
theorem node_vdel {mt kt kt2 et : TypeId} {xo ko : Operand} {ac : Go.Call} {r : SV} (hac : ac = { callee := .builtin .delete, args := #[xo, ko], argTypes := #[mt, kt2] }) (b : Nat) (mm : List (Int × Value)) (k : Int) (he : kt2 = kt) (hown : C.W.heap.size ≤ b ∨ C.M b) (hdis : ¬ rest.F b) (hmo : ∀ ids, envOf ρ ids ps xo = .map (some b)) (hko : ∀ ids, envOf ρ ids ps ko = .int .i64 k)
    (ht : C.P.underlying mt = some (.map kt et)) (hk : C.P.underlying kt = some (.int .i64)) (hr : ∀ ids, r.den (ρ.add Vals.nil) ids = .tuple #[]) (hhp : m'.hp = m.hp) (hfit : hpFits m.c m.hp.length m.hp = true) (hc : (ρ.add Vals.nil).cnt = m'.c)
    (h : t.holds C (ρ.add Vals.nil) pre (rest.and (HX.vmap b (vdel mm k))) L) : (Tree.gen (.call ac) ty ps m (some r) m' t).holds C ρ pre (rest.and (HX.vmap b mm)) L := by
  intro ids w hp hf
  subst hac
  subst he
  unfold GenRun
  obtain ⟨w', hrun, h1, h2⟩ := VMap.delete (P := C.P) (t := mt) (show VMap w b mm from hf.x.2) k ty ht hk
  simp only [execOp, resolve, invoke, builtin, hmo, hko, Sem.run_bind, Sem.run_pure, Result.andThen_ok, List.map_toArray, List.map_cons, List.map_nil, hrun]
  exact ⟨Vals.nil, ids, rest.and (HX.vmap b (vdel mm k)), by simp only [Option.map_some, hr], List.prefix_refl _, hf.turn h2 (fun b' e => by cases e; exact ⟨.inr rfl, hown⟩) ⟨rest.loc w w' hf.x.1 fun q hq => h2.block q (hf.sep q (.inl hq)).1 (fun e => hdis (by cases e; exact hq)), h1⟩ (fun k hk => .inl hk) hhp hfit hc oneNil, holds_pre t hp h⟩
end
end Go.Eng

namespace Go.Eng
open Go.RowKit Go.Syn Go.MapKept
set_option linter.unusedVariables false
set_option linter.unusedSimpArgs false
def HX.all (l : List HX) : HX := ⟨fun k => ∃ h ∈ l, h.F k, fun w => ∀ h ∈ l, h.X w, fun w w' hX e h hh => h.loc w w' (hX h hh) fun k hk => e k ⟨h, hh, hk⟩⟩
def HX.obj (F : Nat → Prop) (Q : HX → Prop) : HX := ⟨F, fun w => ∃ h, Q h ∧ h.X w ∧ ∀ k, h.F k → F k, fun w w' hX e => by
  obtain ⟨h, q, x, s⟩ := hX
  exact ⟨h, q, h.loc w w' x fun k hk => e k (s k hk), s⟩⟩
section
variable {C : Cfg} {L : Stack}
theorem Facts.sub {m : Mem} {ρ : Env} {ids : List Nat} {hx hx' : HX} {w : World} (hX : ∀ w, hx.X w → hx'.X w) (hF : ∀ k, hx'.F k → hx.F k) (hf : Facts C m ρ ids hx w) : Facts C m ρ ids hx' w :=
  ⟨hf.len, hf.nod, hf.blk, hf.own, hf.chg, hX w hf.x, fun b hb => hf.sep b (hF b hb), hf.cnt⟩
end
section
variable {C : Cfg} {ρ : Env} {pre : List Nat} {hx rest h0 : HX} {L : Stack} {m m' : Mem} {args : List SV} {r : SV} {t : Tree} {ids : List Nat} {w w' : World} {vs : Vals}
theorem Facts.turnF {F : Nat → Prop} {hx' : HX} (hf : Facts C m ρ ids hx w) (hg : Chg F w w') (hF0 : ∀ b, F b → hx.F b ∧ (C.W.heap.size ≤ b ∨ C.M b)) (hX : hx'.X w') (hF : ∀ b, hx'.F b → (hx.F b ∨ w.heap.size ≤ b) ∧ b < w'.heap.size)
    (hhp : m'.hp = m.hp) (hfit : hpFits m.c m.hp.length m.hp = true) (hc : (ρ.add vs).cnt = m'.c) (h1 : ∀ v, v ∈ vs.v → v.oneCell' = true) : Facts C m' (ρ.add vs) ids hx' w' := by
  refine ⟨by rw [hf.len, hhp], hf.nod, fun k t2 cs2 hk => ?_, hf.own, ?_, hX, ?_, envUp' hf hc h1⟩
  · rw [hhp] at hk
    have hk2 : k < m.hp.length := by
      rcases Nat.lt_or_ge k m.hp.length with q | q
      · exact q
      · rw [List.getElem?_eq_none q] at hk; cases hk
    have hmem := idAt_mem (ids := ids) (n := k) (hf.len ▸ hk2)
    rw [hg.block _ (hf.id_lt hmem) (fun e2 => (hf.sep _ (hF0 _ e2).1).2 hmem)]
    rw [hf.blk k t2 cs2 hk, cellsDen_add hf.cnt.cnt (List.prefix_refl _) hf.len (List.all_eq_true.1 hfit _ (List.mem_of_getElem? hk))]
  · refine ⟨hg.os.trans hf.chg.os, hg.tape.trans hf.chg.tape, hg.output.trans hf.chg.output, Nat.le_trans hf.chg.size hg.size, fun k hk hM => ?_⟩
    rw [hg.block k (Nat.lt_of_lt_of_le hk hf.chg.size) (fun e => ?_)]
    · exact hf.chg.block k hk hM
    · rcases (hF0 _ e).2 with g | g
      · omega
      · exact hM g
  · intro b hb
    obtain ⟨q, q2⟩ := hF b hb
    refine ⟨q2, ?_⟩
    rcases q with q | q
    · exact (hf.sep b q).2
    · intro hm
      have := hf.id_lt hm; omega
theorem node_mut {f : Nat} (AS : List Nat → Array Value) (Q : Vals → HX → Prop) (hargs : ∀ ids, (args.map (SV.den ρ ids)).toArray = AS ids)
    (hcall : ∀ ids w, pre <+: ids → Facts C m ρ ids (rest.and h0) w → Calls C.P f (AS ids) w (fun e w' => ∃ vs h', Q vs h' ∧ e = .returned (r.den (ρ.add vs) ids) ∧ h'.X w' ∧ (∀ k, h'.F k → (h0.F k ∨ w.heap.size ≤ k) ∧ k < w'.heap.size) ∧ Chg h0.F w w'))
    (hdis : ∀ k, h0.F k → ¬ rest.F k ∧ (C.W.heap.size ≤ k ∨ C.M k)) (hhp : m'.hp = m.hp) (hfit : hpFits m.c m.hp.length m.hp = true) (hc : ∀ vs h', Q vs h' → (ρ.add vs).cnt = m'.c ∧ ∀ v, v ∈ vs.v → v.oneCell' = true)
    (h : ∀ vs h', Q vs h' → (∀ k, h'.F k → ¬ rest.F k ∧ (C.W.heap.size ≤ k ∨ C.M k)) → t.holds C (ρ.add vs) pre (rest.and h') L) : (Tree.call f args m r m' t).holds C ρ pre (rest.and h0) L := by
  intro ids w hp hf
  rw [hargs]
  refine (hcall ids w hp hf).mono ?_
  rintro e w' ⟨vs, h', hQ, rfl, hX, hge, hch⟩
  refine ⟨vs, ids, rest.and h', rfl, List.prefix_refl _, hf.turnF (hx' := rest.and h') hch (fun b hb => ⟨.inr hb, (hdis b hb).2⟩) ⟨rest.loc w w' hf.x.1 fun k hk => hch.block k (hf.sep k (.inl hk)).1 fun q => (hdis k q).1 hk, hX⟩ (fun k hk => ?_) hhp hfit (hc _ _ hQ).1 (hc _ _ hQ).2, holds_pre t hp (h vs h' hQ fun k hk => ?_)⟩
  · rcases hk with hk | hk
    · exact ⟨.inl (.inl hk), Nat.lt_of_lt_of_le (hf.sep k (.inl hk)).1 hch.size⟩
    · exact ⟨(hge k hk).1.elim (fun q => .inl (.inr q)) .inr, (hge k hk).2⟩
  · rcases (hge k hk).1 with q | q
    · exact hdis k q
    · exact ⟨fun hF => by have := (hf.sep _ (.inl hF)).1; omega, .inl (Nat.le_trans hf.chg.size q)⟩
end
def kv (e : MapEntry) : Value × Value := (e.key, e.val)
def keyI (e : MapEntry) : Int := match e.key with | .int _ n => n | _ => 0
theorem kv_mem {es : List MapEntry} {m : List (Int × Value)} (h : es.map kv = m.map vent) {e : MapEntry} (he : e ∈ es) : ∃ p, p ∈ m ∧ e.key = .int .i64 p.1 ∧ e.val = p.2 := by
  have : kv e ∈ es.map kv := List.mem_map.2 ⟨e, he, rfl⟩
  rw [h] at this
  obtain ⟨p, hp, e2⟩ := List.mem_map.1 this
  exact ⟨p, hp, (congrArg Prod.fst e2).symm, (congrArg Prod.snd e2).symm⟩
theorem kv_filter {es : List MapEntry} {m : List (Int × Value)} (k : Int) (h : es.map kv = m.map vent) : (es.filter fun e => decide (keyI e ≠ k)).map kv = (vdel m k).map vent := by
  induction es generalizing m with
  | nil =>
    cases m with
    | nil => rfl
    | cons p m => simp at h
  | cons e es ih =>
    cases m with
    | nil => simp at h
    | cons p m =>
      simp only [List.map_cons, List.cons.injEq] at h
      have hk : keyI e = p.1 := by
        have : e.key = .int .i64 p.1 := congrArg Prod.fst h.1
        unfold keyI; rw [this]
      unfold vdel
      rw [List.filter_cons, List.filter_cons, hk]
      split
      · rw [List.map_cons, List.map_cons, h.1]; congr 1; exact ih h.2
      · exact ih h.2
theorem keyI_map {es : List MapEntry} {m : List (Int × Value)} (h : es.map kv = m.map vent) : es.map keyI = m.map (·.1) := by
  have h1 : es.map keyI = (es.map kv).map fun p => match p.1 with | .int _ n => n | _ => 0 := by rw [List.map_map]; rfl
  rw [h1, h, List.map_map]; rfl
structure Rg (w : World) (i b : Nat) (m left : List (Int × Value)) (last : Option (Int × Value)) : Prop where
  ex : ∃ es clock seen since c0, w.heap[b]? = some (.map es clock) ∧ Stamped es clock ∧ es.toList.map kv = m.map vent ∧ w.heap[i]? = some (.mapIter (some b) since seen c0) ∧ (∀ x ∈ es.toList, x.born < since) ∧ since ≤ c0 ∧ since ≤ clock ∧
    (es.toList.filter fun e => !seen.contains e.born).map kv = left.map vent ∧ ∀ p, last = some p → c0 = clock ∧ ∃ (s0 : Array Nat) (e : MapEntry), e ∈ es.toList ∧ seen = s0.push e.born ∧ kv e = vent p
def HX.rng (i b : Nat) (m left : List (Int × Value)) (last : Option (Int × Value)) : HX := ⟨fun k => k = i ∨ k = b, fun w => Rg w i b m left last, fun w w' h e => by
  obtain ⟨es, clock, seen, since, c0, h1, h2, h3, h4, h5⟩ := h
  exact ⟨es, clock, seen, since, c0, (e b (.inr rfl)).trans h1, h2, h3, (e i (.inl rfl)).trans h4, h5⟩⟩
theorem Rg.map {w : World} {i b : Nat} {m left : List (Int × Value)} {last : Option (Int × Value)} (h : Rg w i b m left last) : VMap w b m := by
  obtain ⟨es, clock, seen, since, c0, h1, h2, h3, _⟩ := h
  exact ⟨es, clock, h1, h2, h3⟩
theorem Rg.nodup {w : World} {i b : Nat} {m left : List (Int × Value)} {last : Option (Int × Value)} (h : Rg w i b m left last) : (left.map (·.1)).Nodup ∧ ∀ p ∈ left, p ∈ m := by
  obtain ⟨es, clock, seen, since, c0, h1, h2, h3, h4, h5, h6, h7, h8, _⟩ := h
  have hv := vnodup_of h2 h3
  have e1 := keyI_map h3
  have e2 := keyI_map h8
  refine ⟨?_, fun p hp => ?_⟩
  · rw [← e2]
    rw [← e1] at hv
    exact (List.Sublist.map _ List.filter_sublist).nodup hv
  · have : vent p ∈ left.map vent := List.mem_map.2 ⟨p, hp, rfl⟩
    rw [← h8] at this
    obtain ⟨e, he, e3⟩ := List.mem_map.1 this
    have he2 : e ∈ es.toList := (List.mem_filter.1 he).1
    have : kv e ∈ m.map vent := by rw [← h3]; exact List.mem_map.2 ⟨e, he2, rfl⟩
    obtain ⟨q, hq, e4⟩ := List.mem_map.1 this
    rw [← vent_inj (e4.trans e3)]; exact hq
section
variable {C : Cfg} {ρ : Env} {pre : List Nat} {hx rest : HX} {L : Stack} {m m' : Mem} {ty : Nat} {ps : List (Nat × SV)} {t : Tree}
theorem node_vmake {mt : TypeId} {r : SV} (hr : ∀ v ids, r.den (ρ.add ⟨[], [], [v], [], []⟩) ids = v) (hhp : m'.hp = m.hp) (hfit : hpFits m.c m.hp.length m.hp = true) (hc : ∀ v, (ρ.add ⟨[], [], [v], [], []⟩).cnt = m'.c)
    (h : ∀ b, C.W.heap.size ≤ b → ¬ hx.F b → t.holds C (ρ.add ⟨[], [], [.map (some b)], [], []⟩) pre (hx.and (HX.vmap b [])) L) : (Tree.gen (.makeMap mt none) ty ps m (some r) m' t).holds C ρ pre hx L := by
  intro ids w hp hf
  unfold GenRun
  have hrun := run_makeMap (P := C.P) mt w
  simp only [execOp, Option.map_none, Sem.run_bind, Sem.run_pure, Result.andThen_ok, hrun]
  have hg : w.grownBy (w.alloc (.map #[] 0)) none := ⟨rfl, rfl, rfl, by show w.heap.size ≤ (w.heap.push _).size; simp, fun k hk _ => heap_alloc_old w _ hk⟩
  refine ⟨⟨[], [], [.map (some w.heap.size)], [], []⟩, ids, hx.and (HX.vmap w.heap.size []), ?_, List.prefix_refl _, hf.turn hg (fun b' e => by cases e) ⟨hx.loc _ _ hf.x fun b hb => heap_alloc_old w _ (hf.sep b hb).1, VMap.new w⟩ (fun k hk => ?_) hhp hfit (hc _) (fun v hv => ?_), holds_pre t hp (h _ hf.chg.size (fun q => by have := (hf.sep _ q).1; omega))⟩
  · simp only [Option.map_some, hr]
  · rcases hk with hk | hk
    · exact .inl hk
    · exact .inr ⟨Nat.le_of_eq hk.symm, by rw [show k = w.heap.size from hk]; show w.heap.size < (w.heap.push _).size; simp⟩
  · simp only [List.mem_singleton] at hv; subst hv; rfl
theorem rg_ne {w : World} {i b : Nat} {m left : List (Int × Value)} {last : Option (Int × Value)} (h : Rg w i b m left last) : i ≠ b := by
  obtain ⟨es, clock, seen, since, c0, h1, h2, h3, h4, _⟩ := h
  rintro rfl
  rw [h1] at h4; cases h4
theorem node_vnext {xo : Operand} {r : SV} (i b : Nat) (mm left : List (Int × Value)) (last : Option (Int × Value)) (hi : C.W.heap.size ≤ i) (hdis : ¬ rest.F i) (hmo : ∀ ids, envOf ρ ids ps xo = .pointer (some ⟨i, 0, none⟩)) (hhp : m'.hp = m.hp) (hfit : hpFits m.c m.hp.length m.hp = true)
    (hA : left = [] → ∃ vs : Vals, (∀ ids, r.den (ρ.add vs) ids = .tuple #[.bool false]) ∧ (ρ.add vs).cnt = m'.c ∧ (∀ v, v ∈ vs.v → v.oneCell' = true) ∧ t.holds C (ρ.add vs) pre (rest.and (HX.rng i b mm [] last)) L)
    (hB : ∀ k v, (k, v) ∈ left → (k, v) ∈ mm → ∃ vs : Vals, (∀ ids, r.den (ρ.add vs) ids = .tuple #[.bool true, .int .i64 k, v]) ∧ (ρ.add vs).cnt = m'.c ∧ (∀ v, v ∈ vs.v → v.oneCell' = true) ∧ t.holds C (ρ.add vs) pre (rest.and (HX.rng i b mm (vdel left k) (some (k, v)))) L) :
    (Tree.gen (.next xo false) ty ps m (some r) m' t).holds C ρ pre (rest.and (HX.rng i b mm left last)) L := by
  intro ids w hp hf
  unfold GenRun
  have hR : Rg w i b mm left last := hf.x.2
  have hne := rg_ne hR
  have hnd := hR.nodup
  obtain ⟨es, clock, seen, since, c0, h1, h2, h3, h4, h5, h6, h7, h8, h9⟩ := hR
  rcases run_next_at (P := C.P) w ty i b since c0 seen es clock h4 h1 h5 h6 with ⟨z0, hrun⟩ | ⟨e, he, w1, hw1, hrun⟩
  · simp only [execOp, hmo, Sem.run_bind, Sem.run_pure, Result.andThen_ok, hrun]
    have hl : left = [] := by
      have z1 : (es.toList.filter fun e => !seen.contains e.born) = [] := by
        have : (leftOf es seen).toList = es.toList.filter fun e => !seen.contains e.born := by unfold leftOf; rw [Array.toList_filter]
        rw [← this]; exact List.eq_nil_of_length_eq_zero (by simpa using z0)
      rw [z1] at h8
      exact List.map_eq_nil_iff.1 h8.symm
    obtain ⟨vs, v1, v2, v3, v4⟩ := hA hl
    refine ⟨vs, ids, _, ?_, List.prefix_refl _, hf.turn (grown_none w) (fun b' e => by cases e) hf.x (fun k hk => .inl hk) hhp hfit v2 v3, holds_pre t hp (by rw [hl]; exact v4)⟩
    simp only [Option.map_some, v1]
  · simp only [execOp, hmo, Sem.run_bind, Sem.run_pure, Result.andThen_ok, hrun]
    have he0 : e ∈ es.toList.filter fun e => !seen.contains e.born := by unfold leftOf at he; rwa [Array.toList_filter] at he
    have hee : e ∈ es.toList := (List.mem_filter.1 he0).1
    obtain ⟨p, hp1, hp2, hp3⟩ := kv_mem h8 he0
    have hg : w.grownBy (ChangeMaps.setBlock w1 i (.mapIter (some b) since (seen.push e.born) clock)) (some i) := by
      have : w1.heap[i]? = some (.mapIter (some b) since seen c0) := by rcases hw1 with rfl | rfl <;> exact h4
      have g := vgrown_obj (o' := .mapIter (some b) since (seen.push e.born) clock) this
      rcases hw1 with rfl | rfl
      · exact g
      · exact ⟨g.os, g.tape, g.output, g.size, g.block⟩
    have hlt : i < w1.heap.size := by
      have : i < w.heap.size := (hf.sep i (.inr (.inl rfl))).1
      rcases hw1 with rfl | rfl <;> exact this
    obtain ⟨vs, v1, v2, v3, v4⟩ := hB p.1 p.2 hp1 (hnd.2 p hp1)
    refine ⟨vs, ids, _, ?_, List.prefix_refl _, hf.turn (hx' := rest.and (HX.rng i b mm (vdel left p.1) (some (p.1, p.2)))) hg (fun b' e => by cases e; exact ⟨.inr (.inl rfl), .inl hi⟩) ⟨?_, ?_⟩ (fun k hk => .inl hk) hhp hfit v2 v3, holds_pre t hp v4⟩
    · simp only [Option.map_some, v1, hp2, hp3]
    · exact rest.loc w _ hf.x.1 fun k hk => hg.block k (hf.sep k (.inl hk)).1 fun q => hdis (by cases q; exact hk)
    · refine ⟨es, clock, seen.push e.born, since, clock, (hg.block b (hf.sep b (.inr (.inr rfl))).1 fun q => hne (Option.some.inj q).symm).trans h1, h2, h3, ?_, h5, h7, h7, ?_, ?_⟩
      · show (w1.heap.setIfInBounds i _)[i]? = _
        simp [hlt]
      · have hf2 : (es.toList.filter fun x => !(seen.push e.born).contains x.born) = (es.toList.filter fun x => !seen.contains x.born).filter fun x => decide (keyI x ≠ p.1) := by
          rw [List.filter_filter]
          refine List.filter_congr fun x hx => ?_
          have hke : keyI e = p.1 := by unfold keyI; rw [hp2]
          by_cases hxe : x = e
          · subst hxe
            rw [(con_push seen x.born x.born).2 (.inr rfl), decide_eq_false (by rw [hke]; simp)]; simp
          · have hb2 : x.born ≠ e.born := fun q => hxe (bornEq h2 hee hx q)
            have hk2 : keyI x ≠ p.1 := fun q => by
              have hn2 : (es.toList.map keyI).Nodup := by rw [keyI_map h3]; exact vnodup_of h2 h3
              obtain ⟨j1, j1h⟩ := List.mem_iff_getElem?.1 hx
              obtain ⟨j2, j2h⟩ := List.mem_iff_getElem?.1 hee
              have a1 : (es.toList.map keyI)[j1]? = some p.1 := by rw [List.getElem?_map, j1h]; exact congrArg some q
              have a2 : (es.toList.map keyI)[j2]? = some p.1 := by rw [List.getElem?_map, j2h]; exact congrArg some hke
              have := nodup_idx hn2 a1 a2
              subst this
              rw [j1h] at j2h; exact hxe (Option.some.inj j2h)
            rw [decide_eq_true hk2, Bool.true_and]
            have : (seen.push e.born).contains x.born = seen.contains x.born := by
              rw [Bool.eq_iff_iff, con_push]
              exact ⟨fun q => q.elim id fun q => absurd q hb2, .inl⟩
            rw [this]
        rw [hf2]
        exact kv_filter _ h8
      · rintro q q2
        obtain rfl : (p.1, p.2) = q := Option.some.inj q2
        exact ⟨rfl, seen, e, hee, rfl, by unfold kv vent; rw [hp2, hp3]⟩
theorem node_ventry {xo : Operand} {r : SV} (vs : Vals) (i b : Nat) (mm left : List (Int × Value)) (k : Int) (v : Value) (hmo : ∀ ids, envOf ρ ids ps xo = .pointer (some ⟨i, 0, none⟩)) (hr : ∀ ids, r.den (ρ.add vs) ids = .tuple #[.int .i64 k, v]) (hhp : m'.hp = m.hp) (hfit : hpFits m.c m.hp.length m.hp = true) (hc : (ρ.add vs).cnt = m'.c) (h1 : ∀ v, v ∈ vs.v → v.oneCell' = true)
    (h : t.holds C (ρ.add vs) pre (rest.and (HX.rng i b mm left (some (k, v)))) L) : (Tree.gen (.entry xo) ty ps m (some r) m' t).holds C ρ pre (rest.and (HX.rng i b mm left (some (k, v)))) L := by
  refine node_gpure (V := .tuple #[.int .i64 k, v]) vs (fun ids w hp hf => ?_) hr hhp hfit hc h1 h
  obtain ⟨es, clock, seen, since, c0, g1, g2, g3, g4, g5, g6, g7, g8, g9⟩ := (show Rg w i b mm left (some (k, v)) from hf.x.2)
  obtain ⟨rfl, s0, e, he, rfl, hke⟩ := g9 _ rfl
  have hrun := run_entry_at (P := C.P) w i b since s0 es c0 e g4 g1 he g2.2.1
  have e1 : e.key = .int .i64 k := congrArg Prod.fst hke
  have e2 : e.val = v := congrArg Prod.snd hke
  simp only [execOp, hmo, Sem.run_bind, Sem.run_pure, Result.andThen_ok, hrun, e1, e2]
end
end Go.Eng

namespace Go.Eng
open Go.RowKit Go.Syn Go.MapKept
set_option linter.unusedVariables false
set_option linter.unusedSimpArgs false
section
variable {α β : Type}
def mlk (m : List (Int × α)) (k : Int) : Option α := (m.find? (fun p => p.1 == k)).map (·.2)
def mput (m : List (Int × α)) (k : Int) (v : α) : List (Int × α) := if (mlk m k).isSome then m.map (fun p => if p.1 = k then (k, v) else p) else m ++ [(k, v)]
def mdel (m : List (Int × α)) (k : Int) : List (Int × α) := m.filter fun p => decide (p.1 ≠ k)
def mmap (f : α → β) (m : List (Int × α)) : List (Int × β) := m.map fun p => (p.1, f p.2)
def NdK (m : List (Int × α)) : Prop := (m.map (·.1)).Nodup
theorem mlk_nil (k : Int) : mlk ([] : List (Int × α)) k = none := rfl
theorem mlk_cons (p : Int × α) (m : List (Int × α)) (k : Int) : mlk (p :: m) k = if p.1 = k then some p.2 else mlk m k := by
  unfold mlk
  rw [List.find?_cons]
  by_cases h : p.1 = k
  · simp [h]
  · rw [if_neg h, show (p.1 == k) = false by simpa using h]
theorem mlk_map (f : α → β) (m : List (Int × α)) (k : Int) : mlk (mmap f m) k = (mlk m k).map f := by
  induction m with
  | nil => rfl
  | cons p m ih =>
    show mlk ((p.1, f p.2) :: mmap f m) k = _
    rw [mlk_cons, mlk_cons]
    by_cases h : p.1 = k
    · simp [h]
    · simp [h, ih]
theorem mput_map (f : α → β) (m : List (Int × α)) (k : Int) (v : α) : mput (mmap f m) k (f v) = mmap f (mput m k v) := by
  unfold mput
  rw [mlk_map]
  cases h : mlk m k with
  | none => simp [mmap]
  | some x =>
    simp only [Option.map_some, Option.isSome_some, if_true]
    unfold mmap
    rw [List.map_map, List.map_map]
    refine List.map_congr_left fun p _ => ?_
    simp only [Function.comp]
    by_cases e : p.1 = k
    · simp [e]
    · simp [e]
theorem mdel_map (f : α → β) (m : List (Int × α)) (k : Int) : mdel (mmap f m) k = mmap f (mdel m k) := by
  unfold mdel mmap
  rw [List.filter_map]; rfl
theorem keys_map (f : α → β) (m : List (Int × α)) : (mmap f m).map (·.1) = m.map (·.1) := by unfold mmap; rw [List.map_map]; rfl
theorem mlk_none_iff {m : List (Int × α)} {k : Int} : mlk m k = none ↔ ∀ p ∈ m, p.1 ≠ k := by
  induction m with
  | nil => simp [mlk_nil]
  | cons p m ih =>
    rw [mlk_cons]
    by_cases h : p.1 = k
    · simp [h]
    · simp [h, ih]
theorem mlk_mem {m : List (Int × α)} {k : Int} {v : α} (h : mlk m k = some v) : (k, v) ∈ m := by
  induction m with
  | nil => cases h
  | cons p m ih =>
    rw [mlk_cons] at h
    split at h
    · rename_i e; cases h; rw [← e]; exact List.mem_cons_self
    · exact List.mem_cons_of_mem _ (ih h)
theorem mem_mlk {m : List (Int × α)} {k : Int} {v : α} (hn : NdK m) (h : (k, v) ∈ m) : mlk m k = some v := by
  induction m with
  | nil => cases h
  | cons p m ih =>
    simp only [NdK, List.map_cons, List.nodup_cons] at hn
    rw [mlk_cons]
    rcases List.mem_cons.1 h with rfl | h
    · simp
    · rw [if_neg fun e => hn.1 (List.mem_map.2 ⟨(k, v), h, e.symm⟩)]
      exact ih hn.2 h
theorem mlk_put (m : List (Int × α)) (k : Int) (v : α) (j : Int) : mlk (mput m k v) j = if j = k then some v else mlk m j := by
  unfold mput
  cases h : mlk m k with
  | none =>
    simp only [Option.isSome_none, Bool.false_eq_true, if_false]
    induction m with
    | nil => rw [List.nil_append, mlk_cons, mlk_nil]; by_cases e : j = k <;> simp [e, Ne.symm] <;> omega
    | cons p m ih =>
      rw [mlk_cons] at h
      split at h
      · cases h
      rename_i hpk
      rw [List.cons_append, mlk_cons, mlk_cons, ih h]
      by_cases e : p.1 = j
      · rw [if_pos e, if_pos e, if_neg (by rintro rfl; exact hpk e)]
      · rw [if_neg e, if_neg e]
  | some x =>
    simp only [Option.isSome_some, if_true]
    by_cases e : j = k
    · subst e
      rw [if_pos rfl]
      induction m with
      | nil => cases h
      | cons p m ih =>
        rw [mlk_cons] at h
        rw [List.map_cons, mlk_cons]
        split at h
        · rename_i e; rw [if_pos e]; simp
        · rename_i e; rw [if_neg e, if_neg e]; exact ih h
    · rw [if_neg e]
      clear h
      induction m with
      | nil => rfl
      | cons p m ih =>
        rw [List.map_cons, mlk_cons, mlk_cons, ih]
        by_cases q : p.1 = k
        · rw [if_pos q, if_neg (show ¬ k = j from fun r => e r.symm), if_neg (by rw [q]; exact fun r => e r.symm)]
        · rw [if_neg q]
theorem mput_mem {m : List (Int × α)} {k : Int} {v : α} {p : Int × α} (h : p ∈ mput m k v) : p = (k, v) ∨ (p ∈ m ∧ p.1 ≠ k) := by
  unfold mput at h
  split at h
  · obtain ⟨q, hq, rfl⟩ := List.mem_map.1 h
    by_cases e : q.1 = k
    · rw [if_pos e]; exact .inl rfl
    · rw [if_neg e]; exact .inr ⟨hq, e⟩
  · rename_i hn
    have hn : mlk m k = none := by simpa using hn
    rcases List.mem_append.1 h with h | h
    · exact .inr ⟨h, mlk_none_iff.1 hn p h⟩
    · exact .inl (List.mem_singleton.1 h)
theorem NdK.del {m : List (Int × α)} (h : NdK m) (k : Int) : NdK (mdel m k) := (List.Sublist.map _ List.filter_sublist).nodup h
theorem NdK.filter {m : List (Int × α)} (h : NdK m) (f : Int × α → Bool) : NdK (m.filter f) := (List.Sublist.map _ List.filter_sublist).nodup h
theorem NdK.put {m : List (Int × α)} (h : NdK m) (k : Int) (v : α) : NdK (mput m k v) := by
  unfold mput
  split
  · have : (m.map fun p => if p.1 = k then (k, v) else p).map (·.1) = m.map (·.1) := by
      rw [List.map_map]
      refine List.map_congr_left fun p _ => ?_
      simp only [Function.comp]
      by_cases e : p.1 = k
      · simp [e]
      · simp [e]
    unfold NdK; rw [this]; exact h
  · rename_i hn
    have hn : mlk m k = none := by simpa using hn
    unfold NdK
    rw [List.map_append]
    refine List.nodup_append.2 ⟨h, by simp, ?_⟩
    intro a ha b hb
    simp only [List.map_cons, List.map_nil, List.mem_singleton] at hb
    subst hb
    obtain ⟨p, hp, rfl⟩ := List.mem_map.1 ha
    exact mlk_none_iff.1 hn p hp
theorem mput_len (m : List (Int × α)) (k : Int) (v : α) : (mput m k v).length = if (mlk m k).isSome then m.length else m.length + 1 := by
  unfold mput
  split
  · rw [List.length_map]
  · rw [List.length_append]; rfl
theorem mdel_in {m : List (Int × α)} {k : Int} {p : Int × α} : p ∈ mdel m k ↔ p ∈ m ∧ p.1 ≠ k := by unfold mdel; simp
theorem vlk_is (m : List (Int × Value)) (k : Int) : vlk m k = mlk m k := rfl
theorem vput_is (m : List (Int × Value)) (k : Int) (v : Value) : vput m k v = mput m k v := rfl
theorem vdel_is (m : List (Int × Value)) (k : Int) : vdel m k = mdel m k := rfl
end
end Go.Eng

namespace Go.Eng
open Go.RowKit Go.Syn Go.MapKept
set_option linter.unusedVariables false
set_option linter.unusedSimpArgs false
theorem eq_ptrnil {P : Program} {pt et : TypeId} (a : Option Addr) (ht : P.underlying pt = some (.pointer et)) (w : World) : (Op.equal pt (.pointer a) (.pointer none)).run P w = .ok a.isNone w := by
  show (Op.equalIn (9999 + 1) pt (.pointer a) (.pointer none)).run P w = _
  unfold Op.equalIn
  cases a <;> simp [run_underlying ht, Result.andThen]
section
variable {C : Cfg} {ρ : Env} {pre : List Nat} {hx rest : HX} {L : Stack} {m m' : Mem} {ty : Nat} {ps : List (Nat × SV)} {t : Tree}
theorem node_pnil {pt et : TypeId} {xo yo : Operand} {fl : TypeId} {r : SV} (a : Option Addr) (vs : Vals) (ht : C.P.underlying pt = some (.pointer et)) (hxo : ∀ ids, envOf ρ ids ps xo = .pointer a) (hyo : ∀ ids, envOf ρ ids ps yo = .pointer none)
    (hr : ∀ ids, r.den (ρ.add vs) ids = .bool a.isNone) (hhp : m'.hp = m.hp) (hfit : hpFits m.c m.hp.length m.hp = true) (hc : (ρ.add vs).cnt = m'.c) (h1 : ∀ v, v ∈ vs.v → v.oneCell' = true)
    (h : t.holds C (ρ.add vs) pre hx L) : (Tree.gen (.binOp .eql pt xo yo fl) ty ps m (some r) m' t).holds C ρ pre hx L := by
  refine node_bin (x := .pointer a) (y := .pointer none) (V := .bool a.isNone) vs hxo hyo (fun w => by simp [eqGuard]) (fun w => ?_) hr hhp hfit hc h1 h
  show ((do pure (Value.bool ((← Op.equal pt (.pointer a) (.pointer none))))) : Sem Value).run C.P w = _
  simp only [Sem.run_bind, eq_ptrnil a ht w, Result.andThen_ok, Sem.run_pure]
theorem node_vrangeX {mt kt et : TypeId} {xo : Operand} {r : SV} (b : Nat) (mm : List (Int × Value)) (hx_ : ∀ w, hx.X w → VMap w b mm) (hb : hx.F b) (hmo : ∀ ids, envOf ρ ids ps xo = .map (some b)) (ht : C.P.underlying mt = some (.map kt et))
    (hr : ∀ v ids, r.den (ρ.add ⟨[], [], [v], [], []⟩) ids = v) (hhp : m'.hp = m.hp) (hfit : hpFits m.c m.hp.length m.hp = true) (hc : ∀ v, (ρ.add ⟨[], [], [v], [], []⟩).cnt = m'.c)
    (h : ∀ i, C.W.heap.size ≤ i → ¬ hx.F i → t.holds C (ρ.add ⟨[], [], [.pointer (some ⟨i, 0, none⟩)], [], []⟩) pre (hx.and (HX.rng i b mm mm none)) L) : (Tree.gen (.range mt xo) ty ps m (some r) m' t).holds C ρ pre hx L := by
  intro ids w hp hf
  unfold GenRun
  obtain ⟨es, clock, h1, h2, h3⟩ := hx_ w hf.x
  have hrun := run_range_map (P := C.P) w mt kt et b es clock ht h1
  simp only [execOp, hmo, Sem.run_bind, Sem.run_pure, Result.andThen_ok, hrun]
  have hg : w.grownBy (w.alloc (.mapIter (some b) clock #[] clock)) none := ⟨rfl, rfl, rfl, by show w.heap.size ≤ (w.heap.push _).size; simp, fun k hk _ => heap_alloc_old w _ hk⟩
  have hold : ∀ k, hx.F k → (w.alloc (.mapIter (some b) clock #[] clock)).heap[k]? = w.heap[k]? := fun k hk => heap_alloc_old w _ (hf.sep k hk).1
  refine ⟨⟨[], [], [.pointer (some ⟨w.heap.size, 0, none⟩)], [], []⟩, ids, _, ?_, List.prefix_refl _, hf.turn (hx' := hx.and (HX.rng w.heap.size b mm mm none)) hg (fun b' e => by cases e) ⟨hx.loc _ _ hf.x fun k hk => hold k hk, ?_⟩ (fun k hk => ?_) hhp hfit (hc _) (fun v hv => ?_), holds_pre t hp (h w.heap.size hf.chg.size (fun q => by have := (hf.sep _ q).1; omega))⟩
  · simp only [Option.map_some, hr]
  · refine ⟨es, clock, #[], clock, clock, (hold b hb).trans h1, h2, h3, heap_alloc_new _ _, h2.1, Nat.le_refl _, Nat.le_refl _, ?_, fun p hp => by cases hp⟩
    rw [List.filter_eq_self.2 (fun e _ => by simp)]; exact h3
  · rcases hk with hk | hk | hk
    · exact .inl hk
    · exact .inr ⟨Nat.le_of_eq hk.symm, by rw [show k = w.heap.size from hk]; show w.heap.size < (w.heap.push _).size; simp⟩
    · exact .inl (by rw [show k = b from hk]; exact hb)
  · simp only [List.mem_singleton] at hv; subst hv; rfl
end
end Go.Eng

namespace Go.Eng
open Go.RowKit Go.Syn Go.MapKept
set_option linter.unusedVariables false
set_option linter.unusedSimpArgs false
structure Tw (w : World) (sz e : Nat) (a : Option Addr) (n cap : Nat) (xs : List Value) : Prop where
  len : xs.length = n * sz
  le : n ≤ cap
  ex : cap ≠ 0 → ∃ (g off : Nat) (cur : List Value), a = some ⟨g, off * sz, none⟩ ∧ w.heap[g]? = some (.cells cur.toArray e (0, 0)) ∧ cap ≤ maxLen ∧ cur.length = (off + cap) * sz ∧ (cur.drop (off * sz)).take (n * sz) = xs
def HX.tw (sz e : Nat) (a : Option Addr) (n cap : Nat) (xs : List Value) : HX := ⟨fun k => cap ≠ 0 ∧ abk a = some k, fun w => Tw w sz e a n cap xs, fun w w' h eq => ⟨h.len, h.le, fun hc => by
  obtain ⟨g, off, cur, rfl, h2, h3⟩ := h.ex hc
  exact ⟨g, off, cur, rfl, (eq g ⟨hc, rfl⟩).trans h2, h3⟩⟩⟩
theorem HX.tw_nil (sz e : Nat) (a : Option Addr) (w : World) : (HX.tw sz e a 0 0 []).X w := ⟨by simp, Nat.le_refl _, fun h => absurd rfl h⟩
theorem rw_tw {sz e n cap : Nat} {a : Option Addr} {xs : List Value} {w : World} (h : (HX.rw sz e a n cap xs).X w) : (HX.tw sz e a n cap xs).X w := ⟨rw_len h, (rw_le h).1, fun hc => by
  obtain ⟨g, cur, rfl, _, h2, h3, h4, h5, h6⟩ := rw_open h hc
  exact ⟨g, 0, cur, by rw [Nat.zero_mul], h2, h4, by rw [Nat.zero_add]; exact h5, by rw [Nat.zero_mul, List.drop_zero]; exact h6⟩⟩
theorem tw_lt {sz e n cap : Nat} {a : Option Addr} {xs : List Value} {w : World} (h : (HX.tw sz e a n cap xs).X w) : ∀ k, (HX.tw sz e a n cap xs).F k → k < w.heap.size := fun k hk => by
  obtain ⟨g, off, cur, rfl, h2, _⟩ := h.ex hk.1
  have : g = k := Option.some.inj hk.2
  subst this
  rcases Nat.lt_or_ge g w.heap.size with q | q
  · exact q
  · rw [Array.getElem?_eq_none q] at h2; cases h2
theorem tw_cell {sz e n cap g off : Nat} {cur xs : List Value} {w : World} (h2 : w.heap[g]? = some (.cells cur.toArray e (0, 0))) (h5 : (cur.drop (off * sz)).take (n * sz) = xs) {j : Nat} {u : Value} (hj : xs[j]? = some u) : w.cell? ⟨g, off * sz + j, none⟩ = some u := by
  rw [cells_blk h2]
  rw [← h5, List.getElem?_take] at hj
  split at hj
  · rw [List.getElem?_drop] at hj; exact hj
  · cases hj
theorem tw_cells {sz e n cap : Nat} {a : Option Addr} {xs : List Value} {w : World} (h : (HX.tw sz e a n cap xs).X w) : Cells w a xs := fun h0 => by
  have hl := h.len
  have hc : cap ≠ 0 := fun q => by
    have := h.le
    rw [show n = 0 by omega] at hl; simp at hl; rw [hl] at h0; simp at h0
  obtain ⟨g, off, cur, rfl, h2, h3, h4, h5⟩ := h.ex hc
  exact ⟨rfl, tw_lt h g ⟨hc, rfl⟩, fun i u hi => tw_cell (n := n) (cap := cap) h2 h5 hi⟩
section
variable {P : Program}
theorem run_tw (w : World) (t ty e : TypeId) (i : TypeInfo) (z : Value) (sz bytes : Nat) (ht : P.underlying t = some (.slice e)) (hi : P.info? e = some i) (hz : i.zero = some z) (hsize : i.size = sz) (hby : i.bytes = bytes) (hzs : z.cells.size = sz) (hsz : 0 < sz)
    (a : Option Addr) (n cap : Nat) (xs : List Value) (hrow : (HX.tw sz e a n cap xs).X w) (src : Addr) (m c : Nat) (news : List Value) (hm : 0 < m) (hl : news.length = m * sz) (hnews : ∀ j u, news[j]? = some u → w.cell? (src.add j) = some u) (h1 : ∀ u ∈ news, u.oneCell' = true)
    (h63 : n + m ≤ maxLen) (hbytes : (n + m) * bytes ≤ 140737488355328) :
    ∃ a' cap' w', (Builtin.append_ #[t, t] ty #[.slice a n cap, .slice (some src) m c]).run P w = .ok (.slice a' (n + m) cap') w' ∧ cap' ≠ 0 ∧ (HX.tw sz e a' (n + m) cap' (xs ++ news)).X w' ∧
      w.grownBy w' (if cap = 0 then none else abk a) ∧ ((cap ≠ 0 ∧ abk a' = abk a) ∨ ∃ g, abk a' = some g ∧ w.heap.size ≤ g) := by
  by_cases hc : cap = 0
  · subst hc
    have hn := hrow.le
    have hlen := hrow.len
    obtain rfl : n = 0 := by omega
    obtain rfl : xs = [] := by simpa using hlen
    obtain ⟨a', cap', w', h2, h3, h4, h5, h6⟩ := run_rw (P := P) w t ty e i z sz bytes ht hi hz hsize hby hzs hsz a 0 0 [] (HX.rw_nil _ _ _ _) src m c news hm hl hnews h1 h63 hbytes
    exact ⟨a', cap', w', h2, h3, rw_tw h4, h5, h6⟩
  · obtain ⟨g, off, cur, rfl, h2, h3, h4, h5⟩ := hrow.ex hc
    have hle := hrow.le
    have hlen := hrow.len
    have hmul : ∀ {x y : Nat}, x ≤ y → x * sz ≤ y * sz := fun h => Nat.mul_le_mul_right _ h
    rw [if_neg hc]
    by_cases hroom : n + m ≤ cap
    · have hr := run_append_room_cells (P := P) w t ty e i ht hi g (off * sz) n cap src m c news (by rw [hsize]; exact hl) hnews h1 hroom
      have e1 : off * sz + n * sz + news.length ≤ cur.length := by
        rw [h4, hl, ← Nat.add_mul, ← Nat.add_mul]
        exact hmul (by omega)
      rw [hsize] at hr
      have hr := hr (fun j hj => by rw [cells_blk h2, List.getElem?_eq_getElem (by omega)]; rfl) (fun j hj => frozen_of_row w g _ cur.toArray e h2)
      obtain ⟨g1, g2⟩ := setCells_blk news (off * sz + n * sz) cur w h2 e1
      refine ⟨_, _, _, hr, hc, ⟨by rw [List.length_append, hlen, hl, Nat.add_mul], hroom, fun _ => ⟨g, off, _, rfl, g1, h3, by rw [spl_len e1]; exact h4, ?_⟩⟩, g2, .inl ⟨hc, rfl⟩⟩
      unfold spl
      have a1 : min (off * sz + n * sz) cur.length = off * sz + n * sz := by omega
      have hx : (cur.take (off * sz + n * sz)).drop (off * sz) = xs := by
        rw [List.drop_take, show off * sz + n * sz - off * sz = n * sz by omega]; exact h5
      rw [List.append_assoc, List.drop_append_of_le_length (by rw [List.length_take]; omega), hx, Nat.add_mul, ← hlen, ← hl, ← List.append_assoc, ← List.length_append]
      exact List.take_left
    · have hcells : ∀ j u, xs[j]? = some u → w.cell? ((⟨g, off * sz, none⟩ : Addr).add j) = some u := fun j u hj => by
        rw [Go.WideShapes.add_plain]
        exact tw_cell (n := n) (cap := cap) h2 h5 hj
      obtain ⟨v', w', hr, ho, hg⟩ := run_append_arg_grows (P := P) w t ty e i z sz bytes ht hi hz hsize hby hzs hsz ⟨g, off * sz, none⟩ n cap xs hlen hcells src m c news hl hnews (by omega) h63 hbytes
      rcases ho.2 with ⟨q, q2⟩ | ⟨g', c', cur', rfl, hb, hgk, hn, hcm, hsz', htk⟩
      · omega
      · have hc' : c' ≠ 0 := by omega
        refine ⟨some ⟨g', 0, none⟩, c', w', hr, hc', rw_tw ?_, ?_, .inr ⟨g', rfl, hb⟩⟩
        · have := rw_shut (sz := sz) (e := e) (n := n + m) (cap := c') (g := g') (cur := cur'.toList) (w := w') hc' (by simpa using hgk) hn hcm (by simpa using hsz')
          rwa [htk] at this
        · exact ⟨hg.os, hg.tape, hg.output, hg.size, fun k hk _ => hg.block k hk (fun q => by cases q)⟩
end
section
variable {C : Cfg} {ρ : Env} {pre : List Nat} {hx hx' rest : HX} {L : Stack} {m m' : Mem} {ty : Nat} {ps : List (Nat × SV)} {t : Tree} {ids : List Nat} {w w' : World} {args : List SV} {r : SV}
theorem node_pusht {st e : TypeId} {so xo : Operand} {ac : Go.Call} {z : Value} {sz bytes : Nat} (hac : ac = { callee := .builtin .append, args := #[so, xo], argTypes := #[st, st] }) (ht : C.P.underlying st = some (.slice e)) (hinfo : (C.P.info? e).map (fun i => (i.zero, i.size, i.bytes)) = some (some z, sz, bytes)) (hz : z.cells.size = sz) (hsz : 0 < sz)
    (a : Option Addr) (n cap : Nat) (xs vs : List Value) (bn : Nat) {e2 : Nat} {lvs : List LV} (hso : ∀ ids, envOf ρ ids ps so = .slice a n cap) (hxo : ∀ ids, envOf ρ ids ps xo = .slice (some ⟨idAt ids bn, 0, none⟩) 1 1) (hn : m.hp[bn]? = some (e2, lvs)) (hlv : ∀ ids, cellsDen ρ ids lvs = vs) (hvl : vs.length = sz) (hv : ∀ v ∈ vs, v.oneCell' = true)
    (hdis : ∀ k, cap ≠ 0 → abk a = some k → ¬ rest.F k) (hM : ∀ k, cap ≠ 0 → abk a = some k → C.W.heap.size ≤ k ∨ C.M k) (h63 : n + 1 ≤ maxLen) (hbytes : (n + 1) * bytes ≤ 140737488355328)
    (hr : ∀ a' cap' ids, r.den (ρ.add ⟨[], [], [], [n + 1, cap'], [a']⟩) ids = .slice a' (n + 1) cap') (hhp : m'.hp = m.hp) (hfit : hpFits m.c m.hp.length m.hp = true) (hc : ∀ a' cap', (ρ.add ⟨[], [], [], [n + 1, cap'], [a']⟩).cnt = m'.c)
    (h : ∀ a' cap', cap' ≠ 0 → (∀ k, abk a' = some k → ¬ rest.F k) → ((cap ≠ 0 ∧ abk a' = abk a) ∨ ∃ g, abk a' = some g ∧ C.W.heap.size ≤ g ∧ ¬ (rest.and (HX.tw sz e a n cap xs)).F g) → t.holds C (ρ.add ⟨[], [], [], [n + 1, cap'], [a']⟩) pre (rest.and (HX.tw sz e a' (n + 1) cap' (xs ++ vs))) L) :
    (Tree.gen (.call ac) ty ps m (some r) m' t).holds C ρ pre (rest.and (HX.tw sz e a n cap xs)) L := by
  intro ids w hp hf
  subst hac
  unfold GenRun
  obtain ⟨i0, hi, hz0, hz1, hz2⟩ := info_parts hinfo
  have hrow0 : (HX.tw sz e a n cap xs).X w := hf.x.2
  have hblk0 := hf.blk bn e2 lvs hn
  rw [hlv] at hblk0
  have hnews : ∀ j u, vs[j]? = some u → w.cell? ((⟨idAt ids bn, 0, none⟩ : Addr).add j) = some u := fun j u hj => by
    have := cells_blk (o := 0) hblk0 j
    rw [Go.WideShapes.add_plain, this, Nat.zero_add]
    exact hj
  obtain ⟨a', cap', w', hrun, hc0, hrow, hg, hblk⟩ := run_tw (P := C.P) w st ty e i0 z sz bytes ht hi hz0 hz1 hz2 hz hsz a n cap xs hrow0 ⟨idAt ids bn, 0, none⟩ 1 1 vs (by decide) (by omega) hnews hv h63 hbytes
  have hlt : ∀ k, abk a' = some k → k < w'.heap.size := fun k hk => tw_lt hrow k ⟨hc0, hk⟩
  have hrow1 : ∀ b, (if cap = 0 then none else abk a) = some b → cap ≠ 0 ∧ abk a = some b := fun b hb => by
    by_cases q : cap = 0
    · rw [if_pos q] at hb; cases hb
    · rw [if_neg q] at hb; exact ⟨q, hb⟩
  have hdis' : ∀ k, abk a' = some k → ¬ rest.F k := fun k hk hF => by
    rcases hblk with ⟨q, q1⟩ | ⟨g, q1, q2⟩
    · exact hdis k q (by rw [← q1]; exact hk) hF
    · rw [q1] at hk; cases hk
      have := (hf.sep _ (.inl hF)).1; omega
  simp only [execOp, resolve, invoke, builtin, hso, hxo, Sem.run_bind, Sem.run_pure, Result.andThen_ok, List.map_toArray, List.map_cons, List.map_nil, hrun]
  refine ⟨⟨[], [], [], [n + 1, cap'], [a']⟩, ids, rest.and (HX.tw sz e a' (n + 1) cap' (xs ++ vs)), ?_, List.prefix_refl _, hf.turn (hx' := rest.and (HX.tw sz e a' (n + 1) cap' (xs ++ vs))) hg (fun b e => ?_) ⟨?_, hrow⟩ (fun k hk => ?_) hhp hfit (hc _ _) oneNil, holds_pre t hp (h a' cap' hc0 hdis' (hblk.imp_right fun ⟨g, q1, q2⟩ => ⟨g, q1, Nat.le_trans hf.chg.size q2, fun q => by have := (hf.sep _ q).1; omega⟩))⟩
  · simp only [Option.map_some, hr]
  · exact ⟨.inr (hrow1 b e), hM b (hrow1 b e).1 (hrow1 b e).2⟩
  · refine rest.loc w w' hf.x.1 fun k hk => hg.block k (hf.sep k (.inl hk)).1 fun q => ?_
    obtain ⟨q1, q2⟩ := hrow1 k q.symm
    exact hdis k q1 q2 hk
  · rcases hk with hk | hk
    · exact .inl (.inl hk)
    · rcases hblk with ⟨q, q1⟩ | ⟨g, q1, q2⟩
      · exact .inl (.inr ⟨q, by rw [← q1]; exact hk.2⟩)
      · have : g = k := Option.some.inj (q1.symm.trans hk.2)
        subst this
        exact .inr ⟨q2, hlt _ q1⟩
end
end Go.Eng
namespace Go.Eng
open Go.RowKit Go.Syn Go.MapKept
set_option linter.unusedVariables false
set_option linter.unusedSimpArgs false
theorem tw_tail {sz e n cap : Nat} {a : Option Addr} {xs : List Value} {w : World} (h : (HX.tw sz e a n cap xs).X w) (h1 : 1 ≤ n) : (HX.tw sz e (sliA a 1 cap sz) (n - 1) (cap - 1) (xs.drop sz)).X w := by
  obtain ⟨hl, hle, hx⟩ := h
  have hmul : (n - 1) * sz = n * sz - sz := by rw [Nat.sub_mul, Nat.one_mul]
  refine ⟨by rw [List.length_drop, hl, hmul], by omega, fun hc => ?_⟩
  obtain ⟨g, off, cur, rfl, h2, h3, h4, h5⟩ := hx (by omega)
  refine ⟨g, off + 1, cur, ?_, h2, by omega, by rw [h4]; congr 1; omega, ?_⟩
  · unfold sliA
    rw [if_neg (by omega), Option.map_some, Go.WideShapes.add_plain, Nat.one_mul, Nat.add_mul, Nat.one_mul]
  · rw [← h5, List.drop_take, List.drop_drop, hmul, Nat.add_mul, Nat.one_mul]
theorem tw_tail_F {sz e n cap : Nat} {a : Option Addr} {xs : List Value} {k : Nat} (h : (HX.tw sz e (sliA a 1 cap sz) (n - 1) (cap - 1) (xs.drop sz)).F k) : (HX.tw sz e a n cap xs).F k := by
  refine ⟨fun q => h.1 (by omega), ?_⟩
  have h2 := h.2
  unfold sliA at h2
  split at h2
  · exact h2
  · cases a with
    | none => cases h2
    | some x =>
      have : (x.add (1 * sz)).block = x.block := by unfold Addr.add; split <;> rfl
      rw [← h2]; show some x.block = some (x.add (1 * sz)).block; rw [this]
def Dj (xs : List HX) : Prop := ∀ (i j : Nat) (a b : HX), xs[i]? = some a → xs[j]? = some b → i ≠ j → ∀ k, a.F k → ¬ b.F k
theorem Dj.set {xs : List HX} (h : Dj xs) {i : Nat} {a a' : HX} (hi : xs[i]? = some a) (hF : ∀ k, a'.F k → a.F k ∨ ∀ b ∈ xs, ¬ b.F k) : Dj (xs.set i a') := by
  have key : ∀ (j : Nat) (b : HX), xs[j]? = some b → i ≠ j → ∀ k, a'.F k → ¬ b.F k := fun j b hj hij k hk hb => by
    rcases hF k hk with q | q
    · exact h i j a b hi hj hij k q hb
    · exact q b (List.mem_of_getElem? hj) hb
  intro p q x y hx hy hpq k hk hk2
  rw [List.getElem?_set] at hx hy
  split at hx
  · rename_i e
    subst e
    rw [if_neg hpq] at hy
    split at hx
    · cases hx
      exact key q y hy hpq k hk hk2
    · cases hx
  · rename_i e
    split at hy
    · rename_i e2
      subst e2
      split at hy
      · cases hy
        exact key p x hx e k hk2 hk
      · cases hy
    · exact h p q x y hx hy hpq k hk hk2
section
variable {C : Cfg} {ρ : Env} {pre : List Nat} {hx hx' rest h0 : HX} {L : Stack} {m m' : Mem} {ty : Nat} {ps : List (Nat × SV)} {t : Tree} {ids : List Nat} {w w' : World} {args : List SV} {r : SV} {f : Nat}
theorem node_touch {t0 : Nat} {cs0 cs' : List LV} {hp0 : List (Nat × List LV)} (AS : List Nat → Array Value) (Q : Vals → HX → Prop) (hhp : m.hp = (t0, cs0) :: hp0) (hhp' : m'.hp = (t0, cs') :: hp0) (hargs : ∀ ids, (args.map (SV.den ρ ids)).toArray = AS ids)
    (hcall : ∀ ids w, pre <+: ids → Facts C m ρ ids (rest.and h0) w → Calls C.P f (AS ids) w (fun e w' => ∃ vs h', Q vs h' ∧ e = .returned (r.den (ρ.add vs) ids) ∧ w'.heap[idAt ids 0]? = some (.cells (cellsDen (ρ.add vs) ids cs').toArray t0 (0, 0)) ∧ h'.X w' ∧ (∀ k, h'.F k → (h0.F k ∨ w.heap.size ≤ k) ∧ k < w'.heap.size) ∧ Chg (fun k => k = idAt ids 0 ∨ h0.F k) w w'))
    (hdis : ∀ k, h0.F k → ¬ rest.F k ∧ (C.W.heap.size ≤ k ∨ C.M k)) (hfit : hpFits m.c m.hp.length m.hp = true) (hc : ∀ vs h', Q vs h' → (ρ.add vs).cnt = m'.c ∧ ∀ v, v ∈ vs.v → v.oneCell' = true)
    (h : ∀ vs h', Q vs h' → (∀ k, h'.F k → ¬ rest.F k ∧ (C.W.heap.size ≤ k ∨ C.M k)) → t.holds C (ρ.add vs) pre (rest.and h') L) : (Tree.call f args m r m' t).holds C ρ pre (rest.and h0) L := by
  intro ids w hp hf
  rw [hargs]
  refine (hcall ids w hp hf).mono ?_
  rintro e w' ⟨vs, h', hQ, rfl, hb0, hX, hge, hch⟩
  have hm0 : idAt ids 0 ∈ ids := idAt_mem (ids := ids) (n := 0) (by rw [hf.len, hhp]; simp)
  have hadd : ∀ (cs : List LV) k ty', m.hp[k]? = some (ty', cs) → cellsDen (ρ.add vs) ids cs = cellsDen ρ ids cs := fun cs k ty' hk => cellsDen_add hf.cnt.cnt (List.prefix_refl _) hf.len (List.all_eq_true.1 hfit _ (List.mem_of_getElem? hk))
  refine ⟨vs, ids, rest.and h', rfl, List.prefix_refl _, ⟨by rw [hf.len, hhp, hhp']; rfl, hf.nod, fun k t2 cs2 hk => ?_, hf.own, ?_, ⟨rest.loc w w' hf.x.1 fun k hk => hch.block k (hf.sep k (.inl hk)).1 fun q => ?_, hX⟩, fun k hk => ?_, ⟨(hc _ _ hQ).1, fun v hv => ?_⟩⟩, holds_pre t hp (h vs h' hQ fun k hk => ?_)⟩
  · cases k with
    | zero =>
      rw [hhp'] at hk
      simp only [List.getElem?_cons_zero, Option.some.injEq, Prod.mk.injEq] at hk
      obtain ⟨rfl, rfl⟩ := hk
      exact hb0
    | succ k =>
      have hk2 : m.hp[k + 1]? = some (t2, cs2) := by rw [hhp]; rw [hhp'] at hk; exact hk
      have hlt : k + 1 < m.hp.length := by
        rcases Nat.lt_or_ge (k + 1) m.hp.length with q | q
        · exact q
        · rw [List.getElem?_eq_none q] at hk2; cases hk2
      have hmem := idAt_mem (ids := ids) (n := k + 1) (hf.len ▸ hlt)
      have hne : idAt ids (k + 1) ≠ idAt ids 0 := fun e => by
        have := idAt_inj hf.nod (by rw [hf.len]; exact hlt) (by rw [hf.len, hhp]; simp) e
        omega
      rw [hch.block _ (hf.id_lt hmem) (fun e2 => e2.elim hne fun q => (hf.sep _ (.inr q)).2 hmem), hf.blk (k + 1) t2 cs2 hk2, hadd cs2 _ _ hk2]
  · refine ⟨hch.os.trans hf.chg.os, hch.tape.trans hf.chg.tape, hch.output.trans hf.chg.output, Nat.le_trans hf.chg.size hch.size, fun k hk hM => ?_⟩
    rw [hch.block k (Nat.lt_of_lt_of_le hk hf.chg.size) (fun e => ?_)]
    · exact hf.chg.block k hk hM
    · rcases e with rfl | e
      · rcases hf.own _ hm0 with g | g
        · omega
        · exact hM g
      · rcases (hdis _ e).2 with g | g
        · omega
        · exact hM g
  · rcases q with rfl | q
    · exact (hf.sep _ (.inl hk)).2 hm0
    · exact (hdis k q).1 hk
  · rcases hk with hk | hk
    · exact ⟨Nat.lt_of_lt_of_le (hf.sep k (.inl hk)).1 hch.size, (hf.sep k (.inl hk)).2⟩
    · refine ⟨(hge k hk).2, fun hm => ?_⟩
      rcases (hge k hk).1 with q | q
      · exact (hf.sep k (.inr q)).2 hm
      · have := hf.id_lt hm; omega
  · simp only [Env.add, List.mem_append] at hv
    exact hv.elim (hf.cnt.one v) ((hc _ _ hQ).2 v)
  · rcases (hge k hk).1 with q | q
    · exact hdis k q
    · refine ⟨fun z => ?_, .inl (Nat.le_trans hf.chg.size q)⟩
      have := (hf.sep k (.inl z)).1
      omega
end
end Go.Eng

namespace Go.Proofs.Ytlgpjjgkdpmidaa
open Go.Eng
abbrev tPNewb0 : List LV := [(tVi 3), (tSl 2 4 5), (tVi 4), (tVi 5), (tVi 6), (tVi 7), (tVi 8), (tSl 3 6 7), (.val 0), (tVi 9), (.val 1), (tSl 4 8 9), (tSl 5 10 11), (.bool (.var 1))]
set_option maxRecDepth 100000 in
theorem tPNew : (runF ⟨tt, fns, { touch := [(28, [0])] }⟩ (Try.f8.body.getD .skip) Try.f8.results.toList (entry Try.f8.ntmps [.lf (.int .i64 (.var 0)), .lf (.sl 0 (.var 0) (.var 1)), .lf (.int .i64 (.var 1))] [] ⟨2, 0, 0, 2, 1⟩)) =
  (.call 26 [(.lf (tSl 0 0 1))] ⟨[], ⟨2, 0, 0, 2, 1⟩⟩ (.lf (tVi 2)) ⟨[], ⟨3, 0, 0, 2, 1⟩⟩ (.br (.cmp .neq (.var 2) (.lit 0)) (.done (.lf .nilp) ⟨[], ⟨3, 0, 0, 2, 1⟩⟩) (.call 27 [(.lf (tSl 0 0 1)), (.lf (tVi 0))] ⟨[], ⟨3, 0, 0, 2, 1⟩⟩ (.lf (.bool (.var 0))) ⟨[], ⟨3, 1, 0, 2, 1⟩⟩ (.br (.not (.var 0)) (.done (.lf .nilp) ⟨[], ⟨3, 1, 0, 2, 1⟩⟩) (.gen (.call ⟨(.builtin .append), #[(.const (.slice .none 0 0)), (.tmp 18)], #[73, 26]⟩) 73 [(18, (.lf (tSl 0 0 1)))] ⟨[], ⟨3, 1, 0, 2, 1⟩⟩ (.some (.lf (tSl 1 2 3))) ⟨[], ⟨3, 1, 0, 4, 2⟩⟩ (.call 28 [(.lf (.ptr 0 0))] ⟨[(77, [(tVi 0), (tSl 1 2 3), (.int .i64 (.mx (.lit 1) (.mn (.var 1) (.lit 16)))), (tLi 0), (tLi 0), (tLi 0), (tLi 0), .nilsl, (.cst (.map .none)), (tLi 0), (.cst (.map .none)), .nilsl, .nilsl, (.bool (.lit .false))])], ⟨3, 1, 0, 4, 2⟩⟩ (.tup []) ⟨[(77, tPNewb0)], ⟨10, 2, 2, 12, 6⟩⟩ (.done (.lf (.ptr 0 0)) ⟨[(77, tPNewb0)], ⟨10, 2, 2, 12, 6⟩⟩))))))) := by kernel_rfl
abbrev tPDownb0 : List LV := [(tVi 0), (tSl 0 0 1), (tVi 1), (tLi 0), (tVi 3), (tVi 4), (tLi 0), .nilsl, (.val 0), (tLi 0), (.val 1), .nilsl, .nilsl, (.bool (.lit .false))]
set_option maxRecDepth 100000 in
theorem tPDown : (runF ⟨tt, fns, { cur := [0] }⟩ (Try.f28.body.getD .skip) Try.f28.results.toList (entry Try.f28.ntmps [.lf (.ptr 0 0)] [(77, [.int .i64 (.var 0), .sl 0 (.var 0) (.var 1), .int .i64 (.var 1), .int .i64 (.var 2), .int .i64 (.var 3), .int .i64 (.var 4), .int .i64 (.var 5), .sl 1 (.var 2) (.var 3), .val 0, .int .i64 (.var 6), .val 1, .sl 2 (.var 4) (.var 5), .sl 3 (.var 6) (.var 7), .bool (.var 0)])] ⟨7, 1, 2, 8, 4⟩)) =
  (.gen (.makeMap 74 .none) 74 [] ⟨[(77, tPDownb0)], ⟨7, 1, 2, 8, 4⟩⟩ (.some (.lf (.val 2))) ⟨[(77, tPDownb0)], ⟨7, 1, 3, 8, 4⟩⟩ (.gen (.makeMap 75 .none) 75 [] ⟨[(77, tPDownb0)], ⟨7, 1, 3, 8, 4⟩⟩ (.some (.lf (.val 3))) ⟨[(77, tPDownb0)], ⟨7, 1, 4, 8, 4⟩⟩ (.done (.tup []) ⟨[(77, [(tVi 0), (tSl 0 0 1), (tVi 1), (tLi 0), (tVi 3), (tVi 4), (tLi 0), .nilsl, (.val 2), (tLi 0), (.val 3), .nilsl, .nilsl, (.bool (.lit .false))])], ⟨7, 1, 4, 8, 4⟩⟩))) := by kernel_rfl
abbrev tPCampb0 : List LV := [(tVi 18), (tVi 19), (tVi 20), (tVi 21), (tVi 22), (tVi 23), (tVi 24), (tVi 25), (tVi 26), (tVi 27), (tSl 8 16 17), (tSl 9 18 19), (tSl 10 20 21), (tVi 28), (tVi 29), (tVi 30), (tVi 31), (tVi 32), (tVi 33), (tVi 34), (tVi 35), (tVi 36), (tVi 37), (tVi 38), (tSl 11 22 23)]
abbrev tPCampb1 : List LV := [(tLi 0), (tLi 0), (tLi 0), (tLi 0), (tLi 0), (tLi 0), (tLi 0), (tLi 0), (tLi 0), (tLi 0), .nilsl, .nilsl, .nilsl, (tLi 0), (tLi 0), (tLi 0), (tLi 0), (tLi 0), (tLi 0), (tLi 0), (tLi 0), (tLi 0), (tLi 0), (tLi 0), .nilsl]
abbrev tPCampb2 : List LV := [(tVi 11), (tSl 4 8 9), (tVi 12), (tLi 1), (tVi 7), (tVi 8), (tVi 9), (tSl 5 10 11), (.val 2), (tVi 17), (.val 3), (tSl 6 12 13), (tSl 7 14 15), (.bool (.var 2))]
abbrev tPCampb3 : List LV := [(tVi 0), (tSl 0 0 1), (tVi 1), (tVi 2), (tVi 3), (tVi 4), (tVi 5), (tSl 1 2 3), (.val 0), (tVi 6), (.val 1), (tSl 2 4 5), (tSl 3 6 7), (.bool (.var 0))]
abbrev tPCampm0 : Mem := ⟨[(77, tPCampb3), (28, [(tVi 7), (tVi 8)]), (41, tPCampb1)], ⟨10, 1, 2, 8, 4⟩⟩
abbrev tPCampm1 : Mem := ⟨[(77, tPCampb3), (28, [(tVi 7), (tVi 8)]), (41, tPCampb1)], ⟨10, 2, 2, 8, 4⟩⟩
abbrev tPCampm2 : Mem := ⟨[(77, tPCampb3), (28, [(tVi 7), (tVi 8)]), (41, tPCampb1)], ⟨11, 2, 2, 8, 4⟩⟩
set_option maxRecDepth 100000 in
theorem tPCamp : (runF ⟨tt, fns, { cur := [0], touch := [(28, [0])] }⟩ (Try.f9.body.getD .skip) Try.f9.results.toList (entry Try.f9.ntmps [.lf (.ptr 0 0), .agg [.int .i64 (.var 7), .int .i64 (.var 8)], .lf (.int .i64 (.var 9))] [(77, [.int .i64 (.var 0), .sl 0 (.var 0) (.var 1), .int .i64 (.var 1), .int .i64 (.var 2), .int .i64 (.var 3), .int .i64 (.var 4), .int .i64 (.var 5), .sl 1 (.var 2) (.var 3), .val 0, .int .i64 (.var 6), .val 1, .sl 2 (.var 4) (.var 5), .sl 3 (.var 6) (.var 7), .bool (.var 0)])] ⟨10, 1, 2, 8, 4⟩)) =
  (.br (.cmp .lss (.var 9) (.lit 1)) (.done (.tup [(.true, tPCampb1), (.false, [(tLi 1)])]) tPCampm0) (.br (.cmp .gtr (.var 9) (.lit 1099511627776)) (.done (.tup [(.true, tPCampb1), (.false, [(tLi 1)])]) tPCampm0) (.call 29 [(.agg [(tVi 7), (tVi 8)])] tPCampm0 (.lf (.bool (.var 1))) tPCampm1 (.br (.not (.var 1)) (.done (.tup [(.true, tPCampb1), (.false, [(tLi 27)])]) tPCampm1) (.br (.cmp .neq (.var 8) (.var 0)) (.done (.tup [(.true, tPCampb1), (.false, [(tLi 27)])]) tPCampm1) (.call 30 [(.agg [(tVi 7), (tVi 8)]), (.agg [(tVi 3), (tVi 4)])] tPCampm1 (.lf (tVi 10)) tPCampm2 (.br (.cmp .leq (.var 10) (.lit 0)) (.done (.tup [(.true, tPCampb1), (.false, [(tLi 27)])]) tPCampm2) (.call 28 [(.lf (.ptr 0 0))] tPCampm2 (.tup []) ⟨[(77, [(tVi 11), (tSl 4 8 9), (tVi 12), (tVi 13), (tVi 14), (tVi 15), (tVi 16), (tSl 5 10 11), (.val 2), (tVi 17), (.val 3), (tSl 6 12 13), (tSl 7 14 15), (.bool (.var 2))]), (28, [(tVi 7), (tVi 8)]), (41, tPCampb1)], ⟨18, 3, 4, 16, 8⟩⟩ (.call 31 [(.lf (.ptr 0 0))] ⟨[(77, tPCampb2), (28, [(tVi 7), (tVi 8)]), (41, tPCampb1)], ⟨18, 3, 4, 16, 8⟩⟩ (.agg tPCampb0) ⟨[(77, tPCampb2), (28, [(tVi 7), (tVi 8)]), (41, tPCampb1)], ⟨39, 3, 4, 24, 12⟩⟩ (.done (.tup [(.true, tPCampb0), (.false, [(tLi 0)])]) ⟨[(77, tPCampb2), (28, [(tVi 7), (tVi 8)]), (41, tPCampb0)], ⟨39, 3, 4, 24, 12⟩⟩)))))))))) := by kernel_rfl
abbrev tPPrepb0 : List LV := [(tLi 1), (tLi 0), (tLi 0), (tLi 0), (tVi 3), (tVi 4), (tVi 5), (tLi 0), (tLi 0), (tLi 0), .nilsl, .nilsl, .nilsl, (tLi 0), (tLi 0), (tLi 0), (tLi 0), (tLi 0), (tLi 0), (tLi 0), (tLi 0), (tLi 0), (tLi 0), (tLi 0), .nilsl]
set_option maxRecDepth 100000 in
theorem tPPrep : (runF ⟨tt, fns, { }⟩ (Try.f31.body.getD .skip) Try.f31.results.toList (entry Try.f31.ntmps [.lf (.ptr 0 0)] [(77, [.int .i64 (.var 0), .sl 0 (.var 0) (.var 1), .int .i64 (.var 1), .int .i64 (.var 2), .int .i64 (.var 3), .int .i64 (.var 4), .int .i64 (.var 5), .sl 1 (.var 2) (.var 3), .val 0, .int .i64 (.var 6), .val 1, .sl 2 (.var 4) (.var 5), .sl 3 (.var 6) (.var 7), .bool (.var 0)])] ⟨7, 1, 2, 8, 4⟩)) =
  (.done (.agg tPPrepb0) ⟨[(77, [(tVi 0), (tSl 0 0 1), (tVi 1), (tVi 2), (tVi 3), (tVi 4), (tVi 5), (tSl 1 2 3), (.val 0), (tVi 6), (.val 1), (tSl 2 4 5), (tSl 3 6 7), (.bool (.var 0))]), (41, tPPrepb0)], ⟨7, 1, 2, 8, 4⟩⟩) := by kernel_rfl
abbrev tPAskb0 : List LV := [(tVi 0), (tSl 0 0 1), (tVi 1), (tVi 2), (tVi 3), (tVi 4), (tVi 5), (tSl 1 2 3), (.val 0), (tVi 6), (.val 1), (tSl 2 4 5), (tSl 3 6 7), (.bool (.var 0))]
abbrev tPAskm0 : Mem := ⟨[(77, tPAskb0), (31, [(tVi 7), (tSl 4 8 9), (tSl 5 10 11)])], ⟨9, 1, 2, 12, 6⟩⟩
set_option maxRecDepth 100000 in
theorem tPAsk : (runF ⟨tt, fns, { }⟩ (Try.f44.body.getD .skip) Try.f44.results.toList (entry Try.f44.ntmps [.lf (.ptr 0 0), .lf (.int .i64 (.var 8)), .agg [.int .i64 (.var 7), .sl 4 (.var 8) (.var 9), .sl 5 (.var 10) (.var 11)]] [(77, [.int .i64 (.var 0), .sl 0 (.var 0) (.var 1), .int .i64 (.var 1), .int .i64 (.var 2), .int .i64 (.var 3), .int .i64 (.var 4), .int .i64 (.var 5), .sl 1 (.var 2) (.var 3), .val 0, .int .i64 (.var 6), .val 1, .sl 2 (.var 4) (.var 5), .sl 3 (.var 6) (.var 7), .bool (.var 0)])] ⟨9, 1, 2, 12, 6⟩)) =
  (.gen (.mapUpdate 75 (.tmp 9) (.tmp 10) (.tmp 11)) 0 [(9, (.lf (.val 1))), (10, (.lf (tVi 8))), (11, (.agg [(tVi 7), (tSl 4 8 9), (tSl 5 10 11)]))] tPAskm0 .none tPAskm0 (.gen (.call ⟨(.builtin .append), #[(.tmp 16), (.tmp 18)], #[26, 26]⟩) 26 [(16, (.lf (tSl 2 4 5))), (18, (.lf (.nsl 2 0 1 1)))] ⟨[(77, tPAskb0), (31, [(tVi 7), (tSl 4 8 9), (tSl 5 10 11)]), (3, [(tVi 8)])], ⟨9, 1, 2, 12, 6⟩⟩ (.some (.lf (tSl 6 12 13))) ⟨[(77, tPAskb0), (31, [(tVi 7), (tSl 4 8 9), (tSl 5 10 11)]), (3, [(tVi 8)])], ⟨9, 1, 2, 14, 7⟩⟩ (.br (.var 0) (.done (.tup []) ⟨[(77, [(tVi 0), (tSl 0 0 1), (tVi 1), (tVi 2), (tVi 3), (tVi 4), (tVi 5), (tSl 1 2 3), (.val 0), (tVi 6), (.val 1), (tSl 6 12 13), (tSl 3 6 7), (.bool (.lit .true))]), (31, [(tVi 7), (tSl 4 8 9), (tSl 5 10 11)]), (3, [(tVi 8)])], ⟨9, 1, 2, 14, 7⟩⟩) (.done (.tup []) ⟨[(77, [(tVi 0), (tSl 0 0 1), (tVi 1), (tVi 2), (tVi 3), (tVi 4), (tVi 5), (tSl 1 2 3), (.val 0), (tVi 6), (.val 1), (tSl 6 12 13), (tSl 3 6 7), (.bool (.cmp .eql (.var 7) (.lit 2)))]), (31, [(tVi 7), (tSl 4 8 9), (tSl 5 10 11)]), (3, [(tVi 8)])], ⟨9, 1, 2, 14, 7⟩⟩)))) := by kernel_rfl
abbrev tPLeadb0 : List LV := [(tVi 26), (tSl 14 28 29), (tVi 27), (tVi 28), (tVi 29), (tVi 30), (tVi 31), (tSl 15 30 31), (.val 6), (tVi 32), (.val 7), (tSl 16 32 33), (tSl 17 34 35), (.bool (.var 3))]
abbrev tPLeadb1 : List LV := [(tVi 15), (tSl 8 16 17), (tVi 16), (tVi 17), (tVi 18), (tVi 19), (tVi 20), (tSl 9 18 19), (.val 4), (tVi 21), (.val 5), (tSl 10 20 21), (tSl 11 22 23), (.bool (.var 2))]
abbrev tPLeadb2 : List LV := [(tVi 7), (tSl 4 8 9), (tVi 8), (tVi 9), (tVi 10), (tVi 11), (tVi 12), (tSl 5 10 11), (.val 2), (tVi 13), (.val 3), (tSl 6 12 13), (tSl 7 14 15), (.bool (.var 1))]
abbrev tPLeadb3 : List LV := [(tVi 7), (tSl 4 8 9), (tVi 8), (tVi 9), (tVi 10), (tVi 11), (tVi 12), (tSl 5 10 11), (.val 3), (tVi 13), (.val 4), (tSl 6 12 13), (tSl 7 14 15), (.bool (.var 1))]
abbrev tPLeadb4 : List LV := [(tVi 0), (tSl 0 0 1), (tVi 1), (tLi 2), (tVi 3), (tVi 4), (tVi 5), (tSl 1 2 3), (.val 0), (tVi 5), (.val 1), (tSl 2 4 5), (tSl 3 6 7), (.bool (.var 0))]
set_option maxRecDepth 100000 in
theorem tPLead : (runF ⟨tt, fns, { cur := [0], touch := [(44, [0])], loops := [(2, ⟨[], [0]⟩), (6, ⟨[(3, .int .i64)], [0]⟩)], joins := [(5, ⟨[], [0]⟩)], gen := [(19, .nxt [.lf (.int .i64), .agg [.int .i64, .int .i64, .int .i64, .int .i64, .sl, .sl]]), (21, .tup [.lf (.int .i64), .agg [.int .i64, .int .i64, .int .i64, .int .i64, .sl, .sl]])] }⟩ (Try.f43.body.getD .skip) Try.f43.results.toList (entry Try.f43.ntmps [.lf (.ptr 0 0)] [(77, [.int .i64 (.var 0), .sl 0 (.var 0) (.var 1), .int .i64 (.var 1), .int .i64 (.var 2), .int .i64 (.var 3), .int .i64 (.var 4), .int .i64 (.var 5), .sl 1 (.var 2) (.var 3), .val 0, .int .i64 (.var 6), .val 1, .sl 2 (.var 4) (.var 5), .sl 3 (.var 6) (.var 7), .bool (.var 0)])] ⟨7, 1, 2, 8, 4⟩)) =
  (.join 5 ⟨[(77, tPLeadb4)], ⟨7, 1, 2, 8, 4⟩⟩ ⟨[(77, tPLeadb2)], ⟨14, 2, 4, 16, 8⟩⟩ (.gen (.range 74 (.tmp 17)) 0 [(17, (.lf (.val 0)))] ⟨[(77, tPLeadb4)], ⟨7, 1, 2, 8, 4⟩⟩ (.some (.lf (.val 2))) ⟨[(77, tPLeadb4)], ⟨7, 1, 3, 8, 4⟩⟩ (.loop 2 ⟨[(.var 0), (.var 1), (.lit 2), (.var 3), (.var 4), (.var 5), (.var 5)], [(.var 0)], [(.val 0), (.val 1)], [(.var 0), (.var 1), (.var 2), (.var 3), (.var 4), (.var 5), (.var 6), (.var 7)], [(.var 0), (.var 1), (.var 2), (.var 3)]⟩ ⟨[(77, tPLeadb4)], ⟨7, 1, 3, 8, 4⟩⟩ ⟨[(77, tPLeadb3)], ⟨14, 2, 5, 16, 8⟩⟩ (.gen (.next (.tmp 18) .false) 0 [(18, (.lf (.val 2)))] ⟨[(77, tPLeadb3)], ⟨14, 2, 5, 16, 8⟩⟩ (.some (.nxt (.var 2) [(.false, [(tVi 14)]), (.true, [(tVi 15), (tVi 16), (tVi 17), (tVi 18), (tSl 8 16 17), (tSl 9 18 19)])])) ⟨[(77, tPLeadb3)], ⟨19, 3, 5, 20, 10⟩⟩ (.br (.var 2) (.gen (.entry (.tmp 18)) 0 [(18, (.lf (.val 2)))] ⟨[(77, tPLeadb3)], ⟨19, 3, 5, 20, 10⟩⟩ (.some (.tup [(.false, [(tVi 19)]), (.true, [(tVi 20), (tVi 21), (tVi 22), (tVi 23), (tSl 10 20 21), (tSl 11 22 23)])])) ⟨[(77, tPLeadb3)], ⟨24, 3, 5, 24, 12⟩⟩ (.again 2 ⟨[(.var 7), (.var 8), (.var 9), (.var 10), (.var 11), (.var 12), (.mx (.var 13) (.op .add .i64 (.var 19) (.lit 1)))], [(.var 1)], [(.val 3), (.val 4)], [(.var 8), (.var 9), (.var 10), (.var 11), (.var 12), (.var 13), (.var 14), (.var 15)], [(.var 4), (.var 5), (.var 6), (.var 7)]⟩ ⟨[(77, [(tVi 7), (tSl 4 8 9), (tVi 8), (tVi 9), (tVi 10), (tVi 11), (tVi 12), (tSl 5 10 11), (.val 3), (.int .i64 (.mx (.var 13) (.op .add .i64 (.var 19) (.lit 1)))), (.val 4), (tSl 6 12 13), (tSl 7 14 15), (.bool (.var 1))])], ⟨24, 3, 5, 24, 12⟩⟩)) (.again 5 ⟨[(.var 7), (.var 8), (.var 9), (.var 10), (.var 11), (.var 12), (.var 13)], [(.var 1)], [(.val 3), (.val 4)], [(.var 8), (.var 9), (.var 10), (.var 11), (.var 12), (.var 13), (.var 14), (.var 15)], [(.var 4), (.var 5), (.var 6), (.var 7)]⟩ ⟨[(77, tPLeadb3)], ⟨19, 3, 5, 20, 10⟩⟩))))) (.loop 6 ⟨[(.var 12), (.var 7), (.var 8), (.var 9), (.var 10), (.var 11), (.var 12), (.var 13)], [(.var 1)], [(.val 2), (.val 3)], [(.var 8), (.var 9), (.var 10), (.var 11), (.var 12), (.var 13), (.var 14), (.var 15)], [(.var 4), (.var 5), (.var 6), (.var 7)]⟩ ⟨[(77, tPLeadb2)], ⟨14, 2, 4, 16, 8⟩⟩ ⟨[(77, tPLeadb1)], ⟨22, 3, 6, 24, 12⟩⟩ (.br (.cmp .lss (.var 14) (.var 21)) (.gen (.lookup 74 (.tmp 50) (.tmp 51) .false) 49 [(50, (.lf (.val 4))), (51, (.lf (tVi 14)))] ⟨[(77, tPLeadb1)], ⟨22, 3, 6, 24, 12⟩⟩ (.some (.agg [(tVi 22), (tVi 23), (tVi 24), (tVi 25), (tSl 12 24 25), (tSl 13 26 27)])) ⟨[(77, tPLeadb1)], ⟨26, 3, 6, 28, 14⟩⟩ (.call 44 [(.lf (.ptr 0 0)), (.lf (tVi 14)), (.agg [(tVi 25), (tSl 12 24 25), (tSl 13 26 27)])] ⟨[(77, tPLeadb1)], ⟨26, 3, 6, 28, 14⟩⟩ (.tup []) ⟨[(77, tPLeadb0)], ⟨33, 4, 8, 36, 18⟩⟩ (.again 6 ⟨[(.op .add .i64 (.var 14) (.lit 1)), (.var 26), (.var 27), (.var 28), (.var 29), (.var 30), (.var 31), (.var 32)], [(.var 3)], [(.val 6), (.val 7)], [(.var 28), (.var 29), (.var 30), (.var 31), (.var 32), (.var 33), (.var 34), (.var 35)], [(.var 14), (.var 15), (.var 16), (.var 17)]⟩ ⟨[(77, tPLeadb0)], ⟨33, 4, 8, 36, 18⟩⟩))) (.gen (.makeMap 74 .none) 74 [] ⟨[(77, tPLeadb1)], ⟨22, 3, 6, 24, 12⟩⟩ (.some (.lf (.val 6))) ⟨[(77, tPLeadb1)], ⟨22, 3, 7, 24, 12⟩⟩ (.done (.tup []) ⟨[(77, [(tVi 15), (tSl 8 16 17), (tVi 16), (tVi 17), (tVi 18), (tVi 19), (tVi 20), (tSl 9 18 19), (.val 6), (tVi 21), (.val 5), (tSl 10 20 21), (tSl 11 22 23), (.bool (.var 2))])], ⟨22, 3, 7, 24, 12⟩⟩))))) := by kernel_rfl
abbrev tPSubb0 : List LV := [(tVi 0), (tSl 0 0 1), (tVi 1), (tVi 2), (tVi 3), (tVi 4), (tVi 5), (tSl 1 2 3), (.val 0), (tVi 6), (.val 1), (tSl 2 4 5), (tSl 8 16 17), (.bool (.cmp .eql (.var 7) (.lit 2)))]
abbrev tPSubb1 : List LV := [(tVi 0), (tSl 0 0 1), (tVi 1), (tVi 2), (tVi 3), (tVi 4), (tVi 5), (tSl 1 2 3), (.val 0), (tVi 6), (.val 1), (tSl 2 4 5), (tSl 3 6 7), (.bool (.var 0))]
abbrev tPSubm0 : Mem := ⟨[(77, tPSubb1), (31, [(tVi 7), (tSl 4 8 9), (tSl 5 10 11)]), (31, [(tVi 9), (tSl 6 12 13), (tSl 7 14 15)])], ⟨10, 1, 2, 16, 8⟩⟩
abbrev tPSubm1 : Mem := ⟨[(77, tPSubb1), (31, [(tVi 7), (tSl 4 8 9), (tSl 5 10 11)]), (31, [(tVi 9), (tSl 6 12 13), (tSl 7 14 15)])], ⟨10, 1, 2, 18, 9⟩⟩
abbrev tPSubm2 : Mem := ⟨[(77, tPSubb0), (31, [(tVi 7), (tSl 4 8 9), (tSl 5 10 11)]), (31, [(tVi 9), (tSl 6 12 13), (tSl 7 14 15)])], ⟨10, 1, 2, 18, 9⟩⟩
abbrev tPSubm3 : Mem := ⟨[(77, tPSubb1), (31, [(tVi 7), (tSl 4 8 9), (tSl 5 10 11)])], ⟨10, 1, 2, 12, 6⟩⟩
abbrev tPSubm4 : Mem := ⟨[(77, tPSubb1), (31, [(tVi 7), (tSl 4 8 9), (tSl 5 10 11)])], ⟨10, 1, 2, 16, 8⟩⟩
abbrev tPSubm5 : Mem := ⟨[(77, tPSubb1), (31, [(tVi 7), (tSl 4 8 9), (tSl 5 10 11)])], ⟨9, 1, 2, 12, 6⟩⟩
set_option maxRecDepth 100000 in
theorem tPSub : (runF ⟨tt, fns, { }⟩ (Try.f17.body.getD .skip) Try.f17.results.toList (entry Try.f17.ntmps [.lf (.ptr 0 0), .agg [.int .i64 (.var 7), .sl 4 (.var 8) (.var 9), .sl 5 (.var 10) (.var 11)]] [(77, [.int .i64 (.var 0), .sl 0 (.var 0) (.var 1), .int .i64 (.var 1), .int .i64 (.var 2), .int .i64 (.var 3), .int .i64 (.var 4), .int .i64 (.var 5), .sl 1 (.var 2) (.var 3), .val 0, .int .i64 (.var 6), .val 1, .sl 2 (.var 4) (.var 5), .sl 3 (.var 6) (.var 7), .bool (.var 0)])] ⟨8, 1, 2, 12, 6⟩)) =
  (.call 47 [(.agg [(tVi 7), (tSl 4 8 9), (tSl 5 10 11)])] ⟨[(77, tPSubb1), (31, [(tVi 7), (tSl 4 8 9), (tSl 5 10 11)])], ⟨8, 1, 2, 12, 6⟩⟩ (.lf (tVi 8)) tPSubm5 (.br (.cmp .neq (.var 8) (.lit 0)) (.call 47 [(.agg [(tVi 7), (tSl 4 8 9), (tSl 5 10 11)])] tPSubm5 (.lf (tVi 9)) tPSubm3 (.done (.lf (tVi 9)) tPSubm3)) (.br (.cmp .neq (.var 2) (.lit 2)) (.done (.lf (tLi 65)) tPSubm5) (.br (.cmp .geq (.nat 6) (.lit 32)) (.done (.lf (tLi 64)) tPSubm5) (.br (.var 0) (.done (.lf (tLi 64)) tPSubm5) (.par (.call 41 [(.agg [(tVi 7), (tSl 4 8 9), (tSl 5 10 11)])] tPSubm5 (.agg [(tVi 9), (tSl 6 12 13), (tSl 7 14 15)]) tPSubm4 (.gen (.call ⟨(.builtin .append), #[(.tmp 37), (.tmp 40)], #[57, 57]⟩) 57 [(37, (.lf (tSl 3 6 7))), (40, (.lf (.nsl 2 0 1 1)))] tPSubm0 (.some (.lf (tSl 8 16 17))) tPSubm1 (.done (.lf (tLi 0)) tPSubm2))) (.call 41 [(.agg [(tVi 7), (tSl 4 8 9), (tSl 5 10 11)])] tPSubm5 (.agg [(tVi 9), (tSl 6 12 13), (tSl 7 14 15)]) tPSubm4 (.par (.gen (.call ⟨(.builtin .append), #[(.tmp 37), (.tmp 40)], #[57, 57]⟩) 57 [(37, (.lf (tSl 3 6 7))), (40, (.lf (.nsl 2 0 1 1)))] tPSubm0 (.some (.lf (tSl 8 16 17))) tPSubm1 (.done (.lf (tLi 0)) tPSubm2)) (.gen (.call ⟨(.builtin .append), #[(.tmp 37), (.tmp 40)], #[57, 57]⟩) 57 [(37, (.lf (tSl 3 6 7))), (40, (.lf (.nsl 2 0 1 1)))] tPSubm0 (.some (.lf (tSl 8 16 17))) tPSubm1 (.done (.lf (tLi 0)) tPSubm2)))))))))) := by kernel_rfl
abbrev tPAccb0 : List LV := [(tLi 4), (tLi 0), (tLi 0), (tLi 0), (tVi 3), (tVi 4), (tVi 7), (tLi 0), (tLi 0), (tVi 9), (tSl 6 12 13), (tSl 7 14 15), .nilsl, (tLi 0), (tLi 0), (tLi 0), (tLi 0), (tLi 0), (tLi 0), (tLi 0), (tLi 0), (tLi 0), (tLi 0), (tLi 0), .nilsl]
abbrev tPAccb1 : List LV := [(tLi 0), (tLi 0), (tLi 0), (tLi 0), (tLi 0), (tLi 0), (tLi 0), (tLi 0), (tLi 0), (tLi 0), .nilsl, .nilsl, .nilsl, (tLi 0), (tLi 0), (tLi 0), (tLi 0), (tLi 0), (tLi 0), (tLi 0), (tLi 0), (tLi 0), (tLi 0), (tLi 0), .nilsl]
abbrev tPAccb2 : List LV := [(tVi 0), (tSl 0 0 1), (tVi 1), (tVi 2), (tVi 3), (tVi 4), (tVi 5), (tSl 1 2 3), (.val 0), (tVi 6), (.val 1), (tSl 2 4 5), (tSl 3 6 7), (.bool (.var 0))]
abbrev tPAccm0 : Mem := ⟨[(77, tPAccb2), (41, tPAccb1)], ⟨9, 1, 2, 12, 6⟩⟩
set_option maxRecDepth 100000 in
theorem tPAcc : (runF ⟨tt, fns, { }⟩ (Try.f45.body.getD .skip) Try.f45.results.toList (entry Try.f45.ntmps [.lf (.ptr 0 0), .lf (.int .i64 (.var 7))] [(77, [.int .i64 (.var 0), .sl 0 (.var 0) (.var 1), .int .i64 (.var 1), .int .i64 (.var 2), .int .i64 (.var 3), .int .i64 (.var 4), .int .i64 (.var 5), .sl 1 (.var 2) (.var 3), .val 0, .int .i64 (.var 6), .val 1, .sl 2 (.var 4) (.var 5), .sl 3 (.var 6) (.var 7), .bool (.var 0)])] ⟨8, 1, 2, 8, 4⟩)) =
  (.gen (.lookup 75 (.tmp 13) (.tmp 14) .false) 31 [(13, (.lf (.val 1))), (14, (.lf (tVi 7)))] ⟨[(77, tPAccb2), (41, tPAccb1)], ⟨8, 1, 2, 8, 4⟩⟩ (.some (.agg [(tVi 8), (tSl 4 8 9), (tSl 5 10 11)])) tPAccm0 (.call 41 [(.agg [(tVi 8), (tSl 4 8 9), (tSl 5 10 11)])] tPAccm0 (.agg [(tVi 9), (tSl 6 12 13), (tSl 7 14 15)]) ⟨[(77, tPAccb2), (41, tPAccb1)], ⟨10, 1, 2, 16, 8⟩⟩ (.done (.agg tPAccb0) ⟨[(77, tPAccb2), (41, tPAccb0)], ⟨10, 1, 2, 16, 8⟩⟩))) := by kernel_rfl
abbrev tPDecb0 : List LV := [(tVi 0), (tSl 0 0 1), (tVi 1), (tVi 2), (tVi 3), (tVi 4), (tVi 5), (tSl 1 2 3), (.val 0), (tVi 6), (.val 1), (tSl 2 4 5), (tSl 3 6 7), (.bool (.var 0))]
set_option maxRecDepth 100000 in
theorem tPDec : (runF ⟨tt, fns, { }⟩ (Try.f19.body.getD .skip) Try.f19.results.toList (entry Try.f19.ntmps [.lf (.ptr 0 0), .lf (.int .i64 (.var 7))] [(77, [.int .i64 (.var 0), .sl 0 (.var 0) (.var 1), .int .i64 (.var 1), .int .i64 (.var 2), .int .i64 (.var 3), .int .i64 (.var 4), .int .i64 (.var 5), .sl 1 (.var 2) (.var 3), .val 0, .int .i64 (.var 6), .val 1, .sl 2 (.var 4) (.var 5), .sl 3 (.var 6) (.var 7), .bool (.var 0)])] ⟨8, 1, 2, 8, 4⟩)) =
  (.gen (.call ⟨(.builtin .delete), #[(.tmp 9), (.tmp 10)], #[75, 3]⟩) 0 [(9, (.lf (.val 1))), (10, (.lf (tVi 7)))] ⟨[(77, tPDecb0)], ⟨8, 1, 2, 8, 4⟩⟩ (.some (.tup [])) ⟨[(77, tPDecb0)], ⟨8, 1, 2, 8, 4⟩⟩ (.done (.tup []) ⟨[(77, tPDecb0)], ⟨8, 1, 2, 8, 4⟩⟩)) := by kernel_rfl
abbrev tPTopb0 : List LV := [(tVi 0), (tSl 0 0 1), (tVi 1), (tVi 2), (tVi 3), (tVi 4), (tVi 5), (tSl 1 2 3), (.val 0), (tVi 6), (.val 1), (tSl 2 4 5), (tSl 3 6 7), (.bool (.var 0))]
set_option maxRecDepth 100000 in
theorem tPTop : (runF ⟨tt, fns, { }⟩ (Try.f21.body.getD .skip) Try.f21.results.toList (entry Try.f21.ntmps [.lf (.ptr 0 0)] [(77, [.int .i64 (.var 0), .sl 0 (.var 0) (.var 1), .int .i64 (.var 1), .int .i64 (.var 2), .int .i64 (.var 3), .int .i64 (.var 4), .int .i64 (.var 5), .sl 1 (.var 2) (.var 3), .val 0, .int .i64 (.var 6), .val 1, .sl 2 (.var 4) (.var 5), .sl 3 (.var 6) (.var 7), .bool (.var 0)])] ⟨7, 1, 2, 8, 4⟩)) =
  (.br (.cmp .neq (.var 2) (.lit 2)) (.done (.lf (tLi 0)) ⟨[(77, tPTopb0)], ⟨7, 1, 2, 8, 4⟩⟩) (.done (.lf (.int .i64 (.op .sub .i64 (.var 6) (.lit 1)))) ⟨[(77, tPTopb0)], ⟨7, 1, 2, 8, 4⟩⟩)) := by kernel_rfl
set_option maxRecDepth 100000 in
theorem tPStop : (runF ⟨tt, fns, { }⟩ (Try.f23.body.getD .skip) Try.f23.results.toList (entry Try.f23.ntmps [.lf (.ptr 0 0)] [(77, [.int .i64 (.var 0), .sl 0 (.var 0) (.var 1), .int .i64 (.var 1), .int .i64 (.var 2), .int .i64 (.var 3), .int .i64 (.var 4), .int .i64 (.var 5), .sl 1 (.var 2) (.var 3), .val 0, .int .i64 (.var 6), .val 1, .sl 2 (.var 4) (.var 5), .sl 3 (.var 6) (.var 7), .bool (.var 0)])] ⟨7, 1, 2, 8, 4⟩)) =
  (.done (.lf (.bool (.var 0))) ⟨[(77, [(tVi 0), (tSl 0 0 1), (tVi 1), (tVi 2), (tVi 3), (tVi 4), (tVi 5), (tSl 1 2 3), (.val 0), (tVi 6), (.val 1), (tSl 2 4 5), (tSl 3 6 7), (.bool (.var 0))])], ⟨7, 1, 2, 8, 4⟩⟩) := by kernel_rfl
abbrev tPGob0 : List LV := [(tVi 18), (tVi 19), (tVi 20), (tVi 21), (tVi 22), (tVi 23), (tVi 24), (tVi 25), (tVi 26), (tVi 27), (tSl 11 22 23), (tSl 12 24 25), (tSl 13 26 27), (tVi 28), (tVi 29), (tVi 30), (tVi 31), (tVi 32), (tVi 33), (tVi 34), (tVi 35), (tVi 36), (tVi 37), (tVi 38), (tSl 14 28 29)]
abbrev tPGob1 : List LV := [(tVi 16), (tSl 10 20 21), (tVi 17), (tVi 18), (tVi 19), (tVi 20), (tVi 21), (tSl 11 22 23), (.val 4), (.int .i64 (.op .add .i64 (.var 22) (.lit 1))), (.val 5), (tSl 12 24 25), (tSl 14 28 29), (.bool (.var 2))]
abbrev tPGob2 : List LV := [(tVi 16), (tSl 10 20 21), (tVi 17), (tVi 18), (tVi 19), (tVi 20), (tVi 21), (tSl 11 22 23), (.val 4), (tVi 22), (.val 5), (tSl 12 24 25), (tSl 13 26 27), (.bool (.var 2))]
abbrev tPGob3 : List LV := [(tVi 8), (tSl 4 8 9), (tVi 9), (tVi 10), (tVi 11), (tVi 12), (tVi 13), (tSl 5 10 11), (.val 2), (tVi 14), (.val 3), (tSl 6 12 13), (tSl 7 14 15), (.bool (.var 1))]
abbrev tPGob4 : List LV := [(tVi 0), (tSl 0 0 1), (tVi 1), (tVi 2), (tVi 3), (tVi 4), (tVi 5), (tSl 1 2 3), (.val 0), (tVi 6), (.val 1), (tSl 2 4 5), (tSl 3 6 7), (.bool (.var 0))]
abbrev tPGom0 : Mem := ⟨[(77, tPGob3), (31, [(tVi 17), (tSl 9 18 19), (tSl 10 20 21)]), (41, tPGob0)], ⟨39, 3, 4, 32, 16⟩⟩
abbrev tPGom1 : Mem := ⟨[(77, tPGob3), (31, [(tVi 17), (tSl 9 18 19), (tSl 10 20 21)])], ⟨18, 3, 4, 22, 11⟩⟩
abbrev tPGot0 : Tree := (.ld .true (.adr 7 (.lit 0) 3 0) [(tVi 15), (tSl 8 16 17), (tSl 9 18 19)] ⟨[(77, tPGob3)], ⟨15, 2, 4, 16, 8⟩⟩ ⟨[(77, tPGob3)], ⟨16, 2, 4, 20, 10⟩⟩ (.call 44 [(.lf (.ptr 0 0)), (.lf (tVi 14)), (.agg [(tVi 15), (tSl 8 16 17), (tSl 9 18 19)])] ⟨[(77, tPGob3)], ⟨16, 2, 4, 20, 10⟩⟩ (.tup []) ⟨[(77, tPGob2)], ⟨23, 3, 6, 28, 14⟩⟩ (.gen (.slice 57 (.tmp 61) (.some (.const (.int .i64 1))) .none .none) 57 [(61, (.lf (tSl 13 26 27)))] ⟨[(77, tPGob2)], ⟨23, 3, 6, 28, 14⟩⟩ (.some (.lf (tSl 14 28 29))) ⟨[(77, tPGob2)], ⟨23, 3, 6, 30, 15⟩⟩ (.again 3 ⟨[(.var 16), (.var 17), (.var 18), (.var 19), (.var 20), (.var 21), (.op .add .i64 (.var 22) (.lit 1))], [(.var 2)], [(.val 4), (.val 5)], [(.var 20), (.var 21), (.var 22), (.var 23), (.var 24), (.var 25), (.var 28), (.var 29)], [(.var 10), (.var 11), (.var 12), (.var 14)]⟩ ⟨[(77, tPGob1)], ⟨23, 3, 6, 30, 15⟩⟩))))
set_option maxRecDepth 100000 in
theorem tPGo : (runF ⟨tt, fns, { cur := [0, 6, 7, 10, 11], touch := [(44, [0])], loops := [(3, ⟨[], [0]⟩), (9, ⟨[(5, .sl), (77, .int .i64)], []⟩)], joins := [(7, ⟨[], [0]⟩), (14, ⟨[(5, .sl)], []⟩)] }⟩ (Try.f14.body.getD .skip) Try.f14.results.toList (entry Try.f14.ntmps [.lf (.ptr 0 0), .lf (.int .i64 (.var 7))] [(77, [.int .i64 (.var 0), .sl 0 (.var 0) (.var 1), .int .i64 (.var 1), .int .i64 (.var 2), .int .i64 (.var 3), .int .i64 (.var 4), .int .i64 (.var 5), .sl 1 (.var 2) (.var 3), .val 0, .int .i64 (.var 6), .val 1, .sl 2 (.var 4) (.var 5), .sl 3 (.var 6) (.var 7), .bool (.var 0)])] ⟨8, 1, 2, 8, 4⟩)) =
  (.br (.cmp .neq (.var 2) (.lit 2)) (.done (.lf .nilsl) ⟨[(77, tPGob4)], ⟨8, 1, 2, 8, 4⟩⟩) (.join 7 ⟨[(77, tPGob4)], ⟨8, 1, 2, 8, 4⟩⟩ ⟨[(77, tPGob3)], ⟨15, 2, 4, 16, 8⟩⟩ (.loop 3 ⟨[(.var 0), (.var 1), (.var 2), (.var 3), (.var 4), (.var 5), (.var 6)], [(.var 0)], [(.val 0), (.val 1)], [(.var 0), (.var 1), (.var 2), (.var 3), (.var 4), (.var 5), (.var 6), (.var 7)], [(.var 0), (.var 1), (.var 2), (.var 3)]⟩ ⟨[(77, tPGob4)], ⟨8, 1, 2, 8, 4⟩⟩ ⟨[(77, tPGob3)], ⟨15, 2, 4, 16, 8⟩⟩ (.br (.cmp .gtr (.nat 14) (.lit 0)) (.br (.cmp .geq (.var 7) (.op .sub .i64 (.var 14) (.var 9))) (.br (.cmp .leq (.var 14) (.lit 1099511627776)) (.par (.need (.inb 7 (.lit 0) (.nat 14)) tPGot0) (.need (.inb 7 (.lit 0) (.nat 14)) (.par tPGot0 tPGot0))) (.again 7 ⟨[(.var 8), (.var 9), (.var 10), (.var 11), (.var 12), (.var 13), (.var 14)], [(.var 1)], [(.val 2), (.val 3)], [(.var 8), (.var 9), (.var 10), (.var 11), (.var 12), (.var 13), (.var 14), (.var 15)], [(.var 4), (.var 5), (.var 6), (.var 7)]⟩ ⟨[(77, tPGob3)], ⟨15, 2, 4, 16, 8⟩⟩)) (.again 7 ⟨[(.var 8), (.var 9), (.var 10), (.var 11), (.var 12), (.var 13), (.var 14)], [(.var 1)], [(.val 2), (.val 3)], [(.var 8), (.var 9), (.var 10), (.var 11), (.var 12), (.var 13), (.var 14), (.var 15)], [(.var 4), (.var 5), (.var 6), (.var 7)]⟩ ⟨[(77, tPGob3)], ⟨15, 2, 4, 16, 8⟩⟩)) (.again 7 ⟨[(.var 8), (.var 9), (.var 10), (.var 11), (.var 12), (.var 13), (.var 14)], [(.var 1)], [(.val 2), (.val 3)], [(.var 8), (.var 9), (.var 10), (.var 11), (.var 12), (.var 13), (.var 14), (.var 15)], [(.var 4), (.var 5), (.var 6), (.var 7)]⟩ ⟨[(77, tPGob3)], ⟨15, 2, 4, 16, 8⟩⟩))) (.loop 9 ⟨[(.lit 0)], [], [], [(.lit 0), (.lit 0)], [.nil]⟩ ⟨[(77, tPGob3)], ⟨15, 2, 4, 16, 8⟩⟩ ⟨[(77, tPGob3)], ⟨16, 2, 4, 18, 9⟩⟩ (.br (.cmp .lss (.var 15) (.nat 12)) (.join 14 ⟨[(77, tPGob3)], ⟨16, 2, 4, 18, 9⟩⟩ ⟨[(77, tPGob3)], ⟨16, 2, 4, 20, 10⟩⟩ (.need (.inb 6 (.var 15) (.nat 12)) (.ld .true (.adr 6 (.var 15) 1 0) [(tVi 16)] ⟨[(77, tPGob3)], ⟨16, 2, 4, 18, 9⟩⟩ ⟨[(77, tPGob3)], ⟨17, 2, 4, 18, 9⟩⟩ (.gen (.lookup 75 (.tmp 85) (.tmp 86) .true) 93 [(85, (.lf (.val 3))), (86, (.lf (tVi 16)))] ⟨[(77, tPGob3)], ⟨17, 2, 4, 18, 9⟩⟩ (.some (.tup [(.true, [(tVi 17), (tSl 9 18 19), (tSl 10 20 21)]), (.false, [(.bool (.var 2))])])) ⟨[(77, tPGob3)], ⟨18, 3, 4, 22, 11⟩⟩ (.br (.var 2) (.call 45 [(.lf (.ptr 0 0)), (.lf (tVi 16))] tPGom1 (.agg tPGob0) ⟨[(77, tPGob3), (31, [(tVi 17), (tSl 9 18 19), (tSl 10 20 21)])], ⟨39, 3, 4, 30, 15⟩⟩ (.gen (.call ⟨(.builtin .append), #[(.tmp 91), (.tmp 95)], #[52, 52]⟩) 52 [(91, (.lf (tSl 8 16 17))), (95, (.lf (.nsl 2 0 1 1)))] ⟨[(77, tPGob3), (31, [(tVi 17), (tSl 9 18 19), (tSl 10 20 21)]), (41, tPGob0)], ⟨39, 3, 4, 30, 15⟩⟩ (.some (.lf (tSl 15 30 31))) tPGom0 (.again 14 ⟨[], [], [], [(.var 30), (.var 31)], [(.var 15)]⟩ tPGom0))) (.again 14 ⟨[], [], [], [(.var 16), (.var 17)], [(.var 8)]⟩ tPGom1))))) (.again 9 ⟨[(.op .add .i64 (.var 15) (.lit 1))], [], [], [(.var 18), (.var 19)], [(.var 9)]⟩ ⟨[(77, tPGob3)], ⟨16, 2, 4, 20, 10⟩⟩)) (.done (.lf (tSl 8 16 17)) ⟨[(77, [(tVi 8), (tSl 4 8 9), (tVi 9), (tVi 10), (tVi 11), (tVi 12), (tVi 13), (tSl 5 10 11), (.val 2), (tVi 14), (.val 3), .nilsl, (tSl 7 14 15), (.bool (.var 1))])], ⟨16, 2, 4, 18, 9⟩⟩))))) := by kernel_rfl
abbrev tPPromb0 : List LV := [(tLi 2), (tLi 0), (tLi 0), (tLi 0), (tVi 8), (tVi 9), (tVi 10), (tVi 11), (tLi 0), (tLi 0), .nilsl, .nilsl, (tSl 4 8 9), (tLi 0), (tLi 0), (tLi 0), (tLi 0), (tLi 0), (tLi 0), (tLi 0), (tLi 0), (tLi 0), (tLi 0), (tLi 0), .nilsl]
abbrev tPPromb1 : List LV := [(tVi 14), (tSl 5 10 11), (tVi 15), (tVi 16), (tVi 17), (tVi 18), (tVi 19), (tSl 6 12 13), (.val 2), (tVi 20), (.val 3), (tSl 7 14 15), (tSl 8 16 17), (.bool (.var 2))]
abbrev tPPromb2 : List LV := [(tVi 15), (tSl 6 12 13), (tVi 16), (tVi 17), (tVi 18), (tVi 19), (tVi 20), (tSl 7 14 15), (.val 2), (tVi 21), (.val 3), (tSl 8 16 17), (tSl 9 18 19), (.bool (.var 3))]
abbrev tPPromb3 : List LV := [(tVi 13), (tSl 5 10 11), (tVi 14), (tVi 15), (tVi 16), (tVi 17), (tVi 18), (tSl 6 12 13), (.val 2), (tVi 19), (.val 3), (tSl 7 14 15), (tSl 8 16 17), (.bool (.var 2))]
abbrev tPPromb4 : List LV := [(tVi 14), (tSl 6 12 13), (tVi 15), (tVi 16), (tVi 17), (tVi 18), (tVi 19), (tSl 7 14 15), (.val 2), (tVi 20), (.val 3), (tSl 8 16 17), (tSl 9 18 19), (.bool (.var 3))]
abbrev tPPromb5 : List LV := [(tVi 0), (tSl 0 0 1), (tVi 1), (tVi 2), (tVi 3), (tVi 4), (tVi 5), (tSl 5 10 11), (.val 0), (tVi 6), (.val 1), (tSl 2 4 5), (tSl 3 6 7), (.bool (.var 0))]
abbrev tPPromb6 : List LV := [(tVi 0), (tSl 0 0 1), (tVi 1), (tVi 2), (tVi 3), (tVi 4), (tVi 5), (tSl 1 2 3), (.val 0), (tVi 6), (.val 1), (tSl 2 4 5), (tSl 3 6 7), (.bool (.var 0))]
abbrev tPPromb7 : List LV := [(tVi 15), (tVi 16), (tVi 17), (tVi 18), (tSl 6 12 13), (tSl 7 14 15)]
abbrev tPPromb8 : List LV := [(tVi 14), (tVi 15), (tVi 16), (tVi 17), (tSl 6 12 13), (tSl 7 14 15)]
abbrev tPPromm0 : Mem := ⟨[(77, tPPromb5), (41, tPPromb0), (3, [(tVi 7)]), (49, tPPromb7)], ⟨23, 2, 2, 20, 10⟩⟩
abbrev tPPromm1 : Mem := ⟨[(77, tPPromb5), (41, tPPromb0), (3, [(tVi 7)]), (49, tPPromb7)], ⟨24, 2, 2, 20, 10⟩⟩
abbrev tPPromm2 : Mem := ⟨[(77, tPPromb5), (41, tPPromb0), (3, [(tVi 7)]), (49, tPPromb7)], ⟨25, 2, 2, 24, 12⟩⟩
abbrev tPPromm3 : Mem := ⟨[(77, tPPromb5), (41, tPPromb0), (3, [(tVi 7)]), (49, tPPromb8)], ⟨22, 2, 2, 20, 10⟩⟩
abbrev tPPromm4 : Mem := ⟨[(77, tPPromb5), (41, tPPromb0), (3, [(tVi 7)]), (49, tPPromb8)], ⟨23, 2, 2, 20, 10⟩⟩
abbrev tPPromm5 : Mem := ⟨[(77, tPPromb5), (41, tPPromb0), (3, [(tVi 7)]), (49, tPPromb8)], ⟨24, 2, 2, 24, 12⟩⟩
abbrev tPPromm6 : Mem := ⟨[(77, tPPromb2), (41, tPPromb0), (3, [(tVi 7)])], ⟨22, 4, 4, 20, 10⟩⟩
abbrev tPPromm7 : Mem := ⟨[(77, tPPromb4), (41, tPPromb0), (3, [(tVi 7)])], ⟨21, 4, 4, 20, 10⟩⟩
abbrev tPPromm8 : Mem := ⟨[(77, tPPromb5), (41, tPPromb0), (3, [(tVi 7)])], ⟨14, 2, 2, 12, 6⟩⟩
abbrev tPPromm9 : Mem := ⟨[(77, tPPromb5), (41, tPPromb0), (3, [(tVi 7)])], ⟨15, 2, 2, 12, 6⟩⟩
abbrev tPPromm10 : Mem := ⟨[(77, tPPromb5), (41, tPPromb0), (3, [(tVi 7)])], ⟨15, 3, 2, 12, 6⟩⟩
abbrev tPPromm11 : Mem := ⟨[(77, tPPromb5), (41, tPPromb0), (3, [(tVi 7)])], ⟨14, 3, 2, 12, 6⟩⟩
abbrev tPPromm12 : Mem := ⟨[(77, tPPromb6), (41, tPPromb0)], ⟨13, 1, 2, 10, 5⟩⟩
abbrev tPPromm13 : Mem := ⟨[(77, tPPromb6), (41, tPPromb0)], ⟨13, 2, 2, 10, 5⟩⟩
abbrev tPPromm14 : Mem := ⟨[(77, tPPromb6), (41, tPPromb0)], ⟨14, 2, 2, 10, 5⟩⟩
abbrev tPPromm15 : Mem := ⟨[(77, tPPromb1), (41, tPPromb0)], ⟨21, 3, 4, 18, 9⟩⟩
abbrev tPPromm16 : Mem := ⟨[(77, tPPromb3), (41, tPPromb0)], ⟨20, 3, 4, 18, 9⟩⟩
set_option maxRecDepth 100000 in
theorem tPProm : (runF ⟨tt, fns, { cur := [0], touch := [(28, [0]), (43, [0])], loops := [(14, ⟨[(100, .int .i64)], []⟩)], joins := [(18, ⟨[], []⟩)] }⟩ (Try.f13.body.getD .skip) Try.f13.results.toList (entry Try.f13.ntmps [.lf (.ptr 0 0), .lf (.int .i64 (.var 7)), .agg [.int .i64 (.lit 2), .int .i64 (.lit 0), .int .i64 (.lit 0), .int .i64 (.lit 0), .int .i64 (.var 8), .int .i64 (.var 9), .int .i64 (.var 10), .int .i64 (.var 11), .int .i64 (.lit 0), .int .i64 (.lit 0), .nilsl, .nilsl, .sl 4 (.var 8) (.var 9), .int .i64 (.lit 0), .int .i64 (.lit 0), .int .i64 (.lit 0), .int .i64 (.lit 0), .int .i64 (.lit 0), .int .i64 (.lit 0), .int .i64 (.lit 0), .int .i64 (.lit 0), .int .i64 (.lit 0), .int .i64 (.lit 0), .int .i64 (.lit 0), .nilsl]] [(77, [.int .i64 (.var 0), .sl 0 (.var 0) (.var 1), .int .i64 (.var 1), .int .i64 (.var 2), .int .i64 (.var 3), .int .i64 (.var 4), .int .i64 (.var 5), .sl 1 (.var 2) (.var 3), .val 0, .int .i64 (.var 6), .val 1, .sl 2 (.var 4) (.var 5), .sl 3 (.var 6) (.var 7), .bool (.var 0)])] ⟨12, 1, 2, 10, 5⟩)) =
  (.call 39 [(.agg tPPromb0)] ⟨[(77, tPPromb6), (41, tPPromb0)], ⟨12, 1, 2, 10, 5⟩⟩ (.lf (tVi 12)) tPPromm12 (.br (.cmp .neq (.var 12) (.lit 0)) (.done (.tup [(.false, [(.bool (.lit .false))]), (.false, [(tLi 1)])]) tPPromm12) (.br (.cmp .neq (.var 2) (.lit 1)) (.done (.tup [(.false, [(.bool (.lit .false))]), (.false, [(tLi 60)])]) tPPromm12) (.br (.not (.and (.cmp .eql (.var 8) (.var 3)) (.cmp .eql (.var 9) (.var 4)))) (.done (.tup [(.false, [(.bool (.lit .false))]), (.false, [(tLi 60)])]) tPPromm12) (.br (.cmp .neq (.var 10) (.var 5)) (.done (.tup [(.false, [(.bool (.lit .false))]), (.false, [(tLi 60)])]) tPPromm12) (.call 40 [(.lf (tSl 0 0 1)), (.lf (tVi 7))] tPPromm12 (.lf (.bool (.var 1))) tPPromm13 (.br (.not (.var 1)) (.done (.tup [(.false, [(.bool (.lit .false))]), (.false, [(tLi 24)])]) tPPromm13) (.br (.cmp .gtr (.nat 8) (.lit 0)) (.need (.inb 4 (.op .sub .i64 (.nat 8) (.lit 1)) (.nat 8)) (.ld .false (.adr 4 (.op .sub .i64 (.nat 8) (.lit 1)) 6 0) [(tVi 13)] tPPromm13 tPPromm14 (.br (.cmp .geq (.op .sub .i64 (.var 13) (.var 5)) (.lit 64)) (.done (.tup [(.false, [(.bool (.lit .false))]), (.false, [(tLi 61)])]) tPPromm14) (.br (.cmp .geq (.var 11) (.var 5)) (.call 28 [(.lf (.ptr 0 0))] tPPromm14 (.tup []) tPPromm15 (.done (.tup [(.false, [(.bool (.lit .false))]), (.false, [(tLi 66)])]) tPPromm15)) (.gen (.call ⟨(.builtin .append), #[(.tmp 91), (.tmp 93)], #[26, 26]⟩) 26 [(91, (.lf (tSl 1 2 3))), (93, (.lf (.nsl 2 0 1 1)))] ⟨[(77, tPPromb6), (41, tPPromb0), (3, [(tVi 7)])], ⟨14, 2, 2, 10, 5⟩⟩ (.some (.lf (tSl 5 10 11))) ⟨[(77, tPPromb6), (41, tPPromb0), (3, [(tVi 7)])], ⟨14, 2, 2, 12, 6⟩⟩ (.loop 14 ⟨[(.lit 0)], [], [], [], []⟩ tPPromm8 tPPromm9 (.br (.cmp .lss (.var 14) (.nat 8)) (.join 18 tPPromm9 tPPromm9 (.need (.inb 4 (.var 14) (.nat 8)) (.ld .false (.adr 4 (.var 14) 6 0) tPPromb7 tPPromm9 ⟨[(77, tPPromb5), (41, tPPromb0), (3, [(tVi 7)])], ⟨19, 2, 2, 16, 8⟩⟩ (.gen (.lookup 74 (.tmp 109) (.tmp 111) .false) 49 [(109, (.lf (.val 0))), (111, (.lf (tVi 15)))] ⟨[(77, tPPromb5), (41, tPPromb0), (3, [(tVi 7)]), (49, tPPromb7)], ⟨19, 2, 2, 16, 8⟩⟩ (.some (.agg [(tVi 19), (tVi 20), (tVi 21), (tVi 22), (tSl 8 16 17), (tSl 9 18 19)])) tPPromm0 (.call 30 [(.agg [(tVi 16), (tVi 17)]), (.agg [(tVi 20), (tVi 21)])] tPPromm0 (.lf (tVi 23)) tPPromm1 (.br (.cmp .gtr (.var 23) (.lit 0)) (.call 41 [(.agg [(tVi 18), (tSl 6 12 13), (tSl 7 14 15)])] tPPromm1 (.agg [(tVi 24), (tSl 10 20 21), (tSl 11 22 23)]) tPPromm2 (.gen (.mapUpdate 74 (.tmp 119) (.tmp 121) (.tmp 129)) 0 [(119, (.lf (.val 0))), (121, (.lf (tVi 15))), (129, (.agg [(tVi 15), (tVi 16), (tVi 17), (tVi 24), (tSl 10 20 21), (tSl 11 22 23)]))] tPPromm2 .none tPPromm2 (.again 18 ⟨[], [], [], [], []⟩ tPPromm2))) (.again 18 ⟨[], [], [], [], []⟩ tPPromm1)))))) (.again 14 ⟨[(.op .add .i64 (.var 14) (.lit 1))], [], [], [], []⟩ tPPromm9)) (.call 42 [(.lf (tSl 0 0 1)), (.lf (tSl 5 10 11))] tPPromm9 (.lf (.bool (.var 2))) tPPromm10 (.br (.not (.var 2)) (.done (.tup [(.false, [(.bool (.lit .false))]), (.false, [(tLi 0)])]) tPPromm10) (.call 43 [(.lf (.ptr 0 0))] tPPromm10 (.tup []) tPPromm6 (.done (.tup [(.false, [(.bool (.lit .true))]), (.false, [(tLi 0)])]) tPPromm6))))))))))) (.br (.cmp .geq (.var 11) (.var 5)) (.call 28 [(.lf (.ptr 0 0))] tPPromm13 (.tup []) tPPromm16 (.done (.tup [(.false, [(.bool (.lit .false))]), (.false, [(tLi 66)])]) tPPromm16)) (.gen (.call ⟨(.builtin .append), #[(.tmp 91), (.tmp 93)], #[26, 26]⟩) 26 [(91, (.lf (tSl 1 2 3))), (93, (.lf (.nsl 2 0 1 1)))] ⟨[(77, tPPromb6), (41, tPPromb0), (3, [(tVi 7)])], ⟨13, 2, 2, 10, 5⟩⟩ (.some (.lf (tSl 5 10 11))) ⟨[(77, tPPromb6), (41, tPPromb0), (3, [(tVi 7)])], ⟨13, 2, 2, 12, 6⟩⟩ (.loop 14 ⟨[(.lit 0)], [], [], [], []⟩ ⟨[(77, tPPromb5), (41, tPPromb0), (3, [(tVi 7)])], ⟨13, 2, 2, 12, 6⟩⟩ tPPromm8 (.br (.cmp .lss (.var 13) (.nat 8)) (.join 18 tPPromm8 tPPromm8 (.need (.inb 4 (.var 13) (.nat 8)) (.ld .false (.adr 4 (.var 13) 6 0) tPPromb8 tPPromm8 ⟨[(77, tPPromb5), (41, tPPromb0), (3, [(tVi 7)])], ⟨18, 2, 2, 16, 8⟩⟩ (.gen (.lookup 74 (.tmp 109) (.tmp 111) .false) 49 [(109, (.lf (.val 0))), (111, (.lf (tVi 14)))] ⟨[(77, tPPromb5), (41, tPPromb0), (3, [(tVi 7)]), (49, tPPromb8)], ⟨18, 2, 2, 16, 8⟩⟩ (.some (.agg [(tVi 18), (tVi 19), (tVi 20), (tVi 21), (tSl 8 16 17), (tSl 9 18 19)])) tPPromm3 (.call 30 [(.agg [(tVi 15), (tVi 16)]), (.agg [(tVi 19), (tVi 20)])] tPPromm3 (.lf (tVi 22)) tPPromm4 (.br (.cmp .gtr (.var 22) (.lit 0)) (.call 41 [(.agg [(tVi 17), (tSl 6 12 13), (tSl 7 14 15)])] tPPromm4 (.agg [(tVi 23), (tSl 10 20 21), (tSl 11 22 23)]) tPPromm5 (.gen (.mapUpdate 74 (.tmp 119) (.tmp 121) (.tmp 129)) 0 [(119, (.lf (.val 0))), (121, (.lf (tVi 14))), (129, (.agg [(tVi 14), (tVi 15), (tVi 16), (tVi 23), (tSl 10 20 21), (tSl 11 22 23)]))] tPPromm5 .none tPPromm5 (.again 18 ⟨[], [], [], [], []⟩ tPPromm5))) (.again 18 ⟨[], [], [], [], []⟩ tPPromm4)))))) (.again 14 ⟨[(.op .add .i64 (.var 13) (.lit 1))], [], [], [], []⟩ tPPromm8)) (.call 42 [(.lf (tSl 0 0 1)), (.lf (tSl 5 10 11))] tPPromm8 (.lf (.bool (.var 2))) tPPromm11 (.br (.not (.var 2)) (.done (.tup [(.false, [(.bool (.lit .false))]), (.false, [(tLi 0)])]) tPPromm11) (.call 43 [(.lf (.ptr 0 0))] tPPromm11 (.tup []) tPPromm7 (.done (.tup [(.false, [(.bool (.lit .true))]), (.false, [(tLi 0)])]) tPPromm7)))))))))))))))) := by kernel_rfl
end Go.Proofs.Ytlgpjjgkdpmidaa

namespace Go.Proofs.Ytlgpjjgkdpmidaa
open Go.Eng
set_option maxRecDepth 100000
abbrev tPAgainb0 : List LV := [(tVi 11), (tVi 12), (tVi 13), (tVi 14), (tVi 15), (tVi 16), (tVi 17), (tVi 18), (tVi 19), (tVi 20), (tSl 9 18 19), (tSl 10 20 21), (tSl 11 22 23), (tVi 21), (tVi 22), (tVi 23), (tVi 24), (tVi 25), (tVi 26), (tVi 27), (tVi 28), (tVi 29), (tVi 30), (tVi 31), (tSl 12 24 25)]
abbrev tPAgainb1 : List LV := [(tVi 7), (tVi 8), (tVi 9), (tVi 10), (tVi 11), (tVi 12), (tVi 13), (tVi 14), (tVi 15), (tVi 16), (tSl 4 8 9), (tSl 5 10 11), (tSl 6 12 13), (tVi 17), (tVi 18), (tVi 19), (tVi 20), (tVi 21), (tVi 22), (tVi 23), (tVi 24), (tVi 25), (tVi 26), (tVi 27), (tSl 7 14 15)]
abbrev tPAgainb2 : List LV := [(tVi 0), (tSl 0 0 1), (tVi 1), (tVi 2), (tVi 3), (tVi 4), (tVi 5), (tSl 1 2 3), (.val 0), (tVi 6), (.val 1), (tSl 2 4 5), (tSl 3 6 7), (.bool (.var 0))]
abbrev tPAgainm0 : Mem := ⟨[(77, tPAgainb2), (41, tPAgainb0)], ⟨32, 3, 3, 28, 14⟩⟩
set_option maxRecDepth 100000 in
theorem tPAgain : (runF ⟨tt, fns, { gen := [(27, .nxt [.lf (.int .i64), .agg [.int .i64, .sl, .sl]]), (29, .tup [.lf (.int .i64), .agg [.int .i64, .sl, .sl]])], loops := [(7, ⟨[(3, .sl)], []⟩)] }⟩ (Try.f25.body.getD .skip) Try.f25.results.toList (entry Try.f25.ntmps [.lf (.ptr 0 0)] [(77, [.int .i64 (.var 0), .sl 0 (.var 0) (.var 1), .int .i64 (.var 1), .int .i64 (.var 2), .int .i64 (.var 3), .int .i64 (.var 4), .int .i64 (.var 5), .sl 1 (.var 2) (.var 3), .val 0, .int .i64 (.var 6), .val 1, .sl 2 (.var 4) (.var 5), .sl 3 (.var 6) (.var 7), .bool (.var 0)])] ⟨7, 1, 2, 8, 4⟩)) =
  (.br (.cmp .eql (.var 2) (.lit 0)) (.done (.lf .nilsl) ⟨[(77, tPAgainb2)], ⟨7, 1, 2, 8, 4⟩⟩) (.br (.cmp .eql (.var 2) (.lit 1)) (.call 31 [(.lf (.ptr 0 0))] ⟨[(77, tPAgainb2)], ⟨7, 1, 2, 8, 4⟩⟩ (.agg tPAgainb1) ⟨[(77, tPAgainb2)], ⟨28, 1, 2, 16, 8⟩⟩ (.done (.lf (.nsl 1 0 1 1)) ⟨[(77, tPAgainb2), (41, tPAgainb1)], ⟨28, 1, 2, 16, 8⟩⟩)) (.gen (.range 75 (.tmp 25)) 0 [(25, (.lf (.val 1)))] ⟨[(77, tPAgainb2)], ⟨7, 1, 2, 8, 4⟩⟩ (.some (.lf (.val 2))) ⟨[(77, tPAgainb2)], ⟨7, 1, 3, 8, 4⟩⟩ (.loop 7 ⟨[], [], [], [(.lit 0), (.lit 0)], [.nil]⟩ ⟨[(77, tPAgainb2)], ⟨7, 1, 3, 8, 4⟩⟩ ⟨[(77, tPAgainb2)], ⟨7, 1, 3, 10, 5⟩⟩ (.gen (.next (.tmp 26) .false) 0 [(26, (.lf (.val 2)))] ⟨[(77, tPAgainb2)], ⟨7, 1, 3, 10, 5⟩⟩ (.some (.nxt (.var 1) [(.false, [(tVi 7)]), (.true, [(tVi 8), (tSl 5 10 11), (tSl 6 12 13)])])) ⟨[(77, tPAgainb2)], ⟨9, 2, 3, 14, 7⟩⟩ (.br (.var 1) (.gen (.entry (.tmp 26)) 0 [(26, (.lf (.val 2)))] ⟨[(77, tPAgainb2)], ⟨9, 2, 3, 14, 7⟩⟩ (.some (.tup [(.false, [(tVi 9)]), (.true, [(tVi 10), (tSl 7 14 15), (tSl 8 16 17)])])) ⟨[(77, tPAgainb2)], ⟨11, 2, 3, 18, 9⟩⟩ (.call 27 [(.lf (tSl 2 4 5)), (.lf (tVi 9))] ⟨[(77, tPAgainb2)], ⟨11, 2, 3, 18, 9⟩⟩ (.lf (.bool (.var 2))) ⟨[(77, tPAgainb2)], ⟨11, 3, 3, 18, 9⟩⟩ (.br (.not (.var 2)) (.call 45 [(.lf (.ptr 0 0)), (.lf (tVi 9))] ⟨[(77, tPAgainb2)], ⟨11, 3, 3, 18, 9⟩⟩ (.agg tPAgainb0) ⟨[(77, tPAgainb2)], ⟨32, 3, 3, 26, 13⟩⟩ (.gen (.call ⟨(.builtin .append), #[(.tmp 38), (.tmp 42)], #[52, 52]⟩) 52 [(38, (.lf (tSl 4 8 9))), (42, (.lf (.nsl 1 0 1 1)))] ⟨[(77, tPAgainb2), (41, tPAgainb0)], ⟨32, 3, 3, 26, 13⟩⟩ (.some (.lf (tSl 13 26 27))) tPAgainm0 (.again 7 ⟨[], [], [], [(.var 26), (.var 27)], [(.var 13)]⟩ tPAgainm0))) (.again 7 ⟨[], [], [], [(.var 8), (.var 9)], [(.var 4)]⟩ ⟨[(77, tPAgainb2)], ⟨11, 3, 3, 18, 9⟩⟩)))) (.call 48 [(.lf (tSl 4 8 9)), (.lf (.fnv 49 []))] ⟨[(77, tPAgainb2)], ⟨9, 2, 3, 14, 7⟩⟩ (.tup []) ⟨[(77, tPAgainb2)], ⟨9, 2, 3, 14, 7⟩⟩ (.done (.lf (tSl 4 8 9)) ⟨[(77, tPAgainb2)], ⟨9, 2, 3, 14, 7⟩⟩)))))))) := by kernel_rfl
abbrev tLPAgainb0 : List LV := [(.bool (.var 23)), (.bool (.var 24)), (.bool (.var 25)), (.bool (.var 26)), (.bool (.var 27)), (.bool (.var 28)), (.bool (.var 29)), (.bool (.var 30)), (.bool (.var 31)), (.bool (.var 32)), (.bool (.var 33)), (.bool (.var 34)), (.bool (.var 35)), (.bool (.var 36)), (.bool (.var 37)), (.bool (.var 38)), (.bool (.var 39)), (.bool (.var 40)), (.bool (.var 41)), (.bool (.var 42))]
abbrev tLPAgainb1 : List LV := [(.bool (.var 2)), (.bool (.var 3)), (.bool (.var 4)), (.bool (.var 5)), (.bool (.var 6)), (.bool (.var 7)), (.bool (.var 8)), (.bool (.var 9)), (.bool (.var 10)), (.bool (.var 11)), (.bool (.var 12)), (.bool (.var 13)), (.bool (.var 14)), (.bool (.var 15)), (.bool (.var 16)), (.bool (.var 17)), (.bool (.var 18)), (.bool (.var 19)), (.bool (.var 20)), (.bool (.var 21))]
abbrev tLPAgainb2 : List LV := [(tVi 50), (tVi 51), (tVi 52), (tVi 53), (tVi 54), (tVi 55), (tVi 56), (tVi 57), (tVi 58), (tVi 59), (tSl 13 26 27), (tSl 14 28 29), (tSl 15 30 31), (tVi 60), (tVi 61), (tVi 62), (tVi 63), (tVi 64), (tVi 65), (tVi 66), (tVi 67), (tVi 68), (tVi 69), (tVi 70), (tSl 16 32 33)]
abbrev tLPAgainb3 : List LV := [(tVi 23), (tVi 24), (tVi 25), (tVi 26), (tVi 27), (tVi 28), (tVi 29), (tVi 30), (tVi 31), (tVi 32), (tSl 6 12 13), (tSl 7 14 15), (tSl 8 16 17), (tVi 33), (tVi 34), (tVi 35), (tVi 36), (tVi 37), (tVi 38), (tVi 39), (tVi 40), (tVi 41), (tVi 42), (tVi 43), (tSl 9 18 19)]
abbrev tLPAgainm0 : Mem := ⟨[(28, [(tLi 2), (tLi 1)]), (69, tLPAgainb1), (41, tLPAgainb2)], ⟨71, 22, 1, 34, 17⟩⟩
abbrev tLPAgainm1 : Mem := ⟨[(28, [(tLi 2), (tLi 1)]), (69, tLPAgainb1), (41, tLPAgainb2)], ⟨71, 23, 1, 34, 17⟩⟩
abbrev tLPAgainm2 : Mem := ⟨[(28, [(tLi 2), (tLi 1)]), (69, tLPAgainb1)], ⟨48, 22, 1, 24, 12⟩⟩
abbrev tLPAgainm3 : Mem := ⟨[(28, [(tLi 2), (tLi 1)]), (69, tLPAgainb1)], ⟨49, 22, 1, 24, 12⟩⟩
abbrev tLPAgainm4 : Mem := ⟨[(28, [(tLi 2), (tLi 1)]), (69, tLPAgainb1)], ⟨49, 23, 1, 24, 12⟩⟩
abbrev tLPAgainm5 : Mem := ⟨[(28, [(tLi 2), (tLi 1)]), (69, tLPAgainb0)], ⟨49, 43, 1, 24, 12⟩⟩
abbrev tLPAgainm6 : Mem := ⟨[(28, [(tLi 2), (tLi 1)]), (69, tLPAgainb1)], ⟨48, 22, 1, 26, 13⟩⟩
abbrev tLPAgainm7 : Mem := ⟨[(28, [(tLi 2), (tLi 1)]), (69, tLPAgainb1)], ⟨50, 22, 1, 26, 13⟩⟩
abbrev tLPAgainm8 : Mem := ⟨[(28, [(tLi 2), (tLi 1)]), (69, tLPAgainb1)], ⟨50, 22, 1, 28, 14⟩⟩
abbrev tLPAgainm9 : Mem := ⟨[(28, [(tLi 2), (tLi 1)])], ⟨44, 1, 1, 20, 10⟩⟩
abbrev tLPAgainm10 : Mem := ⟨[(28, [(tLi 2), (tLi 1)])], ⟨45, 2, 1, 20, 10⟩⟩
abbrev tLPAgainm11 : Mem := ⟨[(28, [(tLi 2), (tLi 1)])], ⟨46, 2, 1, 20, 10⟩⟩
abbrev tLPAgainm12 : Mem := ⟨[(28, [(tLi 2), (tLi 1)])], ⟨47, 2, 1, 20, 10⟩⟩
abbrev tLPAgainm13 : Mem := ⟨[(28, [(tLi 2), (tLi 1)])], ⟨46, 2, 1, 22, 11⟩⟩
abbrev tLPAgainm14 : Mem := ⟨[(28, [(tLi 2), (tLi 1)])], ⟨46, 2, 1, 24, 12⟩⟩
abbrev tLPAgainm15 : Mem := ⟨[(28, [(tLi 2), (tLi 1)])], ⟨23, 1, 1, 12, 6⟩⟩
set_option maxRecDepth 100000 in
theorem tLPAgain : (runF ⟨tt, fns, { lits := true, cur := [12], loops := [(9, ⟨[(7, .int .i64)], []⟩), (17, ⟨[(53, .int .i64), (9, .int .i64)], [1]⟩), (27, ⟨[(82, .int .i64), (13, .int .i64)], []⟩)] }⟩ (Try.f6.body.getD .skip) Try.f6.results.toList (entry Try.f6.ntmps [.lf (.int .i64 (.var 0)), .lf (.sl 0 (.var 0) (.var 1))] [] ⟨1, 0, 0, 2, 1⟩)) =
  (.call 7 [] ⟨[], ⟨1, 0, 0, 2, 1⟩⟩ (.lf (.bool (.var 0))) ⟨[], ⟨1, 1, 0, 2, 1⟩⟩ (.br (.not (.var 0)) (.done (.lf (.bool (.lit .false))) ⟨[], ⟨1, 1, 0, 2, 1⟩⟩) (.gen (.buildSlice 26 1 #[(0, (.const (.int .i64 1)))]) 26 [] ⟨[], ⟨1, 1, 0, 2, 1⟩⟩ (.some (.lf (tSl 1 2 3))) ⟨[], ⟨1, 1, 0, 4, 2⟩⟩ (.call 8 [(.lf (tLi 1)), (.lf (tSl 1 2 3)), (.lf (tLi 16))] ⟨[], ⟨1, 1, 0, 4, 2⟩⟩ (.lf (.val 0)) ⟨[], ⟨1, 1, 1, 4, 2⟩⟩ (.call 9 [(.lf (.val 0)), (.agg [(tLi 2), (tLi 1)]), (.lf (tLi 1))] ⟨[(28, [(tLi 2), (tLi 1)])], ⟨1, 1, 1, 4, 2⟩⟩ (.tup [(.true, [(tVi 1), (tVi 2), (tVi 3), (tVi 4), (tVi 5), (tVi 6), (tVi 7), (tVi 8), (tVi 9), (tVi 10), (tSl 2 4 5), (tSl 3 6 7), (tSl 4 8 9), (tVi 11), (tVi 12), (tVi 13), (tVi 14), (tVi 15), (tVi 16), (tVi 17), (tVi 18), (tVi 19), (tVi 20), (tVi 21), (tSl 5 10 11)]), (.false, [(tVi 22)])]) tLPAgainm15 (.call 10 [(.agg [(tLi 2), (tLi 1)]), (.lf (tLi 1)), (.lf (tLi 0)), (.lf .nilsl)] tLPAgainm15 (.agg tLPAgainb3) tLPAgainm9 (.call 13 [(.lf (.val 0)), (.lf (tLi 1)), (.agg tLPAgainb3)] tLPAgainm9 (.tup [(.false, [(.bool (.var 1))]), (.false, [(tVi 44)])]) tLPAgainm10 (.loop 9 ⟨[(.lit 0)], [], [], [], []⟩ tLPAgainm10 tLPAgainm11 (.br (.cmp .lss (.var 45) (.op .and .i64 (.var 0) (.lit 15))) (.call 17 [(.lf (.val 0)), (.agg [(tLi 0), .nilsl, .nilsl])] tLPAgainm11 (.lf (tVi 46)) tLPAgainm12 (.again 9 ⟨[(.op .add .i64 (.var 45) (.lit 1))], [], [], [], []⟩ tLPAgainm12)) (.call 25 [(.lf (.val 0))] tLPAgainm11 (.lf (tSl 10 20 21)) tLPAgainm13 (.br (.cmp .neq (.nat 20) (.lit 0)) (.done (.lf (.bool (.lit .false))) tLPAgainm13) (.call 14 [(.lf (.val 0)), (.lf (tLi 0))] tLPAgainm13 (.lf (tSl 11 22 23)) tLPAgainm14 (.br (.cmp .neq (.nat 22) (.op .and .i64 (.var 0) (.lit 15))) (.done (.lf (.bool (.lit .false))) tLPAgainm14) (.loop 17 ⟨[(.lit 0), (.op .and .i64 (.var 0) (.lit 15))], [(.lit .false), (.lit .false), (.lit .false), (.lit .false), (.lit .false), (.lit .false), (.lit .false), (.lit .false), (.lit .false), (.lit .false), (.lit .false), (.lit .false), (.lit .false), (.lit .false), (.lit .false), (.lit .false), (.lit .false), (.lit .false), (.lit .false), (.lit .false)], [], [], []⟩ ⟨[(28, [(tLi 2), (tLi 1)]), (69, [(.bool (.lit .false)), (.bool (.lit .false)), (.bool (.lit .false)), (.bool (.lit .false)), (.bool (.lit .false)), (.bool (.lit .false)), (.bool (.lit .false)), (.bool (.lit .false)), (.bool (.lit .false)), (.bool (.lit .false)), (.bool (.lit .false)), (.bool (.lit .false)), (.bool (.lit .false)), (.bool (.lit .false)), (.bool (.lit .false)), (.bool (.lit .false)), (.bool (.lit .false)), (.bool (.lit .false)), (.bool (.lit .false)), (.bool (.lit .false))])], ⟨46, 2, 1, 24, 12⟩⟩ tLPAgainm2 (.br (.cmp .lss (.var 46) (.nat 0)) (.need (.inb 0 (.var 46) (.nat 0)) (.ld .false (.adr 0 (.var 46) 1 0) [(tVi 48)] tLPAgainm2 tLPAgainm3 (.call 19 [(.lf (.val 0)), (.lf (tVi 48))] tLPAgainm3 (.tup []) tLPAgainm3 (.br (.cmp .geq (.var 48) (.lit 1)) (.br (.cmp .leq (.var 48) (.op .and .i64 (.var 0) (.lit 15))) (.need (.inr (.var 48) (.lit 20)) (.ld .true (.pix 1 0 1 (.var 48)) [(.bool (.var 22))] tLPAgainm3 tLPAgainm4 (.br (.not (.var 22)) (.need (.inr (.var 48) (.lit 20)) (.gen (.store 4 (.tmp 74) (.const (.bool .true))) 0 [(74, (.lf (.pix 1 0 1 (.var 48))))] tLPAgainm4 .none tLPAgainm5 (.again 17 ⟨[(.op .add .i64 (.var 46) (.lit 1)), (.op .sub .i64 (.var 47) (.lit 1))], [(.var 23), (.var 24), (.var 25), (.var 26), (.var 27), (.var 28), (.var 29), (.var 30), (.var 31), (.var 32), (.var 33), (.var 34), (.var 35), (.var 36), (.var 37), (.var 38), (.var 39), (.var 40), (.var 41), (.var 42)], [], [], []⟩ tLPAgainm5))) (.again 17 ⟨[(.op .add .i64 (.var 46) (.lit 1)), (.var 47)], [(.var 2), (.var 3), (.var 4), (.var 5), (.var 6), (.var 7), (.var 8), (.var 9), (.var 10), (.var 11), (.var 12), (.var 13), (.var 14), (.var 15), (.var 16), (.var 17), (.var 18), (.var 19), (.var 20), (.var 21)], [], [], []⟩ tLPAgainm4)))) (.again 17 ⟨[(.op .add .i64 (.var 46) (.lit 1)), (.var 47)], [(.var 2), (.var 3), (.var 4), (.var 5), (.var 6), (.var 7), (.var 8), (.var 9), (.var 10), (.var 11), (.var 12), (.var 13), (.var 14), (.var 15), (.var 16), (.var 17), (.var 18), (.var 19), (.var 20), (.var 21)], [], [], []⟩ tLPAgainm3)) (.again 17 ⟨[(.op .add .i64 (.var 46) (.lit 1)), (.var 47)], [(.var 2), (.var 3), (.var 4), (.var 5), (.var 6), (.var 7), (.var 8), (.var 9), (.var 10), (.var 11), (.var 12), (.var 13), (.var 14), (.var 15), (.var 16), (.var 17), (.var 18), (.var 19), (.var 20), (.var 21)], [], [], []⟩ tLPAgainm3))))) (.call 25 [(.lf (.val 0))] tLPAgainm2 (.lf (tSl 12 24 25)) tLPAgainm6 (.loop 27 ⟨[(.lit 0), (.lit 0)], [], [], [], []⟩ tLPAgainm6 tLPAgainm7 (.br (.cmp .lss (.var 48) (.nat 24)) (.need (.inb 12 (.var 48) (.nat 24)) (.ld .true (.adr 12 (.var 48) 25 0) tLPAgainb2 tLPAgainm7 ⟨[(28, [(tLi 2), (tLi 1)]), (69, tLPAgainb1)], ⟨71, 22, 1, 34, 17⟩⟩ (.br (.cmp .leq (.var 56) (.var 49)) (.done (.lf (.bool (.lit .false))) tLPAgainm0) (.br (.cmp .gtr (.var 56) (.op .and .i64 (.var 0) (.lit 15))) (.done (.lf (.bool (.lit .false))) tLPAgainm0) (.need (.inr (.var 56) (.lit 20)) (.ld .true (.pix 1 0 1 (.var 56)) [(.bool (.var 22))] tLPAgainm0 tLPAgainm1 (.br (.var 22) (.done (.lf (.bool (.lit .false))) tLPAgainm1) (.br (.cmp .neq (.var 50) (.lit 4)) (.done (.lf (.bool (.lit .false))) tLPAgainm1) (.br (.not (.and (.cmp .eql (.var 54) (.lit 2)) (.cmp .eql (.var 55) (.lit 1)))) (.done (.lf (.bool (.lit .false))) tLPAgainm1) (.again 27 ⟨[(.op .add .i64 (.var 48) (.lit 1)), (.var 56)], [], [], [], []⟩ tLPAgainm1)))))))))) (.br (.cmp .eql (.nat 24) (.var 47)) (.call 14 [(.lf (.val 0)), (.lf (tLi 0))] tLPAgainm7 (.lf (tSl 13 26 27)) tLPAgainm8 (.done (.lf (.bool (.cmp .eql (.nat 26) (.lit 0)))) tLPAgainm8)) (.done (.lf (.bool (.lit .false))) tLPAgainm7)))))))))))))))))))) := by kernel_rfl
end Go.Proofs.Ytlgpjjgkdpmidaa

namespace Go.Proofs.Ytlgpjjgkdpmidaa
open Go.Eng
set_option maxRecDepth 100000 in
theorem tUses2 : (runF ⟨tt, fns, {}⟩ (Try.f55.body.getD .skip) Try.f55.results.toList (entry Try.f55.ntmps [.lf (.int .i64 (.lit 2))] [] ⟨0, 0, 0, 0, 0⟩)) =
  (.done (.lf (tLi 39)) ⟨[], ⟨0, 0, 0, 0, 0⟩⟩) := by kernel_rfl
set_option maxRecDepth 100000 in
theorem tWithin : (runF ⟨tt, fns, {}⟩ (Try.f56.body.getD .skip) Try.f56.results.toList (entry Try.f56.ntmps [.lf (.int .i64 (.var 0)), .lf (.int .i64 (.var 1)), .lf (.int .i64 (.var 2))] [] ⟨3, 0, 0, 0, 0⟩)) =
  (.br (.cmp .leq (.var 1) (.var 0)) (.done (.lf (.bool (.cmp .leq (.var 0) (.var 2)))) ⟨[], ⟨3, 0, 0, 0, 0⟩⟩) (.done (.lf (.bool (.lit .false))) ⟨[], ⟨3, 0, 0, 0, 0⟩⟩)) := by kernel_rfl
abbrev tBare2b0 : List LV := [(tLi 0), (tLi 0), (tLi 0), (tLi 0), (tLi 0), (tLi 0), (tLi 0), (tLi 0), (tLi 0), (tLi 0), .nilsl, .nilsl, .nilsl, (tLi 0), (tLi 0), (tLi 0), (tLi 0), (tLi 0), (tLi 0), (tLi 0), (tLi 0), (tLi 0), (tLi 0), (tLi 0), .nilsl]
set_option maxRecDepth 100000 in
theorem tBare2 : (runF ⟨tt, fns, {}⟩ (Try.f58.body.getD .skip) Try.f58.results.toList (entry Try.f58.ntmps [.agg [.int .i64 (.lit 2), .int .i64 (.lit 0), .int .i64 (.lit 0), .int .i64 (.lit 0), .int .i64 (.var 0), .int .i64 (.var 1), .int .i64 (.var 2), .int .i64 (.var 3), .int .i64 (.lit 0), .int .i64 (.lit 0), .nilsl, .nilsl, .sl 0 (.var 0) (.var 1), .int .i64 (.lit 0), .int .i64 (.lit 0), .int .i64 (.lit 0), .int .i64 (.lit 0), .int .i64 (.lit 0), .int .i64 (.lit 0), .int .i64 (.lit 0), .int .i64 (.lit 0), .int .i64 (.lit 0), .int .i64 (.lit 0), .int .i64 (.lit 0), .nilsl], .lf (.int .i64 (.lit 39))] [] ⟨4, 0, 0, 2, 1⟩)) =
  (.done (.agg tBare2b0) ⟨[(41, tBare2b0), (41, tBare2b0)], ⟨4, 0, 0, 2, 1⟩⟩) := by kernel_rfl
set_option maxRecDepth 100000 in
theorem tEmpty0 : (runF ⟨tt, fns, {}⟩ (Try.f57.body.getD .skip) Try.f57.results.toList (entry Try.f57.ntmps [.agg [.int .i64 (.lit 0), .int .i64 (.lit 0), .int .i64 (.lit 0), .int .i64 (.lit 0), .int .i64 (.lit 0), .int .i64 (.lit 0), .int .i64 (.lit 0), .int .i64 (.lit 0), .int .i64 (.lit 0), .int .i64 (.lit 0), .nilsl, .nilsl, .nilsl, .int .i64 (.lit 0), .int .i64 (.lit 0), .int .i64 (.lit 0), .int .i64 (.lit 0), .int .i64 (.lit 0), .int .i64 (.lit 0), .int .i64 (.lit 0), .int .i64 (.lit 0), .int .i64 (.lit 0), .int .i64 (.lit 0), .int .i64 (.lit 0), .nilsl]] [] ⟨0, 0, 0, 0, 0⟩)) =
  (.done (.lf (.bool (.lit .true))) ⟨[(41, [(tLi 0), (tLi 0), (tLi 0), (tLi 0), (tLi 0), (tLi 0), (tLi 0), (tLi 0), (tLi 0), (tLi 0), .nilsl, .nilsl, .nilsl, (tLi 0), (tLi 0), (tLi 0), (tLi 0), (tLi 0), (tLi 0), (tLi 0), (tLi 0), (tLi 0), (tLi 0), (tLi 0), .nilsl])], ⟨0, 0, 0, 0, 0⟩⟩) := by kernel_rfl
abbrev tMChk2b0 : List LV := [(tVi 6), (tVi 7), (tVi 8), (tVi 9), (tVi 10), (tVi 11), (tVi 12), (tVi 13), (tVi 14), (tVi 15), (tSl 1 2 3), (tSl 2 4 5), (tSl 3 6 7), (tVi 16), (tVi 17), (tVi 18), (tVi 19), (tVi 20), (tVi 21), (tVi 22), (tVi 23), (tVi 24), (tVi 25), (tVi 26), (tSl 4 8 9)]
abbrev tMChk2b1 : List LV := [(tLi 2), (tLi 0), (tLi 0), (tLi 0), (tVi 0), (tVi 1), (tVi 2), (tVi 3), (tLi 0), (tLi 0), .nilsl, .nilsl, (tSl 0 0 1), (tLi 0), (tLi 0), (tLi 0), (tLi 0), (tLi 0), (tLi 0), (tLi 0), (tLi 0), (tLi 0), (tLi 0), (tLi 0), .nilsl]
set_option maxRecDepth 100000 in
theorem tMChk2 : (runF ⟨tt, fns, {joins := [(5, ⟨[(4, .int .i64)], []⟩), (7, ⟨[], []⟩), (9, ⟨[], []⟩)]}⟩ (Try.f39.body.getD .skip) Try.f39.results.toList (entry Try.f39.ntmps [.agg [.int .i64 (.lit 2), .int .i64 (.lit 0), .int .i64 (.lit 0), .int .i64 (.lit 0), .int .i64 (.var 0), .int .i64 (.var 1), .int .i64 (.var 2), .int .i64 (.var 3), .int .i64 (.lit 0), .int .i64 (.lit 0), .nilsl, .nilsl, .sl 0 (.var 0) (.var 1), .int .i64 (.lit 0), .int .i64 (.lit 0), .int .i64 (.lit 0), .int .i64 (.lit 0), .int .i64 (.lit 0), .int .i64 (.lit 0), .int .i64 (.lit 0), .int .i64 (.lit 0), .int .i64 (.lit 0), .int .i64 (.lit 0), .int .i64 (.lit 0), .nilsl]] [] ⟨4, 0, 0, 2, 1⟩)) =
  (.call 55 [(.lf (tLi 2))] ⟨[(41, tMChk2b1)], ⟨4, 0, 0, 2, 1⟩⟩ (.lf (tVi 4)) ⟨[(41, tMChk2b1)], ⟨5, 0, 0, 2, 1⟩⟩ (.join 5 ⟨[(41, tMChk2b1)], ⟨5, 0, 0, 2, 1⟩⟩ ⟨[(41, tMChk2b1)], ⟨6, 0, 0, 2, 1⟩⟩ (.br (.cmp .neq (.op .and .i64 (.var 4) (.lit 48)) (.lit 0)) (.again 5 ⟨[(.lit 1)], [], [], [], []⟩ ⟨[(41, tMChk2b1)], ⟨5, 0, 0, 2, 1⟩⟩) (.again 5 ⟨[(.lit 0)], [], [], [], []⟩ ⟨[(41, tMChk2b1)], ⟨5, 0, 0, 2, 1⟩⟩)) (.br (.cmp .eql (.var 4) (.lit 0)) (.done (.lf (tLi 26)) ⟨[(41, tMChk2b1)], ⟨6, 0, 0, 2, 1⟩⟩) (.call 56 [(.lf (tLi 0)), (.lf (tLi 0)), (.lf (tLi 9))] ⟨[(41, tMChk2b1)], ⟨6, 0, 0, 2, 1⟩⟩ (.lf (.bool (.var 0))) ⟨[(41, tMChk2b1)], ⟨6, 1, 0, 2, 1⟩⟩ (.br (.not (.var 0)) (.done (.lf (tLi 26)) ⟨[(41, tMChk2b1)], ⟨6, 1, 0, 2, 1⟩⟩) (.call 56 [(.lf (tLi 0)), (.lf (tLi 0)), (.lf (tLi 9))] ⟨[(41, tMChk2b1)], ⟨6, 1, 0, 2, 1⟩⟩ (.lf (.bool (.var 1))) ⟨[(41, tMChk2b1)], ⟨6, 2, 0, 2, 1⟩⟩ (.br (.not (.var 1)) (.done (.lf (tLi 26)) ⟨[(41, tMChk2b1)], ⟨6, 2, 0, 2, 1⟩⟩) (.call 56 [(.lf (tLi 0)), (.lf (tLi 0)), (.lf (tLi 1099511627776))] ⟨[(41, tMChk2b1)], ⟨6, 2, 0, 2, 1⟩⟩ (.lf (.bool (.var 2))) ⟨[(41, tMChk2b1)], ⟨6, 3, 0, 2, 1⟩⟩ (.br (.not (.var 2)) (.done (.lf (tLi 26)) ⟨[(41, tMChk2b1)], ⟨6, 3, 0, 2, 1⟩⟩) (.call 58 [(.agg tMChk2b1), (.lf (tVi 4))] ⟨[(41, tMChk2b1)], ⟨6, 3, 0, 2, 1⟩⟩ (.agg tMChk2b0) ⟨[(41, tMChk2b1)], ⟨27, 3, 0, 10, 5⟩⟩ (.call 57 [(.agg tMChk2b0)] ⟨[(41, tMChk2b1)], ⟨27, 3, 0, 10, 5⟩⟩ (.lf (.bool (.var 3))) ⟨[(41, tMChk2b1)], ⟨27, 4, 0, 10, 5⟩⟩ (.br (.not (.var 3)) (.done (.lf (tLi 26)) ⟨[(41, tMChk2b1)], ⟨27, 4, 0, 10, 5⟩⟩) (.join 7 ⟨[(41, tMChk2b1)], ⟨27, 4, 0, 10, 5⟩⟩ ⟨[(41, tMChk2b1)], ⟨27, 4, 0, 10, 5⟩⟩ (.br (.cmp .neq (.op .and .i64 (.var 4) (.lit 2)) (.lit 0)) (.call 56 [(.lf (tVi 2)), (.lf (tVi 5)), (.lf (tLi 1099511627776))] ⟨[(41, tMChk2b1)], ⟨27, 4, 0, 10, 5⟩⟩ (.lf (.bool (.var 4))) ⟨[(41, tMChk2b1)], ⟨27, 5, 0, 10, 5⟩⟩ (.br (.not (.var 4)) (.done (.lf (tLi 26)) ⟨[(41, tMChk2b1)], ⟨27, 5, 0, 10, 5⟩⟩) (.call 56 [(.lf (tVi 3)), (.lf (tLi 0)), (.lf (tLi 1099511627776))] ⟨[(41, tMChk2b1)], ⟨27, 5, 0, 10, 5⟩⟩ (.lf (.bool (.var 5))) ⟨[(41, tMChk2b1)], ⟨27, 6, 0, 10, 5⟩⟩ (.br (.not (.var 5)) (.done (.lf (tLi 26)) ⟨[(41, tMChk2b1)], ⟨27, 6, 0, 10, 5⟩⟩) (.call 56 [(.lf (tLi 0)), (.lf (tLi 0)), (.lf (tLi 1099511627776))] ⟨[(41, tMChk2b1)], ⟨27, 6, 0, 10, 5⟩⟩ (.lf (.bool (.var 6))) ⟨[(41, tMChk2b1)], ⟨27, 7, 0, 10, 5⟩⟩ (.br (.not (.var 6)) (.done (.lf (tLi 26)) ⟨[(41, tMChk2b1)], ⟨27, 7, 0, 10, 5⟩⟩) (.again 7 ⟨[], [], [], [], []⟩ ⟨[(41, tMChk2b1)], ⟨27, 7, 0, 10, 5⟩⟩))))))) (.call 56 [(.lf (tVi 3)), (.lf (tLi 0)), (.lf (tLi 1099511627776))] ⟨[(41, tMChk2b1)], ⟨27, 4, 0, 10, 5⟩⟩ (.lf (.bool (.var 4))) ⟨[(41, tMChk2b1)], ⟨27, 5, 0, 10, 5⟩⟩ (.br (.not (.var 4)) (.done (.lf (tLi 26)) ⟨[(41, tMChk2b1)], ⟨27, 5, 0, 10, 5⟩⟩) (.call 56 [(.lf (tLi 0)), (.lf (tLi 0)), (.lf (tLi 1099511627776))] ⟨[(41, tMChk2b1)], ⟨27, 5, 0, 10, 5⟩⟩ (.lf (.bool (.var 5))) ⟨[(41, tMChk2b1)], ⟨27, 6, 0, 10, 5⟩⟩ (.br (.not (.var 5)) (.done (.lf (tLi 26)) ⟨[(41, tMChk2b1)], ⟨27, 6, 0, 10, 5⟩⟩) (.again 7 ⟨[], [], [], [], []⟩ ⟨[(41, tMChk2b1)], ⟨27, 6, 0, 10, 5⟩⟩)))))) (.join 9 ⟨[(41, tMChk2b1)], ⟨27, 4, 0, 10, 5⟩⟩ ⟨[(41, tMChk2b1)], ⟨27, 4, 0, 10, 5⟩⟩ (.br (.cmp .neq (.op .and .i64 (.var 4) (.lit 1)) (.lit 0)) (.call 29 [(.agg [(tVi 0), (tVi 1)])] ⟨[(41, tMChk2b1)], ⟨27, 4, 0, 10, 5⟩⟩ (.lf (.bool (.var 4))) ⟨[(41, tMChk2b1)], ⟨27, 5, 0, 10, 5⟩⟩ (.br (.not (.var 4)) (.done (.lf (tLi 27)) ⟨[(41, tMChk2b1)], ⟨27, 5, 0, 10, 5⟩⟩) (.again 9 ⟨[], [], [], [], []⟩ ⟨[(41, tMChk2b1)], ⟨27, 5, 0, 10, 5⟩⟩))) (.again 9 ⟨[], [], [], [], []⟩ ⟨[(41, tMChk2b1)], ⟨27, 4, 0, 10, 5⟩⟩)) (.br (.cmp .neq (.op .and .i64 (.var 4) (.lit 16)) (.lit 0)) (.call 47 [(.agg [(tLi 0), .nilsl, .nilsl])] ⟨[(41, tMChk2b1)], ⟨27, 4, 0, 10, 5⟩⟩ (.lf (tVi 27)) ⟨[(41, tMChk2b1)], ⟨28, 4, 0, 10, 5⟩⟩ (.done (.lf (tVi 27)) ⟨[(41, tMChk2b1)], ⟨28, 4, 0, 10, 5⟩⟩)) (.br (.cmp .neq (.op .and .i64 (.var 4) (.lit 32)) (.lit 0)) (.call 59 [(.lf (tSl 0 0 1)), (.lf (tVi 2))] ⟨[(41, tMChk2b1)], ⟨27, 4, 0, 10, 5⟩⟩ (.lf (tVi 27)) ⟨[(41, tMChk2b1)], ⟨28, 4, 0, 10, 5⟩⟩ (.done (.lf (tVi 27)) ⟨[(41, tMChk2b1)], ⟨28, 4, 0, 10, 5⟩⟩)) (.br (.cmp .neq (.op .and .i64 (.var 4) (.lit 64)) (.lit 0)) (.call 60 [(.agg tMChk2b1)] ⟨[(41, tMChk2b1)], ⟨27, 4, 0, 10, 5⟩⟩ (.lf (tVi 27)) ⟨[(41, tMChk2b1)], ⟨28, 4, 0, 10, 5⟩⟩ (.br (.cmp .neq (.var 27) (.lit 0)) (.done (.lf (tVi 27)) ⟨[(41, tMChk2b1)], ⟨28, 4, 0, 10, 5⟩⟩) (.br (.cmp .neq (.op .and .i64 (.var 4) (.lit 128)) (.lit 0)) (.call 61 [(.agg [(tLi 0), (tLi 0), (tLi 0)])] ⟨[(41, tMChk2b1)], ⟨28, 4, 0, 10, 5⟩⟩ (.lf (.bool (.var 4))) ⟨[(41, tMChk2b1)], ⟨28, 5, 0, 10, 5⟩⟩ (.br (.not (.var 4)) (.done (.lf (tLi 26)) ⟨[(41, tMChk2b1)], ⟨28, 5, 0, 10, 5⟩⟩) (.done (.lf (tLi 0)) ⟨[(41, tMChk2b1)], ⟨28, 5, 0, 10, 5⟩⟩))) (.done (.lf (tLi 0)) ⟨[(41, tMChk2b1)], ⟨28, 4, 0, 10, 5⟩⟩)))) (.br (.cmp .neq (.op .and .i64 (.var 4) (.lit 128)) (.lit 0)) (.call 61 [(.agg [(tLi 0), (tLi 0), (tLi 0)])] ⟨[(41, tMChk2b1)], ⟨27, 4, 0, 10, 5⟩⟩ (.lf (.bool (.var 4))) ⟨[(41, tMChk2b1)], ⟨27, 5, 0, 10, 5⟩⟩ (.br (.not (.var 4)) (.done (.lf (tLi 26)) ⟨[(41, tMChk2b1)], ⟨27, 5, 0, 10, 5⟩⟩) (.done (.lf (tLi 0)) ⟨[(41, tMChk2b1)], ⟨27, 5, 0, 10, 5⟩⟩))) (.done (.lf (tLi 0)) ⟨[(41, tMChk2b1)], ⟨27, 4, 0, 10, 5⟩⟩))))))))))))))))))) := by kernel_rfl
abbrev tChkVsb0 : List LV := [(tVi 3), (tVi 4), (tVi 5), (tVi 6), (tSl 1 2 3), (tSl 2 4 5)]
set_option maxRecDepth 100000 in
theorem tChkVs : (runF ⟨tt, fns, {loops := [(4, ⟨[(1, .int .i64), (13, .int .i64)], []⟩)]}⟩ (Try.f59.body.getD .skip) Try.f59.results.toList (entry Try.f59.ntmps [.lf (.sl 0 (.var 0) (.var 1)), .lf (.int .i64 (.var 0))] [] ⟨1, 0, 0, 2, 1⟩)) =
  (.br (.cmp .gtr (.nat 0) (.lit 64)) (.done (.lf (tLi 26)) ⟨[], ⟨1, 0, 0, 2, 1⟩⟩) (.loop 4 ⟨[(.var 0), (.lit 0)], [], [], [], []⟩ ⟨[], ⟨1, 0, 0, 2, 1⟩⟩ ⟨[], ⟨3, 0, 0, 2, 1⟩⟩ (.br (.cmp .lss (.var 2) (.nat 0)) (.need (.inb 0 (.var 2) (.nat 0)) (.ld .false (.adr 0 (.var 2) 6 0) tChkVsb0 ⟨[], ⟨3, 0, 0, 2, 1⟩⟩ ⟨[], ⟨7, 0, 0, 6, 3⟩⟩ (.br (.cmp .lss (.var 3) (.var 1)) (.done (.lf (tLi 26)) ⟨[(49, tChkVsb0)], ⟨7, 0, 0, 6, 3⟩⟩) (.br (.cmp .gtr (.var 3) (.lit 1099511627776)) (.done (.lf (tLi 26)) ⟨[(49, tChkVsb0)], ⟨7, 0, 0, 6, 3⟩⟩) (.call 29 [(.agg [(tVi 4), (tVi 5)])] ⟨[(49, tChkVsb0)], ⟨7, 0, 0, 6, 3⟩⟩ (.lf (.bool (.var 0))) ⟨[(49, tChkVsb0)], ⟨7, 1, 0, 6, 3⟩⟩ (.br (.not (.var 0)) (.done (.lf (tLi 27)) ⟨[(49, tChkVsb0)], ⟨7, 1, 0, 6, 3⟩⟩) (.call 47 [(.agg [(tVi 6), (tSl 1 2 3), (tSl 2 4 5)])] ⟨[(49, tChkVsb0)], ⟨7, 1, 0, 6, 3⟩⟩ (.lf (tVi 7)) ⟨[(49, tChkVsb0)], ⟨8, 1, 0, 6, 3⟩⟩ (.br (.cmp .neq (.var 7) (.lit 0)) (.done (.lf (tVi 7)) ⟨[(49, tChkVsb0)], ⟨8, 1, 0, 6, 3⟩⟩) (.again 4 ⟨[(.op .add .i64 (.var 3) (.lit 1)), (.op .add .i64 (.var 2) (.lit 1))], [], [], [], []⟩ ⟨[(49, tChkVsb0)], ⟨8, 1, 0, 6, 3⟩⟩))))))))) (.done (.lf (tLi 0)) ⟨[], ⟨3, 0, 0, 2, 1⟩⟩)))) := by kernel_rfl
end Go.Proofs.Ytlgpjjgkdpmidaa

namespace Go.Proofs.Ytlgpjjgkdpmidaa
open Go.Eng
abbrev tPPromiseb0 : List LV := [(tLi 2), (tLi 0), (tLi 0), (tLi 0), (tVi 0), (tVi 1), (tVi 2), (tVi 3), (tLi 0), (tLi 0), .nilsl, .nilsl, (tSl 0 0 1), (tLi 0), (tLi 0), (tLi 0), (tLi 0), (tLi 0), (tLi 0), (tLi 0), (tLi 0), (tLi 0), (tLi 0), (tLi 0), .nilsl]
set_option maxRecDepth 100000 in
theorem tPPromise : (runF ⟨tt, fns, { }⟩ (Try.f10.body.getD .skip) Try.f10.results.toList (entry Try.f10.ntmps [.agg [.int .i64 (.var 0), .int .i64 (.var 1)], .lf (.int .i64 (.var 2)), .lf (.int .i64 (.var 3)), .lf (.sl 0 (.var 0) (.var 1))] [] ⟨4, 0, 0, 2, 1⟩)) =
  (.done (.agg tPPromiseb0) ⟨[(28, [(tVi 0), (tVi 1)]), (41, tPPromiseb0)], ⟨4, 0, 0, 2, 1⟩⟩) := by kernel_rfl
end Go.Proofs.Ytlgpjjgkdpmidaa

namespace Go.Proofs.Ytlgpjjgkdpmidaa
open Go.Eng
abbrev tPHeadb0 : List LV := [(tVi 44), (tVi 45), (tVi 46), (tVi 47), (tVi 48), (tVi 49), (tVi 50), (tVi 51), (tVi 52), (tVi 53), (tSl 8 16 17), (tSl 9 18 19), (tSl 10 20 21), (tVi 54), (tVi 55), (tVi 56), (tVi 57), (tVi 58), (tVi 59), (tVi 60), (tVi 61), (tVi 62), (tVi 63), (tVi 64), (tSl 11 22 23)]
abbrev tPHeadb1 : List LV := [(tVi 22), (tVi 23), (tVi 24), (tVi 25), (tVi 26), (tVi 27), (tVi 28), (tVi 29), (tVi 30), (tVi 31), (tSl 4 8 9), (tSl 5 10 11), (tSl 6 12 13), (tVi 32), (tVi 33), (tVi 34), (tVi 35), (tVi 36), (tVi 37), (tVi 38), (tVi 39), (tVi 40), (tVi 41), (tVi 42), (tSl 7 14 15)]
abbrev tPHeadb2 : List LV := [(tVi 0), (tVi 1), (tVi 2), (tVi 3), (tVi 4), (tVi 5), (tVi 6), (tVi 7), (tVi 8), (tVi 9), (tSl 0 0 1), (tSl 1 2 3), (tSl 2 4 5), (tVi 10), (tVi 11), (tVi 12), (tVi 13), (tVi 14), (tVi 15), (tVi 16), (tVi 17), (tVi 18), (tVi 19), (tVi 20), (tSl 3 6 7)]
abbrev tPHeadb3 : List LV := [(tLi 7), (tLi 1), (tLi 1), (tLi 2), .nilsl, (.nsl 3 0 1 1)]
abbrev tPHeadm0 : Mem := ⟨[(3, [(tLi 1), (tLi 2), (tLi 3)]), (28, [(tLi 1), (tLi 1)]), (41, tPHeadb2), (3, [(tLi 1)]), (49, tPHeadb3)], ⟨65, 2, 1, 24, 12⟩⟩
abbrev tPHeadm1 : Mem := ⟨[(3, [(tLi 1), (tLi 2), (tLi 3)]), (28, [(tLi 1), (tLi 1)]), (41, tPHeadb2), (3, [(tLi 1)]), (49, tPHeadb3)], ⟨66, 3, 1, 24, 12⟩⟩
abbrev tPHeadm2 : Mem := ⟨[(3, [(tLi 1), (tLi 2), (tLi 3)]), (28, [(tLi 1), (tLi 1)]), (41, tPHeadb2), (3, [(tLi 1)]), (49, tPHeadb3)], ⟨66, 3, 1, 26, 13⟩⟩
abbrev tPHeadm3 : Mem := ⟨[(3, [(tLi 1), (tLi 2), (tLi 3)]), (28, [(tLi 1), (tLi 1)]), (41, tPHeadb2), (3, [(tLi 1)]), (49, tPHeadb3)], ⟨67, 3, 1, 26, 13⟩⟩
abbrev tPHeadm4 : Mem := ⟨[(3, [(tLi 1), (tLi 2), (tLi 3)]), (28, [(tLi 1), (tLi 1)]), (41, tPHeadb2), (3, [(tLi 1)]), (49, tPHeadb3)], ⟨68, 3, 1, 26, 13⟩⟩
abbrev tPHeadm5 : Mem := ⟨[(3, [(tLi 1), (tLi 2), (tLi 3)]), (28, [(tLi 1), (tLi 1)]), (41, tPHeadb2), (3, [(tLi 1)]), (49, tPHeadb3)], ⟨69, 3, 1, 26, 13⟩⟩
abbrev tPHeadm6 : Mem := ⟨[(3, [(tLi 1), (tLi 2), (tLi 3)]), (28, [(tLi 1), (tLi 1)]), (41, tPHeadb2), (3, [(tLi 1)]), (49, tPHeadb3)], ⟨70, 3, 1, 26, 13⟩⟩
abbrev tPHeadm7 : Mem := ⟨[(3, [(tLi 1), (tLi 2), (tLi 3)]), (28, [(tLi 1), (tLi 1)]), (41, tPHeadb2), (3, [(tLi 1)]), (49, tPHeadb3)], ⟨70, 4, 1, 26, 13⟩⟩
abbrev tPHeadm8 : Mem := ⟨[(3, [(tLi 1), (tLi 2), (tLi 3)]), (28, [(tLi 1), (tLi 1)]), (41, tPHeadb2)], ⟨43, 1, 1, 16, 8⟩⟩
abbrev tPHeadm9 : Mem := ⟨[(3, [(tLi 1), (tLi 2), (tLi 3)]), (28, [(tLi 1), (tLi 1)])], ⟨0, 1, 1, 0, 0⟩⟩
set_option maxRecDepth 100000 in
theorem tPHead : (runF ⟨tt, fns, { cur := [12] }⟩ (Try.f7.body.getD .skip) Try.f7.results.toList (entry Try.f7.ntmps [] [] ⟨0, 0, 0, 0, 0⟩)) =
  (.call 8 [(.lf (tLi 1)), (.lf (.nsl 0 0 3 3)), (.lf (tLi 4))] ⟨[(3, [(tLi 1), (tLi 2), (tLi 3)])], ⟨0, 0, 0, 0, 0⟩⟩ (.lf (.val 0)) ⟨[(3, [(tLi 1), (tLi 2), (tLi 3)])], ⟨0, 0, 1, 0, 0⟩⟩ (.gen (.binOp .eql 24 (.tmp 13) (.const (.pointer .none)) 24) 4 [(13, (.lf (.val 0)))] ⟨[(3, [(tLi 1), (tLi 2), (tLi 3)]), (28, [(tLi 1), (tLi 1)])], ⟨0, 0, 1, 0, 0⟩⟩ (.some (.lf (.bool (.var 0)))) tPHeadm9 (.br (.var 0) (.done (.lf (.bool (.lit .false))) tPHeadm9) (.call 9 [(.lf (.val 0)), (.agg [(tLi 1), (tLi 1)]), (.lf (tLi 5))] tPHeadm9 (.tup [(.true, tPHeadb2), (.false, [(tVi 21)])]) ⟨[(3, [(tLi 1), (tLi 2), (tLi 3)]), (28, [(tLi 1), (tLi 1)])], ⟨22, 1, 1, 8, 4⟩⟩ (.call 10 [(.agg [(tLi 1), (tLi 1)]), (.lf (tLi 5)), (.lf (tLi 0)), (.lf .nilsl)] ⟨[(3, [(tLi 1), (tLi 2), (tLi 3)]), (28, [(tLi 1), (tLi 1)]), (41, tPHeadb2)], ⟨22, 1, 1, 8, 4⟩⟩ (.agg tPHeadb1) tPHeadm8 (.call 13 [(.lf (.val 0)), (.lf (tLi 1)), (.agg tPHeadb1)] tPHeadm8 (.tup [(.false, [(.bool (.var 1))]), (.false, [(tVi 43)])]) ⟨[(3, [(tLi 1), (tLi 2), (tLi 3)]), (28, [(tLi 1), (tLi 1)]), (41, tPHeadb2)], ⟨44, 2, 1, 16, 8⟩⟩ (.call 10 [(.agg [(tLi 1), (tLi 1)]), (.lf (tLi 5)), (.lf (tLi 4)), (.lf (.nsl 4 0 1 1))] ⟨[(3, [(tLi 1), (tLi 2), (tLi 3)]), (28, [(tLi 1), (tLi 1)]), (41, tPHeadb2), (3, [(tLi 1)]), (49, tPHeadb3)], ⟨44, 2, 1, 16, 8⟩⟩ (.agg tPHeadb0) tPHeadm0 (.call 13 [(.lf (.val 0)), (.lf (tLi 2)), (.agg tPHeadb0)] tPHeadm0 (.tup [(.false, [(.bool (.var 2))]), (.false, [(tVi 65)])]) tPHeadm1 (.call 14 [(.lf (.val 0)), (.lf (tLi 4))] tPHeadm1 (.lf (tSl 12 24 25)) tPHeadm2 (.br (.cmp .eql (.var 21) (.lit 0)) (.br (.cmp .eql (.var 0) (.lit 1)) (.br (.cmp .eql (.var 6) (.lit 5)) (.br (.not (.var 1)) (.br (.cmp .eql (.var 43) (.lit 0)) (.br (.var 2) (.br (.cmp .eql (.var 65) (.lit 0)) (.br (.cmp .eql (.nat 24) (.lit 3)) (.need (.inb 12 (.lit 1) (.nat 24)) (.ld .true (.adr 12 (.lit 1) 25 6) [(tVi 66)] tPHeadm2 tPHeadm3 (.br (.cmp .eql (.var 66) (.lit 6)) (.need (.inb 12 (.lit 1) (.nat 24)) (.ld .true (.adr 12 (.lit 1) 25 9) [(tVi 67)] tPHeadm3 tPHeadm4 (.br (.cmp .eql (.var 67) (.lit 0)) (.need (.inb 12 (.lit 2) (.nat 24)) (.ld .true (.adr 12 (.lit 2) 25 9) [(tVi 68)] tPHeadm4 tPHeadm5 (.br (.cmp .eql (.var 68) (.lit 2)) (.call 21 [(.lf (.val 0))] tPHeadm5 (.lf (tVi 69)) tPHeadm6 (.br (.cmp .eql (.var 69) (.lit 7)) (.call 23 [(.lf (.val 0))] tPHeadm6 (.lf (.bool (.var 3))) tPHeadm7 (.done (.lf (.bool (.var 3))) tPHeadm7)) (.done (.lf (.bool (.lit .false))) tPHeadm6))) (.done (.lf (.bool (.lit .false))) tPHeadm5)))) (.done (.lf (.bool (.lit .false))) tPHeadm4)))) (.done (.lf (.bool (.lit .false))) tPHeadm3)))) (.done (.lf (.bool (.lit .false))) tPHeadm2)) (.done (.lf (.bool (.lit .false))) tPHeadm2)) (.done (.lf (.bool (.lit .false))) tPHeadm2)) (.done (.lf (.bool (.lit .false))) tPHeadm2)) (.done (.lf (.bool (.lit .false))) tPHeadm2)) (.done (.lf (.bool (.lit .false))) tPHeadm2)) (.done (.lf (.bool (.lit .false))) tPHeadm2)) (.done (.lf (.bool (.lit .false))) tPHeadm2))))))))))) := by kernel_rfl
end Go.Proofs.Ytlgpjjgkdpmidaa
