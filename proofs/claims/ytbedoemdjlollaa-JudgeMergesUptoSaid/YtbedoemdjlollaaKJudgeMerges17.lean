/- Part 17 of the texts of a proof about the given program: what the statement's proof needs of them. -/
import Derived.DeepKeys3
import Derived.Test.YtbedoemdjlollaaKJudgeMerges16
namespace Go.Eng
open Go.RowKit Go.Syn Go.MapKept
set_option linter.unusedVariables false
set_option linter.unusedSimpArgs false
abbrev Ky := Int × Int
def kyV (k : Ky) : Value := .agg #[.int .i64 k.1, .int .i64 k.2]
theorem kyV_inj {a b : Ky} (h : kyV a = kyV b) : a = b := by
  unfold kyV at h
  simp only [Value.agg.injEq, Array.mk.injEq, List.cons.injEq, Value.int.injEq, true_and, and_true] at h
  exact Prod.ext h.1 h.2
def klk (m : List (Ky × Value)) (k : Ky) : Option Value := (m.find? (fun p => p.1 == k)).map (·.2)
def kput (m : List (Ky × Value)) (k : Ky) (v : Value) : List (Ky × Value) := if (klk m k).isSome then m.map (fun p => if p.1 = k then (k, v) else p) else m ++ [(k, v)]
theorem klk_none {m : List (Ky × Value)} {k : Ky} (h : ∀ p ∈ m, p.1 ≠ k) : klk m k = none := by
  unfold klk
  rw [List.find?_eq_none.2 (fun p hp => by simpa using h p hp)]; rfl
theorem klk_mem {k : Ky} {v : Value} : ∀ {m : List (Ky × Value)}, (m.map (·.1)).Nodup → (k, v) ∈ m → klk m k = some v
  | p :: m, hn, h => by
    simp only [List.map_cons, List.nodup_cons] at hn
    rcases List.mem_cons.1 h with rfl | h
    · simp [klk]
    · have : p.1 ≠ k := fun e => hn.1 (List.mem_map.2 ⟨(k, v), h, e.symm⟩)
      have ih := klk_mem hn.2 h
      unfold klk at ih ⊢
      rw [List.find?_cons_of_neg (by simpa using this)]; exact ih
def KyFit (k : Ky) : Prop := (-9223372036854775808 ≤ k.1 ∧ k.1 ≤ 9223372036854775807) ∧ -9223372036854775808 ≤ k.2 ∧ k.2 ≤ 9223372036854775807
def kent (p : Ky × Value) : Value × Value := (kyV p.1, p.2)
structure KMap (w : World) (b : Nat) (m : List (Ky × Value)) : Prop where
  ex : ∃ es clock, w.heap[b]? = some (.map es clock) ∧ Stamped es clock ∧ es.toList.map (fun e => (e.key, e.val)) = m.map kent ∧ ∀ p ∈ m, KyFit p.1
theorem KMap.loc {w w' : World} {b : Nat} {m : List (Ky × Value)} (h : KMap w b m) (e : w'.heap[b]? = w.heap[b]?) : KMap w' b m := by
  obtain ⟨es, clock, h1, h2, h3, h4⟩ := h
  exact ⟨es, clock, by rw [e]; exact h1, h2, h3, h4⟩
theorem KMap.lt {w : World} {b : Nat} {m : List (Ky × Value)} (h : KMap w b m) : b < w.heap.size := by
  obtain ⟨es, clock, h1, _⟩ := h
  rcases Nat.lt_or_ge b w.heap.size with q | q
  · exact q
  · rw [Array.getElem?_eq_none q] at h1; cases h1
theorem kkeys_eq {es : Array MapEntry} {m : List (Ky × Value)} (h3 : es.toList.map (fun e => (e.key, e.val)) = m.map kent) : es.toList.map (·.key) = m.map (fun p => kyV p.1) := by
  have := congrArg (List.map Prod.fst) h3
  simpa [List.map_map, Function.comp_def, kent] using this
theorem knodup_of {es : Array MapEntry} {clock : Nat} {m : List (Ky × Value)} (h2 : Stamped es clock) (h3 : es.toList.map (fun e => (e.key, e.val)) = m.map kent) : (m.map (·.1)).Nodup := by
  have h := h2.2.2
  rw [kkeys_eq h3] at h
  have e : m.map (fun p => kyV p.1) = (m.map (·.1)).map kyV := by simp [List.map_map, Function.comp_def]
  rw [e] at h
  exact List.Pairwise.of_map (S := fun a b => a ≠ b) (R := fun a b => a ≠ b) kyV (fun a b hne e => hne (by rw [e])) h
theorem kentry_at {es : Array MapEntry} {m : List (Ky × Value)} (h3 : es.toList.map (fun e => (e.key, e.val)) = m.map kent) {j : Nat} {e : MapEntry} (hj : es.toList[j]? = some e) : ∃ p, m[j]? = some p ∧ e.key = kyV p.1 ∧ e.val = p.2 := by
  have h := congrArg (·[j]?) h3
  simp only [List.getElem?_map, hj, Option.map_some] at h
  cases hm : m[j]? with
  | none => rw [hm] at h; cases h
  | some p =>
    rw [hm] at h
    simp only [Option.map_some, Option.some.injEq, kent, Prod.mk.injEq] at h
    exact ⟨p, rfl, h.1, h.2⟩
structure KyOk (P : Program) (kt : TypeId) : Prop where
  law : WideMaps.KeyLaw P kt
  key : ∀ k : Ky, KyFit k → ∃ l, keyOf P kt (kyV k) = some l
section
variable {P : Program} {w : World} {b : Nat} {m : List (Ky × Value)} {t kt et : TypeId}
theorem KMap.find (h : KMap w b m) (hk : KyOk P kt) (k : Ky) (hk2 : KyFit k) : ∃ es clock, w.heap[b]? = some (.map es clock) ∧ Stamped es clock ∧ es.toList.map (fun e => (e.key, e.val)) = m.map kent ∧ (∀ p ∈ m, KyFit p.1) ∧
    (((Instr.findKey kt (kyV k) es.toList).run P w = .ok none w ∧ klk m k = none ∧ ∀ x ∈ es.toList, x.key ≠ kyV k) ∨
     ∃ j e v, (Instr.findKey kt (kyV k) es.toList).run P w = .ok (some (j, e.val)) w ∧ es.toList[j]? = some e ∧ e.key = kyV k ∧ e.val = v ∧ m[j]? = some (k, v) ∧ klk m k = some v) := by
  obtain ⟨es, clock, h1, h2, h3, hfit⟩ := h
  refine ⟨es, clock, h1, h2, h3, hfit, ?_⟩
  have hks : ∀ x ∈ es.toList, ∃ l, keyOf P kt x.key = some l := fun x hx => by
    have : x.key ∈ es.toList.map (·.key) := List.mem_map.2 ⟨x, hx, rfl⟩
    rw [kkeys_eq h3] at this
    obtain ⟨p, hp, e⟩ := List.mem_map.1 this
    rw [← e]; exact hk.key p.1 (hfit p hp)
  obtain ⟨lx, hlx⟩ := hk.key k hk2
  rcases hk.law.find w hlx es.toList hks with ⟨f1, f2⟩ | ⟨j, e0, f1, f2, f3⟩
  · refine .inl ⟨f1, klk_none (fun p hp e => ?_), f2⟩
    have : kyV p.1 ∈ es.toList.map (·.key) := by rw [kkeys_eq h3]; exact List.mem_map.2 ⟨p, hp, rfl⟩
    obtain ⟨x, hx, e2⟩ := List.mem_map.1 this
    exact f2 x hx (by rw [e2, e])
  · obtain ⟨p, p1, p2, p3⟩ := kentry_at h3 f2
    have : p.1 = k := by rw [f3] at p2; exact (kyV_inj p2).symm
    refine .inr ⟨j, e0, p.2, f1, f2, f3, p3, by rw [p1, ← this], ?_⟩
    refine klk_mem (knodup_of h2 h3) ?_
    rw [← this]; exact List.mem_of_getElem? p1
theorem KMap.lookup (h : KMap w b m) (hk : KyOk P kt) (k : Ky) (hk2 : KyFit k) (ht : P.underlying t = some (.map kt et)) {z : Value} (hz : (zeroValue et).run P w = .ok z w) :
    (Instr.lookup t (.map (some b)) (kyV k) true).run P w = .ok (.tuple #[(klk m k).getD z, .bool (klk m k).isSome]) w := by
  obtain ⟨lx, hlx⟩ := hk.key k hk2
  obtain ⟨es, clock, h1, h2, h3, h4f, f | f⟩ := h.find hk k hk2
  · obtain ⟨f1, f2, _⟩ := f
    simp [Instr.lookup, run_underlying ht, MapKept.run_getObj_map h1, hk.law.check w _ hlx, f1, hz, Result.andThen, f2]
  · obtain ⟨j, e, v, f1, _, _, f4, _, f5⟩ := f
    simp [Instr.lookup, run_underlying ht, MapKept.run_getObj_map h1, hk.law.check w _ hlx, f1, Result.andThen, f4, f5]
theorem KMap.lookup1 (h : KMap w b m) (hk : KyOk P kt) (k : Ky) (hk2 : KyFit k) (ht : P.underlying t = some (.map kt et)) {z : Value} (hz : (zeroValue et).run P w = .ok z w) :
    (Instr.lookup t (.map (some b)) (kyV k) false).run P w = .ok ((klk m k).getD z) w := by
  obtain ⟨lx, hlx⟩ := hk.key k hk2
  obtain ⟨es, clock, h1, h2, h3, h4f, f | f⟩ := h.find hk k hk2
  · obtain ⟨f1, f2, _⟩ := f
    simp [Instr.lookup, run_underlying ht, MapKept.run_getObj_map h1, hk.law.check w _ hlx, f1, hz, Result.andThen, f2]
  · obtain ⟨j, e, v, f1, _, _, f4, _, f5⟩ := f
    simp [Instr.lookup, run_underlying ht, MapKept.run_getObj_map h1, hk.law.check w _ hlx, f1, Result.andThen, f4, f5]
theorem kput_mod {j : Nat} {k : Ky} {v v0 : Value} (hn : (m.map (·.1)).Nodup) (hj : m[j]? = some (k, v0)) : kput m k v = m.modify j (fun _ => (k, v)) := by
  have h0 : klk m k = some v0 := klk_mem hn (List.mem_of_getElem? hj)
  unfold kput
  rw [h0, if_pos (show (some v0).isSome = true from rfl)]
  apply List.ext_getElem?
  intro i
  rw [List.getElem?_map, List.getElem?_modify]
  cases hi : m[i]? with
  | none => simp
  | some p =>
    simp only [Option.map_some]
    by_cases hij : j = i
    · subst hij; rw [hj] at hi; cases hi; simp
    · have hne : p.1 ≠ k := fun e => hij (by
        have a1 : (m.map (·.1))[i]? = some k := by rw [List.getElem?_map, hi]; simp [e]
        have a2 : (m.map (·.1))[j]? = some k := by rw [List.getElem?_map, hj]; simp
        have hl : j < (m.map (·.1)).length := by
          rcases Nat.lt_or_ge j (m.map (·.1)).length with q | q
          · exact q
          · rw [List.getElem?_eq_none q] at a2; cases a2
        exact (List.getElem?_inj hl hn).1 (a2.trans a1.symm))
      simp [hij, hne]
theorem kput_fit {k : Ky} {v : Value} (h : ∀ p ∈ m, KyFit p.1) (hk : KyFit k) : ∀ p ∈ kput m k v, KyFit p.1 := by
  intro p hp
  unfold kput at hp
  split at hp
  · obtain ⟨q, hq, rfl⟩ := List.mem_map.1 hp
    split
    · exact hk
    · exact h q hq
  · rcases List.mem_append.1 hp with hp | hp
    · exact h p hp
    · rw [List.mem_singleton.1 hp]; exact hk
theorem KMap.update (h : KMap w b m) (hk : KyOk P kt) (k : Ky) (hk2 : KyFit k) (v : Value) (ht : P.underlying t = some (.map kt et)) :
    ∃ w', (Instr.mapUpdate t (.map (some b)) (kyV k) v).run P w = .ok () w' ∧ KMap w' b (kput m k v) ∧ w.grownBy w' (some b) := by
  have hlt := h.lt
  obtain ⟨lx, hlx⟩ := hk.key k hk2
  obtain ⟨es, clock, h1, h2, h3, h4f, f | f⟩ := h.find hk k hk2
  · obtain ⟨f1, f2, f3⟩ := f
    refine ⟨{ w with heap := w.heap.setIfInBounds b (.map (es.push ⟨kyV k, v, clock⟩) (clock + 1)) }, ?_, ⟨es.push ⟨kyV k, v, clock⟩, clock + 1, ?_, stamped_push h2 f3, ?_, kput_fit h4f hk2⟩, vgrown_obj h1⟩
    · simp [Instr.mapUpdate, run_underlying ht, MapKept.run_getObj_map h1, hk.law.check w _ hlx, f1, Result.andThen, run_setObj_map _ h1]
    · simp [hlt]
    · simp [kput, f2, h3, kent]
  · obtain ⟨j, e, v0, f1, f2, f3, f4, f5, f6⟩ := f
    have hej : es[j]? = some e := by rw [← Array.getElem?_toList]; exact f2
    refine ⟨{ w with heap := w.heap.setIfInBounds b (.map (es.modify j fun e => { e with key := kyV k, val := v }) clock) }, ?_, ⟨es.modify j (fun e => { e with key := kyV k, val := v }), clock, ?_, stamped_modify h2 _ _ (fun _ _ => rfl) (fun x hx h4 => ?_), ?_, kput_fit h4f hk2⟩, vgrown_obj h1⟩
    · simp [Instr.mapUpdate, run_underlying ht, MapKept.run_getObj_map h1, hk.law.check w _ hlx, f1, Result.andThen, run_setObj_map _ h1, hej, f3, hk.law.stays w hlx]
    · simp [hlt]
    · rw [hej] at h4; cases h4; exact f3.symm
    · rw [kput_mod (knodup_of h2 h3) f5]
      apply List.ext_getElem?
      intro i
      have h4 := congrArg (·[i]?) h3
      simp only [List.getElem?_map, Array.getElem?_toList] at h4
      simp only [List.getElem?_map, Array.getElem?_toList, Array.getElem?_modify, List.getElem?_modify]
      by_cases hij : j = i
      · subst hij
        rw [hej, f5]
        simp [kent]
      · simpa [hij] using h4
theorem KMap.new (w : World) : KMap (w.alloc (.map #[] 0)) w.heap.size [] := ⟨#[], 0, heap_alloc_new _ _, stamped_empty 0, rfl, fun p hp => by cases hp⟩
end
def HX.kmap (b : Nat) (m : List (Ky × Value)) : HX := ⟨fun k => k = b, fun w => KMap w b m, fun w w' h e => h.loc (e b rfl)⟩
section
variable {C : Cfg} {ρ : Env} {pre : List Nat} {hx rest : HX} {L : Stack} {m m' : Mem} {ty : Nat} {ps : List (Nat × SV)} {t : Tree}
theorem node_kmake {mt : TypeId} {r : SV} (hr : ∀ v ids, r.den (ρ.add ⟨[], [], [v], [], []⟩) ids = v) (hhp : m'.hp = m.hp) (hfit : hpFits m.c m.hp.length m.hp = true) (hc : ∀ v, (ρ.add ⟨[], [], [v], [], []⟩).cnt = m'.c)
    (h : ∀ b, C.W.heap.size ≤ b → ¬ hx.F b → t.holds C (ρ.add ⟨[], [], [.map (some b)], [], []⟩) pre (hx.and (HX.kmap b [])) L) : (Tree.gen (.makeMap mt none) ty ps m (some r) m' t).holds C ρ pre hx L := by
  intro ids w hp hf
  unfold GenRun
  have hrun := run_makeMap (P := C.P) mt w
  simp only [execOp, Option.map_none, Sem.run_bind, Sem.run_pure, Result.andThen_ok, hrun]
  have hg : w.grownBy (w.alloc (.map #[] 0)) none := ⟨rfl, rfl, rfl, by show w.heap.size ≤ (w.heap.push _).size; simp, fun k hk _ => heap_alloc_old w _ hk⟩
  refine ⟨⟨[], [], [.map (some w.heap.size)], [], []⟩, ids, hx.and (HX.kmap w.heap.size []), ?_, List.prefix_refl _, hf.turn hg (fun b' e => by cases e) ⟨hx.loc _ _ hf.x fun b hb => heap_alloc_old w _ (hf.sep b hb).1, KMap.new w⟩ (fun k hk => ?_) hhp hfit (hc _) (fun v hv => ?_), holds_pre t hp (h _ hf.chg.size (fun q => by have := (hf.sep _ q).1; omega))⟩
  · simp only [Option.map_some, hr]
  · rcases hk with hk | hk
    · exact .inl hk
    · exact .inr ⟨Nat.le_of_eq hk.symm, by rw [show k = w.heap.size from hk]; show w.heap.size < (w.heap.push _).size; simp⟩
  · simp only [List.mem_singleton] at hv; subst hv; rfl
theorem node_klook {mt kt et : TypeId} {xo ko : Operand} {r : SV} {z : Value} (vs : Vals) (b : Nat) (mm : List (Ky × Value)) (k : Ky) (hk : KyOk C.P kt) (hk2 : KyFit k) (hx_ : ∀ w, hx.X w → KMap w b mm) (hmo : ∀ ids, envOf ρ ids ps xo = .map (some b)) (hko : ∀ ids, envOf ρ ids ps ko = kyV k)
    (ht : C.P.underlying mt = some (.map kt et)) (hz : ∀ w, (zeroValue et).run C.P w = .ok z w)
    (hr : ∀ ids, r.den (ρ.add vs) ids = .tuple #[(klk mm k).getD z, .bool (klk mm k).isSome]) (hhp : m'.hp = m.hp) (hfit : hpFits m.c m.hp.length m.hp = true) (hc : (ρ.add vs).cnt = m'.c) (h1 : ∀ v, v ∈ vs.v → v.oneCell' = true)
    (h : t.holds C (ρ.add vs) pre hx L) : (Tree.gen (.lookup mt xo ko true) ty ps m (some r) m' t).holds C ρ pre hx L := by
  refine node_gpure (V := .tuple #[(klk mm k).getD z, .bool (klk mm k).isSome]) vs (fun ids w hp hf => ?_) hr hhp hfit hc h1 h
  have hrun := (hx_ w hf.x).lookup (P := C.P) (t := mt) hk k hk2 ht (hz w)
  simp only [execOp, hmo, hko, Sem.run_bind, Sem.run_pure, Result.andThen_ok, hrun]
theorem node_klook1 {mt kt et : TypeId} {xo ko : Operand} {r : SV} {z : Value} (vs : Vals) (b : Nat) (mm : List (Ky × Value)) (k : Ky) (hk : KyOk C.P kt) (hk2 : KyFit k) (hx_ : ∀ w, hx.X w → KMap w b mm) (hmo : ∀ ids, envOf ρ ids ps xo = .map (some b)) (hko : ∀ ids, envOf ρ ids ps ko = kyV k)
    (ht : C.P.underlying mt = some (.map kt et)) (hz : ∀ w, (zeroValue et).run C.P w = .ok z w)
    (hr : ∀ ids, r.den (ρ.add vs) ids = (klk mm k).getD z) (hhp : m'.hp = m.hp) (hfit : hpFits m.c m.hp.length m.hp = true) (hc : (ρ.add vs).cnt = m'.c) (h1 : ∀ v, v ∈ vs.v → v.oneCell' = true)
    (h : t.holds C (ρ.add vs) pre hx L) : (Tree.gen (.lookup mt xo ko false) ty ps m (some r) m' t).holds C ρ pre hx L := by
  refine node_gpure (V := (klk mm k).getD z) vs (fun ids w hp hf => ?_) hr hhp hfit hc h1 h
  have hrun := (hx_ w hf.x).lookup1 (P := C.P) (t := mt) hk k hk2 ht (hz w)
  simp only [execOp, hmo, hko, Sem.run_bind, Sem.run_pure, Result.andThen_ok, hrun]
theorem node_kput {mt kt et : TypeId} {xo ko vo : Operand} (b : Nat) (mm : List (Ky × Value)) (k : Ky) (v : Value) (hk : KyOk C.P kt) (hk2 : KyFit k) (hown : C.W.heap.size ≤ b ∨ C.M b) (hdis : ¬ rest.F b) (hmo : ∀ ids, envOf ρ ids ps xo = .map (some b)) (hko : ∀ ids, envOf ρ ids ps ko = kyV k) (hvo : ∀ ids, envOf ρ ids ps vo = v)
    (ht : C.P.underlying mt = some (.map kt et)) (hhp : m'.hp = m.hp) (hfit : hpFits m.c m.hp.length m.hp = true) (hc : ρ.cnt = m'.c)
    (h : t.holds C ρ pre (rest.and (HX.kmap b (kput mm k v))) L) : (Tree.gen (.mapUpdate mt xo ko vo) ty ps m none m' t).holds C ρ pre (rest.and (HX.kmap b mm)) L := by
  intro ids w hp hf
  unfold GenRun
  obtain ⟨w', hrun, h1, h2⟩ := KMap.update (P := C.P) (t := mt) (show KMap w b mm from hf.x.2) hk k hk2 v ht
  simp only [execOp, hmo, hko, hvo, Sem.run_bind, Sem.run_pure, Result.andThen_ok, hrun]
  refine ⟨Vals.nil, ids, rest.and (HX.kmap b (kput mm k v)), rfl, List.prefix_refl _, hf.turn h2 (fun b' e => by cases e; exact ⟨.inr rfl, hown⟩) ⟨rest.loc w w' hf.x.1 fun q hq => h2.block q (hf.sep q (.inl hq)).1 (fun e => hdis (by cases e; exact hq)), h1⟩ (fun k hk => .inl hk) hhp hfit (by rw [Env.add_nil]; exact hc) oneNil, ?_⟩
  rw [Env.add_nil]; exact holds_pre t hp h
end
end Go.Eng
