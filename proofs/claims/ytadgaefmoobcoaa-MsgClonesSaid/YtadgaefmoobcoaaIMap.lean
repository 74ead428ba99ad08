/- A map of ints to ints as plain data: a list of pairs in the order of their coming. No program in sight. -/
import Derived.Test.YtadgaefmoobcoaaEng17
import Derived.Maps.RangeRun
import Derived.MapKept
namespace Go.Eng
open Go.RowKit Go.Syn Go.MapKept
set_option linter.unusedVariables false
set_option linter.unusedSimpArgs false
/-! ### Plain -/
def lk (m : List (Int × Int)) (k : Int) : Option Int := (m.find? (fun p => p.1 == k)).map (·.2)
def putm (m : List (Int × Int)) (k v : Int) : List (Int × Int) := if (lk m k).isSome then m.map (fun p => if p.1 = k then (k, v) else p) else m ++ [(k, v)]
theorem lk_none {m : List (Int × Int)} {k : Int} (h : ∀ p ∈ m, p.1 ≠ k) : lk m k = none := by
  unfold lk
  rw [List.find?_eq_none.2 (fun p hp => by simpa using h p hp)]; rfl
theorem lk_mem {k v : Int} : ∀ {m : List (Int × Int)}, (m.map (·.1)).Nodup → (k, v) ∈ m → lk m k = some v
  | p :: m, hn, h => by
    simp only [List.map_cons, List.nodup_cons] at hn
    rcases List.mem_cons.1 h with rfl | h
    · simp [lk]
    · have : p.1 ≠ k := fun e => hn.1 (List.mem_map.2 ⟨(k, v), h, e.symm⟩)
      have ih := lk_mem hn.2 h
      unfold lk at ih ⊢
      rw [List.find?_cons_of_neg (by simpa using this)]; exact ih
/-! ### In memory -/
def ent (p : Int × Int) : Value × Value := (.int .i64 p.1, .int .i64 p.2)
structure IMap (w : World) (b : Nat) (m : List (Int × Int)) : Prop where
  ex : ∃ es clock, w.heap[b]? = some (.map es clock) ∧ Stamped es clock ∧ es.toList.map (fun e => (e.key, e.val)) = m.map ent
theorem IMap.loc {w w' : World} {b : Nat} {m : List (Int × Int)} (h : IMap w b m) (e : w'.heap[b]? = w.heap[b]?) : IMap w' b m := by
  obtain ⟨es, clock, h1, h2, h3⟩ := h
  exact ⟨es, clock, by rw [e]; exact h1, h2, h3⟩
theorem IMap.lt {w : World} {b : Nat} {m : List (Int × Int)} (h : IMap w b m) : b < w.heap.size := by
  obtain ⟨es, clock, h1, _⟩ := h
  rcases Nat.lt_or_ge b w.heap.size with q | q
  · exact q
  · rw [Array.getElem?_eq_none q] at h1; cases h1
theorem ent_inj {p q : Int × Int} (h : ent p = ent q) : p = q := by
  simp only [ent, Prod.mk.injEq, Value.int.injEq, true_and] at h
  exact Prod.ext h.1 h.2
theorem keys_eq {es : Array MapEntry} {m : List (Int × Int)} (h3 : es.toList.map (fun e => (e.key, e.val)) = m.map ent) : es.toList.map (·.key) = m.map (fun p => Value.int .i64 p.1) := by
  have := congrArg (List.map Prod.fst) h3
  simpa [List.map_map, Function.comp_def, ent] using this
theorem nodup_of {es : Array MapEntry} {clock : Nat} {m : List (Int × Int)} (h2 : Stamped es clock) (h3 : es.toList.map (fun e => (e.key, e.val)) = m.map ent) : (m.map (·.1)).Nodup := by
  have h := h2.2.2
  rw [keys_eq h3] at h
  have e : m.map (fun p => Value.int .i64 p.1) = (m.map (·.1)).map (Value.int .i64) := by simp [List.map_map, Function.comp_def]
  rw [e] at h
  exact List.Pairwise.of_map (S := fun a b => a ≠ b) (R := fun a b => a ≠ b) (Value.int .i64) (fun a b hne e => hne (by rw [e])) h
theorem IMap.nodup {w : World} {b : Nat} {m : List (Int × Int)} (h : IMap w b m) : (m.map (·.1)).Nodup := by
  obtain ⟨es, clock, _, h2, h3⟩ := h
  exact nodup_of h2 h3
theorem entry_at {es : Array MapEntry} {m : List (Int × Int)} (h3 : es.toList.map (fun e => (e.key, e.val)) = m.map ent) {j : Nat} {e : MapEntry} (hj : es.toList[j]? = some e) : ∃ p, m[j]? = some p ∧ e.key = .int .i64 p.1 ∧ e.val = .int .i64 p.2 := by
  have h := congrArg (·[j]?) h3
  simp only [List.getElem?_map, hj, Option.map_some] at h
  cases hm : m[j]? with
  | none => rw [hm] at h; cases h
  | some p =>
    rw [hm] at h
    simp only [Option.map_some, Option.some.injEq, ent, Prod.mk.injEq] at h
    exact ⟨p, rfl, h.1, h.2⟩
section
variable {P : Program} {w : World} {b : Nat} {m : List (Int × Int)} {t kt et : TypeId}
theorem IMap.find (h : IMap w b m) (k : Int) : ∃ es clock, w.heap[b]? = some (.map es clock) ∧ Stamped es clock ∧ es.toList.map (fun e => (e.key, e.val)) = m.map ent ∧
    ((Instr.findNow (.int .i64) (.int .i64 k) es.toList 0 = some none ∧ lk m k = none ∧ ∀ x ∈ es.toList, x.key ≠ .int .i64 k) ∨
     ∃ j e v, Instr.findNow (.int .i64) (.int .i64 k) es.toList 0 = some (some (j, e.val)) ∧ es.toList[j]? = some e ∧ e.key = .int .i64 k ∧ e.val = .int .i64 v ∧ m[j]? = some (k, v) ∧ lk m k = some v) := by
  obtain ⟨es, clock, h1, h2, h3⟩ := h
  refine ⟨es, clock, h1, h2, h3, ?_⟩
  have hks : ∀ x ∈ es.toList, IsKey (.int .i64) x.key := fun x hx => by
    have : x.key ∈ es.toList.map (·.key) := List.mem_map.2 ⟨x, hx, rfl⟩
    rw [keys_eq h3] at this
    obtain ⟨p, _, e⟩ := List.mem_map.1 this
    rw [← e]; exact rfl
  rcases findNow_spec (d := .int .i64) (k := .int .i64 k) rfl es.toList 0 hks with ⟨f1, f2⟩ | ⟨j, e0, f1, f2, f3⟩
  · refine .inl ⟨f1, lk_none (fun p hp e => ?_), f2⟩
    have : Value.int .i64 p.1 ∈ es.toList.map (·.key) := by rw [keys_eq h3]; exact List.mem_map.2 ⟨p, hp, rfl⟩
    obtain ⟨x, hx, e2⟩ := List.mem_map.1 this
    exact f2 x hx (by rw [e2, e])
  · obtain ⟨p, p1, p2, p3⟩ := entry_at h3 f2
    have : p.1 = k := by rw [f3] at p2; exact (Value.int.inj p2).2.symm
    refine .inr ⟨j, e0, p.2, by simpa using f1, f2, f3, p3, by rw [p1, ← this], ?_⟩
    refine lk_mem (nodup_of h2 h3) ?_
    rw [← this]; exact List.mem_of_getElem? p1
theorem IMap.lookup (h : IMap w b m) (k : Int) (ht : P.underlying t = some (.map kt et)) (hk : P.underlying kt = some (.int .i64)) (hz : (zeroValue et).run P w = .ok (.int .i64 0) w) :
    (Instr.lookup t (.map (some b)) (.int .i64 k) true).run P w = .ok (.tuple #[.int .i64 ((lk m k).getD 0), .bool (lk m k).isSome]) w := by
  obtain ⟨es, clock, h1, h2, h3, f | f⟩ := h.find k
  · obtain ⟨f1, f2, _⟩ := f
    have q := run_findKey (P := P) (w := w) hk f1
    simp [Instr.lookup, run_underlying ht, MapKept.run_getObj_map h1, run_checkKey (P := P) (w := w) (k := .int .i64 k) hk rfl _ 9999, q, hz, Result.andThen, f2]
  · obtain ⟨j, e, v, f1, _, _, f4, _, f5⟩ := f
    have q := run_findKey (P := P) (w := w) hk f1
    simp [Instr.lookup, run_underlying ht, MapKept.run_getObj_map h1, run_checkKey (P := P) (w := w) (k := .int .i64 k) hk rfl _ 9999, q, Result.andThen, f4, f5]
theorem putm_mod {j : Nat} {k v v0 : Int} (hn : (m.map (·.1)).Nodup) (hj : m[j]? = some (k, v0)) : putm m k v = m.modify j (fun _ => (k, v)) := by
  have h0 : lk m k = some v0 := lk_mem hn (List.mem_of_getElem? hj)
  unfold putm
  rw [h0, if_pos (show (some v0).isSome = true from rfl)]
  apply List.ext_getElem?
  intro i
  rw [List.getElem?_map, List.getElem?_modify]
  cases hi : m[i]? with
  | none => simp
  | some p =>
    simp only [Option.map_some]
    by_cases hij : j = i
    · subst hij; rw [hj] at hi; cases hi; simp
    · have hne : p.1 ≠ k := fun e => hij (by
        have a1 : (m.map (·.1))[i]? = some k := by rw [List.getElem?_map, hi]; simp [e]
        have a2 : (m.map (·.1))[j]? = some k := by rw [List.getElem?_map, hj]; simp
        have hl : j < (m.map (·.1)).length := by
          rcases Nat.lt_or_ge j (m.map (·.1)).length with q | q
          · exact q
          · rw [List.getElem?_eq_none q] at a2; cases a2
        exact (List.getElem?_inj hl hn).1 (a2.trans a1.symm))
      simp [hij, hne]
theorem grown_obj {w : World} {b : Nat} {o o' : Obj} (hb : w.heap[b]? = some o) : w.grownBy { w with heap := w.heap.setIfInBounds b o' } (some b) := by
  refine ⟨rfl, rfl, rfl, by simp, fun k hk hne => ?_⟩
  rw [Array.getElem?_setIfInBounds]
  have : b ≠ k := fun e => hne (by rw [e])
  simp [this]
theorem IMap.update (h : IMap w b m) (k v : Int) (ht : P.underlying t = some (.map kt et)) (hk : P.underlying kt = some (.int .i64)) :
    ∃ w', (Instr.mapUpdate t (.map (some b)) (.int .i64 k) (.int .i64 v)).run P w = .ok () w' ∧ IMap w' b (putm m k v) ∧ w.grownBy w' (some b) := by
  have hlt := h.lt
  obtain ⟨es, clock, h1, h2, h3, f | f⟩ := h.find k
  · obtain ⟨f1, f2, f3⟩ := f
    have q := run_findKey (P := P) (w := w) hk f1
    refine ⟨{ w with heap := w.heap.setIfInBounds b (.map (es.push ⟨.int .i64 k, .int .i64 v, clock⟩) (clock + 1)) }, ?_, ⟨es.push ⟨.int .i64 k, .int .i64 v, clock⟩, clock + 1, ?_, stamped_push h2 f3, ?_⟩, grown_obj h1⟩
    · simp [Instr.mapUpdate, run_underlying ht, MapKept.run_getObj_map h1, run_checkKey (P := P) (w := w) (k := .int .i64 k) hk rfl _ 9999, q, Result.andThen, run_setObj_map _ h1]
    · simp [hlt]
    · simp [putm, f2, h3, ent]
  · obtain ⟨j, e, v0, f1, f2, f3, f4, f5, f6⟩ := f
    have q := run_findKey (P := P) (w := w) hk f1
    have hej : es[j]? = some e := by rw [← Array.getElem?_toList]; exact f2
    refine ⟨{ w with heap := w.heap.setIfInBounds b (.map (es.modify j fun e => { e with key := .int .i64 k, val := .int .i64 v }) clock) }, ?_, ⟨es.modify j (fun e => { e with key := .int .i64 k, val := .int .i64 v }), clock, ?_, stamped_modify h2 _ _ (fun _ _ => rfl) (fun x hx h4 => ?_), ?_⟩, grown_obj h1⟩
    · simp [Instr.mapUpdate, run_underlying ht, MapKept.run_getObj_map h1, run_checkKey (P := P) (w := w) (k := .int .i64 k) hk rfl _ 9999, q, Result.andThen, run_setObj_map _ h1, hej, f3, run_keyThatStays (P := P) (w := w) (d := .int .i64) (k := .int .i64 k) rfl]
    · simp [hlt]
    · rw [hej] at h4; cases h4; exact f3.symm
    · rw [putm_mod (nodup_of h2 h3) f5]
      apply List.ext_getElem?
      intro i
      have h4 := congrArg (·[i]?) h3
      simp only [List.getElem?_map, Array.getElem?_toList] at h4
      simp only [List.getElem?_map, Array.getElem?_toList, Array.getElem?_modify, List.getElem?_modify]
      by_cases hij : j = i
      · subst hij
        rw [hej, f5]
        simp [ent]
      · simpa [hij] using h4
theorem IMap.clear (h : IMap w b m) (ty : TypeId) (ht : P.underlying t = some (.map kt et)) :
    ∃ w', (Builtin.clear_ #[t] ty #[.map (some b)]).run P w = .ok (.tuple #[]) w' ∧ IMap w' b [] ∧ w.grownBy w' (some b) := by
  have hlt := h.lt
  obtain ⟨es, clock, h1, h2, h3⟩ := h
  refine ⟨{ w with heap := w.heap.setIfInBounds b (.map #[] clock) }, ?_, ⟨#[], clock, by simp [hlt], stamped_empty clock, rfl⟩, grown_obj h1⟩
  simp [Builtin.clear_, run_underlying ht, MapKept.run_getObj_map h1, run_setObj_map _ h1, Result.andThen]
theorem IMap.new (w : World) : IMap (w.alloc (.map #[] 0)) w.heap.size [] := ⟨#[], 0, heap_alloc_new _ _, stamped_empty 0, rfl⟩
end
end Go.Eng
