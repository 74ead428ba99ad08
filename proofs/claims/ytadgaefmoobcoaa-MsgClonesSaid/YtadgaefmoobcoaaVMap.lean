/- A map of ints to values of any kind as plain data: a list of pairs in the order of their coming (as XIMap). No program in sight. -/
import Derived.Test.YtadgaefmoobcoaaEng17
import Derived.Maps.RangeRun
import Derived.MapKept
namespace Go.Eng
open Go.RowKit Go.Syn Go.MapKept
set_option linter.unusedVariables false
set_option linter.unusedSimpArgs false
/-! ### Plain -/
def vlk (m : List (Int × Value)) (k : Int) : Option Value := (m.find? (fun p => p.1 == k)).map (·.2)
def vput (m : List (Int × Value)) (k : Int) (v : Value) : List (Int × Value) := if (vlk m k).isSome then m.map (fun p => if p.1 = k then (k, v) else p) else m ++ [(k, v)]
theorem vlk_none {m : List (Int × Value)} {k : Int} (h : ∀ p ∈ m, p.1 ≠ k) : vlk m k = none := by
  unfold vlk
  rw [List.find?_eq_none.2 (fun p hp => by simpa using h p hp)]; rfl
theorem vlk_mem {k : Int} {v : Value} : ∀ {m : List (Int × Value)}, (m.map (·.1)).Nodup → (k, v) ∈ m → vlk m k = some v
  | p :: m, hn, h => by
    simp only [List.map_cons, List.nodup_cons] at hn
    rcases List.mem_cons.1 h with rfl | h
    · simp [vlk]
    · have : p.1 ≠ k := fun e => hn.1 (List.mem_map.2 ⟨(k, v), h, e.symm⟩)
      have ih := vlk_mem hn.2 h
      unfold vlk at ih ⊢
      rw [List.find?_cons_of_neg (by simpa using this)]; exact ih
/-! ### In memory -/
def vent (p : Int × Value) : Value × Value := (.int .i64 p.1, p.2)
structure VMap (w : World) (b : Nat) (m : List (Int × Value)) : Prop where
  ex : ∃ es clock, w.heap[b]? = some (.map es clock) ∧ Stamped es clock ∧ es.toList.map (fun e => (e.key, e.val)) = m.map vent
theorem VMap.loc {w w' : World} {b : Nat} {m : List (Int × Value)} (h : VMap w b m) (e : w'.heap[b]? = w.heap[b]?) : VMap w' b m := by
  obtain ⟨es, clock, h1, h2, h3⟩ := h
  exact ⟨es, clock, by rw [e]; exact h1, h2, h3⟩
theorem VMap.lt {w : World} {b : Nat} {m : List (Int × Value)} (h : VMap w b m) : b < w.heap.size := by
  obtain ⟨es, clock, h1, _⟩ := h
  rcases Nat.lt_or_ge b w.heap.size with q | q
  · exact q
  · rw [Array.getElem?_eq_none q] at h1; cases h1
theorem vent_inj {p q : Int × Value} (h : vent p = vent q) : p = q := by
  simp only [vent, Prod.mk.injEq, Value.int.injEq, true_and] at h
  exact Prod.ext h.1 h.2
theorem vkeys_eq {es : Array MapEntry} {m : List (Int × Value)} (h3 : es.toList.map (fun e => (e.key, e.val)) = m.map vent) : es.toList.map (·.key) = m.map (fun p => Value.int .i64 p.1) := by
  have := congrArg (List.map Prod.fst) h3
  simpa [List.map_map, Function.comp_def, vent] using this
theorem vnodup_of {es : Array MapEntry} {clock : Nat} {m : List (Int × Value)} (h2 : Stamped es clock) (h3 : es.toList.map (fun e => (e.key, e.val)) = m.map vent) : (m.map (·.1)).Nodup := by
  have h := h2.2.2
  rw [vkeys_eq h3] at h
  have e : m.map (fun p => Value.int .i64 p.1) = (m.map (·.1)).map (Value.int .i64) := by simp [List.map_map, Function.comp_def]
  rw [e] at h
  exact List.Pairwise.of_map (S := fun a b => a ≠ b) (R := fun a b => a ≠ b) (Value.int .i64) (fun a b hne e => hne (by rw [e])) h
theorem VMap.nodup {w : World} {b : Nat} {m : List (Int × Value)} (h : VMap w b m) : (m.map (·.1)).Nodup := by
  obtain ⟨es, clock, _, h2, h3⟩ := h
  exact vnodup_of h2 h3
theorem ventry_at {es : Array MapEntry} {m : List (Int × Value)} (h3 : es.toList.map (fun e => (e.key, e.val)) = m.map vent) {j : Nat} {e : MapEntry} (hj : es.toList[j]? = some e) : ∃ p, m[j]? = some p ∧ e.key = .int .i64 p.1 ∧ e.val = p.2 := by
  have h := congrArg (·[j]?) h3
  simp only [List.getElem?_map, hj, Option.map_some] at h
  cases hm : m[j]? with
  | none => rw [hm] at h; cases h
  | some p =>
    rw [hm] at h
    simp only [Option.map_some, Option.some.injEq, vent, Prod.mk.injEq] at h
    exact ⟨p, rfl, h.1, h.2⟩
section
variable {P : Program} {w : World} {b : Nat} {m : List (Int × Value)} {t kt et : TypeId}
theorem VMap.find (h : VMap w b m) (k : Int) : ∃ es clock, w.heap[b]? = some (.map es clock) ∧ Stamped es clock ∧ es.toList.map (fun e => (e.key, e.val)) = m.map vent ∧
    ((Instr.findNow (.int .i64) (.int .i64 k) es.toList 0 = some none ∧ vlk m k = none ∧ ∀ x ∈ es.toList, x.key ≠ .int .i64 k) ∨
     ∃ j e v, Instr.findNow (.int .i64) (.int .i64 k) es.toList 0 = some (some (j, e.val)) ∧ es.toList[j]? = some e ∧ e.key = .int .i64 k ∧ e.val = v ∧ m[j]? = some (k, v) ∧ vlk m k = some v) := by
  obtain ⟨es, clock, h1, h2, h3⟩ := h
  refine ⟨es, clock, h1, h2, h3, ?_⟩
  have hks : ∀ x ∈ es.toList, IsKey (.int .i64) x.key := fun x hx => by
    have : x.key ∈ es.toList.map (·.key) := List.mem_map.2 ⟨x, hx, rfl⟩
    rw [vkeys_eq h3] at this
    obtain ⟨p, _, e⟩ := List.mem_map.1 this
    rw [← e]; exact rfl
  rcases findNow_spec (d := .int .i64) (k := .int .i64 k) rfl es.toList 0 hks with ⟨f1, f2⟩ | ⟨j, e0, f1, f2, f3⟩
  · refine .inl ⟨f1, vlk_none (fun p hp e => ?_), f2⟩
    have : Value.int .i64 p.1 ∈ es.toList.map (·.key) := by rw [vkeys_eq h3]; exact List.mem_map.2 ⟨p, hp, rfl⟩
    obtain ⟨x, hx, e2⟩ := List.mem_map.1 this
    exact f2 x hx (by rw [e2, e])
  · obtain ⟨p, p1, p2, p3⟩ := ventry_at h3 f2
    have : p.1 = k := by rw [f3] at p2; exact (Value.int.inj p2).2.symm
    refine .inr ⟨j, e0, p.2, by simpa using f1, f2, f3, p3, by rw [p1, ← this], ?_⟩
    refine vlk_mem (vnodup_of h2 h3) ?_
    rw [← this]; exact List.mem_of_getElem? p1
theorem VMap.lookup (h : VMap w b m) (k : Int) (ht : P.underlying t = some (.map kt et)) (hk : P.underlying kt = some (.int .i64)) {z : Value} (hz : (zeroValue et).run P w = .ok z w) :
    (Instr.lookup t (.map (some b)) (.int .i64 k) true).run P w = .ok (.tuple #[(vlk m k).getD z, .bool (vlk m k).isSome]) w := by
  obtain ⟨es, clock, h1, h2, h3, f | f⟩ := h.find k
  · obtain ⟨f1, f2, _⟩ := f
    have q := run_findKey (P := P) (w := w) hk f1
    simp [Instr.lookup, run_underlying ht, MapKept.run_getObj_map h1, run_checkKey (P := P) (w := w) (k := .int .i64 k) hk rfl _ 9999, q, hz, Result.andThen, f2]
  · obtain ⟨j, e, v, f1, _, _, f4, _, f5⟩ := f
    have q := run_findKey (P := P) (w := w) hk f1
    simp [Instr.lookup, run_underlying ht, MapKept.run_getObj_map h1, run_checkKey (P := P) (w := w) (k := .int .i64 k) hk rfl _ 9999, q, Result.andThen, f4, f5]
theorem vput_mod {j : Nat} {k : Int} {v v0 : Value} (hn : (m.map (·.1)).Nodup) (hj : m[j]? = some (k, v0)) : vput m k v = m.modify j (fun _ => (k, v)) := by
  have h0 : vlk m k = some v0 := vlk_mem hn (List.mem_of_getElem? hj)
  unfold vput
  rw [h0, if_pos (show (some v0).isSome = true from rfl)]
  apply List.ext_getElem?
  intro i
  rw [List.getElem?_map, List.getElem?_modify]
  cases hi : m[i]? with
  | none => simp
  | some p =>
    simp only [Option.map_some]
    by_cases hij : j = i
    · subst hij; rw [hj] at hi; cases hi; simp
    · have hne : p.1 ≠ k := fun e => hij (by
        have a1 : (m.map (·.1))[i]? = some k := by rw [List.getElem?_map, hi]; simp [e]
        have a2 : (m.map (·.1))[j]? = some k := by rw [List.getElem?_map, hj]; simp
        have hl : j < (m.map (·.1)).length := by
          rcases Nat.lt_or_ge j (m.map (·.1)).length with q | q
          · exact q
          · rw [List.getElem?_eq_none q] at a2; cases a2
        exact (List.getElem?_inj hl hn).1 (a2.trans a1.symm))
      simp [hij, hne]
theorem vgrown_obj {w : World} {b : Nat} {o o' : Obj} (hb : w.heap[b]? = some o) : w.grownBy { w with heap := w.heap.setIfInBounds b o' } (some b) := by
  refine ⟨rfl, rfl, rfl, by simp, fun k hk hne => ?_⟩
  rw [Array.getElem?_setIfInBounds]
  have : b ≠ k := fun e => hne (by rw [e])
  simp [this]
theorem VMap.update (h : VMap w b m) (k : Int) (v : Value) (ht : P.underlying t = some (.map kt et)) (hk : P.underlying kt = some (.int .i64)) :
    ∃ w', (Instr.mapUpdate t (.map (some b)) (.int .i64 k) v).run P w = .ok () w' ∧ VMap w' b (vput m k v) ∧ w.grownBy w' (some b) := by
  have hlt := h.lt
  obtain ⟨es, clock, h1, h2, h3, f | f⟩ := h.find k
  · obtain ⟨f1, f2, f3⟩ := f
    have q := run_findKey (P := P) (w := w) hk f1
    refine ⟨{ w with heap := w.heap.setIfInBounds b (.map (es.push ⟨.int .i64 k, v, clock⟩) (clock + 1)) }, ?_, ⟨es.push ⟨.int .i64 k, v, clock⟩, clock + 1, ?_, stamped_push h2 f3, ?_⟩, vgrown_obj h1⟩
    · simp [Instr.mapUpdate, run_underlying ht, MapKept.run_getObj_map h1, run_checkKey (P := P) (w := w) (k := .int .i64 k) hk rfl _ 9999, q, Result.andThen, run_setObj_map _ h1]
    · simp [hlt]
    · simp [vput, f2, h3, vent]
  · obtain ⟨j, e, v0, f1, f2, f3, f4, f5, f6⟩ := f
    have q := run_findKey (P := P) (w := w) hk f1
    have hej : es[j]? = some e := by rw [← Array.getElem?_toList]; exact f2
    refine ⟨{ w with heap := w.heap.setIfInBounds b (.map (es.modify j fun e => { e with key := .int .i64 k, val := v }) clock) }, ?_, ⟨es.modify j (fun e => { e with key := .int .i64 k, val := v }), clock, ?_, stamped_modify h2 _ _ (fun _ _ => rfl) (fun x hx h4 => ?_), ?_⟩, vgrown_obj h1⟩
    · simp [Instr.mapUpdate, run_underlying ht, MapKept.run_getObj_map h1, run_checkKey (P := P) (w := w) (k := .int .i64 k) hk rfl _ 9999, q, Result.andThen, run_setObj_map _ h1, hej, f3, run_keyThatStays (P := P) (w := w) (d := .int .i64) (k := .int .i64 k) rfl]
    · simp [hlt]
    · rw [hej] at h4; cases h4; exact f3.symm
    · rw [vput_mod (vnodup_of h2 h3) f5]
      apply List.ext_getElem?
      intro i
      have h4 := congrArg (·[i]?) h3
      simp only [List.getElem?_map, Array.getElem?_toList] at h4
      simp only [List.getElem?_map, Array.getElem?_toList, Array.getElem?_modify, List.getElem?_modify]
      by_cases hij : j = i
      · subst hij
        rw [hej, f5]
        simp [vent]
      · simpa [hij] using h4
theorem VMap.clear (h : VMap w b m) (ty : TypeId) (ht : P.underlying t = some (.map kt et)) :
    ∃ w', (Builtin.clear_ #[t] ty #[.map (some b)]).run P w = .ok (.tuple #[]) w' ∧ VMap w' b [] ∧ w.grownBy w' (some b) := by
  have hlt := h.lt
  obtain ⟨es, clock, h1, h2, h3⟩ := h
  refine ⟨{ w with heap := w.heap.setIfInBounds b (.map #[] clock) }, ?_, ⟨#[], clock, by simp [hlt], stamped_empty clock, rfl⟩, vgrown_obj h1⟩
  simp [Builtin.clear_, run_underlying ht, MapKept.run_getObj_map h1, run_setObj_map _ h1, Result.andThen]
theorem verase_map {α β : Type} (f : α → β) (l : List α) (j : Nat) : (l.eraseIdx j).map f = (l.map f).eraseIdx j := by
  rw [List.eraseIdx_eq_take_drop_succ, List.eraseIdx_eq_take_drop_succ, List.map_append, List.map_take, List.map_drop]
/-- What is left without a key. -/
def vdel (m : List (Int × Value)) (k : Int) : List (Int × Value) := m.filter fun p => decide (p.1 ≠ k)
theorem vdel_none {k : Int} (h : ∀ p ∈ m, p.1 ≠ k) : vdel m k = m := List.filter_eq_self.2 fun p hp => decide_eq_true (h p hp)
theorem vdel_at : ∀ {m : List (Int × Value)} {j : Nat} {k : Int} {v : Value}, (m.map (·.1)).Nodup → m[j]? = some (k, v) → m.eraseIdx j = vdel m k
  | [], j, k, v, _, h => by simp at h
  | p :: m, 0, k, v, hn, h => by
    simp only [List.getElem?_cons_zero, Option.some.injEq] at h
    subst h
    simp only [List.map_cons, List.nodup_cons] at hn
    have h2 : ∀ q ∈ m, q.1 ≠ k := fun q hq e => hn.1 (List.mem_map.2 ⟨q, hq, e⟩)
    show m = vdel ((k, v) :: m) k
    unfold vdel
    rw [List.filter_cons, if_neg (by simp)]
    exact (vdel_none h2).symm
  | p :: m, j + 1, k, v, hn, h => by
    simp only [List.map_cons, List.nodup_cons] at hn
    have h1 : m[j]? = some (k, v) := by simpa using h
    have hne : p.1 ≠ k := fun e => hn.1 (List.mem_map.2 ⟨(k, v), List.mem_of_getElem? h1, e.symm⟩)
    show p :: m.eraseIdx j = vdel (p :: m) k
    unfold vdel
    rw [List.filter_cons, if_pos (decide_eq_true hne), vdel_at hn.2 h1]; rfl
theorem VMap.delete (h : VMap w b m) (k : Int) (ty : TypeId) (ht : P.underlying t = some (.map kt et)) (hk : P.underlying kt = some (.int .i64)) :
    ∃ w', (Builtin.delete_ #[t, kt] ty #[.map (some b), .int .i64 k]).run P w = .ok (.tuple #[]) w' ∧ VMap w' b (vdel m k) ∧ w.grownBy w' (some b) := by
  have hlt := h.lt
  obtain ⟨es, clock, h1, h2, h3, f | f⟩ := h.find k
  · obtain ⟨f1, f2, f3⟩ := f
    have q := run_findKey (P := P) (w := w) hk f1
    refine ⟨{ w with heap := w.heap.setIfInBounds b (.map es clock) }, ?_, ⟨es, clock, by simp [hlt], h2, ?_⟩, vgrown_obj h1⟩
    · simp [Builtin.delete_, run_underlying ht, MapKept.run_getObj_map h1, run_checkKey (P := P) (w := w) (k := .int .i64 k) hk rfl _ 9999, q, Result.andThen, run_setObj_map _ h1]
    · rw [h3, vdel_none]
      intro p hp e
      have : Value.int .i64 p.1 ∈ es.toList.map (·.key) := by rw [vkeys_eq h3]; exact List.mem_map.2 ⟨p, hp, rfl⟩
      obtain ⟨x, hx, e2⟩ := List.mem_map.1 this
      exact f3 x hx (by rw [e2, e])
  · obtain ⟨j, e, v0, f1, f2, f3, f4, f5, f6⟩ := f
    have q := run_findKey (P := P) (w := w) hk f1
    refine ⟨{ w with heap := w.heap.setIfInBounds b (.map (es.eraseIdxIfInBounds j) clock) }, ?_, ⟨es.eraseIdxIfInBounds j, clock, by simp [hlt], stamped_erase h2 j, ?_⟩, vgrown_obj h1⟩
    · simp [Builtin.delete_, run_underlying ht, MapKept.run_getObj_map h1, run_checkKey (P := P) (w := w) (k := .int .i64 k) hk rfl _ 9999, q, Result.andThen, run_setObj_map _ h1]
    · have hsub : (es.eraseIdxIfInBounds j).toList = es.toList.eraseIdx j := by
        unfold Array.eraseIdxIfInBounds
        split
        · simp only [Array.toList_eraseIdx]
        · rename_i hj
          rw [List.eraseIdx_of_length_le (by simpa using hj)]
      rw [hsub, ← vdel_at (vnodup_of h2 h3) f5, verase_map, h3, ← verase_map]
theorem VMap.new (w : World) : VMap (w.alloc (.map #[] 0)) w.heap.size [] := ⟨#[], 0, heap_alloc_new _ _, stamped_empty 0, rfl⟩
end
end Go.Eng
