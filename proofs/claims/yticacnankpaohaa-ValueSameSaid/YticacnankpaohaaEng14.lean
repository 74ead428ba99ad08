/- A function's contract out of its symbolic run. No program in sight. -/
import Derived.Test.YticacnankpaohaaEng13
namespace Go.Eng
open Go.RowKit
set_option linter.unusedVariables false
set_option linter.unusedSimpArgs false

theorem arr_getD {A : Array Value} {j : Nat} {v d : Value} (h : A[j]? = some v) : A.getD j d = v := by rw [Array.getD_eq_getD_getElem?, h]; rfl
def resM (a : Act) : ResultVar → Sem Value
  | .tmp t => pure (a.tmps.getD t undef)
  | .cell d t => do loadVar t (← asAddr (a.tmps.getD d undef))
section
variable {C : Cfg} {T : Tab} {st : St} {ρ : Env} {ids : List Nat} {hx : HX} {a : Act} {w : World}
theorem resOne_ok (hT : TabOk C.P T) (hs : Sit C st ρ ids hx a w) {r : ResultVar} {x : Bool × List LV} (h : resOne T st r = some x) :
    (resM a r).run C.P w = .ok (compDen ρ ids x) w ∧ (x.1 = false → ∃ l, x.2 = [l]) := by
  cases r with
  | tmp t =>
    simp only [resOne] at h
    split at h
    · rename_i l hl
      cases h
      obtain ⟨h1, h2⟩ := St.get_ne hl
      have := hs.act.at_ t _ h1 h2
      refine ⟨?_, fun _ => ⟨l, rfl⟩⟩
      have e1 := arr_getD (d := undef) this
      simp only [resM, e1]
      rfl
    · rename_i cs hl
      cases h
      obtain ⟨h1, h2⟩ := St.get_ne hl
      have := hs.act.at_ t _ h1 h2
      refine ⟨?_, fun e => by cases e⟩
      have e1 := arr_getD (d := undef) this
      simp only [resM, e1]
      rfl
    · cases h
  | cell d t =>
    simp only [resOne] at h
    split at h
    · rename_i n off hl
      obtain ⟨h1, h2⟩ := St.get_ne hl
      have := hs.act.at_ d _ h1 h2
      have key : ∀ v, loadS T t st n off = some v → (resM a (.cell d t)).run C.P w = .ok (v.den ρ ids) w := fun v hv => by
        obtain ⟨ty, cs, hn⟩ := loadS_hp hv
        have h3 := loadS_ok (C := C) (w := w) (ρ := ρ) (ids := ids) hT hv hn (hs.facts.blk n ty cs hn)
        have e1 := arr_getD (d := undef) this
        simp only [resM, e1, SV.den, LV.den, asAddr, Sem.run_bind, Sem.run_pure, Result.andThen_ok, h3]
      split at h
      · rename_i l hv
        cases h
        exact ⟨key _ hv, fun _ => ⟨l, rfl⟩⟩
      · rename_i cs hv
        cases h
        exact ⟨key _ hv, fun e => by cases e⟩
      · cases h
    · cases h
theorem resAll_ok (hT : TabOk C.P T) (hs : Sit C st ρ ids hx a w) : ∀ {rs : List ResultVar} {xs : List (Bool × List LV)}, resAll T st rs = some xs →
    (rs.mapM (resM a)).run C.P w = .ok (xs.map (compDen ρ ids)) w ∧ ∀ x, x ∈ xs → x.1 = false → ∃ l, x.2 = [l]
  | [], xs, h => by
    simp only [resAll, Option.some.injEq] at h
    subst h
    exact ⟨rfl, fun x hx => by cases hx⟩
  | r :: rs, xs, h => by
    simp only [resAll] at h
    split at h
    · rename_i x ys h1 h2
      cases h
      obtain ⟨a1, a2⟩ := resOne_ok hT hs h1
      obtain ⟨b1, b2⟩ := resAll_ok hT hs h2
      refine ⟨?_, fun z hz => ?_⟩
      · simp only [List.mapM_cons, Sem.run_bind]
        rw [a1]
        simp only [Result.andThen_ok]
        rw [b1]
        rfl
      · rcases List.mem_cons.1 hz with rfl | hz
        · exact a2
        · exact b2 z hz
    · cases h
theorem resS_ok (hT : TabOk C.P T) (hs : Sit C st ρ ids hx a w) {fn : Func} {v : SV} (h : resS T st fn.results.toList = some v) : (results fn a.tmps).run C.P w = .ok (v.den ρ ids) w := by
  unfold resS at h
  have key : ∀ xs, resAll T st fn.results.toList = some xs → (results fn a.tmps).run C.P w = .ok (if h : (xs.map (compDen ρ ids)).toArray.size = 1 then (xs.map (compDen ρ ids)).toArray[0] else .tuple (xs.map (compDen ρ ids)).toArray) w ∧ ∀ x, x ∈ xs → x.1 = false → ∃ l, x.2 = [l] := fun xs hxs => by
    obtain ⟨h1, h2⟩ := resAll_ok hT hs hxs
    refine ⟨?_, h2⟩
    have e0 : results fn a.tmps = (do let vs ← fn.results.mapM (resM a); pure (if h : vs.size = 1 then vs[0] else .tuple vs)) := by
      unfold results
      have : (fun r => (match r with | .tmp t => pure (a.tmps.getD t undef) | .cell d t => (do loadVar t (← asAddr (a.tmps.getD d undef))) : Sem Value)) = resM a := funext fun r => by cases r <;> rfl
      rw [← this]
      rfl
    rw [e0, Sem.run_bind, Array.mapM_eq_mapM_toList, Sem.run_map, h1]
    rfl
  split at h
  · rename_i cs hxs
    cases h
    obtain ⟨h1, _⟩ := key _ hxs
    rw [h1]; rfl
  · rename_i l hxs
    cases h
    obtain ⟨h1, _⟩ := key _ hxs
    rw [h1]; rfl
  · rename_i xs hne1 hne2 hxs
    cases h
    obtain ⟨h1, h2⟩ := key _ hxs
    rw [h1]
    congr 1
    rw [dif_neg]
    · rfl
    · intro hsz
      simp only [List.size_toArray, List.length_map] at hsz
      obtain ⟨x, rfl⟩ : ∃ x, xs = [x] := by
        cases xs with
        | nil => simp at hsz
        | cons x xs => cases xs with
          | nil => exact ⟨x, rfl⟩
          | cons y ys => simp at hsz
      obtain ⟨x1, x2⟩ := x
      cases x1 with
      | true => exact hne1 x2 rfl
      | false =>
        obtain ⟨l, hl⟩ := h2 (false, x2) (by simp) rfl
        simp only at hl
        subst hl
        exact hne2 l rfl
  · cases h

/-- **THE CONTRACT.** -/
theorem calls_ok {P : Program} {W : World} {M : Nat → Prop} {R : Ending → World → Prop} (hT : TabOk P T) {f : FuncId} {fn : Func} {c : Code} (hf : P.funcs[f]? = some fn) (hb : fn.body = some c) (args : List SV) {m : Mem} {ρ : Env} {ids : List Nat} {hx : HX} {t : Tree}
    (ht : runF T c fn.results.toList (entry fn.ntmps args m.hp m.c) = t) (h0 : Facts ⟨P, W, M, R⟩ m ρ ids hx W) (h : t.holds ⟨P, W, M, R⟩ ρ ids hx []) : Calls P f (args.map (SV.den ρ ids)).toArray W R := by
  subst ht
  refine calls_of_wp hf hb ?_
  refine run_ok (C := ⟨P, W, M, R⟩) (T := T) hT 2000 [] c _ _ ρ ids ids hx [] _ W _ h (List.prefix_refl _) ⟨h0, ?_⟩ ?_
  · refine ⟨rfl, by simp [entry], fun j s hj hs => ?_⟩
    simp only [entry, List.getElem?_append] at hj
    simp only [Array.getElem?_append, List.size_toArray, List.length_map, List.getElem?_toArray, List.getElem?_map]
    split at hj
    · rename_i hlt
      rw [if_pos hlt, hj]; rfl
    · rename_i hlt
      rw [if_neg hlt]
      rw [List.getElem?_replicate] at hj
      split at hj
      · rename_i h2
        cases hj
        simp only [Array.getElem?_replicate, h2, if_true]
        rfl
      · cases hj
  · intro e st' ρ' pre' ids' hx' a' w' L' _ hh hp' hs' hi' _
    have done : ∀ v, resS T st' fn.results.toList = some v → (Tree.done v st'.mem).holds ⟨P, W, M, R⟩ ρ' pre' hx' L' → a'.defers = [] ∧ ∃ v, (results fn a'.tmps).run P w' = .ok v w' ∧ R (.returned v) w' := fun v hv hd =>
      ⟨hs'.act.defers, _, resS_ok (C := ⟨P, W, M, R⟩) hT hs' hv, hd ids' w' hp' hs'.facts⟩
    cases e with
    | normal =>
      simp only at hh
      split at hh
      · rename_i v hv; exact done v hv hh
      · exact hh.elim
    | ret =>
      simp only at hh
      split at hh
      · rename_i v hv; exact done v hv hh
      · exact hh.elim
    | exit j => exact hh.elim
    | goto l => exact hh.elim
end

/-! ### How a contract begins and ends -/
theorem Chg.below {w w' : World} (h : Chg (fun _ => False) w w') : Below w.heap.size w w' := ⟨h.os, h.tape, h.output, h.size, fun k hk => h.block k hk (fun e => e)⟩
theorem Chg.grown {w w' : World} {b : Nat} (h : Chg (fun x => x = b) w w') : w.grownBy w' (some b) := ⟨h.os, h.tape, h.output, h.size, fun k hk hne => h.block k hk (fun e => hne (by rw [e]))⟩
theorem chg_of_below {F : Nat → Prop} {w w' : World} (h : Below w.heap.size w w') : Chg F w w' := ⟨h.os, h.tape, h.output, h.size, fun k hk _ => h.block k hk⟩
theorem chg_of_grown {F : Nat → Prop} {w w' : World} {b : Nat} (hb : F b) (h : w.grownBy w' (some b)) : Chg F w w' := ⟨h.os, h.tape, h.output, h.size, fun k hk hn => h.block k hk (fun e => by cases e; exact hn hb)⟩
theorem Facts.init0 {P : Program} {w : World} {M : Nat → Prop} {R : Ending → World → Prop} {ρ : Env} {c : Cnt} (hc : ρ.cnt = c) (h1 : ∀ v, v ∈ ρ.v → v.oneCell' = true) : Facts ⟨P, w, M, R⟩ ⟨[], c⟩ ρ [] HX.nil w :=
  ⟨rfl, List.nodup_nil, fun n ty cs hn => by simp at hn, fun id hid => by simp at hid, Chg.refl _ _, trivial, fun b hb => hb.elim, ⟨hc, h1⟩⟩
/-- One block that is known, and that the call may write. -/
theorem Facts.init1 {P : Program} {w : World} {R : Ending → World → Prop} {ρ : Env} {c : Cnt} {b ty : Nat} {cs : List LV} {us : List Value} (hc : ρ.cnt = c) (h1 : ∀ v, v ∈ ρ.v → v.oneCell' = true) (hb : w.heap[b]? = some (.cells us.toArray ty (0, 0))) (hu : us = cellsDen ρ [b] cs) :
    Facts ⟨P, w, fun x => x = b, R⟩ ⟨[(ty, cs)], c⟩ ρ [b] HX.nil w := by
  subst hu
  refine ⟨rfl, by simp, fun n ty' cs' hn => ?_, fun id hid => .inr (by simpa using hid), Chg.refl _ _, trivial, fun b hb => hb.elim, ⟨hc, h1⟩⟩
  cases n with
  | zero =>
    simp only [List.getElem?_cons_zero, Option.some.injEq, Prod.mk.injEq] at hn
    obtain ⟨rfl, rfl⟩ := hn
    exact hb
  | succ n => simp at hn
/-- Behind a call that has only made new memory all that is known holds. -/
theorem Facts.pureCall {C : Cfg} {m : Mem} {c' : Cnt} {ρ : Env} {vs : Vals} {ids : List Nat} {hx : HX} {w w' : World} (hf : Facts C m ρ ids hx w) (hb : Below w.heap.size w w') (hfit : hpFits m.c ids.length m.hp = true) (hc : EnvOk (ρ.add vs) c') : Facts C ⟨m.hp, c'⟩ (ρ.add vs) ids hx w' := by
  refine ⟨hf.len, hf.nod, fun n ty cs hn => ?_, hf.own, hf.chg.trans (chg_of_below hb), hx.loc w w' hf.x (fun b hb2 => hb.block b (hf.sep b hb2).1), fun b hb2 => ⟨Nat.lt_of_lt_of_le (hf.sep b hb2).1 hb.size, (hf.sep b hb2).2⟩, hc⟩
  have h1 := hf.blk n ty cs hn
  have hlt : n < ids.length := by
    rw [hf.len]
    rcases Nat.lt_or_ge n m.hp.length with q | q
    · exact q
    · rw [List.getElem?_eq_none q] at hn; cases hn
  rw [hb.block _ (hf.id_lt (idAt_mem hlt)), h1, cellsDen_add hf.cnt.cnt (List.prefix_refl _) rfl (List.all_eq_true.1 hfit _ (List.mem_of_getElem? hn))]
end Go.Eng
