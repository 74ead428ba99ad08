/- One operation of the symbolic run is what the operation does. No program in sight. -/
import Derived.Test.YticacnankpaohaaEng4
import Derived.Laws.CopyRow
import Derived.Laws.Cells
import Derived.ChangeKeysEq
namespace Go.Eng
set_option linter.unusedVariables false
set_option linter.unusedSimpArgs false

section
variable {P : Program} {T : Tab} {st : St} {ρ : Env} {ids : List Nat} {a : Act}

/-! ### The table -/
theorem ti_ok (hT : TabOk P T) {t : Nat} {i : TI} (h : T.ti t = some i) : ∃ inf, P.info? t = some inf ∧ inf.size = i.size ∧ zeroB inf.zero i.zero = true ∧ tdB P t i.d = true := by
  have := hT.tt t i h
  unfold tiB at this
  split at this
  · rename_i inf he
    simp only [Bool.and_eq_true, beq_iff_eq] at this
    exact ⟨inf, he, this.1.1, this.1.2, this.2⟩
  · cases this
theorem und_int {t : Nat} {k : IntKind} (h : tdB P t (.int k) = true) : P.underlying t = some (.int k) := by
  unfold tdB at h; split at h <;> simp_all
theorem und_bool {t : Nat} (h : tdB P t .bool = true) : P.underlying t = some .bool := by
  unfold tdB at h; split at h <;> simp_all
theorem und_ptr {t e : Nat} (h : tdB P t (.ptr e) = true) : P.underlying t = some (.pointer e) := by
  unfold tdB at h; split at h <;> simp_all
theorem und_slice {t e : Nat} (h : tdB P t (.slice e) = true) : P.underlying t = some (.slice e) := by
  unfold tdB at h; split at h <;> simp_all
theorem und_struct {t : Nat} {fs : List (Nat × Nat × Nat)} (h : tdB P t (.struct fs) = true) : ∃ gs : Array Field, P.underlying t = some (.struct gs) ∧ fs = gs.toList.map (fun f => (f.offset, f.type, P.cellsOf f.type)) ∧
    (∀ f, f ∈ gs → f.name ≠ "_" ∧ (P.info? f.type).isSome = true) ∧ P.stoodInHeld t = false ∧ P.eqGuardType P.depth t = false := by
  unfold tdB at h
  split at h <;> simp_all
  intro f hf
  obtain ⟨i, hi, rfl⟩ := Array.getElem_of_mem hf
  exact h.1.1.2 i hi
theorem und_array {t n e sz : Nat} (h : tdB P t (.array n e sz) = true) : P.underlying t = some (.array n e) ∧ sz = P.cellsOf e ∧ (P.info? e).isSome = true ∧ P.eqGuardType P.depth t = false := by
  unfold tdB at h; split at h <;> simp_all
  obtain ⟨⟨⟨⟨rfl, rfl⟩, _⟩, h⟩, _⟩ := h
  exact h
theorem run_isAgg (hT : TabOk P T) {t : Nat} {i : TI} (h : T.ti t = some i) (hb : (match i.d with | .bad => false | _ => true) = true) (w : World) : (isAgg t).run P w = .ok i.d.isAgg w := by
  obtain ⟨inf, _, _, _, hd⟩ := ti_ok hT h
  obtain ⟨d, sz, z⟩ := i
  have key : ∀ u : TypeDesc, P.underlying t = some u → (match u with | .struct _ | .array _ _ => true | _ => false) = d.isAgg → (isAgg t).run P w = .ok d.isAgg w := by
    intro u hu he
    unfold isAgg
    rw [Sem.run_bind, run_underlying hu, ← he]
    cases u <;> simp [go_sem]
  unfold tdB at hd
  cases hu : P.underlying t with
  | none =>
    rw [hu] at hd
    clear key
    cases d <;> first | (simp at hb; done) | (exact absurd hd (by simp))
  | some u =>
    refine key u hu ?_
    rw [hu] at hd
    clear key
    cases d <;> first
      | (simp at hb; done)
      | (cases u <;> first | rfl | (exact absurd hd (by simp)))
theorem cellsOf_ti (hT : TabOk P T) {t : Nat} {i : TI} (h : T.ti t = some i) : P.cellsOf t = i.size := by
  obtain ⟨inf, h1, h2, _, _⟩ := ti_ok hT h
  simp [Program.cellsOf, h1, h2]
theorem run_size (hT : TabOk P T) {t : Nat} {i : TI} (h : T.ti t = some i) (w : World) : (sizeOf t).run P w = .ok i.size w := by
  obtain ⟨inf, h1, h2, _, _⟩ := ti_ok hT h
  rw [run_sizeOf _ h1, cellsOf_ti hT h]
theorem same_den (ρ : Env) (ids : List Nat) : ∀ {x y : LV}, x.same y = true → x.den ρ ids = y.den ρ ids := by
  intro x y h
  unfold LV.same at h
  split at h
  all_goals first
    | rfl
    | (cases h; done)
    | (simp_all; done)
    | (simp only [decide_eq_true_eq] at h; simp_all; done)
    | skip
  rename_i v v'
  unfold sameV at h
  split at h <;> simp_all [LV.den]
theorem sameL_den (ρ : Env) (ids : List Nat) : ∀ {x y : List LV}, sameL x y = true → cellsDen ρ ids x = cellsDen ρ ids y
  | [], [], _ => rfl
  | a :: r, b :: s, h => by
    simp only [sameL, Bool.and_eq_true] at h
    have := sameL_den ρ ids h.2
    simp only [cellsDen, List.map_cons, same_den ρ ids h.1] at *
    rw [this]
  | [], _ :: _, h => by simp [sameL] at h
  | _ :: _, [], h => by simp [sameL] at h
theorem cellsDen_toLV (ρ : Env) (ids : List Nat) (l : List Value) : cellsDen ρ ids (l.map toLV) = l := by
  simp only [cellsDen, List.map_map]
  have : (LV.den ρ ids ∘ toLV) = id := funext fun v => toLV_den ρ ids v
  rw [this]; simp
theorem zero_ok (hT : TabOk P T) {t : Nat} {z : List LV} (h : T.zero t = some z) (ρ : Env) (ids : List Nat) (w : World) : ∃ v : Value, (zeroValue t).run P w = .ok v w ∧ v.cells.toList = cellsDen ρ ids z := by
  unfold Tab.zero at h
  obtain ⟨i, hi, hz⟩ := Option.bind_eq_some_iff.1 h
  obtain ⟨inf, h1, _, h3, _⟩ := ti_ok hT hi
  rw [hz] at h3
  unfold zeroB at h3
  simp only at h3
  split at h3
  · rename_i v hv
    refine ⟨v, ?_, ?_⟩
    · simp [zeroValue, run_typeInfo _ h1, hv]
    · rw [← sameL_den ρ ids h3, cellsDen_toLV]
  · cases h3
theorem zero_len (hT : TabOk P T) {t : Nat} {z : List LV} (h : T.zero t = some z) (w : World) : ∃ v : Value, (zeroValue t).run P w = .ok v w ∧ v.cells.size = z.length := by
  obtain ⟨v, h1, h2⟩ := zero_ok hT h ⟨[], [], [], [], []⟩ [] w
  exact ⟨v, h1, by rw [← Array.length_toList, h2]; simp [cellsDen]⟩

/-! ### Makers -/
theorem mk_den (f : BinOp) (k : IntKind) (x y : IE) : (IE.mk f k x y).den ρ = ifn f k (x.den ρ) (y.den ρ) := by
  unfold IE.mk
  split
  · rename_i n m
    have key : ∀ z : Int, small z = true → IntKind.i64.wrap z = z := by
      intro z hz
      simp only [small, Bool.and_eq_true, decide_eq_true_eq] at hz
      exact IntWalk.i64_in _ (by omega)
    split
    · split
      · rename_i hs; simp only [IE.den, ifn, key _ hs]
      · rfl
    · split
      · rename_i hs; simp only [IE.den, ifn, key _ hs]
      · rfl
    · rfl
  · rfl
theorem mkCmp_den (f : BinOp) (x y : IE) : (BE.mkCmp f x y).den ρ = cfn f (x.den ρ) (y.den ρ) := by
  unfold BE.mkCmp; split <;> rfl
theorem mkNot_den (x : BE) : x.mkNot.den ρ = !(x.den ρ) := by
  unfold BE.mkNot; split <;> simp [BE.den]
theorem mkAnd_den (x y : BE) : (BE.mkAnd x y).den ρ = (x.den ρ && y.den ρ) := by
  unfold BE.mkAnd; split <;> simp [BE.den]
theorem mkEq_den (x y : BE) : (BE.mkEq x y).den ρ = (x.den ρ == y.den ρ) := by
  unfold BE.mkEq; split <;> simp [BE.den, mkNot_den]

/-! ### '==' -/
theorem getElem_cellsDen (cs : List LV) (j : Nat) : (cellsDen ρ ids cs)[j]? = (cs[j]?).map (LV.den ρ ids) := by simp [cellsDen]
theorem sub_den (cs : List LV) (off n : Nat) : cellsDen ρ ids (sub cs off n) = ((cellsDen ρ ids cs).drop off).take n := by simp [cellsDen, sub, List.map_drop, List.map_take]
def mkV (ρ : Env) (ids : List Nat) (i : TI) (us : List LV) : Value := if i.d.isAgg then .agg (cellsDen ρ ids us).toArray else (cellsDen ρ ids us).headD undef
theorem run_part (hT : TabOk P T) {t : Nat} {i : TI} (h : T.ti t = some i) (hb : (match i.d with | .bad => false | _ => true) = true) (cs : List LV) (off : Nat)
    (hl : i.d.isAgg = false → ∃ l r, sub cs off i.size = l :: r) (w : World) : (part t (cellsDen ρ ids cs).toArray off).run P w = .ok (mkV ρ ids i (sub cs off i.size)) w := by
  unfold part mkV
  rw [Sem.run_bind, run_isAgg hT h hb, Result.andThen_ok]
  by_cases ha : i.d.isAgg = true
  · rw [if_pos ha, if_pos ha, Sem.run_bind, run_size hT h, Result.andThen_ok, Sem.run_pure, sub_den]
    simp
  · rw [if_neg ha, if_neg ha]
    obtain ⟨l, r, hs⟩ := hl (by simpa using ha)
    have h0 : cs[off]? = some l := by
      have : (sub cs off i.size)[0]? = some l := by rw [hs]; rfl
      unfold sub at this
      rw [List.getElem?_take] at this
      split at this
      · simpa using this
      · cases this
    have h1 : (cellsDen ρ ids cs).toArray[off]? = some (l.den ρ ids) := by simp [getElem_cellsDen, h0]
    rw [h1, hs]; rfl
theorem eqS_lf {n t : Nat} {xs ys : List LV} {b : BE} {i : TI} (h : eqS T n t xs ys = some b) (hi : T.ti t = some i) (ha : i.d.isAgg = false) : (∃ l, xs = [l]) ∧ ∃ l, ys = [l] := by
  cases n with
  | zero => simp [eqS] at h
  | succ n =>
    unfold eqS at h
    rw [hi] at h
    simp only at h
    split at h
    · split at h
      · exact ⟨⟨_, rfl⟩, ⟨_, rfl⟩⟩
      · cases h
    · split at h
      · exact ⟨⟨_, rfl⟩, ⟨_, rfl⟩⟩
      · cases h
    · rename_i fs hd; rw [hd] at ha; cases ha
    · rename_i hd; rw [hd] at ha; cases ha
    · cases h
theorem eqS_some {n t : Nat} {xs ys : List LV} {b : BE} (h : eqS T n t xs ys = some b) : ∃ i, T.ti t = some i ∧ (match i.d with | .bad => false | _ => true) = true := by
  cases n with
  | zero => simp [eqS] at h
  | succ n =>
    unfold eqS at h
    split at h
    · cases h
    · rename_i i hi
      refine ⟨i, hi, ?_⟩
      split at h <;> simp_all
theorem eqS_ok (hT : TabOk P T) : ∀ (n t : Nat) (xs ys : List LV) (b : BE), eqS T n t xs ys = some b → ∀ i, T.ti t = some i → ∀ d, n ≤ d → ∀ w, (Op.equalIn d t (mkV ρ ids i xs) (mkV ρ ids i ys)).run P w = .ok (b.den ρ) w
  | 0, _, _, _, _, h, _, _, _, _, _ => by simp [eqS] at h
  | n + 1, t, xs, ys, b, h, i, hi, d, hd, w => by
    obtain ⟨d, rfl⟩ : ∃ e, d = e + 1 := ⟨d - 1, by omega⟩
    obtain ⟨inf, _, _, _, htd⟩ := ti_ok hT hi
    unfold eqS at h
    rw [hi] at h
    simp only at h
    split at h
    · rename_i k hk
      rw [hk] at htd
      split at h
      · rename_i k1 x k2 y
        split at h
        · rename_i e
          cases h
          subst e
          have : i.d.isAgg = false := by rw [hk]; rfl
          simp only [mkV, this, Bool.false_eq_true, if_false, cellsDen, List.map_cons, List.headD_cons, LV.den]
          rw [run_equalIn_int w d t _ _ _ _ (und_int htd), mkCmp_den]; rfl
        · cases h
      · cases h
    · rename_i hk
      rw [hk] at htd
      split at h
      · rename_i x y
        cases h
        have : i.d.isAgg = false := by rw [hk]; rfl
        simp only [mkV, this, Bool.false_eq_true, if_false, cellsDen, List.map_cons, List.headD_cons, LV.den]
        rw [run_equalIn_bool' w d t _ _ (und_bool htd), mkEq_den]
      · cases h
    · rename_i fs hk
      rw [hk] at htd
      obtain ⟨gs, hu, hfs, hn, hst, _⟩ := und_struct htd
      have : i.d.isAgg = true := by rw [hk]; rfl
      simp only [mkV, this, if_true]
      have hfo : P.fieldsOf t = gs := by unfold Program.fieldsOf; rw [hu]
      rw [run_equalIn_struct w d t _ _ (by rw [hfo]; exact hu) hst, hfo]
      have hn' : ∀ f, f ∈ gs.toList → f.name ≠ "_" := fun f hf => (hn f (by simpa using hf)).1
      clear hfo hu hn hst this hk
      subst hfs
      generalize gs.toList = l at *
      clear gs htd
      induction l generalizing b with
      | nil => simp at h; subst h; simp [Op.eqFields, BE.den]
      | cons f l ih =>
        simp only [List.map_cons, List.foldr_cons] at h
        split at h
        · rename_i x r h1 h2
          cases h
          obtain ⟨j, hj, hjb⟩ := eqS_some h1
          have hsz := cellsOf_ti hT hj
          have hpx := run_part (ρ := ρ) (ids := ids) hT hj hjb xs f.offset (fun ha => by
            obtain ⟨⟨l1, e1⟩, _⟩ := eqS_lf h1 hj ha
            rw [hsz] at e1; exact ⟨l1, [], e1⟩) w
          have hpy := run_part (ρ := ρ) (ids := ids) hT hj hjb ys f.offset (fun ha => by
            obtain ⟨_, ⟨l1, e1⟩⟩ := eqS_lf h1 hj ha
            rw [hsz] at e1; exact ⟨l1, [], e1⟩) w
          have hq := eqS_ok hT n _ _ _ _ h1 j hj d (by omega) w
          rw [hsz] at hq
          unfold Op.eqFields
          rw [if_pos (hn' f (by simp))]
          simp only [Sem.run_bind, hpx, hpy, hq, Result.andThen_ok, mkAnd_den]
          cases hx : x.den ρ
          · simp
          · simp only [Bool.not_true, Bool.false_eq_true, if_false, Bool.true_and]
            exact ih r (fun f hf => hn' f (by simp [hf])) h2
        · cases h
    · rename_i k e sz hk
      rw [hk] at htd
      obtain ⟨hu, hsz0, hinf, _⟩ := und_array htd
      obtain ⟨inf2, hinf⟩ := Option.isSome_iff_exists.1 hinf
      have : i.d.isAgg = true := by rw [hk]; rfl
      simp only [mkV, this, if_true]
      rw [run_equalIn_array w d _ _ hu hinf]
      clear hu this hk htd hinf inf2
      subst hsz0
      generalize List.range k = l at *
      induction l generalizing b with
      | nil => simp at h; subst h; simp [Op.eqItems, BE.den]
      | cons f l ih =>
        simp only [List.foldr_cons] at h
        split at h
        · rename_i x r h1 h2
          cases h
          obtain ⟨j, hj, hjb⟩ := eqS_some h1
          have hsz := cellsOf_ti hT hj
          have ih2 := ih r h2
          unfold Op.eqItems
          generalize f * P.cellsOf e = off at *
          have hpx := run_part (ρ := ρ) (ids := ids) hT hj hjb xs off (fun ha => by
            obtain ⟨⟨l1, e1⟩, _⟩ := eqS_lf h1 hj ha
            rw [hsz] at e1; exact ⟨l1, [], e1⟩) w
          have hpy := run_part (ρ := ρ) (ids := ids) hT hj hjb ys off (fun ha => by
            obtain ⟨_, ⟨l1, e1⟩⟩ := eqS_lf h1 hj ha
            rw [hsz] at e1; exact ⟨l1, [], e1⟩) w
          have hq := eqS_ok hT n _ _ _ _ h1 j hj d (by omega) w
          rw [hsz] at hq
          simp only [Sem.run_bind, hpx, hpy, hq, Result.andThen_ok, mkAnd_den]
          cases hx : x.den ρ
          · simp
          · simp only [Bool.not_true, Bool.false_eq_true, if_false, Bool.true_and]
            exact ih2
        · cases h
    · cases h
end
end Go.Eng
