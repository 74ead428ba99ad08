/- What the outcome of a symbolic run asks, and the small laws. No program in sight. -/
import Derived.Test.YticacnankpaohaaEng3
namespace Go.Eng
set_option linter.unusedVariables false
set_option linter.unusedSimpArgs false

/-- Only the blocks of F, and new ones, have changed. -/
structure Chg (F : Nat → Prop) (w w' : World) : Prop where
  os : w'.os = w.os
  tape : w'.tape = w.tape
  output : w'.output = w.output
  size : w.heap.size ≤ w'.heap.size
  block : ∀ k, k < w.heap.size → ¬ F k → w'.heap[k]? = w.heap[k]?
theorem Chg.refl (F : Nat → Prop) (w : World) : Chg F w w := ⟨rfl, rfl, rfl, Nat.le_refl _, fun _ _ _ => rfl⟩
theorem Chg.trans {F : Nat → Prop} {a b c : World} (h : Chg F a b) (k : Chg F b c) : Chg F a c :=
  ⟨k.os.trans h.os, k.tape.trans h.tape, k.output.trans h.output, Nat.le_trans h.size k.size, fun i hi hf => (k.block i (Nat.lt_of_lt_of_le hi h.size) hf).trans (h.block i hi hf)⟩
/-- What is said of memory beside the blocks that are known: of the blocks F alone. -/
structure HX where
  F : Nat → Prop
  X : World → Prop
  loc : ∀ w w', X w → (∀ b, F b → w'.heap[b]? = w.heap[b]?) → X w'
def HX.nil : HX := ⟨fun _ => False, fun _ => True, fun _ _ _ _ => trivial⟩
structure Cfg where
  P : Program
  W : World
  M : Nat → Prop
  R : Ending → World → Prop
/-- As many atoms of each kind; each value is one cell. -/
structure EnvOk (ρ : Env) (c : Cnt) : Prop where
  cnt : ρ.cnt = c
  one : ∀ v, v ∈ ρ.v → v.oneCell' = true
structure Facts (C : Cfg) (m : Mem) (ρ : Env) (ids : List Nat) (hx : HX) (w : World) : Prop where
  len : ids.length = m.hp.length
  nod : ids.Nodup
  blk : ∀ n ty cs, m.hp[n]? = some (ty, cs) → w.heap[idAt ids n]? = some (.cells (cellsDen ρ ids cs).toArray ty (0, 0))
  own : ∀ id, id ∈ ids → C.W.heap.size ≤ id ∨ C.M id
  chg : Chg C.M C.W w
  x : hx.X w
  sep : ∀ b, hx.F b → b < w.heap.size ∧ b ∉ ids
  cnt : EnvOk ρ m.c
def HXok (hx : HX) (w : World) (ids : List Nat) : Prop := hx.X w ∧ ∀ b, hx.F b → b < w.heap.size ∧ b ∉ ids
/-- What lies from an address on. -/
def CellsAt (w : World) (v : Value) (us : List Value) (N : Nat → Prop) : Prop :=
  ∃ ad : Addr, v = .pointer (some ad) ∧ ¬ N ad.block ∧ ∀ j u, us[j]? = some u → w.cell? (ad.add j) = some u
def envOf (ρ : Env) (ids : List Nat) (ps : List (Nat × SV)) : Operand → Value
  | .tmp t => match lkup t ps with | some s => s.den ρ ids | none => undef
  | .const v => v
  | .global g => .pointer (some ⟨g, 0, none⟩)
  | .func f => .func (.func f) #[] #[]
def GenRun (P : Program) (op : Op) (ty : Nat) (ρf : Operand → Value) (w : World) (K : Option Value → World → Prop) : Prop :=
  match (execOp ρf ⟨none, op, ty, "", #[], none⟩).run P w with
  | .ok (.value v) w' => K (some v) w'
  | .ok .skip w' => K none w'
  | _ => False
abbrev Inv := Vals → HX → Prop
abbrev Stack := List (Nat × Inv)
def Tree.holds (C : Cfg) : Tree → Env → List Nat → HX → Stack → Prop
  | .done v m, ρ, pre, hx, _ => ∀ ids w, pre <+: ids → Facts C m ρ ids hx w → C.R (.returned (v.den ρ ids)) w
  | .fail _ _, _, _, _, _ => False
  | .br b t f, ρ, pre, hx, L => (b.den ρ = true → t.holds C ρ pre hx L) ∧ (b.den ρ = false → f.holds C ρ pre hx L)
  | .need p t, ρ, pre, hx, L => p.den ρ ∧ (p.den ρ → t.holds C ρ pre hx L)
  | .call f args m r m' t, ρ, pre, hx, L => ∀ ids w, pre <+: ids → Facts C m ρ ids hx w →
      Calls C.P f (args.map (SV.den ρ ids)).toArray w fun e w' => ∃ vs ids' hx', e = .returned (r.den (ρ.add vs) ids') ∧ ids <+: ids' ∧ Facts C m' (ρ.add vs) ids' hx' w' ∧ t.holds C (ρ.add vs) ids' hx' L
  | .gen op ty ps m r m' t, ρ, pre, hx, L => ∀ ids w, pre <+: ids → Facts C m ρ ids hx w →
      GenRun C.P op ty (envOf ρ ids ps) w fun res w' => ∃ vs ids' hx', res = r.map (SV.den (ρ.add vs) ids') ∧ ids <+: ids' ∧ Facts C m' (ρ.add vs) ids' hx' w' ∧ t.holds C (ρ.add vs) ids' hx' L
  | .ld true l cs m m' t, ρ, pre, hx, L => ∀ ids w, pre <+: ids → Facts C m ρ ids hx w →
      ∃ vs, CellsAt w (l.den ρ ids) (cellsDen (ρ.add vs) ids cs) (fun _ => False) ∧ EnvOk (ρ.add vs) m'.c ∧ t.holds C (ρ.add vs) ids hx L
  | .ld false l cs m m' t, ρ, pre, hx, L =>
      ∃ vs, (∀ ids, CellsAt C.W (l.den ρ ids) (cellsDen (ρ.add vs) ids cs) C.M) ∧ EnvOk (ρ.add vs) m'.c ∧ t.holds C (ρ.add vs) pre hx L
  | .loop key es m m' t, ρ, pre, hx, L => ∃ (I : Vals → HX → Nat → Prop),
      (∀ ids w, pre <+: ids → Facts C m ρ ids hx w → ∃ hx' n, HXok hx' w ids ∧ I (es.den ρ ids) hx' n) ∧
      ∀ vs hx' n, EnvOk (ρ.add vs) m'.c → I vs hx' n → t.holds C (ρ.add vs) pre hx' ((key, fun vs' hx'' => ∃ n', n' < n ∧ I vs' hx'' n') :: L)
  | .again key es m, ρ, pre, hx, L => ∀ ids w, pre <+: ids → Facts C m ρ ids hx w → ∃ hx', HXok hx' w ids ∧ ∃ I, lkup key L = some I ∧ I (es.den ρ ids) hx'
  | .join key m m' a b, ρ, pre, hx, L => ∃ I : Inv, a.holds C ρ pre hx ((key, I) :: L) ∧ ∀ vs hx', EnvOk (ρ.add vs) m'.c → I vs hx' → b.holds C (ρ.add vs) pre hx' L
  | .par a b, ρ, pre, hx, L => a.holds C ρ pre hx L ∧ b.holds C ρ pre hx L

theorem holds_pre {C : Cfg} : ∀ (t : Tree) {ρ : Env} {pre pre' : List Nat} {hx : HX} {L : Stack}, pre <+: pre' → t.holds C ρ pre hx L → t.holds C ρ pre' hx L
  | .done _ _, _, _, _, _, _, hp, h => fun ids w hi hf => h ids w (hp.trans hi) hf
  | .fail _ _, _, _, _, _, _, _, h => h
  | .br _ t f, _, _, _, _, _, hp, h => ⟨fun hb => holds_pre t hp (h.1 hb), fun hb => holds_pre f hp (h.2 hb)⟩
  | .need _ t, _, _, _, _, _, hp, h => ⟨h.1, fun hb => holds_pre t hp (h.2 hb)⟩
  | .call .., _, _, _, _, _, hp, h => fun ids w hi hf => h ids w (hp.trans hi) hf
  | .gen .., _, _, _, _, _, hp, h => fun ids w hi hf => h ids w (hp.trans hi) hf
  | .ld true _ _ _ _ t, _, _, _, _, _, hp, h => fun ids w hi hf => h ids w (hp.trans hi) hf
  | .ld false _ _ _ _ t, _, _, _, _, _, hp, h => by
    obtain ⟨vs, h1, h2, h3⟩ := h
    exact ⟨vs, h1, h2, holds_pre t hp h3⟩
  | .loop _ _ _ _ t, _, _, _, _, _, hp, h => by
    obtain ⟨I, h1, h2⟩ := h
    exact ⟨I, fun ids w hi hf => h1 ids w (hp.trans hi) hf, fun vs hx' n hc hI => holds_pre t hp (h2 vs hx' n hc hI)⟩
  | .again .., _, _, _, _, _, hp, h => fun ids w hi hf => h ids w (hp.trans hi) hf
  | .join _ _ _ a b, _, _, _, _, _, hp, h => by
    obtain ⟨I, h1, h2⟩ := h
    exact ⟨I, holds_pre a hp h1, fun vs hx' hc hI => holds_pre b hp (h2 vs hx' hc hI)⟩
  | .par a b, _, _, _, _, _, hp, h => ⟨holds_pre a hp h.1, holds_pre b hp h.2⟩

/-! ### Atoms that are there keep their meaning -/
section
variable {ρ : Env} {x : Vals} {c : Cnt}
theorem getD_app {α : Type} {l m : List α} {i : Nat} {d : α} (h : i < l.length) : (l ++ m).getD i d = l.getD i d := by
  simp [List.getD_eq_getElem?_getD, List.getElem?_append_left h]
theorem blt_lt {a b : Nat} (h : Nat.blt a b = true) : a < b := Nat.le_of_ble_eq_true h
theorem IE.den_add (hc : ρ.cnt = c) : ∀ {e : IE}, e.fits c = true → e.den (ρ.add x) = e.den ρ
  | .lit _, _ => rfl
  | .var i, h => by subst hc; exact getD_app (blt_lt h)
  | .nat i, h => by subst hc; simp only [IE.den, Env.add]; rw [getD_app (blt_lt h)]
  | .op _ _ a b, h => by simp only [IE.fits, Bool.and_eq_true] at h; simp only [IE.den, IE.den_add hc h.1, IE.den_add hc h.2]
  | .conv _ a, h => by simp only [IE.den, IE.den_add hc (e := a) h]
  | .mx a b, h => by simp only [IE.fits, Bool.and_eq_true] at h; simp only [IE.den, IE.den_add hc h.1, IE.den_add hc h.2]
  | .mn a b, h => by simp only [IE.fits, Bool.and_eq_true] at h; simp only [IE.den, IE.den_add hc h.1, IE.den_add hc h.2]
theorem BE.den_add (hc : ρ.cnt = c) : ∀ {e : BE}, e.fits c = true → e.den (ρ.add x) = e.den ρ
  | .lit _, _ => rfl
  | .var i, h => by subst hc; exact getD_app (blt_lt h)
  | .cmp _ a b, h => by simp only [BE.fits, Bool.and_eq_true] at h; simp only [BE.den, IE.den_add hc h.1, IE.den_add hc h.2]
  | .eqb a b, h => by simp only [BE.fits, Bool.and_eq_true] at h; simp only [BE.den, BE.den_add hc h.1, BE.den_add hc h.2]
  | .not a, h => by simp only [BE.den, BE.den_add hc (e := a) h]
  | .and a b, h => by simp only [BE.fits, Bool.and_eq_true] at h; simp only [BE.den, BE.den_add hc h.1, BE.den_add hc h.2]
  | .anone i, h => by subst hc; simp only [BE.den, Env.add]; rw [getD_app (blt_lt h)]
theorem NE.den_add (hc : ρ.cnt = c) : ∀ {e : NE}, e.fits c = true → e.den (ρ.add x) = e.den ρ
  | .lit _, _ => rfl
  | .var i, h => by subst hc; exact getD_app (blt_lt h)
theorem idAt_pre {ids ids' : List Nat} (h : ids <+: ids') {n : Nat} (hn : n < ids.length) : idAt ids' n = idAt ids n := by
  obtain ⟨t, rfl⟩ := h; exact getD_app hn
theorem LV.den_add {ids ids' : List Nat} {m : Nat} (hc : ρ.cnt = c) (hi : ids <+: ids') (hm : ids.length = m) : ∀ {e : LV}, e.fits c m = true → e.den (ρ.add x) ids' = e.den ρ ids
  | .int _ e, h => by simp only [LV.den, IE.den_add hc (e := e) h]
  | .bool e, h => by simp only [LV.den, BE.den_add hc (e := e) h]
  | .val i, h => by subst hc; exact getD_app (blt_lt h)
  | .ptr n off, h => by simp only [LV.den, idAt_pre hi (hm ▸ blt_lt h)]
  | .nilp, _ => rfl
  | .sl a n k, h => by
    simp only [LV.fits, Bool.and_eq_true] at h
    have h1 : (ρ.add x).a.getD a none = ρ.a.getD a none := by subst hc; exact getD_app (blt_lt h.1.1)
    simp only [LV.den, NE.den_add hc h.1.2, NE.den_add hc h.2, h1]
  | .nsl nm _ _ _, h => by simp only [LV.den, idAt_pre hi (hm ▸ blt_lt h)]
  | .nilsl, _ => rfl
  | .adr a e _ _, h => by
    simp only [LV.fits, Bool.and_eq_true] at h
    have h1 : (ρ.add x).a.getD a none = ρ.a.getD a none := by subst hc; exact getD_app (blt_lt h.1)
    simp only [LV.den, IE.den_add hc h.2, h1]
  | .pix n _ _ e, h => by
    simp only [LV.fits, Bool.and_eq_true] at h
    simp only [LV.den, IE.den_add hc h.2, idAt_pre hi (hm ▸ blt_lt h.1)]
  | .fnv f caps, h => by
    simp only [LV.fits, List.all_eq_true] at h
    simp only [LV.den, Value.func.injEq, true_and]
    congr 1
    exact List.map_congr_left fun y hy => by rw [idAt_pre hi (hm ▸ blt_lt (h y hy))]
  | .cst _, _ => rfl
theorem cellsDen_add {ids ids' : List Nat} {m : Nat} (hc : ρ.cnt = c) (hi : ids <+: ids') (hm : ids.length = m) {cs : List LV} (h : cs.all (LV.fits c m) = true) : cellsDen (ρ.add x) ids' cs = cellsDen ρ ids cs :=
  List.map_congr_left fun y hy => LV.den_add hc hi hm (List.all_eq_true.1 h y hy)
theorem SV.den_add {ids ids' : List Nat} {m : Nat} (hc : ρ.cnt = c) (hi : ids <+: ids') (hm : ids.length = m) : ∀ {e : SV}, e.fits c m = true → e.den (ρ.add x) ids' = e.den ρ ids
  | .lf _, h => LV.den_add hc hi hm h
  | .agg _, h => by simp only [SV.den, cellsDen_add hc hi hm h]
  | .tup vs, h => by
    simp only [SV.fits, List.all_eq_true] at h
    simp only [SV.den, Value.tuple.injEq]
    congr 1
    refine List.map_congr_left fun y hy => ?_
    have h1 := h y hy
    obtain ⟨b, cs⟩ := y
    cases b with
    | true => simp only [compDen, cellsDen_add hc hi hm (List.all_eq_true.2 h1)]
    | false =>
      cases cs with
      | nil => rfl
      | cons c0 r => simp only [compDen]; exact LV.den_add hc hi hm (h1 c0 (by simp))
  | .nxt b vs, h => by
    simp only [SV.fits, Bool.and_eq_true, List.all_eq_true] at h
    have h2 : vs.map (compDen (ρ.add x) ids') = vs.map (compDen ρ ids) := by
      refine List.map_congr_left fun y hy => ?_
      have h1 := h.2 y hy
      obtain ⟨b, cs⟩ := y
      cases b with
      | true => simp only [compDen, cellsDen_add hc hi hm (List.all_eq_true.2 h1)]
      | false =>
        cases cs with
        | nil => rfl
        | cons c0 r => simp only [compDen]; exact LV.den_add hc hi hm (h1 c0 (by simp))
    simp only [SV.den, BE.den_add hc h.1, h2]
  | .dead, _ => rfl
end
def Vals.nil : Vals := ⟨[], [], [], [], []⟩
theorem Env.add_nil (ρ : Env) : ρ.add Vals.nil = ρ := by simp [Env.add, Vals.nil]

/-! ### The frame -/
structure ActOk (st : St) (ρ : Env) (ids : List Nat) (a : Act) : Prop where
  defers : a.defers = []
  size : a.tmps.size = st.fr.length
  at_ : ∀ (j : Nat) (s : SV), st.fr[j]? = some s → s ≠ .dead → a.tmps[j]? = some (s.den ρ ids)
theorem toLV_den (ρ : Env) (ids : List Nat) (v : Value) : (toLV v).den ρ ids = v := by
  unfold toLV; split <;> rfl
theorem toSV_den (ρ : Env) (ids : List Nat) (v : Value) (h : toSV v ≠ .dead) : (toSV v).den ρ ids = v := by
  unfold toSV at *
  split at h
  · rfl
  · exact absurd rfl h
  · rename_i cs
    simp only [SV.den, cellsDen, List.map_map]
    congr 1
    have : (LV.den ρ ids ∘ toLV) = id := funext fun v => toLV_den ρ ids v
    rw [this]; simp
  · exact toLV_den ρ ids v
theorem St.get_ne {st : St} {t : Nat} {s : SV} (h : st.get t = some s) : st.fr[t]? = some s ∧ s ≠ .dead := by
  unfold St.get at h
  split at h
  · cases h
  · rename_i hx; exact ⟨h, fun e => hx (e ▸ h)⟩
theorem ev_ok {st : St} {ρ : Env} {ids : List Nat} {a : Act} {x : Operand} {s : SV} (ha : ActOk st ρ ids a) (h : st.ev x = some s) : a.eval x = s.den ρ ids := by
  cases x with
  | tmp t =>
    obtain ⟨h1, h2⟩ := St.get_ne h
    have := ha.at_ t s h1 h2
    simp [Act.eval, this]
  | const v =>
    simp only [St.ev] at h
    have : toSV v = s ∧ toSV v ≠ .dead := by
      split at h
      · cases h
      · rename_i s' hs; cases h; exact ⟨rfl, fun e => by simp_all⟩
    rw [← this.1]; exact (toSV_den ρ ids v this.2).symm
  | global g => simp [St.ev] at h
  | func f => simp only [St.ev, Option.some.injEq] at h; subst h; rfl
theorem evL_ev {st : St} {x : Operand} {l : LV} (h : st.evL x = some l) : st.ev x = some (.lf l) := by
  unfold St.evL at h; split at h
  · rename_i h1; cases h; exact h1
  · cases h
theorem ActOk.put {st : St} {ρ : Env} {ids : List Nat} {a : Act} (ha : ActOk st ρ ids a) (d : Option Nat) (v : SV) : ActOk (st.put d v) ρ ids (a.put d (v.den ρ ids)) := by
  cases d with
  | none => exact ha
  | some d =>
    refine ⟨ha.defers, by simp [Act.put, St.put, ha.size], fun j s hj hs => ?_⟩
    simp only [St.put, List.getElem?_set] at hj
    simp only [Act.put, Array.getElem?_setIfInBounds, ha.size]
    split at hj
    · rename_i h
      split at hj
      · rename_i h2
        cases hj; subst h; simp [h2]
      · cases hj
    · rename_i h; rw [if_neg h]; exact ha.at_ j s hj hs
theorem ActOk.put_undef {st : St} {ρ : Env} {ids : List Nat} {a : Act} (ha : ActOk st ρ ids a) (d : Option Nat) : ActOk (st.put d (.tup [])) ρ ids (a.put d undef) := ha.put d (.tup [])
theorem ActOk.hp {st st' : St} {ρ : Env} {ids : List Nat} {a : Act} (ha : ActOk st ρ ids a) (h : st'.fr = st.fr) : ActOk st' ρ ids a := ⟨ha.defers, by rw [h]; exact ha.size, by rw [h]; exact ha.at_⟩
theorem ActOk.add {st : St} {ρ : Env} {ids ids' : List Nat} {a : Act} {x : Vals} (ha : ActOk st ρ ids a) (hc : ρ.cnt = st.c) (hi : ids <+: ids') (hm : ids.length = st.hp.length) (hf : st.fits = true) : ActOk st (ρ.add x) ids' a := by
  refine ⟨ha.defers, ha.size, fun j s hj hs => ?_⟩
  unfold St.fits at hf
  simp only [Bool.and_eq_true] at hf
  rw [ha.at_ j s hj hs, SV.den_add hc hi hm (List.all_eq_true.1 hf.1 s (List.mem_of_getElem? hj))]
theorem assumeSV_den {ρ : Env} {ids : List Nat} {b : BE} {r : Bool} (h : b.den ρ = r) (s : SV) : (assumeSV b r s).den ρ ids = s.den ρ ids ∧ (s ≠ .dead → assumeSV b r s ≠ .dead) := by
  unfold assumeSV
  split
  · rename_i x
    split
    · rename_i e; subst e; exact ⟨by simp only [SV.den, LV.den, BE.den, h], fun _ => by simp⟩
    · split
      · rename_i e; subst e; exact ⟨by simp only [SV.den, LV.den, BE.den, h], fun _ => by simp⟩
      · exact ⟨rfl, fun _ => by simp⟩
  · exact ⟨rfl, fun h => h⟩
theorem ActOk.assume {st : St} {ρ : Env} {ids : List Nat} {a : Act} (ha : ActOk st ρ ids a) {b : BE} {r : Bool} (h : b.den ρ = r) : ActOk (st.assume b r) ρ ids a := by
  refine ⟨ha.defers, by simp [St.assume, ha.size], fun j s hj hs => ?_⟩
  simp only [St.assume, List.getElem?_map] at hj
  obtain ⟨s0, h0, rfl⟩ := Option.map_eq_some_iff.1 hj
  have h1 := assumeSV_den (ids := ids) h s0
  rw [h1.1]
  refine ha.at_ j s0 h0 fun e => hs ?_
  subst e; rfl
theorem gd_yes {st : St} {ρ : Env} {ids : List Nat} {a : Act} (ha : ActOk st ρ ids a) {ops : Array Oper} {o : Oper} (h : gd ops st o.guard = .yes) : Region.wanted o (yielded ops a.tmps) = true := by
  unfold Region.wanted
  cases hg : o.guard with
  | none => rfl
  | some g =>
    obtain ⟨j, want⟩ := g
    rw [hg] at h
    simp only [gd] at h
    unfold yielded
    dsimp only
    split at h
    · cases h
    · rename_i d hd
      rw [hd]
      split at h
      · rename_i b hb
        have := ha.at_ d _ hb (by simp)
        simp only [Option.bind_some]
        rw [this]
        simp only [SV.den, LV.den, BE.den]
        split at h
        · rename_i e; subst e; simp
        · cases h
      · cases h
      · cases h
      · cases h
theorem gd_no {st : St} {ρ : Env} {ids : List Nat} {a : Act} (ha : ActOk st ρ ids a) {ops : Array Oper} {o : Oper} (h : gd ops st o.guard = .no) : Region.wanted o (yielded ops a.tmps) = false := by
  unfold Region.wanted
  cases hg : o.guard with
  | none => rw [hg] at h; cases h
  | some g =>
    obtain ⟨j, want⟩ := g
    rw [hg] at h
    simp only [gd] at h
    unfold yielded
    dsimp only
    split at h
    · rename_i hd; rw [hd]; rfl
    · rename_i d hd
      rw [hd]
      split at h
      · rename_i b hb
        have := ha.at_ d _ hb (by simp)
        simp only [Option.bind_some]
        rw [this]
        simp only [SV.den, LV.den, BE.den]
        split at h
        · cases h
        · rename_i e; simpa using e
      · cases h
      · rename_i hb
        have := ha.at_ d _ hb (by simp)
        simp only [Option.bind_some]
        rw [this]
        simp [SV.den]
      · cases h
end Go.Eng
