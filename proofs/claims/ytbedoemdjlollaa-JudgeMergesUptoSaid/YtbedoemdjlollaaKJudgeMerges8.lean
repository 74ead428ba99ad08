/- Part 8 of the texts of a proof about the given program: what the statement's proof needs of them. -/
import Derived.Laws.CopyRow
import Derived.Laws.Cells
import Derived.ChangeKeysEq
import Derived.Laws.Cover3
import Derived.Lib.SliceRun
import Derived.Test.YtbedoemdjlollaaKJudgeMerges7
namespace Go.Eng
set_option linter.unusedVariables false
set_option linter.unusedSimpArgs false

structure Chg (F : Nat → Prop) (w w' : World) : Prop where
  os : w'.os = w.os
  tape : w'.tape = w.tape
  output : w'.output = w.output
  size : w.heap.size ≤ w'.heap.size
  block : ∀ k, k < w.heap.size → ¬ F k → w'.heap[k]? = w.heap[k]?
theorem Chg.refl (F : Nat → Prop) (w : World) : Chg F w w := ⟨rfl, rfl, rfl, Nat.le_refl _, fun _ _ _ => rfl⟩
theorem Chg.trans {F : Nat → Prop} {a b c : World} (h : Chg F a b) (k : Chg F b c) : Chg F a c :=
  ⟨k.os.trans h.os, k.tape.trans h.tape, k.output.trans h.output, Nat.le_trans h.size k.size, fun i hi hf => (k.block i (Nat.lt_of_lt_of_le hi h.size) hf).trans (h.block i hi hf)⟩
structure HX where
  F : Nat → Prop
  X : World → Prop
  loc : ∀ w w', X w → (∀ b, F b → w'.heap[b]? = w.heap[b]?) → X w'
def HX.nil : HX := ⟨fun _ => False, fun _ => True, fun _ _ _ _ => trivial⟩
structure Cfg where
  P : Program
  W : World
  M : Nat → Prop
  R : Ending → World → Prop
structure EnvOk (ρ : Env) (c : Cnt) : Prop where
  cnt : ρ.cnt = c
  one : ∀ v, v ∈ ρ.v → v.oneCell' = true
structure Facts (C : Cfg) (m : Mem) (ρ : Env) (ids : List Nat) (hx : HX) (w : World) : Prop where
  len : ids.length = m.hp.length
  nod : ids.Nodup
  blk : ∀ n ty cs, m.hp[n]? = some (ty, cs) → w.heap[idAt ids n]? = some (.cells (cellsDen ρ ids cs).toArray ty (0, 0))
  own : ∀ id, id ∈ ids → C.W.heap.size ≤ id ∨ C.M id
  chg : Chg C.M C.W w
  x : hx.X w
  sep : ∀ b, hx.F b → b < w.heap.size ∧ b ∉ ids
  cnt : EnvOk ρ m.c
def HXok (hx : HX) (w : World) (ids : List Nat) : Prop := hx.X w ∧ ∀ b, hx.F b → b < w.heap.size ∧ b ∉ ids
def CellsAt (w : World) (v : Value) (us : List Value) (N : Nat → Prop) : Prop :=
  ∃ ad : Addr, v = .pointer (some ad) ∧ ¬ N ad.block ∧ ∀ j u, us[j]? = some u → w.cell? (ad.add j) = some u
def envOf (ρ : Env) (ids : List Nat) (ps : List (Nat × SV)) : Operand → Value
  | .tmp t => match lkup t ps with | some s => s.den ρ ids | none => undef
  | .const v => v
  | .global g => .pointer (some ⟨g, 0, none⟩)
  | .func f => .func (.func f) #[] #[]
def GenRun (P : Program) (op : Op) (ty : Nat) (ρf : Operand → Value) (w : World) (K : Option Value → World → Prop) : Prop :=
  match (execOp ρf ⟨none, op, ty, "", #[], none⟩).run P w with
  | .ok (.value v) w' => K (some v) w'
  | .ok .skip w' => K none w'
  | _ => False
abbrev Inv := Vals → HX → Prop
abbrev Stack := List (Nat × Inv)
def Tree.holds (C : Cfg) : Tree → Env → List Nat → HX → Stack → Prop
  | .done v m, ρ, pre, hx, _ => ∀ ids w, pre <+: ids → Facts C m ρ ids hx w → C.R (.returned (v.den ρ ids)) w
  | .fail _ _, _, _, _, _ => False
  | .br b t f, ρ, pre, hx, L => (b.den ρ = true → t.holds C ρ pre hx L) ∧ (b.den ρ = false → f.holds C ρ pre hx L)
  | .need p t, ρ, pre, hx, L => p.den ρ ∧ (p.den ρ → t.holds C ρ pre hx L)
  | .call f args m r m' t, ρ, pre, hx, L => ∀ ids w, pre <+: ids → Facts C m ρ ids hx w →
      Calls C.P f (args.map (SV.den ρ ids)).toArray w fun e w' => ∃ vs ids' hx', e = .returned (r.den (ρ.add vs) ids') ∧ ids <+: ids' ∧ Facts C m' (ρ.add vs) ids' hx' w' ∧ t.holds C (ρ.add vs) ids' hx' L
  | .gen op ty ps m r m' t, ρ, pre, hx, L => ∀ ids w, pre <+: ids → Facts C m ρ ids hx w →
      GenRun C.P op ty (envOf ρ ids ps) w fun res w' => ∃ vs ids' hx', res = r.map (SV.den (ρ.add vs) ids') ∧ ids <+: ids' ∧ Facts C m' (ρ.add vs) ids' hx' w' ∧ t.holds C (ρ.add vs) ids' hx' L
  | .ld true l cs m m' t, ρ, pre, hx, L => ∀ ids w, pre <+: ids → Facts C m ρ ids hx w →
      ∃ vs, CellsAt w (l.den ρ ids) (cellsDen (ρ.add vs) ids cs) (fun _ => False) ∧ EnvOk (ρ.add vs) m'.c ∧ t.holds C (ρ.add vs) ids hx L
  | .ld false l cs m m' t, ρ, pre, hx, L =>
      ∃ vs, (∀ ids, CellsAt C.W (l.den ρ ids) (cellsDen (ρ.add vs) ids cs) C.M) ∧ EnvOk (ρ.add vs) m'.c ∧ t.holds C (ρ.add vs) pre hx L
  | .ldq l cs m m' t, ρ, pre, hx, L => ∀ ids w, pre <+: ids → Facts C m ρ ids hx w →
      ∃ vs, CellsAt w (l.den ρ ids) (cellsDen (ρ.add vs) ids cs) (fun b => ¬ hx.F b) ∧ EnvOk (ρ.add vs) m'.c ∧ t.holds C (ρ.add vs) ids hx L
  | .loop key es m m' t, ρ, pre, hx, L => ∃ (I : Vals → HX → Nat → Prop),
      (∀ ids w, pre <+: ids → Facts C m ρ ids hx w → ∃ hx' n, HXok hx' w ids ∧ I (es.den ρ ids) hx' n) ∧
      ∀ vs hx' n, EnvOk (ρ.add vs) m'.c → I vs hx' n → t.holds C (ρ.add vs) pre hx' ((key, fun vs' hx'' => ∃ n', n' < n ∧ I vs' hx'' n') :: L)
  | .again key es m, ρ, pre, hx, L => ∀ ids w, pre <+: ids → Facts C m ρ ids hx w → ∃ hx', HXok hx' w ids ∧ ∃ I, lkup key L = some I ∧ I (es.den ρ ids) hx'
  | .join key m m' a b, ρ, pre, hx, L => ∃ I : Inv, a.holds C ρ pre hx ((key, I) :: L) ∧ ∀ vs hx', EnvOk (ρ.add vs) m'.c → I vs hx' → b.holds C (ρ.add vs) pre hx' L
  | .par a b, ρ, pre, hx, L => a.holds C ρ pre hx L ∧ b.holds C ρ pre hx L

theorem holds_pre {C : Cfg} : ∀ (t : Tree) {ρ : Env} {pre pre' : List Nat} {hx : HX} {L : Stack}, pre <+: pre' → t.holds C ρ pre hx L → t.holds C ρ pre' hx L
  | .done _ _, _, _, _, _, _, hp, h => fun ids w hi hf => h ids w (hp.trans hi) hf
  | .fail _ _, _, _, _, _, _, _, h => h
  | .br _ t f, _, _, _, _, _, hp, h => ⟨fun hb => holds_pre t hp (h.1 hb), fun hb => holds_pre f hp (h.2 hb)⟩
  | .need _ t, _, _, _, _, _, hp, h => ⟨h.1, fun hb => holds_pre t hp (h.2 hb)⟩
  | .call .., _, _, _, _, _, hp, h => fun ids w hi hf => h ids w (hp.trans hi) hf
  | .gen .., _, _, _, _, _, hp, h => fun ids w hi hf => h ids w (hp.trans hi) hf
  | .ld true _ _ _ _ t, _, _, _, _, _, hp, h => fun ids w hi hf => h ids w (hp.trans hi) hf
  | .ld false _ _ _ _ t, _, _, _, _, _, hp, h => by
    obtain ⟨vs, h1, h2, h3⟩ := h
    exact ⟨vs, h1, h2, holds_pre t hp h3⟩
  | .ldq _ _ _ _ t, _, _, _, _, _, hp, h => fun ids w hi hf => h ids w (hp.trans hi) hf
  | .loop _ _ _ _ t, _, _, _, _, _, hp, h => by
    obtain ⟨I, h1, h2⟩ := h
    exact ⟨I, fun ids w hi hf => h1 ids w (hp.trans hi) hf, fun vs hx' n hc hI => holds_pre t hp (h2 vs hx' n hc hI)⟩
  | .again .., _, _, _, _, _, hp, h => fun ids w hi hf => h ids w (hp.trans hi) hf
  | .join _ _ _ a b, _, _, _, _, _, hp, h => by
    obtain ⟨I, h1, h2⟩ := h
    exact ⟨I, holds_pre a hp h1, fun vs hx' hc hI => holds_pre b hp (h2 vs hx' hc hI)⟩
  | .par a b, _, _, _, _, _, hp, h => ⟨holds_pre a hp h.1, holds_pre b hp h.2⟩

section
variable {ρ : Env} {x : Vals} {c : Cnt}
theorem getD_app {α : Type} {l m : List α} {i : Nat} {d : α} (h : i < l.length) : (l ++ m).getD i d = l.getD i d := by
  simp [List.getD_eq_getElem?_getD, List.getElem?_append_left h]
theorem blt_lt {a b : Nat} (h : Nat.blt a b = true) : a < b := Nat.le_of_ble_eq_true h
theorem IE.den_add (hc : ρ.cnt = c) : ∀ {e : IE}, e.fits c = true → e.den (ρ.add x) = e.den ρ
  | .lit _, _ => rfl
  | .var i, h => by subst hc; exact getD_app (blt_lt h)
  | .nat i, h => by subst hc; simp only [IE.den, Env.add]; rw [getD_app (blt_lt h)]
  | .op _ _ a b, h => by simp only [IE.fits, Bool.and_eq_true] at h; simp only [IE.den, IE.den_add hc h.1, IE.den_add hc h.2]
  | .conv _ a, h => by simp only [IE.den, IE.den_add hc (e := a) h]
  | .mx a b, h => by simp only [IE.fits, Bool.and_eq_true] at h; simp only [IE.den, IE.den_add hc h.1, IE.den_add hc h.2]
  | .mn a b, h => by simp only [IE.fits, Bool.and_eq_true] at h; simp only [IE.den, IE.den_add hc h.1, IE.den_add hc h.2]
theorem BE.den_add (hc : ρ.cnt = c) : ∀ {e : BE}, e.fits c = true → e.den (ρ.add x) = e.den ρ
  | .lit _, _ => rfl
  | .var i, h => by subst hc; exact getD_app (blt_lt h)
  | .cmp _ a b, h => by simp only [BE.fits, Bool.and_eq_true] at h; simp only [BE.den, IE.den_add hc h.1, IE.den_add hc h.2]
  | .eqb a b, h => by simp only [BE.fits, Bool.and_eq_true] at h; simp only [BE.den, BE.den_add hc h.1, BE.den_add hc h.2]
  | .not a, h => by simp only [BE.den, BE.den_add hc (e := a) h]
  | .and a b, h => by simp only [BE.fits, Bool.and_eq_true] at h; simp only [BE.den, BE.den_add hc h.1, BE.den_add hc h.2]
  | .anone i, h => by subst hc; simp only [BE.den, Env.add]; rw [getD_app (blt_lt h)]
theorem NE.den_add (hc : ρ.cnt = c) : ∀ {e : NE}, e.fits c = true → e.den (ρ.add x) = e.den ρ
  | .lit _, _ => rfl
  | .var i, h => by subst hc; exact getD_app (blt_lt h)
theorem idAt_pre {ids ids' : List Nat} (h : ids <+: ids') {n : Nat} (hn : n < ids.length) : idAt ids' n = idAt ids n := by
  obtain ⟨t, rfl⟩ := h; exact getD_app hn
theorem LV.den_add {ids ids' : List Nat} {m : Nat} (hc : ρ.cnt = c) (hi : ids <+: ids') (hm : ids.length = m) : ∀ {e : LV}, e.fits c m = true → e.den (ρ.add x) ids' = e.den ρ ids
  | .int _ e, h => by simp only [LV.den, IE.den_add hc (e := e) h]
  | .bool e, h => by simp only [LV.den, BE.den_add hc (e := e) h]
  | .val i, h => by subst hc; exact getD_app (blt_lt h)
  | .ptr n off, h => by simp only [LV.den, idAt_pre hi (hm ▸ blt_lt h)]
  | .nilp, _ => rfl
  | .sl a n k, h => by
    simp only [LV.fits, Bool.and_eq_true] at h
    have h1 : (ρ.add x).a.getD a none = ρ.a.getD a none := by subst hc; exact getD_app (blt_lt h.1.1)
    simp only [LV.den, NE.den_add hc h.1.2, NE.den_add hc h.2, h1]
  | .nsl nm _ _ _, h => by simp only [LV.den, idAt_pre hi (hm ▸ blt_lt h)]
  | .nilsl, _ => rfl
  | .adr a e _ _, h => by
    simp only [LV.fits, Bool.and_eq_true] at h
    have h1 : (ρ.add x).a.getD a none = ρ.a.getD a none := by subst hc; exact getD_app (blt_lt h.1)
    simp only [LV.den, IE.den_add hc h.2, h1]
  | .pix n _ _ e, h => by
    simp only [LV.fits, Bool.and_eq_true] at h
    simp only [LV.den, IE.den_add hc h.2, idAt_pre hi (hm ▸ blt_lt h.1)]
  | .fnv f caps, h => by
    simp only [LV.fits, List.all_eq_true] at h
    simp only [LV.den, Value.func.injEq, true_and]
    congr 1
    exact List.map_congr_left fun y hy => by rw [idAt_pre hi (hm ▸ blt_lt (h y hy))]
  | .cst _, _ => rfl
theorem cellsDen_add {ids ids' : List Nat} {m : Nat} (hc : ρ.cnt = c) (hi : ids <+: ids') (hm : ids.length = m) {cs : List LV} (h : cs.all (LV.fits c m) = true) : cellsDen (ρ.add x) ids' cs = cellsDen ρ ids cs :=
  List.map_congr_left fun y hy => LV.den_add hc hi hm (List.all_eq_true.1 h y hy)
theorem SV.den_add {ids ids' : List Nat} {m : Nat} (hc : ρ.cnt = c) (hi : ids <+: ids') (hm : ids.length = m) : ∀ {e : SV}, e.fits c m = true → e.den (ρ.add x) ids' = e.den ρ ids
  | .lf _, h => LV.den_add hc hi hm h
  | .agg _, h => by simp only [SV.den, cellsDen_add hc hi hm h]
  | .tup vs, h => by
    simp only [SV.fits, List.all_eq_true] at h
    simp only [SV.den, Value.tuple.injEq]
    congr 1
    refine List.map_congr_left fun y hy => ?_
    have h1 := h y hy
    obtain ⟨b, cs⟩ := y
    cases b with
    | true => simp only [compDen, cellsDen_add hc hi hm (List.all_eq_true.2 h1)]
    | false =>
      cases cs with
      | nil => rfl
      | cons c0 r => simp only [compDen]; exact LV.den_add hc hi hm (h1 c0 (by simp))
  | .nxt b vs, h => by
    simp only [SV.fits, Bool.and_eq_true, List.all_eq_true] at h
    have h2 : vs.map (compDen (ρ.add x) ids') = vs.map (compDen ρ ids) := by
      refine List.map_congr_left fun y hy => ?_
      have h1 := h.2 y hy
      obtain ⟨b, cs⟩ := y
      cases b with
      | true => simp only [compDen, cellsDen_add hc hi hm (List.all_eq_true.2 h1)]
      | false =>
        cases cs with
        | nil => rfl
        | cons c0 r => simp only [compDen]; exact LV.den_add hc hi hm (h1 c0 (by simp))
    simp only [SV.den, BE.den_add hc h.1, h2]
  | .dead, _ => rfl
end
def Vals.nil : Vals := ⟨[], [], [], [], []⟩
theorem Env.add_nil (ρ : Env) : ρ.add Vals.nil = ρ := by simp [Env.add, Vals.nil]

structure ActOk (st : St) (ρ : Env) (ids : List Nat) (a : Act) : Prop where
  defers : a.defers = []
  size : a.tmps.size = st.fr.length
  at_ : ∀ (j : Nat) (s : SV), st.fr[j]? = some s → s ≠ .dead → a.tmps[j]? = some (s.den ρ ids)
theorem toLV_den (ρ : Env) (ids : List Nat) (v : Value) : (toLV v).den ρ ids = v := by
  unfold toLV; split <;> rfl
theorem toSV_den (ρ : Env) (ids : List Nat) (v : Value) (h : toSV v ≠ .dead) : (toSV v).den ρ ids = v := by
  unfold toSV at *
  split at h
  · rfl
  · exact absurd rfl h
  · rename_i cs
    simp only [SV.den, cellsDen, List.map_map]
    congr 1
    have : (LV.den ρ ids ∘ toLV) = id := funext fun v => toLV_den ρ ids v
    rw [this]; simp
  · exact toLV_den ρ ids v
theorem St.get_ne {st : St} {t : Nat} {s : SV} (h : st.get t = some s) : st.fr[t]? = some s ∧ s ≠ .dead := by
  unfold St.get at h
  split at h
  · cases h
  · rename_i hx; exact ⟨h, fun e => hx (e ▸ h)⟩
theorem ev_ok {st : St} {ρ : Env} {ids : List Nat} {a : Act} {x : Operand} {s : SV} (ha : ActOk st ρ ids a) (h : st.ev x = some s) : a.eval x = s.den ρ ids := by
  cases x with
  | tmp t =>
    obtain ⟨h1, h2⟩ := St.get_ne h
    have := ha.at_ t s h1 h2
    simp [Act.eval, this]
  | const v =>
    simp only [St.ev] at h
    have : toSV v = s ∧ toSV v ≠ .dead := by
      split at h
      · cases h
      · rename_i s' hs; cases h; exact ⟨rfl, fun e => by simp_all⟩
    rw [← this.1]; exact (toSV_den ρ ids v this.2).symm
  | global g => simp [St.ev] at h
  | func f => simp only [St.ev, Option.some.injEq] at h; subst h; rfl
theorem evL_ev {st : St} {x : Operand} {l : LV} (h : st.evL x = some l) : st.ev x = some (.lf l) := by
  unfold St.evL at h; split at h
  · rename_i h1; cases h; exact h1
  · cases h
theorem ActOk.put {st : St} {ρ : Env} {ids : List Nat} {a : Act} (ha : ActOk st ρ ids a) (d : Option Nat) (v : SV) : ActOk (st.put d v) ρ ids (a.put d (v.den ρ ids)) := by
  cases d with
  | none => exact ha
  | some d =>
    refine ⟨ha.defers, by simp [Act.put, St.put, ha.size], fun j s hj hs => ?_⟩
    simp only [St.put, List.getElem?_set] at hj
    simp only [Act.put, Array.getElem?_setIfInBounds, ha.size]
    split at hj
    · rename_i h
      split at hj
      · rename_i h2
        cases hj; subst h; simp [h2]
      · cases hj
    · rename_i h; rw [if_neg h]; exact ha.at_ j s hj hs
theorem ActOk.hp {st st' : St} {ρ : Env} {ids : List Nat} {a : Act} (ha : ActOk st ρ ids a) (h : st'.fr = st.fr) : ActOk st' ρ ids a := ⟨ha.defers, by rw [h]; exact ha.size, by rw [h]; exact ha.at_⟩
theorem ActOk.add {st : St} {ρ : Env} {ids ids' : List Nat} {a : Act} {x : Vals} (ha : ActOk st ρ ids a) (hc : ρ.cnt = st.c) (hi : ids <+: ids') (hm : ids.length = st.hp.length) (hf : st.fits = true) : ActOk st (ρ.add x) ids' a := by
  refine ⟨ha.defers, ha.size, fun j s hj hs => ?_⟩
  unfold St.fits at hf
  simp only [Bool.and_eq_true] at hf
  rw [ha.at_ j s hj hs, SV.den_add hc hi hm (List.all_eq_true.1 hf.1 s (List.mem_of_getElem? hj))]
theorem assumeSV_den {ρ : Env} {ids : List Nat} {b : BE} {r : Bool} (h : b.den ρ = r) (s : SV) : (assumeSV b r s).den ρ ids = s.den ρ ids ∧ (s ≠ .dead → assumeSV b r s ≠ .dead) := by
  unfold assumeSV
  split
  · rename_i x
    split
    · rename_i e; subst e; exact ⟨by simp only [SV.den, LV.den, BE.den, h], fun _ => by simp⟩
    · split
      · rename_i e; subst e; exact ⟨by simp only [SV.den, LV.den, BE.den, h], fun _ => by simp⟩
      · exact ⟨rfl, fun _ => by simp⟩
  · exact ⟨rfl, fun h => h⟩
theorem ActOk.assume {st : St} {ρ : Env} {ids : List Nat} {a : Act} (ha : ActOk st ρ ids a) {b : BE} {r : Bool} (h : b.den ρ = r) : ActOk (st.assume b r) ρ ids a := by
  refine ⟨ha.defers, by simp [St.assume, ha.size], fun j s hj hs => ?_⟩
  simp only [St.assume, List.getElem?_map] at hj
  obtain ⟨s0, h0, rfl⟩ := Option.map_eq_some_iff.1 hj
  have h1 := assumeSV_den (ids := ids) h s0
  rw [h1.1]
  refine ha.at_ j s0 h0 fun e => hs ?_
  subst e; rfl
theorem gd_yes {st : St} {ρ : Env} {ids : List Nat} {a : Act} (ha : ActOk st ρ ids a) {ops : Array Oper} {o : Oper} (h : gd ops st o.guard = .yes) : Region.wanted o (yielded ops a.tmps) = true := by
  unfold Region.wanted
  cases hg : o.guard with
  | none => rfl
  | some g =>
    obtain ⟨j, want⟩ := g
    rw [hg] at h
    simp only [gd] at h
    unfold yielded
    dsimp only
    split at h
    · cases h
    · rename_i d hd
      rw [hd]
      split at h
      · rename_i b hb
        have := ha.at_ d _ hb (by simp)
        simp only [Option.bind_some]
        rw [this]
        simp only [SV.den, LV.den, BE.den]
        split at h
        · rename_i e; subst e; simp
        · cases h
      · cases h
      · cases h
      · cases h
theorem gd_no {st : St} {ρ : Env} {ids : List Nat} {a : Act} (ha : ActOk st ρ ids a) {ops : Array Oper} {o : Oper} (h : gd ops st o.guard = .no) : Region.wanted o (yielded ops a.tmps) = false := by
  unfold Region.wanted
  cases hg : o.guard with
  | none => rw [hg] at h; cases h
  | some g =>
    obtain ⟨j, want⟩ := g
    rw [hg] at h
    simp only [gd] at h
    unfold yielded
    dsimp only
    split at h
    · rename_i hd; rw [hd]; rfl
    · rename_i d hd
      rw [hd]
      split at h
      · rename_i b hb
        have := ha.at_ d _ hb (by simp)
        simp only [Option.bind_some]
        rw [this]
        simp only [SV.den, LV.den, BE.den]
        split at h
        · cases h
        · rename_i e; simpa using e
      · cases h
      · rename_i hb
        have := ha.at_ d _ hb (by simp)
        simp only [Option.bind_some]
        rw [this]
        simp [SV.den]
      · cases h
end Go.Eng

namespace Go.Eng
set_option linter.unusedVariables false
set_option linter.unusedSimpArgs false

section
variable {P : Program} {T : Tab} {st : St} {ρ : Env} {ids : List Nat} {a : Act}

theorem ti_ok (hT : TabOk P T) {t : Nat} {i : TI} (h : T.ti t = some i) : ∃ inf, P.info? t = some inf ∧ inf.size = i.size ∧ zeroB inf.zero i.zero = true ∧ tdB P t i.d = true := by
  have := hT.tt t i h
  unfold tiB at this
  split at this
  · rename_i inf he
    simp only [Bool.and_eq_true, beq_iff_eq] at this
    exact ⟨inf, he, this.1.1, this.1.2, this.2⟩
  · cases this
theorem und_int {t : Nat} {k : IntKind} (h : tdB P t (.int k) = true) : P.underlying t = some (.int k) := by
  unfold tdB at h; split at h <;> simp_all
theorem und_bool {t : Nat} (h : tdB P t .bool = true) : P.underlying t = some .bool := by
  unfold tdB at h; split at h <;> simp_all
theorem und_ptr {t e : Nat} (h : tdB P t (.ptr e) = true) : P.underlying t = some (.pointer e) := by
  unfold tdB at h; split at h <;> simp_all
theorem und_slice {t e : Nat} (h : tdB P t (.slice e) = true) : P.underlying t = some (.slice e) := by
  unfold tdB at h; split at h <;> simp_all
theorem und_struct {t : Nat} {fs : List (Nat × Nat × Nat)} (h : tdB P t (.struct fs) = true) : ∃ gs : Array Field, P.underlying t = some (.struct gs) ∧ fs = gs.toList.map (fun f => (f.offset, f.type, P.cellsOf f.type)) ∧
    (∀ f, f ∈ gs → f.name ≠ "_" ∧ (P.info? f.type).isSome = true) ∧ P.stoodInHeld t = false ∧ P.eqGuardType P.depth t = false := by
  unfold tdB at h
  split at h <;> simp_all
  intro f hf
  obtain ⟨i, hi, rfl⟩ := Array.getElem_of_mem hf
  exact h.1.1.2 i hi
theorem und_array {t n e sz : Nat} (h : tdB P t (.array n e sz) = true) : P.underlying t = some (.array n e) ∧ sz = P.cellsOf e ∧ (P.info? e).isSome = true ∧ P.eqGuardType P.depth t = false := by
  unfold tdB at h; split at h <;> simp_all
  obtain ⟨⟨⟨⟨rfl, rfl⟩, _⟩, h⟩, _⟩ := h
  exact h
theorem run_isAgg (hT : TabOk P T) {t : Nat} {i : TI} (h : T.ti t = some i) (hb : (match i.d with | .bad => false | _ => true) = true) (w : World) : (isAgg t).run P w = .ok i.d.isAgg w := by
  obtain ⟨inf, _, _, _, hd⟩ := ti_ok hT h
  obtain ⟨d, sz, z⟩ := i
  have key : ∀ u : TypeDesc, P.underlying t = some u → (match u with | .struct _ | .array _ _ => true | _ => false) = d.isAgg → (isAgg t).run P w = .ok d.isAgg w := by
    intro u hu he
    unfold isAgg
    rw [Sem.run_bind, run_underlying hu, ← he]
    cases u <;> simp [go_sem]
  unfold tdB at hd
  cases hu : P.underlying t with
  | none =>
    rw [hu] at hd
    clear key
    cases d <;> first | (simp at hb; done) | (exact absurd hd (by simp))
  | some u =>
    refine key u hu ?_
    rw [hu] at hd
    clear key
    cases d <;> first
      | (simp at hb; done)
      | (cases u <;> first | rfl | (exact absurd hd (by simp)))
theorem cellsOf_ti (hT : TabOk P T) {t : Nat} {i : TI} (h : T.ti t = some i) : P.cellsOf t = i.size := by
  obtain ⟨inf, h1, h2, _, _⟩ := ti_ok hT h
  simp [Program.cellsOf, h1, h2]
theorem run_size (hT : TabOk P T) {t : Nat} {i : TI} (h : T.ti t = some i) (w : World) : (sizeOf t).run P w = .ok i.size w := by
  obtain ⟨inf, h1, h2, _, _⟩ := ti_ok hT h
  rw [run_sizeOf _ h1, cellsOf_ti hT h]
theorem same_den (ρ : Env) (ids : List Nat) : ∀ {x y : LV}, x.same y = true → x.den ρ ids = y.den ρ ids := by
  intro x y h
  unfold LV.same at h
  split at h
  all_goals first
    | rfl
    | (cases h; done)
    | (simp_all; done)
    | (simp only [decide_eq_true_eq] at h; simp_all; done)
    | skip
  rename_i v v'
  unfold sameV at h
  split at h <;> simp_all [LV.den]
theorem sameL_den (ρ : Env) (ids : List Nat) : ∀ {x y : List LV}, sameL x y = true → cellsDen ρ ids x = cellsDen ρ ids y
  | [], [], _ => rfl
  | a :: r, b :: s, h => by
    simp only [sameL, Bool.and_eq_true] at h
    have := sameL_den ρ ids h.2
    simp only [cellsDen, List.map_cons, same_den ρ ids h.1] at *
    rw [this]
  | [], _ :: _, h => by simp [sameL] at h
  | _ :: _, [], h => by simp [sameL] at h
theorem cellsDen_toLV (ρ : Env) (ids : List Nat) (l : List Value) : cellsDen ρ ids (l.map toLV) = l := by
  simp only [cellsDen, List.map_map]
  have : (LV.den ρ ids ∘ toLV) = id := funext fun v => toLV_den ρ ids v
  rw [this]; simp
theorem zero_ok (hT : TabOk P T) {t : Nat} {z : List LV} (h : T.zero t = some z) (ρ : Env) (ids : List Nat) (w : World) : ∃ v : Value, (zeroValue t).run P w = .ok v w ∧ v.cells.toList = cellsDen ρ ids z := by
  unfold Tab.zero at h
  obtain ⟨i, hi, hz⟩ := Option.bind_eq_some_iff.1 h
  obtain ⟨inf, h1, _, h3, _⟩ := ti_ok hT hi
  rw [hz] at h3
  unfold zeroB at h3
  simp only at h3
  split at h3
  · rename_i v hv
    refine ⟨v, ?_, ?_⟩
    · simp [zeroValue, run_typeInfo _ h1, hv]
    · rw [← sameL_den ρ ids h3, cellsDen_toLV]
  · cases h3
theorem mk_den (f : BinOp) (k : IntKind) (x y : IE) : (IE.mk f k x y).den ρ = ifn f k (x.den ρ) (y.den ρ) := by
  unfold IE.mk
  split
  · rename_i n m
    have key : ∀ z : Int, small z = true → IntKind.i64.wrap z = z := by
      intro z hz
      simp only [small, Bool.and_eq_true, decide_eq_true_eq] at hz
      exact IntWalk.i64_in _ (by omega)
    split
    · split
      · rename_i hs; simp only [IE.den, ifn, key _ hs]
      · rfl
    · split
      · rename_i hs; simp only [IE.den, ifn, key _ hs]
      · rfl
    · rfl
    · rfl
  · rfl
theorem mkCmp_den (f : BinOp) (x y : IE) : (BE.mkCmp f x y).den ρ = cfn f (x.den ρ) (y.den ρ) := by
  unfold BE.mkCmp; split <;> rfl
theorem mkNot_den (x : BE) : x.mkNot.den ρ = !(x.den ρ) := by
  unfold BE.mkNot; split <;> simp [BE.den]
theorem mkAnd_den (x y : BE) : (BE.mkAnd x y).den ρ = (x.den ρ && y.den ρ) := by
  unfold BE.mkAnd; split <;> simp [BE.den]
theorem mkEq_den (x y : BE) : (BE.mkEq x y).den ρ = (x.den ρ == y.den ρ) := by
  unfold BE.mkEq; split <;> simp [BE.den, mkNot_den]

theorem getElem_cellsDen (cs : List LV) (j : Nat) : (cellsDen ρ ids cs)[j]? = (cs[j]?).map (LV.den ρ ids) := by simp [cellsDen]
theorem sub_den (cs : List LV) (off n : Nat) : cellsDen ρ ids (sub cs off n) = ((cellsDen ρ ids cs).drop off).take n := by simp [cellsDen, sub, List.map_drop, List.map_take]
def mkV (ρ : Env) (ids : List Nat) (i : TI) (us : List LV) : Value := if i.d.isAgg then .agg (cellsDen ρ ids us).toArray else (cellsDen ρ ids us).headD undef
theorem run_part (hT : TabOk P T) {t : Nat} {i : TI} (h : T.ti t = some i) (hb : (match i.d with | .bad => false | _ => true) = true) (cs : List LV) (off : Nat)
    (hl : i.d.isAgg = false → ∃ l r, sub cs off i.size = l :: r) (w : World) : (part t (cellsDen ρ ids cs).toArray off).run P w = .ok (mkV ρ ids i (sub cs off i.size)) w := by
  unfold part mkV
  rw [Sem.run_bind, run_isAgg hT h hb, Result.andThen_ok]
  by_cases ha : i.d.isAgg = true
  · rw [if_pos ha, if_pos ha, Sem.run_bind, run_size hT h, Result.andThen_ok, Sem.run_pure, sub_den]
    simp
  · rw [if_neg ha, if_neg ha]
    obtain ⟨l, r, hs⟩ := hl (by simpa using ha)
    have h0 : cs[off]? = some l := by
      have : (sub cs off i.size)[0]? = some l := by rw [hs]; rfl
      unfold sub at this
      rw [List.getElem?_take] at this
      split at this
      · simpa using this
      · cases this
    have h1 : (cellsDen ρ ids cs).toArray[off]? = some (l.den ρ ids) := by simp [getElem_cellsDen, h0]
    rw [h1, hs]; rfl
theorem eqS_lf {n t : Nat} {xs ys : List LV} {b : BE} {i : TI} (h : eqS T n t xs ys = some b) (hi : T.ti t = some i) (ha : i.d.isAgg = false) : (∃ l, xs = [l]) ∧ ∃ l, ys = [l] := by
  cases n with
  | zero => simp [eqS] at h
  | succ n =>
    unfold eqS at h
    rw [hi] at h
    simp only at h
    split at h
    · split at h
      · exact ⟨⟨_, rfl⟩, ⟨_, rfl⟩⟩
      · cases h
    · split at h
      · exact ⟨⟨_, rfl⟩, ⟨_, rfl⟩⟩
      · cases h
    · rename_i fs hd; rw [hd] at ha; cases ha
    · rename_i hd; rw [hd] at ha; cases ha
    · cases h
theorem eqS_some {n t : Nat} {xs ys : List LV} {b : BE} (h : eqS T n t xs ys = some b) : ∃ i, T.ti t = some i ∧ (match i.d with | .bad => false | _ => true) = true := by
  cases n with
  | zero => simp [eqS] at h
  | succ n =>
    unfold eqS at h
    split at h
    · cases h
    · rename_i i hi
      refine ⟨i, hi, ?_⟩
      split at h <;> simp_all
theorem eqS_ok (hT : TabOk P T) : ∀ (n t : Nat) (xs ys : List LV) (b : BE), eqS T n t xs ys = some b → ∀ i, T.ti t = some i → ∀ d, n ≤ d → ∀ w, (Op.equalIn d t (mkV ρ ids i xs) (mkV ρ ids i ys)).run P w = .ok (b.den ρ) w
  | 0, _, _, _, _, h, _, _, _, _, _ => by simp [eqS] at h
  | n + 1, t, xs, ys, b, h, i, hi, d, hd, w => by
    obtain ⟨d, rfl⟩ : ∃ e, d = e + 1 := ⟨d - 1, by omega⟩
    obtain ⟨inf, _, _, _, htd⟩ := ti_ok hT hi
    unfold eqS at h
    rw [hi] at h
    simp only at h
    split at h
    · rename_i k hk
      rw [hk] at htd
      split at h
      · rename_i k1 x k2 y
        split at h
        · rename_i e
          cases h
          subst e
          have : i.d.isAgg = false := by rw [hk]; rfl
          simp only [mkV, this, Bool.false_eq_true, if_false, cellsDen, List.map_cons, List.headD_cons, LV.den]
          rw [run_equalIn_int w d t _ _ _ _ (und_int htd), mkCmp_den]; rfl
        · cases h
      · cases h
    · rename_i hk
      rw [hk] at htd
      split at h
      · rename_i x y
        cases h
        have : i.d.isAgg = false := by rw [hk]; rfl
        simp only [mkV, this, Bool.false_eq_true, if_false, cellsDen, List.map_cons, List.headD_cons, LV.den]
        rw [run_equalIn_bool' w d t _ _ (und_bool htd), mkEq_den]
      · cases h
    · rename_i fs hk
      rw [hk] at htd
      obtain ⟨gs, hu, hfs, hn, hst, _⟩ := und_struct htd
      have : i.d.isAgg = true := by rw [hk]; rfl
      simp only [mkV, this, if_true]
      have hfo : P.fieldsOf t = gs := by unfold Program.fieldsOf; rw [hu]
      rw [run_equalIn_struct w d t _ _ (by rw [hfo]; exact hu) hst, hfo]
      have hn' : ∀ f, f ∈ gs.toList → f.name ≠ "_" := fun f hf => (hn f (by simpa using hf)).1
      clear hfo hu hn hst this hk
      subst hfs
      generalize gs.toList = l at *
      clear gs htd
      induction l generalizing b with
      | nil => simp at h; subst h; simp [Op.eqFields, BE.den]
      | cons f l ih =>
        simp only [List.map_cons, List.foldr_cons] at h
        split at h
        · rename_i x r h1 h2
          cases h
          obtain ⟨j, hj, hjb⟩ := eqS_some h1
          have hsz := cellsOf_ti hT hj
          have hpx := run_part (ρ := ρ) (ids := ids) hT hj hjb xs f.offset (fun ha => by
            obtain ⟨⟨l1, e1⟩, _⟩ := eqS_lf h1 hj ha
            rw [hsz] at e1; exact ⟨l1, [], e1⟩) w
          have hpy := run_part (ρ := ρ) (ids := ids) hT hj hjb ys f.offset (fun ha => by
            obtain ⟨_, ⟨l1, e1⟩⟩ := eqS_lf h1 hj ha
            rw [hsz] at e1; exact ⟨l1, [], e1⟩) w
          have hq := eqS_ok hT n _ _ _ _ h1 j hj d (by omega) w
          rw [hsz] at hq
          unfold Op.eqFields
          rw [if_pos (hn' f (by simp))]
          simp only [Sem.run_bind, hpx, hpy, hq, Result.andThen_ok, mkAnd_den]
          cases hx : x.den ρ
          · simp
          · simp only [Bool.not_true, Bool.false_eq_true, if_false, Bool.true_and]
            exact ih r (fun f hf => hn' f (by simp [hf])) h2
        · cases h
    · rename_i k e sz hk
      rw [hk] at htd
      obtain ⟨hu, hsz0, hinf, _⟩ := und_array htd
      obtain ⟨inf2, hinf⟩ := Option.isSome_iff_exists.1 hinf
      have : i.d.isAgg = true := by rw [hk]; rfl
      simp only [mkV, this, if_true]
      rw [run_equalIn_array w d _ _ hu hinf]
      clear hu this hk htd hinf inf2
      subst hsz0
      generalize List.range k = l at *
      induction l generalizing b with
      | nil => simp at h; subst h; simp [Op.eqItems, BE.den]
      | cons f l ih =>
        simp only [List.foldr_cons] at h
        split at h
        · rename_i x r h1 h2
          cases h
          obtain ⟨j, hj, hjb⟩ := eqS_some h1
          have hsz := cellsOf_ti hT hj
          have ih2 := ih r h2
          unfold Op.eqItems
          generalize f * P.cellsOf e = off at *
          have hpx := run_part (ρ := ρ) (ids := ids) hT hj hjb xs off (fun ha => by
            obtain ⟨⟨l1, e1⟩, _⟩ := eqS_lf h1 hj ha
            rw [hsz] at e1; exact ⟨l1, [], e1⟩) w
          have hpy := run_part (ρ := ρ) (ids := ids) hT hj hjb ys off (fun ha => by
            obtain ⟨_, ⟨l1, e1⟩⟩ := eqS_lf h1 hj ha
            rw [hsz] at e1; exact ⟨l1, [], e1⟩) w
          have hq := eqS_ok hT n _ _ _ _ h1 j hj d (by omega) w
          rw [hsz] at hq
          simp only [Sem.run_bind, hpx, hpy, hq, Result.andThen_ok, mkAnd_den]
          cases hx : x.den ρ
          · simp
          · simp only [Bool.not_true, Bool.false_eq_true, if_false, Bool.true_and]
            exact ih2
        · cases h
    · cases h
end
end Go.Eng

namespace Go.Eng
set_option linter.unusedVariables false
set_option linter.unusedSimpArgs false

def PRes.gives (ρ : Env) : PRes → SV → Prop
  | .val v, u => v = u
  | .need p v, u => v = u ∧ p.den ρ
  | _, _ => False
section
variable {P : Program} {T : Tab} {st : St} {ρ : Env} {ids : List Nat} {a : Act}

theorem eqAns_ok {f : BinOp} {b : BE} {v : SV} (h : (eqAns f b).gives ρ v) : (f = .eql ∧ v = .lf (.bool b)) ∨ (f = .neq ∧ v = .lf (.bool b.mkNot)) := by
  unfold eqAns at h
  split at h
  · exact .inl ⟨rfl, h.symm⟩
  · exact .inr ⟨rfl, h.symm⟩
  · exact h.elim
theorem run_eqs (f : BinOp) (t : Nat) (ox oy : Operand) (x y : Value) (b : BE) (v : SV) (w : World) (hf : (eqAns f b).gives ρ v)
    (hg : (eqGuard f t ox oy x y).run P w = .ok () w)
    (he : binOp .eql t x y = (do pure (.bool (← Op.equal t x y)))) (hn : binOp .neq t x y = (do pure (.bool (!(← Op.equal t x y)))))
    (hq : (Op.equal t x y).run P w = .ok (b.den ρ) w) : (do eqGuard f t ox oy x y; binOp f t x y : Sem Value).run P w = .ok (v.den ρ ids) w := by
  rw [Sem.run_bind, hg, Result.andThen_ok]
  rcases eqAns_ok hf with ⟨rfl, rfl⟩ | ⟨rfl, rfl⟩
  · rw [he]; simp [hq, SV.den, LV.den]
  · rw [hn]; simp [hq, SV.den, LV.den, mkNot_den]
theorem run_guard_plain (f : BinOp) (t : Nat) (ox oy : Operand) (x y : Value) (w : World) (h : (match x, y with | .nilIface, .nilIface => false | .agg _, .agg _ => false | _, _ => true) = true) : (eqGuard f t ox oy x y).run P w = .ok () w := by
  cases f <;> first
    | rfl
    | (cases x <;> cases y <;> first | rfl | (simp at h; done))
theorem run_equalIn_ptr1 (d t e : Nat) (p : Option Addr) (h : P.underlying t = some (.pointer e)) (w : World) : (Op.equalIn (d + 1) t (.pointer p) (.pointer none)).run P w = .ok p.isNone w := by
  cases p <;> simp [Op.equalIn, run_underlying h]
theorem run_equalIn_ptr2 (d t e : Nat) (p : Option Addr) (h : P.underlying t = some (.pointer e)) (w : World) : (Op.equalIn (d + 1) t (.pointer none) (.pointer p)).run P w = .ok p.isNone w := by
  cases p <;> simp [Op.equalIn, run_underlying h]
theorem run_equal_ptr1 (t e : Nat) (p : Option Addr) (h : P.underlying t = some (.pointer e)) (w : World) : (Op.equal t (.pointer p) (.pointer none)).run P w = .ok p.isNone w := run_equalIn_ptr1 9999 t e p h w
theorem run_equal_ptr2 (t e : Nat) (p : Option Addr) (h : P.underlying t = some (.pointer e)) (w : World) : (Op.equal t (.pointer none) (.pointer p)).run P w = .ok p.isNone w := run_equalIn_ptr2 9999 t e p h w
theorem leafEq_ok (hT : TabOk P T) {t : Nat} {i : TI} (hi : T.ti t = some i) {f : BinOp} {x y : LV} {v : SV} (h : (leafEq f i.d x y).gives ρ v) (ox oy : Operand) (w : World) :
    (do eqGuard f t ox oy (x.den ρ ids) (y.den ρ ids); binOp f t (x.den ρ ids) (y.den ρ ids) : Sem Value).run P w = .ok (v.den ρ ids) w := by
  obtain ⟨inf, _, _, _, hd⟩ := ti_ok hT hi
  have hptr : i.d.isPtr = true → ∃ e, P.underlying t = some (.pointer e) := fun h => by
    cases hh : i.d <;> rw [hh] at h hd <;> first | (cases h; done) | exact ⟨_, und_ptr hd⟩
  have hsl : i.d.isSlice = true → ∃ e, P.underlying t = some (.slice e) := fun h => by
    cases hh : i.d <;> rw [hh] at h hd <;> first | (cases h; done) | exact ⟨_, und_slice hd⟩
  have hbo : i.d.isBool = true → P.underlying t = some .bool := fun h => by
    cases hh : i.d <;> rw [hh] at h hd <;> first | (cases h; done) | exact und_bool hd
  unfold leafEq at h
  split at h
  all_goals first
    | (exact h.elim)
    | skip
  all_goals
    split at h
    case isFalse => exact h.elim
  · rename_i hb
    refine run_eqs f t ox oy _ _ _ v w h (run_guard_plain f t ox oy _ _ w rfl) rfl rfl ?_
    simp only [LV.den, mkEq_den]
    exact run_equal_bool w t _ _ (hbo hb)
  · rename_i hb
    obtain ⟨e, he⟩ := hptr hb
    refine run_eqs f t ox oy _ _ _ v w h (run_guard_plain f t ox oy _ _ w rfl) rfl rfl ?_
    exact run_equal_ptr1 t e _ he w
  · rename_i hb
    obtain ⟨e, he⟩ := hptr hb
    refine run_eqs f t ox oy _ _ _ v w h (run_guard_plain f t ox oy _ _ w rfl) rfl rfl ?_
    exact run_equal_ptr2 t e _ he w
  · rename_i hb
    obtain ⟨e, he⟩ := hptr hb
    refine run_eqs f t ox oy _ _ _ v w h (run_guard_plain f t ox oy _ _ w rfl) rfl rfl ?_
    exact run_equal_ptr1 t e _ he w
  · rename_i hb
    obtain ⟨e, he⟩ := hsl hb
    refine run_eqs f t ox oy _ _ _ v w h (run_guard_plain f t ox oy _ _ w rfl) rfl rfl ?_
    exact run_equal_slice_nil w t e _ _ _ he
  · rename_i hb
    obtain ⟨e, he⟩ := hsl hb
    refine run_eqs f t ox oy _ _ _ v w h (run_guard_plain f t ox oy _ _ w rfl) rfl rfl ?_
    exact run_equal_slice_nil w t e _ _ _ he
  · rename_i hb
    obtain ⟨e, he⟩ := hsl hb
    refine run_eqs f t ox oy _ _ _ v w h (run_guard_plain f t ox oy _ _ w rfl) rfl rfl ?_
    exact run_equal_slice_nil w t e _ _ _ he
theorem isLit_some {e : IE} {n : Int} (h : e.isLit = some n) : e = .lit n := by
  cases e <;> simp_all [IE.isLit]
theorem intS_ok {f : BinOp} {t : Nat} {k k' : IntKind} {x y : IE} {v : SV} (h : (intS f k x k' y).gives ρ v) (ox oy : Operand) (w : World) :
    (do eqGuard f t ox oy (.int k (x.den ρ)) (.int k' (y.den ρ)); binOp f t (.int k (x.den ρ)) (.int k' (y.den ρ)) : Sem Value).run P w = .ok (v.den ρ ids) w := by
  rw [Sem.run_bind, run_guard_plain f t ox oy _ _ w rfl, Result.andThen_ok]
  unfold intS at h
  split at h
  · rename_i hs
    have key : 0 ≤ y.den ρ ∧ v = .lf (.int k (.op f k x y)) := by
      unfold shS at h
      split at h
      · rename_i n hn
        rw [isLit_some hn] at h ⊢
        split at h
        · exact h.elim
        · exact ⟨by simp only [IE.den]; omega, h.symm⟩
      · exact ⟨h.2, h.1.symm⟩
    obtain ⟨h0, rfl⟩ := key
    have h0' : ¬ (y.den ρ < 0) := by omega
    cases f <;> first
      | (cases hs; done)
      | (simp only [binOp, Op.shift, if_neg h0', SV.den, LV.den, IE.den, ifn]; rfl)
  · rename_i hs
    split at h
    · rename_i hk
      subst hk
      split at h
      · rename_i hc
        cases h
        cases f <;> first
          | (cases hc; done)
          | (simp only [binOp, ne_eq, not_true_eq_false, if_false, Op.intCmp, SV.den, LV.den, mkCmp_den, cfn]; rfl)
      · rename_i hc
        split at h
        · rename_i hdv
          have key : y.den ρ ≠ 0 ∧ v = .lf (.int k (.op f k x y)) := by
            unfold divS at h
            split at h
            · rename_i n hn
              rw [isLit_some hn] at h ⊢
              split at h
              · exact h.elim
              · rename_i hne; exact ⟨by simpa only [IE.den] using hne, h.symm⟩
            · exact ⟨h.2, h.1.symm⟩
          obtain ⟨h0, rfl⟩ := key
          cases f <;> first
            | (cases hdv; done)
            | (simp only [binOp, ne_eq, not_true_eq_false, if_false, Op.intDiv, if_neg h0, SV.den, LV.den, IE.den, ifn]; rfl)
        · rename_i hdv
          cases h
          cases f <;> first
            | (exact absurd rfl hs)
            | (exact absurd rfl hc)
            | (exact absurd rfl hdv)
            | (simp only [binOp, ne_eq, not_true_eq_false, if_false, Op.intArith, Op.intBits, SV.den, LV.den, mk_den, ifn]; rfl)
    · exact h.elim
theorem binS_ok (hT : TabOk P T) {f : BinOp} {t : Nat} {x y v : SV} (h : (binS T f t x y).gives ρ v) (ox oy : Operand) (w : World) :
    (do eqGuard f t ox oy (x.den ρ ids) (y.den ρ ids); binOp f t (x.den ρ ids) (y.den ρ ids) : Sem Value).run P w = .ok (v.den ρ ids) w := by
  unfold binS at h
  split at h
  · rename_i l r
    split at h
    · exact intS_ok h ox oy w
    · split at h
      · rename_i i hi; exact leafEq_ok hT hi h ox oy w
      · exact h.elim
  · rename_i xs ys
    split at h
    · exact h.elim
    · rename_i i hi
      split at h
      · rename_i hagg
        split at h
        · rename_i b hb
          obtain ⟨inf, _, _, _, hd⟩ := ti_ok hT hi
          have hq := eqS_ok (ρ := ρ) (ids := ids) hT 20 t xs ys b hb i hi 10000 (by omega) w
          simp only [mkV, hagg, if_true] at hq
          have hgt : P.eqGuardType P.depth t = false := by
            cases hh : i.d <;> rw [hh] at hagg hd <;> first
              | (cases hagg; done)
              | (obtain ⟨_, _, _, _, _, hg⟩ := und_struct hd; exact hg)
              | exact (und_array hd).2.2.2
          exact run_eqs f t ox oy _ _ b v w h (run_eqGuard_agg w f t ox oy _ _ hgt) rfl rfl hq
        · exact h.elim
      · exact h.elim
  · exact h.elim
theorem unS_ok {f : UnOp} {x v : SV} (h : (unS f x).gives ρ v) (w : World) : (Op.unary f (x.den ρ ids)).run P w = .ok (v.den ρ ids) w := by
  unfold unS at h
  split at h
  · cases h; simp [Op.unary, SV.den, LV.den, mkNot_den]
  · cases h; simp [Op.unary, SV.den, LV.den, Op.intArith, mk_den, ifn, IE.den]
  · cases h; simp only [Op.unary, SV.den, LV.den, Op.intBits, IE.den, ifn]; rfl
  · exact h.elim
theorem convS_ok (hT : TabOk P T) {s d : Nat} {x v : SV} (h : (convS T s d x).gives ρ v) (w : World) : (convert s d (x.den ρ ids)).run P w = .ok (v.den ρ ids) w := by
  unfold convS at h
  split at h
  · rename_i k1 _ _ k2 _ _ k3 e h1 h2
    obtain ⟨_, _, _, _, hd1⟩ := ti_ok hT h1
    obtain ⟨_, _, _, _, hd2⟩ := ti_ok hT h2
    have key : (convert s d (.int k3 (e.den ρ))).run P w = .ok (.int k2 (k2.wrap (e.den ρ))) w := by
      simp [convert, run_underlying (und_int hd1), run_underlying (und_int hd2), Conv.intToInt]
    simp only [SV.den, LV.den]
    rw [key]
    split at h
    · rename_i n
      split at h
      · rename_i hs
        cases h
        simp only [SV.den, LV.den, IE.den]
        simp only [small, Bool.and_eq_true, decide_eq_true_eq] at hs
        rw [IntWalk.i64_in _ (by omega)]
      · cases h; rfl
    · cases h; rfl
  · exact h.elim
theorem partS_ok (hT : TabOk P T) {t : Nat} {cs : List LV} {off : Nat} {v : SV} (h : partS T t cs off = some v) (w : World) : (part t (cellsDen ρ ids cs).toArray off).run P w = .ok (v.den ρ ids) w := by
  unfold partS at h
  split at h
  · cases h
  · rename_i i hi
    have hp : ∀ (hb : (match i.d with | .bad => false | _ => true) = true) (hl : i.d.isAgg = false → ∃ l r, sub cs off i.size = l :: r), (part t (cellsDen ρ ids cs).toArray off).run P w = .ok (mkV ρ ids i (sub cs off i.size)) w := fun hb hl => run_part hT hi hb cs off hl w
    split at h
    · rename_i ha
      split at h
      · cases h
        rw [hp (by cases hh : i.d <;> simp_all [TD.isAgg]) (fun e => by rw [ha] at e; cases e)]
        simp only [mkV, ha, if_true]; rfl
      · cases h
    · rename_i ha
      have hl : i.d.isAgg = false := by simpa using ha
      have hb : (match i.d with | .bad => false | _ => true) = true ∧ (cs[off]?).map SV.lf = some v := by
        split at h
        · cases h
        · rename_i hne; exact ⟨by split <;> simp_all, h⟩
      obtain ⟨hb, h⟩ := hb
      obtain ⟨l, hl2, rfl⟩ := Option.map_eq_some_iff.1 h
      unfold part
      rw [Sem.run_bind, run_isAgg hT hi hb, Result.andThen_ok, hl]
      have h1 : (cellsDen ρ ids cs).toArray[off]? = some (l.den ρ ids) := by simp [getElem_cellsDen, hl2]
      simp only [Bool.false_eq_true, if_false]
      rw [h1]; rfl
theorem fieldS_ok (hT : TabOk P T) {t : Nat} {x v : SV} {f : Nat} (h : (fieldS T t x f).gives ρ v) (w : World) : (Instr.field t (x.den ρ ids) f).run P w = .ok (v.den ρ ids) w := by
  unfold fieldS at h
  split at h
  · rename_i fs _ _ cs hi
    obtain ⟨_, _, _, _, hd⟩ := ti_ok hT hi
    obtain ⟨gs, hu, hfs, _⟩ := und_struct hd
    split at h
    · rename_i off ft sz hf
      split at h
      · rename_i u hu2
        cases h
        subst hfs
        simp only [List.getElem?_map, Option.map_eq_some_iff] at hf
        obtain ⟨g, hg, he⟩ := hf
        have hg' : gs[f]? = some g := by simpa using hg
        simp only [Prod.mk.injEq] at he
        obtain ⟨rfl, rfl, _⟩ := he
        have := partS_ok (ρ := ρ) (ids := ids) hT hu2 w
        simp only [Instr.field, Sem.run_bind, run_underlying hu, Result.andThen_ok, hg', SV.den, asAgg, Sem.run_pure, this]
      · exact h.elim
    · exact h.elim
  · exact h.elim
theorem add_plain' (b o n : Nat) : (⟨b, o, none⟩ : Addr).add n = ⟨b, o + n, none⟩ := by unfold Addr.add; split <;> simp_all
theorem add_add' (a : Addr) (m n : Nat) : (a.add m).add n = a.add (m + n) := by
  unfold Addr.add
  split
  · rename_i h; subst h; simp
  · split
    · rename_i h; subst h; rename_i h1; simp [h1]
    · rename_i h1 h2
      rw [if_neg (by omega)]
      simp [Nat.add_assoc]
theorem fieldAddrS_ok (hT : TabOk P T) {t : Nat} {x v : SV} {f : Nat} (h : (fieldAddrS T t x f).gives ρ v) (w : World) : (Instr.fieldAt t (x.den ρ ids) f).run P w = .ok (v.den ρ ids) w := by
  unfold fieldAddrS at h
  split at h
  · rename_i fs _ _ hi
    obtain ⟨_, _, _, _, hd⟩ := ti_ok hT hi
    obtain ⟨gs, hu, hfs, hn, _⟩ := und_struct hd
    split at h
    · rename_i off ft sz hf
      split at h
      · exact h.elim
      · rename_i hsz
        subst hfs
        simp only [List.getElem?_map, Option.map_eq_some_iff] at hf
        obtain ⟨g, hg, he⟩ := hf
        have hg' : gs[f]? = some g := by simpa using hg
        simp only [Prod.mk.injEq] at he
        obtain ⟨rfl, rfl, rfl⟩ := he
        obtain ⟨inf, hinf⟩ := Option.isSome_iff_exists.1 (hn g (Array.mem_of_getElem? hg')).2
        have hs := run_sizeOf (P := P) w hinf
        split at h
        · cases h
          simp only [Instr.fieldAt, Sem.run_bind, run_underlying hu, Result.andThen_ok, hg', SV.den, LV.den, Instr.sureAddr, Sem.run_pure, fieldPlace, hs, Sem.run_ite, if_neg hsz, add_plain']
        · cases h
          simp only [Instr.fieldAt, Sem.run_bind, run_underlying hu, Result.andThen_ok, hg', SV.den, LV.den, Instr.sureAddr, Sem.run_pure, fieldPlace, hs, Sem.run_ite, if_neg hsz, add_add', Nat.add_assoc]
        · cases h
          simp only [Instr.fieldAt, Sem.run_bind, run_underlying hu, Result.andThen_ok, hg', SV.den, LV.den, Instr.sureAddr, Sem.run_pure, fieldPlace, hs, Sem.run_ite, if_neg hsz, add_plain', Nat.add_right_comm]
        · exact h.elim
    · exact h.elim
  · exact h.elim
theorem toIE_den (n : NE) : n.toIE.den ρ = (n.den ρ : Int) := by cases n <;> rfl
theorem indexAddrS_ok (hT : TabOk P T) {t : Nat} {x ix v : SV} (h : (indexAddrS T t x ix).gives ρ v) (w : World) : (Instr.indexAt t (x.den ρ ids) (ix.den ρ ids)).run P w = .ok (v.den ρ ids) w := by
  unfold indexAddrS at h
  split at h
  · rename_i e _ _ hi
    obtain ⟨_, _, _, _, hd⟩ := ti_ok hT hi
    have hu := und_slice hd
    split at h
    · exact h.elim
    · rename_i sz hs
      unfold Tab.size at hs
      obtain ⟨j, hj, rfl⟩ := Option.map_eq_some_iff.1 hs
      have hsz := run_size hT hj w
      split at h
      · rename_i a n c k i
        obtain ⟨rfl, ha, h0, h1⟩ := h
        rw [toIE_den] at h1
        obtain ⟨x0, hx0⟩ := Option.isSome_iff_exists.1 ha
        simp only [SV.den, LV.den, Instr.indexAt, asIntOf, Sem.run_bind, Sem.run_pure, Result.andThen_ok, run_underlying hu, hx0, Option.getD_some]
        simp only [Sem.run_ite, if_pos (And.intro h0 h1), Sem.run_bind, hsz, Result.andThen_ok, Sem.run_pure, add_add', Nat.add_zero]
      · rename_i nm off len c k i
        split at h
        · rename_i hb
          cases h
          simp only [SV.den, LV.den, IE.den, Instr.indexAt, asIntOf, Sem.run_bind, Sem.run_pure, Result.andThen_ok, run_underlying hu]
          simp only [Sem.run_ite, if_pos hb, Sem.run_bind, hsz, Result.andThen_ok, Sem.run_pure, add_plain']
        · exact h.elim
      · rename_i nm off len c k i _
        obtain ⟨rfl, h0, h1⟩ := h
        simp only [SV.den, LV.den, Instr.indexAt, asIntOf, Sem.run_bind, Sem.run_pure, Result.andThen_ok, run_underlying hu]
        simp only [IE.den] at h1
        simp only [Sem.run_ite, if_pos (And.intro h0 h1), Sem.run_bind, hsz, Result.andThen_ok, Sem.run_pure, add_plain']
      · exact h.elim
  · rename_i n e sz _ _ hi
    obtain ⟨_, _, _, _, hd⟩ := ti_ok hT hi
    obtain ⟨hu, rfl, hinf, _⟩ := und_array hd
    obtain ⟨inf, hinf⟩ := Option.isSome_iff_exists.1 hinf
    have hs := run_sizeOf (P := P) w hinf
    split at h
    · rename_i nm off k i
      split at h
      · rename_i hb
        cases h
        simp only [SV.den, LV.den, IE.den, Instr.indexAt, asIntOf, Sem.run_bind, Sem.run_pure, Result.andThen_ok, run_underlying hu, Instr.sureAddr]
        simp only [Sem.run_ite, if_pos hb, Sem.run_bind, hs, Result.andThen_ok, Sem.run_pure, add_plain']
      · exact h.elim
    · rename_i nm off k i _
      obtain ⟨rfl, h0, h1⟩ := h
      simp only [SV.den, LV.den, Instr.indexAt, asIntOf, Sem.run_bind, Sem.run_pure, Result.andThen_ok, run_underlying hu, Instr.sureAddr]
      simp only [IE.den] at h1
      simp only [Sem.run_ite, if_pos (And.intro h0 h1), Sem.run_bind, hs, Result.andThen_ok, Sem.run_pure, add_plain']
    · exact h.elim
  · exact h.elim
theorem indexS_ok (hT : TabOk P T) {t : Nat} {x ix v : SV} (h : (indexS T t x ix).gives ρ v) (w : World) : (Instr.index t (x.den ρ ids) (ix.den ρ ids)).run P w = .ok (v.den ρ ids) w := by
  unfold indexS at h
  split at h
  · rename_i n e sz _ _ cs k i hi
    obtain ⟨_, _, _, _, hd⟩ := ti_ok hT hi
    obtain ⟨hu, rfl, hinf, _⟩ := und_array hd
    obtain ⟨inf, hinf⟩ := Option.isSome_iff_exists.1 hinf
    have hs := run_sizeOf (P := P) w hinf
    split at h
    · rename_i hb
      split at h
      · rename_i u hu2
        cases h
        have := partS_ok (ρ := ρ) (ids := ids) hT hu2 w
        simp only [SV.den, LV.den, IE.den, Instr.index, asIntOf, Sem.run_bind, Sem.run_pure, Result.andThen_ok, run_underlying hu, Sem.run_ite, if_pos hb, hs, this]
      · exact h.elim
    · exact h.elim
  · exact h.elim
theorem extractS_ok {x v : SV} {n : Nat} (h : (extractS x n).gives ρ v) (w : World) : (Instr.extract (x.den ρ ids) n).run P w = .ok (v.den ρ ids) w := by
  unfold extractS at h
  split at h
  · rename_i vs
    split at h
    · rename_i cs hc
      cases h
      have : (vs.map (compDen ρ ids)).toArray[n]? = some (.agg (cellsDen ρ ids cs).toArray) := by simp [hc, compDen]
      simp only [Instr.extract, SV.den]
      rw [this]; rfl
    · rename_i c hc
      cases h
      have : (vs.map (compDen ρ ids)).toArray[n]? = some (c.den ρ ids) := by simp [hc, compDen]
      simp only [Instr.extract, SV.den]
      rw [this]; rfl
    · exact h.elim
  · rename_i b vs
    split at h
    · rename_i h0
      subst h0
      cases h
      cases hb : b.den ρ <;> simp [Instr.extract, SV.den, LV.den, hb]
    · exact h.elim
  · exact h.elim
theorem one_notagg {c : Cnt} (he : EnvOk ρ c) {l : LV} (h : l.isOne = true) : (l.den ρ ids).cells = #[l.den ρ ids] := by
  cases l with
  | val i =>
    simp only [LV.den]
    rcases Nat.lt_or_ge i ρ.v.length with q | q
    · have hm : ρ.v.getD i undef ∈ ρ.v := by simp [List.getD, q]
      have h1 := he.one _ hm
      generalize ρ.v.getD i undef = u at *
      cases u <;> first | rfl | (cases h1; done)
    · have : ρ.v.getD i undef = undef := by simp [List.getD, List.getElem?_eq_none q]
      rw [this]; rfl
  | cst v => cases v <;> first | rfl | (cases h; done)
  | _ => rfl
theorem cells_den {c : Cnt} (he : EnvOk ρ c) {x : SV} {cs : List LV} (h : x.cells = some cs) : (x.den ρ ids).cells.toList = cellsDen ρ ids cs := by
  cases x with
  | lf l =>
    simp only [SV.cells] at h
    split at h
    · rename_i h1
      cases h
      simp only [SV.den, one_notagg he h1, cellsDen, List.map_cons, List.map_nil]
    · cases h
  | agg cs' => cases h; simp [SV.den, Value.cells]
  | tup _ => cases h
  | nxt _ _ => cases h
  | dead => cases h
theorem cells_size {c : Cnt} (he : EnvOk ρ c) {x : SV} {cs : List LV} (h : x.cells = some cs) : (x.den ρ ids).cells.size = cs.length := by
  rw [← Array.length_toList, cells_den (ids := ids) he h]; simp [cellsDen]
theorem fold_set (xs : List Value) : ∀ (off j : Nat) (cells : Array Value), off + j + xs.length ≤ cells.size →
    ((xs.zipIdx j).foldl (fun cs (p : Value × Nat) => cs.setIfInBounds (off + p.2) p.1) cells).toList = cells.toList.take (off + j) ++ xs ++ cells.toList.drop (off + j + xs.length) := by
  induction xs with
  | nil => intro off j cells _; simp
  | cons x xs ih =>
    intro off j cells h
    simp only [List.length_cons] at h
    simp only [List.zipIdx_cons, List.foldl_cons]
    rw [ih off (j + 1) _ (by simp; omega)]
    apply List.ext_getElem?
    intro q
    simp only [Array.toList_setIfInBounds, List.length_cons]
    simp only [List.getElem?_append, List.length_append, List.length_take, List.length_set, Array.length_toList, List.getElem?_take, List.getElem?_drop, List.getElem?_set, List.getElem?_cons, List.length_cons]
    have e1 : min (off + (j + 1)) cells.size = off + j + 1 := by omega
    have e2 : min (off + j) cells.size = off + j := by omega
    simp only [e1, e2]
    by_cases h1 : q < off + j
    · rw [if_pos (by omega), if_pos (by omega), if_pos (by omega), if_neg (by omega), if_pos (by omega), if_pos (by omega), if_pos (by omega)]
    · by_cases h2 : q = off + j
      · subst h2
        rw [if_pos (by omega), if_pos (by omega), if_pos (by omega), if_pos rfl, if_pos (by omega), if_pos (by omega), if_neg (by omega), if_pos (by omega)]
      · by_cases h3 : q < off + j + 1 + xs.length
        · rw [if_pos (by omega), if_neg (by omega), if_pos (by omega), if_neg (by omega), if_neg (by omega)]
          congr 1
        · rw [if_neg (by omega), if_neg (by omega), if_neg (by omega)]
          congr 1; omega
theorem fill_ok {c : Cnt} (he : EnvOk ρ c) (pl : Nat → Option (Nat × Nat)) : ∀ (ps : List (Nat × SV)) (cells : List LV) (r : List LV), fillS pl cells ps = some r → ∀ (A : Array Value), A.toList = cellsDen ρ ids cells →
    ∃ R, Instr.fill pl A (ps.map fun p => (p.1, p.2.den ρ ids)) = some R ∧ R.toList = cellsDen ρ ids r
  | [], cells, r, h, A, hA => by
    simp only [fillS, Option.some.injEq] at h
    subst h; exact ⟨A, rfl, hA⟩
  | (i, v) :: rest, cells, r, h, A, hA => by
    simp only [fillS] at h
    split at h
    · rename_i off size xs h1 h2
      split at h
      · rename_i hb
        have hsz := cells_size (ids := ids) he h2
        have hcd := cells_den (ids := ids) he h2
        have hAs : A.size = cells.length := by rw [← Array.length_toList, hA]; simp [cellsDen]
        have hf := fold_set (v.den ρ ids).cells.toList off 0 A (by simp only [Array.length_toList]; omega)
        obtain ⟨R, hR1, hR2⟩ := fill_ok he pl rest _ _ h ((v.den ρ ids).cells.zipIdx.foldl (fun cs (p : Value × Nat) => cs.setIfInBounds (off + p.2) p.1) A) (by
          rw [← Array.foldl_toList, Array.toList_zipIdx, hf, hA, hcd]
          simp [cellsDen, splice])
        refine ⟨R, ?_, hR2⟩
        simp only [List.map_cons, Instr.fill, h1]
        rw [if_neg (by simp only [ne_eq, bne_iff_ne, Bool.or_eq_true, decide_eq_true_eq, not_or, Decidable.not_not]; omega)]
        exact hR1
      · cases h
    · cases h
theorem evAll_ok (ha : ActOk st ρ ids a) : ∀ {ps : List (Nat × Operand)} {vs : List (Nat × SV)}, evAll st ps = some vs → ps.map (fun p => (p.1, a.eval p.2)) = vs.map fun p => (p.1, p.2.den ρ ids)
  | [], vs, h => by simp only [evAll, Option.some.injEq] at h; subst h; rfl
  | (i, x) :: r, vs, h => by
    simp only [evAll] at h
    split at h
    · rename_i v us h1 h2
      cases h
      simp only [List.map_cons, ev_ok ha h1, evAll_ok ha h2]
    · cases h
theorem evList_ok (ha : ActOk st ρ ids a) : ∀ {ps : List Operand} {vs : List SV}, evList st ps = some vs → ps.map a.eval = vs.map (SV.den ρ ids)
  | [], vs, h => by simp only [evList, Option.some.injEq] at h; subst h; rfl
  | x :: r, vs, h => by
    simp only [evList] at h
    split at h
    · rename_i v us h1 h2
      cases h
      simp only [List.map_cons, ev_ok ha h1, evList_ok ha h2]
    · cases h
theorem buildS_ok (hT : TabOk P T) {c : Cnt} (he : EnvOk ρ c) {t : Nat} {vs : List (Nat × SV)} {v : SV} (h : (buildS T t vs).gives ρ v) (ps : Array (Nat × Value)) (hps : ps.toList = vs.map fun p => (p.1, p.2.den ρ ids)) (w : World) :
    (Instr.build t ps).run P w = .ok (v.den ρ ids) w := by
  unfold buildS at h
  split at h
  · rename_i fs _ _ z hi hz
    obtain ⟨_, _, _, _, hd⟩ := ti_ok hT hi
    obtain ⟨gs, hu, hfs, hn, _⟩ := und_struct hd
    obtain ⟨zv, hz1, hz2⟩ := zero_ok hT hz ρ ids w
    split at h
    · rename_i cs hf
      cases h
      obtain ⟨R, hR1, hR2⟩ := fill_ok (ids := ids) he _ _ _ _ hf zv.cells hz2
      have hpl : (gs.mapM fun f => (do pure (f.offset, ← sizeOf f.type) : Sem (Nat × Nat))).run P w = .ok (gs.map fun f => (f.offset, P.cellsOf f.type)) w := by
        have key : ∀ (l : List Field), (∀ f, f ∈ l → (P.info? f.type).isSome = true) → (l.mapM fun f => (do pure (f.offset, ← sizeOf f.type) : Sem (Nat × Nat))).run P w = .ok (l.map fun f => (f.offset, P.cellsOf f.type)) w := by
          intro l
          induction l with
          | nil => intro _; simp
          | cons f l ih =>
            intro hl
            obtain ⟨inf, hinf⟩ := Option.isSome_iff_exists.1 (hl f (by simp))
            simp only [List.mapM_cons, Sem.run_bind, run_sizeOf w hinf, Result.andThen_ok, Sem.run_pure, ih (fun g hg => hl g (by simp [hg])), List.map_cons]
        have h2 := key gs.toList (fun f hf => (hn f (by simpa using hf)).2)
        rw [Array.mapM_eq_mapM_toList, Sem.run_map, h2]
        simp only [Result.andThen_ok]
        congr 1
        apply Array.toList_inj.1
        simp
      have hplace : (fun (i : Nat) => ((gs.map fun f => (f.offset, P.cellsOf f.type))[i]? : Option (Nat × Nat))) = fun (i : Nat) => ((fs[i]?).map fun (f : Nat × Nat × Nat) => (f.1, f.2.2)) := by
        funext i
        subst hfs
        simp [Function.comp_def]
      simp only [Instr.build, Sem.run_bind, hz1, Result.andThen_ok, run_underlying hu, hpl, hps]
      rw [hplace, hR1]
      simp only [Sem.run_pure, SV.den]
      congr 2
      apply Array.toList_inj.1
      rw [hR2]
    · exact h.elim
  · rename_i n e sz _ _ z hi hz
    obtain ⟨_, _, _, _, hd⟩ := ti_ok hT hi
    obtain ⟨hu, rfl, hinf, _⟩ := und_array hd
    obtain ⟨inf, hinf⟩ := Option.isSome_iff_exists.1 hinf
    have hs := run_sizeOf (P := P) w hinf
    obtain ⟨zv, hz1, hz2⟩ := zero_ok hT hz ρ ids w
    split at h
    · rename_i cs hf
      cases h
      obtain ⟨R, hR1, hR2⟩ := fill_ok (ids := ids) he _ _ _ _ hf zv.cells hz2
      simp only [Instr.build, Sem.run_bind, hz1, Result.andThen_ok, run_underlying hu, hs, hps]
      rw [hR1]
      simp only [Sem.run_pure, SV.den]
      congr 2
      apply Array.toList_inj.1
      rw [hR2]
    · exact h.elim
  · exact h.elim
theorem capsOf_ok : ∀ {vs : List SV} {cs : List (Nat × Nat)}, capsOf vs = some cs → vs.map (SV.den ρ ids) = cs.map fun c => Value.pointer (some ⟨idAt ids c.1, c.2, none⟩)
  | [], cs, h => by simp only [capsOf, Option.some.injEq] at h; subst h; rfl
  | .lf (.ptr n o) :: r, cs, h => by
    simp only [capsOf] at h
    obtain ⟨c0, h1, rfl⟩ := Option.map_eq_some_iff.1 h
    simp only [List.map_cons, capsOf_ok h1, SV.den, LV.den]
  | .lf (.int ..) :: _, _, h => by simp [capsOf] at h
  | .lf (.bool _) :: _, _, h => by simp [capsOf] at h
  | .lf (.val _) :: _, _, h => by simp [capsOf] at h
  | .lf .nilp :: _, _, h => by simp [capsOf] at h
  | .lf (.sl ..) :: _, _, h => by simp [capsOf] at h
  | .lf (.nsl ..) :: _, _, h => by simp [capsOf] at h
  | .lf .nilsl :: _, _, h => by simp [capsOf] at h
  | .lf (.adr ..) :: _, _, h => by simp [capsOf] at h
  | .lf (.pix ..) :: _, _, h => by simp [capsOf] at h
  | .lf (.fnv ..) :: _, _, h => by simp [capsOf] at h
  | .lf (.cst _) :: _, _, h => by simp [capsOf] at h
  | .agg _ :: _, _, h => by simp [capsOf] at h
  | .tup _ :: _, _, h => by simp [capsOf] at h
  | .nxt _ _ :: _, _, h => by simp [capsOf] at h
  | .dead :: _, _, h => by simp [capsOf] at h
theorem lenS_ok (hT : TabOk P T) {t : Nat} {x v : SV} (h : (lenS T t x).gives ρ v) (ty : Nat) (w : World) : (Builtin.len_ #[t] ty #[x.den ρ ids]).run P w = .ok (v.den ρ ids) w := by
  unfold lenS at h
  split at h
  all_goals first
    | (exact h.elim)
    | skip
  all_goals
    rename_i hi
    obtain ⟨_, _, _, _, hd⟩ := ti_ok hT hi
    cases h
  · simp [Builtin.len_, run_underlying (und_slice hd), SV.den, LV.den, toIE_den, goInt]
  · simp [Builtin.len_, run_underlying (und_slice hd), SV.den, LV.den, goInt, IE.den]
  · simp [Builtin.len_, run_underlying (und_slice hd), SV.den, LV.den, goInt, IE.den]
  · simp [Builtin.len_, run_underlying (und_array hd).1, SV.den, LV.den, goInt, IE.den]

theorem pure_ok (hT : TabOk P T) (ha : ActOk st ρ ids a) {c : Cnt} (he : EnvOk ρ c) {o : Oper} {v : SV} (h : (pureS T o st).gives ρ v) (w : World) : (execOp a.eval o).run P w = .ok (.value (v.den ρ ids)) w := by
  obtain ⟨dst, op, type, pos, after, guard⟩ := o
  unfold pureS at h
  simp only at h
  split at h
  · split at h
    · rename_i hx
      cases h; simp only [execOp, ev_ok ha hx]; rfl
    · exact h.elim
  · split at h
    · rename_i hx
      cases h; simp only [execOp, ev_ok ha hx]; rfl
    · exact h.elim
  · rename_i cc aa bb
    split at h
    · rename_i r hc
      split at h
      · rename_i u hu
        cases h
        have h1 := ev_ok ha (evL_ev hc)
        have h2 := ev_ok ha hu
        have h1' : a.eval cc = .bool r := h1
        simp only [execOp, h1', asBool, Sem.run_bind, Sem.run_pure, Result.andThen_ok]
        rw [← h2]
        cases r <;> rfl
      · exact h.elim
    · exact h.elim
    · exact h.elim
  · split at h
    · rename_i h1 h2
      have := binS_ok (ids := ids) hT h
      simp only [execOp, ev_ok ha h1, ev_ok ha h2]
      rw [Sem.run_bind, this]; rfl
    · exact h.elim
  · split at h
    · rename_i h1
      have := unS_ok (P := P) (ids := ids) h w
      simp only [execOp, ev_ok ha h1]
      rw [Sem.run_bind, this]; rfl
    · exact h.elim
  · split at h
    · rename_i h1
      have := convS_ok (ids := ids) hT h w
      simp only [execOp, ev_ok ha h1]
      rw [Sem.run_bind, this]; rfl
    · exact h.elim
  · split at h
    · rename_i h1
      have := fieldS_ok (ids := ids) hT h w
      simp only [execOp, ev_ok ha h1]
      rw [Sem.run_bind, this]; rfl
    · exact h.elim
  · split at h
    · rename_i h1
      have := fieldAddrS_ok (ids := ids) hT h w
      simp only [execOp, ev_ok ha h1]
      rw [Sem.run_bind, this]; rfl
    · exact h.elim
  · split at h
    · rename_i h1 h2
      have := indexAddrS_ok (ids := ids) hT h w
      simp only [execOp, ev_ok ha h1, ev_ok ha h2]
      rw [Sem.run_bind, this]; rfl
    · exact h.elim
  · split at h
    · rename_i h1 h2
      have := indexS_ok (ids := ids) hT h w
      simp only [execOp, ev_ok ha h1, ev_ok ha h2]
      rw [Sem.run_bind, this]; rfl
    · exact h.elim
  · split at h
    · rename_i h1
      have := extractS_ok (P := P) (ids := ids) h w
      simp only [execOp, ev_ok ha h1]
      rw [Sem.run_bind, this]; rfl
    · exact h.elim
  · rename_i t ps
    split at h
    · rename_i vs h1
      have h2 := evAll_ok ha h1
      have := buildS_ok (ids := ids) hT he h (ps.map fun p => (p.1, a.eval p.2)) (by simpa using h2) w
      simp only [execOp]
      rw [Sem.run_bind]
      erw [this]; rfl
    · exact h.elim
  · split at h
    · rename_i h1
      cases h
      simp only [execOp, ev_ok ha h1, SV.den, LV.den]; rfl
    · rename_i h1
      cases h
      simp only [execOp, ev_ok ha h1, SV.den, LV.den]; rfl
    · rename_i h1
      cases h
      simp only [execOp, ev_ok ha h1, SV.den, LV.den]; rfl
    · exact h.elim
  · rename_i f caps
    split at h
    · rename_i cs h1
      cases h
      obtain ⟨vs, h2, h3⟩ := Option.bind_eq_some_iff.1 h1
      have h4 := evList_ok ha h2
      have h5 := capsOf_ok (ρ := ρ) (ids := ids) h3
      have h6 : caps.map a.eval = (cs.map fun c => Value.pointer (some ⟨idAt ids c.1, c.2, none⟩)).toArray := by
        apply Array.toList_inj.1
        simp only [Array.toList_map, h4, h5]
      simp only [execOp, h6, SV.den, LV.den]
      simp [Instr.makeFunc]
    · exact h.elim
  · split at h
    · rename_i k x k' y h1 h2
      split at h
      · rename_i hk
        subst hk
        cases h
        have e1 := ev_ok ha (evL_ev h1)
        have e2 := ev_ok ha (evL_ev h2)
        simp [execOp, resolve, invoke, builtin, Builtin.max_, Builtin.max2, e1, e2, SV.den, LV.den, IE.den]
        omega
      · exact h.elim
    · exact h.elim
  · split at h
    · rename_i k x k' y h1 h2
      split at h
      · rename_i hk
        subst hk
        cases h
        have e1 := ev_ok ha (evL_ev h1)
        have e2 := ev_ok ha (evL_ev h2)
        simp [execOp, resolve, invoke, builtin, Builtin.min_, Builtin.min2, e1, e2, SV.den, LV.den, IE.den]
        omega
      · exact h.elim
    · exact h.elim
  · split at h
    · rename_i h1
      have := lenS_ok (ids := ids) hT h type w
      simp only [execOp, resolve, invoke, builtin, Sem.run_bind, Sem.run_pure, Result.andThen_ok, List.map_toArray, List.map_cons, List.map_nil, ev_ok ha h1, this]
    · exact h.elim
  · exact h.elim
end
end Go.Eng

namespace Go.Eng
set_option linter.unusedVariables false
set_option linter.unusedSimpArgs false

section
variable {C : Cfg} {T : Tab} {st : St} {ρ : Env} {ids : List Nat} {hx : HX} {w : World} {a : Act}

theorem Facts.id_lt {m : Mem} (hf : Facts C m ρ ids hx w) {id : Nat} (h : id ∈ ids) : id < w.heap.size := by
  obtain ⟨n, hn, rfl⟩ := List.getElem_of_mem h
  have hn' : n < m.hp.length := hf.len ▸ hn
  have := hf.blk n (m.hp[n]).1 (m.hp[n]).2 (List.getElem?_eq_getElem hn')
  have e : idAt ids n = ids[n] := by simp [idAt, List.getD, hn]
  rw [e] at this
  rcases Nat.lt_or_ge ids[n] w.heap.size with q | q
  · exact q
  · rw [Array.getElem?_eq_none q] at this; cases this
theorem idAt_mem {n : Nat} (h : n < ids.length) : idAt ids n ∈ ids := by
  have e : idAt ids n = ids[n] := by simp [idAt, List.getD, h]
  rw [e]; exact List.getElem_mem h
theorem idAt_inj {n m : Nat} (hn : ids.Nodup) (h1 : n < ids.length) (h2 : m < ids.length) (h : idAt ids n = idAt ids m) : n = m := by
  have e1 : idAt ids n = ids[n] := by simp [idAt, List.getD, h1]
  have e2 : idAt ids m = ids[m] := by simp [idAt, List.getD, h2]
  rw [e1, e2] at h
  exact (List.getElem_inj hn).1 h
theorem fits_hp {st : St} (h : st.fits = true) {n ty : Nat} {cs : List LV} (hn : st.hp[n]? = some (ty, cs)) : cs.all (LV.fits st.c st.hp.length) = true := by
  unfold St.fits at h
  simp only [Bool.and_eq_true] at h
  exact List.all_eq_true.1 h.2 _ (List.mem_of_getElem? hn)

theorem loadS_ok (hT : TabOk C.P T) {t n off ty : Nat} {cs : List LV} {v : SV} (h : loadS T t st n off = some v) (hn : st.hp[n]? = some (ty, cs))
    (hb : w.heap[idAt ids n]? = some (.cells (cellsDen ρ ids cs).toArray ty (0, 0))) : (loadVar t ⟨idAt ids n, off, none⟩).run C.P w = .ok (v.den ρ ids) w := by
  unfold loadS at h
  rw [hn] at h
  split at h
  · rename_i i ty' cs' hi hcs
    cases hcs
    have hcell : ∀ j u, cs[off + j]? = some u → w.cell? ((⟨idAt ids n, off, none⟩ : Addr).add j) = some (u.den ρ ids) := fun j u hu => by
      rw [add_plain']; simp [World.cell?, hb, getElem_cellsDen, hu]
    split at h
    · rename_i ha
      split at h
      · rename_i hl
        cases h
        have hbad : (match i.d with | .bad => false | _ => true) = true := by cases hh : i.d <;> simp_all [TD.isAgg]
        have hlen : (cellsDen ρ ids (sub cs off i.size)).length = i.size := by simp [cellsDen, sub]; omega
        have := run_loadCells_list (P := C.P) w ⟨idAt ids n, off, none⟩ (cellsDen ρ ids (sub cs off i.size)) (fun j u hu => by
          rw [getElem_cellsDen, Option.map_eq_some_iff] at hu
          obtain ⟨l, hl1, rfl⟩ := hu
          refine hcell j l ?_
          unfold sub at hl1
          rw [List.getElem?_take] at hl1
          split at hl1
          · simpa using hl1
          · cases hl1)
        rw [hlen] at this
        simp only [loadVar, Sem.run_bind, run_isAgg hT hi hbad, Result.andThen_ok, ha, if_true, run_size hT hi, this, Sem.run_pure, SV.den]
      · cases h
    · rename_i ha
      have hl : i.d.isAgg = false := by simpa using ha
      have hb' : (match i.d with | .bad => false | _ => true) = true ∧ (cs[off]?).map SV.lf = some v := by
        split at h
        · cases h
        · rename_i hne; exact ⟨by split <;> simp_all, h⟩
      obtain ⟨l, hl2, rfl⟩ := Option.map_eq_some_iff.1 hb'.2
      have := hcell 0 l (by simpa using hl2)
      simp only [loadVar, Sem.run_bind, run_isAgg hT hi hb'.1, Result.andThen_ok, hl, Bool.false_eq_true, if_false, run_load]
      have e : (⟨idAt ids n, off, none⟩ : Addr).add 0 = ⟨idAt ids n, off, none⟩ := rfl
      rw [e] at this
      rw [this]; rfl
  · cases h
theorem heap_val (hT : TabOk C.P T) (ha : ActOk st ρ ids a) {o : Oper} {v : SV} (h : heapS T o st = .val v) :
    ∃ t x n off, o.op = .load t x ∧ st.evL x = some (.ptr n off) ∧ loadS T t st n off = some v := by
  unfold heapS at h
  split at h
  · rename_i t x ho
    split at h
    · rename_i n off hx
      split at h
      · rename_i u hu; cases h; exact ⟨t, x, n, off, ho, hx, hu⟩
      · cases h
    · cases h
  · split at h <;> cases h
  · split at h <;> cases h
  · split at h
    · split at h
      · split at h <;> cases h
      · cases h
    · cases h
  · split at h
    · split at h
      · split at h
        · split at h <;> cases h
        · cases h
      · cases h
    · cases h
  · cases h
theorem load_run (hT : TabOk C.P T) (ha : ActOk st ρ ids a) {o : Oper} {v : SV} {t : Nat} {x : Operand} {n off ty : Nat} {cs : List LV} (ho : o.op = .load t x) (hx : st.evL x = some (.ptr n off)) (hl : loadS T t st n off = some v)
    (hn : st.hp[n]? = some (ty, cs)) (hb : w.heap[idAt ids n]? = some (.cells (cellsDen ρ ids cs).toArray ty (0, 0))) : (execOp a.eval o).run C.P w = .ok (.value (v.den ρ ids)) w := by
  have h1 := ev_ok ha (evL_ev hx)
  have h2 := loadS_ok (ρ := ρ) (ids := ids) hT hl hn hb
  unfold execOp
  simp only [ho, Instr.loadAt, h1, SV.den, LV.den, Instr.sureAddr]
  rw [Sem.run_bind, Sem.run_bind, Sem.run_pure, Result.andThen_ok, h2]; rfl
theorem loadS_hp {t n off : Nat} {v : SV} (h : loadS T t st n off = some v) : ∃ ty cs, st.hp[n]? = some (ty, cs) := by
  unfold loadS at h
  split at h
  · rename_i h2; exact ⟨_, _, h2⟩
  · cases h

theorem Facts.alloc {m : Mem} (hf : Facts C m ρ ids hx w) (hfit : hpFits m.c m.hp.length m.hp = true) (t : Nat) (cs : List LV) (us : Array Value) (hu : us.toList = cellsDen ρ (ids ++ [w.heap.size]) cs) :
    Facts C ⟨m.hp ++ [(t, cs)], m.c⟩ ρ (ids ++ [w.heap.size]) hx (w.alloc (.cells us t)) := by
  have hpre : ids <+: ids ++ [w.heap.size] := List.prefix_append _ _
  refine ⟨by simp [hf.len], ?_, ?_, ?_, ?_, ?_, ?_, hf.cnt⟩
  · refine List.nodup_append.2 ⟨hf.nod, by simp, ?_⟩
    intro x hx1 y hy
    simp only [List.mem_singleton] at hy
    subst hy
    have := hf.id_lt hx1
    omega
  · intro n ty cs' hn
    simp only [List.getElem?_append] at hn
    split at hn
    · rename_i hlt
      have h1 := hf.blk n ty cs' hn
      have h2 : idAt (ids ++ [w.heap.size]) n = idAt ids n := idAt_pre hpre (hf.len ▸ hlt)
      have h3 := hf.id_lt (idAt_mem (ids := ids) (n := n) (hf.len ▸ hlt))
      rw [h2, heap_alloc_old w _ h3, h1]
      have h4 : cs'.all (LV.fits m.c m.hp.length) = true := List.all_eq_true.1 hfit _ (List.mem_of_getElem? hn)
      have := cellsDen_add (x := Vals.nil) hf.cnt.cnt hpre hf.len h4
      rw [Env.add_nil] at this
      rw [this]
    · rename_i hge
      have hn0 : n - m.hp.length = 0 := by
        rcases Nat.eq_zero_or_pos (n - m.hp.length) with q | q
        · exact q
        · rw [List.getElem?_eq_none (by simp; omega)] at hn; cases hn
      rw [hn0] at hn
      simp only [List.getElem?_cons_zero, Option.some.injEq, Prod.mk.injEq] at hn
      obtain ⟨rfl, rfl⟩ := hn
      have hnl : n = ids.length := by have := hf.len; omega
      have h2 : idAt (ids ++ [w.heap.size]) n = w.heap.size := by simp [idAt, hnl]
      rw [h2, heap_alloc_new]
      congr 2
      apply Array.toList_inj.1
      rw [hu]
  · intro id hid
    rcases List.mem_append.1 hid with h | h
    · exact hf.own id h
    · simp only [List.mem_singleton] at h; subst h; exact .inl hf.chg.size
  · refine hf.chg.trans ⟨rfl, rfl, rfl, ?_, fun k hk _ => heap_alloc_old w _ hk⟩
    show w.heap.size ≤ (w.heap.push _).size
    simp
  · exact hx.loc w _ hf.x fun b hb => heap_alloc_old w _ (hf.sep b hb).1
  · intro b hb
    obtain ⟨h1, h2⟩ := hf.sep b hb
    refine ⟨?_, ?_⟩
    · show b < (w.heap.push _).size
      simp; omega
    · simp only [List.mem_append, List.mem_singleton, not_or]; exact ⟨h2, by omega⟩
theorem toLV_fits (c : Cnt) (m : Nat) (v : Value) : (toLV v).fits c m = true := by
  unfold toLV; split <;> rfl
theorem ev_fit {st : St} (hfit : st.fits = true) {x : Operand} {s : SV} (h : st.ev x = some s) : s.fits st.c st.hp.length = true := by
  cases x with
  | tmp t =>
    obtain ⟨h1, h2⟩ := St.get_ne h
    unfold St.fits at hfit
    simp only [Bool.and_eq_true] at hfit
    exact List.all_eq_true.1 hfit.1 s (List.mem_of_getElem? h1)
  | const v =>
    simp only [St.ev] at h
    have : toSV v = s := by
      split at h
      · cases h
      · cases h; rfl
    rw [← this]
    unfold toSV
    split
    · rfl
    · rfl
    · simp only [SV.fits, List.all_map, List.all_eq_true]; intro u _; exact toLV_fits _ _ u
    · exact toLV_fits _ _ v
  | global g => simp [St.ev] at h
  | func f => simp only [St.ev, Option.some.injEq] at h; subst h; rfl
theorem cells_fits {c : Cnt} {m : Nat} {s : SV} {cs : List LV} (h : s.fits c m = true) (hc : s.cells = some cs) : cs.all (LV.fits c m) = true := by
  cases s with
  | lf l =>
    simp only [SV.cells] at hc
    split at hc
    · cases hc; simp only [List.all_cons, List.all_nil, Bool.and_true]; exact h
    · cases hc
  | agg cs' => cases hc; exact h
  | tup _ => cases hc
  | nxt _ _ => cases hc
  | dead => cases hc
theorem same_fits {c : Cnt} {m : Nat} {x y : LV} (h : x.same y = true) (hx : ∃ v, x = toLV v) : y.fits c m = true := by
  obtain ⟨v, rfl⟩ := hx
  unfold toLV at h
  split at h <;> (cases y <;> simp_all [LV.same, LV.fits, IE.fits, BE.fits])
  · obtain ⟨_, rfl⟩ := h; rfl
  · subst h; rfl
theorem zero_fits (hT : TabOk C.P T) {t : Nat} {z : List LV} (h : T.zero t = some z) (c : Cnt) (m : Nat) : z.all (LV.fits c m) = true := by
  unfold Tab.zero at h
  obtain ⟨i, hi, hz⟩ := Option.bind_eq_some_iff.1 h
  obtain ⟨inf, h1, _, h3, _⟩ := ti_ok hT hi
  rw [hz] at h3
  unfold zeroB at h3
  simp only at h3
  split at h3
  · rename_i v hv
    generalize v.cells.toList = l at h3
    induction l generalizing z with
    | nil => cases z <;> simp_all [sameL]
    | cons u l ih =>
      cases z with
      | nil => rfl
      | cons y z =>
        simp only [List.map_cons, sameL, Bool.and_eq_true] at h3
        simp only [List.all_cons, Bool.and_eq_true]
        refine ⟨same_fits h3.1 ⟨u, rfl⟩, ?_⟩
        have : ∀ (l : List Value) (z : List LV), sameL (l.map toLV) z = true → z.all (LV.fits c m) = true := by
          intro l
          induction l with
          | nil => intro z hz; cases z <;> simp_all [sameL]
          | cons u l ih =>
            intro z hz
            cases z with
            | nil => rfl
            | cons y z =>
              simp only [List.map_cons, sameL, Bool.and_eq_true] at hz
              simp only [List.all_cons, Bool.and_eq_true]
              exact ⟨same_fits hz.1 ⟨u, rfl⟩, ih z hz.2⟩
        exact this l z h3.2
  · cases h3
end
end Go.Eng

namespace Go.Eng
set_option linter.unusedVariables false
set_option linter.unusedSimpArgs false

section
variable {C : Cfg} {T : Tab} {st : St} {ρ : Env} {ids : List Nat} {hx : HX} {w : World} {a : Act}
theorem run_newRow (P : Program) (e : TypeId) (cells : Array Value) (w : World) : (newRow e cells).run P w = .ok ⟨w.heap.size, 0, none⟩ (w.alloc (.cells cells e)) := rfl
theorem fitsHp {st : St} (h : st.fits = true) : hpFits st.mem.c st.mem.hp.length st.mem.hp = true := by
  unfold St.fits at h
  simp only [Bool.and_eq_true] at h
  exact h.2
theorem idAt_last (n b : Nat) (h : ids.length = n) : idAt (ids ++ [b]) n = b := by subst h; simp [idAt]
theorem repL_len (n : Nat) (z : List LV) : (repL n z).length = n * z.length := by
  induction n with
  | zero => simp [repL]
  | succ n ih => simp only [repL, List.length_append, ih, Nat.succ_mul]; omega
theorem repL_get (z : List LV) (hz : 0 < z.length) : ∀ (n j : Nat), j < n * z.length → (repL n z)[j]? = z[j % z.length]?
  | 0, j, h => by simp at h
  | n + 1, j, h => by
    rw [Nat.succ_mul] at h
    simp only [repL, List.getElem?_append]
    split
    · rename_i h1; rw [Nat.mod_eq_of_lt h1]
    · rename_i h1
      rw [repL_get z hz n (j - z.length) (by omega)]
      congr 1
      exact (Nat.mod_eq_sub_mod (Nat.le_of_not_lt h1)).symm
theorem new_ok (hT : TabOk C.P T) (ha : ActOk st ρ ids a) (hf : Facts C st.mem ρ ids hx w) (hfit : st.fits = true) {o : Oper} {v : SV} {st' : St} (h : heapS T o st = .new v st') :
    ∃ w', (execOp a.eval o).run C.P w = .ok (.value (v.den ρ (ids ++ [w.heap.size]))) w' ∧ Facts C st'.mem ρ (ids ++ [w.heap.size]) hx w' ∧ st'.fr = st.fr := by
  have hpre : ids <+: ids ++ [w.heap.size] := List.prefix_append _ _
  have hlen : ids.length = st.hp.length := hf.len
  have hden : ∀ cs : List LV, cs.all (LV.fits st.c st.hp.length) = true → cellsDen ρ (ids ++ [w.heap.size]) cs = cellsDen ρ ids cs := fun cs hc => by
    have := cellsDen_add (x := Vals.nil) hf.cnt.cnt hpre hf.len hc
    rwa [Env.add_nil] at this
  unfold heapS at h
  split at h
  · split at h
    · split at h <;> cases h
    · cases h
  · rename_i t ho
    split at h
    · rename_i z hz
      cases h
      obtain ⟨zv, h1, h2⟩ := zero_ok hT hz ρ (ids ++ [w.heap.size]) w
      refine ⟨w.alloc (.cells zv.cells t), ?_, hf.alloc (fitsHp hfit) t z zv.cells h2, rfl⟩
      unfold execOp
      simp only [ho, Instr.alloc, Sem.run_bind, h1, Result.andThen_ok, newVar, run_newRow, Sem.run_pure, SV.den, LV.den, idAt_last _ _ hlen]
    · cases h
  · rename_i t x ho
    split at h
    · rename_i cs hc
      cases h
      obtain ⟨s, hs, hcs⟩ := Option.bind_eq_some_iff.1 hc
      have h1 := ev_ok ha hs
      have h2 := cells_den (ids := ids) hf.cnt hcs
      have h3 := cells_fits (ev_fit hfit hs) hcs
      refine ⟨w.alloc (.cells (s.den ρ ids).cells t), ?_, hf.alloc (fitsHp hfit) t cs _ (by rw [h2, hden cs h3]), rfl⟩
      unfold execOp
      simp only [ho, Instr.box, h1, Sem.run_bind, newVar, run_newRow, Result.andThen_ok, Sem.run_pure, SV.den, LV.den, idAt_last _ _ hlen]
    · cases h
  · split at h
    · split at h
      · split at h <;> cases h
      · cases h
    · cases h
  · rename_i t len ps ho
    split at h
    · rename_i e _ _ vs hi hvs
      split at h
      · rename_i sz z hsz hz
        split at h
        · rename_i hb0
          have hb : z.length = sz ∧ 0 < sz ∧ len * sz ≤ 4096 := ⟨hb0.1, hb0.2.1, hb0.2.2.1⟩
          split at h
          · rename_i cs hfl
            cases h
            obtain ⟨_, _, _, _, hd⟩ := ti_ok hT hi
            have hu := und_slice hd
            unfold Tab.size at hsz
            obtain ⟨j, hj, rfl⟩ := Option.map_eq_some_iff.1 hsz
            have hs := run_size hT hj w
            obtain ⟨zv, h1, h2⟩ := zero_ok hT hz ρ ids w
            have h2l : zv.cells.size = j.size := by rw [← Array.length_toList, h2]; simp [cellsDen, hb.1]
            -- the zero cells, one behind the other
            have hzero : ((Array.range (len * j.size)).map fun q => (if len * j.size = 0 then #[] else zv.cells)[q % (if len * j.size = 0 then #[] else zv.cells).size]!).toList = cellsDen ρ ids (repL len z) := by
              apply List.ext_getElem?
              intro q
              simp only [Array.toList_map, Array.toList_range, List.getElem?_map, getElem_cellsDen]
              by_cases hq : q < len * j.size
              · have hne : ¬ len * j.size = 0 := by omega
                rw [List.getElem?_range hq, repL_get z (by omega) len q (by rw [hb.1]; exact hq), if_neg hne, h2l, hb.1]
                have hlt : q % j.size < j.size := Nat.mod_lt _ hb.2.1
                have e1 : zv.cells[q % j.size]! = (cellsDen ρ ids z)[q % j.size]?.getD default := by
                  rw [← h2]; simp only [getElem!_def, Array.getElem?_toList]; cases zv.cells[q % j.size]? <;> rfl
                simp only [Option.map_some, e1, getElem_cellsDen]
                rw [List.getElem?_eq_getElem (by rw [hb.1]; exact hlt)]
                rfl
              · rw [List.getElem?_eq_none (by simp; omega), List.getElem?_eq_none (by rw [repL_len, hb.1]; omega)]
                rfl
            obtain ⟨R, hR1, hR2⟩ := fill_ok (ids := ids) hf.cnt _ _ _ _ hfl _ hzero
            have hev := evAll_ok ha hvs
            have hfitR : cs.all (LV.fits st.c st.hp.length) = true := by
              have hzf := zero_fits hT hz st.c st.hp.length
              have hrep : (repL len z).all (LV.fits st.c st.hp.length) = true := by
                clear hzero hR1 hfl
                generalize len = n
                induction n with
                | zero => rfl
                | succ n ih => simp only [repL, List.all_append, hzf, ih, Bool.and_self]
              have hvf : ∀ p, p ∈ vs → p.2.fits st.c st.hp.length = true := by
                clear hR1 hfl hev
                generalize ps.toList = l at hvs
                induction l generalizing vs with
                | nil => simp only [evAll, Option.some.injEq] at hvs; subst hvs; simp
                | cons p l ih =>
                  obtain ⟨q, x⟩ := p
                  simp only [evAll] at hvs
                  split at hvs
                  · rename_i s1 us g1 g2
                    cases hvs
                    intro p hp
                    rcases List.mem_cons.1 hp with rfl | hp
                    · exact ev_fit hfit g1
                    · exact ih _ g2 p hp
                  · cases hvs
              clear hR1 hzero hev hvs
              generalize repL len z = base at *
              induction vs generalizing base with
              | nil => simp only [fillS, Option.some.injEq] at hfl; subst hfl; exact hrep
              | cons p vs ih =>
                obtain ⟨q, s1⟩ := p
                simp only [fillS] at hfl
                split at hfl
                · rename_i off size xs g1 g2
                  split at hfl
                  · refine ih (fun p hp => hvf p (by simp [hp])) _ hfl ?_
                    have := cells_fits (hvf (q, s1) (by simp)) g2
                    simp only [List.all_eq_true] at *
                    intro u hu
                    unfold splice at hu
                    simp only [List.mem_append] at hu
                    rcases hu with (hu | hu) | hu
                    · exact hrep u (List.mem_of_mem_take hu)
                    · exact this u hu
                    · exact hrep u (List.mem_of_mem_drop hu)
                  · cases hfl
                · cases hfl
            refine ⟨w.alloc (.cells R e), ?_, hf.alloc (fitsHp hfit) e cs R (by rw [hR2, hden cs hfitR]), rfl⟩
            have hbig : ¬ (len * j.size > 2 ^ 24) := by have := hb.2.2; omega
            unfold execOp
            simp only [ho]
            have hmap : (ps.map fun x => (x.1, a.eval x.2)).toList = vs.map fun p => (p.1, p.2.den ρ ids) := by simpa using hev
            have key : (Instr.buildSlice t len (ps.map fun x => (x.1, a.eval x.2))).run C.P w = .ok (.slice (some ⟨w.heap.size, 0, none⟩) len len) (w.alloc (.cells R e)) := by
              unfold Instr.buildSlice
              simp only [Sem.run_bind, run_underlying hu, Result.andThen_ok, hs, Sem.run_ite, if_neg hbig]
              by_cases h0 : len * j.size = 0
              · simp only [h0, if_true] at hR1
                simp only [h0, if_true, Sem.run_pure, Result.andThen_ok, hmap, hR1, Sem.run_bind, run_newRow]
              · simp only [h0, if_false] at hR1
                simp only [h0, if_false, Sem.run_pure, Result.andThen_ok, hmap, hR1, Sem.run_bind, h1, run_newRow]
            rw [Sem.run_bind]
            erw [key]
            simp only [Result.andThen_ok, Sem.run_pure, SV.den, LV.den, idAt_last _ _ hlen]
          · cases h
        · cases h
      · cases h
    · cases h
  · cases h
end
end Go.Eng

namespace Go.Eng
set_option linter.unusedVariables false
set_option linter.unusedSimpArgs false

section
variable {C : Cfg} {T : Tab} {st : St} {ρ : Env} {ids : List Nat} {hx : HX} {w : World} {a : Act}
theorem Facts.set {m : Mem} (hf : Facts C m ρ ids hx w) {n ty : Nat} {cs : List LV} (hn : m.hp[n]? = some (ty, cs)) (cs' : List LV) (us : Array Value) (hu : us.toList = cellsDen ρ ids cs') :
    Facts C ⟨m.hp.set n (ty, cs'), m.c⟩ ρ ids hx (w.setRow (idAt ids n) us) := by
  have hlt : n < m.hp.length := by
    rcases Nat.lt_or_ge n m.hp.length with q | q
    · exact q
    · rw [List.getElem?_eq_none q] at hn; cases hn
  have hmem := idAt_mem (ids := ids) (n := n) (hf.len ▸ hlt)
  have hb := hf.blk n ty cs hn
  refine ⟨by simp [hf.len], hf.nod, ?_, hf.own, ?_, ?_, ?_, hf.cnt⟩
  · intro k t2 cs2 hk
    rw [List.getElem?_set] at hk
    split at hk
    · rename_i e
      subst e
      simp only [Option.some.injEq, Prod.mk.injEq] at hk
      obtain ⟨rfl, rfl⟩ := hk
      rw [setRow_heap w _ _ _ _ _ hb]
      congr 2
      apply Array.toList_inj.1
      rw [hu]
    · rename_i e
      have hk2 : k < m.hp.length := by
        rcases Nat.lt_or_ge k m.hp.length with q | q
        · exact q
        · rw [List.getElem?_eq_none q] at hk; cases hk
      rw [setRow_other]
      · exact hf.blk k t2 cs2 hk
      · intro h; exact e (idAt_inj hf.nod (hf.len ▸ hk2) (hf.len ▸ hlt) h).symm
  · refine ⟨hf.chg.os, hf.chg.tape, hf.chg.output, by simpa using hf.chg.size, fun k hk hM => ?_⟩
    rw [setRow_other w _ k us (fun e => ?_)]
    · exact hf.chg.block k hk hM
    · rcases hf.own _ hmem with h | h
      · omega
      · exact hM (e ▸ h)
  · exact hx.loc w _ hf.x fun b hb2 => setRow_other w _ b us fun e => (hf.sep b hb2).2 (e ▸ hmem)
  · intro b hb2
    obtain ⟨h1, h2⟩ := hf.sep b hb2
    exact ⟨by simpa using h1, h2⟩
theorem one_cell {c : Cnt} (he : EnvOk ρ c) {m : Nat} {l : LV} (h : l.isOne = true) (hfit : l.fits c m = true) : (l.den ρ ids).oneCell' = true := by
  cases l with
  | val i =>
    have hc := he.cnt
    have hi : i < ρ.v.length := by
      have := blt_lt (show Nat.blt i c.v = true from hfit)
      rw [← hc] at this; exact this
    have : ρ.v.getD i undef ∈ ρ.v := by simp [List.getD, hi]
    exact he.one _ this
  | cst v => cases v <;> first | rfl | (cases h; done)
  | _ => rfl
theorem skip_ok (hT : TabOk C.P T) (ha : ActOk st ρ ids a) (hf : Facts C st.mem ρ ids hx w) {o : Oper} {st' : St} (h : heapS T o st = .skip st') :
    ∃ w', (execOp a.eval o).run C.P w = .ok .skip w' ∧ Facts C st'.mem ρ ids hx w' ∧ st'.fr = st.fr := by
  unfold heapS at h
  split at h
  · split at h
    · split at h <;> cases h
    · cases h
  · split at h <;> cases h
  · split at h <;> cases h
  · rename_i t x v ho
    split at h
    · rename_i n off xs sz hx1 hx2 hsz
      split at h
      · rename_i ty cs hn
        split at h
        · rename_i hb
          cases h
          obtain ⟨s, hs, hcs⟩ := Option.bind_eq_some_iff.1 hx2
          have h1 := ev_ok ha (evL_ev hx1)
          have h2 := ev_ok ha hs
          have h3 := cells_den (ids := ids) hf.cnt hcs
          unfold Tab.size at hsz
          obtain ⟨j, hj, rfl⟩ := Option.map_eq_some_iff.1 hsz
          have hsize := run_size hT hj w
          have hb0 := hf.blk n ty cs hn
          have hone : ∀ u, u ∈ cellsDen ρ ids xs → u.oneCell' = true := by
            intro u hu
            obtain ⟨l, hl, rfl⟩ := List.mem_map.1 hu
            have := List.all_eq_true.1 hb.2.2 l hl
            simp only [Bool.and_eq_true] at this
            exact one_cell hf.cnt this.1 this.2
          obtain ⟨us, hus, hst⟩ : ∃ us : Array Value, us.toList = cellsDen ρ ids (splice cs off xs) ∧ (storeCells ⟨idAt ids n, off, none⟩ (cellsDen ρ ids xs) 0).run C.P w = .ok () (w.setRow (idAt ids n) us) :=
            ⟨_, by simp [splice, cellsDen, List.map_take, List.map_drop], run_storeCells_at (P := C.P) (idAt ids n) off ty (cellsDen ρ ids xs) 0 _ w hb0 (by simp [cellsDen]; omega) hone⟩
          refine ⟨w.setRow (idAt ids n) us, ?_, hf.set hn (splice cs off xs) us hus, rfl⟩
          · have hsz2 : (s.den ρ ids).cells.size = j.size := by rw [cells_size hf.cnt hcs]; exact hb.1
            have h1' : a.eval x = .pointer (some ⟨idAt ids n, off, none⟩) := h1
            generalize s.den ρ ids = u at *
            unfold execOp
            simp only [ho, Instr.storeAt, h1', h2, Instr.sureAddr, Sem.run_bind, Sem.run_pure, Result.andThen_ok, storeVar, hsize, hsz2, ne_eq, not_true_eq_false, if_false, h3]
            rw [hst]; rfl
        · cases h
      · cases h
    · cases h
  · split at h
    · split at h
      · split at h
        · split at h <;> cases h
        · cases h
      · cases h
    · cases h
  · cases h

theorem mkKs_fr (st : St) (n : Nat) : (touchOne st n).fr = st.fr := by
  unfold touchOne; split <;> rfl
theorem touchAll_fr : ∀ (l : List Nat) (st : St), (touchAll st l).fr = st.fr
  | [], _ => rfl
  | n :: r, st => by rw [touchAll, touchAll_fr r, mkKs_fr]
theorem RC_mk_fr (st : St) (r : RC) : (r.mk st).2.fr = st.fr := by cases r <;> rfl
theorem mkRCs_fr : ∀ (rs : List RC) (st : St), (mkRCs st rs).2.fr = st.fr
  | [], _ => rfl
  | r :: rs, st => by
    simp only [mkRCs]
    rw [mkRCs_fr rs, RC_mk_fr]
theorem RPat_mk_fr (st : St) (p : RPat) : (RPat.mk st p).2.fr = st.fr := by
  cases p with
  | one r => exact RC_mk_fr st r
  | tup rs => exact mkRCs_fr rs st
  | nxt rs => exact mkRCs_fr rs _
theorem effCall_ok {ty g g' : Nat} {args args' : List SV} {r : SV} {st' : St} (h : effCall T ty st g' args' = .call g args r st') : st'.fr = st.fr ∧ st.fits = true ∧ g = g' ∧ args = args' ∧ g ∈ T.fns := by
  unfold effCall at h
  split at h
  · rename_i hc
    simp only [Bool.and_eq_true] at hc
    cases h
    exact ⟨by rw [RPat_mk_fr, touchAll_fr], hc.2, rfl, rfl, by simpa using hc.1⟩
  · cases h
theorem effLd_kind {t : Nat} {l : LV} {e : ERes} (h : effLd T t st l = e) : e = .no ∨ ∃ cs r st', e = .ld l t cs r st' := by
  unfold effLd at h
  subst h
  repeat' split
  all_goals first
    | exact .inl rfl
    | exact .inr ⟨_, _, _, rfl⟩
theorem effCall_kind {ty g : Nat} {args : List SV} {e : ERes} (h : effCall T ty st g args = e) : e = .no ∨ ∃ r st', e = .call g args r st' := by
  unfold effCall at h
  subst h
  split
  · exact .inr ⟨_, _, rfl⟩
  · exact .inl rfl
theorem eff_call (hT : TabOk C.P T) (ha : ActOk st ρ ids a) {o : Oper} {g : Nat} {args : List SV} {r : SV} {st' : St} (h : effS T o st = .call g args r st') :
    st'.fr = st.fr ∧ st.fits = true ∧ (execOp a.eval o).run C.P w = .ok (.enter g (args.map (SV.den ρ ids)).toArray) w := by
  unfold effS at h
  split at h
  · split at h <;> cases h
  · split at h
    · split at h <;> cases h
    · split at h
      · rename_i c ho
        split at h
        · rename_i g' args' hg
          obtain ⟨h1, hfit, rfl, rfl, hfn⟩ := effCall_ok h
          refine ⟨h1, hfit, ?_⟩
          unfold fnArgs at hg
          split at hg
          · rename_i f hcal
            split at hg
            · rename_i g2 caps av h1 h2
              cases hg
              have e1 := ev_ok ha (evL_ev h1)
              have e2 := evList_ok ha h2
              have hok := hT.fns g hfn
              unfold fnOk at hok
              split at hok
              · rename_i fn hfun
                simp only [Bool.and_eq_true, bne_iff_ne, ne_eq] at hok
                have hnm : (fn.name == "runtime.NumGoroutine") = false := by simpa using hok.2
                have hbn : fn.body.isNone = false := by cases hh : fn.body <;> simp_all
                have hargs : c.args.map a.eval = (av.map (SV.den ρ ids)).toArray := by
                  apply Array.toList_inj.1; simpa using e2
                unfold execOp
                simp only [ho, resolve, hcal, e1, SV.den, LV.den, Deferred.ofValue, hargs]
                simp only [Sem.run_bind, Sem.run_pure, Result.andThen_ok, invoke, callFunc, run_program, hfun, hnm, hbn, Bool.false_eq_true, if_false]
                simp [SV.den, LV.den]
              · cases hok
            · cases hg
          · cases hg
        · cases h
      · split at h
        · rcases effLd_kind h with h | ⟨_, _, _, h⟩ <;> cases h
        · rcases effLd_kind h with h | ⟨_, _, _, h⟩ <;> cases h
        · cases h
      · cases h
theorem effLd_ok {t : Nat} {l l2 : LV} {t2 : Nat} {cs : List LV} {r : SV} {st' : St} (h : effLd T t2 st l2 = .ld l t cs r st') :
    l = l2 ∧ t = t2 ∧ st'.fr = st.fr ∧ st'.hp = st.hp ∧ st.fits = true ∧
    (∃ i, T.ti t = some i ∧ ((i.d.isAgg = true ∧ r = .agg cs ∧ cs.length = i.size) ∨ (i.d.isAgg = false ∧ (match i.d with | .bad => false | _ => true) = true ∧ ∃ u, cs = [u] ∧ r = .lf u))) := by
  unfold effLd at h
  split at h
  · cases h
  · rename_i i hnb hi
    split at h
    · rename_i hfit
      split at h
      · rename_i hag
        split at h
        · rename_i z hz
          split at h
          · rename_i hzl
            cases h
            refine ⟨rfl, rfl, rfl, rfl, hfit, i, hi, .inl ⟨hag, rfl, ?_⟩⟩
            have : ∀ (ks : List K) (c : Cnt), (mkKs c ks).1.length = ks.length := by
              intro ks
              induction ks with
              | nil => intro c; rfl
              | cons k ks ih => intro c; simp [mkKs, ih]
            rw [this]; simpa using hzl
          · cases h
        · cases h
      · rename_i hag
        split at h
        · cases h
          refine ⟨rfl, rfl, rfl, rfl, hfit, i, hi, .inr ⟨by simpa using hag, ?_, _, rfl, rfl⟩⟩
          obtain ⟨d, sz, z⟩ := i
          cases d <;> first | rfl | (exact absurd rfl (hnb _ _))
        · cases h
    · cases h
  · cases h
theorem eff_ld (hT : TabOk C.P T) {o : Oper} {l : LV} {t : Nat} {cs : List LV} {r : SV} {st' : St} (h : effS T o st = .ld l t cs r st') :
    st'.fr = st.fr ∧ st'.hp = st.hp ∧ st.fits = true ∧ (∃ x, o.op = .load t x ∧ st.evL x = some l) ∧
    (∃ i, T.ti t = some i ∧ ((i.d.isAgg = true ∧ r = .agg cs ∧ cs.length = i.size) ∨ (i.d.isAgg = false ∧ (match i.d with | .bad => false | _ => true) = true ∧ ∃ u, cs = [u] ∧ r = .lf u))) := by
  unfold effS at h
  split at h
  · split at h <;> cases h
  · split at h
    · split at h <;> cases h
    · split at h
      · split at h
        · rcases effCall_kind h with h | ⟨_, _, h⟩ <;> cases h
        · cases h
      · rename_i t' x ho
        split at h
        · rename_i a1 e1 sz1 off1 hl
          obtain ⟨rfl, rfl, h1, h2, h3, h4⟩ := effLd_ok h
          exact ⟨h1, h2, h3, ⟨x, ho, hl⟩, h4⟩
        · rename_i a1 e1 sz1 off1 hl
          obtain ⟨rfl, rfl, h1, h2, h3, h4⟩ := effLd_ok h
          exact ⟨h1, h2, h3, ⟨x, ho, hl⟩, h4⟩
        · cases h
      · cases h
theorem touchSt_fr (st : St) (op : Op) : (touchSt st op).fr = st.fr := by
  unfold touchSt
  split
  · split
    · unfold touchOne; split <;> rfl
    · rfl
  · rfl
theorem eff_gen {o : Oper} {r : Option SV} {st' : St} (h : effS T o st = .gen r st') : st'.fr = st.fr ∧ st.fits = true ∧ operandsOk st o = true := by
  unfold effS at h
  split at h
  · split at h
    · rename_i hc
      simp only [Bool.and_eq_true] at hc
      cases h
      exact ⟨RPat_mk_fr _ _, hc.2, hc.1⟩
    · cases h
  · split at h
    · split at h
      · rename_i hc
        simp only [Bool.and_eq_true] at hc
        cases h
        exact ⟨touchSt_fr _ _, hc.2, hc.1⟩
      · cases h
    · split at h
      · split at h
        · rcases effCall_kind h with h | ⟨_, _, h⟩ <;> cases h
        · cases h
      · split at h
        · rcases effLd_kind h with h | ⟨_, _, _, h⟩ <;> cases h
        · rcases effLd_kind h with h | ⟨_, _, _, h⟩ <;> cases h
        · cases h
      · cases h
theorem gen_exec (ha : ActOk st ρ ids a) {o : Oper} (h : operandsOk st o = true) (hs : ∀ cs b, o.op ≠ .select cs b) : execOp a.eval o = execOp (envOf ρ ids (opEnv st o.op.operands.toList)) ⟨none, o.op, o.type, "", #[], none⟩ := by
  have h1 : execOp a.eval o = execOp a.eval ⟨none, o.op, o.type, "", #[], none⟩ := rfl
  rw [h1]
  refine execOp_congr _ hs fun x hx => ?_
  have hx' : x ∈ o.op.operands.toList := by simpa using hx
  unfold operandsOk at h
  have h2 := List.all_eq_true.1 h x hx'
  obtain ⟨s, hs2⟩ := Option.isSome_iff_exists.1 h2
  cases x with
  | tmp t =>
    rw [ev_ok ha hs2]
    simp only [envOf]
    have key : ∀ l : List Operand, Operand.tmp t ∈ l → lkup t (opEnv st l) = some s := by
      intro l
      induction l with
      | nil => intro hm; cases hm
      | cons y l ih =>
        intro hm
        cases y with
        | tmp u =>
          simp only [opEnv]
          by_cases hu : u = t
          · subst hu
            simp only [St.ev] at hs2
            rw [hs2]
            simp [lkup]
          · have hm' : Operand.tmp t ∈ l := by
              rcases List.mem_cons.1 hm with h | h
              · cases h; exact absurd rfl hu
              · exact h
            split
            · simp only [lkup, if_neg hu]; exact ih hm'
            · exact ih hm'
        | const v => exact ih (by rcases List.mem_cons.1 hm with h | h; cases h; exact h)
        | global g => exact ih (by rcases List.mem_cons.1 hm with h | h; cases h; exact h)
        | func f => exact ih (by rcases List.mem_cons.1 hm with h | h; cases h; exact h)
    rw [key _ hx']
  | const v => rfl
  | global g => rfl
  | func f => rfl
end
end Go.Eng
