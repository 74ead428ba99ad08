/- Part 9 of the texts of a proof about the given program: what the statement's proof needs of them. -/
import Derived.Deep.Quiet
import Derived.Test.YtbedoemdjlollaaKJudgeMerges8
namespace Go.Eng
set_option linter.unusedVariables false
set_option linter.unusedSimpArgs false

section
variable {C : Cfg} {T : Tab}

structure Sit (C : Cfg) (st : St) (ρ : Env) (ids : List Nat) (hx : HX) (a : Act) (w : World) : Prop where
  facts : Facts C st.mem ρ ids hx w
  act : ActOk st ρ ids a
theorem Facts.cells_at {m : Mem} {ρ : Env} {ids : List Nat} {hx : HX} {w w' : World} (hf : Facts C m ρ ids hx w) (h : w'.heap = w.heap) (h2 : w'.os = w.os) (h3 : w'.tape = w.tape) (h4 : w'.output = w.output) : Facts C m ρ ids hx w' :=
  ⟨hf.len, hf.nod, fun n ty cs hn => by rw [h]; exact hf.blk n ty cs hn, hf.own,
    ⟨h2.trans hf.chg.os, h3.trans hf.chg.tape, h4.trans hf.chg.output, by rw [h]; exact hf.chg.size, fun k hk hm => by rw [h]; exact hf.chg.block k hk hm⟩,
    hx.loc w w' hf.x (fun b _ => by rw [h]), fun b hb => by rw [h]; exact hf.sep b hb, hf.cnt⟩
theorem load_ld (hT : TabOk C.P T) {st : St} {ρ ρ' : Env} {ids : List Nat} {a : Act} {w : World} (ha : ActOk st ρ ids a) {o : Oper} {l : LV} {t : Nat} {cs : List LV} {r : SV} {x : Operand} (ho : o.op = .load t x) (hx : st.evL x = some l) {N : Nat → Prop}
    (hi : ∃ i, T.ti t = some i ∧ ((i.d.isAgg = true ∧ r = .agg cs ∧ cs.length = i.size) ∨ (i.d.isAgg = false ∧ (match i.d with | .bad => false | _ => true) = true ∧ ∃ u, cs = [u] ∧ r = .lf u)))
    {ids' : List Nat} (hc : CellsAt w (l.den ρ ids) (cellsDen ρ' ids' cs) N) : (execOp a.eval o).run C.P w = .ok (.value (r.den ρ' ids')) w := by
  obtain ⟨ad, had, _, hcell⟩ := hc
  obtain ⟨i, hi, hk⟩ := hi
  have h1 := ev_ok ha (evL_ev hx)
  have h1' : a.eval x = .pointer (some ad) := by rw [h1]; exact had
  unfold execOp
  simp only [ho, Instr.loadAt, h1', Instr.sureAddr, Sem.run_bind, Sem.run_pure, Result.andThen_ok]
  have key : (loadVar t ad).run C.P w = .ok (r.den ρ' ids') w := by
    rcases hk with ⟨hag, rfl, hl⟩ | ⟨hag, hb, u, rfl, rfl⟩
    · have hbad : (match i.d with | .bad => false | _ => true) = true := by cases hh : i.d <;> simp_all [TD.isAgg]
      have := run_loadCells_list (P := C.P) w ad (cellsDen ρ' ids' cs) hcell
      have hlen : (cellsDen ρ' ids' cs).length = i.size := by simp [cellsDen, hl]
      rw [hlen] at this
      simp only [loadVar, Sem.run_bind, run_isAgg hT hi hbad, Result.andThen_ok, hag, if_true, run_size hT hi, this, Sem.run_pure, SV.den]
    · have := hcell 0 (u.den ρ' ids') rfl
      simp only [loadVar, Sem.run_bind, run_isAgg hT hi hb, Result.andThen_ok, hag, Bool.false_eq_true, if_false, run_load]
      have e : ad.add 0 = ad := rfl
      rw [e] at this
      rw [this]; rfl
  rw [key]; rfl
theorem upon_gen {P : Program} {o : Oper} {a : Act} {w : World} {K : Act → World → Prop} {Q : Exit → Act → World → Prop} {G : Option Value → World → Prop} {ρf : Operand → Value}
    (he : execOp a.eval o = execOp ρf ⟨none, o.op, o.type, "", #[], none⟩) (h : GenRun P o.op o.type ρf w G) (hK : ∀ r w', G r w' → K (a.put o.dst (r.getD undef)) w') : o.wp P a w K Q := by
  unfold Oper.wp GenRun at *
  rw [he]
  split at h
  · rename_i v w' hr; rw [hr]; exact hK _ _ h
  · rename_i w' hr; rw [hr]; exact hK _ _ h
  · exact h.elim
theorem gen_nosel {st : St} {o : Oper} {r : Option SV} {st' : St} (h : effS T o st = .gen r st') : ∀ cs b, o.op ≠ .select cs b := by
  intro cs b e
  unfold effS at h
  rw [e] at h
  simp [genVal, genSkip, genExt] at h
theorem hpEq_sit {st st' : St} {ρ : Env} {ids : List Nat} {hx : HX} {a : Act} {w : World} (h : Sit C st ρ ids hx a w) (d : Option Nat) (v : SV) : Sit C (st.put d v) ρ ids hx (a.put d (v.den ρ ids)) w :=
  ⟨by cases d <;> exact h.facts, h.act.put d v⟩
theorem put_hp (st : St) (d : Option Nat) (v : SV) : (st.put d v).hp = st.hp := by cases d <;> rfl
theorem upon_value {P : Program} {o : Oper} {a : Act} {w w' : World} {K : Act → World → Prop} {Q : Exit → Act → World → Prop} {v : Value} (h : (execOp a.eval o).run P w = .ok (.value v) w') (hK : K (a.put o.dst v) w') : o.wp P a w K Q := by
  unfold Oper.wp; rw [h]; exact hK
theorem upon_skip {P : Program} {o : Oper} {a : Act} {w w' : World} {K : Act → World → Prop} {Q : Exit → Act → World → Prop} (h : (execOp a.eval o).run P w = .ok .skip w') (hK : K (a.put o.dst undef) w') : o.wp P a w K Q := by
  unfold Oper.wp; rw [h]; exact hK
theorem Env.add_add (ρ : Env) (x y : Vals) : ∃ z, (ρ.add x).add y = ρ.add z := ⟨⟨x.i ++ y.i, x.b ++ y.b, x.v ++ y.v, x.n ++ y.n, x.a ++ y.a⟩, by simp [Env.add]⟩

theorem Facts.envUp {st st' : St} {ρ : Env} {vs : Vals} {ids : List Nat} {hx : HX} {w : World} (hf : Facts C st.mem ρ ids hx w) (hhp : st'.hp = st.hp) (hfit : st.fits = true) (hcnt : EnvOk (ρ.add vs) st'.mem.c) : Facts C st'.mem (ρ.add vs) ids hx w :=
  ⟨by rw [hf.len]; simp only [St.mem, hhp], hf.nod, fun n ty cs hn => by
    simp only [St.mem, hhp] at hn
    rw [cellsDen_add hf.cnt.cnt (List.prefix_refl _) hf.len (fits_hp hfit hn)]
    exact hf.blk n ty cs hn, hf.own, hf.chg, hf.x, hf.sep, hcnt⟩
theorem cells_base {M : Nat → Prop} {W w : World} (hc : Chg M W w) {v : Value} {us : List Value} (h : CellsAt W v us M) : CellsAt w v us M := by
  obtain ⟨ad, h1, h2, h3⟩ := h
  refine ⟨ad, h1, h2, fun j u hu => ?_⟩
  have h4 := h3 j u hu
  have hb : (ad.add j).block = ad.block := by unfold Addr.add; split <;> rfl
  rw [World.cell?_of_block (w := W)]
  · exact h4
  · rw [hb]; exact hc.block _ (hb ▸ World.block_lt_of_cell? W _ h4) h2

theorem step_ok (hT : TabOk C.P T) {o : Oper} {st : St} {chk : List (Nat × List LV) → Bool} {br : BE → Tree} {next : St → Tree} {i : Nat} {ρ : Env} {pre ids : List Nat} {hx : HX} {L : Stack} {a : Act} {w : World}
    (h : (stepT T o st chk br next i).holds C ρ pre hx L) (hp : pre <+: ids) (hs : Sit C st ρ ids hx a w) (hnb : ∀ b, pureS T o st ≠ .br b) {K : Act → World → Prop} {Q : Exit → Act → World → Prop}
    (hK : ∀ st' ρ' pre' ids' hx' a' w', (next st').holds C ρ' pre' hx' L → pre' <+: ids' → Sit C st' ρ' ids' hx' a' w' → ids <+: ids' → (∃ x, ρ' = ρ.add x) → (st'.hp = st.hp ∨ chk st'.hp = true) → K a' w') : o.wp C.P a w K Q := by
  have hpure : ∀ v, (pureS T o st).gives ρ v → (next (st.put o.dst v)).holds C ρ pre hx L → o.wp C.P a w K Q := fun v hv hh =>
    upon_value (pure_ok hT hs.act hs.facts.cnt hv w) (hK _ ρ pre ids hx _ _ hh hp (hpEq_sit (st' := st) hs _ _) (List.prefix_refl _) ⟨Vals.nil, (Env.add_nil ρ).symm⟩ (.inl (put_hp _ _ _)))
  unfold stepT at h
  split at h
  · rename_i v hv; exact hpure v (by rw [hv]; rfl) h
  · rename_i p v hv; exact hpure v (by rw [hv]; exact ⟨rfl, h.1⟩) (h.2 h.1)
  · rename_i b hv; exact absurd hv (hnb b)
  · split at h
    · rename_i v hv
      obtain ⟨t, x, n, off, ho, hxx, hl⟩ := heap_val hT hs.act hv
      obtain ⟨ty, cs, hn⟩ := loadS_hp hl
      have hr := load_run (C := C) (w := w) hT hs.act ho hxx hl hn (hs.facts.blk n ty cs hn)
      exact upon_value hr (hK _ ρ pre ids hx _ _ h hp (hpEq_sit (st' := st) hs _ _) (List.prefix_refl _) ⟨Vals.nil, (Env.add_nil ρ).symm⟩ (.inl (put_hp _ _ _)))
    · rename_i v st' hv
      split at h
      · rename_i hc
        simp only [Bool.and_eq_true] at hc
        obtain ⟨w', hr, hf', hfr⟩ := new_ok hT hs.act hs.facts hc.1 hv
        have hpre : ids <+: ids ++ [w.heap.size] := List.prefix_append _ _
        have hact : ActOk st' ρ (ids ++ [w.heap.size]) a := by
          have := (hs.act.add (x := Vals.nil) hs.facts.cnt.cnt hpre hs.facts.len hc.1).hp hfr
          rwa [Env.add_nil] at this
        refine upon_value hr (hK _ ρ pre _ hx _ _ h (hp.trans hpre) (hpEq_sit (st' := st) ⟨hf', hact⟩ _ _) hpre ⟨Vals.nil, (Env.add_nil ρ).symm⟩ (.inr ?_))
        rw [put_hp]; exact hc.2
      · exact h.elim
    · rename_i st' hv
      split at h
      · rename_i hc
        obtain ⟨w', hr, hf', hfr⟩ := skip_ok hT hs.act hs.facts hv
        refine upon_skip hr (hK _ ρ pre ids hx _ _ h hp (hpEq_sit (st' := st) ⟨hf', hs.act.hp hfr⟩ o.dst (.tup [])) (List.prefix_refl _) ⟨Vals.nil, (Env.add_nil ρ).symm⟩ (.inr ?_))
        rw [put_hp]; exact hc
      · exact h.elim
    · split at h
      · rename_i g args v st' hv
        split at h
        · rename_i hc
          obtain ⟨hfr, hfit, hr⟩ := eff_call (C := C) (ρ := ρ) (ids := ids) (w := w) hT hs.act hv
          unfold Oper.wp
          rw [hr]
          simp only [Oper.upon]
          refine (h ids w hp hs.facts).mono ?_
          rintro e w' ⟨vs, ids', hx', rfl, hi, hf', hh⟩
          refine hK _ (ρ.add vs) ids' ids' hx' _ _ hh (List.prefix_refl _) (hpEq_sit (st' := st) ⟨hf', (hs.act.add hs.facts.cnt.cnt hi hs.facts.len hfit).hp hfr⟩ o.dst v) hi ⟨vs, rfl⟩ (.inr ?_)
          rw [put_hp]; exact hc
        · exact h.elim
      · rename_i l t cs v st' hv
        obtain ⟨hfr, hhp, hfit, ⟨x, ho, hxx⟩, hi⟩ := eff_ld hT hv
        cases hcur : T.isCur l with
        | true =>
          rw [hcur] at h
          obtain ⟨vs, hcell, hcnt, hh⟩ := h ids w hp hs.facts
          have hr := load_ld hT hs.act ho hxx hi hcell
          have hf' := hs.facts.envUp hhp hfit hcnt
          exact upon_value hr (hK _ (ρ.add vs) ids ids hx _ _ hh (List.prefix_refl _) (hpEq_sit (st' := st) ⟨hf', (hs.act.add hs.facts.cnt.cnt (List.prefix_refl _) hs.facts.len hfit).hp hfr⟩ o.dst v) (List.prefix_refl _) ⟨vs, rfl⟩ (.inl (by rw [put_hp, hhp])))
        | false =>
          rw [hcur] at h
          obtain ⟨vs, hcell0, hcnt, hh⟩ := h
          have hcell := cells_base hs.facts.chg (hcell0 ids)
          have hr := load_ld hT hs.act ho hxx hi hcell
          have hf' := hs.facts.envUp hhp hfit hcnt
          exact upon_value hr (hK _ (ρ.add vs) pre ids hx _ _ hh hp (hpEq_sit (st' := st) ⟨hf', (hs.act.add hs.facts.cnt.cnt (List.prefix_refl _) hs.facts.len hfit).hp hfr⟩ o.dst v) (List.prefix_refl _) ⟨vs, rfl⟩ (.inl (by rw [put_hp, hhp])))
      · rename_i r st' hv
        split at h
        · rename_i hc
          obtain ⟨hfr, hfit, hop⟩ := eff_gen hv
          refine upon_gen (gen_exec hs.act hop (gen_nosel hv)) (h ids w hp hs.facts) ?_
          rintro res w' ⟨vs, ids', hx', rfl, hi, hf', hh⟩
          have e : (r.map (SV.den (ρ.add vs) ids')).getD undef = (r.getD (.tup [])).den (ρ.add vs) ids' := by cases r <;> rfl
          rw [e]
          refine hK _ (ρ.add vs) ids' ids' hx' _ _ hh (List.prefix_refl _) (hpEq_sit (st' := st) ⟨hf', (hs.act.add hs.facts.cnt.cnt hi hs.facts.len hfit).hp hfr⟩ o.dst _) hi ⟨vs, rfl⟩ (.inr ?_)
          rw [put_hp]; exact hc
        · exact h.elim
      · exact h.elim
theorem runOps_ok (hT : TabOk C.P T) {ρ0 : Env} {ids0 : List Nat} {k : St → Tree} {L : Stack} {Q : Exit → Act → World → Prop}
    (hK : ∀ st' ρ' pre' ids' hx' a' w', (k st').holds C ρ' pre' hx' L → pre' <+: ids' → Sit C st' ρ' ids' hx' a' w' → ids0 <+: ids' → (∃ x, ρ' = ρ0.add x) → Q .normal a' w') :
    ∀ (n : Nat) (ops : Array Oper) (rest : List Oper) (st : St) (ρ : Env) (pre ids : List Nat) (hx : HX) (a : Act) (w : World),
    (runOps T n ops rest st k).holds C ρ pre hx L → pre <+: ids → Sit C st ρ ids hx a w → ids0 <+: ids → (∃ x, ρ = ρ0.add x) → wpList C.P ops Q rest a w
  | 0, _, _, _, _, _, _, _, _, _, h, _, _, _, _ => by simp only [runOps] at h; exact h.elim
  | _ + 1, _, [], st, ρ, pre, ids, hx, a, w, h, hp, hs, hi, hρ => hK _ _ _ _ _ _ _ h hp hs hi hρ
  | n + 1, ops, o :: r, st, ρ, pre, ids, hx, a, w, h, hp, hs, hi, hρ => by
    have hbr : ∀ b : BE, (Tree.br b (runOps T n ops (o :: r) (st.assume b true) k) (runOps T n ops (o :: r) (st.assume b false) k)).holds C ρ pre hx L → wpList C.P ops Q (o :: r) a w := fun b hb => by
      cases hd : b.den ρ with
      | true => exact runOps_ok hT hK n ops (o :: r) (st.assume b true) ρ pre ids hx a w (hb.1 hd) hp ⟨hs.facts, hs.act.assume hd⟩ hi hρ
      | false => exact runOps_ok hT hK n ops (o :: r) (st.assume b false) ρ pre ids hx a w (hb.2 hd) hp ⟨hs.facts, hs.act.assume hd⟩ hi hρ
    simp only [runOps] at h
    split at h
    · rename_i hg
      have hw := gd_no hs.act hg
      unfold wpList
      rw [if_neg (by rw [hw]; simp)]
      exact runOps_ok hT hK n ops r _ ρ pre ids hx _ w h hp (hpEq_sit (st' := st) hs o.dst (.tup [])) hi hρ
    · exact hbr _ h
    · exact h.elim
    · rename_i hg
      have hw := gd_yes hs.act hg
      by_cases hb : ∃ b, pureS T o st = .br b
      · obtain ⟨b, hb⟩ := hb
        unfold stepT at h
        rw [hb] at h
        exact hbr b h
      · unfold wpList
        rw [if_pos hw]
        refine .inl (step_ok hT h hp hs (fun b e => hb ⟨b, e⟩) fun st' ρ' pre' ids' hx' a' w' hh hp' hs' hi' hρ' _ => ?_)
        refine runOps_ok hT hK n ops r st' ρ' pre' ids' hx' a' w' hh hp' hs' (hi.trans hi') ?_
        obtain ⟨x, rfl⟩ := hρ
        obtain ⟨y, rfl⟩ := hρ'
        exact Env.add_add ρ0 x y
end
structure Alike (w w' : World) : Prop where
  heap : w'.heap = w.heap
  os : w'.os = w.os
  tape : w'.tape = w.tape
  output : w'.output = w.output
theorem cells_alike {w w' : World} (h : Alike w w') {v : Value} {us : List Value} {N : Nat → Prop} (hc : CellsAt w v us N) : CellsAt w' v us N := by
  obtain ⟨ad, h1, h2, h3⟩ := hc
  exact ⟨ad, h1, h2, fun j u hu => by rw [World.cell?_of_block (w := w) (by rw [h.heap])]; exact h3 j u hu⟩
section
variable {C : Cfg} {T : Tab}
theorem quiet_val {P : Program} {o : Oper} {a : Act} {CW : World → Prop} {v : Value} {K : Act → Prop} (h : ∀ w, CW w → (execOp a.eval o).run P w = .ok (.value v) w) (hK : K (a.put o.dst v)) : o.quiet P a CW K :=
  ⟨v, fun w hw => by unfold Oper.quietAt; rw [h w hw]; exact ⟨rfl, rfl⟩, hK⟩
theorem runQ_ok (hT : TabOk C.P T) {ρ0 : Env} {ids0 : List Nat} {k : St → Tree} {L : Stack} {Q : Act → Prop} {w : World}
    (hK : ∀ st' ρ' pre' ids' hx' a', (k st').holds C ρ' pre' hx' L → pre' <+: ids' → Sit C st' ρ' ids' hx' a' w → ids0 <+: ids' → (∃ x, ρ' = ρ0.add x) → Q a') :
    ∀ (n : Nat) (ops : Array Oper) (rest : List Oper) (st : St) (ρ : Env) (pre ids : List Nat) (hx : HX) (a : Act),
    (runQ T n ops rest st k).holds C ρ pre hx L → pre <+: ids → Sit C st ρ ids hx a w → ids0 <+: ids → (∃ x, ρ = ρ0.add x) → wpQuiet C.P ops (Alike w) Q rest a
  | 0, _, _, _, _, _, _, _, _, h, _, _, _, _ => by simp only [runQ] at h; exact h.elim
  | _ + 1, _, [], st, ρ, pre, ids, hx, a, h, hp, hs, hi, hρ => hK _ _ _ _ _ _ h hp hs hi hρ
  | n + 1, ops, o :: r, st, ρ, pre, ids, hx, a, h, hp, hs, hi, hρ => by
    have hbr : ∀ b : BE, (Tree.br b (runQ T n ops (o :: r) (st.assume b true) k) (runQ T n ops (o :: r) (st.assume b false) k)).holds C ρ pre hx L → wpQuiet C.P ops (Alike w) Q (o :: r) a := fun b hb => by
      cases hd : b.den ρ with
      | true => exact runQ_ok hT hK n ops (o :: r) (st.assume b true) ρ pre ids hx a (hb.1 hd) hp ⟨hs.facts, hs.act.assume hd⟩ hi hρ
      | false => exact runQ_ok hT hK n ops (o :: r) (st.assume b false) ρ pre ids hx a (hb.2 hd) hp ⟨hs.facts, hs.act.assume hd⟩ hi hρ
    have hfw : ∀ {w'}, Alike w w' → Facts C st.mem ρ ids hx w' := fun e => hs.facts.cells_at e.heap e.os e.tape e.output
    simp only [runQ] at h
    split at h
    · rename_i hg
      have hw := gd_no hs.act hg
      unfold wpQuiet
      rw [if_neg (by rw [hw]; simp)]
      exact runQ_ok hT hK n ops r _ ρ pre ids hx _ h hp (hpEq_sit (st' := st) hs o.dst (.tup [])) hi hρ
    · exact hbr _ h
    · exact h.elim
    · rename_i hg
      have hw := gd_yes hs.act hg
      have hpure : ∀ v, (pureS T o st).gives ρ v → (runQ T n ops r (st.put o.dst v) k).holds C ρ pre hx L → wpQuiet C.P ops (Alike w) Q (o :: r) a := fun v hv hh => by
        unfold wpQuiet
        rw [if_pos hw]
        exact quiet_val (fun w' _ => pure_ok hT hs.act hs.facts.cnt hv w') (runQ_ok hT hK n ops r _ ρ pre ids hx _ hh hp (hpEq_sit (st' := st) hs _ _) hi hρ)
      split at h
      · rename_i v hv; exact hpure v (by rw [hv]; rfl) h
      · rename_i p v hv; exact hpure v (by rw [hv]; exact ⟨rfl, h.1⟩) (h.2 h.1)
      · rename_i b hv; exact hbr b h
      · split at h
        · rename_i v hv
          obtain ⟨t, x, m, off, ho, hxx, hl⟩ := heap_val hT hs.act hv
          obtain ⟨ty, cs, hn⟩ := loadS_hp hl
          unfold wpQuiet
          rw [if_pos hw]
          exact quiet_val (fun w' e => load_run (C := C) (w := w') hT hs.act ho hxx hl hn ((hfw e).blk m ty cs hn)) (runQ_ok hT hK n ops r _ ρ pre ids hx _ h hp (hpEq_sit (st' := st) hs _ _) hi hρ)
        · exact h.elim
        · exact h.elim
        · split at h
          · rename_i l t cs v st' hv
            obtain ⟨hfr, hhp, hfit, ⟨x, ho, hxx⟩, hti⟩ := eff_ld hT hv
            have go : ∀ (vs : Vals) (pre' : List Nat) {N : Nat → Prop}, CellsAt w (l.den ρ ids) (cellsDen (ρ.add vs) ids cs) N → EnvOk (ρ.add vs) st'.mem.c → pre' <+: ids → (runQ T n ops r (st'.put o.dst v) k).holds C (ρ.add vs) pre' hx L → wpQuiet C.P ops (Alike w) Q (o :: r) a := fun vs pre' N hcell hcnt hp' hh => by
              have hf' := hs.facts.envUp hhp hfit hcnt
              unfold wpQuiet
              rw [if_pos hw]
              refine quiet_val (fun w' e => load_ld hT hs.act ho hxx hti (cells_alike e hcell)) (runQ_ok hT hK n ops r _ (ρ.add vs) pre' ids hx _ hh hp' (hpEq_sit (st' := st') ⟨hf', (hs.act.add hs.facts.cnt.cnt (List.prefix_refl _) hs.facts.len hfit).hp hfr⟩ o.dst v) hi ?_)
              obtain ⟨x, rfl⟩ := hρ
              exact Env.add_add ρ0 x vs
            cases hcur : T.isCur l with
            | true =>
              rw [hcur] at h
              obtain ⟨vs, hcell, hcnt, hh⟩ := h ids w hp hs.facts
              exact go vs ids hcell hcnt (List.prefix_refl _) hh
            | false =>
              rw [hcur] at h
              obtain ⟨vs, hcell0, hcnt, hh⟩ := h
              exact go vs pre (cells_base hs.facts.chg (hcell0 ids)) hcnt hp hh
          · exact h.elim
theorem region_quiet (hT : TabOk C.P T) {id : Nat} {ops : Array Oper} {Q : Exit → Act → World → Prop} {a : Act} {w : World} (hB : Region.lexB .any ops = true)
    (h : wpQuiet C.P ops (Alike w) (fun a' => ∀ w', Alike w w' → Q .normal a' w') ops.toList a) : (Code.region id ops true).wp C.P Q a w :=
  wp_region_quiet (C := Alike w) hT.mixed hB ⟨rfl, rfl, rfl, rfl⟩ h
end
end Go.Eng

namespace Go.Eng
set_option linter.unusedVariables false
set_option linter.unusedSimpArgs false

section
variable {C : Cfg} {T : Tab}
def onlyNormal (Q : Exit → Act → World → Prop) : Exit → Act → World → Prop
  | .normal, a, w => Q .normal a w
  | _, _, _ => False
def Stay (wr : List Nat) (hp0 : List (Nat × List LV)) (ρ0 : Env) (ids0 : List Nat) (w : World) : Prop :=
  ∀ n ty cs, wr.contains n = false → hp0[n]? = some (ty, cs) → w.heap[idAt ids0 n]? = some (.cells (cellsDen ρ0 ids0 cs).toArray ty (0, 0))
def Kept (wr : List Nat) (hp0 hp : List (Nat × List LV)) : Prop :=
  ∀ n ty cs, wr.contains n = false → hp0[n]? = some (ty, cs) → ∃ cs', hp[n]? = some (ty, cs') ∧ ∀ ρ ids, cellsDen ρ ids cs = cellsDen ρ ids cs'
theorem kept_of_S (wr : List Nat) : ∀ (j : Nat) (h0 h : List (Nat × List LV)), keptS wr j h0 h = true → ∀ n ty cs, wr.contains (j + n) = false → h0[n]? = some (ty, cs) → ∃ cs', h[n]? = some (ty, cs') ∧ ∀ ρ ids, cellsDen ρ ids cs = cellsDen ρ ids cs'
  | j, [], h, _, n, ty, cs, _, hn => by simp at hn
  | j, x :: r, [], hk, _, _, _, _, _ => by simp [keptS] at hk
  | j, x :: r, p :: q, hk, n, ty, cs, hw, hn => by
    simp only [keptS, Bool.and_eq_true, Bool.or_eq_true] at hk
    cases n with
    | zero =>
      simp only [List.getElem?_cons_zero, Option.some.injEq] at hn
      subst hn
      simp only [Nat.add_zero] at hw
      rcases hk.1 with h | h
      · rw [hw] at h; cases h
      · simp only [beq_iff_eq] at h
        obtain ⟨p1, p2⟩ := p
        obtain ⟨h1, h2⟩ := h
        simp only at h1
        subst h1
        exact ⟨p2, rfl, fun ρ ids => sameL_den ρ ids h2⟩
    | succ n =>
      have := kept_of_S wr (j + 1) r q hk.2 n ty cs (by rw [show j + 1 + n = j + (n + 1) by omega]; exact hw) (by simpa using hn)
      simpa using this
theorem stay_of {st0 st : St} {wr : List Nat} {ρ0 ρ : Env} {ids0 ids : List Nat} {hx : HX} {w : World} (hf : Facts C st.mem ρ ids hx w) (hk : Kept wr st0.hp st.hp) (hfit : st0.fits = true) (hc : ρ0.cnt = st0.c) (hl : ids0.length = st0.hp.length)
    (hi : ids0 <+: ids) (hρ : ∃ x, ρ = ρ0.add x) : Stay wr st0.hp ρ0 ids0 w := fun n ty cs hw hn => by
  obtain ⟨cs', h1, h2⟩ := hk n ty cs hw hn
  obtain ⟨x, rfl⟩ := hρ
  have h3 := hf.blk n ty cs' h1
  rw [← h2] at h3
  have h4 := cellsDen_add (x := x) hc hi hl (fits_hp hfit hn)
  rw [h4] at h3
  have hlt : n < st0.hp.length := by
    rcases Nat.lt_or_ge n st0.hp.length with q | q
    · exact q
    · rw [List.getElem?_eq_none q] at hn; cases hn
  rw [idAt_pre hi (hl ▸ hlt)] at h3
  exact h3
def unl (l : Array Bool) : Nat := l.toList.countP (fun b => !b)
theorem unl_set {l : Array Bool} {i : Nat} (h : l.getD i true = false) : unl (l.setIfInBounds i true) + 1 = unl l := by
  have hi : i < l.size := by
    rcases Nat.lt_or_ge i l.size with q | q
    · exact q
    · simp [Array.getD, Nat.not_lt.2 q] at h
  have hv : l.toList[i]'(by simpa using hi) = false := by simpa [Array.getD, hi] using h
  unfold unl
  rw [Array.toList_setIfInBounds]
  have key : ∀ (l : List Bool) (i : Nat) (hi : i < l.length), l[i] = false → (l.set i true).countP (fun b => !b) + 1 = l.countP (fun b => !b) := by
    intro l
    induction l with
    | nil => intro i hi; simp at hi
    | cons b l ih =>
      intro i hi hb
      cases i with
      | zero => simp at hb; subst hb; simp
      | succ i =>
        simp only [List.getElem_cons_succ] at hb
        have := ih i (by simpa using hi) hb
        simp only [List.set_cons_succ, List.countP_cons]
        omega
  exact key l.toList i (by simpa using hi) hv
theorem firstQuiet_some {wr : List Nat} {st0 st : St} {ops : Array Oper} {listed : Array Bool} : ∀ {rs : List Nat} {i : Nat} {p : Option Need} {d : Option Nat} {v : SV}, firstQuiet T wr st0 ops listed st rs = some (i, p, d, v) →
    i ∈ rs ∧ ∃ o, ops[i]? = some o ∧ Region.free .any ops listed i = true ∧ d = o.dst ∧ ((p = none ∧ quietS T wr st0 ops o st = .val v) ∨ ∃ q, p = some q ∧ quietS T wr st0 ops o st = .need q v)
  | [], _, _, _, _, h => by simp [firstQuiet] at h
  | j :: r, i, p, d, v, h => by
    simp only [firstQuiet] at h
    split at h
    · cases h
    · rename_i o ho
      split at h
      · rename_i hfree
        split at h
        · rename_i u hu
          cases h
          exact ⟨by simp, o, ho, hfree, rfl, .inl ⟨rfl, hu⟩⟩
        · rename_i q u hu
          cases h
          exact ⟨by simp, o, ho, hfree, rfl, .inr ⟨q, rfl, hu⟩⟩
        · obtain ⟨h1, h2⟩ := firstQuiet_some h; exact ⟨by simp [h1], h2⟩
      · obtain ⟨h1, h2⟩ := firstQuiet_some h; exact ⟨by simp [h1], h2⟩
theorem parAll_holds : ∀ {l : List Tree} {ρ : Env} {pre : List Nat} {hx : HX} {L : Stack}, (parAll l).holds C ρ pre hx L → ∀ t, t ∈ l → t.holds C ρ pre hx L
  | [], _, _, _, _, h, _, _ => h.elim
  | [t], _, _, _, _, h, u, hu => by simp at hu; subst hu; exact h
  | t :: s :: r, _, _, _, _, h, u, hu => by
    rcases List.mem_cons.1 hu with rfl | hu
    · exact h.1
    · exact parAll_holds h.2 u hu
def QRes.gives (ρ : Env) : QRes → SV → Prop
  | .val v, u => v = u
  | .need p v, u => v = u ∧ p.den ρ
  | .no, _ => False
theorem quiet_yields (hT : TabOk C.P T) {wr : List Nat} {st0 st : St} {ops : Array Oper} {o : Oper} {v : SV} {ρ0 ρ : Env} {ids0 ids : List Nat} {a : Act} {hx : HX} {w : World} (hq : (quietS T wr st0 ops o st).gives ρ v) (hs : Sit C st ρ ids hx a w)
    (hfit : st0.fits = true) (hc : ρ0.cnt = st0.c) (hl : ids0.length = st0.hp.length) (hi : ids0 <+: ids) (hρ : ∃ x, ρ = ρ0.add x) : YieldsIf C.P ops (Stay wr st0.hp ρ0 ids0) o (v.den ρ ids) a := by
  unfold quietS at hq
  split at hq
  · rename_i hg
    cases hq
    exact .inr ⟨gd_no hs.act hg, rfl⟩
  · rename_i hg
    refine .inl ⟨gd_yes hs.act hg, fun w' hw' => ?_⟩
    split at hq
    · rename_i u hu
      exact pure_ok hT hs.act hs.facts.cnt (by rw [hu]; exact hq) w'
    · rename_i p u hu
      exact pure_ok hT hs.act hs.facts.cnt (by rw [hu]; exact hq) w'
    · exact hq.elim
    · split at hq
      · rename_i t x ho
        split at hq
        · rename_i n off hx
          split at hq
          · rename_i p q hp0 hp
            split at hq
            · rename_i hcond
              simp only [Bool.and_eq_true, Bool.not_eq_true', beq_iff_eq] at hcond
              split at hq
              · rename_i u hu
                cases hq
                obtain ⟨p1, p2⟩ := p
                obtain ⟨q1, q2⟩ := q
                obtain ⟨⟨hw1, hty⟩, hsame⟩ := hcond
                simp only at hty hsame
                subst hty
                refine load_run (C := C) hT hs.act ho hx hu hp ?_
                have h3 := hw' n _ _ hw1 hp0
                have hlt : n < st0.hp.length := by
                  rcases Nat.lt_or_ge n st0.hp.length with q | q
                  · exact q
                  · rw [List.getElem?_eq_none q] at hp0; cases hp0
                obtain ⟨x, rfl⟩ := hρ
                rw [idAt_pre hi (hl ▸ hlt), ← sameL_den _ _ hsame, cellsDen_add hc hi hl (fits_hp hfit hp0)]
                exact h3
              · exact hq.elim
            · exact hq.elim
          · exact hq.elim
        · exact hq.elim
      · exact hq.elim
  · exact hq.elim
theorem runD_ok (hT : TabOk C.P T) {wr : List Nat} {st0 : St} {ops : Array Oper} {k : St → Tree} {ρ0 : Env} {ids0 : List Nat} {L : Stack} {Q : Exit → Act → World → Prop} (hsel : Region.noSelect ops = true)
    (hfit : st0.fits = true) (hc : ρ0.cnt = st0.c) (hl : ids0.length = st0.hp.length)
    (hK : ∀ st' ρ' pre' ids' hx' a' w', (k st').holds C ρ' pre' hx' L → pre' <+: ids' → Sit C st' ρ' ids' hx' a' w' → ids0 <+: ids' → (∃ x, ρ' = ρ0.add x) → Q .normal a' w') :
    ∀ (n : Nat) (listed : Array Bool) (st : St) (ρ : Env) (pre ids : List Nat) (hx : HX) (a : Act) (w : World) (m : Nat),
    (runD T wr st0 ops n listed st k).holds C ρ pre hx L → pre <+: ids → Sit C st ρ ids hx a w → ids0 <+: ids → (∃ x, ρ = ρ0.add x) → Kept wr st0.hp st.hp → unl listed ≤ m →
    wpAnyH C.P .any ops (onlyNormal Q) (Stay wr st0.hp ρ0 ids0) m listed a w
  | 0, _, _, _, _, _, _, _, _, _, h, _, _, _, _, _, _ => by simp only [runD] at h; exact h.elim
  | n + 1, listed, st, ρ, pre, ids, hx, a, w, m, h, hp, hs, hi, hρ, hk, hm => by
    have hbr : ∀ b : BE, (Tree.br b (runD T wr st0 ops n listed (st.assume b true) k) (runD T wr st0 ops n listed (st.assume b false) k)).holds C ρ pre hx L → wpAnyH C.P .any ops (onlyNormal Q) (Stay wr st0.hp ρ0 ids0) m listed a w := fun b hb => by
      cases hd : b.den ρ with
      | true => exact runD_ok hT hsel hfit hc hl hK n listed (st.assume b true) ρ pre ids hx a w m (hb.1 hd) hp ⟨hs.facts, hs.act.assume hd⟩ hi hρ hk hm
      | false => exact runD_ok hT hsel hfit hc hl hK n listed (st.assume b false) ρ pre ids hx a w m (hb.2 hd) hp ⟨hs.facts, hs.act.assume hd⟩ hi hρ hk hm
    have hstay := stay_of hs.facts hk hfit hc hl hi hρ
    simp only [runD] at h
    split at h
    · rename_i hr
      exact wpAnyH_done (Q := onlyNormal Q) hr (hK _ _ _ _ _ _ _ h hp hs hi hρ) m
    · rename_i i0 rs0 hr
      -- something may come up: it is not listed yet
      have hun : ∀ i, i ∈ Region.ready .any ops listed → listed.getD i true = false := fun i hi => (mem_ready.1 hi).1
      have hm1 : 0 < m := by
        have h0 := hun i0 (by rw [hr]; simp)
        have := unl_set h0
        omega
      obtain ⟨m, rfl⟩ : ∃ q, m = q + 1 := ⟨m - 1, by omega⟩
      have hset : ∀ i, i ∈ Region.ready .any ops listed → unl (listed.setIfInBounds i true) ≤ m := fun i hi => by
        have := unl_set (hun i hi); omega
      have htake : ∀ (i : Nat) (o : Oper) (v : SV), i ∈ i0 :: rs0 → ops[i]? = some o → Region.free .any ops listed i = true → (quietS T wr st0 ops o st).gives ρ v →
          (runD T wr st0 ops n (listed.setIfInBounds i true) (st.put o.dst v) k).holds C ρ pre hx L → wpAnyH C.P .any ops (onlyNormal Q) (Stay wr st0.hp ρ0 ids0) (m + 1) listed a w := fun i o v hir ho hfree hq hh => by
        have hir' : i ∈ Region.ready .any ops listed := by rw [hr]; exact hir
        refine wpAnyH_take (i := i) (oi := o) (v := v.den ρ ids) ho hsel hfree (by simpa using hir') (fun c a w hh => hh) (quiet_yields hT hq hs hfit hc hl hi hρ) hstay ?_
        exact runD_ok hT hsel hfit hc hl hK n _ _ ρ pre ids hx _ w m hh hp (hpEq_sit (st' := st) hs _ _) hi hρ (by rw [put_hp]; exact hk) (hset i hir')
      split at h
      · rename_i i d v hfq
        obtain ⟨h1, o, ho, hfree, rfl, h2⟩ := firstQuiet_some hfq
        rcases h2 with ⟨_, h2⟩ | ⟨q, h2, _⟩
        · exact htake i o v h1 ho hfree (by rw [h2]; rfl) h
        · cases h2
      · rename_i i p d v hfq
        obtain ⟨h1, o, ho, hfree, rfl, h2⟩ := firstQuiet_some hfq
        rcases h2 with ⟨h2, _⟩ | ⟨q, h2, h3⟩
        · cases h2
        · cases h2
          exact htake i o v h1 ho hfree (by rw [h3]; exact ⟨rfl, h.1⟩) (h.2 h.1)
      · split at h
        · exact hbr _ h
        · refine wpAnyH_all hr (by simp) fun i hir => ?_
          have hir' : i ∈ Region.ready .any ops listed := by rw [hr]; exact hir
          have ht := parAll_holds h _ (List.mem_map.2 ⟨i, hir, rfl⟩)
          unfold wpOp
          split at ht
          · exact ht.elim
          · rename_i o ho
            simp only [ho]
            split at ht
            · rename_i hg
              rw [if_pos (gd_yes hs.act hg)]
              by_cases hb : ∃ b, pureS T o st = .br b
              · obtain ⟨b, hb⟩ := hb
                unfold stepT at ht
                rw [hb] at ht
                have := hbr b ht
                have h3 := this.2 i hir'
                unfold wpOp at h3
                simp only [ho] at h3
                rw [if_pos (gd_yes hs.act hg)] at h3
                exact h3
              · refine .inl (step_ok hT ht hp hs (fun b e => hb ⟨b, e⟩) fun st' ρ' pre' ids' hx' a' w' hh hp' hs' hi' hρ' hch => ?_)
                have hk' : Kept wr st0.hp st'.hp := by
                  rcases hch with h4 | h4
                  · rw [h4]; exact hk
                  · intro n ty cs h5 h6
                    have := kept_of_S wr 0 _ _ h4 n ty cs (by simpa using h5) h6
                    exact this
                have hρ2 : ∃ x, ρ' = ρ0.add x := by
                  obtain ⟨x, rfl⟩ := hρ
                  obtain ⟨y, rfl⟩ := hρ'
                  exact Env.add_add ρ0 x y
                exact ⟨stay_of hs'.facts hk' hfit hc hl (hi.trans hi') hρ2,
                  runD_ok hT hsel hfit hc hl hK n _ st' ρ' pre' ids' hx' a' w' m hh hp' hs' (hi.trans hi') hρ2 hk' (hset i hir')⟩
            · rename_i hg
              rw [if_neg (by rw [gd_no hs.act hg]; simp)]
              exact ⟨hstay, runD_ok hT hsel hfit hc hl hK n _ _ ρ pre ids hx _ w m ht hp (hpEq_sit (st' := st) hs o.dst (.tup [])) hi hρ (by rw [put_hp]; exact hk) (hset i hir')⟩
            · exact ht.elim
end
section
variable {C : Cfg} {T : Tab}
def frz (hx : HX) (w0 : World) : HX := ⟨hx.F, fun w => ∀ b, hx.F b → w.heap[b]? = w0.heap[b]?, fun w w' h e b hb => (e b hb).trans (h b hb)⟩
theorem Facts.frz {m : Mem} {ρ : Env} {ids : List Nat} {hx : HX} {w : World} (hf : Facts C m ρ ids hx w) : Facts C m ρ ids (frz hx w) w :=
  ⟨hf.len, hf.nod, hf.blk, hf.own, hf.chg, fun _ _ => rfl, hf.sep, hf.cnt⟩
theorem Facts.unfrz {m : Mem} {ρ : Env} {ids : List Nat} {hx : HX} {w w0 : World} (hX : hx.X w0) (hf : Facts C m ρ ids (Go.Eng.frz hx w0) w) : Facts C m ρ ids hx w :=
  ⟨hf.len, hf.nod, hf.blk, hf.own, hf.chg, hx.loc w0 w hX hf.x, hf.sep, hf.cnt⟩
def StayL (C : Cfg) (wr : List Nat) (hp0 : List (Nat × List LV)) (ρ0 : Env) (ids0 : List Nat) (hx : HX) (w0 : World) (w : World) : Prop :=
  Stay wr hp0 ρ0 ids0 w ∧ (frz hx w0).X w ∧ Chg C.M C.W w
theorem yields_sub {P : Program} {ops : Array Oper} {S S' : World → Prop} (h : ∀ w, S' w → S w) {o : Oper} {v : Value} {a : Act} (hy : YieldsIf P ops S o v a) : YieldsIf P ops S' o v a :=
  hy.imp (fun ⟨hw, hv⟩ => ⟨hw, fun w hs => hv w (h w hs)⟩) id
theorem stepL_ok (hT : TabOk C.P T) {o : Oper} {st : St} {chk : List (Nat × List LV) → Bool} {br : BE → Tree} {next : St → Tree} {i : Nat} {ρ : Env} {pre ids : List Nat} {hx hy : HX} {L : Stack} {a : Act} {w : World}
    (h : (stepL T o st chk br next i).holds C ρ pre hx L) (hp : pre <+: ids) (hs : Sit C st ρ ids hy a w) (hnb : ∀ b, pureS T o st ≠ .br b) {K : Act → World → Prop} {Q : Exit → Act → World → Prop}
    (hK : ∀ st' ids' a' w', (next st').holds C ρ pre hx L → pre <+: ids' → Sit C st' ρ ids' hy a' w' → ids <+: ids' → (st'.hp = st.hp ∨ chk st'.hp = true) → K a' w') : o.wp C.P a w K Q := by
  have hpure : ∀ v, (pureS T o st).gives ρ v → (next (st.put o.dst v)).holds C ρ pre hx L → o.wp C.P a w K Q := fun v hv hh =>
    upon_value (pure_ok hT hs.act hs.facts.cnt hv w) (hK _ ids _ _ hh hp (hpEq_sit (st' := st) hs _ _) (List.prefix_refl _) (.inl (put_hp _ _ _)))
  unfold stepL at h
  split at h
  · rename_i v hv; exact hpure v (by rw [hv]; rfl) h
  · rename_i p v hv; exact hpure v (by rw [hv]; exact ⟨rfl, h.1⟩) (h.2 h.1)
  · rename_i b hv; exact absurd hv (hnb b)
  · split at h
    · rename_i v hv
      obtain ⟨t, x, n, off, ho, hxx, hl⟩ := heap_val hT hs.act hv
      obtain ⟨ty, cs, hn⟩ := loadS_hp hl
      have hr := load_run (C := C) (w := w) hT hs.act ho hxx hl hn (hs.facts.blk n ty cs hn)
      exact upon_value hr (hK _ ids _ _ h hp (hpEq_sit (st' := st) hs _ _) (List.prefix_refl _) (.inl (put_hp _ _ _)))
    · rename_i v st' hv
      split at h
      · rename_i hc
        simp only [Bool.and_eq_true] at hc
        obtain ⟨w', hr, hf', hfr⟩ := new_ok hT hs.act hs.facts hc.1 hv
        have hpre : ids <+: ids ++ [w.heap.size] := List.prefix_append _ _
        have hact : ActOk st' ρ (ids ++ [w.heap.size]) a := by
          have := (hs.act.add (x := Vals.nil) hs.facts.cnt.cnt hpre hs.facts.len hc.1).hp hfr
          rwa [Env.add_nil] at this
        refine upon_value hr (hK _ _ _ _ h (hp.trans hpre) (hpEq_sit (st' := st') ⟨hf', hact⟩ _ _) hpre (.inr ?_))
        rw [put_hp]; exact hc.2
      · exact h.elim
    · rename_i st' hv
      split at h
      · rename_i hc
        obtain ⟨w', hr, hf', hfr⟩ := skip_ok hT hs.act hs.facts hv
        refine upon_skip hr (hK _ ids _ _ h hp (hpEq_sit (st' := st') ⟨hf', hs.act.hp hfr⟩ o.dst (.tup [])) (List.prefix_refl _) (.inr ?_))
        rw [put_hp]; exact hc
      · exact h.elim
    · exact h.elim
theorem firstLoad_some {ops : Array Oper} {listed : Array Bool} {st : St} : ∀ {rs : List Nat} {i : Nat} {l : LV} {cs : List LV} {v : SV} {st' : St} {d : Option Nat}, firstLoad T ops listed st rs = some (i, l, cs, v, st', d) →
    i ∈ rs ∧ ∃ o t, ops[i]? = some o ∧ Region.free .any ops listed i = true ∧ d = o.dst ∧ gd ops st o.guard = .yes ∧ effS T o st = .ld l t cs v st'
  | [], _, _, _, _, _, _, h => by simp [firstLoad] at h
  | j :: r, i, l, cs, v, st', d, h => by
    simp only [firstLoad] at h
    split at h
    · cases h
    · rename_i o ho
      split at h
      · rename_i hfree
        split at h
        · rename_i hg
          split at h
          · rename_i l2 t2 cs2 v2 st2 he
            cases h
            exact ⟨by simp, o, t2, ho, hfree, rfl, hg, he⟩
          · obtain ⟨h1, h2⟩ := firstLoad_some h; exact ⟨by simp [h1], h2⟩
        · obtain ⟨h1, h2⟩ := firstLoad_some h; exact ⟨by simp [h1], h2⟩
      · obtain ⟨h1, h2⟩ := firstLoad_some h; exact ⟨by simp [h1], h2⟩
theorem cells_keep {w w' : World} {v : Value} {us : List Value} {F : Nat → Prop} (hc : CellsAt w v us (fun b => ¬ F b)) (he : ∀ b, F b → w'.heap[b]? = w.heap[b]?) : CellsAt w' v us (fun b => ¬ F b) := by
  obtain ⟨ad, h1, h2, h3⟩ := hc
  refine ⟨ad, h1, h2, fun j u hu => ?_⟩
  have hb : (ad.add j).block = ad.block := by unfold Addr.add; split <;> rfl
  rw [World.cell?_of_block (w := w) (by rw [hb]; exact he _ (Classical.not_not.1 h2))]
  exact h3 j u hu
theorem runL_ok (hT : TabOk C.P T) {wr : List Nat} {st0 : St} {ops : Array Oper} {k : St → Tree} {ρ0 : Env} {ids0 : List Nat} {L : Stack} {Q : Exit → Act → World → Prop} {hx : HX} {w0 : World} (hX0 : hx.X w0) (hsel : Region.noSelect ops = true)
    (hfit : st0.fits = true) (hc : ρ0.cnt = st0.c) (hl : ids0.length = st0.hp.length)
    (hK : ∀ st' ρ' pre' ids' a' w', (k st').holds C ρ' pre' hx L → pre' <+: ids' → Sit C st' ρ' ids' hx a' w' → ids0 <+: ids' → (∃ x, ρ' = ρ0.add x) → Q .normal a' w') :
    ∀ (n : Nat) (listed : Array Bool) (st : St) (ρ : Env) (pre ids : List Nat) (a : Act) (w : World) (m : Nat),
    (runL T wr st0 ops n listed st k).holds C ρ pre hx L → pre <+: ids → Sit C st ρ ids (frz hx w0) a w → ids0 <+: ids → (∃ x, ρ = ρ0.add x) → Kept wr st0.hp st.hp → unl listed ≤ m →
    wpAnyH C.P .any ops (onlyNormal Q) (StayL C wr st0.hp ρ0 ids0 hx w0) m listed a w
  | 0, _, _, _, _, _, _, _, _, h, _, _, _, _, _, _ => by simp only [runL] at h; exact h.elim
  | n + 1, listed, st, ρ, pre, ids, a, w, m, h, hp, hs, hi, hρ, hk, hm => by
    have hbr : ∀ b : BE, (Tree.br b (runL T wr st0 ops n listed (st.assume b true) k) (runL T wr st0 ops n listed (st.assume b false) k)).holds C ρ pre hx L → wpAnyH C.P .any ops (onlyNormal Q) (StayL C wr st0.hp ρ0 ids0 hx w0) m listed a w := fun b hb => by
      cases hd : b.den ρ with
      | true => exact runL_ok hT hX0 hsel hfit hc hl hK n listed (st.assume b true) ρ pre ids a w m (hb.1 hd) hp ⟨hs.facts, hs.act.assume hd⟩ hi hρ hk hm
      | false => exact runL_ok hT hX0 hsel hfit hc hl hK n listed (st.assume b false) ρ pre ids a w m (hb.2 hd) hp ⟨hs.facts, hs.act.assume hd⟩ hi hρ hk hm
    have hstay : StayL C wr st0.hp ρ0 ids0 hx w0 w := ⟨stay_of hs.facts hk hfit hc hl hi hρ, hs.facts.x, hs.facts.chg⟩
    simp only [runL] at h
    split at h
    · rename_i hr
      exact wpAnyH_done (Q := onlyNormal Q) hr (hK _ _ _ _ _ _ h hp ⟨hs.facts.unfrz hX0, hs.act⟩ hi hρ) m
    · rename_i i0 rs0 hr
      have hun : ∀ i, i ∈ Region.ready .any ops listed → listed.getD i true = false := fun i hi => (mem_ready.1 hi).1
      have hm1 : 0 < m := by
        have h0 := hun i0 (by rw [hr]; simp)
        have := unl_set h0
        omega
      obtain ⟨m, rfl⟩ : ∃ q, m = q + 1 := ⟨m - 1, by omega⟩
      have hset : ∀ i, i ∈ Region.ready .any ops listed → unl (listed.setIfInBounds i true) ≤ m := fun i hi => by
        have := unl_set (hun i hi); omega
      have htake : ∀ (i : Nat) (o : Oper) (v : SV), i ∈ i0 :: rs0 → ops[i]? = some o → Region.free .any ops listed i = true → (quietS T wr st0 ops o st).gives ρ v →
          (runL T wr st0 ops n (listed.setIfInBounds i true) (st.put o.dst v) k).holds C ρ pre hx L → wpAnyH C.P .any ops (onlyNormal Q) (StayL C wr st0.hp ρ0 ids0 hx w0) (m + 1) listed a w := fun i o v hir ho hfree hq hh => by
        have hir' : i ∈ Region.ready .any ops listed := by rw [hr]; exact hir
        refine wpAnyH_take (i := i) (oi := o) (v := v.den ρ ids) ho hsel hfree (by simpa using hir') (fun c a w hh => hh) (yields_sub (fun _ q => q.1) (quiet_yields hT hq hs hfit hc hl hi hρ)) hstay ?_
        exact runL_ok hT hX0 hsel hfit hc hl hK n _ _ ρ pre ids _ w m hh hp (hpEq_sit (st' := st) hs _ _) hi hρ (by rw [put_hp]; exact hk) (hset i hir')
      split at h
      · rename_i i d v hfq
        obtain ⟨h1, o, ho, hfree, rfl, h2⟩ := firstQuiet_some hfq
        rcases h2 with ⟨_, h2⟩ | ⟨q, h2, _⟩
        · exact htake i o v h1 ho hfree (by rw [h2]; rfl) h
        · cases h2
      · rename_i i p d v hfq
        obtain ⟨h1, o, ho, hfree, rfl, h2⟩ := firstQuiet_some hfq
        rcases h2 with ⟨h2, _⟩ | ⟨q, h2, h3⟩
        · cases h2
        · cases h2
          exact htake i o v h1 ho hfree (by rw [h3]; exact ⟨rfl, h.1⟩) (h.2 h.1)
      · split at h
        · rename_i i l cs v st' d hfl
          obtain ⟨h1, o, t, ho, hfree, rfl, hg, he⟩ := firstLoad_some hfl
          obtain ⟨hfr, hhp, hfit2, ⟨x, hox, hxx⟩, hti⟩ := eff_ld hT he
          have hir' : i ∈ Region.ready .any ops listed := by rw [hr]; exact h1
          have go : ∀ (vs : Vals) (pre' : List Nat), (∀ w', StayL C wr st0.hp ρ0 ids0 hx w0 w' → ∃ N, CellsAt w' (l.den ρ ids) (cellsDen (ρ.add vs) ids cs) N) → EnvOk (ρ.add vs) st'.mem.c → pre' <+: ids →
              (runL T wr st0 ops n (listed.setIfInBounds i true) (st'.put o.dst v) k).holds C (ρ.add vs) pre' hx L → wpAnyH C.P .any ops (onlyNormal Q) (StayL C wr st0.hp ρ0 ids0 hx w0) (m + 1) listed a w := fun vs pre' hcell hcnt hp' hh => by
            have hf' := hs.facts.envUp hhp hfit2 hcnt
            have hy : YieldsIf C.P ops (StayL C wr st0.hp ρ0 ids0 hx w0) o (v.den (ρ.add vs) ids) a := .inl ⟨gd_yes hs.act hg, fun w' hw' => by
              obtain ⟨N, hcw⟩ := hcell w' hw'
              exact load_ld hT hs.act hox hxx hti hcw⟩
            refine wpAnyH_take (i := i) (oi := o) (v := v.den (ρ.add vs) ids) ho hsel hfree (by simpa using hir') (fun c a w hh => hh) hy hstay ?_
            refine runL_ok hT hX0 hsel hfit hc hl hK n _ _ (ρ.add vs) pre' ids _ w m hh hp' (hpEq_sit (st' := st') ⟨hf', (hs.act.add hs.facts.cnt.cnt (List.prefix_refl _) hs.facts.len hfit2).hp hfr⟩ o.dst v) hi ?_ (by rw [put_hp, hhp]; exact hk) (hset i hir')
            obtain ⟨x, rfl⟩ := hρ
            exact Env.add_add ρ0 x vs
          split at h
          · obtain ⟨vs, hcell, hcnt, hh⟩ := h ids w hp (hs.facts.unfrz hX0)
            exact go vs ids (fun w' hw' => ⟨_, cells_keep hcell fun b hb => (hw'.2.1 b hb).trans (hs.facts.x b hb).symm⟩) hcnt (List.prefix_refl _) hh
          · obtain ⟨vs, hcell0, hcnt, hh⟩ := h
            exact go vs pre (fun w' hw' => ⟨_, cells_base hw'.2.2 (hcell0 ids)⟩) hcnt hp hh
        · split at h
          · exact hbr _ h
          · refine wpAnyH_all hr (by simp) fun i hir => ?_
            have hir' : i ∈ Region.ready .any ops listed := by rw [hr]; exact hir
            have ht := parAll_holds h _ (List.mem_map.2 ⟨i, hir, rfl⟩)
            unfold wpOp
            split at ht
            · exact ht.elim
            · rename_i o ho
              simp only [ho]
              split at ht
              · rename_i hg
                rw [if_pos (gd_yes hs.act hg)]
                by_cases hb : ∃ b, pureS T o st = .br b
                · obtain ⟨b, hb⟩ := hb
                  unfold stepL at ht
                  rw [hb] at ht
                  have := hbr b ht
                  have h3 := this.2 i hir'
                  unfold wpOp at h3
                  simp only [ho] at h3
                  rw [if_pos (gd_yes hs.act hg)] at h3
                  exact h3
                · refine .inl (stepL_ok hT ht hp hs (fun b e => hb ⟨b, e⟩) fun st' ids' a' w' hh hp' hs' hi' hch => ?_)
                  have hk' : Kept wr st0.hp st'.hp := by
                    rcases hch with h4 | h4
                    · rw [h4]; exact hk
                    · intro n ty cs h5 h6
                      have := kept_of_S wr 0 _ _ h4 n ty cs (by simpa using h5) h6
                      exact this
                  exact ⟨⟨stay_of hs'.facts hk' hfit hc hl (hi.trans hi') hρ, hs'.facts.x, hs'.facts.chg⟩,
                    runL_ok hT hX0 hsel hfit hc hl hK n _ st' ρ pre ids' a' w' m hh hp' hs' (hi.trans hi') hρ hk' (hset i hir')⟩
              · rename_i hg
                rw [if_neg (by rw [gd_no hs.act hg]; simp)]
                exact ⟨hstay, runL_ok hT hX0 hsel hfit hc hl hK n _ _ ρ pre ids _ w m ht hp (hpEq_sit (st' := st) hs o.dst (.tup [])) hi hρ (by rw [put_hp]; exact hk) (hset i hir')⟩
              · exact ht.elim
end
end Go.Eng

namespace Go.Eng
set_option linter.unusedVariables false
set_option linter.unusedSimpArgs false

section
variable {C : Cfg} {T : Tab} {ρ : Env} {ids idsh : List Nat} {m : Nat}
structure Cnt.le (c d : Cnt) : Prop where
  i : c.i ≤ d.i
  b : c.b ≤ d.b
  v : c.v ≤ d.v
  n : c.n ≤ d.n
  a : c.a ≤ d.a
theorem blt_up {x a b : Nat} (h : Nat.blt x a = true) (hl : a ≤ b) : Nat.blt x b = true := Nat.ble_eq_true_of_le (Nat.le_trans (Nat.le_of_ble_eq_true h) hl)
theorem IE.fits_up {c d : Cnt} (h : c.le d) : ∀ {e : IE}, e.fits c = true → e.fits d = true
  | .lit _, _ => rfl
  | .var _, g => blt_up g h.i
  | .nat _, g => blt_up g h.n
  | .op _ _ a b, g => by simp only [IE.fits, Bool.and_eq_true] at *; exact ⟨IE.fits_up h g.1, IE.fits_up h g.2⟩
  | .conv _ a, g => by simp only [IE.fits] at *; exact IE.fits_up h g
  | .mx a b, g => by simp only [IE.fits, Bool.and_eq_true] at *; exact ⟨IE.fits_up h g.1, IE.fits_up h g.2⟩
  | .mn a b, g => by simp only [IE.fits, Bool.and_eq_true] at *; exact ⟨IE.fits_up h g.1, IE.fits_up h g.2⟩
theorem BE.fits_up {c d : Cnt} (h : c.le d) : ∀ {e : BE}, e.fits c = true → e.fits d = true
  | .lit _, _ => rfl
  | .var _, g => blt_up g h.b
  | .cmp _ a b, g => by simp only [BE.fits, Bool.and_eq_true] at *; exact ⟨IE.fits_up h g.1, IE.fits_up h g.2⟩
  | .eqb a b, g => by simp only [BE.fits, Bool.and_eq_true] at *; exact ⟨BE.fits_up h g.1, BE.fits_up h g.2⟩
  | .not a, g => by simp only [BE.fits] at *; exact BE.fits_up h g
  | .and a b, g => by simp only [BE.fits, Bool.and_eq_true] at *; exact ⟨BE.fits_up h g.1, BE.fits_up h g.2⟩
  | .anone _, g => blt_up g h.a
theorem NE.fits_up {c d : Cnt} (h : c.le d) : ∀ {e : NE}, e.fits c = true → e.fits d = true
  | .lit _, _ => rfl
  | .var _, g => blt_up g h.n
theorem LV.fits_up {c d : Cnt} (h : c.le d) : ∀ {l : LV}, l.fits c m = true → l.fits d m = true
  | .int _ _, g => IE.fits_up h g
  | .bool _, g => BE.fits_up h g
  | .val _, g => blt_up g h.v
  | .ptr .., g => g
  | .nilp, _ => rfl
  | .sl .., g => by simp only [LV.fits, Bool.and_eq_true] at *; exact ⟨⟨blt_up g.1.1 h.a, NE.fits_up h g.1.2⟩, NE.fits_up h g.2⟩
  | .nsl .., g => g
  | .nilsl, _ => rfl
  | .adr .., g => by simp only [LV.fits, Bool.and_eq_true] at *; exact ⟨blt_up g.1 h.a, IE.fits_up h g.2⟩
  | .pix .., g => by simp only [LV.fits, Bool.and_eq_true] at *; exact ⟨g.1, IE.fits_up h g.2⟩
  | .fnv .., g => g
  | .cst _, _ => rfl
theorem SV.fits_up {c d : Cnt} (h : c.le d) : ∀ {s : SV}, s.fits c m = true → s.fits d m = true
  | .lf _, g => LV.fits_up h g
  | .agg _, g => by simp only [SV.fits, List.all_eq_true] at *; exact fun l hl => LV.fits_up h (g l hl)
  | .tup _, g => by simp only [SV.fits, List.all_eq_true] at *; exact fun x hx l hl => LV.fits_up h (g x hx l hl)
  | .nxt _ _, g => by simp only [SV.fits, Bool.and_eq_true, List.all_eq_true] at *; exact ⟨BE.fits_up h g.1, fun x hx l hl => LV.fits_up h (g.2 x hx l hl)⟩
  | .dead, _ => rfl
theorem add_le (ρc : Env) (x : Vals) : ρc.cnt.le (ρc.add x).cnt := ⟨by simp [Env.cnt, Env.add], by simp [Env.cnt, Env.add], by simp [Env.cnt, Env.add], by simp [Env.cnt, Env.add], by simp [Env.cnt, Env.add]⟩
theorem add_app (ρc : Env) (x y : Vec) : ρc.add ((x.app y).den ρ ids) = (ρc.add (x.den ρ ids)).add (y.den ρ ids) := by
  simp [Env.add, Vec.app, Vec.den]
theorem vec_nil : Vec.nil.den ρ ids = Vals.nil := rfl
theorem leaf_take {ρc : Env} {k : K} {l' : LV} {v : Vec} (hi : idsh <+: ids) (hm : idsh.length = m) (h : takeL m k l' = some v) :
    (k.mk ρc.cnt).1.den (ρc.add (v.den ρ ids)) idsh = l'.den ρ ids ∧ (ρc.add (v.den ρ ids)).cnt = (k.mk ρc.cnt).2 ∧ (k.mk ρc.cnt).1.fits (k.mk ρc.cnt).2 m = true := by
  have g1 : ∀ {α : Type} (l : List α) (x d : α) (r : List α), (l ++ x :: r).getD l.length d = x := fun l x d r => by simp [List.getD]
  have b1 : ∀ n : Nat, Nat.blt n (n + 1) = true := fun n => Nat.ble_eq_true_of_le (Nat.le_refl _)
  have b2 : ∀ n : Nat, Nat.blt n (n + 2) = true := fun n => Nat.ble_eq_true_of_le (by omega)
  unfold takeL at h
  split at h
  · split at h
    · rename_i e; subst e
      cases h
      refine ⟨?_, ?_, ?_⟩
      · simp only [K.mk, LV.den, IE.den, Vec.den, Vec.nil, Env.add, Env.cnt, List.map_cons, List.map_nil]
        rw [g1]
      · simp [K.mk, Env.cnt, Env.add, Vec.den, Vec.nil]
      · simp [K.mk, LV.fits, IE.fits, b1]
    · cases h
  · cases h
    refine ⟨?_, ?_, ?_⟩
    · simp only [K.mk, LV.den, BE.den, Vec.den, Vec.nil, Env.add, Env.cnt, List.map_cons, List.map_nil]
      rw [g1]
    · simp [K.mk, Env.cnt, Env.add, Vec.den, Vec.nil]
    · simp [K.mk, LV.fits, BE.fits, b1]
  · split at h
    · cases h
      refine ⟨?_, ?_, ?_⟩
      · simp only [K.mk, Vec.den, Vec.nil, Env.add, Env.cnt, List.map_cons, List.map_nil, LV.den]
        rw [g1]
      · simp [K.mk, Env.cnt, Env.add, Vec.den, Vec.nil]
      · simp [K.mk, LV.fits, b1]
    · cases h
  · cases h
    refine ⟨?_, ?_, ?_⟩
    · simp only [K.mk, LV.den, NE.den, AE.den, Vec.den, Vec.nil, Env.add, Env.cnt, List.map_cons, List.map_nil]
      rw [g1, g1]
      congr 1
      simp [List.getD]
    · simp [K.mk, Env.cnt, Env.add, Vec.den, Vec.nil]
    · simp [K.mk, LV.fits, NE.fits, b1, b2]
  · cases h
    refine ⟨?_, ?_, ?_⟩
    · simp only [K.mk, LV.den, NE.den, AE.den, Vec.den, Vec.nil, Env.add, Env.cnt, List.map_cons, List.map_nil]
      rw [g1, g1]
      congr 1
      simp [List.getD]
    · simp [K.mk, Env.cnt, Env.add, Vec.den, Vec.nil]
    · simp [K.mk, LV.fits, NE.fits, b1, b2]
  · cases h
    refine ⟨?_, ?_, ?_⟩
    · simp only [K.mk, LV.den, NE.den, AE.den, Vec.den, Vec.nil, Env.add, Env.cnt, List.map_cons, List.map_nil]
      rw [g1, g1]
      congr 1
      simp [List.getD]
    · simp [K.mk, Env.cnt, Env.add, Vec.den, Vec.nil]
    · simp [K.mk, LV.fits, NE.fits, b1, b2]
  · split at h
    · rename_i hc
      obtain ⟨rfl, rfl, hb⟩ := hc
      cases h
      refine ⟨?_, ?_, ?_⟩
      · simp only [K.mk, LV.den]
        rw [idAt_pre hi (hm ▸ blt_lt hb)]
      · simp [K.mk, Env.cnt, Env.add, Vec.den, Vec.nil]
      · exact hb
    · cases h
  · cases h
theorem leaf_one {k : K} {l' : LV} {v : Vec} (h : takeL m k l' = some v) : ∀ l, l ∈ v.v → l = l' ∧ l.isOne = true := by
  unfold takeL at h
  split at h
  · split at h
    · cases h; intro l hl; cases hl
    · cases h
  · cases h; intro l hl; cases hl
  · split at h
    · rename_i h1; cases h; intro l hl; simp at hl; subst hl; exact ⟨rfl, h1⟩
    · cases h
  · cases h; intro l hl; cases hl
  · cases h; intro l hl; cases hl
  · cases h; intro l hl; cases hl
  · split at h
    · cases h; intro l hl; cases hl
    · cases h
  · cases h
theorem leaves_take (hi : idsh <+: ids) (hm : idsh.length = m) : ∀ {ks : List K} {ls : List LV} {v : Vec} {ρc : Env}, takeLs m ks ls = some v →
    cellsDen (ρc.add (v.den ρ ids)) idsh (mkKs ρc.cnt ks).1 = cellsDen ρ ids ls ∧ (ρc.add (v.den ρ ids)).cnt = (mkKs ρc.cnt ks).2 ∧ (mkKs ρc.cnt ks).1.all (LV.fits (mkKs ρc.cnt ks).2 m) = true ∧ ∀ l, l ∈ v.v → l ∈ ls ∧ l.isOne = true
  | [], [], v, ρc, h => by
    simp only [takeLs, Option.some.injEq] at h
    subst h
    exact ⟨rfl, by rw [vec_nil, Env.add_nil]; rfl, rfl, fun l hl => by cases hl⟩
  | k :: ks, l :: ls, v, ρc, h => by
    simp only [takeLs] at h
    split at h
    · rename_i x y h1 h2
      cases h
      obtain ⟨a1, a2, a3⟩ := leaf_take (ρ := ρ) (ρc := ρc) hi hm h1
      obtain ⟨b1, b2, b3, b4⟩ := leaves_take hi hm (ρc := ρc.add (x.den ρ ids)) h2
      rw [a2] at b1 b2 b3
      rw [add_app]
      have hup : (k.mk ρc.cnt).1.den ((ρc.add (x.den ρ ids)).add (y.den ρ ids)) idsh = (k.mk ρc.cnt).1.den (ρc.add (x.den ρ ids)) idsh := LV.den_add a2 (List.prefix_refl _) hm a3
      refine ⟨?_, b2, ?_, ?_⟩
      · simp only [mkKs, cellsDen, List.map_cons] at *
        rw [b1, hup, a1]
      · simp only [mkKs, List.all_cons, Bool.and_eq_true]
        refine ⟨?_, b3⟩
        rw [← b2]
        exact LV.fits_up (add_le _ _) (by rw [a2]; exact a3)
      · intro l0 hl
        simp only [Vec.app, List.mem_append] at hl
        rcases hl with hl | hl
        · obtain ⟨rfl, h3⟩ := leaf_one h1 l0 hl; exact ⟨by simp, h3⟩
        · obtain ⟨h3, h4⟩ := b4 l0 hl; exact ⟨by simp [h3], h4⟩
    · cases h
  | [], _ :: _, _, _, h => by simp [takeLs] at h
  | _ :: _, [], _, _, h => by simp [takeLs] at h

theorem slots_hp : ∀ (l : List (Nat × K)) (st : St), (slotsNew st l).hp = st.hp ∧ (slotsNew st l).fr.length = st.fr.length
  | [], _ => ⟨rfl, rfl⟩
  | (s, k) :: r, st => by
    simp only [slotsNew]
    obtain ⟨h1, h2⟩ := slots_hp r { st with fr := st.fr.set s (.lf (k.mk st.c).1), c := (k.mk st.c).2 }
    exact ⟨h1, by rw [h2]; simp⟩
theorem slots_take (hi : idsh <+: ids) (hm : idsh.length = m) (st : St) : ∀ {sl : List (Nat × K)} {st1 : St} {v : Vec} {ρc : Env}, slotsTake m st sl = some v → ρc.cnt = st1.c →
    (ρc.add (v.den ρ ids)).cnt = (slotsNew st1 sl).c ∧ (∀ l, l ∈ v.v → l.isOne = true ∧ SV.lf l ∈ st.fr) ∧
    ∀ (j : Nat) (p : SV), (slotsNew st1 sl).fr[j]? = some p → (inSlots j sl = true ∧ ∃ l l', p = .lf l ∧ st.fr[j]? = some (.lf l') ∧ l.den (ρc.add (v.den ρ ids)) idsh = l'.den ρ ids ∧ l.fits (slotsNew st1 sl).c m = true) ∨ (inSlots j sl = false ∧ st1.fr[j]? = some p)
  | [], st1, v, ρc, h, hc => by
    simp only [slotsTake, Option.some.injEq] at h
    subst h
    exact ⟨by rw [vec_nil, Env.add_nil]; exact hc, fun l hl => (by cases hl), fun j p hp => .inr ⟨rfl, hp⟩⟩
  | (s, k) :: r, st1, v, ρc, h, hc => by
    simp only [slotsTake] at h
    split at h
    · rename_i l' hs
      split at h
      · rename_i x y h1 h2
        cases h
        obtain ⟨a1, a2, a3⟩ := leaf_take (ρ := ρ) (ρc := ρc) hi hm h1
        rw [hc] at a1 a2 a3
        obtain ⟨b1, b2, b3⟩ := slots_take hi hm st (ρc := ρc.add (x.den ρ ids)) (st1 := { st1 with fr := st1.fr.set s (.lf (k.mk st1.c).1), c := (k.mk st1.c).2 }) h2 a2
        rw [← add_app] at b1 b3
        refine ⟨b1, ?_, ?_⟩
        · intro l hl
          simp only [Vec.app, List.mem_append] at hl
          rcases hl with hl | hl
          · obtain ⟨rfl, h3⟩ := leaf_one h1 l hl; exact ⟨h3, List.mem_of_getElem? hs⟩
          · exact b2 l hl
        · intro j p hp
          rcases b3 j p hp with ⟨c1, c2⟩ | ⟨c1, c2⟩
          · exact .inl ⟨by simp [inSlots, c1], c2⟩
          · simp only [List.getElem?_set] at c2
            split at c2
            · rename_i e
              subst e
              split at c2
              · cases c2
                refine .inl ⟨by simp [inSlots], _, l', rfl, hs, ?_, ?_⟩
                · rw [add_app, ← a1]
                  exact LV.den_add a2 (List.prefix_refl _) hm a3
                · show LV.fits (slotsNew { st1 with fr := st1.fr.set s (.lf (k.mk st1.c).1), c := (k.mk st1.c).2 } r).c m _ = true
                  rw [← b1, add_app]
                  exact LV.fits_up (add_le _ _) (by rw [a2]; exact a3)
              · cases c2
            · rename_i e
              refine .inr ⟨?_, c2⟩
              simp only [inSlots, Bool.or_eq_false_iff]
              exact ⟨by simpa using e, c1⟩
      · cases h
    · cases h

theorem blks_fr (base : St) : ∀ (l : List Nat) (st : St), (blksNew base st l).fr = st.fr ∧ (blksNew base st l).hp.length = st.hp.length
  | [], _ => ⟨rfl, rfl⟩
  | n :: r, st => by
    simp only [blksNew]
    split
    · obtain ⟨h1, h2⟩ := blks_fr base r { st with hp := st.hp.set n (_, (mkKs st.c (blkKs base n)).1), c := (mkKs st.c (blkKs base n)).2 }
      exact ⟨h1, by rw [h2]; simp⟩
    · exact blks_fr base r st
theorem blks_take (hi : idsh <+: ids) (hm : idsh.length = m) (base st : St) (hb : base.hp.length = m) : ∀ {bl : List Nat} {st2 : St} {v : Vec} {ρc : Env}, blksTake base st bl = some v → ρc.cnt = st2.c → (∀ n, n ∈ bl → ∃ x, st2.hp[n]? = some x) →
    (ρc.add (v.den ρ ids)).cnt = (blksNew base st2 bl).c ∧ (∀ l, l ∈ v.v → l.isOne = true ∧ ∃ p, p ∈ st.hp ∧ l ∈ p.2) ∧
    ∀ (n ty : Nat) (cs : List LV), (blksNew base st2 bl).hp[n]? = some (ty, cs) → (n ∈ bl ∧ ∃ ty' cs', st.hp[n]? = some (ty', cs') ∧ cellsDen (ρc.add (v.den ρ ids)) idsh cs = cellsDen ρ ids cs' ∧ cs.all (LV.fits (blksNew base st2 bl).c m) = true ∧ ∃ cs0, st2.hp[n]? = some (ty, cs0)) ∨ (n ∉ bl ∧ st2.hp[n]? = some (ty, cs))
  | [], st2, v, ρc, h, hc, _ => by
    simp only [blksTake, Option.some.injEq] at h
    subst h
    exact ⟨by rw [vec_nil, Env.add_nil]; exact hc, fun l hl => (by cases hl), fun n ty cs hn => .inr ⟨by simp, hn⟩⟩
  | q :: r, st2, v, ρc, h, hc, hin => by
    simp only [blksTake] at h
    split at h
    · rename_i tq csq hq
      split at h
      · rename_i x y h1 h2
        cases h
        rw [hb] at h1
        obtain ⟨a1, a2, a3, a4⟩ := leaves_take (ρ := ρ) (ρc := ρc) hi hm h1
        rw [hc] at a1 a2 a3
        obtain ⟨⟨t0, cs0⟩, hx0⟩ := hin q (by simp)
        have hnew : blksNew base st2 (q :: r) = blksNew base { st2 with hp := st2.hp.set q (t0, (mkKs st2.c (blkKs base q)).1), c := (mkKs st2.c (blkKs base q)).2 } r := by
          simp only [blksNew, hx0]
        have hlt : q < st2.hp.length := by
          rcases Nat.lt_or_ge q st2.hp.length with g | g
          · exact g
          · rw [List.getElem?_eq_none g] at hx0; cases hx0
        obtain ⟨b1, b2, b3⟩ := blks_take hi hm base st hb (ρc := ρc.add (x.den ρ ids)) (st2 := { st2 with hp := st2.hp.set q (t0, (mkKs st2.c (blkKs base q)).1), c := (mkKs st2.c (blkKs base q)).2 }) h2 a2 (fun n hn => by
          obtain ⟨x, hx⟩ := hin n (by simp [hn])
          simp only [List.getElem?_set]
          split
          · exact ⟨_, rfl⟩
          · exact ⟨x, hx⟩)
        rw [← add_app] at b1 b3
        rw [hnew]
        refine ⟨b1, ?_, ?_⟩
        · intro l hl
          simp only [Vec.app, List.mem_append] at hl
          rcases hl with hl | hl
          · obtain ⟨h3, h4⟩ := a4 l hl; exact ⟨h4, _, List.mem_of_getElem? hq, h3⟩
          · exact b2 l hl
        · intro n ty cs hn
          rcases b3 n ty cs hn with ⟨c1, ty', cs', c2, c3, c4, cs1, c5⟩ | ⟨c1, c2⟩
          · refine .inl ⟨by simp [c1], ty', cs', c2, c3, c4, ?_⟩
            simp only [List.getElem?_set] at c5
            split at c5
            · rename_i e
              subst e
              cases c5
              exact ⟨cs0, hx0⟩
            · exact ⟨cs1, c5⟩
          · simp only [List.getElem?_set] at c2
            split at c2
            · rename_i e
              subst e
              simp only [Option.some.injEq, Prod.mk.injEq] at c2
              obtain ⟨rfl, rfl⟩ := c2
              refine .inl ⟨by simp, tq, csq, hq, ?_, ?_, cs0, hx0⟩
              · rw [add_app, ← a1]
                exact cellsDen_add a2 (List.prefix_refl _) hm a3
              · rw [← b1, add_app]
                simp only [List.all_eq_true] at *
                exact fun l hl => LV.fits_up (add_le _ _) (by rw [a2]; exact a3 l hl)
            · rename_i e
              exact .inr ⟨by simp only [List.mem_cons, not_or]; exact ⟨fun g => e g.symm, c1⟩, c2⟩
      · cases h
    · cases h
theorem forget_get : ∀ (ws : List Nat) (fr : List SV) (j : Nat) (p : SV), (forgetAll fr ws)[j]? = some p → p ≠ .dead → fr[j]? = some p
  | [], _, _, _, h, _ => h
  | d :: r, fr, j, p, h, hne => by
    have := forget_get r _ j p h hne
    simp only [List.getElem?_set] at this
    split at this
    · split at this
      · cases this; exact absurd rfl hne
      · cases this
    · exact this
theorem frSame_len (la : LAnn) : ∀ (j : Nat) (x p : List SV), frSame la j x p = true → x.length = p.length
  | _, [], [], _ => rfl
  | j, x :: r, p :: q, h => by
    simp only [frSame, Bool.and_eq_true] at h
    simp [frSame_len la (j + 1) r q h.2]
  | _, [], _ :: _, h => by simp [frSame] at h
  | _, _ :: _, [], h => by simp [frSame] at h
theorem frSame_get (la : LAnn) : ∀ (i : Nat) (x p : List SV), frSame la i x p = true → ∀ (j : Nat) (u : SV), p[j]? = some u → u ≠ .dead → inSlots (i + j) la.slots = false → ∃ y, x[j]? = some y ∧ y.same u = true
  | _, [], [], _, j, u, h, _, _ => by simp at h
  | i, x :: r, p :: q, h, j, u, hj, hne, hin => by
    simp only [frSame, Bool.and_eq_true] at h
    cases j with
    | zero =>
      simp only [List.getElem?_cons_zero, Option.some.injEq] at hj
      subst hj
      have h1 := h.1
      split at h1
      · exact absurd rfl hne
      · simp only [Nat.add_zero] at hin
        rw [hin, Bool.false_or] at h1
        exact ⟨x, rfl, h1⟩
    | succ j =>
      have := frSame_get la (i + 1) r q h.2 j u (by simpa using hj) hne (by rw [show i + 1 + j = i + (j + 1) by omega]; exact hin)
      simpa using this
  | _, [], _ :: _, h, _, _, _, _, _ => by simp [frSame] at h
  | _, _ :: _, [], h, _, _, _, _, _ => by simp [frSame] at h
theorem hpSame_get (la : LAnn) : ∀ (i : Nat) (x p : List (Nat × List LV)), hpSame la i x p = true → ∀ (j ty : Nat) (cs : List LV), p[j]? = some (ty, cs) → ∃ cs', x[j]? = some (ty, cs') ∧ (la.blks.contains (i + j) = true ∨ sameL cs' cs = true)
  | _, _, [], _, j, _, _, h => by simp at h
  | i, x :: r, p :: q, h, j, ty, cs, hj => by
    simp only [hpSame, Bool.and_eq_true, Bool.or_eq_true, beq_iff_eq] at h
    cases j with
    | zero =>
      simp only [List.getElem?_cons_zero, Option.some.injEq] at hj
      subst hj
      obtain ⟨x1, x2⟩ := x
      have h1 := h.1.1
      simp only at h1
      subst h1
      exact ⟨x2, rfl, by simpa using h.1.2⟩
    | succ j =>
      have := hpSame_get la (i + 1) r q h.2 j ty cs (by simpa using hj)
      rw [show i + 1 + j = i + (j + 1) by omega] at this
      simpa using this
  | _, [], _ :: _, h, _, _, _, _ => by simp [hpSame] at h
theorem sameT_den (ρ : Env) (ids : List Nat) : ∀ {x y : List (Bool × List LV)}, sameT x y = true → x.map (compDen ρ ids) = y.map (compDen ρ ids)
  | [], [], _ => rfl
  | (a1, a2) :: r, (b1, b2) :: s, h => by
    simp only [sameT, Bool.and_eq_true, beq_iff_eq] at h
    obtain ⟨⟨rfl, h2⟩, h3⟩ := h
    have e1 := sameL_den ρ ids h2
    have e2 := sameT_den ρ ids h3
    simp only [List.map_cons, e2, List.cons.injEq, and_true]
    cases a1 with
    | true => simp only [compDen, e1]
    | false =>
      cases a2 with
      | nil =>
        cases b2 with
        | nil => rfl
        | cons _ _ => simp [sameL] at h2
      | cons x a2 =>
        cases b2 with
        | nil => simp [sameL] at h2
        | cons y b2 =>
          simp only [cellsDen, List.map_cons, List.cons.injEq] at e1
          simp only [compDen, e1.1]
  | [], _ :: _, h => by simp [sameT] at h
  | _ :: _, [], h => by simp [sameT] at h
theorem SV.same_den (ρ : Env) (ids : List Nat) {x y : SV} (h : x.same y = true) : x.den ρ ids = y.den ρ ids := by
  unfold SV.same at h
  split at h
  · exact Eng.same_den ρ ids h
  · simp only [SV.den, sameL_den ρ ids h]
  · simp only [SV.den, sameT_den ρ ids h]
  · cases h
theorem meet_ok {base st : St} {la : LAnn} {ws : List Nat} {es : Vec} {ρh : Env} {hx : HX} {a : Act} {w : World} (h : meet base (havoc base la ws) st la = some es) (hfit : base.fits = true) (hc : EnvOk ρh base.c)
    (hl : idsh.length = base.hp.length) (hi : idsh <+: ids) (hρ : ∃ x, ρ = ρh.add x) (hs : Sit C st ρ ids hx a w) (hx' : HX) (hok : HXok hx' w ids) :
    EnvOk (ρh.add (es.den ρ ids)) (havoc base la ws).c ∧ Sit C (havoc base la ws) (ρh.add (es.den ρ ids)) idsh hx' a w := by
  unfold meet at h
  split at h
  · rename_i hcond
    simp only [Bool.and_eq_true] at hcond
    obtain ⟨⟨⟨hfr, hhp⟩, hst⟩, hbl⟩ := hcond
    split at h
    · rename_i x y h1 h2
      cases h
      unfold havoc at *
      have hsl := slots_hp la.slots { base with fr := forgetAll base.fr ws }
      obtain ⟨a1, a2, a3⟩ := slots_take (ρ := ρ) (ρc := ρh) hi hl st (st1 := { base with fr := forgetAll base.fr ws }) h1 hc.cnt
      have hin : ∀ n, n ∈ la.blks → ∃ z, (slotsNew { base with fr := forgetAll base.fr ws } la.slots).hp[n]? = some z := fun n hn => by
        rw [hsl.1]
        have := blt_lt (List.all_eq_true.1 hbl n hn)
        exact ⟨_, List.getElem?_eq_getElem this⟩
      obtain ⟨b1, b2, b3⟩ := blks_take (ρ := ρ) (ρc := ρh.add (x.den ρ ids)) hi hl base st rfl (st2 := slotsNew { base with fr := forgetAll base.fr ws } la.slots) h2 a1 hin
      rw [← add_app] at b1 b3
      have hbf := blks_fr base la.blks (slotsNew { base with fr := forgetAll base.fr ws } la.slots)
      have hone : EnvOk (ρh.add ((x.app y).den ρ ids)) (blksNew base (slotsNew { base with fr := forgetAll base.fr ws } la.slots) la.blks).c := by
        refine ⟨b1, fun v hv => ?_⟩
        simp only [Env.add, List.mem_append] at hv
        rcases hv with hv | hv
        · exact hc.one v hv
        · simp only [Vec.den, Vec.app, List.map_append, List.mem_append, List.mem_map] at hv
          rcases hv with ⟨l, hl1, rfl⟩ | ⟨l, hl1, rfl⟩
          · obtain ⟨g1, g2⟩ := a2 l hl1
            unfold St.fits at hst
            simp only [Bool.and_eq_true] at hst
            exact one_cell hs.facts.cnt g1 (List.all_eq_true.1 hst.1 _ g2)
          · obtain ⟨g1, p, g2, g3⟩ := b2 l hl1
            unfold St.fits hpFits at hst
            simp only [Bool.and_eq_true] at hst
            exact one_cell hs.facts.cnt g1 (List.all_eq_true.1 (List.all_eq_true.1 hst.2 _ g2) _ g3)
      have hsub : ∀ id, id ∈ idsh → id ∈ ids := fun id hid => hi.subset hid
      have hidAt : ∀ n, n < idsh.length → idAt ids n = idAt idsh n := fun n hn => idAt_pre hi hn
      have hplen : (blksNew base (slotsNew { base with fr := forgetAll base.fr ws } la.slots) la.blks).hp.length = base.hp.length := by rw [hbf.2, hsl.1]
      refine ⟨hone, ⟨?_, ?_⟩⟩
      · refine ⟨by rw [hl]; exact hplen.symm, hs.facts.nod.sublist hi.sublist, ?_, fun id hid => hs.facts.own id (hsub id hid), hs.facts.chg, hok.1, fun b hb => ⟨(hok.2 b hb).1, fun hb2 => (hok.2 b hb).2 (hsub b hb2)⟩, hone⟩
        intro n ty cs hn
        have hnlt : n < idsh.length := by
          rw [hl, ← hplen]
          rcases Nat.lt_or_ge n (blksNew base (slotsNew { base with fr := forgetAll base.fr ws } la.slots) la.blks).hp.length with q | q
          · exact q
          · have hn' := hn
            simp only [St.mem] at hn'
            rw [List.getElem?_eq_none q] at hn'; cases hn'
        obtain ⟨cs2, g1, g2⟩ := hpSame_get la 0 _ _ hhp n ty cs hn
        have g3 := hs.facts.blk n ty cs2 g1
        rw [hidAt n hnlt] at g3
        rw [g3]
        congr 2
        congr 1
        rcases b3 n ty cs hn with ⟨_, ty', cs', c2, c3, _, _⟩ | ⟨c1, c2⟩
        · rw [c2] at g1
          simp only [Option.some.injEq, Prod.mk.injEq] at g1
          obtain ⟨_, rfl⟩ := g1
          exact c3.symm
        · rcases g2 with g2 | g2
          · simp only [Nat.zero_add] at g2
            exact absurd (by simpa using g2) c1
          · rw [hsl.1] at c2
            have hfc := fits_hp hfit c2
            obtain ⟨x0, rfl⟩ := hρ
            rw [sameL_den _ _ g2, cellsDen_add hc.cnt hi hl hfc, cellsDen_add hc.cnt (List.prefix_refl _) hl hfc]
      · have hlen : a.tmps.size = (blksNew base (slotsNew { base with fr := forgetAll base.fr ws } la.slots) la.blks).fr.length := by
          rw [hs.act.size, frSame_len la 0 _ _ hfr]
        refine ⟨hs.act.defers, hlen, fun j p hj hne => ?_⟩
        have hj' := hj
        rw [hbf.1] at hj'
        rcases a3 j p hj' with ⟨_, l, l', rfl, c2, c3, c4⟩ | ⟨c1, c2⟩
        · rw [hs.act.at_ j _ c2 (by simp)]
          simp only [SV.den]
          rw [← c3, add_app]
          congr 1
          exact (LV.den_add a1 (List.prefix_refl _) hl c4).symm
        · obtain ⟨q, g1, g2⟩ := frSame_get la 0 _ _ hfr j p hj hne (by simpa using c1)
          have hq : q ≠ .dead := by
            intro e; subst e; cases p <;> simp [SV.same] at g2
          rw [hs.act.at_ j q g1 hq, SV.same_den _ _ g2]
          have hbase := forget_get ws base.fr j p c2 hne
          unfold St.fits at hfit
          simp only [Bool.and_eq_true] at hfit
          have hfp := List.all_eq_true.1 hfit.1 p (List.mem_of_getElem? hbase)
          obtain ⟨x0, rfl⟩ := hρ
          rw [SV.den_add hc.cnt hi hl hfp, SV.den_add hc.cnt (List.prefix_refl _) hl hfp]
    · cases h
  · cases h
theorem new_step {p st : St} {ρ1 : Env} {idsp : List Nat} {m : Nat} {hx hx' : HX} {a : Act} {w : World} (hi : idsh <+: ids) (hm : idsh.length = m) (hpre : idsh <+: idsp) (hs : Sit C st ρ ids hx a w) (hp : Sit C p ρ1 idsp hx' a w) (hst : st.fits = true) (hfit : p.fits = true) {s n t : Nat} {cs : List LV} {ks : List K} {x : Vec}
    (h1 : st.fr[s]? = some (.lf (.ptr n 0))) (h2 : st.hp[n]? = some (t, cs)) (h3 : takeLs m ks cs = some x) (hb : idAt ids n ∉ idsp) (hbF : ¬ hx'.F (idAt ids n)) :
    EnvOk (ρ1.add (x.den ρ ids)) (mkKs p.c ks).2 ∧ Sit C ⟨p.fr.set s (.lf (.ptr p.hp.length 0)), p.hp ++ [(t, (mkKs p.c ks).1)], (mkKs p.c ks).2⟩ (ρ1.add (x.den ρ ids)) (idsp ++ [idAt ids n]) hx' a w := by
  have hc : ρ1.cnt = p.c := hp.facts.cnt.cnt
  obtain ⟨a1, a2, a3, a4⟩ := leaves_take (ρ := ρ) (ρc := ρ1) hi hm h3
  rw [hc] at a1 a2 a3
  have hlen : idsp.length = p.hp.length := hp.facts.len
  have hn : n < ids.length := by
    rw [hs.facts.len]
    rcases Nat.lt_or_ge n st.hp.length with q | q
    · exact q
    · rw [List.getElem?_eq_none q] at h2; cases h2
  have hmem := idAt_mem hn
  have hone : EnvOk (ρ1.add (x.den ρ ids)) (mkKs p.c ks).2 := by
    refine ⟨a2, fun v hv => ?_⟩
    simp only [Env.add, List.mem_append] at hv
    rcases hv with hv | hv
    · exact hp.facts.cnt.one v hv
    · simp only [Vec.den, List.mem_map] at hv
      obtain ⟨l, hl1, rfl⟩ := hv
      obtain ⟨g1, g2⟩ := a4 l hl1
      exact one_cell hs.facts.cnt g2 (List.all_eq_true.1 (fits_hp hst h2) _ g1)
  have happ : idsp <+: idsp ++ [idAt ids n] := List.prefix_append _ _
  have hlast : idAt (idsp ++ [idAt ids n]) p.hp.length = idAt ids n := by
    unfold idAt
    rw [List.getD_eq_getElem?_getD, ← hlen, List.getElem?_append_right (Nat.le_refl _), Nat.sub_self]; rfl
  refine ⟨hone, ⟨⟨by simp [St.mem, hlen], ?_, ?_, ?_, hp.facts.chg, hp.facts.x, fun b hb2 => ⟨(hp.facts.sep b hb2).1, ?_⟩, hone⟩, ⟨hp.act.defers, by rw [hp.act.size]; simp, fun j q hj hne => ?_⟩⟩⟩
  · refine List.nodup_append.2 ⟨hp.facts.nod, by simp, fun y hy z hz => ?_⟩
    rw [List.mem_singleton] at hz
    subst hz
    intro e
    subst e
    exact hb hy
  · intro k ty cs2 hk
    simp only [St.mem] at hk
    rcases Nat.lt_or_ge k p.hp.length with q | q
    · rw [List.getElem?_append_left q] at hk
      rw [idAt_pre happ (by rw [hlen]; exact q), cellsDen_add hc happ hlen (fits_hp hfit hk)]
      exact hp.facts.blk k ty cs2 hk
    · have hk2 : k = p.hp.length := by
        have := (List.getElem?_eq_some_iff.1 hk).1
        simp only [List.length_append, List.length_cons, List.length_nil] at this
        omega
      subst hk2
      rw [List.getElem?_append_right (Nat.le_refl _), Nat.sub_self] at hk
      simp only [List.getElem?_cons_zero, Option.some.injEq, Prod.mk.injEq] at hk
      obtain ⟨rfl, rfl⟩ := hk
      rw [hlast]
      have e1 : cellsDen (ρ1.add (x.den ρ ids)) (idsp ++ [idAt ids n]) (mkKs p.c ks).1 = cellsDen ρ ids cs := by
        rw [← a1]
        have := cellsDen_add (x := Vals.nil) a2 (hpre.trans happ) hm a3
        rw [Env.add_nil] at this
        exact this
      rw [e1]
      exact hs.facts.blk n t cs h2
  · intro id hid
    rcases List.mem_append.1 hid with hid | hid
    · exact hp.facts.own id hid
    · rw [List.mem_singleton.1 hid]; exact hs.facts.own _ hmem
  · intro q
    rcases List.mem_append.1 q with q | q
    · exact (hp.facts.sep b hb2).2 q
    · rw [List.mem_singleton.1 q] at hb2; exact hbF hb2
  · simp only [List.getElem?_set] at hj
    split at hj
    · rename_i e
      subst e
      split at hj
      · cases hj
        rw [hs.act.at_ _ _ h1 (by simp)]
        simp only [SV.den, LV.den]
        rw [hlast]
      · cases hj
    · have hfq : q.fits p.c p.hp.length = true := by
        unfold St.fits at hfit
        simp only [Bool.and_eq_true] at hfit
        exact List.all_eq_true.1 hfit.1 q (List.mem_of_getElem? hj)
      rw [hp.act.at_ j q hj hne, SV.den_add hc happ hlen hfq]
theorem news_ok {T : Tab} {st : St} {hx hx' : HX} {a : Act} {w : World} {m : Nat} (hi : idsh <+: ids) (hm : idsh.length = m) (hs : Sit C st ρ ids hx a w) (hst : st.fits = true) (hok : HXok hx' w ids) : ∀ {nw : List (Nat × Nat)} {p q : St} {ρ1 : Env} {idsp used : List Nat} {y : Vec}, joinNew T p nw = some q → newsTake T m st used nw = some y → idsh <+: idsp → (∀ n, m ≤ n → n < ids.length → used.contains n = false → idAt ids n ∉ idsp) → Sit C p ρ1 idsp hx' a w →
    ∃ idsq, idsp <+: idsq ∧ EnvOk (ρ1.add (y.den ρ ids)) q.c ∧ Sit C q (ρ1.add (y.den ρ ids)) idsq hx' a w
  | [], p, q, ρ1, idsp, used, y, h, h2, hpre, hfree, hp => by
    simp only [joinNew, Option.some.injEq] at h
    simp only [newsTake, Option.some.injEq] at h2
    subst h h2
    rw [vec_nil, Env.add_nil]
    exact ⟨idsp, List.prefix_refl _, hp.facts.cnt, hp⟩
  | (s, t) :: r, p, q, ρ1, idsp, used, y, h, h2, hpre, hfree, hp => by
    simp only [joinNew] at h
    split at h
    · rename_i hfit
      simp only [newsTake] at h2
      split at h2
      · rename_i n hn
        split at h2
        · rename_i hcond
          simp only [Bool.and_eq_true, Bool.not_eq_true'] at hcond
          obtain ⟨hle, hun⟩ := hcond
          have hle : m ≤ n := Nat.le_of_ble_eq_true hle
          split at h2
          · rename_i t' cs hcs
            split at h2
            · rename_i et
              subst et
              split at h2
              · rename_i x y2 hx1 hy2
                cases h2
                have hnl : n < ids.length := by
                  rw [hs.facts.len]
                  exact (List.getElem?_eq_some_iff.1 hcs).1
                obtain ⟨g1, g2⟩ := new_step hi hm hpre hs hp hst hfit hn hcs hx1 (hfree n hle hnl hun) (fun hF => (hok.2 _ hF).2 (idAt_mem hnl))
                obtain ⟨idsq, k1, k2, k3⟩ := news_ok hi hm hs hst hok (idsp := idsp ++ [idAt ids n]) (used := n :: used) h hy2 (hpre.trans (List.prefix_append _ _)) (fun k hk1 hk2 hk3 => by
                  simp only [List.contains_cons, Bool.or_eq_false_iff] at hk3
                  intro hin
                  rcases List.mem_append.1 hin with hin | hin
                  · exact hfree k hk1 hk2 hk3.2 hin
                  · have := idAt_inj hs.facts.nod hk2 hnl (List.mem_singleton.1 hin)
                    subst this
                    simp at hk3) g2
                rw [add_app]
                exact ⟨idsq, (List.prefix_append _ _).trans k1, k2, k3⟩
              · cases h2
            · cases h2
          · cases h2
        · cases h2
      · cases h2
    · cases h
theorem meetN_ok {T : Tab} {base st qst : St} {la : LAnn} {ws : List Nat} {nw : List (Nat × Nat)} {es : Vec} {ρh : Env} {hx : HX} {a : Act} {w : World} (h : meetN T base (havoc base la ws) st la nw = some es) (hq : joinNew T (havoc base la ws) nw = some qst) (hfit : base.fits = true) (hc : EnvOk ρh base.c)
    (hl : idsh.length = base.hp.length) (hi : idsh <+: ids) (hρ : ∃ x, ρ = ρh.add x) (hs : Sit C st ρ ids hx a w) (hx' : HX) (hok : HXok hx' w ids) :
    ∃ idsq, idsh <+: idsq ∧ EnvOk (ρh.add (es.den ρ ids)) qst.c ∧ Sit C qst (ρh.add (es.den ρ ids)) idsq hx' a w := by
  unfold meetN at h
  split at h
  · rename_i x y h1 h2
    cases h
    have hst : st.fits = true := by
      unfold meet at h1
      split at h1
      · rename_i hcond
        simp only [Bool.and_eq_true] at hcond
        exact hcond.1.2
      · cases h1
    obtain ⟨g1, g2⟩ := meet_ok h1 hfit hc hl hi hρ hs hx' hok
    obtain ⟨idsq, k1, k2, k3⟩ := news_ok hi hl hs hst hok hq h2 (List.prefix_refl _) (fun n hn hn2 _ hin => by
      obtain ⟨j, hj⟩ := List.mem_iff_getElem?.1 hin
      have hjl := (List.getElem?_eq_some_iff.1 hj).1
      have e : idAt ids j = idAt ids n := by
        rw [idAt_pre hi hjl]
        unfold idAt
        rw [List.getD_eq_getElem?_getD, hj]; rfl
      have hjl2 : j < ids.length := Nat.lt_of_lt_of_le hjl hi.length_le
      have := idAt_inj hs.facts.nod hjl2 hn2 e
      omega) g2
    rw [add_app]
    exact ⟨idsq, k1, k2, k3⟩
  · cases h
end
end Go.Eng

namespace Go.Eng
set_option linter.unusedVariables false
set_option linter.unusedSimpArgs false

theorem wp_loop_ix {P : Program} {Q : Exit → Act → World → Prop} {a : Act} {w : World} {c : Code} (I : Nat → Act → World → Prop) (n0 : Nat) (h₀ : I n0 a w)
    (round : ∀ n a w, I n a w → c.wp P (Exit.then (fun a' w' => ∃ m, m < n ∧ I m a' w') Q) a w) : (Code.loop c).wp P Q a w := by
  intro b k cs
  have key : ∀ n a w, I n a w → ∃ e a' w', Q e a' w' ∧ Arrives P (lone (b.at a (.code c :: .inLoop c :: k)) cs w) b k cs e a' w' := by
    intro n
    induction n using Nat.strongRecOn with
    | _ n ih =>
      intro a w hI
      obtain ⟨e, a₁, w₁, hq, harr⟩ := round n a w hI b (.inLoop c :: k) cs
      cases e with
      | normal =>
        obtain ⟨m, hlt, hI₁⟩ := hq
        obtain ⟨e₂, a₂, w₂, hq₂, harr₂⟩ := ih m hlt a₁ w₁ hI₁
        exact ⟨e₂, a₂, w₂, hq₂, .of_steps (Steps.trans harr (.one step_inLoop)) harr₂⟩
      | exit id => exact ⟨_, a₁, w₁, hq, .pass (x := .inLoop c) rfl (fun _ _ => .inl (by simp)) harr⟩
      | goto l => exact ⟨_, a₁, w₁, hq, .pass (x := .inLoop c) rfl (fun _ _ => .inl (by simp)) harr⟩
      | ret => exact ⟨_, a₁, w₁, hq, .pass (x := .inLoop c) rfl (fun _ _ => .inl (by simp)) harr⟩
      | panic ch => exact ⟨_, a₁, w₁, hq, .pass (x := .inLoop c) rfl (fun _ _ => .inl (by simp)) harr⟩
      | outgrown => exact ⟨_, a₁, w₁, hq, .pass (x := .inLoop c) rfl (fun _ _ => .inl (by simp)) harr⟩
  obtain ⟨e, a', w', hq, harr⟩ := key _ a w h₀
  exact ⟨e, a', w', hq, .of_steps (.one step_loop) harr⟩

def LW (P : Program) (c : Code) (Q : Exit → Act → World → Prop) : Nat → Act → World → Prop
  | 0, _, _ => False
  | m + 1, a, w => c.wp P (Exit.then (LW P c Q m) Q) a w
theorem LW.wp {P : Program} {c : Code} {Q : Exit → Act → World → Prop} {m : Nat} {a : Act} {w : World} (h : LW P c Q m a w) : (Code.loop c).wp P Q a w := by
  refine wp_loop_ix (fun n a w => LW P c Q n a w) m h ?_
  intro n a w hn
  cases n with
  | zero => exact hn.elim
  | succ n =>
    refine Code.wp_mono (fun e a w he => ?_) hn
    cases e <;> first | exact ⟨n, Nat.lt_succ_self n, he⟩ | exact he
def JQ (P : Program) (c : Code) (Q : Exit → Act → World → Prop) : Nat → Exit → Act → World → Prop
  | 0, .goto _, _, _ => False
  | m + 1, .goto l, a, w => ∃ rest, findLabel c l = some rest ∧ rest.wp P (JQ P c Q m) a w
  | _, e, a, w => Q e a w
theorem JQ.wp {P : Program} {c : Code} {Q : Exit → Act → World → Prop} {m : Nat} {a : Act} {w : World} (h : c.wp P (JQ P c Q m) a w) : (Code.scope c).wp P Q a w := by
  intro b k cs
  have key : ∀ (m : Nat) (x : Code) (a : Act) (w : World), x.wp P (JQ P c Q m) a w → ∃ e a' w', Q e a' w' ∧ Arrives P (lone (b.at a (.code x :: .inScope c :: k)) cs w) b k cs e a' w' := by
    intro m
    induction m with
    | zero =>
      intro x a w h
      obtain ⟨e, a₁, w₁, hq, harr⟩ := h b (.inScope c :: k) cs
      cases e with
      | normal => exact ⟨.normal, a₁, w₁, hq, Steps.trans harr (.one step_inScope)⟩
      | exit id => exact ⟨.exit id, a₁, w₁, hq, fun k' hk => harr k' (by simp [exitTo, hk])⟩
      | goto l => exact hq.elim
      | ret => exact ⟨_, a₁, w₁, hq, harr⟩
      | panic ch => exact ⟨_, a₁, w₁, hq, harr⟩
      | outgrown => exact ⟨_, a₁, w₁, hq, harr⟩
    | succ m ih =>
      intro x a w h
      obtain ⟨e, a₁, w₁, hq, harr⟩ := h b (.inScope c :: k) cs
      cases e with
      | normal => exact ⟨.normal, a₁, w₁, hq, Steps.trans harr (.one step_inScope)⟩
      | exit id => exact ⟨.exit id, a₁, w₁, hq, fun k' hk => harr k' (by simp [exitTo, hk])⟩
      | goto l =>
        obtain ⟨rest, hf, hr⟩ := hq
        obtain ⟨e₂, a₂, w₂, hq₂, harr₂⟩ := ih rest a₁ w₁ hr
        have hg : gotoIn l (.inScope c :: k) = some (.code rest :: .inScope c :: k) := by simp [gotoIn, hf]
        exact ⟨e₂, a₂, w₂, hq₂, .of_steps (harr _ hg) harr₂⟩
      | ret => exact ⟨_, a₁, w₁, hq, harr⟩
      | panic ch => exact ⟨_, a₁, w₁, hq, harr⟩
      | outgrown => exact ⟨_, a₁, w₁, hq, harr⟩
  obtain ⟨e, a', w', hq, harr⟩ := key m c a w h
  exact ⟨e, a', w', hq, .of_steps (.one step_scope) harr⟩
def SL (P : Program) (l : Nat) (rest : Code) (Q : Exit → Act → World → Prop) (a : Act) (w : World) : Prop :=
  ∃ (J : Nat → Act → World → Prop) (n0 : Nat), J n0 a w ∧ ∀ n a w, J n a w → rest.wp P (fun e a' w' => match e with | .goto l' => l' = l ∧ ∃ m, m < n ∧ J m a' w' | e => Q e a' w') a w
theorem scope_gl {P : Program} {c : Code} {Q : Exit → Act → World → Prop} {a : Act} {w : World} (h : c.wp P (fun e a' w' => match e with | .goto l => ∃ rest, findLabel c l = some rest ∧ SL P l rest Q a' w' | e => Q e a' w') a w) : (Code.scope c).wp P Q a w := by
  intro b k cs
  obtain ⟨e, a₁, w₁, hq, harr0⟩ := h b (.inScope c :: k) cs
  cases e with
  | normal => exact ⟨.normal, a₁, w₁, hq, .head step_scope (Steps.trans harr0 (.one step_inScope))⟩
  | exit id => exact ⟨.exit id, a₁, w₁, hq, fun k' hk => .head step_scope (harr0 k' (by simp [exitTo, hk]))⟩
  | goto l =>
    obtain ⟨rest, hf, J, n0, hJ, hr⟩ := hq
    have hg : gotoIn l (.inScope c :: k) = some (.code rest :: .inScope c :: k) := by simp [gotoIn, hf]
    have key : ∀ n a w, J n a w → ∃ e a' w', Q e a' w' ∧ Arrives P (lone (b.at a (.code rest :: .inScope c :: k)) cs w) b k cs e a' w' := by
      intro n
      induction n using Nat.strongRecOn with
      | _ n ih =>
        intro a w hJ
        obtain ⟨e, a₁, w₁, hq, harr⟩ := hr n a w hJ b (.inScope c :: k) cs
        cases e with
        | normal => exact ⟨.normal, a₁, w₁, hq, Steps.trans harr (.one step_inScope)⟩
        | exit id => exact ⟨.exit id, a₁, w₁, hq, fun k' hk => harr k' (by simp [exitTo, hk])⟩
        | goto l' =>
          obtain ⟨rfl, m, hlt, hJ'⟩ := hq
          obtain ⟨e₂, a₂, w₂, hq₂, harr₂⟩ := ih m hlt a₁ w₁ hJ'
          exact ⟨e₂, a₂, w₂, hq₂, .of_steps (harr _ hg) harr₂⟩
        | ret => exact ⟨_, a₁, w₁, hq, harr⟩
        | panic ch => exact ⟨_, a₁, w₁, hq, harr⟩
        | outgrown => exact ⟨_, a₁, w₁, hq, harr⟩
    obtain ⟨e₂, a₂, w₂, hq₂, harr₂⟩ := key n0 a₁ w₁ hJ
    exact ⟨e₂, a₂, w₂, hq₂, .of_steps (.head step_scope (harr0 _ hg)) harr₂⟩
  | ret => exact ⟨_, a₁, w₁, hq, .of_steps (.one step_scope) harr0⟩
  | panic ch => exact ⟨_, a₁, w₁, hq, .of_steps (.one step_scope) harr0⟩
  | outgrown => exact ⟨_, a₁, w₁, hq, .of_steps (.one step_scope) harr0⟩
def Ex.to : Ex → Exit
  | .normal => .normal
  | .exit id => .exit id
  | .ret => .ret
  | .goto l => .goto l
section
variable {C : Cfg} {T : Tab}
def Goes (C : Cfg) (ks : List Nat) (k : Ex → St → Tree) (ρ0 : Env) (ids0 : List Nat) (L : Stack) (Q : Exit → Act → World → Prop) : Prop :=
  ∀ e st' ρ' pre' ids' hx' a' w' L', (∀ j, j ∈ ks → lkup j L' = lkup j L) → (k e st').holds C ρ' pre' hx' L' → pre' <+: ids' → Sit C st' ρ' ids' hx' a' w' → ids0 <+: ids' → (∃ x, ρ' = ρ0.add x) → Q e.to a' w'
theorem Goes.up {ks : List Nat} {k : Ex → St → Tree} {ρ0 : Env} {ids0 : List Nat} {L : Stack} {Q : Exit → Act → World → Prop} (h : Goes C ks k ρ0 ids0 L Q) {ρ1 : Env} {ids1 : List Nat} (hi : ids0 <+: ids1) (hρ : ∃ x, ρ1 = ρ0.add x) : Goes C ks k ρ1 ids1 L Q :=
  fun e st' ρ' pre' ids' hx' a' w' L' hL hh hp hs hi' hρ' => h e st' ρ' pre' ids' hx' a' w' L' hL hh hp hs (hi.trans hi') (by
    obtain ⟨x, rfl⟩ := hρ
    obtain ⟨y, rfl⟩ := hρ'
    exact Env.add_add ρ0 x y)
theorem refl_add (ρ : Env) : ∃ x, ρ = ρ.add x := ⟨Vals.nil, (Env.add_nil ρ).symm⟩
theorem lkup_cons_ne {α : Type} {j key : Nat} {x : α} {L : List (Nat × α)} (h : key ≠ j) : lkup j ((key, x) :: L) = lkup j L := by
  simp only [lkup, if_neg h]
theorem run_ok (hT : TabOk C.P T) : ∀ (n : Nat) (ks : List Nat) (c : Code) (st : St) (k : Ex → St → Tree) (ρ : Env) (pre ids : List Nat) (hx : HX) (L : Stack) (a : Act) (w : World) (Q : Exit → Act → World → Prop),
    (run T n ks c st k).holds C ρ pre hx L → pre <+: ids → Sit C st ρ ids hx a w → Goes C ks k ρ ids L Q → c.wp C.P Q a w
  | 0, _, _, _, _, _, _, _, _, _, _, _, _, h, _, _, _ => by simp only [run] at h; exact h.elim
  | n + 1, ks, c, st, k, ρ, pre, ids, hx, L, a, w, Q, h, hp, hs, hk => by
    have here : ∀ e : Ex, (k e st).holds C ρ pre hx L → Q e.to a w := fun e hh => hk e st ρ pre ids hx a w L (fun _ _ => rfl) hh hp hs (List.prefix_refl _) (refl_add ρ)
    unfold run at h
    split at h
    · exact wp_skip (here .normal h)
    · exact wp_label (here .normal h)
    · rename_i id ops draw
      split at h
      · rename_i hd
        subst hd
        split at h
        · rename_i hq
          simp only [Bool.and_eq_true] at hq
          exact region_quiet hT hq.2 (runQ_ok hT (ρ0 := ρ) (ids0 := ids) (fun st' ρ' pre' ids' hx' a' hh hp' hs' hi' hρ' w' e => hk .normal st' ρ' pre' ids' hx' a' w' L (fun _ _ => rfl) hh hp' ⟨hs'.facts.cells_at e.heap e.os e.tape e.output, hs'.act⟩ hi' hρ') 400 ops ops.toList st ρ pre ids hx a h hp hs (List.prefix_refl _) (refl_add ρ))
        split at h
        · rename_i hcond
          simp only [Bool.and_eq_true] at hcond
          have hpost : ∀ e a w, onlyNormal Q e a w → Q e a w := fun e a w hh => by
            cases e <;> first | exact hh | exact hh.elim
          have hs1 : Sit C st ρ ids hx a { w with drawn := w.drawn + 1 } := ⟨hs.facts.cells_at rfl rfl rfl rfl, hs.act⟩
          refine Code.wp_mono hpost (wp_region_held (S := StayL C ((lkup id T.ann.wr).getD (autoWr T ops st)) st.hp ρ ids hx { w with drawn := w.drawn + 1 }) hT.mixed ?_)
          refine runL_ok (Q := Q) hT hs1.facts.x hcond.2.2 hcond.2.1 hs.facts.cnt.cnt hs.facts.len (fun st' ρ' pre' ids' a' w' hh hp' hs' hi' hρ' => hk .normal st' ρ' pre' ids' hx a' w' L (fun _ _ => rfl) hh hp' hs' hi' hρ') 400 _ st ρ pre ids a _ ops.size h hp ?_ (List.prefix_refl _) (refl_add ρ) ?_ ?_
          · exact ⟨hs1.facts.frz, hs1.act⟩
          · exact fun n ty cs _ hn => ⟨cs, hn, fun _ _ => rfl⟩
          · unfold unl
            have := List.countP_le_length (p := fun b => !b) (l := (Array.replicate ops.size false).toList)
            simpa using this
        split at h
        · rename_i hcond
          simp only [Bool.and_eq_true] at hcond
          have hpost : ∀ e a w, onlyNormal Q e a w → Q e a w := fun e a w hh => by
            cases e <;> first | exact hh | exact hh.elim
          refine Code.wp_mono hpost (wp_region_held (S := Stay ((lkup id T.ann.wr).getD (autoWr T ops st)) st.hp ρ ids) hT.mixed ?_)
          refine runD_ok (Q := Q) (T := T.plain id) (hT.plain id) hcond.2 hcond.1 hs.facts.cnt.cnt hs.facts.len (fun st' ρ' pre' ids' hx' a' w' hh hp' hs' hi' hρ' => hk .normal st' ρ' pre' ids' hx' a' w' L (fun _ _ => rfl) hh hp' hs' hi' hρ') 400 _ st ρ pre ids hx a _ ops.size h hp ?_ (List.prefix_refl _) (refl_add ρ) ?_ ?_
          · exact ⟨hs.facts.cells_at rfl rfl rfl rfl, hs.act⟩
          · exact fun n ty cs _ hn => ⟨cs, hn, fun _ _ => rfl⟩
          · unfold unl
            have := List.countP_le_length (p := fun b => !b) (l := (Array.replicate ops.size false).toList)
            simpa using this
        · exact h.elim
      · rename_i hd
        have hd' : draw = false := by simpa using hd
        subst hd'
        refine wp_region_list (runOps_ok hT (ρ0 := ρ) (ids0 := ids) (fun st' ρ' pre' ids' hx' a' w' hh hp' hs' hi' hρ' => hk .normal st' ρ' pre' ids' hx' a' w' L (fun _ _ => rfl) hh hp' hs' hi' hρ') 400 ops ops.toList st ρ pre ids hx a w h hp hs (List.prefix_refl _) (refl_add ρ))
    · rename_i x y
      split at h
      · refine wp_seq (run_ok hT n ks x st _ ρ pre ids hx L a w _ h hp hs ?_)
        intro e st' ρ' pre' ids' hx' a' w' L' hL hh hp' hs' hi' hρ'
        cases e with
        | normal =>
          exact run_ok hT n ks y st' k ρ' pre' ids' hx' L' a' w' Q hh hp' hs' (fun e2 st2 ρ2 pre2 ids2 hx2 a2 w2 L2 hL2 hh2 hp2 hs2 hi2 hρ2 =>
            (hk.up hi' hρ') e2 st2 ρ2 pre2 ids2 hx2 a2 w2 L2 (fun j hj => (hL2 j hj).trans (hL j hj)) hh2 hp2 hs2 hi2 hρ2)
        | exit j => exact hk (.exit j) st' ρ' pre' ids' hx' a' w' L' hL hh hp' hs' hi' hρ'
        | ret => exact hk .ret st' ρ' pre' ids' hx' a' w' L' hL hh hp' hs' hi' hρ'
        | goto l => exact hk (.goto l) st' ρ' pre' ids' hx' a' w' L' hL hh hp' hs' hi' hρ'
      · rename_i key la _
        split at h
        · rename_i hcond
          simp only [Bool.and_eq_true, Bool.not_eq_true'] at hcond
          obtain ⟨⟨_, hfit⟩, hkey⟩ := hcond
          have hne : ∀ j, j ∈ ks → key ≠ j := fun j hj e => by subst e; simp [hj] at hkey
          simp only at h
          split at h
          · obtain ⟨I, hA, hB⟩ := h
            refine wp_seq (run_ok hT n (key :: ks) x st _ ρ pre ids hx ((key, I) :: L) a w _ hA hp hs ?_)
            intro e st' ρ' pre' ids' hx' a' w' L' hL hh hp' hs' hi' hρ'
            have hLk : ∀ j, j ∈ ks → lkup j L' = lkup j L := fun j hj => (hL j (by simp [hj])).trans (lkup_cons_ne (hne j hj))
            cases e with
            | normal =>
              simp only at hh
              split at hh
              · rename_i es hes
                obtain ⟨hx2, hok, I2, hI2, hI3⟩ := hh ids' w' hp' hs'.facts
                rw [hL key (by simp)] at hI2
                simp only [lkup, if_true, Option.some.injEq] at hI2
                subst hI2
                obtain ⟨hcnt, hs2⟩ := meet_ok hes hfit hs.facts.cnt hs.facts.len hi' hρ' hs' hx2 hok
                exact run_ok hT n ks y (havoc st la (writes x)) k (ρ.add (es.den ρ' ids')) pre ids hx2 L a' w' Q (hB _ hx2 hcnt hI3) hp hs2 (hk.up (List.prefix_refl _) ⟨_, rfl⟩)
              · exact hh.elim
            | exit j => exact hk (.exit j) st' ρ' pre' ids' hx' a' w' L' hLk hh hp' hs' hi' hρ'
            | ret => exact hk .ret st' ρ' pre' ids' hx' a' w' L' hLk hh hp' hs' hi' hρ'
            | goto l => exact hk (.goto l) st' ρ' pre' ids' hx' a' w' L' hLk hh hp' hs' hi' hρ'
          · rename_i nw _
            split at h
            · exact h.elim
            · rename_i qst hq
              obtain ⟨I, hA, hB⟩ := h
              refine wp_seq (run_ok hT n (key :: ks) x st _ ρ pre ids hx ((key, I) :: L) a w _ hA hp hs ?_)
              intro e st' ρ' pre' ids' hx' a' w' L' hL hh hp' hs' hi' hρ'
              have hLk : ∀ j, j ∈ ks → lkup j L' = lkup j L := fun j hj => (hL j (by simp [hj])).trans (lkup_cons_ne (hne j hj))
              cases e with
              | normal =>
                simp only at hh
                split at hh
                · rename_i es hes
                  obtain ⟨hx2, hok, I2, hI2, hI3⟩ := hh ids' w' hp' hs'.facts
                  rw [hL key (by simp)] at hI2
                  simp only [lkup, if_true, Option.some.injEq] at hI2
                  subst hI2
                  obtain ⟨idsq, hiq, hcnt, hs2⟩ := meetN_ok hes hq hfit hs.facts.cnt hs.facts.len hi' hρ' hs' hx2 hok
                  exact run_ok hT n ks y qst k (ρ.add (es.den ρ' ids')) pre idsq hx2 L a' w' Q (hB _ hx2 hcnt hI3) (hp.trans hiq) hs2 (hk.up hiq ⟨_, rfl⟩)
                · exact hh.elim
              | exit j => exact hk (.exit j) st' ρ' pre' ids' hx' a' w' L' hLk hh hp' hs' hi' hρ'
              | ret => exact hk .ret st' ρ' pre' ids' hx' a' w' L' hLk hh hp' hs' hi' hρ'
              | goto l => exact hk (.goto l) st' ρ' pre' ids' hx' a' w' L' hLk hh hp' hs' hi' hρ'
        · exact h.elim
    · rename_i x y z
      split at h
      · rename_i r hr
        have h1 := ev_ok hs.act (evL_ev hr)
        have h2 : a.eval x = .bool r := h1
        refine wp_cond h2 ?_
        have := run_ok hT n ks (if r then y else z) st k ρ pre ids hx L a w Q h hp hs hk
        exact this
      · rename_i b _ hr
        have h1 := ev_ok hs.act (evL_ev hr)
        have h2 : a.eval x = .bool (b.den ρ) := h1
        refine wp_cond h2 ?_
        cases hd : b.den ρ with
        | true => exact run_ok hT n ks y (st.assume b true) k ρ pre ids hx L a w Q (h.1 hd) hp ⟨hs.facts, hs.act.assume hd⟩ hk
        | false => exact run_ok hT n ks z (st.assume b false) k ρ pre ids hx L a w Q (h.2 hd) hp ⟨hs.facts, hs.act.assume hd⟩ hk
      · exact h.elim
    · rename_i id x
      refine wp_block (run_ok hT n ks x st _ ρ pre ids hx L a w _ h hp hs ?_)
      intro e st' ρ' pre' ids' hx' a' w' L' hL hh hp' hs' hi' hρ'
      cases e with
      | normal => exact hk .normal st' ρ' pre' ids' hx' a' w' L' hL hh hp' hs' hi' hρ'
      | exit j =>
        simp only at hh
        show (if j = id then Q .normal a' w' else Q (.exit j) a' w')
        split at hh
        · rename_i e; rw [if_pos e]; exact hk .normal st' ρ' pre' ids' hx' a' w' L' hL hh hp' hs' hi' hρ'
        · rename_i e; rw [if_neg e]; exact hk (.exit j) st' ρ' pre' ids' hx' a' w' L' hL hh hp' hs' hi' hρ'
      | ret => exact hk .ret st' ρ' pre' ids' hx' a' w' L' hL hh hp' hs' hi' hρ'
      | goto l => exact hk (.goto l) st' ρ' pre' ids' hx' a' w' L' hL hh hp' hs' hi' hρ'
    · rename_i x
      split at h
      · split at h
        · have key : ∀ (m : Nat) (st : St) (ρ' : Env) (pre' ids' : List Nat) (hx' : HX) (L' : Stack) (a' : Act) (w' : World),
              (iter (fun st next => run T n ks x st fun e st' => match e with | .normal => next st' | e => k e st') m st).holds C ρ' pre' hx' L' → pre' <+: ids' → Sit C st ρ' ids' hx' a' w' → ids <+: ids' → (∃ z, ρ' = ρ.add z) → (∀ j, j ∈ ks → lkup j L' = lkup j L) → LW C.P x Q m a' w' := by
            intro m
            induction m with
            | zero => intro st ρ' pre' ids' hx' L' a' w' h' _ _ _ _ _; exact h'.elim
            | succ m ih =>
              intro st ρ' pre' ids' hx' L' a' w' h' hp' hs' hi' hρ' hL'
              refine run_ok hT n ks x st _ ρ' pre' ids' hx' L' a' w' _ h' hp' hs' ?_
              intro e st2 ρ2 pre2 ids2 hx2 a2 w2 L2 hL2 hh2 hp2 hs2 hi2 hρ2
              have hρ3 : ∃ z, ρ2 = ρ.add z := by
                obtain ⟨y, rfl⟩ := hρ'
                obtain ⟨z, rfl⟩ := hρ2
                exact Env.add_add ρ y z
              have hL3 : ∀ j, j ∈ ks → lkup j L2 = lkup j L := fun j hj => (hL2 j hj).trans (hL' j hj)
              cases e with
              | normal => exact ih st2 ρ2 pre2 ids2 hx2 L2 a2 w2 hh2 hp2 hs2 (hi'.trans hi2) hρ3 hL3
              | exit j => exact hk (.exit j) st2 ρ2 pre2 ids2 hx2 a2 w2 L2 hL3 hh2 hp2 hs2 (hi'.trans hi2) hρ3
              | ret => exact hk .ret st2 ρ2 pre2 ids2 hx2 a2 w2 L2 hL3 hh2 hp2 hs2 (hi'.trans hi2) hρ3
              | goto l => exact hk (.goto l) st2 ρ2 pre2 ids2 hx2 a2 w2 L2 hL3 hh2 hp2 hs2 (hi'.trans hi2) hρ3
          exact (key T.ann.rounds st ρ pre ids hx L a w h hp hs (List.prefix_refl _) (refl_add ρ) (fun _ _ => rfl)).wp
        · exact h.elim
      · rename_i key la _
        split at h
        · rename_i hcond
          simp only [Bool.and_eq_true, Bool.not_eq_true'] at hcond
          obtain ⟨⟨_, hfit⟩, hkey⟩ := hcond
          have hne : ∀ j, j ∈ ks → key ≠ j := fun j hj e => by subst e; simp [hj] at hkey
          simp only at h
          split at h
          · exact h.elim
          · rename_i es0 hes0
            obtain ⟨I, h0, hround⟩ := h
            obtain ⟨hx0, n0, hok0, hI0⟩ := h0 ids w hp hs.facts
            obtain ⟨hcnt0, hs0⟩ := meet_ok hes0 hfit hs.facts.cnt hs.facts.len (List.prefix_refl _) (refl_add ρ) hs hx0 hok0
            refine wp_loop_ix (fun m a' w' => ∃ vs hx', EnvOk (ρ.add vs) (havoc st la (writes x)).c ∧ I vs hx' m ∧ Sit C (havoc st la (writes x)) (ρ.add vs) ids hx' a' w') n0 ⟨_, hx0, hcnt0, hI0, hs0⟩ ?_
            rintro m a1 w1 ⟨vs, hx1, hcnt1, hI1, hs1⟩
            refine run_ok hT n (key :: ks) x (havoc st la (writes x)) _ (ρ.add vs) pre ids hx1 _ a1 w1 _ (hround vs hx1 m hcnt1 hI1) hp hs1 ?_
            intro e st' ρ' pre' ids' hx' a' w' L' hL hh hp' hs' hi' hρ'
            have hLk : ∀ j, j ∈ ks → lkup j L' = lkup j L := fun j hj => (hL j (by simp [hj])).trans (lkup_cons_ne (hne j hj))
            have hρ2 : ∃ z, ρ' = ρ.add z := by
              obtain ⟨y, rfl⟩ := hρ'
              exact Env.add_add ρ vs y
            cases e with
            | normal =>
              simp only at hh
              split at hh
              · rename_i es hes
                obtain ⟨hx2, hok, I2, hI2, hI3⟩ := hh ids' w' hp' hs'.facts
                rw [hL key (by simp)] at hI2
                simp only [lkup, if_true, Option.some.injEq] at hI2
                subst hI2
                obtain ⟨n2, hlt, hI4⟩ := hI3
                obtain ⟨hcnt, hs2⟩ := meet_ok hes hfit hs.facts.cnt hs.facts.len hi' hρ2 hs' hx2 hok
                exact ⟨n2, hlt, _, hx2, hcnt, hI4, hs2⟩
              · exact hh.elim
            | exit j => exact hk (.exit j) st' ρ' pre' ids' hx' a' w' L' hLk hh hp' hs' hi' hρ2
            | ret => exact hk .ret st' ρ' pre' ids' hx' a' w' L' hLk hh hp' hs' hi' hρ2
            | goto l => exact hk (.goto l) st' ρ' pre' ids' hx' a' w' L' hLk hh hp' hs' hi' hρ2
        · exact h.elim
    · exact wp_exit (here (.exit _) h)
    · exact wp_ret (here .ret h)
    · rename_i x
      split at h
      · have key : ∀ (m : Nat), Goes C ks (jumps (fun l st' k' => match findLabel x l with | some rest => run T n ks rest st' k' | none => .fail "label" l) k m) ρ ids L (JQ C.P x Q m) := by
          intro m
          induction m with
          | zero =>
            intro e st' ρ' pre' ids' hx' a' w' L' hL hh hp' hs' hi' hρ'
            cases e with
            | normal => exact hk .normal st' ρ' pre' ids' hx' a' w' L' hL hh hp' hs' hi' hρ'
            | exit j => exact hk (.exit j) st' ρ' pre' ids' hx' a' w' L' hL hh hp' hs' hi' hρ'
            | ret => exact hk .ret st' ρ' pre' ids' hx' a' w' L' hL hh hp' hs' hi' hρ'
            | goto l => exact hh.elim
          | succ m ih =>
            intro e st' ρ' pre' ids' hx' a' w' L' hL hh hp' hs' hi' hρ'
            cases e with
            | normal => exact hk .normal st' ρ' pre' ids' hx' a' w' L' hL hh hp' hs' hi' hρ'
            | exit j => exact hk (.exit j) st' ρ' pre' ids' hx' a' w' L' hL hh hp' hs' hi' hρ'
            | ret => exact hk .ret st' ρ' pre' ids' hx' a' w' L' hL hh hp' hs' hi' hρ'
            | goto l =>
              simp only [jumps] at hh
              split at hh
              · rename_i rest hf
                refine ⟨rest, hf, run_ok hT n ks rest st' _ ρ' pre' ids' hx' L' a' w' _ hh hp' hs' ?_⟩
                intro e2 st2 ρ2 pre2 ids2 hx2 a2 w2 L2 hL2 hh2 hp2 hs2 hi2 hρ2
                exact (ih.up hi' hρ') e2 st2 ρ2 pre2 ids2 hx2 a2 w2 L2 (fun j hj => (hL2 j hj).trans (hL j hj)) hh2 hp2 hs2 hi2 hρ2
              · exact hh.elim
        exact JQ.wp (m := 3) (run_ok hT n ks x st _ ρ pre ids hx L a w _ h hp hs (key 3))
      · rename_i key la _
        split at h
        · rename_i p l r hxe
          split at h
          · rename_i hfl
            have hfl : findLabel p l = none := by simpa using hfl
            have hf : findLabel (.seq p (.seq (.label l) r)) l = some (.seq .skip r) := by simp [findLabel, hfl]
            refine scope_gl (wp_seq (run_ok hT n ks p st _ ρ pre ids hx L a w _ h hp hs ?_))
            intro e st1 ρ1 pre1 ids1 hx1 a1 w1 L1 hL1 hh1 hp1 hs1 hi1 hρ1
            cases e with
            | exit j => exact hk (.exit j) st1 ρ1 pre1 ids1 hx1 a1 w1 L1 hL1 hh1 hp1 hs1 hi1 hρ1
            | ret => exact hk .ret st1 ρ1 pre1 ids1 hx1 a1 w1 L1 hL1 hh1 hp1 hs1 hi1 hρ1
            | goto l2 => exact hh1.elim
            | normal =>
              simp only at hh1
              split at hh1
              · rename_i hcond
                simp only [Bool.and_eq_true, Bool.not_eq_true'] at hcond
                obtain ⟨⟨_, hfit⟩, hkey⟩ := hcond
                have hne : ∀ j, j ∈ ks → key ≠ j := fun j hj e => by subst e; simp [hj] at hkey
                split at hh1
                · exact hh1.elim
                · rename_i es0 hes0
                  obtain ⟨I, h0, hround⟩ := hh1
                  obtain ⟨hx0, n0, hok0, hI0⟩ := h0 ids1 w1 hp1 hs1.facts
                  obtain ⟨hcnt0, hs0⟩ := meet_ok hes0 hfit hs1.facts.cnt hs1.facts.len (List.prefix_refl _) (refl_add ρ1) hs1 hx0 hok0
                  obtain ⟨J, eJ⟩ : ∃ J : Nat → Act → World → Prop, J = fun m a' w' => ∃ vs hx', EnvOk (ρ1.add vs) (havoc st1 la (writes r)).c ∧ I vs hx' m ∧ Sit C (havoc st1 la (writes r)) (ρ1.add vs) ids1 hx' a' w' := ⟨_, rfl⟩
                  have round : ∀ m a2 w2, J m a2 w2 → r.wp C.P (fun e a' w' => match e with | .goto l' => l' = l ∧ ∃ m2, m2 < m ∧ J m2 a' w' | e => Q e a' w') a2 w2 := by
                    intro m a2 w2 hJ
                    rw [eJ] at hJ
                    obtain ⟨vs, hx2, hcnt2, hI2, hs2⟩ := hJ
                    refine run_ok hT n (key :: ks) r (havoc st1 la (writes r)) _ (ρ1.add vs) pre1 ids1 hx2 _ a2 w2 _ (hround vs hx2 m hcnt2 hI2) hp1 hs2 ?_
                    intro e st' ρ' pre' ids' hx' a' w' L' hL hh hp' hs' hi' hρ'
                    have hLk : ∀ j, j ∈ ks → lkup j L' = lkup j L := fun j hj => (hL j (by simp [hj])).trans ((lkup_cons_ne (hne j hj)).trans (hL1 j hj))
                    have hρ2 : ∃ z, ρ' = ρ1.add z := by
                      obtain ⟨y, rfl⟩ := hρ'
                      exact Env.add_add ρ1 vs y
                    have hρ3 : ∃ z, ρ' = ρ.add z := by
                      obtain ⟨y, rfl⟩ := hρ1
                      obtain ⟨z, rfl⟩ := hρ2
                      exact Env.add_add ρ y z
                    cases e with
                    | goto l2 =>
                      simp only at hh
                      split at hh
                      · rename_i e2
                        split at hh
                        · rename_i es hes
                          obtain ⟨hx3, hok, I2, hI3, hI4⟩ := hh ids' w' hp' hs'.facts
                          rw [hL key (by simp)] at hI3
                          simp only [lkup, if_true, Option.some.injEq] at hI3
                          subst hI3
                          obtain ⟨n2, hlt, hI5⟩ := hI4
                          obtain ⟨hcnt, hs3⟩ := meet_ok hes hfit hs1.facts.cnt hs1.facts.len hi' hρ2 hs' hx3 hok
                          exact ⟨e2, n2, hlt, by rw [eJ]; exact ⟨_, hx3, hcnt, hI5, hs3⟩⟩
                        · exact hh.elim
                      · exact hh.elim
                    | normal => exact hk .normal st' ρ' pre' ids' hx' a' w' L' hLk hh hp' hs' (hi1.trans hi') hρ3
                    | exit j => exact hk (.exit j) st' ρ' pre' ids' hx' a' w' L' hLk hh hp' hs' (hi1.trans hi') hρ3
                    | ret => exact hk .ret st' ρ' pre' ids' hx' a' w' L' hLk hh hp' hs' (hi1.trans hi') hρ3
                  refine wp_seq (wp_label (Code.wp_mono ?_ (round n0 a1 w1 (by rw [eJ]; exact ⟨_, hx0, hcnt0, hI0, hs0⟩))))
                  intro e a' w' he
                  cases e with
                  | goto l2 =>
                    obtain ⟨rfl, m2, _, hJ⟩ := he
                    exact ⟨_, hf, J, m2, hJ, fun n2 a3 w3 hJ3 => wp_seq (wp_skip (round n2 a3 w3 hJ3))⟩
                  | normal => exact he
                  | exit j => exact he
                  | ret => exact he
                  | panic ch => exact he
                  | outgrown => exact he
              · exact hh1.elim
          · exact h.elim
        · exact h.elim
    · exact wp_goto (here (.goto _) h)
    · exact h.elim
end
end Go.Eng

namespace Go.Eng
open Go.RowKit
set_option linter.unusedVariables false
set_option linter.unusedSimpArgs false

theorem arr_getD {A : Array Value} {j : Nat} {v d : Value} (h : A[j]? = some v) : A.getD j d = v := by rw [Array.getD_eq_getD_getElem?, h]; rfl
def resM (a : Act) : ResultVar → Sem Value
  | .tmp t => pure (a.tmps.getD t undef)
  | .cell d t => do loadVar t (← asAddr (a.tmps.getD d undef))
section
variable {C : Cfg} {T : Tab} {st : St} {ρ : Env} {ids : List Nat} {hx : HX} {a : Act} {w : World}
theorem resOne_ok (hT : TabOk C.P T) (hs : Sit C st ρ ids hx a w) {r : ResultVar} {x : Bool × List LV} (h : resOne T st r = some x) :
    (resM a r).run C.P w = .ok (compDen ρ ids x) w ∧ (x.1 = false → ∃ l, x.2 = [l]) := by
  cases r with
  | tmp t =>
    simp only [resOne] at h
    split at h
    · rename_i l hl
      cases h
      obtain ⟨h1, h2⟩ := St.get_ne hl
      have := hs.act.at_ t _ h1 h2
      refine ⟨?_, fun _ => ⟨l, rfl⟩⟩
      have e1 := arr_getD (d := undef) this
      simp only [resM, e1]
      rfl
    · rename_i cs hl
      cases h
      obtain ⟨h1, h2⟩ := St.get_ne hl
      have := hs.act.at_ t _ h1 h2
      refine ⟨?_, fun e => by cases e⟩
      have e1 := arr_getD (d := undef) this
      simp only [resM, e1]
      rfl
    · cases h
  | cell d t =>
    simp only [resOne] at h
    split at h
    · rename_i n off hl
      obtain ⟨h1, h2⟩ := St.get_ne hl
      have := hs.act.at_ d _ h1 h2
      have key : ∀ v, loadS T t st n off = some v → (resM a (.cell d t)).run C.P w = .ok (v.den ρ ids) w := fun v hv => by
        obtain ⟨ty, cs, hn⟩ := loadS_hp hv
        have h3 := loadS_ok (C := C) (w := w) (ρ := ρ) (ids := ids) hT hv hn (hs.facts.blk n ty cs hn)
        have e1 := arr_getD (d := undef) this
        simp only [resM, e1, SV.den, LV.den, asAddr, Sem.run_bind, Sem.run_pure, Result.andThen_ok, h3]
      split at h
      · rename_i l hv
        cases h
        exact ⟨key _ hv, fun _ => ⟨l, rfl⟩⟩
      · rename_i cs hv
        cases h
        exact ⟨key _ hv, fun e => by cases e⟩
      · cases h
    · cases h
theorem resAll_ok (hT : TabOk C.P T) (hs : Sit C st ρ ids hx a w) : ∀ {rs : List ResultVar} {xs : List (Bool × List LV)}, resAll T st rs = some xs →
    (rs.mapM (resM a)).run C.P w = .ok (xs.map (compDen ρ ids)) w ∧ ∀ x, x ∈ xs → x.1 = false → ∃ l, x.2 = [l]
  | [], xs, h => by
    simp only [resAll, Option.some.injEq] at h
    subst h
    exact ⟨rfl, fun x hx => by cases hx⟩
  | r :: rs, xs, h => by
    simp only [resAll] at h
    split at h
    · rename_i x ys h1 h2
      cases h
      obtain ⟨a1, a2⟩ := resOne_ok hT hs h1
      obtain ⟨b1, b2⟩ := resAll_ok hT hs h2
      refine ⟨?_, fun z hz => ?_⟩
      · simp only [List.mapM_cons, Sem.run_bind]
        rw [a1]
        simp only [Result.andThen_ok]
        rw [b1]
        rfl
      · rcases List.mem_cons.1 hz with rfl | hz
        · exact a2
        · exact b2 z hz
    · cases h
theorem resS_ok (hT : TabOk C.P T) (hs : Sit C st ρ ids hx a w) {fn : Func} {v : SV} (h : resS T st fn.results.toList = some v) : (results fn a.tmps).run C.P w = .ok (v.den ρ ids) w := by
  unfold resS at h
  have key : ∀ xs, resAll T st fn.results.toList = some xs → (results fn a.tmps).run C.P w = .ok (if h : (xs.map (compDen ρ ids)).toArray.size = 1 then (xs.map (compDen ρ ids)).toArray[0] else .tuple (xs.map (compDen ρ ids)).toArray) w ∧ ∀ x, x ∈ xs → x.1 = false → ∃ l, x.2 = [l] := fun xs hxs => by
    obtain ⟨h1, h2⟩ := resAll_ok hT hs hxs
    refine ⟨?_, h2⟩
    have e0 : results fn a.tmps = (do let vs ← fn.results.mapM (resM a); pure (if h : vs.size = 1 then vs[0] else .tuple vs)) := by
      unfold results
      have : (fun r => (match r with | .tmp t => pure (a.tmps.getD t undef) | .cell d t => (do loadVar t (← asAddr (a.tmps.getD d undef))) : Sem Value)) = resM a := funext fun r => by cases r <;> rfl
      rw [← this]
      rfl
    rw [e0, Sem.run_bind, Array.mapM_eq_mapM_toList, Sem.run_map, h1]
    rfl
  split at h
  · rename_i cs hxs
    cases h
    obtain ⟨h1, _⟩ := key _ hxs
    rw [h1]; rfl
  · rename_i l hxs
    cases h
    obtain ⟨h1, _⟩ := key _ hxs
    rw [h1]; rfl
  · rename_i xs hne1 hne2 hxs
    cases h
    obtain ⟨h1, h2⟩ := key _ hxs
    rw [h1]
    congr 1
    rw [dif_neg]
    · rfl
    · intro hsz
      simp only [List.size_toArray, List.length_map] at hsz
      obtain ⟨x, rfl⟩ : ∃ x, xs = [x] := by
        cases xs with
        | nil => simp at hsz
        | cons x xs => cases xs with
          | nil => exact ⟨x, rfl⟩
          | cons y ys => simp at hsz
      obtain ⟨x1, x2⟩ := x
      cases x1 with
      | true => exact hne1 x2 rfl
      | false =>
        obtain ⟨l, hl⟩ := h2 (false, x2) (by simp) rfl
        simp only at hl
        subst hl
        exact hne2 l rfl
  · cases h

theorem calls_ok {P : Program} {W : World} {M : Nat → Prop} {R : Ending → World → Prop} (hT : TabOk P T) {f : FuncId} {fn : Func} {c : Code} (hf : P.funcs[f]? = some fn) (hb : fn.body = some c) (args : List SV) {m : Mem} {ρ : Env} {ids : List Nat} {hx : HX} {t : Tree}
    (ht : runF T c fn.results.toList (entry fn.ntmps args m.hp m.c) = t) (h0 : Facts ⟨P, W, M, R⟩ m ρ ids hx W) (h : t.holds ⟨P, W, M, R⟩ ρ ids hx []) : Calls P f (args.map (SV.den ρ ids)).toArray W R := by
  subst ht
  refine calls_of_wp hf hb ?_
  refine run_ok (C := ⟨P, W, M, R⟩) (T := T) hT 2000 [] c _ _ ρ ids ids hx [] _ W _ h (List.prefix_refl _) ⟨h0, ?_⟩ ?_
  · refine ⟨rfl, by simp [entry], fun j s hj hs => ?_⟩
    simp only [entry, List.getElem?_append] at hj
    simp only [Array.getElem?_append, List.size_toArray, List.length_map, List.getElem?_toArray, List.getElem?_map]
    split at hj
    · rename_i hlt
      rw [if_pos hlt, hj]; rfl
    · rename_i hlt
      rw [if_neg hlt]
      rw [List.getElem?_replicate] at hj
      split at hj
      · rename_i h2
        cases hj
        simp only [Array.getElem?_replicate, h2, if_true]
        rfl
      · cases hj
  · intro e st' ρ' pre' ids' hx' a' w' L' _ hh hp' hs' hi' _
    have done : ∀ v, resS T st' fn.results.toList = some v → (Tree.done v st'.mem).holds ⟨P, W, M, R⟩ ρ' pre' hx' L' → a'.defers = [] ∧ ∃ v, (results fn a'.tmps).run P w' = .ok v w' ∧ R (.returned v) w' := fun v hv hd =>
      ⟨hs'.act.defers, _, resS_ok (C := ⟨P, W, M, R⟩) hT hs' hv, hd ids' w' hp' hs'.facts⟩
    cases e with
    | normal =>
      simp only at hh
      split at hh
      · rename_i v hv; exact done v hv hh
      · exact hh.elim
    | ret =>
      simp only at hh
      split at hh
      · rename_i v hv; exact done v hv hh
      · exact hh.elim
    | exit j => exact hh.elim
    | goto l => exact hh.elim
end

theorem Chg.below {w w' : World} (h : Chg (fun _ => False) w w') : Below w.heap.size w w' := ⟨h.os, h.tape, h.output, h.size, fun k hk => h.block k hk (fun e => e)⟩
theorem Chg.grown {w w' : World} {b : Nat} (h : Chg (fun x => x = b) w w') : w.grownBy w' (some b) := ⟨h.os, h.tape, h.output, h.size, fun k hk hne => h.block k hk (fun e => hne (by rw [e]))⟩
theorem chg_of_below {F : Nat → Prop} {w w' : World} (h : Below w.heap.size w w') : Chg F w w' := ⟨h.os, h.tape, h.output, h.size, fun k hk _ => h.block k hk⟩
theorem chg_of_grown {F : Nat → Prop} {w w' : World} {b : Nat} (hb : F b) (h : w.grownBy w' (some b)) : Chg F w w' := ⟨h.os, h.tape, h.output, h.size, fun k hk hn => h.block k hk (fun e => by cases e; exact hn hb)⟩
theorem Facts.init0 {P : Program} {w : World} {M : Nat → Prop} {R : Ending → World → Prop} {ρ : Env} {c : Cnt} (hc : ρ.cnt = c) (h1 : ∀ v, v ∈ ρ.v → v.oneCell' = true) : Facts ⟨P, w, M, R⟩ ⟨[], c⟩ ρ [] HX.nil w :=
  ⟨rfl, List.nodup_nil, fun n ty cs hn => by simp at hn, fun id hid => by simp at hid, Chg.refl _ _, trivial, fun b hb => hb.elim, ⟨hc, h1⟩⟩
theorem Facts.init1 {P : Program} {w : World} {R : Ending → World → Prop} {ρ : Env} {c : Cnt} {b ty : Nat} {cs : List LV} {us : List Value} (hc : ρ.cnt = c) (h1 : ∀ v, v ∈ ρ.v → v.oneCell' = true) (hb : w.heap[b]? = some (.cells us.toArray ty (0, 0))) (hu : us = cellsDen ρ [b] cs) :
    Facts ⟨P, w, fun x => x = b, R⟩ ⟨[(ty, cs)], c⟩ ρ [b] HX.nil w := by
  subst hu
  refine ⟨rfl, by simp, fun n ty' cs' hn => ?_, fun id hid => .inr (by simpa using hid), Chg.refl _ _, trivial, fun b hb => hb.elim, ⟨hc, h1⟩⟩
  cases n with
  | zero =>
    simp only [List.getElem?_cons_zero, Option.some.injEq, Prod.mk.injEq] at hn
    obtain ⟨rfl, rfl⟩ := hn
    exact hb
  | succ n => simp at hn
theorem Facts.pureCall {C : Cfg} {m : Mem} {c' : Cnt} {ρ : Env} {vs : Vals} {ids : List Nat} {hx : HX} {w w' : World} (hf : Facts C m ρ ids hx w) (hb : Below w.heap.size w w') (hfit : hpFits m.c ids.length m.hp = true) (hc : EnvOk (ρ.add vs) c') : Facts C ⟨m.hp, c'⟩ (ρ.add vs) ids hx w' := by
  refine ⟨hf.len, hf.nod, fun n ty cs hn => ?_, hf.own, hf.chg.trans (chg_of_below hb), hx.loc w w' hf.x (fun b hb2 => hb.block b (hf.sep b hb2).1), fun b hb2 => ⟨Nat.lt_of_lt_of_le (hf.sep b hb2).1 hb.size, (hf.sep b hb2).2⟩, hc⟩
  have h1 := hf.blk n ty cs hn
  have hlt : n < ids.length := by
    rw [hf.len]
    rcases Nat.lt_or_ge n m.hp.length with q | q
    · exact q
    · rw [List.getElem?_eq_none q] at hn; cases hn
  rw [hb.block _ (hf.id_lt (idAt_mem hlt)), h1, cellsDen_add hf.cnt.cnt (List.prefix_refl _) rfl (List.all_eq_true.1 hfit _ (List.mem_of_getElem? hn))]
end Go.Eng

namespace Go.Eng
open Go.RowKit
set_option linter.unusedVariables false
set_option linter.unusedSimpArgs false

section
variable {C : Cfg} {ρ : Env} {pre : List Nat} {hx : HX} {L : Stack}
theorem oneNil : ∀ v, v ∈ ([] : List Value) → v.oneCell' = true := fun _ h => by cases h
theorem envUp {m : Mem} {ids : List Nat} {w : World} {c' : Cnt} {vs : Vals} (hf : Facts C m ρ ids hx w) (hc : (ρ.add vs).cnt = c') (h1 : ∀ v, v ∈ vs.v → v.oneCell' = true) : EnvOk (ρ.add vs) c' := by
  refine ⟨hc, fun v hv => ?_⟩
  simp only [Env.add, List.mem_append] at hv
  rcases hv with hv | hv
  · exact hf.cnt.one v hv
  · exact h1 v hv
theorem node_pure {f : Nat} {args : List SV} {m m' : Mem} {r : SV} {t : Tree} (vs : Vals) (hhp : m'.hp = m.hp) (hfit : hpFits m.c m.hp.length m.hp = true) (hc : (ρ.add vs).cnt = m'.c) (h1 : ∀ v, v ∈ vs.v → v.oneCell' = true)
    (hcall : ∀ ids w, pre <+: ids → Facts C m ρ ids hx w → Calls C.P f (args.map (SV.den ρ ids)).toArray w fun e w' => e = .returned (r.den (ρ.add vs) ids) ∧ Below w.heap.size w w')
    (h : t.holds C (ρ.add vs) pre hx L) : (Tree.call f args m r m' t).holds C ρ pre hx L := by
  intro ids w hp hf
  refine (hcall ids w hp hf).mono ?_
  rintro e w' ⟨rfl, hb⟩
  refine ⟨vs, ids, hx, rfl, List.prefix_refl _, ?_, holds_pre t hp h⟩
  have := hf.pureCall hb (by rw [hf.len]; exact hfit) (envUp hf hc h1)
  rw [← hhp] at this
  exact this
theorem Facts.blkAt {m : Mem} {ids : List Nat} {w : World} (hf : Facts C m ρ ids hx w) (n : Nat) {ty : Nat} {cs : List LV} (h : m.hp[n]? = some (ty, cs)) : w.heap[idAt ids n]? = some (.cells (cellsDen ρ ids cs).toArray ty (0, 0)) := hf.blk n ty cs h
theorem idAt0 {b : Nat} {ids : List Nat} (h : [b] <+: ids) : idAt ids 0 = b := by
  obtain ⟨t, rfl⟩ := h; rfl
theorem loop_i {key : Nat} {es : Vec} {m m' : Mem} {t : Tree} (I : Inv) (μ : Vals → Nat) (start : ∀ ids w, pre <+: ids → Facts C m ρ ids hx w → ∃ hx', HXok hx' w ids ∧ I (es.den ρ ids) hx')
    (round : ∀ vs hx', EnvOk (ρ.add vs) m'.c → I vs hx' → t.holds C (ρ.add vs) pre hx' ((key, fun vs' hx'' => I vs' hx'' ∧ μ vs' < μ vs) :: L)) : (Tree.loop key es m m' t).holds C ρ pre hx L := by
  refine ⟨fun vs hx n => I vs hx ∧ n = μ vs, fun ids w hp hf => ?_, ?_⟩
  · obtain ⟨hx', h1, h2⟩ := start ids w hp hf
    exact ⟨hx', _, h1, h2, rfl⟩
  · rintro vs hx' n hc ⟨hI, rfl⟩
    have e : (fun vs' hx'' => ∃ n', n' < μ vs ∧ I vs' hx'' ∧ n' = μ vs') = (fun vs' hx'' => I vs' hx'' ∧ μ vs' < μ vs) := by
      funext vs' hx''
      exact propext ⟨fun ⟨n', h1, h2, h3⟩ => ⟨h2, h3 ▸ h1⟩, fun ⟨h1, h2⟩ => ⟨_, h2, h1, rfl⟩⟩
    rw [e]; exact round vs hx' hc hI
theorem br_t {b : BE} {t f : Tree} (hb : b.den ρ = true) (h : t.holds C ρ pre hx L) : (Tree.br b t f).holds C ρ pre hx L := ⟨fun _ => h, fun e => absurd (hb.symm.trans e) (by decide)⟩
theorem br_f {b : BE} {t f : Tree} (hb : b.den ρ = false) (h : f.holds C ρ pre hx L) : (Tree.br b t f).holds C ρ pre hx L := ⟨fun e => absurd (hb.symm.trans e) (by decide), fun _ => h⟩
theorem br_i {b : BE} {t f : Tree} (ht : b.den ρ = true → t.holds C ρ pre hx L) (hf : b.den ρ = false → f.holds C ρ pre hx L) : (Tree.br b t f).holds C ρ pre hx L := ⟨ht, hf⟩
theorem par_i {a b : Tree} (h1 : a.holds C ρ pre hx L) (h2 : b.holds C ρ pre hx L) : (Tree.par a b).holds C ρ pre hx L := ⟨h1, h2⟩
theorem need_i {p : Need} {t : Tree} (hp : p.den ρ) (h : t.holds C ρ pre hx L) : (Tree.need p t).holds C ρ pre hx L := ⟨hp, fun _ => h⟩
theorem Facts.initP {P : Program} {w : World} {R : Ending → World → Prop} {ρ : Env} {c : Cnt} (hc : ρ.cnt = c) (h1 : ∀ v, v ∈ ρ.v → v.oneCell' = true) : Facts ⟨P, w, fun _ => False, R⟩ ⟨[], c⟩ ρ [] HX.nil w := Facts.init0 hc h1
theorem HXok.none (w : World) (ids : List Nat) : HXok HX.nil w ids := ⟨trivial, fun b hb => hb.elim⟩
theorem calls_at {P : Program} {T : Tab} (hT : TabOk P T) {f : FuncId} {fn : Func} (hf : P.funcs[f]? = some fn) (hb : fn.body.isSome = true) {args : List SV} {hp : List (Nat × List LV)} {c : Cnt} {t : Tree}
    (ht : runF T (fn.body.getD .skip) fn.results.toList (entry fn.ntmps args hp c) = t) {ρ : Env} {ids : List Nat} {hx : HX} {W : World} {M : Nat → Prop} {R : Ending → World → Prop} {av : Array Value} (ha : (args.map (SV.den ρ ids)).toArray = av)
    (h0 : Facts ⟨P, W, M, R⟩ ⟨hp, c⟩ ρ ids hx W) (h : t.holds ⟨P, W, M, R⟩ ρ ids hx []) : Calls P f av W R := by
  obtain ⟨b, hb⟩ := Option.isSome_iff_exists.1 hb
  subst ha
  refine calls_ok (m := ⟨hp, c⟩) hT hf hb args ?_ h0 h
  rw [← ht, hb]; rfl
theorem wrap_i64 {x : Int} (h : -9223372036854775808 ≤ x ∧ x ≤ 9223372036854775807) : IntKind.i64.wrap x = x := IntWalk.i64_in _ (by omega)
end
end Go.Eng
