/- Regions of the symbolic run. No program in sight. -/
import Derived.Test.YticacnankpaohaaEng9
namespace Go.Eng
set_option linter.unusedVariables false
set_option linter.unusedSimpArgs false

section
variable {C : Cfg} {T : Tab}

/-- What the run hands on is so in the world at hand. -/
structure Sit (C : Cfg) (st : St) (ρ : Env) (ids : List Nat) (hx : HX) (a : Act) (w : World) : Prop where
  facts : Facts C st.mem ρ ids hx w
  act : ActOk st ρ ids a
theorem Facts.cells_at {m : Mem} {ρ : Env} {ids : List Nat} {hx : HX} {w w' : World} (hf : Facts C m ρ ids hx w) (h : w'.heap = w.heap) (h2 : w'.os = w.os) (h3 : w'.tape = w.tape) (h4 : w'.output = w.output) : Facts C m ρ ids hx w' :=
  ⟨hf.len, hf.nod, fun n ty cs hn => by rw [h]; exact hf.blk n ty cs hn, hf.own,
    ⟨h2.trans hf.chg.os, h3.trans hf.chg.tape, h4.trans hf.chg.output, by rw [h]; exact hf.chg.size, fun k hk hm => by rw [h]; exact hf.chg.block k hk hm⟩,
    hx.loc w w' hf.x (fun b _ => by rw [h]), fun b hb => by rw [h]; exact hf.sep b hb, hf.cnt⟩
/-- What lies at an element's address, read as a value of the type. -/
theorem load_ld (hT : TabOk C.P T) {st : St} {ρ ρ' : Env} {ids : List Nat} {a : Act} {w : World} (ha : ActOk st ρ ids a) {o : Oper} {l : LV} {t : Nat} {cs : List LV} {r : SV} {x : Operand} (ho : o.op = .load t x) (hx : st.evL x = some l) {N : Nat → Prop}
    (hi : ∃ i, T.ti t = some i ∧ ((i.d.isAgg = true ∧ r = .agg cs ∧ cs.length = i.size) ∨ (i.d.isAgg = false ∧ (match i.d with | .bad => false | _ => true) = true ∧ ∃ u, cs = [u] ∧ r = .lf u)))
    {ids' : List Nat} (hc : CellsAt w (l.den ρ ids) (cellsDen ρ' ids' cs) N) : (execOp a.eval o).run C.P w = .ok (.value (r.den ρ' ids')) w := by
  obtain ⟨ad, had, _, hcell⟩ := hc
  obtain ⟨i, hi, hk⟩ := hi
  have h1 := ev_ok ha (evL_ev hx)
  have h1' : a.eval x = .pointer (some ad) := by rw [h1]; exact had
  unfold execOp
  simp only [ho, Instr.loadAt, h1', Instr.sureAddr, Sem.run_bind, Sem.run_pure, Result.andThen_ok]
  have key : (loadVar t ad).run C.P w = .ok (r.den ρ' ids') w := by
    rcases hk with ⟨hag, rfl, hl⟩ | ⟨hag, hb, u, rfl, rfl⟩
    · have hbad : (match i.d with | .bad => false | _ => true) = true := by cases hh : i.d <;> simp_all [TD.isAgg]
      have := run_loadCells_list (P := C.P) w ad (cellsDen ρ' ids' cs) hcell
      have hlen : (cellsDen ρ' ids' cs).length = i.size := by simp [cellsDen, hl]
      rw [hlen] at this
      simp only [loadVar, Sem.run_bind, run_isAgg hT hi hbad, Result.andThen_ok, hag, if_true, run_size hT hi, this, Sem.run_pure, SV.den]
    · have := hcell 0 (u.den ρ' ids') rfl
      simp only [loadVar, Sem.run_bind, run_isAgg hT hi hb, Result.andThen_ok, hag, Bool.false_eq_true, if_false, run_load]
      have e : ad.add 0 = ad := rfl
      rw [e] at this
      rw [this]; rfl
  rw [key]; rfl
theorem upon_gen {P : Program} {o : Oper} {a : Act} {w : World} {K : Act → World → Prop} {Q : Exit → Act → World → Prop} {G : Option Value → World → Prop} {ρf : Operand → Value}
    (he : execOp a.eval o = execOp ρf ⟨none, o.op, o.type, "", #[], none⟩) (h : GenRun P o.op o.type ρf w G) (hK : ∀ r w', G r w' → K (a.put o.dst (r.getD undef)) w') : o.wp P a w K Q := by
  unfold Oper.wp GenRun at *
  rw [he]
  split at h
  · rename_i v w' hr; rw [hr]; exact hK _ _ h
  · rename_i w' hr; rw [hr]; exact hK _ _ h
  · exact h.elim
theorem gen_nosel {st : St} {o : Oper} {r : Option SV} {st' : St} (h : effS T o st = .gen r st') : ∀ cs b, o.op ≠ .select cs b := by
  intro cs b e
  unfold effS at h
  rw [e] at h
  simp [genVal, genSkip, genExt] at h
theorem hpEq_sit {st st' : St} {ρ : Env} {ids : List Nat} {hx : HX} {a : Act} {w : World} (h : Sit C st ρ ids hx a w) (d : Option Nat) (v : SV) : Sit C (st.put d v) ρ ids hx (a.put d (v.den ρ ids)) w :=
  ⟨by cases d <;> exact h.facts, h.act.put d v⟩
theorem put_hp (st : St) (d : Option Nat) (v : SV) : (st.put d v).hp = st.hp := by cases d <;> rfl
theorem put_c (st : St) (d : Option Nat) (v : SV) : (st.put d v).c = st.c := by cases d <;> rfl
theorem put_mem (st : St) (d : Option Nat) (v : SV) : (st.put d v).mem = st.mem := by cases d <;> rfl
theorem upon_value {P : Program} {o : Oper} {a : Act} {w w' : World} {K : Act → World → Prop} {Q : Exit → Act → World → Prop} {v : Value} (h : (execOp a.eval o).run P w = .ok (.value v) w') (hK : K (a.put o.dst v) w') : o.wp P a w K Q := by
  unfold Oper.wp; rw [h]; exact hK
theorem upon_skip {P : Program} {o : Oper} {a : Act} {w w' : World} {K : Act → World → Prop} {Q : Exit → Act → World → Prop} (h : (execOp a.eval o).run P w = .ok .skip w') (hK : K (a.put o.dst undef) w') : o.wp P a w K Q := by
  unfold Oper.wp; rw [h]; exact hK
theorem Env.add_add (ρ : Env) (x y : Vals) : ∃ z, (ρ.add x).add y = ρ.add z := ⟨⟨x.i ++ y.i, x.b ++ y.b, x.v ++ y.v, x.n ++ y.n, x.a ++ y.a⟩, by simp [Env.add]⟩

theorem Facts.envUp {st st' : St} {ρ : Env} {vs : Vals} {ids : List Nat} {hx : HX} {w : World} (hf : Facts C st.mem ρ ids hx w) (hhp : st'.hp = st.hp) (hfit : st.fits = true) (hcnt : EnvOk (ρ.add vs) st'.mem.c) : Facts C st'.mem (ρ.add vs) ids hx w :=
  ⟨by rw [hf.len]; simp only [St.mem, hhp], hf.nod, fun n ty cs hn => by
    simp only [St.mem, hhp] at hn
    rw [cellsDen_add hf.cnt.cnt (List.prefix_refl _) hf.len (fits_hp hfit hn)]
    exact hf.blk n ty cs hn, hf.own, hf.chg, hf.x, hf.sep, hcnt⟩
theorem cells_base {M : Nat → Prop} {W w : World} (hc : Chg M W w) {v : Value} {us : List Value} (h : CellsAt W v us M) : CellsAt w v us M := by
  obtain ⟨ad, h1, h2, h3⟩ := h
  refine ⟨ad, h1, h2, fun j u hu => ?_⟩
  have h4 := h3 j u hu
  have hb : (ad.add j).block = ad.block := by unfold Addr.add; split <;> rfl
  rw [World.cell?_of_block (w := W)]
  · exact h4
  · rw [hb]; exact hc.block _ (hb ▸ World.block_lt_of_cell? W _ h4) h2

theorem step_ok (hT : TabOk C.P T) {o : Oper} {st : St} {chk : List (Nat × List LV) → Bool} {br : BE → Tree} {next : St → Tree} {i : Nat} {ρ : Env} {pre ids : List Nat} {hx : HX} {L : Stack} {a : Act} {w : World}
    (h : (stepT T o st chk br next i).holds C ρ pre hx L) (hp : pre <+: ids) (hs : Sit C st ρ ids hx a w) (hnb : ∀ b, pureS T o st ≠ .br b) {K : Act → World → Prop} {Q : Exit → Act → World → Prop}
    (hK : ∀ st' ρ' pre' ids' hx' a' w', (next st').holds C ρ' pre' hx' L → pre' <+: ids' → Sit C st' ρ' ids' hx' a' w' → ids <+: ids' → (∃ x, ρ' = ρ.add x) → (st'.hp = st.hp ∨ chk st'.hp = true) → K a' w') : o.wp C.P a w K Q := by
  have hpure : ∀ v, (pureS T o st).gives ρ v → (next (st.put o.dst v)).holds C ρ pre hx L → o.wp C.P a w K Q := fun v hv hh =>
    upon_value (pure_ok hT hs.act hs.facts.cnt hv w) (hK _ ρ pre ids hx _ _ hh hp (hpEq_sit (st' := st) hs _ _) (List.prefix_refl _) ⟨Vals.nil, (Env.add_nil ρ).symm⟩ (.inl (put_hp _ _ _)))
  unfold stepT at h
  split at h
  · rename_i v hv; exact hpure v (by rw [hv]; rfl) h
  · rename_i p v hv; exact hpure v (by rw [hv]; exact ⟨rfl, h.1⟩) (h.2 h.1)
  · rename_i b hv; exact absurd hv (hnb b)
  · split at h
    · rename_i v hv
      obtain ⟨t, x, n, off, ho, hxx, hl⟩ := heap_val hT hs.act hv
      obtain ⟨ty, cs, hn⟩ := loadS_hp hl
      have hr := load_run (C := C) (w := w) hT hs.act ho hxx hl hn (hs.facts.blk n ty cs hn)
      exact upon_value hr (hK _ ρ pre ids hx _ _ h hp (hpEq_sit (st' := st) hs _ _) (List.prefix_refl _) ⟨Vals.nil, (Env.add_nil ρ).symm⟩ (.inl (put_hp _ _ _)))
    · rename_i v st' hv
      split at h
      · rename_i hc
        simp only [Bool.and_eq_true] at hc
        obtain ⟨w', hr, hf', hfr⟩ := new_ok hT hs.act hs.facts hc.1 hv
        have hpre : ids <+: ids ++ [w.heap.size] := List.prefix_append _ _
        have hact : ActOk st' ρ (ids ++ [w.heap.size]) a := by
          have := (hs.act.add (x := Vals.nil) hs.facts.cnt.cnt hpre hs.facts.len hc.1).hp hfr
          rwa [Env.add_nil] at this
        refine upon_value hr (hK _ ρ pre _ hx _ _ h (hp.trans hpre) (hpEq_sit (st' := st) ⟨hf', hact⟩ _ _) hpre ⟨Vals.nil, (Env.add_nil ρ).symm⟩ (.inr ?_))
        rw [put_hp]; exact hc.2
      · exact h.elim
    · rename_i st' hv
      split at h
      · rename_i hc
        obtain ⟨w', hr, hf', hfr⟩ := skip_ok hT hs.act hs.facts hv
        refine upon_skip hr (hK _ ρ pre ids hx _ _ h hp (hpEq_sit (st' := st) ⟨hf', hs.act.hp hfr⟩ o.dst (.tup [])) (List.prefix_refl _) ⟨Vals.nil, (Env.add_nil ρ).symm⟩ (.inr ?_))
        rw [put_hp]; exact hc
      · exact h.elim
    · split at h
      · rename_i g args v st' hv
        split at h
        · rename_i hc
          obtain ⟨hfr, hfit, hr⟩ := eff_call (C := C) (ρ := ρ) (ids := ids) (w := w) hT hs.act hv
          unfold Oper.wp
          rw [hr]
          simp only [Oper.upon]
          refine (h ids w hp hs.facts).mono ?_
          rintro e w' ⟨vs, ids', hx', rfl, hi, hf', hh⟩
          refine hK _ (ρ.add vs) ids' ids' hx' _ _ hh (List.prefix_refl _) (hpEq_sit (st' := st) ⟨hf', (hs.act.add hs.facts.cnt.cnt hi hs.facts.len hfit).hp hfr⟩ o.dst v) hi ⟨vs, rfl⟩ (.inr ?_)
          rw [put_hp]; exact hc
        · exact h.elim
      · rename_i l t cs v st' hv
        obtain ⟨hfr, hhp, hfit, ⟨x, ho, hxx⟩, hi⟩ := eff_ld hT hv
        cases hcur : T.isCur l with
        | true =>
          rw [hcur] at h
          obtain ⟨vs, hcell, hcnt, hh⟩ := h ids w hp hs.facts
          have hr := load_ld hT hs.act ho hxx hi hcell
          have hf' := hs.facts.envUp hhp hfit hcnt
          exact upon_value hr (hK _ (ρ.add vs) ids ids hx _ _ hh (List.prefix_refl _) (hpEq_sit (st' := st) ⟨hf', (hs.act.add hs.facts.cnt.cnt (List.prefix_refl _) hs.facts.len hfit).hp hfr⟩ o.dst v) (List.prefix_refl _) ⟨vs, rfl⟩ (.inl (by rw [put_hp, hhp])))
        | false =>
          rw [hcur] at h
          obtain ⟨vs, hcell0, hcnt, hh⟩ := h
          have hcell := cells_base hs.facts.chg (hcell0 ids)
          have hr := load_ld hT hs.act ho hxx hi hcell
          have hf' := hs.facts.envUp hhp hfit hcnt
          exact upon_value hr (hK _ (ρ.add vs) pre ids hx _ _ hh hp (hpEq_sit (st' := st) ⟨hf', (hs.act.add hs.facts.cnt.cnt (List.prefix_refl _) hs.facts.len hfit).hp hfr⟩ o.dst v) (List.prefix_refl _) ⟨vs, rfl⟩ (.inl (by rw [put_hp, hhp])))
      · rename_i r st' hv
        split at h
        · rename_i hc
          obtain ⟨hfr, hfit, hop⟩ := eff_gen hv
          refine upon_gen (gen_exec hs.act hop (gen_nosel hv)) (h ids w hp hs.facts) ?_
          rintro res w' ⟨vs, ids', hx', rfl, hi, hf', hh⟩
          have e : (r.map (SV.den (ρ.add vs) ids')).getD undef = (r.getD (.tup [])).den (ρ.add vs) ids' := by cases r <;> rfl
          rw [e]
          refine hK _ (ρ.add vs) ids' ids' hx' _ _ hh (List.prefix_refl _) (hpEq_sit (st' := st) ⟨hf', (hs.act.add hs.facts.cnt.cnt hi hs.facts.len hfit).hp hfr⟩ o.dst _) hi ⟨vs, rfl⟩ (.inr ?_)
          rw [put_hp]; exact hc
        · exact h.elim
      · exact h.elim
theorem runOps_ok (hT : TabOk C.P T) {ρ0 : Env} {ids0 : List Nat} {k : St → Tree} {L : Stack} {Q : Exit → Act → World → Prop}
    (hK : ∀ st' ρ' pre' ids' hx' a' w', (k st').holds C ρ' pre' hx' L → pre' <+: ids' → Sit C st' ρ' ids' hx' a' w' → ids0 <+: ids' → (∃ x, ρ' = ρ0.add x) → Q .normal a' w') :
    ∀ (n : Nat) (ops : Array Oper) (rest : List Oper) (st : St) (ρ : Env) (pre ids : List Nat) (hx : HX) (a : Act) (w : World),
    (runOps T n ops rest st k).holds C ρ pre hx L → pre <+: ids → Sit C st ρ ids hx a w → ids0 <+: ids → (∃ x, ρ = ρ0.add x) → wpList C.P ops Q rest a w
  | 0, _, _, _, _, _, _, _, _, _, h, _, _, _, _ => by simp only [runOps] at h; exact h.elim
  | _ + 1, _, [], st, ρ, pre, ids, hx, a, w, h, hp, hs, hi, hρ => hK _ _ _ _ _ _ _ h hp hs hi hρ
  | n + 1, ops, o :: r, st, ρ, pre, ids, hx, a, w, h, hp, hs, hi, hρ => by
    have hbr : ∀ b : BE, (Tree.br b (runOps T n ops (o :: r) (st.assume b true) k) (runOps T n ops (o :: r) (st.assume b false) k)).holds C ρ pre hx L → wpList C.P ops Q (o :: r) a w := fun b hb => by
      cases hd : b.den ρ with
      | true => exact runOps_ok hT hK n ops (o :: r) (st.assume b true) ρ pre ids hx a w (hb.1 hd) hp ⟨hs.facts, hs.act.assume hd⟩ hi hρ
      | false => exact runOps_ok hT hK n ops (o :: r) (st.assume b false) ρ pre ids hx a w (hb.2 hd) hp ⟨hs.facts, hs.act.assume hd⟩ hi hρ
    simp only [runOps] at h
    split at h
    · rename_i hg
      have hw := gd_no hs.act hg
      unfold wpList
      rw [if_neg (by rw [hw]; simp)]
      exact runOps_ok hT hK n ops r _ ρ pre ids hx _ w h hp (hpEq_sit (st' := st) hs o.dst (.tup [])) hi hρ
    · exact hbr _ h
    · exact h.elim
    · rename_i hg
      have hw := gd_yes hs.act hg
      by_cases hb : ∃ b, pureS T o st = .br b
      · obtain ⟨b, hb⟩ := hb
        unfold stepT at h
        rw [hb] at h
        exact hbr b h
      · unfold wpList
        rw [if_pos hw]
        refine .inl (step_ok hT h hp hs (fun b e => hb ⟨b, e⟩) fun st' ρ' pre' ids' hx' a' w' hh hp' hs' hi' hρ' _ => ?_)
        refine runOps_ok hT hK n ops r st' ρ' pre' ids' hx' a' w' hh hp' hs' (hi.trans hi') ?_
        obtain ⟨x, rfl⟩ := hρ
        obtain ⟨y, rfl⟩ := hρ'
        exact Env.add_add ρ0 x y
end
end Go.Eng
