/- Stores, calls, regions. No program in sight. -/
import Derived.Test.YticacnankpaohaaEng8
namespace Go.Eng
set_option linter.unusedVariables false
set_option linter.unusedSimpArgs false

section
variable {C : Cfg} {T : Tab} {st : St} {ρ : Env} {ids : List Nat} {hx : HX} {w : World} {a : Act}
theorem Facts.set {m : Mem} (hf : Facts C m ρ ids hx w) {n ty : Nat} {cs : List LV} (hn : m.hp[n]? = some (ty, cs)) (cs' : List LV) (us : Array Value) (hu : us.toList = cellsDen ρ ids cs') :
    Facts C ⟨m.hp.set n (ty, cs'), m.c⟩ ρ ids hx (w.setRow (idAt ids n) us) := by
  have hlt : n < m.hp.length := by
    rcases Nat.lt_or_ge n m.hp.length with q | q
    · exact q
    · rw [List.getElem?_eq_none q] at hn; cases hn
  have hmem := idAt_mem (ids := ids) (n := n) (hf.len ▸ hlt)
  have hb := hf.blk n ty cs hn
  refine ⟨by simp [hf.len], hf.nod, ?_, hf.own, ?_, ?_, ?_, hf.cnt⟩
  · intro k t2 cs2 hk
    rw [List.getElem?_set] at hk
    split at hk
    · rename_i e
      subst e
      simp only [Option.some.injEq, Prod.mk.injEq] at hk
      obtain ⟨rfl, rfl⟩ := hk
      rw [setRow_heap w _ _ _ _ _ hb]
      congr 2
      apply Array.toList_inj.1
      rw [hu]
    · rename_i e
      have hk2 : k < m.hp.length := by
        rcases Nat.lt_or_ge k m.hp.length with q | q
        · exact q
        · rw [List.getElem?_eq_none q] at hk; cases hk
      rw [setRow_other]
      · exact hf.blk k t2 cs2 hk
      · intro h; exact e (idAt_inj hf.nod (hf.len ▸ hk2) (hf.len ▸ hlt) h).symm
  · refine ⟨hf.chg.os, hf.chg.tape, hf.chg.output, by simpa using hf.chg.size, fun k hk hM => ?_⟩
    rw [setRow_other w _ k us (fun e => ?_)]
    · exact hf.chg.block k hk hM
    · rcases hf.own _ hmem with h | h
      · omega
      · exact hM (e ▸ h)
  · exact hx.loc w _ hf.x fun b hb2 => setRow_other w _ b us fun e => (hf.sep b hb2).2 (e ▸ hmem)
  · intro b hb2
    obtain ⟨h1, h2⟩ := hf.sep b hb2
    exact ⟨by simpa using h1, h2⟩
theorem one_cell {c : Cnt} (he : EnvOk ρ c) {m : Nat} {l : LV} (h : l.isOne = true) (hfit : l.fits c m = true) : (l.den ρ ids).oneCell' = true := by
  cases l with
  | val i =>
    have hc := he.cnt
    have hi : i < ρ.v.length := by
      have := blt_lt (show Nat.blt i c.v = true from hfit)
      rw [← hc] at this; exact this
    have : ρ.v.getD i undef ∈ ρ.v := by simp [List.getD, hi]
    exact he.one _ this
  | cst v => cases v <;> first | rfl | (cases h; done)
  | _ => rfl
theorem skip_ok (hT : TabOk C.P T) (ha : ActOk st ρ ids a) (hf : Facts C st.mem ρ ids hx w) {o : Oper} {st' : St} (h : heapS T o st = .skip st') :
    ∃ w', (execOp a.eval o).run C.P w = .ok .skip w' ∧ Facts C st'.mem ρ ids hx w' ∧ st'.fr = st.fr := by
  unfold heapS at h
  split at h
  · split at h
    · split at h <;> cases h
    · cases h
  · split at h <;> cases h
  · split at h <;> cases h
  · rename_i t x v ho
    split at h
    · rename_i n off xs sz hx1 hx2 hsz
      split at h
      · rename_i ty cs hn
        split at h
        · rename_i hb
          cases h
          obtain ⟨s, hs, hcs⟩ := Option.bind_eq_some_iff.1 hx2
          have h1 := ev_ok ha (evL_ev hx1)
          have h2 := ev_ok ha hs
          have h3 := cells_den (ids := ids) hf.cnt hcs
          unfold Tab.size at hsz
          obtain ⟨j, hj, rfl⟩ := Option.map_eq_some_iff.1 hsz
          have hsize := run_size hT hj w
          have hb0 := hf.blk n ty cs hn
          have hone : ∀ u, u ∈ cellsDen ρ ids xs → u.oneCell' = true := by
            intro u hu
            obtain ⟨l, hl, rfl⟩ := List.mem_map.1 hu
            have := List.all_eq_true.1 hb.2.2 l hl
            simp only [Bool.and_eq_true] at this
            exact one_cell hf.cnt this.1 this.2
          obtain ⟨us, hus, hst⟩ : ∃ us : Array Value, us.toList = cellsDen ρ ids (splice cs off xs) ∧ (storeCells ⟨idAt ids n, off, none⟩ (cellsDen ρ ids xs) 0).run C.P w = .ok () (w.setRow (idAt ids n) us) :=
            ⟨_, by simp [splice, cellsDen, List.map_take, List.map_drop], run_storeCells_at (P := C.P) (idAt ids n) off ty (cellsDen ρ ids xs) 0 _ w hb0 (by simp [cellsDen]; omega) hone⟩
          refine ⟨w.setRow (idAt ids n) us, ?_, hf.set hn (splice cs off xs) us hus, rfl⟩
          · have hsz2 : (s.den ρ ids).cells.size = j.size := by rw [cells_size hf.cnt hcs]; exact hb.1
            have h1' : a.eval x = .pointer (some ⟨idAt ids n, off, none⟩) := h1
            generalize s.den ρ ids = u at *
            unfold execOp
            simp only [ho, Instr.storeAt, h1', h2, Instr.sureAddr, Sem.run_bind, Sem.run_pure, Result.andThen_ok, storeVar, hsize, hsz2, ne_eq, not_true_eq_false, if_false, h3]
            rw [hst]; rfl
        · cases h
      · cases h
    · cases h
  · split at h
    · split at h
      · split at h
        · split at h <;> cases h
        · cases h
      · cases h
    · cases h
  · cases h

/-! ### Calls -/
theorem mkKs_fr (st : St) (n : Nat) : (touchOne st n).fr = st.fr := by
  unfold touchOne; split <;> rfl
theorem touchAll_fr : ∀ (l : List Nat) (st : St), (touchAll st l).fr = st.fr
  | [], _ => rfl
  | n :: r, st => by rw [touchAll, touchAll_fr r, mkKs_fr]
theorem RC_mk_fr (st : St) (r : RC) : (r.mk st).2.fr = st.fr := by cases r <;> rfl
theorem mkRCs_fr : ∀ (rs : List RC) (st : St), (mkRCs st rs).2.fr = st.fr
  | [], _ => rfl
  | r :: rs, st => by
    simp only [mkRCs]
    rw [mkRCs_fr rs, RC_mk_fr]
theorem RPat_mk_fr (st : St) (p : RPat) : (RPat.mk st p).2.fr = st.fr := by
  cases p with
  | one r => exact RC_mk_fr st r
  | tup rs => exact mkRCs_fr rs st
  | nxt rs => exact mkRCs_fr rs _
theorem effCall_ok {ty g g' : Nat} {args args' : List SV} {r : SV} {st' : St} (h : effCall T ty st g' args' = .call g args r st') : st'.fr = st.fr ∧ st.fits = true ∧ g = g' ∧ args = args' ∧ g ∈ T.fns := by
  unfold effCall at h
  split at h
  · rename_i hc
    simp only [Bool.and_eq_true] at hc
    cases h
    exact ⟨by rw [RPat_mk_fr, touchAll_fr], hc.2, rfl, rfl, by simpa using hc.1⟩
  · cases h
theorem effLd_kind {t : Nat} {l : LV} {e : ERes} (h : effLd T t st l = e) : e = .no ∨ ∃ cs r st', e = .ld l t cs r st' := by
  unfold effLd at h
  subst h
  repeat' split
  all_goals first
    | exact .inl rfl
    | exact .inr ⟨_, _, _, rfl⟩
theorem effCall_kind {ty g : Nat} {args : List SV} {e : ERes} (h : effCall T ty st g args = e) : e = .no ∨ ∃ r st', e = .call g args r st' := by
  unfold effCall at h
  subst h
  split
  · exact .inr ⟨_, _, rfl⟩
  · exact .inl rfl
theorem eff_call (hT : TabOk C.P T) (ha : ActOk st ρ ids a) {o : Oper} {g : Nat} {args : List SV} {r : SV} {st' : St} (h : effS T o st = .call g args r st') :
    st'.fr = st.fr ∧ st.fits = true ∧ (execOp a.eval o).run C.P w = .ok (.enter g (args.map (SV.den ρ ids)).toArray) w := by
  unfold effS at h
  split at h
  · split at h <;> cases h
  · split at h
    · split at h <;> cases h
    · split at h
      · rename_i c ho
        split at h
        · rename_i g' args' hg
          obtain ⟨h1, hfit, rfl, rfl, hfn⟩ := effCall_ok h
          refine ⟨h1, hfit, ?_⟩
          unfold fnArgs at hg
          split at hg
          · rename_i f hcal
            split at hg
            · rename_i g2 caps as h1 h2
              cases hg
              have e1 := ev_ok ha (evL_ev h1)
              have e2 := evList_ok ha h2
              have hok := hT.fns g hfn
              unfold fnOk at hok
              split at hok
              · rename_i fn hfun
                simp only [Bool.and_eq_true, bne_iff_ne, ne_eq] at hok
                have hnm : (fn.name == "runtime.NumGoroutine") = false := by simpa using hok.2
                have hbn : fn.body.isNone = false := by cases hh : fn.body <;> simp_all
                have hargs : c.args.map a.eval = (as.map (SV.den ρ ids)).toArray := by
                  apply Array.toList_inj.1; simpa using e2
                unfold execOp
                simp only [ho, resolve, hcal, e1, SV.den, LV.den, Deferred.ofValue, hargs]
                simp only [Sem.run_bind, Sem.run_pure, Result.andThen_ok, invoke, callFunc, run_program, hfun, hnm, hbn, Bool.false_eq_true, if_false]
                simp [SV.den, LV.den]
              · cases hok
            · cases hg
          · cases hg
        · cases h
      · split at h
        · rcases effLd_kind h with h | ⟨_, _, _, h⟩ <;> cases h
        · rcases effLd_kind h with h | ⟨_, _, _, h⟩ <;> cases h
        · cases h
      · cases h
theorem effLd_ok {t : Nat} {l l2 : LV} {t2 : Nat} {cs : List LV} {r : SV} {st' : St} (h : effLd T t2 st l2 = .ld l t cs r st') :
    l = l2 ∧ t = t2 ∧ st'.fr = st.fr ∧ st'.hp = st.hp ∧ st.fits = true ∧
    (∃ i, T.ti t = some i ∧ ((i.d.isAgg = true ∧ r = .agg cs ∧ cs.length = i.size) ∨ (i.d.isAgg = false ∧ (match i.d with | .bad => false | _ => true) = true ∧ ∃ u, cs = [u] ∧ r = .lf u))) := by
  unfold effLd at h
  split at h
  · cases h
  · rename_i i hnb hi
    split at h
    · rename_i hfit
      split at h
      · rename_i hag
        split at h
        · rename_i z hz
          split at h
          · rename_i hzl
            cases h
            refine ⟨rfl, rfl, rfl, rfl, hfit, i, hi, .inl ⟨hag, rfl, ?_⟩⟩
            have : ∀ (ks : List K) (c : Cnt), (mkKs c ks).1.length = ks.length := by
              intro ks
              induction ks with
              | nil => intro c; rfl
              | cons k ks ih => intro c; simp [mkKs, ih]
            rw [this]; simpa using hzl
          · cases h
        · cases h
      · rename_i hag
        split at h
        · cases h
          refine ⟨rfl, rfl, rfl, rfl, hfit, i, hi, .inr ⟨by simpa using hag, ?_, _, rfl, rfl⟩⟩
          obtain ⟨d, sz, z⟩ := i
          cases d <;> first | rfl | (exact absurd rfl (hnb _ _))
        · cases h
    · cases h
  · cases h
theorem eff_ld (hT : TabOk C.P T) {o : Oper} {l : LV} {t : Nat} {cs : List LV} {r : SV} {st' : St} (h : effS T o st = .ld l t cs r st') :
    st'.fr = st.fr ∧ st'.hp = st.hp ∧ st.fits = true ∧ (∃ x, o.op = .load t x ∧ st.evL x = some l) ∧
    (∃ i, T.ti t = some i ∧ ((i.d.isAgg = true ∧ r = .agg cs ∧ cs.length = i.size) ∨ (i.d.isAgg = false ∧ (match i.d with | .bad => false | _ => true) = true ∧ ∃ u, cs = [u] ∧ r = .lf u))) := by
  unfold effS at h
  split at h
  · split at h <;> cases h
  · split at h
    · split at h <;> cases h
    · split at h
      · split at h
        · rcases effCall_kind h with h | ⟨_, _, h⟩ <;> cases h
        · cases h
      · rename_i t' x ho
        split at h
        · rename_i a1 e1 sz1 off1 hl
          obtain ⟨rfl, rfl, h1, h2, h3, h4⟩ := effLd_ok h
          exact ⟨h1, h2, h3, ⟨x, ho, hl⟩, h4⟩
        · rename_i a1 e1 sz1 off1 hl
          obtain ⟨rfl, rfl, h1, h2, h3, h4⟩ := effLd_ok h
          exact ⟨h1, h2, h3, ⟨x, ho, hl⟩, h4⟩
        · cases h
      · cases h
theorem touchSt_fr (st : St) (op : Op) : (touchSt st op).fr = st.fr := by
  unfold touchSt
  split
  · split
    · unfold touchOne; split <;> rfl
    · rfl
  · rfl
theorem eff_gen {o : Oper} {r : Option SV} {st' : St} (h : effS T o st = .gen r st') : st'.fr = st.fr ∧ st.fits = true ∧ operandsOk st o = true := by
  unfold effS at h
  split at h
  · split at h
    · rename_i hc
      simp only [Bool.and_eq_true] at hc
      cases h
      exact ⟨RPat_mk_fr _ _, hc.2, hc.1⟩
    · cases h
  · split at h
    · split at h
      · rename_i hc
        simp only [Bool.and_eq_true] at hc
        cases h
        exact ⟨touchSt_fr _ _, hc.2, hc.1⟩
      · cases h
    · split at h
      · split at h
        · rcases effCall_kind h with h | ⟨_, _, h⟩ <;> cases h
        · cases h
      · split at h
        · rcases effLd_kind h with h | ⟨_, _, _, h⟩ <;> cases h
        · rcases effLd_kind h with h | ⟨_, _, _, h⟩ <;> cases h
        · cases h
      · cases h
/-- What is left to the prover is the operation. -/
theorem gen_exec (ha : ActOk st ρ ids a) {o : Oper} (h : operandsOk st o = true) (hs : ∀ cs b, o.op ≠ .select cs b) : execOp a.eval o = execOp (envOf ρ ids (opEnv st o.op.operands.toList)) ⟨none, o.op, o.type, "", #[], none⟩ := by
  have h1 : execOp a.eval o = execOp a.eval ⟨none, o.op, o.type, "", #[], none⟩ := rfl
  rw [h1]
  refine execOp_congr _ hs fun x hx => ?_
  have hx' : x ∈ o.op.operands.toList := by simpa using hx
  unfold operandsOk at h
  have h2 := List.all_eq_true.1 h x hx'
  obtain ⟨s, hs2⟩ := Option.isSome_iff_exists.1 h2
  cases x with
  | tmp t =>
    rw [ev_ok ha hs2]
    simp only [envOf]
    have key : ∀ l : List Operand, Operand.tmp t ∈ l → lkup t (opEnv st l) = some s := by
      intro l
      induction l with
      | nil => intro hm; cases hm
      | cons y l ih =>
        intro hm
        cases y with
        | tmp u =>
          simp only [opEnv]
          by_cases hu : u = t
          · subst hu
            simp only [St.ev] at hs2
            rw [hs2]
            simp [lkup]
          · have hm' : Operand.tmp t ∈ l := by
              rcases List.mem_cons.1 hm with h | h
              · cases h; exact absurd rfl hu
              · exact h
            split
            · simp only [lkup, if_neg hu]; exact ih hm'
            · exact ih hm'
        | const v => exact ih (by rcases List.mem_cons.1 hm with h | h; cases h; exact h)
        | global g => exact ih (by rcases List.mem_cons.1 hm with h | h; cases h; exact h)
        | func f => exact ih (by rcases List.mem_cons.1 hm with h | h; cases h; exact h)
    rw [key _ hx']
  | const v => rfl
  | global g => rfl
  | func f => rfl
end
end Go.Eng
