/- One operation on the blocks that are known; calls. No program in sight. -/
import Derived.Test.YticacnankpaohaaEng6
namespace Go.Eng
set_option linter.unusedVariables false
set_option linter.unusedSimpArgs false

section
variable {C : Cfg} {T : Tab} {st : St} {ρ : Env} {ids : List Nat} {hx : HX} {w : World} {a : Act}

theorem Facts.id_lt {m : Mem} (hf : Facts C m ρ ids hx w) {id : Nat} (h : id ∈ ids) : id < w.heap.size := by
  obtain ⟨n, hn, rfl⟩ := List.getElem_of_mem h
  have hn' : n < m.hp.length := hf.len ▸ hn
  have := hf.blk n (m.hp[n]).1 (m.hp[n]).2 (List.getElem?_eq_getElem hn')
  have e : idAt ids n = ids[n] := by simp [idAt, List.getD, hn]
  rw [e] at this
  rcases Nat.lt_or_ge ids[n] w.heap.size with q | q
  · exact q
  · rw [Array.getElem?_eq_none q] at this; cases this
theorem idAt_mem {n : Nat} (h : n < ids.length) : idAt ids n ∈ ids := by
  have e : idAt ids n = ids[n] := by simp [idAt, List.getD, h]
  rw [e]; exact List.getElem_mem h
theorem idAt_inj {n m : Nat} (hn : ids.Nodup) (h1 : n < ids.length) (h2 : m < ids.length) (h : idAt ids n = idAt ids m) : n = m := by
  have e1 : idAt ids n = ids[n] := by simp [idAt, List.getD, h1]
  have e2 : idAt ids m = ids[m] := by simp [idAt, List.getD, h2]
  rw [e1, e2] at h
  exact (List.getElem_inj hn).1 h
theorem fits_hp {st : St} (h : st.fits = true) {n ty : Nat} {cs : List LV} (hn : st.hp[n]? = some (ty, cs)) : cs.all (LV.fits st.c st.hp.length) = true := by
  unfold St.fits at h
  simp only [Bool.and_eq_true] at h
  exact List.all_eq_true.1 h.2 _ (List.mem_of_getElem? hn)

/-- A load of a known block. -/
theorem loadS_ok (hT : TabOk C.P T) {t n off ty : Nat} {cs : List LV} {v : SV} (h : loadS T t st n off = some v) (hn : st.hp[n]? = some (ty, cs))
    (hb : w.heap[idAt ids n]? = some (.cells (cellsDen ρ ids cs).toArray ty (0, 0))) : (loadVar t ⟨idAt ids n, off, none⟩).run C.P w = .ok (v.den ρ ids) w := by
  unfold loadS at h
  rw [hn] at h
  split at h
  · rename_i i ty' cs' hi hcs
    cases hcs
    have hcell : ∀ j u, cs[off + j]? = some u → w.cell? ((⟨idAt ids n, off, none⟩ : Addr).add j) = some (u.den ρ ids) := fun j u hu => by
      rw [add_plain']; simp [World.cell?, hb, getElem_cellsDen, hu]
    split at h
    · rename_i ha
      split at h
      · rename_i hl
        cases h
        have hbad : (match i.d with | .bad => false | _ => true) = true := by cases hh : i.d <;> simp_all [TD.isAgg]
        have hlen : (cellsDen ρ ids (sub cs off i.size)).length = i.size := by simp [cellsDen, sub]; omega
        have := run_loadCells_list (P := C.P) w ⟨idAt ids n, off, none⟩ (cellsDen ρ ids (sub cs off i.size)) (fun j u hu => by
          rw [getElem_cellsDen, Option.map_eq_some_iff] at hu
          obtain ⟨l, hl1, rfl⟩ := hu
          refine hcell j l ?_
          unfold sub at hl1
          rw [List.getElem?_take] at hl1
          split at hl1
          · simpa using hl1
          · cases hl1)
        rw [hlen] at this
        simp only [loadVar, Sem.run_bind, run_isAgg hT hi hbad, Result.andThen_ok, ha, if_true, run_size hT hi, this, Sem.run_pure, SV.den]
      · cases h
    · rename_i ha
      have hl : i.d.isAgg = false := by simpa using ha
      have hb' : (match i.d with | .bad => false | _ => true) = true ∧ (cs[off]?).map SV.lf = some v := by
        split at h
        · cases h
        · rename_i hne; exact ⟨by split <;> simp_all, h⟩
      obtain ⟨l, hl2, rfl⟩ := Option.map_eq_some_iff.1 hb'.2
      have := hcell 0 l (by simpa using hl2)
      simp only [loadVar, Sem.run_bind, run_isAgg hT hi hb'.1, Result.andThen_ok, hl, Bool.false_eq_true, if_false, run_load]
      have e : (⟨idAt ids n, off, none⟩ : Addr).add 0 = ⟨idAt ids n, off, none⟩ := rfl
      rw [e] at this
      rw [this]; rfl
  · cases h
theorem heap_val (hT : TabOk C.P T) (ha : ActOk st ρ ids a) {o : Oper} {v : SV} (h : heapS T o st = .val v) :
    ∃ t x n off, o.op = .load t x ∧ st.evL x = some (.ptr n off) ∧ loadS T t st n off = some v := by
  unfold heapS at h
  split at h
  · rename_i t x ho
    split at h
    · rename_i n off hx
      split at h
      · rename_i u hu; cases h; exact ⟨t, x, n, off, ho, hx, hu⟩
      · cases h
    · cases h
  · split at h <;> cases h
  · split at h <;> cases h
  · split at h
    · split at h
      · split at h <;> cases h
      · cases h
    · cases h
  · split at h
    · split at h
      · split at h
        · split at h <;> cases h
        · cases h
      · cases h
    · cases h
  · cases h
theorem load_run (hT : TabOk C.P T) (ha : ActOk st ρ ids a) {o : Oper} {v : SV} {t : Nat} {x : Operand} {n off ty : Nat} {cs : List LV} (ho : o.op = .load t x) (hx : st.evL x = some (.ptr n off)) (hl : loadS T t st n off = some v)
    (hn : st.hp[n]? = some (ty, cs)) (hb : w.heap[idAt ids n]? = some (.cells (cellsDen ρ ids cs).toArray ty (0, 0))) : (execOp a.eval o).run C.P w = .ok (.value (v.den ρ ids)) w := by
  have h1 := ev_ok ha (evL_ev hx)
  have h2 := loadS_ok (ρ := ρ) (ids := ids) hT hl hn hb
  unfold execOp
  simp only [ho, Instr.loadAt, h1, SV.den, LV.den, Instr.sureAddr]
  rw [Sem.run_bind, Sem.run_bind, Sem.run_pure, Result.andThen_ok, h2]; rfl
theorem loadS_hp {t n off : Nat} {v : SV} (h : loadS T t st n off = some v) : ∃ ty cs, st.hp[n]? = some (ty, cs) := by
  unfold loadS at h
  split at h
  · rename_i h2; exact ⟨_, _, h2⟩
  · cases h

/-- A new block. -/
theorem Facts.alloc {m : Mem} (hf : Facts C m ρ ids hx w) (hfit : hpFits m.c m.hp.length m.hp = true) (t : Nat) (cs : List LV) (us : Array Value) (hu : us.toList = cellsDen ρ (ids ++ [w.heap.size]) cs) :
    Facts C ⟨m.hp ++ [(t, cs)], m.c⟩ ρ (ids ++ [w.heap.size]) hx (w.alloc (.cells us t)) := by
  have hpre : ids <+: ids ++ [w.heap.size] := List.prefix_append _ _
  refine ⟨by simp [hf.len], ?_, ?_, ?_, ?_, ?_, ?_, hf.cnt⟩
  · refine List.nodup_append.2 ⟨hf.nod, by simp, ?_⟩
    intro x hx1 y hy
    simp only [List.mem_singleton] at hy
    subst hy
    have := hf.id_lt hx1
    omega
  · intro n ty cs' hn
    simp only [List.getElem?_append] at hn
    split at hn
    · rename_i hlt
      have h1 := hf.blk n ty cs' hn
      have h2 : idAt (ids ++ [w.heap.size]) n = idAt ids n := idAt_pre hpre (hf.len ▸ hlt)
      have h3 := hf.id_lt (idAt_mem (ids := ids) (n := n) (hf.len ▸ hlt))
      rw [h2, heap_alloc_old w _ h3, h1]
      have h4 : cs'.all (LV.fits m.c m.hp.length) = true := List.all_eq_true.1 hfit _ (List.mem_of_getElem? hn)
      have := cellsDen_add (x := Vals.nil) hf.cnt.cnt hpre hf.len h4
      rw [Env.add_nil] at this
      rw [this]
    · rename_i hge
      have hn0 : n - m.hp.length = 0 := by
        rcases Nat.eq_zero_or_pos (n - m.hp.length) with q | q
        · exact q
        · rw [List.getElem?_eq_none (by simp; omega)] at hn; cases hn
      rw [hn0] at hn
      simp only [List.getElem?_cons_zero, Option.some.injEq, Prod.mk.injEq] at hn
      obtain ⟨rfl, rfl⟩ := hn
      have hnl : n = ids.length := by have := hf.len; omega
      have h2 : idAt (ids ++ [w.heap.size]) n = w.heap.size := by simp [idAt, hnl]
      rw [h2, heap_alloc_new]
      congr 2
      apply Array.toList_inj.1
      rw [hu]
  · intro id hid
    rcases List.mem_append.1 hid with h | h
    · exact hf.own id h
    · simp only [List.mem_singleton] at h; subst h; exact .inl hf.chg.size
  · refine hf.chg.trans ⟨rfl, rfl, rfl, ?_, fun k hk _ => heap_alloc_old w _ hk⟩
    show w.heap.size ≤ (w.heap.push _).size
    simp
  · exact hx.loc w _ hf.x fun b hb => heap_alloc_old w _ (hf.sep b hb).1
  · intro b hb
    obtain ⟨h1, h2⟩ := hf.sep b hb
    refine ⟨?_, ?_⟩
    · show b < (w.heap.push _).size
      simp; omega
    · simp only [List.mem_append, List.mem_singleton, not_or]; exact ⟨h2, by omega⟩
theorem toLV_fits (c : Cnt) (m : Nat) (v : Value) : (toLV v).fits c m = true := by
  unfold toLV; split <;> rfl
theorem ev_fit {st : St} (hfit : st.fits = true) {x : Operand} {s : SV} (h : st.ev x = some s) : s.fits st.c st.hp.length = true := by
  cases x with
  | tmp t =>
    obtain ⟨h1, h2⟩ := St.get_ne h
    unfold St.fits at hfit
    simp only [Bool.and_eq_true] at hfit
    exact List.all_eq_true.1 hfit.1 s (List.mem_of_getElem? h1)
  | const v =>
    simp only [St.ev] at h
    have : toSV v = s := by
      split at h
      · cases h
      · cases h; rfl
    rw [← this]
    unfold toSV
    split
    · rfl
    · rfl
    · simp only [SV.fits, List.all_map, List.all_eq_true]; intro u _; exact toLV_fits _ _ u
    · exact toLV_fits _ _ v
  | global g => simp [St.ev] at h
  | func f => simp only [St.ev, Option.some.injEq] at h; subst h; rfl
theorem cells_fits {c : Cnt} {m : Nat} {s : SV} {cs : List LV} (h : s.fits c m = true) (hc : s.cells = some cs) : cs.all (LV.fits c m) = true := by
  cases s with
  | lf l =>
    simp only [SV.cells] at hc
    split at hc
    · cases hc; simp only [List.all_cons, List.all_nil, Bool.and_true]; exact h
    · cases hc
  | agg cs' => cases hc; exact h
  | tup _ => cases hc
  | nxt _ _ => cases hc
  | dead => cases hc
theorem same_fits {c : Cnt} {m : Nat} {x y : LV} (h : x.same y = true) (hx : ∃ v, x = toLV v) : y.fits c m = true := by
  obtain ⟨v, rfl⟩ := hx
  unfold toLV at h
  split at h <;> (cases y <;> simp_all [LV.same, LV.fits, IE.fits, BE.fits])
  · obtain ⟨_, rfl⟩ := h; rfl
  · subst h; rfl
theorem zero_fits (hT : TabOk C.P T) {t : Nat} {z : List LV} (h : T.zero t = some z) (c : Cnt) (m : Nat) : z.all (LV.fits c m) = true := by
  unfold Tab.zero at h
  obtain ⟨i, hi, hz⟩ := Option.bind_eq_some_iff.1 h
  obtain ⟨inf, h1, _, h3, _⟩ := ti_ok hT hi
  rw [hz] at h3
  unfold zeroB at h3
  simp only at h3
  split at h3
  · rename_i v hv
    generalize v.cells.toList = l at h3
    induction l generalizing z with
    | nil => cases z <;> simp_all [sameL]
    | cons u l ih =>
      cases z with
      | nil => rfl
      | cons y z =>
        simp only [List.map_cons, sameL, Bool.and_eq_true] at h3
        simp only [List.all_cons, Bool.and_eq_true]
        refine ⟨same_fits h3.1 ⟨u, rfl⟩, ?_⟩
        have : ∀ (l : List Value) (z : List LV), sameL (l.map toLV) z = true → z.all (LV.fits c m) = true := by
          intro l
          induction l with
          | nil => intro z hz; cases z <;> simp_all [sameL]
          | cons u l ih =>
            intro z hz
            cases z with
            | nil => rfl
            | cons y z =>
              simp only [List.map_cons, sameL, Bool.and_eq_true] at hz
              simp only [List.all_cons, Bool.and_eq_true]
              exact ⟨same_fits hz.1 ⟨u, rfl⟩, ih z hz.2⟩
        exact this l z h3.2
  · cases h3
end
end Go.Eng
