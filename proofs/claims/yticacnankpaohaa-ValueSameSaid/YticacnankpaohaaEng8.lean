/- One operation on the blocks that are known; calls (2). No program in sight. -/
import Derived.Test.YticacnankpaohaaEng7
namespace Go.Eng
set_option linter.unusedVariables false
set_option linter.unusedSimpArgs false

section
variable {C : Cfg} {T : Tab} {st : St} {ρ : Env} {ids : List Nat} {hx : HX} {w : World} {a : Act}
theorem run_newRow (P : Program) (e : TypeId) (cells : Array Value) (w : World) : (newRow e cells).run P w = .ok ⟨w.heap.size, 0, none⟩ (w.alloc (.cells cells e)) := rfl
theorem fitsHp {st : St} (h : st.fits = true) : hpFits st.mem.c st.mem.hp.length st.mem.hp = true := by
  unfold St.fits at h
  simp only [Bool.and_eq_true] at h
  exact h.2
theorem idAt_last (n b : Nat) (h : ids.length = n) : idAt (ids ++ [b]) n = b := by subst h; simp [idAt]
theorem repL_len (n : Nat) (z : List LV) : (repL n z).length = n * z.length := by
  induction n with
  | zero => simp [repL]
  | succ n ih => simp only [repL, List.length_append, ih, Nat.succ_mul]; omega
theorem repL_get (z : List LV) (hz : 0 < z.length) : ∀ (n j : Nat), j < n * z.length → (repL n z)[j]? = z[j % z.length]?
  | 0, j, h => by simp at h
  | n + 1, j, h => by
    rw [Nat.succ_mul] at h
    simp only [repL, List.getElem?_append]
    split
    · rename_i h1; rw [Nat.mod_eq_of_lt h1]
    · rename_i h1
      rw [repL_get z hz n (j - z.length) (by omega)]
      congr 1
      exact (Nat.mod_eq_sub_mod (Nat.le_of_not_lt h1)).symm
theorem new_ok (hT : TabOk C.P T) (ha : ActOk st ρ ids a) (hf : Facts C st.mem ρ ids hx w) (hfit : st.fits = true) {o : Oper} {v : SV} {st' : St} (h : heapS T o st = .new v st') :
    ∃ w', (execOp a.eval o).run C.P w = .ok (.value (v.den ρ (ids ++ [w.heap.size]))) w' ∧ Facts C st'.mem ρ (ids ++ [w.heap.size]) hx w' ∧ st'.fr = st.fr := by
  have hpre : ids <+: ids ++ [w.heap.size] := List.prefix_append _ _
  have hlen : ids.length = st.hp.length := hf.len
  have hden : ∀ cs : List LV, cs.all (LV.fits st.c st.hp.length) = true → cellsDen ρ (ids ++ [w.heap.size]) cs = cellsDen ρ ids cs := fun cs hc => by
    have := cellsDen_add (x := Vals.nil) hf.cnt.cnt hpre hf.len hc
    rwa [Env.add_nil] at this
  unfold heapS at h
  split at h
  · split at h
    · split at h <;> cases h
    · cases h
  · rename_i t ho
    split at h
    · rename_i z hz
      cases h
      obtain ⟨zv, h1, h2⟩ := zero_ok hT hz ρ (ids ++ [w.heap.size]) w
      refine ⟨w.alloc (.cells zv.cells t), ?_, hf.alloc (fitsHp hfit) t z zv.cells h2, rfl⟩
      unfold execOp
      simp only [ho, Instr.alloc, Sem.run_bind, h1, Result.andThen_ok, newVar, run_newRow, Sem.run_pure, SV.den, LV.den, idAt_last _ _ hlen]
    · cases h
  · rename_i t x ho
    split at h
    · rename_i cs hc
      cases h
      obtain ⟨s, hs, hcs⟩ := Option.bind_eq_some_iff.1 hc
      have h1 := ev_ok ha hs
      have h2 := cells_den (ids := ids) hf.cnt hcs
      have h3 := cells_fits (ev_fit hfit hs) hcs
      refine ⟨w.alloc (.cells (s.den ρ ids).cells t), ?_, hf.alloc (fitsHp hfit) t cs _ (by rw [h2, hden cs h3]), rfl⟩
      unfold execOp
      simp only [ho, Instr.box, h1, Sem.run_bind, newVar, run_newRow, Result.andThen_ok, Sem.run_pure, SV.den, LV.den, idAt_last _ _ hlen]
    · cases h
  · split at h
    · split at h
      · split at h <;> cases h
      · cases h
    · cases h
  · rename_i t len ps ho
    split at h
    · rename_i e _ _ vs hi hvs
      split at h
      · rename_i sz z hsz hz
        split at h
        · rename_i hb
          split at h
          · rename_i cs hfl
            cases h
            obtain ⟨_, _, _, _, hd⟩ := ti_ok hT hi
            have hu := und_slice hd
            unfold Tab.size at hsz
            obtain ⟨j, hj, rfl⟩ := Option.map_eq_some_iff.1 hsz
            have hs := run_size hT hj w
            obtain ⟨zv, h1, h2⟩ := zero_ok hT hz ρ ids w
            have h2l : zv.cells.size = j.size := by rw [← Array.length_toList, h2]; simp [cellsDen, hb.1]
            -- the zero cells, one behind the other
            have hzero : ((Array.range (len * j.size)).map fun q => (if len * j.size = 0 then #[] else zv.cells)[q % (if len * j.size = 0 then #[] else zv.cells).size]!).toList = cellsDen ρ ids (repL len z) := by
              apply List.ext_getElem?
              intro q
              simp only [Array.toList_map, Array.toList_range, List.getElem?_map, getElem_cellsDen]
              by_cases hq : q < len * j.size
              · have hne : ¬ len * j.size = 0 := by omega
                rw [List.getElem?_range hq, repL_get z (by omega) len q (by rw [hb.1]; exact hq), if_neg hne, h2l, hb.1]
                have hlt : q % j.size < j.size := Nat.mod_lt _ hb.2.1
                have e1 : zv.cells[q % j.size]! = (cellsDen ρ ids z)[q % j.size]?.getD default := by
                  rw [← h2]; simp only [getElem!_def, Array.getElem?_toList]; cases zv.cells[q % j.size]? <;> rfl
                simp only [Option.map_some, e1, getElem_cellsDen]
                rw [List.getElem?_eq_getElem (by rw [hb.1]; exact hlt)]
                rfl
              · rw [List.getElem?_eq_none (by simp; omega), List.getElem?_eq_none (by rw [repL_len, hb.1]; omega)]
                rfl
            obtain ⟨R, hR1, hR2⟩ := fill_ok (ids := ids) hf.cnt _ _ _ _ hfl _ hzero
            have hev := evAll_ok ha hvs
            have hfitR : cs.all (LV.fits st.c st.hp.length) = true := by
              have hzf := zero_fits hT hz st.c st.hp.length
              have hrep : (repL len z).all (LV.fits st.c st.hp.length) = true := by
                clear hzero hR1 hfl
                generalize len = n
                induction n with
                | zero => rfl
                | succ n ih => simp only [repL, List.all_append, hzf, ih, Bool.and_self]
              have hvf : ∀ p, p ∈ vs → p.2.fits st.c st.hp.length = true := by
                clear hR1 hfl hev
                generalize ps.toList = l at hvs
                induction l generalizing vs with
                | nil => simp only [evAll, Option.some.injEq] at hvs; subst hvs; simp
                | cons p l ih =>
                  obtain ⟨q, x⟩ := p
                  simp only [evAll] at hvs
                  split at hvs
                  · rename_i s1 us g1 g2
                    cases hvs
                    intro p hp
                    rcases List.mem_cons.1 hp with rfl | hp
                    · exact ev_fit hfit g1
                    · exact ih _ g2 p hp
                  · cases hvs
              clear hR1 hzero hev hvs
              generalize repL len z = base at *
              induction vs generalizing base with
              | nil => simp only [fillS, Option.some.injEq] at hfl; subst hfl; exact hrep
              | cons p vs ih =>
                obtain ⟨q, s1⟩ := p
                simp only [fillS] at hfl
                split at hfl
                · rename_i off size xs g1 g2
                  split at hfl
                  · refine ih (fun p hp => hvf p (by simp [hp])) _ hfl ?_
                    have := cells_fits (hvf (q, s1) (by simp)) g2
                    simp only [List.all_eq_true] at *
                    intro u hu
                    unfold splice at hu
                    simp only [List.mem_append] at hu
                    rcases hu with (hu | hu) | hu
                    · exact hrep u (List.mem_of_mem_take hu)
                    · exact this u hu
                    · exact hrep u (List.mem_of_mem_drop hu)
                  · cases hfl
                · cases hfl
            refine ⟨w.alloc (.cells R e), ?_, hf.alloc (fitsHp hfit) e cs R (by rw [hR2, hden cs hfitR]), rfl⟩
            have hbig : ¬ (len * j.size > 2 ^ 24) := by have := hb.2.2; omega
            unfold execOp
            simp only [ho]
            have hmap : (ps.map fun x => (x.1, a.eval x.2)).toList = vs.map fun p => (p.1, p.2.den ρ ids) := by simpa using hev
            have key : (Instr.buildSlice t len (ps.map fun x => (x.1, a.eval x.2))).run C.P w = .ok (.slice (some ⟨w.heap.size, 0, none⟩) len len) (w.alloc (.cells R e)) := by
              unfold Instr.buildSlice
              simp only [Sem.run_bind, run_underlying hu, Result.andThen_ok, hs, Sem.run_ite, if_neg hbig]
              by_cases h0 : len * j.size = 0
              · simp only [h0, if_true] at hR1
                simp only [h0, if_true, Sem.run_pure, Result.andThen_ok, hmap, hR1, Sem.run_bind, run_newRow]
              · simp only [h0, if_false] at hR1
                simp only [h0, if_false, Sem.run_pure, Result.andThen_ok, hmap, hR1, Sem.run_bind, h1, run_newRow]
            rw [Sem.run_bind]
            erw [key]
            simp only [Result.andThen_ok, Sem.run_pure, SV.den, LV.den, idAt_last _ _ hlen]
          · cases h
        · cases h
      · cases h
    · cases h
  · cases h
end
end Go.Eng
