/- Regions that draw their order. No program in sight. -/
import Derived.Test.YticacnankpaohaaEng10
namespace Go.Eng
set_option linter.unusedVariables false
set_option linter.unusedSimpArgs false

section
variable {C : Cfg} {T : Tab}
def onlyNormal (Q : Exit → Act → World → Prop) : Exit → Act → World → Prop
  | .normal, a, w => Q .normal a w
  | _, _, _ => False
/-- The blocks that are not said to change are as they were. -/
def Stay (wr : List Nat) (hp0 : List (Nat × List LV)) (ρ0 : Env) (ids0 : List Nat) (w : World) : Prop :=
  ∀ n ty cs, wr.contains n = false → hp0[n]? = some (ty, cs) → w.heap[idAt ids0 n]? = some (.cells (cellsDen ρ0 ids0 cs).toArray ty (0, 0))
def Kept (wr : List Nat) (hp0 hp : List (Nat × List LV)) : Prop :=
  ∀ n ty cs, wr.contains n = false → hp0[n]? = some (ty, cs) → ∃ cs', hp[n]? = some (ty, cs') ∧ ∀ ρ ids, cellsDen ρ ids cs = cellsDen ρ ids cs'
theorem kept_of_S (wr : List Nat) : ∀ (j : Nat) (h0 h : List (Nat × List LV)), keptS wr j h0 h = true → ∀ n ty cs, wr.contains (j + n) = false → h0[n]? = some (ty, cs) → ∃ cs', h[n]? = some (ty, cs') ∧ ∀ ρ ids, cellsDen ρ ids cs = cellsDen ρ ids cs'
  | j, [], h, _, n, ty, cs, _, hn => by simp at hn
  | j, x :: r, [], hk, _, _, _, _, _ => by simp [keptS] at hk
  | j, x :: r, p :: q, hk, n, ty, cs, hw, hn => by
    simp only [keptS, Bool.and_eq_true, Bool.or_eq_true] at hk
    cases n with
    | zero =>
      simp only [List.getElem?_cons_zero, Option.some.injEq] at hn
      subst hn
      simp only [Nat.add_zero] at hw
      rcases hk.1 with h | h
      · rw [hw] at h; cases h
      · simp only [beq_iff_eq] at h
        obtain ⟨p1, p2⟩ := p
        obtain ⟨h1, h2⟩ := h
        simp only at h1
        subst h1
        exact ⟨p2, rfl, fun ρ ids => sameL_den ρ ids h2⟩
    | succ n =>
      have := kept_of_S wr (j + 1) r q hk.2 n ty cs (by rw [show j + 1 + n = j + (n + 1) by omega]; exact hw) (by simpa using hn)
      simpa using this
theorem stay_of {st0 st : St} {wr : List Nat} {ρ0 ρ : Env} {ids0 ids : List Nat} {hx : HX} {w : World} (hf : Facts C st.mem ρ ids hx w) (hk : Kept wr st0.hp st.hp) (hfit : st0.fits = true) (hc : ρ0.cnt = st0.c) (hl : ids0.length = st0.hp.length)
    (hi : ids0 <+: ids) (hρ : ∃ x, ρ = ρ0.add x) : Stay wr st0.hp ρ0 ids0 w := fun n ty cs hw hn => by
  obtain ⟨cs', h1, h2⟩ := hk n ty cs hw hn
  obtain ⟨x, rfl⟩ := hρ
  have h3 := hf.blk n ty cs' h1
  rw [← h2] at h3
  have h4 := cellsDen_add (x := x) hc hi hl (fits_hp hfit hn)
  rw [h4] at h3
  have hlt : n < st0.hp.length := by
    rcases Nat.lt_or_ge n st0.hp.length with q | q
    · exact q
    · rw [List.getElem?_eq_none q] at hn; cases hn
  rw [idAt_pre hi (hl ▸ hlt)] at h3
  exact h3
def unl (l : Array Bool) : Nat := l.toList.countP (fun b => !b)
theorem unl_set {l : Array Bool} {i : Nat} (h : l.getD i true = false) : unl (l.setIfInBounds i true) + 1 = unl l := by
  have hi : i < l.size := by
    rcases Nat.lt_or_ge i l.size with q | q
    · exact q
    · simp [Array.getD, Nat.not_lt.2 q] at h
  have hv : l.toList[i]'(by simpa using hi) = false := by simpa [Array.getD, hi] using h
  unfold unl
  rw [Array.toList_setIfInBounds]
  have key : ∀ (l : List Bool) (i : Nat) (hi : i < l.length), l[i] = false → (l.set i true).countP (fun b => !b) + 1 = l.countP (fun b => !b) := by
    intro l
    induction l with
    | nil => intro i hi; simp at hi
    | cons b l ih =>
      intro i hi hb
      cases i with
      | zero => simp at hb; subst hb; simp
      | succ i =>
        simp only [List.getElem_cons_succ] at hb
        have := ih i (by simpa using hi) hb
        simp only [List.set_cons_succ, List.countP_cons]
        omega
  exact key l.toList i (by simpa using hi) hv
theorem firstQuiet_some {wr : List Nat} {st0 st : St} {ops : Array Oper} {listed : Array Bool} : ∀ {rs : List Nat} {i : Nat} {p : Option Need} {d : Option Nat} {v : SV}, firstQuiet T wr st0 ops listed st rs = some (i, p, d, v) →
    i ∈ rs ∧ ∃ o, ops[i]? = some o ∧ Region.free .any ops listed i = true ∧ d = o.dst ∧ ((p = none ∧ quietS T wr st0 ops o st = .val v) ∨ ∃ q, p = some q ∧ quietS T wr st0 ops o st = .need q v)
  | [], _, _, _, _, h => by simp [firstQuiet] at h
  | j :: r, i, p, d, v, h => by
    simp only [firstQuiet] at h
    split at h
    · cases h
    · rename_i o ho
      split at h
      · rename_i hfree
        split at h
        · rename_i u hu
          cases h
          exact ⟨by simp, o, ho, hfree, rfl, .inl ⟨rfl, hu⟩⟩
        · rename_i q u hu
          cases h
          exact ⟨by simp, o, ho, hfree, rfl, .inr ⟨q, rfl, hu⟩⟩
        · obtain ⟨h1, h2⟩ := firstQuiet_some h; exact ⟨by simp [h1], h2⟩
      · obtain ⟨h1, h2⟩ := firstQuiet_some h; exact ⟨by simp [h1], h2⟩
theorem parAll_holds : ∀ {l : List Tree} {ρ : Env} {pre : List Nat} {hx : HX} {L : Stack}, (parAll l).holds C ρ pre hx L → ∀ t, t ∈ l → t.holds C ρ pre hx L
  | [], _, _, _, _, h, _, _ => h.elim
  | [t], _, _, _, _, h, u, hu => by simp at hu; subst hu; exact h
  | t :: s :: r, _, _, _, _, h, u, hu => by
    rcases List.mem_cons.1 hu with rfl | hu
    · exact h.1
    · exact parAll_holds h.2 u hu
def QRes.gives (ρ : Env) : QRes → SV → Prop
  | .val v, u => v = u
  | .need p v, u => v = u ∧ p.den ρ
  | .no, _ => False
theorem quiet_yields (hT : TabOk C.P T) {wr : List Nat} {st0 st : St} {ops : Array Oper} {o : Oper} {v : SV} {ρ0 ρ : Env} {ids0 ids : List Nat} {a : Act} {hx : HX} {w : World} (hq : (quietS T wr st0 ops o st).gives ρ v) (hs : Sit C st ρ ids hx a w)
    (hfit : st0.fits = true) (hc : ρ0.cnt = st0.c) (hl : ids0.length = st0.hp.length) (hi : ids0 <+: ids) (hρ : ∃ x, ρ = ρ0.add x) : YieldsIf C.P ops (Stay wr st0.hp ρ0 ids0) o (v.den ρ ids) a := by
  unfold quietS at hq
  split at hq
  · rename_i hg
    cases hq
    exact .inr ⟨gd_no hs.act hg, rfl⟩
  · rename_i hg
    refine .inl ⟨gd_yes hs.act hg, fun w' hw' => ?_⟩
    split at hq
    · rename_i u hu
      exact pure_ok hT hs.act hs.facts.cnt (by rw [hu]; exact hq) w'
    · rename_i p u hu
      exact pure_ok hT hs.act hs.facts.cnt (by rw [hu]; exact hq) w'
    · exact hq.elim
    · split at hq
      · rename_i t x ho
        split at hq
        · rename_i n off hx
          split at hq
          · rename_i p q hp0 hp
            split at hq
            · rename_i hcond
              simp only [Bool.and_eq_true, Bool.not_eq_true', beq_iff_eq] at hcond
              split at hq
              · rename_i u hu
                cases hq
                obtain ⟨p1, p2⟩ := p
                obtain ⟨q1, q2⟩ := q
                obtain ⟨⟨hw1, hty⟩, hsame⟩ := hcond
                simp only at hty hsame
                subst hty
                refine load_run (C := C) hT hs.act ho hx hu hp ?_
                have h3 := hw' n _ _ hw1 hp0
                have hlt : n < st0.hp.length := by
                  rcases Nat.lt_or_ge n st0.hp.length with q | q
                  · exact q
                  · rw [List.getElem?_eq_none q] at hp0; cases hp0
                obtain ⟨x, rfl⟩ := hρ
                rw [idAt_pre hi (hl ▸ hlt), ← sameL_den _ _ hsame, cellsDen_add hc hi hl (fits_hp hfit hp0)]
                exact h3
              · exact hq.elim
            · exact hq.elim
          · exact hq.elim
        · exact hq.elim
      · exact hq.elim
  · exact hq.elim
theorem runD_ok (hT : TabOk C.P T) {wr : List Nat} {st0 : St} {ops : Array Oper} {k : St → Tree} {ρ0 : Env} {ids0 : List Nat} {L : Stack} {Q : Exit → Act → World → Prop} (hsel : Region.noSelect ops = true)
    (hfit : st0.fits = true) (hc : ρ0.cnt = st0.c) (hl : ids0.length = st0.hp.length)
    (hK : ∀ st' ρ' pre' ids' hx' a' w', (k st').holds C ρ' pre' hx' L → pre' <+: ids' → Sit C st' ρ' ids' hx' a' w' → ids0 <+: ids' → (∃ x, ρ' = ρ0.add x) → Q .normal a' w') :
    ∀ (n : Nat) (listed : Array Bool) (st : St) (ρ : Env) (pre ids : List Nat) (hx : HX) (a : Act) (w : World) (m : Nat),
    (runD T wr st0 ops n listed st k).holds C ρ pre hx L → pre <+: ids → Sit C st ρ ids hx a w → ids0 <+: ids → (∃ x, ρ = ρ0.add x) → Kept wr st0.hp st.hp → unl listed ≤ m →
    wpAnyH C.P .any ops (onlyNormal Q) (Stay wr st0.hp ρ0 ids0) m listed a w
  | 0, _, _, _, _, _, _, _, _, _, h, _, _, _, _, _, _ => by simp only [runD] at h; exact h.elim
  | n + 1, listed, st, ρ, pre, ids, hx, a, w, m, h, hp, hs, hi, hρ, hk, hm => by
    have hbr : ∀ b : BE, (Tree.br b (runD T wr st0 ops n listed (st.assume b true) k) (runD T wr st0 ops n listed (st.assume b false) k)).holds C ρ pre hx L → wpAnyH C.P .any ops (onlyNormal Q) (Stay wr st0.hp ρ0 ids0) m listed a w := fun b hb => by
      cases hd : b.den ρ with
      | true => exact runD_ok hT hsel hfit hc hl hK n listed (st.assume b true) ρ pre ids hx a w m (hb.1 hd) hp ⟨hs.facts, hs.act.assume hd⟩ hi hρ hk hm
      | false => exact runD_ok hT hsel hfit hc hl hK n listed (st.assume b false) ρ pre ids hx a w m (hb.2 hd) hp ⟨hs.facts, hs.act.assume hd⟩ hi hρ hk hm
    have hstay := stay_of hs.facts hk hfit hc hl hi hρ
    simp only [runD] at h
    split at h
    · rename_i hr
      exact wpAnyH_done (Q := onlyNormal Q) hr (hK _ _ _ _ _ _ _ h hp hs hi hρ) m
    · rename_i i0 rs0 hr
      -- something may come up: it is not listed yet
      have hun : ∀ i, i ∈ Region.ready .any ops listed → listed.getD i true = false := fun i hi => (mem_ready.1 hi).1
      have hm1 : 0 < m := by
        have h0 := hun i0 (by rw [hr]; simp)
        have := unl_set h0
        omega
      obtain ⟨m, rfl⟩ : ∃ q, m = q + 1 := ⟨m - 1, by omega⟩
      have hset : ∀ i, i ∈ Region.ready .any ops listed → unl (listed.setIfInBounds i true) ≤ m := fun i hi => by
        have := unl_set (hun i hi); omega
      have htake : ∀ (i : Nat) (o : Oper) (v : SV), i ∈ i0 :: rs0 → ops[i]? = some o → Region.free .any ops listed i = true → (quietS T wr st0 ops o st).gives ρ v →
          (runD T wr st0 ops n (listed.setIfInBounds i true) (st.put o.dst v) k).holds C ρ pre hx L → wpAnyH C.P .any ops (onlyNormal Q) (Stay wr st0.hp ρ0 ids0) (m + 1) listed a w := fun i o v hir ho hfree hq hh => by
        have hir' : i ∈ Region.ready .any ops listed := by rw [hr]; exact hir
        refine wpAnyH_take (i := i) (oi := o) (v := v.den ρ ids) ho hsel hfree (by simpa using hir') (fun c a w hh => hh) (quiet_yields hT hq hs hfit hc hl hi hρ) hstay ?_
        exact runD_ok hT hsel hfit hc hl hK n _ _ ρ pre ids hx _ w m hh hp (hpEq_sit (st' := st) hs _ _) hi hρ (by rw [put_hp]; exact hk) (hset i hir')
      split at h
      · rename_i i d v hfq
        obtain ⟨h1, o, ho, hfree, rfl, h2⟩ := firstQuiet_some hfq
        rcases h2 with ⟨_, h2⟩ | ⟨q, h2, _⟩
        · exact htake i o v h1 ho hfree (by rw [h2]; rfl) h
        · cases h2
      · rename_i i p d v hfq
        obtain ⟨h1, o, ho, hfree, rfl, h2⟩ := firstQuiet_some hfq
        rcases h2 with ⟨h2, _⟩ | ⟨q, h2, h3⟩
        · cases h2
        · cases h2
          exact htake i o v h1 ho hfree (by rw [h3]; exact ⟨rfl, h.1⟩) (h.2 h.1)
      · split at h
        · exact hbr _ h
        · refine wpAnyH_all hr (by simp) fun i hir => ?_
          have hir' : i ∈ Region.ready .any ops listed := by rw [hr]; exact hir
          have ht := parAll_holds h _ (List.mem_map.2 ⟨i, hir, rfl⟩)
          unfold wpOp
          split at ht
          · exact ht.elim
          · rename_i o ho
            simp only [ho]
            split at ht
            · rename_i hg
              rw [if_pos (gd_yes hs.act hg)]
              by_cases hb : ∃ b, pureS T o st = .br b
              · obtain ⟨b, hb⟩ := hb
                unfold stepT at ht
                rw [hb] at ht
                have := hbr b ht
                have h3 := this.2 i hir'
                unfold wpOp at h3
                simp only [ho] at h3
                rw [if_pos (gd_yes hs.act hg)] at h3
                exact h3
              · refine .inl (step_ok hT ht hp hs (fun b e => hb ⟨b, e⟩) fun st' ρ' pre' ids' hx' a' w' hh hp' hs' hi' hρ' hch => ?_)
                have hk' : Kept wr st0.hp st'.hp := by
                  rcases hch with h4 | h4
                  · rw [h4]; exact hk
                  · intro n ty cs h5 h6
                    have := kept_of_S wr 0 _ _ h4 n ty cs (by simpa using h5) h6
                    exact this
                have hρ2 : ∃ x, ρ' = ρ0.add x := by
                  obtain ⟨x, rfl⟩ := hρ
                  obtain ⟨y, rfl⟩ := hρ'
                  exact Env.add_add ρ0 x y
                exact ⟨stay_of hs'.facts hk' hfit hc hl (hi.trans hi') hρ2,
                  runD_ok hT hsel hfit hc hl hK n _ st' ρ' pre' ids' hx' a' w' m hh hp' hs' (hi.trans hi') hρ2 hk' (hset i hir')⟩
            · rename_i hg
              rw [if_neg (by rw [gd_no hs.act hg]; simp)]
              exact ⟨hstay, runD_ok hT hsel hfit hc hl hK n _ _ ρ pre ids hx _ w m ht hp (hpEq_sit (st' := st) hs o.dst (.tup [])) hi hρ (by rw [put_hp]; exact hk) (hset i hir')⟩
            · exact ht.elim
end
end Go.Eng
