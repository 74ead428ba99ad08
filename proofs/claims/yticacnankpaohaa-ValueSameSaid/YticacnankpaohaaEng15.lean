/- The nodes of a symbolic run's outcome, as a prover meets them. No program in sight. -/
import Derived.Test.YticacnankpaohaaEng14
namespace Go.Eng
open Go.RowKit
set_option linter.unusedVariables false
set_option linter.unusedSimpArgs false

section
variable {C : Cfg} {ρ : Env} {pre : List Nat} {hx : HX} {L : Stack}
theorem oneNil : ∀ v, v ∈ ([] : List Value) → v.oneCell' = true := fun _ h => by cases h
theorem envUp {m : Mem} {ids : List Nat} {w : World} {c' : Cnt} {vs : Vals} (hf : Facts C m ρ ids hx w) (hc : (ρ.add vs).cnt = c') (h1 : ∀ v, v ∈ vs.v → v.oneCell' = true) : EnvOk (ρ.add vs) c' := by
  refine ⟨hc, fun v hv => ?_⟩
  simp only [Env.add, List.mem_append] at hv
  rcases hv with hv | hv
  · exact hf.cnt.one v hv
  · exact h1 v hv
/-- A call that makes at most new memory, and whose answer is known. -/
theorem node_pure {f : Nat} {args : List SV} {m m' : Mem} {r : SV} {t : Tree} (vs : Vals) (hhp : m'.hp = m.hp) (hfit : hpFits m.c m.hp.length m.hp = true) (hc : (ρ.add vs).cnt = m'.c) (h1 : ∀ v, v ∈ vs.v → v.oneCell' = true)
    (hcall : ∀ ids w, pre <+: ids → Facts C m ρ ids hx w → Calls C.P f (args.map (SV.den ρ ids)).toArray w fun e w' => e = .returned (r.den (ρ.add vs) ids) ∧ Below w.heap.size w w')
    (h : t.holds C (ρ.add vs) pre hx L) : (Tree.call f args m r m' t).holds C ρ pre hx L := by
  intro ids w hp hf
  refine (hcall ids w hp hf).mono ?_
  rintro e w' ⟨rfl, hb⟩
  refine ⟨vs, ids, hx, rfl, List.prefix_refl _, ?_, holds_pre t hp h⟩
  have := hf.pureCall hb (by rw [hf.len]; exact hfit) (envUp hf hc h1)
  rw [← hhp] at this
  exact this
/-- The same; the answer is known to be one of many: what is known of it goes on. -/
theorem node_pures {f : Nat} {args : List SV} {m m' : Mem} {r : SV} {t : Tree} (G : Vals → Prop) (hhp : m'.hp = m.hp) (hfit : hpFits m.c m.hp.length m.hp = true) (hc : ∀ vs, G vs → (ρ.add vs).cnt = m'.c ∧ ∀ v, v ∈ vs.v → v.oneCell' = true)
    (hcall : ∀ ids w, pre <+: ids → Facts C m ρ ids hx w → Calls C.P f (args.map (SV.den ρ ids)).toArray w fun e w' => ∃ vs, G vs ∧ e = .returned (r.den (ρ.add vs) ids) ∧ Below w.heap.size w w')
    (h : ∀ vs, G vs → t.holds C (ρ.add vs) pre hx L) : (Tree.call f args m r m' t).holds C ρ pre hx L := by
  intro ids w hp hf
  refine (hcall ids w hp hf).mono ?_
  rintro e w' ⟨vs, hg, rfl, hb⟩
  refine ⟨vs, ids, hx, rfl, List.prefix_refl _, ?_, holds_pre t hp (h vs hg)⟩
  have := hf.pureCall hb (by rw [hf.len]; exact hfit) (envUp hf (hc vs hg).1 (hc vs hg).2)
  rw [← hhp] at this
  exact this
/-- A known block behind a call that has changed others. -/
theorem Facts.blkAt {m : Mem} {ids : List Nat} {w : World} (hf : Facts C m ρ ids hx w) (n : Nat) {ty : Nat} {cs : List LV} (h : m.hp[n]? = some (ty, cs)) : w.heap[idAt ids n]? = some (.cells (cellsDen ρ ids cs).toArray ty (0, 0)) := hf.blk n ty cs h
theorem idAt0 {b : Nat} {ids : List Nat} (h : [b] <+: ids) : idAt ids 0 = b := by
  obtain ⟨t, rfl⟩ := h; rfl
/-- A method on a known block, which it changes alone; the answer and the block's new cells are known. -/
theorem node_method {f : Nat} {args : List SV} {m m' : Mem} {r : SV} {t : Tree} (n ty : Nat) (cs cs' : List LV) (vs : Vals) (hn : m.hp[n]? = some (ty, cs)) (hhp : m'.hp = m.hp.set n (ty, cs')) (hfit : hpFits m.c m.hp.length m.hp = true) (hc : (ρ.add vs).cnt = m'.c) (h1 : ∀ v, v ∈ vs.v → v.oneCell' = true)
    (hcall : ∀ ids w, pre <+: ids → Facts C m ρ ids hx w → w.heap[idAt ids n]? = some (.cells (cellsDen ρ ids cs).toArray ty (0, 0)) → Calls C.P f (args.map (SV.den ρ ids)).toArray w fun e w' => e = .returned (r.den (ρ.add vs) ids) ∧ w'.heap[idAt ids n]? = some (.cells (cellsDen (ρ.add vs) ids cs').toArray ty (0, 0)) ∧ w.grownBy w' (some (idAt ids n)))
    (h : t.holds C (ρ.add vs) pre hx L) : (Tree.call f args m r m' t).holds C ρ pre hx L := by
  intro ids w hp hf
  have hlt : n < m.hp.length := by
    rcases Nat.lt_or_ge n m.hp.length with q | q
    · exact q
    · rw [List.getElem?_eq_none q] at hn; cases hn
  have hmem := idAt_mem (ids := ids) (n := n) (hf.len ▸ hlt)
  refine (hcall ids w hp hf (hf.blk n ty cs hn)).mono ?_
  rintro e w' ⟨rfl, hb, hg⟩
  refine ⟨vs, ids, hx, rfl, List.prefix_refl _, ?_, holds_pre t hp h⟩
  refine ⟨by rw [hf.len, hhp]; simp, hf.nod, fun k t2 cs2 hk => ?_, hf.own, ?_, ?_, ?_, envUp hf hc h1⟩
  · rw [hhp, List.getElem?_set] at hk
    split at hk
    · rename_i e
      subst e
      simp only [hlt, if_true, Option.some.injEq, Prod.mk.injEq] at hk
      obtain ⟨rfl, rfl⟩ := hk
      exact hb
    · rename_i e
      have hk2 : k < m.hp.length := by
        rcases Nat.lt_or_ge k m.hp.length with q | q
        · exact q
        · rw [List.getElem?_eq_none q] at hk; cases hk
      rw [hg.block _ (hf.id_lt (idAt_mem (hf.len ▸ hk2))) (fun e2 => by
        exact e (idAt_inj hf.nod (hf.len ▸ hlt) (hf.len ▸ hk2) (Option.some.inj e2).symm))]
      rw [hf.blk k t2 cs2 hk, cellsDen_add hf.cnt.cnt (List.prefix_refl _) hf.len (List.all_eq_true.1 hfit _ (List.mem_of_getElem? hk))]
  · refine ⟨hg.os.trans hf.chg.os, hg.tape.trans hf.chg.tape, hg.output.trans hf.chg.output, Nat.le_trans hf.chg.size hg.size, fun k hk hM => ?_⟩
    rw [hg.block k (Nat.lt_of_lt_of_le hk hf.chg.size) (fun e => ?_)]
    · exact hf.chg.block k hk hM
    · cases e
      rcases hf.own _ hmem with g | g
      · omega
      · exact hM g
  · exact hx.loc w w' hf.x fun b hb2 => hg.block b (hf.sep b hb2).1 (fun e => by cases e; exact (hf.sep _ hb2).2 hmem)
  · exact fun b hb2 => ⟨Nat.lt_of_lt_of_le (hf.sep b hb2).1 hg.size, (hf.sep b hb2).2⟩
/-- A call that hands back a new block. -/
theorem node_new {f : Nat} {args : List SV} {m m' : Mem} {r : SV} {t : Tree} (ty : Nat) (cs' : List LV) (vs : Vals) (hhp : m'.hp = m.hp ++ [(ty, cs')]) (hfit : hpFits m.c m.hp.length m.hp = true) (hc : (ρ.add vs).cnt = m'.c) (h1 : ∀ v, v ∈ vs.v → v.oneCell' = true)
    (hcall : ∀ ids w, pre <+: ids → Facts C m ρ ids hx w → Calls C.P f (args.map (SV.den ρ ids)).toArray w fun e w' => ∃ b, w.heap.size ≤ b ∧ e = .returned (r.den (ρ.add vs) (ids ++ [b])) ∧ w'.heap[b]? = some (.cells (cellsDen (ρ.add vs) (ids ++ [b]) cs').toArray ty (0, 0)) ∧ Below w.heap.size w w')
    (h : t.holds C (ρ.add vs) pre hx L) : (Tree.call f args m r m' t).holds C ρ pre hx L := by
  intro ids w hp hf
  refine (hcall ids w hp hf).mono ?_
  rintro e w' ⟨b, hb0, rfl, hb, hbel⟩
  have hpre : ids <+: ids ++ [b] := List.prefix_append _ _
  refine ⟨vs, ids ++ [b], hx, rfl, hpre, ?_, holds_pre t (hp.trans hpre) h⟩
  refine ⟨by rw [hhp]; simp [hf.len], ?_, fun k t2 cs2 hk => ?_, ?_, hf.chg.trans (chg_of_below hbel), hx.loc w w' hf.x (fun b hb2 => hbel.block b (hf.sep b hb2).1), ?_, envUp hf hc h1⟩
  · refine List.nodup_append.2 ⟨hf.nod, by simp, ?_⟩
    intro x hx1 y hy
    simp only [List.mem_singleton] at hy
    subst hy
    have := hf.id_lt hx1
    omega
  · rw [hhp, List.getElem?_append] at hk
    split at hk
    · rename_i hlt
      rw [idAt_pre hpre (hf.len ▸ hlt), hbel.block _ (hf.id_lt (idAt_mem (hf.len ▸ hlt))), hf.blk k t2 cs2 hk, cellsDen_add hf.cnt.cnt hpre hf.len (List.all_eq_true.1 hfit _ (List.mem_of_getElem? hk))]
    · rename_i hge
      have hk0 : k - m.hp.length = 0 := by
        rcases Nat.eq_zero_or_pos (k - m.hp.length) with q | q
        · exact q
        · rw [List.getElem?_eq_none (by simp; omega)] at hk; cases hk
      rw [hk0] at hk
      simp only [List.getElem?_cons_zero, Option.some.injEq, Prod.mk.injEq] at hk
      obtain ⟨rfl, rfl⟩ := hk
      have hkl : k = ids.length := by have := hf.len; omega
      have h2 : idAt (ids ++ [b]) k = b := by simp [idAt, hkl]
      rw [h2]; exact hb
  · intro id hid
    rcases List.mem_append.1 hid with h | h
    · exact hf.own id h
    · simp only [List.mem_singleton] at h; subst h; exact .inl (Nat.le_trans hf.chg.size hb0)
  · intro b2 hb2
    obtain ⟨h3, h4⟩ := hf.sep b2 hb2
    refine ⟨Nat.lt_of_lt_of_le h3 hbel.size, ?_⟩
    simp only [List.mem_append, List.mem_singleton, not_or]
    exact ⟨h4, by omega⟩
/-- A loop, by an invariant and a measure over what it keeps. -/
theorem loop_i {key : Nat} {es : Vec} {m m' : Mem} {t : Tree} (I : Inv) (μ : Vals → Nat) (start : ∀ ids w, pre <+: ids → Facts C m ρ ids hx w → ∃ hx', HXok hx' w ids ∧ I (es.den ρ ids) hx')
    (round : ∀ vs hx', EnvOk (ρ.add vs) m'.c → I vs hx' → t.holds C (ρ.add vs) pre hx' ((key, fun vs' hx'' => I vs' hx'' ∧ μ vs' < μ vs) :: L)) : (Tree.loop key es m m' t).holds C ρ pre hx L := by
  refine ⟨fun vs hx n => I vs hx ∧ n = μ vs, fun ids w hp hf => ?_, ?_⟩
  · obtain ⟨hx', h1, h2⟩ := start ids w hp hf
    exact ⟨hx', _, h1, h2, rfl⟩
  · rintro vs hx' n hc ⟨hI, rfl⟩
    have e : (fun vs' hx'' => ∃ n', n' < μ vs ∧ I vs' hx'' ∧ n' = μ vs') = (fun vs' hx'' => I vs' hx'' ∧ μ vs' < μ vs) := by
      funext vs' hx''
      exact propext ⟨fun ⟨n', h1, h2, h3⟩ => ⟨h2, h3 ▸ h1⟩, fun ⟨h1, h2⟩ => ⟨_, h2, h1, rfl⟩⟩
    rw [e]; exact round vs hx' hc hI
/-- The end of a function that makes at most new memory. -/
theorem done_pure {P : Program} {W : World} {V : Value} {v : SV} {m : Mem} (h : ∀ ids, v.den ρ ids = V) : (Tree.done v m).holds ⟨P, W, fun _ => False, fun e w' => e = .returned V ∧ Below W.heap.size W w'⟩ ρ pre hx L := fun ids w hp hf => ⟨by rw [h ids], hf.chg.below⟩
theorem br_t {b : BE} {t f : Tree} (hb : b.den ρ = true) (h : t.holds C ρ pre hx L) : (Tree.br b t f).holds C ρ pre hx L := ⟨fun _ => h, fun e => absurd (hb.symm.trans e) (by decide)⟩
theorem br_f {b : BE} {t f : Tree} (hb : b.den ρ = false) (h : f.holds C ρ pre hx L) : (Tree.br b t f).holds C ρ pre hx L := ⟨fun e => absurd (hb.symm.trans e) (by decide), fun _ => h⟩
theorem br_i {b : BE} {t f : Tree} (ht : b.den ρ = true → t.holds C ρ pre hx L) (hf : b.den ρ = false → f.holds C ρ pre hx L) : (Tree.br b t f).holds C ρ pre hx L := ⟨ht, hf⟩
theorem par_i {a b : Tree} (h1 : a.holds C ρ pre hx L) (h2 : b.holds C ρ pre hx L) : (Tree.par a b).holds C ρ pre hx L := ⟨h1, h2⟩
theorem need_i {p : Need} {t : Tree} (hp : p.den ρ) (h : t.holds C ρ pre hx L) : (Tree.need p t).holds C ρ pre hx L := ⟨hp, fun _ => h⟩
theorem Facts.initP {P : Program} {w : World} {R : Ending → World → Prop} {ρ : Env} {c : Cnt} (hc : ρ.cnt = c) (h1 : ∀ v, v ∈ ρ.v → v.oneCell' = true) : Facts ⟨P, w, fun _ => False, R⟩ ⟨[], c⟩ ρ [] HX.nil w := Facts.init0 hc h1
theorem HXok.none (w : World) (ids : List Nat) : HXok HX.nil w ids := ⟨trivial, fun b hb => hb.elim⟩
/-- The contract, as it is used. -/
theorem calls_at {P : Program} {T : Tab} (hT : TabOk P T) {f : FuncId} {fn : Func} (hf : P.funcs[f]? = some fn) (hb : fn.body.isSome = true) {args : List SV} {hp : List (Nat × List LV)} {c : Cnt} {t : Tree}
    (ht : runF T (fn.body.getD .skip) fn.results.toList (entry fn.ntmps args hp c) = t) {ρ : Env} {ids : List Nat} {hx : HX} {W : World} {M : Nat → Prop} {R : Ending → World → Prop} {as : Array Value} (ha : (args.map (SV.den ρ ids)).toArray = as)
    (h0 : Facts ⟨P, W, M, R⟩ ⟨hp, c⟩ ρ ids hx W) (h : t.holds ⟨P, W, M, R⟩ ρ ids hx []) : Calls P f as W R := by
  obtain ⟨b, hb⟩ := Option.isSome_iff_exists.1 hb
  subst ha
  refine calls_ok (m := ⟨hp, c⟩) hT hf hb args ?_ h0 h
  rw [← ht, hb]; rfl
theorem wrap_i64 {x : Int} (h : -9223372036854775808 ≤ x ∧ x ≤ 9223372036854775807) : IntKind.i64.wrap x = x := IntWalk.i64_in _ (by omega)
end
end Go.Eng
