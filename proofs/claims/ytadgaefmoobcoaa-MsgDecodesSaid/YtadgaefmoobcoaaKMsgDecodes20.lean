/- Part 20 of the texts of a proof about the given program: what the statement's proof needs of them. -/
import Derived.Test.YtadgaefmoobcoaaKMsgDecodes19
namespace Go.Eng
open Go.RowKit Go.Syn
set_option linter.unusedVariables false
set_option linter.unusedSimpArgs false
section
variable {C : Cfg} {ρ : Env} {pre : List Nat} {hx hx' rest : HX} {L : Stack} {m m' : Mem} {ty : Nat} {ps : List (Nat × SV)} {t : Tree} {ids : List Nat} {w w' : World} {vs : Vals}
theorem Facts.act2 {F : Nat → Prop} {n1 n2 b1 b2 : Nat} {cs1 cs1' cs2 cs2' : List LV} (hf : Facts C m ρ ids hx w) (hg : Chg F w w') (hF0 : ∀ b, F b → b = idAt ids n1 ∨ b = idAt ids n2 ∨ (hx.F b ∧ (C.W.heap.size ≤ b ∨ C.M b))) (hn1 : m.hp[n1]? = some (b1, cs1)) (hn2 : m.hp[n2]? = some (b2, cs2)) (hne : n1 ≠ n2)
    (hb1 : w'.heap[idAt ids n1]? = some (.cells (cellsDen (ρ.add vs) ids cs1').toArray b1 (0, 0))) (hb2 : w'.heap[idAt ids n2]? = some (.cells (cellsDen (ρ.add vs) ids cs2').toArray b2 (0, 0))) (hX : hx'.X w') (hF : ∀ b, hx'.F b → hx.F b ∨ (w.heap.size ≤ b ∧ b < w'.heap.size))
    (hhp : m'.hp = (m.hp.set n1 (b1, cs1')).set n2 (b2, cs2')) (hfit : hpFits m.c m.hp.length m.hp = true) (hc : (ρ.add vs).cnt = m'.c) (h1 : ∀ v, v ∈ vs.v → v.oneCell' = true) : Facts C m' (ρ.add vs) ids hx' w' := by
  have lt : ∀ {n : Nat} {y : Nat × List LV}, m.hp[n]? = some y → n < m.hp.length := fun {n y} h => by
    rcases Nat.lt_or_ge n m.hp.length with q | q
    · exact q
    · rw [List.getElem?_eq_none q] at h; cases h
  have l1 := lt hn1
  have l2 := lt hn2
  have m1 := idAt_mem (ids := ids) (n := n1) (hf.len ▸ l1)
  have m2 := idAt_mem (ids := ids) (n := n2) (hf.len ▸ l2)
  refine ⟨by rw [hf.len, hhp]; simp, hf.nod, fun k t3 cs3 hk => ?_, hf.own, ?_, hX, ?_, envUp' hf hc h1⟩
  · rw [hhp, List.getElem?_set] at hk
    split at hk
    · rename_i e
      subst e
      simp only [List.length_set, l2, if_true, Option.some.injEq, Prod.mk.injEq] at hk
      obtain ⟨rfl, rfl⟩ := hk
      exact hb2
    rename_i e2
    rw [List.getElem?_set] at hk
    split at hk
    · rename_i e
      subst e
      simp only [l1, if_true, Option.some.injEq, Prod.mk.injEq] at hk
      obtain ⟨rfl, rfl⟩ := hk
      exact hb1
    rename_i e1
    have hk2 := lt hk
    have hmk := idAt_mem (ids := ids) (n := k) (hf.len ▸ hk2)
    have hno : ¬ F (idAt ids k) := fun q => by
      rcases hF0 _ q with q | q | q
      · exact e1 (idAt_inj hf.nod (hf.len ▸ l1) (hf.len ▸ hk2) q.symm)
      · exact e2 (idAt_inj hf.nod (hf.len ▸ l2) (hf.len ▸ hk2) q.symm)
      · exact (hf.sep _ q.1).2 hmk
    rw [hg.block _ (hf.id_lt hmk) hno, hf.blk k t3 cs3 hk, cellsDen_add hf.cnt.cnt (List.prefix_refl _) hf.len (List.all_eq_true.1 hfit _ (List.mem_of_getElem? hk))]
  · refine ⟨hg.os.trans hf.chg.os, hg.tape.trans hf.chg.tape, hg.output.trans hf.chg.output, Nat.le_trans hf.chg.size hg.size, fun k hk hM => ?_⟩
    rw [hg.block k (Nat.lt_of_lt_of_le hk hf.chg.size) (fun q => ?_)]
    · exact hf.chg.block k hk hM
    · have own : ∀ {i : Nat}, i ∈ ids → k = i → False := fun hi e => by
        subst e
        rcases hf.own _ hi with q | q
        · omega
        · exact hM q
      rcases hF0 _ q with q | q | ⟨_, q⟩
      · exact own m1 q
      · exact own m2 q
      · rcases q with q | q
        · omega
        · exact hM q
  · intro b hb3
    rcases hF b hb3 with h | ⟨h2, h3⟩
    · exact ⟨Nat.lt_of_lt_of_le (hf.sep b h).1 hg.size, (hf.sep b h).2⟩
    · exact ⟨h3, fun hm => by have := hf.id_lt hm; omega⟩
end
end Go.Eng
namespace Go.Proofs.Ytadgaefmoobcoaa
open Go.ChangeShapes Go.WideShapes Go.ChangeAt Go.RowKit Go.Syn Go.Eng
set_option linter.unusedVariables false
set_option linter.unusedSimpArgs false
set_option maxRecDepth 100000
abbrev tDecode8b0 : List LV := [(tVi 17), (tVi 18), (tVi 19), (tVi 20), (tVi 21), (tVi 22), (tVi 23), (tVi 24), (tVi 25), (tVi 26), (tSl 7 14 15), (tSl 8 16 17), (tSl 9 18 19), (tVi 27), (tVi 28), (tVi 29), (tVi 30), (tVi 31), (tVi 32), (tVi 33), (tVi 34), (tVi 35), (tVi 36), (tVi 37), (tSl 10 20 21)]
abbrev tDecode8b1 : List LV := [(tVi 4), (tVi 7), (tVi 10), (tVi 13), (tLi 0), (tLi 0), (tLi 0), (tLi 0), (tLi 0), (tLi 0), .nilsl, .nilsl, .nilsl, (tLi 0), (tLi 0), (tLi 0), (tLi 0), (tLi 0), (tLi 0), (tLi 0), (tLi 0), (tLi 0), (tLi 0), (tLi 0), .nilsl]
abbrev tDecode8b2 : List LV := [(tLi 0), (tLi 0), (tLi 0), (tLi 0), (tLi 0), (tLi 0), (tLi 0), (tLi 0), (tLi 0), (tLi 0), .nilsl, .nilsl, .nilsl, (tLi 0), (tLi 0), (tLi 0), (tLi 0), (tLi 0), (tLi 0), (tLi 0), (tLi 0), (tLi 0), (tLi 0), (tLi 0), .nilsl]
abbrev tDecode8m0 : Mem := ⟨[(37, tDecode8b2), (128, [(tSl 11 22 23), (tVi 38), (tVi 39)]), (37, tDecode8b0)], ⟨41, 0, 0, 24, 12⟩⟩
abbrev tDecode8m1 : Mem := ⟨[(37, tDecode8b2), (128, [(tSl 11 22 23), (tVi 38), (tVi 39)]), (37, tDecode8b0)], ⟨42, 0, 0, 24, 12⟩⟩
abbrev tDecode8m2 : Mem := ⟨[(37, tDecode8b2), (128, [(tSl 6 12 13), (tVi 15), (tVi 16)]), (37, tDecode8b0)], ⟨38, 0, 0, 22, 11⟩⟩
abbrev tDecode8m3 : Mem := ⟨[(37, tDecode8b2), (128, [(tSl 5 10 11), (tVi 11), (tVi 12)]), (37, tDecode8b1)], ⟨15, 0, 0, 12, 6⟩⟩
abbrev tDecode8m4 : Mem := ⟨[(37, tDecode8b2), (128, [(tSl 5 10 11), (tVi 11), (tVi 12)]), (37, tDecode8b1)], ⟨16, 0, 0, 12, 6⟩⟩
abbrev tDecode8m5 : Mem := ⟨[(37, tDecode8b2), (128, [(tSl 4 8 9), (tVi 8), (tVi 9)])], ⟨11, 0, 0, 10, 5⟩⟩
abbrev tDecode8m6 : Mem := ⟨[(37, tDecode8b2), (128, [(tSl 1 2 3), (tVi 0), (tVi 1)])], ⟨2, 0, 0, 4, 2⟩⟩
abbrev tDecode8m7 : Mem := ⟨[(37, tDecode8b2), (128, [(tSl 2 4 5), (tVi 2), (tVi 3)])], ⟨5, 0, 0, 6, 3⟩⟩
abbrev tDecode8m8 : Mem := ⟨[(37, tDecode8b2), (128, [(tSl 3 6 7), (tVi 5), (tVi 6)])], ⟨8, 0, 0, 8, 4⟩⟩
set_option maxRecDepth 100000 in
theorem tDecode8 : (runF ⟨tt, fns, { touch := [(59, [0]), (84, [0]), (85, [0]), (82, [0]), (83, [0]), (62, [0]), (61, [0, 1])], ret := [(58, .one (.newp 128 [.sl, .int .i64, .int .i64]))], joins := [(8, ⟨[], []⟩)] }⟩ (Try.f22.body.getD .skip) Try.f22.results.toList (entry Try.f22.ntmps [.lf (.sl 0 (.var 0) (.var 1))] [] ⟨0, 0, 0, 2, 1⟩)) =
  (.br (.cmp .gtr (.nat 0) (.lit 65536)) (.done (.tup [(.true, tDecode8b2), (.false, [(tLi 12)])]) ⟨[(37, tDecode8b2)], ⟨0, 0, 0, 2, 1⟩⟩) (.call 58 [(.lf (tSl 0 0 1))] ⟨[(37, tDecode8b2)], ⟨0, 0, 0, 2, 1⟩⟩ (.lf (.ptr 1 0)) tDecode8m6 (.call 59 [(.lf (.ptr 1 0)), (.lf (tLi 1125899906842624))] tDecode8m6 (.lf (tVi 4)) tDecode8m7 (.call 59 [(.lf (.ptr 1 0)), (.lf (tLi 1125899906842624))] tDecode8m7 (.lf (tVi 7)) tDecode8m8 (.call 59 [(.lf (.ptr 1 0)), (.lf (tLi 1125899906842624))] tDecode8m8 (.lf (tVi 10)) tDecode8m5 (.call 59 [(.lf (.ptr 1 0)), (.lf (tLi 1125899906842624))] tDecode8m5 (.lf (tVi 13)) ⟨[(37, tDecode8b2), (128, [(tSl 5 10 11), (tVi 11), (tVi 12)])], ⟨14, 0, 0, 12, 6⟩⟩ (.call 25 [(.lf (tVi 4))] ⟨[(37, tDecode8b2), (128, [(tSl 5 10 11), (tVi 11), (tVi 12)]), (37, tDecode8b1)], ⟨14, 0, 0, 12, 6⟩⟩ (.lf (tVi 14)) tDecode8m3 (.join 8 tDecode8m3 tDecode8m3 (.br (.cmp .eql (.var 14) (.lit 0)) (.call 60 [(.lf (.ptr 1 0))] tDecode8m3 (.lf (tVi 15)) tDecode8m4 (.br (.cmp .eql (.var 15) (.lit 0)) (.done (.tup [(.true, tDecode8b2), (.false, [(tLi 26)])]) tDecode8m4) (.again 8 ⟨[], [], [], [], []⟩ tDecode8m4))) (.again 8 ⟨[], [], [], [], []⟩ tDecode8m3)) (.call 61 [(.lf (.ptr 1 0)), (.lf (.ptr 2 0)), (.lf (tVi 14))] tDecode8m3 (.tup []) tDecode8m2 (.call 62 [(.lf (.ptr 1 0))] tDecode8m2 (.lf (tVi 40)) tDecode8m0 (.br (.cmp .neq (.var 40) (.lit 0)) (.done (.tup [(.true, tDecode8b2), (.false, [(tVi 40)])]) tDecode8m0) (.call 10 [(.agg tDecode8b0)] tDecode8m0 (.lf (tVi 41)) tDecode8m1 (.br (.cmp .neq (.var 41) (.lit 0)) (.done (.tup [(.true, tDecode8b2), (.false, [(tVi 41)])]) tDecode8m1) (.done (.tup [(.true, tDecode8b0), (.false, [(tLi 0)])]) ⟨[(37, tDecode8b0), (128, [(tSl 11 22 23), (tVi 38), (tVi 39)]), (37, tDecode8b0)], ⟨42, 0, 0, 24, 12⟩⟩)))))))))))))) := by kernel_rfl
structure Mc where
  k : Int
  f : Int
  t : Int
  e : Int
  r : Int
  n : Int
  slot : Int
  low : Int
  tm : Int
  v : Vl
  vs : List (Vo Vl)
  c : CmD
  rk : Int
  re : Int
  im : Int
  d : List Int
def Ms.con (m : Ms) : Mc := ⟨m.k, m.f, m.t, m.e, m.r, m.n, m.slot, m.low, m.tm, m.p.v, vlsOf m.vs, m.c, m.rk, m.re, m.im, m.d⟩
def vNo (x : Vo Vl) : Vo Pv := ⟨x.s, x.r, x.n, ⟨x.v, none, 0, none, 0⟩⟩
def Mc.ms (c : Mc) : Ms := ⟨c.k, c.f, c.t, c.e, c.r, c.n, c.slot, c.low, c.tm, ⟨c.v, none, 0, none, 0⟩, none, 0, c.vs.map vNo, c.c, c.rk, c.re, c.im, none, 0, c.d⟩
theorem vlsOf_no (l : List (Vo Vl)) : vlsOf (l.map vNo) = l := by
  unfold vlsOf
  rw [List.map_map]
  induction l with
  | nil => rfl
  | cons x r ih => rw [List.map_cons, ih]; rfl
theorem Mc.con_ms (c : Mc) : c.ms.con = c := by
  show (⟨_, _, _, _, _, _, _, _, _, _, vlsOf (c.vs.map vNo), _, _, _, _, _⟩ : Mc) = c
  rw [vlsOf_no]
  rfl
theorem con_len {m m' : Ms} (h : m.con = m'.con) : m.vs.length = m'.vs.length := by
  have h1 : (vlsOf m.vs).length = (vlsOf m'.vs).length := by rw [show vlsOf m.vs = vlsOf m'.vs from congrArg Mc.vs h]
  unfold vlsOf at h1
  rwa [List.length_map, List.length_map] at h1
theorem plr_con {m m' : Ms} (h : m.con = m'.con) (q : PlR m) : PlR m' := by
  have hl := con_len h
  obtain ⟨h1, h2, h3, h4, h5, h6, h7, h8, h9, h10, h11, h12, h13, h14, h15, h16⟩ := Mc.mk.inj h
  obtain ⟨a1, a2, a3, a4, a5, a6, a7, a8, a9, a10, a11, a12, a13, a14, a15, a16, a17, a18⟩ := q
  rw [h1] at a1 a5 a6 a7 a8 a9 a10 a11 a12 a13 a18
  rw [h2] at a2
  rw [h3] at a3
  rw [h4] at a4
  rw [h5, h6] at a5
  rw [h7] at a6 a15 a18
  rw [h8] at a7 a16
  rw [h9] at a8 a17
  rw [h10] at a9
  rw [hl] at a10
  rw [h12] at a11
  rw [h13, h14, h15] at a12
  rw [h16] at a13 a14
  exact ⟨a1, a2, a3, a4, a5, a6, a7, a8, a9, a10, a11, a12, a13, a14, a15, a16, a17, a18⟩
theorem chk_con {m m' : Ms} (h : m.con = m'.con) : chkM m = chkM m' := by
  have hp : plainP m = plainP m' := by
    rw [Bool.eq_iff_iff, plain_iff, plain_iff]
    exact ⟨plr_con h, plr_con h.symm⟩
  obtain ⟨h1, h2, h3, h4, h5, h6, h7, h8, h9, h10, h11, h12, h13, h14, h15, h16⟩ := Mc.mk.inj h
  have hc : cmdX m = cmdX m' := by unfold cmdX; rw [h1, h12]
  have hr : resB m = resB m' := by unfold resB; rw [h13, h14, h15]
  unfold chkM
  rw [hp]
  have : restE m = restE m' := by unfold restE; rw [h1, h5, h6, h7, h10, h11, hc, hr]
  rw [this]
def chkC (c : Mc) : Int := chkM c.ms
theorem chkC_is (m : Ms) : chkM m = chkC m.con := chk_con (by rw [Mc.con_ms])
def hq (bs : List Int) (n : Nat) : Nat × Int := itN (stC big bs) n (0, 0)
def hk (bs : List Int) : Int := (vaC big bs (hq bs 0) : Int)
def rdC (u : Int) (bs : List Int) (k f t e : Int) (q : Nat × Int) : Mc :=
  { k := k, f := f, t := t, e := e, r := opt (ub u 1) (vaC big bs q : Int) 0, n := opt (ub u 1) (vaC big bs (stC big bs q) : Int) 0, slot := opt (ub u 2) (vaC big bs (sB u bs q) : Int) 0, low := opt (ub u 4) (vaC big bs (sN 2 u bs (sB u bs q)) : Int) 0, tm := opt (ub u 8) (vaC big bs (sN 4 u bs (sN 2 u bs (sB u bs q))) : Int) 0,
    v := vV u bs (q4 u bs q), vs := vO u bs (sV u bs (q4 u bs q)), c := opt (ub u 64) (tcC bs (q6 u bs q)) cz, rk := opt (ub u 128) (vaN bs (sC u bs (q6 u bs q))) 0, re := opt (ub u 128) (vaN bs (stN bs (sC u bs (q6 u bs q)))) 0, im := opt (ub u 128) (vaN bs (stN bs (stN bs (sC u bs (q6 u bs q))))) 0, d := vD u bs (q8 u bs q) }
def rdMc (bs : List Int) : Mc := rdC (useI (hk bs)) bs (hk bs) (vaC big bs (hq bs 1) : Int) (vaC big bs (hq bs 2) : Int) (vaC big bs (hq bs 3) : Int) (hq bs 4)
def doneE (bs : List Int) : Int := doneB bs.length (q9 (useI (hk bs)) bs (hq bs 4)).1 (q9 (useI (hk bs)) bs (hq bs 4)).2
def decE7 (bs : List Int) : Int := if bs.length > 65536 then 12 else if useI (hk bs) = 0 ∧ (hq bs 4).2 = 0 then 26 else if doneE bs ≠ 0 then doneE bs else chkC (rdMc bs)
def decC7 (bs : List Int) : Mc := if decE7 bs = 0 then rdMc bs else mz.con
theorem rd_con (u : Int) (bs : List Int) (q : Nat × Int) (k f t e : Int) (pp : Pv) (av : Option Addr) (cv : Nat) (vs : List (Vo Pv)) (ad : Option Addr) (cd : Nat) (h1 : pp.v = vV u bs (q4 u bs q)) (h2 : vlsOf vs = vO u bs (sV u bs (q4 u bs q))) :
    ({ gR u bs (sC u bs (q6 u bs q)) (gC u bs (q6 u bs q) { gT u bs (sN 4 u bs (sN 2 u bs (sB u bs q))) (gL u bs (sN 2 u bs (sB u bs q)) (gS u bs (sB u bs q) (gB u bs q { mz with k := k, f := f, t := t, e := e }))) with p := pp, av := av, cv := cv, vs := vs }) with ad := ad, cd := cd, d := vD u bs (q8 u bs q) } : Ms).con = rdC u bs k f t e q := by
  unfold Ms.con rdC
  dsimp only
  have eB : ∀ (c : Bool) (x y : Ms), (opt c x y).k = opt c x.k y.k ∧ (opt c x y).f = opt c x.f y.f ∧ (opt c x y).t = opt c x.t y.t ∧ (opt c x y).e = opt c x.e y.e ∧ (opt c x y).r = opt c x.r y.r ∧ (opt c x y).n = opt c x.n y.n ∧ (opt c x y).slot = opt c x.slot y.slot ∧ (opt c x y).low = opt c x.low y.low ∧ (opt c x y).tm = opt c x.tm y.tm ∧ (opt c x y).p = opt c x.p y.p ∧ (opt c x y).vs = opt c x.vs y.vs ∧ (opt c x y).c = opt c x.c y.c ∧ (opt c x y).rk = opt c x.rk y.rk ∧ (opt c x y).re = opt c x.re y.re ∧ (opt c x y).im = opt c x.im y.im := fun c x y => by
    unfold opt
    split <;> exact ⟨rfl, rfl, rfl, rfl, rfl, rfl, rfl, rfl, rfl, rfl, rfl, rfl, rfl, rfl, rfl⟩
  have same : ∀ {α : Type} (c : Bool) (x : α), opt c x x = x := fun c x => by unfold opt; split <;> rfl
  unfold gR gC gT gL gS gB
  simp only [eB, same, h1, h2]
  rfl
section
variable {W : World} {RR : Ending → World → Prop} {ρ : Env} {pre : List Nat} {hx : HX} {S : Stack} {m m' : Mem} {t : Tree} {args : List SV} {a : Option Addr} {cap : Nat} {bs : List Int}
theorem node_fd (u : Int) (q : Nat × Int) (k f t' e : Int) {c1 c2 : List LV} (hok : RdOk hx a cap bs) (hq' : q.1 ≤ bs.length) (h1 : m.hp[1]? = some (128, c1)) (h2 : m.hp[2]? = some (37, c2)) (hc1 : ∀ ids, cellsDen ρ ids c1 = rcells a cap bs q.1 q.2) (hc2 : ∀ ids, cellsDen ρ ids c2 = ({ mz with k := k, f := f, t := t', e := e } : Ms).cells)
    (hargs : ∀ ids, (args.map (SV.den ρ ids)).toArray = #[.pointer (some ⟨idAt ids 1, 0, none⟩), .pointer (some ⟨idAt ids 2, 0, none⟩), .int .i64 u]) (c1' c2' : List LV) (hhp : m'.hp = (m.hp.set 1 (128, c1')).set 2 (37, c2'))
    (hc1' : ∀ (mm : Ms) ids, cellsDen (ρ.add (stV a cap bs mm (q9 u bs q))) ids c1' = rcells a cap bs (q9 u bs q).1 (q9 u bs q).2) (hc2' : ∀ (mm : Ms) ids, cellsDen (ρ.add (stV a cap bs mm (q9 u bs q))) ids c2' = mm.cells) (hfit : hpFits m.c m.hp.length m.hp = true) (hc : ∀ mm : Ms, (ρ.add (stV a cap bs mm (q9 u bs q))).cnt = m'.c)
    (h : ∀ mm : Ms, mm.con = rdC u bs k f t' e q → (∀ k, mm.R.F k → W.heap.size ≤ k ∧ ¬ hx.F k) → t.holds ⟨Try.prog, W, fun _ => False, RR⟩ (ρ.add (stV a cap bs mm (q9 u bs q))) pre (hx.and mm.R) S) :
    (Tree.call 61 args m (.tup []) m' t).holds ⟨Try.prog, W, fun _ => False, RR⟩ ρ pre hx S := by
  intro ids w hp hf
  rw [hargs]
  have lt : ∀ {n : Nat} {y : Nat × List LV}, m.hp[n]? = some y → n < ids.length := fun {n y} g => by
    rw [hf.len]
    rcases Nat.lt_or_ge n m.hp.length with z | z
    · exact z
    · rw [List.getElem?_eq_none z] at g; cases g
  have b2 := hf.blk 2 _ _ h2
  rw [hc2] at b2
  have hne : idAt ids 1 ≠ idAt ids 2 := fun e => by have := idAt_inj hf.nod (lt h1) (lt h2) e; omega
  refine (fields_any (idAt ids 1) (idAt ids 2) a cap bs u q { mz with k := k, f := f, t := t', e := e } w (rd_at 1 hok hq' hf h1 hc1) b2 hne (fun j hj z => (hf.sep j (hok.fr j hj)).2 (z ▸ idAt_mem (lt h2))) rfl ⟨rfl, rfl, rfl⟩ ⟨rfl, rfl, rfl⟩).mono ?_
  rintro e' w' ⟨rfl, pp, av, cv, vs, ad, cd, mm, g1, g2, g3, gb1, gb2, gX, gF, gch⟩
  have hcon : mm.con = rdC u bs k f t' e q := by rw [g3]; exact rd_con u bs q k f t' e pp av cv vs ad cd g1 g2
  refine ⟨stV a cap bs mm (q9 u bs q), ids, hx.and mm.R, rfl, List.prefix_refl _, hf.act2 (n1 := 1) (n2 := 2) gch (fun b hb => hb.elim .inl fun z => .inr (.inl z)) h1 h2 (by decide) (by rw [hc1']; exact gb1) (by rw [hc2']; exact gb2) (hx' := hx.and mm.R) ⟨hx.loc w w' hf.x fun k hk => gch.block k (hf.sep k hk).1 fun z => ?_, gX⟩ (fun k hk => hk.elim .inl fun z => .inr (gF k z)) hhp hfit (hc mm) oneNil, holds_pre t hp (h mm hcon fun k hk => ⟨Nat.le_trans hf.chg.size (gF k hk).1, fun z => by have := (hf.sep k z).1; have := (gF k hk).1; omega⟩)⟩
  rcases z with z | z
  · exact (hf.sep k hk).2 (z ▸ idAt_mem (lt h1))
  · exact (hf.sep k hk).2 (z ▸ idAt_mem (lt h2))
end
def RdM (w : World) (c : Mc) (err : Int) (e : Ending) (w' : World) : Prop := ∃ m : Ms, e = .returned (.tuple #[m.val, .int .i64 err]) ∧ m.con = c ∧ m.R.X w' ∧ (∀ k, m.R.F k → w.heap.size ≤ k ∧ k < w'.heap.size) ∧ Below w.heap.size w w'
theorem mz_R (w : World) : mz.R.X w := ⟨⟨⟨pvR_z w, fun x hx => by cases hx⟩, HX.rw_nil _ _ _ _⟩, HX.rw_nil _ _ _ _⟩
theorem mz_RF {k : Nat} (h : mz.R.F k) : False := by
  rcases h with ((h | ⟨x, hx, _⟩) | h) | h
  · exact pvR_zF h
  · cases hx
  · exact h.1 rfl
  · exact h.1 rfl
theorem R_X {m : Ms} {w : World} (h : m.R.X w) : m.X.X w := ⟨⟨⟨rw_cells h.1.1.1.1, rw_cells h.1.1.1.2⟩, rw_cells h.1.2, fun x hx => by
  obtain ⟨y, hy, rfl⟩ := List.mem_map.1 hx
  have := h.1.1.2 _ (List.mem_map.2 ⟨y, hy, rfl⟩)
  exact ⟨rw_cells this.1, rw_cells this.2⟩⟩, rw_cells h.2⟩
structure McWf (o : Mc) : Prop where
  k : I64 o.k
  f : I64 o.f
  t : I64 o.t
  e : I64 o.e
  r : I64 o.r
  n : I64 o.n
  slot : I64 o.slot
  low : I64 o.low
  tm : I64 o.tm
  v : VlWf o.v
  vs : ∀ x ∈ o.vs, I64 x.s ∧ I64 x.r ∧ I64 x.n ∧ VlWf x.v
  c : CmFit o.c
  rk : I64 o.rk
  re : I64 o.re
  im : I64 o.im
  d : Byt o.d
  dl : o.d.length ≤ 140737488355328
  vl : o.vs.length ≤ 4611686018427387904
theorem McWf.ms {m : Ms} (h : McWf m.con) : MsWf m := by
  have hl : (vlsOf m.vs).length = m.vs.length := List.length_map _
  exact ⟨h.k, h.f, h.t, h.e, h.r, h.n, h.slot, h.low, h.tm, h.v, fun x hx => by
    obtain ⟨a1, a2, a3, a4⟩ := h.vs (Vo.map Pv.v x) (List.mem_map.2 ⟨x, hx, rfl⟩)
    exact ⟨a1, a2, a3, a4⟩, h.c, h.rk, h.re, h.im, h.d, h.dl, by rw [← hl]; exact h.vl⟩
theorem MsWf.con {m : Ms} (h : MsWf m) : McWf m.con := by
  have hl : (vlsOf m.vs).length = m.vs.length := List.length_map _
  exact ⟨h.k, h.f, h.t, h.e, h.r, h.n, h.slot, h.low, h.tm, h.v, fun x hx => by
    obtain ⟨y, hy, rfl⟩ := List.mem_map.1 hx
    exact ⟨(h.vs y hy).s, (h.vs y hy).r, (h.vs y hy).n, (h.vs y hy).v⟩, h.c, h.rk, h.re, h.im, h.d, h.dl, (show (vlsOf m.vs).length ≤ _ from hl ▸ h.vl)⟩
theorem vz_wf : VlWf vz := ⟨(show I64 0 by unfold I64; decide), (fun c h => by cases h), vz_fit⟩
theorem opt_P {α : Type} {P : α → Prop} {c : Bool} {x y : α} (h1 : P x) (h2 : P y) : P (opt c x y) := by unfold opt; split <;> assumption
theorem big_i (bs : List Int) (q : Nat × Int) : I64 (vaC big bs q : Int) := by
  have h1 := vaC_le (most := big) (by decide) bs q
  have h2 : big ≤ 9223372036854775807 := by decide
  unfold I64
  generalize big = z at h1 h2 ⊢
  omega
theorem i0 : I64 0 := by unfold I64; decide
theorem tcC_fit {bs : List Int} (hb : Byt bs) (q : Nat × Int) : CmFit (tcC bs q) := fun i hi => by
  simp only [CmD.is, tcC, List.mem_cons, List.not_mem_nil, or_false] at hi
  rcases hi with rfl | rfl | rfl | rfl | rfl | rfl | rfl | rfl <;> exact vaN_fit hb _
theorem txD_len (most : Int) (bs : List Int) (q : Nat × Int) : (txD most bs q).length ≤ bs.length := by
  unfold txD
  split
  · rw [List.length_take, List.length_drop]; omega
  · exact Nat.zero_le _
theorem txD_byt {bs : List Int} (hb : Byt bs) (most : Int) (q : Nat × Int) : Byt (txD most bs q) := by
  unfold txD
  split
  · exact fun x hx => hb x (List.mem_of_mem_drop (List.mem_of_mem_take hx))
  · exact fun x hx => by cases hx
theorem rdC_wf {bs : List Int} (hb : Byt bs) (hl : bs.length ≤ 140737488355328) (u k f t e : Int) (q : Nat × Int) (h1 : I64 k) (h2 : I64 f) (h3 : I64 t) (h4 : I64 e) : McWf (rdC u bs k f t e q) := by
  refine ⟨h1, h2, h3, h4, opt_P (big_i _ _) i0, opt_P (big_i _ _) i0, opt_P (big_i _ _) i0, opt_P (big_i _ _) i0, opt_P (big_i _ _) i0, opt_P (P := VlWf) (rd_wf hb _) vz_wf, fun x hx => ?_, opt_P (P := CmFit) (tcC_fit hb _) (fun i hi => ?_), opt_P (vaN_fit hb _) i0, opt_P (vaN_fit hb _) i0, opt_P (vaN_fit hb _) i0, opt_P (P := Byt) (txD_byt hb _ _) (fun x hx => by cases hx), opt_P (P := fun l : List Int => l.length ≤ 140737488355328) (Nat.le_trans (txD_len _ _ _) hl) (Nat.zero_le _), ?_⟩
  · have hx : x ∈ vO u bs (sV u bs (q4 u bs q)) := hx
    unfold vO opt at hx
    split at hx
    · obtain ⟨j, _, rfl⟩ := List.mem_map.1 hx
      exact ⟨big_i _ _, big_i _ _, big_i _ _, rd_wf hb _⟩
    · cases hx
  · simp only [CmD.is, cz, List.mem_cons, List.not_mem_nil, or_false, or_self] at hi
    rw [hi]; exact i0
  · refine opt_P (P := fun l : List (Vo Vl) => l.length ≤ 4611686018427387904) ?_ (Nat.zero_le _)
    rw [voN_len]
    have := vaC_le (most := 64) (by decide) bs (sV u bs (q4 u bs q))
    omega
theorem rdMc_wf {bs : List Int} (hb : Byt bs) (hl : bs.length ≤ 140737488355328) : McWf (rdMc bs) := rdC_wf hb hl _ _ _ _ _ _ (big_i _ _) (big_i _ _) (big_i _ _) (big_i _ _)
theorem q9_le {bs : List Int} (u : Int) {q : Nat × Int} (h : q.1 ≤ bs.length) : (q9 u bs q).1 ≤ bs.length := by
  have a1 : (sB u bs q).1 ≤ bs.length := opt_le (stC_le _ _ _) h
  have a2 : (sN 2 u bs (sB u bs q)).1 ≤ bs.length := opt_le (stC_le _ _ _) a1
  have a3 : (sN 4 u bs (sN 2 u bs (sB u bs q))).1 ≤ bs.length := opt_le (stC_le _ _ _) a2
  have a4 : (q4 u bs q).1 ≤ bs.length := opt_le (stC_le _ _ _) a3
  have a5 : (sV u bs (q4 u bs q)).1 ≤ bs.length := opt_le (rdS_le' _ _) a4
  have a6 : (q6 u bs q).1 ≤ bs.length := opt_le (it_le (vtS_le bs) (stC_le _ _ _) _) a5
  have a7 : (sC u bs (q6 u bs q)).1 ≤ bs.length := opt_le (stN_le _ _) a6
  have a8 : (q8 u bs q).1 ≤ bs.length := opt_le (stN_le _ _) a7
  exact opt_le (txS_le _ _ _) a8
theorem hq_le (bs : List Int) : ∀ n, (hq bs n).1 ≤ bs.length := fun n => it_le (stC_le _ _) (Nat.zero_le _) n
set_option maxHeartbeats 2000000 in
theorem decode7_any (a : Option Addr) (cap : Nat) (bs : List Int) (w : World) (H : Cells w a (bcells bs)) (hb : Byt bs) (hl : bs.length ≤ 140737488355328) : Calls Try.prog 22 #[.slice a bs.length cap] w (RdM w (decC7 bs) (decE7 bs)) := by
  refine calls_at (tab_ok _) Try.func22 rfl tDecode8 (ρ := ⟨[], [], [], [bs.length, cap], [a]⟩) (ids := []) (hx := HX.cl a (bcells bs)) rfl (Facts.initq rfl oneNil H (cl_sep H)) ?_
  have bad : ∀ {m2 : Mem} {ρ : Env} {pre : List Nat} {hx : HX} {S : Stack} {v : SV} (e : Int), e ≠ 0 → decE7 bs = e → (∀ ids, v.den ρ ids = .tuple #[mz.val, .int .i64 e]) → (Tree.done v m2).holds ⟨Try.prog, w, fun _ => False, RdM w (decC7 bs) (decE7 bs)⟩ ρ pre hx S := fun {m2 ρ pre hx S v} e he h hv ids w2 hp hf => by
    refine ⟨mz, by rw [hv, h], ?_, mz_R w2, fun k hk => (mz_RF hk).elim, hf.chg.below⟩
    unfold decC7; rw [if_neg (by rw [h]; exact he)]
  refine br_D (p := (bs.length : Int) > 65536) (by kernel_rfl) (fun h => bad 12 (by decide) (by unfold decE7; rw [if_pos (by omega)]) (by intros; kernel_rfl)) (fun hlen => ?_)
  refine node_rnew (a := a) (cap := cap) (bs := bs) [.sl 1 (.var 2) (.var 3), .int .i64 (.var 0), .int .i64 (.var 1)] (fun a' c' => ⟨[0, 0], [], [], [bs.length, c'], [a']⟩) rfl (by intros; kernel_rfl) (fun ids w hf => hf.x) hl (by intros; kernel_rfl) rfl rfl (by kernel_rfl) (by intros; kernel_rfl) (fun _ _ => oneNil) ?_
  intro a' c' hc' hs' hfr
  obtain ⟨B, eB⟩ : ∃ x, x = (HX.cl a (bcells bs)).and (frow a' c' bs) := ⟨_, rfl⟩
  rw [← eB]
  have hok : RdOk B a' c' bs := ⟨fun w h => by rw [eB] at h; exact frow_cells h.2, fun k hk => by
    rw [eB]
    have hne : bs ≠ [] := fun q => hk.1 (by rw [q]; rfl)
    have h1 := hs' hne
    refine .inr ⟨fun q => ?_, ?_⟩
    · have : bs.length = 0 := by omega
      exact hne (List.eq_nil_of_length_eq_zero this)
    · have h2 : k = blk a' := hk.2
      rw [h2]
      cases a' with
      | none => cases h1
      | some z => rfl, hb, hl, hc'⟩
  have hcnt : ∀ (q : Nat × Int), ∀ w b, RdAt w b a' c' bs q.1 q.2 → Calls Try.prog 59 #[.pointer (some ⟨b, 0, none⟩), .int .i64 big] w (At1 w b 128 (.int .i64 (vaC big bs q : Int)) (rcells a' c' bs (stC big bs q).1 (stC big bs q).2)) := fun q w b h => rcount_any b a' c' bs q.1 q.2 big (by unfold I64; decide) w h
  refine node_rd (V := .int .i64 (vaC big bs (hq bs 0) : Int)) (ix := (hq bs 0).1) (bad := (hq bs 0).2) (ix' := (stC big bs (hq bs 0)).1) (bad' := (stC big bs (hq bs 0)).2) 1 ⟨[((stC big bs (hq bs 0)).1 : Int), (stC big bs (hq bs 0)).2, (vaC big bs (hq bs 0) : Int)], [], [], [bs.length, c'], [a']⟩ (fun b => #[.pointer (some ⟨b, 0, none⟩), .int .i64 big]) hok (hq_le bs 0) rfl rfl (by intros; kernel_rfl) (by intros; kernel_rfl) (hcnt (hq bs 0)) [.sl 2 (.var 4) (.var 5), .int .i64 (.var 2), .int .i64 (.var 3)] rfl (by intros; kernel_rfl) (by intros; kernel_rfl) (by kernel_rfl) (by kernel_rfl) oneNil ?_
  refine node_rd (V := .int .i64 (vaC big bs (hq bs 1) : Int)) (ix := (hq bs 1).1) (bad := (hq bs 1).2) (ix' := (stC big bs (hq bs 1)).1) (bad' := (stC big bs (hq bs 1)).2) 1 ⟨[((stC big bs (hq bs 1)).1 : Int), (stC big bs (hq bs 1)).2, (vaC big bs (hq bs 1) : Int)], [], [], [bs.length, c'], [a']⟩ (fun b => #[.pointer (some ⟨b, 0, none⟩), .int .i64 big]) hok (hq_le bs 1) rfl rfl (by intros; kernel_rfl) (by intros; kernel_rfl) (hcnt (hq bs 1)) [.sl 3 (.var 6) (.var 7), .int .i64 (.var 5), .int .i64 (.var 6)] rfl (by intros; kernel_rfl) (by intros; kernel_rfl) (by kernel_rfl) (by kernel_rfl) oneNil ?_
  refine node_rd (V := .int .i64 (vaC big bs (hq bs 2) : Int)) (ix := (hq bs 2).1) (bad := (hq bs 2).2) (ix' := (stC big bs (hq bs 2)).1) (bad' := (stC big bs (hq bs 2)).2) 1 ⟨[((stC big bs (hq bs 2)).1 : Int), (stC big bs (hq bs 2)).2, (vaC big bs (hq bs 2) : Int)], [], [], [bs.length, c'], [a']⟩ (fun b => #[.pointer (some ⟨b, 0, none⟩), .int .i64 big]) hok (hq_le bs 2) rfl rfl (by intros; kernel_rfl) (by intros; kernel_rfl) (hcnt (hq bs 2)) [.sl 4 (.var 8) (.var 9), .int .i64 (.var 8), .int .i64 (.var 9)] rfl (by intros; kernel_rfl) (by intros; kernel_rfl) (by kernel_rfl) (by kernel_rfl) oneNil ?_
  refine node_rd (V := .int .i64 (vaC big bs (hq bs 3) : Int)) (ix := (hq bs 3).1) (bad := (hq bs 3).2) (ix' := (stC big bs (hq bs 3)).1) (bad' := (stC big bs (hq bs 3)).2) 1 ⟨[((stC big bs (hq bs 3)).1 : Int), (stC big bs (hq bs 3)).2, (vaC big bs (hq bs 3) : Int)], [], [], [bs.length, c'], [a']⟩ (fun b => #[.pointer (some ⟨b, 0, none⟩), .int .i64 big]) hok (hq_le bs 3) rfl rfl (by intros; kernel_rfl) (by intros; kernel_rfl) (hcnt (hq bs 3)) [.sl 5 (.var 10) (.var 11), .int .i64 (.var 11), .int .i64 (.var 12)] rfl (by intros; kernel_rfl) (by intros; kernel_rfl) (by kernel_rfl) (by kernel_rfl) oneNil ?_
  obtain ⟨u, eu⟩ : ∃ x, x = useI (vaC big bs (hq bs 0) : Int) := ⟨_, rfl⟩
  have eu2 : useI (hk bs) = u := by rw [eu]; rfl
  refine node_P ⟨[u], [], [], [], []⟩ #[.int .i64 (vaC big bs (hq bs 0) : Int)] (.int .i64 u) (by intros; kernel_rfl) (by intros; kernel_rfl) (by kernel_rfl) (by kernel_rfl) (by kernel_rfl) oneNil (fun ids w2 hp hf => by rw [eu]; exact uses_any _ w2) ?_
  obtain ⟨q, eq⟩ : ∃ q, q = hq bs 4 := ⟨_, rfl⟩
  have hql : q.1 ≤ bs.length := by rw [eq]; exact hq_le bs 4
  rw [show stC big bs (hq bs 3) = q by rw [eq]; rfl]
  have hE : decE7 bs = if u = 0 ∧ q.2 = 0 then 26 else if doneB bs.length (q9 u bs q).1 (q9 u bs q).2 ≠ 0 then doneB bs.length (q9 u bs q).1 (q9 u bs q).2 else chkC (rdMc bs) := by
    unfold decE7 doneE
    rw [if_neg (by omega), eu2, ← eq]
  refine ⟨fun vs hx => vs = Vals.nil ∧ ¬ (u = 0 ∧ q.2 = 0) ∧ B = hx, ?_, ?_⟩
  · refine br_D (p := u = 0) (by kernel_rfl) (fun h => ?_) (fun h => again_V Vals.nil rfl (by intros; kernel_rfl) _ (fun w2 ids hf => ⟨hf.x, hf.sep⟩) ⟨rfl, fun z => h z.1, rfl⟩)
    refine node_PI ⟨[q.2], [], [], [], []⟩ (fun ids => #[.pointer (some ⟨idAt ids 1, 0, none⟩)]) (.int .i64 q.2) (by intros; kernel_rfl) (by intros; kernel_rfl) (by kernel_rfl) (by kernel_rfl) (by kernel_rfl) oneNil (fun ids w2 hp hf => rerr_any (idAt ids 1) a' c' bs q.1 q.2 w2 (hf.blk 1 128 _ rfl)) ?_
    refine br_D (p := q.2 = 0) (by kernel_rfl) (fun h2 => bad 26 (by decide) (by rw [hE, if_pos ⟨h, h2⟩]) (by intros; kernel_rfl)) (fun h2 => again_V Vals.nil rfl (by intros; kernel_rfl) _ (fun w2 ids hf => ⟨hf.x, hf.sep⟩) ⟨rfl, fun z => h2 z.2, rfl⟩)
  rintro vs hx hcn ⟨rfl, hno, rfl⟩
  rw [Env.add_nil]
  rw [if_neg hno] at hE
  refine node_fd (a := a') (cap := c') u q (vaC big bs (hq bs 0) : Int) (vaC big bs (hq bs 1) : Int) (vaC big bs (hq bs 2) : Int) (vaC big bs (hq bs 3) : Int) hok hql rfl rfl (by intros; kernel_rfl) (by intros; kernel_rfl) (by intros; kernel_rfl) [.sl 6 (.var 12) (.var 13), .int .i64 (.var 15), .int .i64 (.var 16)] [.int .i64 (.var 17), .int .i64 (.var 18), .int .i64 (.var 19), .int .i64 (.var 20), .int .i64 (.var 21), .int .i64 (.var 22), .int .i64 (.var 23), .int .i64 (.var 24), .int .i64 (.var 25), .int .i64 (.var 26), .sl 7 (.var 14) (.var 15), .sl 8 (.var 16) (.var 17), .sl 9 (.var 18) (.var 19), .int .i64 (.var 27), .int .i64 (.var 28), .int .i64 (.var 29), .int .i64 (.var 30), .int .i64 (.var 31), .int .i64 (.var 32), .int .i64 (.var 33), .int .i64 (.var 34), .int .i64 (.var 35), .int .i64 (.var 36), .int .i64 (.var 37), .sl 10 (.var 20) (.var 21)] rfl (by intros; kernel_rfl) (by intros; kernel_rfl) (by kernel_rfl) (by intros; kernel_rfl) ?_
  intro m hcon hmf
  have hcon2 : m.con = rdMc bs := by rw [hcon]; unfold rdMc; rw [← eq, eu2]; rfl
  have hwf : MsWf m := McWf.ms (by rw [hcon2]; exact rdMc_wf hb hl)
  obtain ⟨dn, edn⟩ : ∃ x, x = doneB bs.length (q9 u bs q).1 (q9 u bs q).2 := ⟨_, rfl⟩
  rw [← edn] at hE
  have hok2 : RdOk (B.and m.R) a' c' bs := ⟨fun w h => hok.cl w h.1, fun k h => .inl (hok.fr k h), hb, hl, hc'⟩
  refine node_rd (V := .int .i64 dn) (ix := (q9 u bs q).1) (bad := (q9 u bs q).2) (ix' := (q9 u bs q).1) (bad' := dn) 1 ⟨[((q9 u bs q).1 : Int), dn, dn], [], [], [bs.length, c'], [a']⟩ (fun b => #[.pointer (some ⟨b, 0, none⟩)]) hok2 (q9_le u hql) rfl rfl (by intros; kernel_rfl) (by intros; kernel_rfl) (fun w b h => by rw [edn]; exact rdone_any b a' c' bs _ _ w h.blk) [.sl 11 (.var 22) (.var 23), .int .i64 (.var 38), .int .i64 (.var 39)] rfl (by intros; kernel_rfl) (by intros; kernel_rfl) (by kernel_rfl) (by kernel_rfl) oneNil ?_
  refine br_D (p := dn ≠ 0) (by show (dn != 0) = _; rw [Bool.eq_iff_iff]; simp) (fun h => bad dn h (by rw [hE, if_pos h]) (by intros; kernel_rfl)) (fun h => ?_)
  rw [if_neg h, ← hcon2, ← chkC_is] at hE
  obtain ⟨ce, ece⟩ : ∃ x, x = chkM m := ⟨_, rfl⟩
  rw [← ece] at hE
  refine node_PI ⟨[ce], [], [], [], []⟩ (fun _ => #[m.val]) (.int .i64 ce) (by intros; kernel_rfl) (by intros; kernel_rfl) (by kernel_rfl) (by kernel_rfl) (by kernel_rfl) oneNil (fun ids w2 hp hf => by rw [ece]; exact mchk_any m w2 (R_X hf.x.2) hwf.fit (by have := hwf.slot; unfold I64 at this; omega)) ?_
  refine br_D (p := ce ≠ 0) (by show (ce != 0) = _; rw [Bool.eq_iff_iff]; simp) (fun h2 => bad ce h2 hE (by intros; kernel_rfl)) (fun h2 => ?_)
  have h0 : decE7 bs = 0 := by rw [hE]; exact Classical.not_not.1 h2
  intro ids w2 hp hf
  refine ⟨m, by rw [h0]; rfl, by unfold decC7; rw [if_pos h0]; exact hcon2, hf.x.2, fun k hk => ⟨(hmf k hk).1, (hf.sep k (.inr hk)).1⟩, hf.chg.below⟩
end Go.Proofs.Ytadgaefmoobcoaa

namespace Go.Proofs.Ytadgaefmoobcoaa
open Go.Eng
abbrev tRSame7b0 : List LV := [(tVi 21), (tVi 22), (tVi 23), (tVi 24), (tVi 25), (tVi 26), (tVi 27), (tVi 28), (tVi 29), (tVi 30), (tSl 4 8 9), (tSl 5 10 11), (tSl 6 12 13), (tVi 31), (tVi 32), (tVi 33), (tVi 34), (tVi 35), (tVi 36), (tVi 37), (tVi 38), (tVi 39), (tVi 40), (tVi 41), (tSl 7 14 15)]
abbrev tRSame7b1 : List LV := [(tVi 0), (tVi 1), (tVi 2), (tVi 3), (tVi 4), (tVi 5), (tVi 6), (tVi 7), (tVi 8), (tVi 9), (tSl 0 0 1), (tSl 1 2 3), (tSl 2 4 5), (tVi 10), (tVi 11), (tVi 12), (tVi 13), (tVi 14), (tVi 15), (tVi 16), (tVi 17), (tVi 18), (tVi 19), (tVi 20), (tSl 3 6 7)]
abbrev tRSame7m0 : Mem := ⟨[(37, tRSame7b1), (37, tRSame7b0)], ⟨42, 0, 0, 16, 8⟩⟩
abbrev tRSame7m1 : Mem := ⟨[(37, tRSame7b1), (37, tRSame7b0)], ⟨42, 1, 0, 16, 8⟩⟩
abbrev tRSame7m2 : Mem := ⟨[(37, tRSame7b1), (37, tRSame7b0)], ⟨42, 2, 0, 16, 8⟩⟩
abbrev tRSame7m3 : Mem := ⟨[(37, tRSame7b1), (37, tRSame7b0)], ⟨42, 3, 0, 16, 8⟩⟩
set_option maxRecDepth 100000 in
theorem tRSame7 : (runF ⟨tt, fns, {}⟩ (Try.f17.body.getD .skip) Try.f17.results.toList (entry Try.f17.ntmps [.agg [.int .i64 (.var 0), .int .i64 (.var 1), .int .i64 (.var 2), .int .i64 (.var 3), .int .i64 (.var 4), .int .i64 (.var 5), .int .i64 (.var 6), .int .i64 (.var 7), .int .i64 (.var 8), .int .i64 (.var 9), .sl 0 (.var 0) (.var 1), .sl 1 (.var 2) (.var 3), .sl 2 (.var 4) (.var 5), .int .i64 (.var 10), .int .i64 (.var 11), .int .i64 (.var 12), .int .i64 (.var 13), .int .i64 (.var 14), .int .i64 (.var 15), .int .i64 (.var 16), .int .i64 (.var 17), .int .i64 (.var 18), .int .i64 (.var 19), .int .i64 (.var 20), .sl 3 (.var 6) (.var 7)], .agg [.int .i64 (.var 21), .int .i64 (.var 22), .int .i64 (.var 23), .int .i64 (.var 24), .int .i64 (.var 25), .int .i64 (.var 26), .int .i64 (.var 27), .int .i64 (.var 28), .int .i64 (.var 29), .int .i64 (.var 30), .sl 4 (.var 8) (.var 9), .sl 5 (.var 10) (.var 11), .sl 6 (.var 12) (.var 13), .int .i64 (.var 31), .int .i64 (.var 32), .int .i64 (.var 33), .int .i64 (.var 34), .int .i64 (.var 35), .int .i64 (.var 36), .int .i64 (.var 37), .int .i64 (.var 38), .int .i64 (.var 39), .int .i64 (.var 40), .int .i64 (.var 41), .sl 7 (.var 14) (.var 15)]] [] ⟨42, 0, 0, 16, 8⟩)) =
  (.br (.cmp .neq (.var 0) (.var 21)) (.done (.lf (.bool (.lit .false))) tRSame7m0) (.br (.cmp .neq (.var 1) (.var 22)) (.done (.lf (.bool (.lit .false))) tRSame7m0) (.br (.cmp .neq (.var 2) (.var 23)) (.done (.lf (.bool (.lit .false))) tRSame7m0) (.br (.cmp .neq (.var 3) (.var 24)) (.done (.lf (.bool (.lit .false))) tRSame7m0) (.br (.not (.and (.cmp .eql (.var 4) (.var 25)) (.cmp .eql (.var 5) (.var 26)))) (.done (.lf (.bool (.lit .false))) tRSame7m0) (.br (.cmp .neq (.var 6) (.var 27)) (.done (.lf (.bool (.lit .false))) tRSame7m0) (.br (.cmp .neq (.var 7) (.var 28)) (.done (.lf (.bool (.lit .false))) tRSame7m0) (.br (.cmp .neq (.var 8) (.var 29)) (.done (.lf (.bool (.lit .false))) tRSame7m0) (.call 48 [(.agg [(tVi 9), (tSl 0 0 1), (tSl 1 2 3)]), (.agg [(tVi 30), (tSl 4 8 9), (tSl 5 10 11)])] tRSame7m0 (.lf (.bool (.var 0))) tRSame7m1 (.br (.var 0) (.call 49 [(.lf (tSl 2 4 5)), (.lf (tSl 6 12 13))] tRSame7m1 (.lf (.bool (.var 1))) tRSame7m2 (.br (.var 1) (.br (.and (.cmp .eql (.var 10) (.var 31)) (.and (.cmp .eql (.var 11) (.var 32)) (.and (.cmp .eql (.var 12) (.var 33)) (.and (.cmp .eql (.var 13) (.var 34)) (.and (.cmp .eql (.var 14) (.var 35)) (.and (.cmp .eql (.var 15) (.var 36)) (.and (.cmp .eql (.var 16) (.var 37)) (.cmp .eql (.var 17) (.var 38))))))))) (.br (.and (.cmp .eql (.var 18) (.var 39)) (.and (.cmp .eql (.var 19) (.var 40)) (.cmp .eql (.var 20) (.var 41)))) (.call 18 [(.lf (tSl 3 6 7)), (.lf (tSl 7 14 15))] tRSame7m2 (.lf (.bool (.var 2))) tRSame7m3 (.done (.lf (.bool (.var 2))) tRSame7m3)) (.done (.lf (.bool (.lit .false))) tRSame7m2)) (.done (.lf (.bool (.lit .false))) tRSame7m2)) (.done (.lf (.bool (.lit .false))) tRSame7m2))) (.done (.lf (.bool (.lit .false))) tRSame7m1))))))))))) := by kernel_rfl
abbrev tRSameVst1 : Tree := (.need (.inb 0 (.var 0) (.nat 0)) (.need (.inb 1 (.var 0) (.nat 2)) (.par (.ld .false (.adr 0 (.var 0) 6 3) [(tVi 7), (tSl 2 4 5), (tSl 3 6 7)] ⟨[], ⟨7, 0, 0, 4, 2⟩⟩ ⟨[], ⟨8, 0, 0, 8, 4⟩⟩ (.ld .false (.adr 1 (.var 0) 6 3) [(tVi 8), (tSl 4 8 9), (tSl 5 10 11)] ⟨[], ⟨8, 0, 0, 8, 4⟩⟩ ⟨[], ⟨9, 0, 0, 12, 6⟩⟩ (.call 48 [(.agg [(tVi 7), (tSl 2 4 5), (tSl 3 6 7)]), (.agg [(tVi 8), (tSl 4 8 9), (tSl 5 10 11)])] ⟨[], ⟨9, 0, 0, 12, 6⟩⟩ (.lf (.bool (.var 0))) ⟨[], ⟨9, 1, 0, 12, 6⟩⟩ (.br (.not (.var 0)) (.done (.lf (.bool (.lit .false))) ⟨[], ⟨9, 1, 0, 12, 6⟩⟩) (.again 4 ⟨[(.op .add .i64 (.var 0) (.lit 1))], [], [], [], []⟩ ⟨[], ⟨9, 1, 0, 12, 6⟩⟩))))) (.ld .false (.adr 1 (.var 0) 6 3) [(tVi 7), (tSl 2 4 5), (tSl 3 6 7)] ⟨[], ⟨7, 0, 0, 4, 2⟩⟩ ⟨[], ⟨8, 0, 0, 8, 4⟩⟩ (.ld .false (.adr 0 (.var 0) 6 3) [(tVi 8), (tSl 4 8 9), (tSl 5 10 11)] ⟨[], ⟨8, 0, 0, 8, 4⟩⟩ ⟨[], ⟨9, 0, 0, 12, 6⟩⟩ (.call 48 [(.agg [(tVi 8), (tSl 4 8 9), (tSl 5 10 11)]), (.agg [(tVi 7), (tSl 2 4 5), (tSl 3 6 7)])] ⟨[], ⟨9, 0, 0, 12, 6⟩⟩ (.lf (.bool (.var 0))) ⟨[], ⟨9, 1, 0, 12, 6⟩⟩ (.br (.not (.var 0)) (.done (.lf (.bool (.lit .false))) ⟨[], ⟨9, 1, 0, 12, 6⟩⟩) (.again 4 ⟨[(.op .add .i64 (.var 0) (.lit 1))], [], [], [], []⟩ ⟨[], ⟨9, 1, 0, 12, 6⟩⟩))))))))
abbrev tRSameVst0 : Tree := (.need (.inb 0 (.var 0) (.nat 0)) (.need (.inb 1 (.var 0) (.nat 2)) (.par (.ld .false (.adr 0 (.var 0) 6 1) [(tVi 3), (tVi 4)] ⟨[], ⟨3, 0, 0, 4, 2⟩⟩ ⟨[], ⟨5, 0, 0, 4, 2⟩⟩ (.ld .false (.adr 1 (.var 0) 6 1) [(tVi 5), (tVi 6)] ⟨[], ⟨5, 0, 0, 4, 2⟩⟩ ⟨[], ⟨7, 0, 0, 4, 2⟩⟩ (.br (.not (.and (.cmp .eql (.var 3) (.var 5)) (.cmp .eql (.var 4) (.var 6)))) (.done (.lf (.bool (.lit .false))) ⟨[], ⟨7, 0, 0, 4, 2⟩⟩) tRSameVst1))) (.ld .false (.adr 1 (.var 0) 6 1) [(tVi 3), (tVi 4)] ⟨[], ⟨3, 0, 0, 4, 2⟩⟩ ⟨[], ⟨5, 0, 0, 4, 2⟩⟩ (.ld .false (.adr 0 (.var 0) 6 1) [(tVi 5), (tVi 6)] ⟨[], ⟨5, 0, 0, 4, 2⟩⟩ ⟨[], ⟨7, 0, 0, 4, 2⟩⟩ (.br (.not (.and (.cmp .eql (.var 5) (.var 3)) (.cmp .eql (.var 6) (.var 4)))) (.done (.lf (.bool (.lit .false))) ⟨[], ⟨7, 0, 0, 4, 2⟩⟩) tRSameVst1))))))
set_option maxRecDepth 100000 in
theorem tRSameVs : (runF ⟨tt, fns, { loops := [(4, ⟨[(13, .int .i64)], []⟩)] }⟩ (Try.f49.body.getD .skip) Try.f49.results.toList (entry Try.f49.ntmps [.lf (.sl 0 (.var 0) (.var 1)), .lf (.sl 1 (.var 2) (.var 3))] [] ⟨0, 0, 0, 4, 2⟩)) =
  (.br (.cmp .neq (.nat 0) (.nat 2)) (.done (.lf (.bool (.lit .false))) ⟨[], ⟨0, 0, 0, 4, 2⟩⟩) (.loop 4 ⟨[(.lit 0)], [], [], [], []⟩ ⟨[], ⟨0, 0, 0, 4, 2⟩⟩ ⟨[], ⟨1, 0, 0, 4, 2⟩⟩ (.br (.cmp .lss (.var 0) (.nat 0)) (.need (.inb 0 (.var 0) (.nat 0)) (.need (.inb 1 (.var 0) (.nat 2)) (.par (.ld .false (.adr 0 (.var 0) 6 0) [(tVi 1)] ⟨[], ⟨1, 0, 0, 4, 2⟩⟩ ⟨[], ⟨2, 0, 0, 4, 2⟩⟩ (.ld .false (.adr 1 (.var 0) 6 0) [(tVi 2)] ⟨[], ⟨2, 0, 0, 4, 2⟩⟩ ⟨[], ⟨3, 0, 0, 4, 2⟩⟩ (.br (.cmp .neq (.var 1) (.var 2)) (.done (.lf (.bool (.lit .false))) ⟨[], ⟨3, 0, 0, 4, 2⟩⟩) tRSameVst0))) (.ld .false (.adr 1 (.var 0) 6 0) [(tVi 1)] ⟨[], ⟨1, 0, 0, 4, 2⟩⟩ ⟨[], ⟨2, 0, 0, 4, 2⟩⟩ (.ld .false (.adr 0 (.var 0) 6 0) [(tVi 2)] ⟨[], ⟨2, 0, 0, 4, 2⟩⟩ ⟨[], ⟨3, 0, 0, 4, 2⟩⟩ (.br (.cmp .neq (.var 2) (.var 1)) (.done (.lf (.bool (.lit .false))) ⟨[], ⟨3, 0, 0, 4, 2⟩⟩) tRSameVst0)))))) (.done (.lf (.bool (.lit .true))) ⟨[], ⟨1, 0, 0, 4, 2⟩⟩)))) := by kernel_rfl
abbrev tHead7b0 : List LV := [(tVi 1), (tVi 2), (tVi 3), (tVi 4), (tVi 5), (tVi 6), (tVi 7), (tVi 8), (tVi 9), (tVi 10), (tSl 1 2 3), (tSl 2 4 5), (tSl 3 6 7), (tVi 11), (tVi 12), (tVi 13), (tVi 14), (tVi 15), (tVi 16), (tVi 17), (tVi 18), (tVi 19), (tVi 20), (tVi 21), (tSl 4 8 9)]
abbrev tHead7b1 : List LV := [(tLi 8), (tLi 2), (tLi 3), (tLi 0), (tLi 0), (tLi 0), (tLi 5), (tLi 0), (tLi 0), (tLi 0), .nilsl, .nilsl, .nilsl, (tLi 0), (tLi 0), (tLi 0), (tLi 0), (tLi 0), (tLi 0), (tLi 0), (tLi 0), (tLi 0), (tLi 0), (tLi 0), .nilsl]
abbrev tHead7b2 : List LV := [(.int .u8 (.lit 1)), (.int .u8 (.lit 8)), (.int .u8 (.lit 1)), (.int .u8 (.lit 2)), (.int .u8 (.lit 1)), (.int .u8 (.lit 3)), (.int .u8 (.lit 0)), (.int .u8 (.lit 1)), (.int .u8 (.lit 5))]
abbrev tHead7m0 : Mem := ⟨[(37, tHead7b1), (5, tHead7b2), (37, tHead7b0), (5, tHead7b2)], ⟨23, 1, 0, 10, 5⟩⟩
abbrev tHead7m1 : Mem := ⟨[(37, tHead7b1), (5, tHead7b2), (37, tHead7b0), (5, tHead7b2)], ⟨23, 2, 0, 10, 5⟩⟩
set_option maxRecDepth 100000 in
theorem tHead7 : (runF ⟨tt, fns, {}⟩ (Try.f9.body.getD .skip) Try.f9.results.toList (entry Try.f9.ntmps [] [] ⟨0, 0, 0, 0, 0⟩)) =
  (.call 16 [(.agg tHead7b1)] ⟨[(37, tHead7b1)], ⟨0, 0, 0, 0, 0⟩⟩ (.tup [(.false, [(tSl 0 0 1)]), (.false, [(tVi 0)])]) ⟨[(37, tHead7b1)], ⟨1, 0, 0, 2, 1⟩⟩ (.call 22 [(.lf (.nsl 1 0 9 9))] ⟨[(37, tHead7b1), (5, tHead7b2)], ⟨1, 0, 0, 2, 1⟩⟩ (.tup [(.true, tHead7b0), (.false, [(tVi 22)])]) ⟨[(37, tHead7b1), (5, tHead7b2)], ⟨23, 0, 0, 10, 5⟩⟩ (.br (.cmp .eql (.var 0) (.lit 0)) (.call 18 [(.lf (tSl 0 0 1)), (.lf (.nsl 3 0 9 9))] ⟨[(37, tHead7b1), (5, tHead7b2), (37, tHead7b0), (5, tHead7b2)], ⟨23, 0, 0, 10, 5⟩⟩ (.lf (.bool (.var 0))) tHead7m0 (.br (.var 0) (.br (.cmp .eql (.var 22) (.lit 0)) (.call 17 [(.agg tHead7b0), (.agg tHead7b1)] tHead7m0 (.lf (.bool (.var 1))) tHead7m1 (.done (.lf (.bool (.var 1))) tHead7m1)) (.done (.lf (.bool (.lit .false))) tHead7m0)) (.done (.lf (.bool (.lit .false))) tHead7m0))) (.done (.lf (.bool (.lit .false))) ⟨[(37, tHead7b1), (5, tHead7b2), (37, tHead7b0)], ⟨23, 0, 0, 10, 5⟩⟩)))) := by kernel_rfl
end Go.Proofs.Ytadgaefmoobcoaa

namespace Go.Proofs.Ytadgaefmoobcoaa
open Go.ChangeShapes Go.WideShapes Go.ChangeAt Go.RowKit Go.Syn Go.Eng
set_option linter.unusedVariables false
set_option linter.unusedSimpArgs false
set_option maxRecDepth 100000
noncomputable def voSame (a b : List (Vo Vl)) : Bool := @decide (a = b) (Classical.propDecidable _)
noncomputable def mcSame (a b : Mc) : Bool := @decide (a = b) (Classical.propDecidable _)
theorem voSame_t {a b : List (Vo Vl)} (h : a = b) : voSame a b = true := @decide_eq_true _ (Classical.propDecidable _) h
theorem voSame_f {a b : List (Vo Vl)} (h : ¬ a = b) : voSame a b = false := @decide_eq_false _ (Classical.propDecidable _) h
theorem mcSame_t {a b : Mc} (h : a = b) : mcSame a b = true := @decide_eq_true _ (Classical.propDecidable _) h
theorem mcSame_f {a b : Mc} (h : ¬ a = b) : mcSame a b = false := @decide_eq_false _ (Classical.propDecidable _) h
theorem vlsOf_get {xs : List (Vo Pv)} {k : Nat} {x : Vo Pv} (h : xs[k]? = some x) : (vlsOf xs)[k]? = some (Vo.map Pv.v x) := by unfold vlsOf; rw [List.getElem?_map, h]; rfl
theorem vlsOf_len (xs : List (Vo Pv)) : (vlsOf xs).length = xs.length := List.length_map _
set_option maxHeartbeats 2000000 in
theorem rsamevs_any (a : Option Addr) (c : Nat) (xs : List (Vo Pv)) (b : Option Addr) (d : Nat) (ys : List (Vo Pv)) (w : World) (H : (voX a xs).X w) (H2 : (voX b ys).X w) (hf : ∀ x ∈ xs, VlFit x.v.v) (hf2 : ∀ x ∈ ys, VlFit x.v.v) (hl : xs.length ≤ 4611686018427387904) :
    Calls Try.prog 49 #[.slice a xs.length c, .slice b ys.length d] w (PureAt w (.bool (voSame (vlsOf xs) (vlsOf ys)))) := by
  refine calls_at (tab_ok _) Try.func49 rfl tRSameVs (ρ := ⟨[], [], [], [xs.length, c, ys.length, d], [a, b]⟩) (ids := []) (hx := (voX a xs).and (voX b ys)) rfl (Facts.initq rfl oneNil ⟨H, H2⟩ (fun k hk => hk.elim (voX_sep H k) (voX_sep H2 k))) ?_
  have no : ∀ {m2 : Mem} {ρ : Env} {hx : HX} {S : Stack}, ¬ vlsOf xs = vlsOf ys → (Tree.done (.lf (.bool (.lit false))) m2).holds ⟨Try.prog, w, fun _ => False, PureAt w (.bool (voSame (vlsOf xs) (vlsOf ys)))⟩ ρ [] hx S := fun h => pure_done fun _ => by rw [voSame_f h]; rfl
  refine br_D (p := (xs.length : Int) ≠ (ys.length : Int)) (by show ((xs.length : Int) != (ys.length : Int)) = _; rw [Bool.eq_iff_iff]; simp) (fun h => no fun e => h (by have := congrArg List.length e; rw [vlsOf_len, vlsOf_len] at this; omega)) (fun hlen => ?_)
  have hlen : xs.length = ys.length := by omega
  refine ⟨fun vs hx m => ∃ k : Nat, m = xs.length - k ∧ k ≤ xs.length ∧ (vlsOf xs).take k = (vlsOf ys).take k ∧ vs = ⟨[(k : Int)], [], [], [], []⟩ ∧ (voX a xs).and (voX b ys) = hx, fun ids w2 hp hf => ⟨_, xs.length, ⟨hf.x, hf.sep⟩, 0, rfl, Nat.zero_le _, rfl, by kernel_rfl, rfl⟩, ?_⟩
  rintro vs hx' m hcnt ⟨k, rfl, hk, heq, rfl, rfl⟩
  refine holds_env (ρ' := ⟨[(k : Int)], [], [], [xs.length, c, ys.length, d], [a, b]⟩) rfl ?_
  refine br_D (p := (k : Int) < (xs.length : Int)) (by kernel_rfl) (fun hlt => ?_) (fun hlt => pure_done fun _ => ?_)
  · have hlt : k < xs.length := by omega
    obtain ⟨x, hx⟩ : ∃ b, xs[k]? = some b := ⟨_, List.getElem?_eq_getElem hlt⟩
    obtain ⟨y, hy⟩ : ∃ b, ys[k]? = some b := ⟨_, List.getElem?_eq_getElem (by omega)⟩
    have gx := vlsOf_get hx
    have gy := vlsOf_get hy
    have hxv := voX_at H hf (List.mem_of_getElem? hx)
    have hyv := voX_at H2 hf2 (List.mem_of_getElem? hy)
    have hne : ¬ (x.s = y.s ∧ x.r = y.r ∧ x.n = y.n ∧ x.v.v = y.v.v) → ¬ vlsOf xs = vlsOf ys := fun h e => h (by
      rw [e, gy] at gx
      have e2 : Vo.map Pv.v x = Vo.map Pv.v y := (Option.some.inj gx).symm
      exact ⟨congrArg (fun z : Vo Vl => z.s) e2, congrArg (fun z : Vo Vl => z.r) e2, congrArg (fun z : Vo Vl => z.n) e2, congrArg (fun z : Vo Vl => z.v) e2⟩)
    obtain ⟨s1, a1⟩ := vo_part H hx 0 [.int .i64 x.s] (fun j u hj => by cases j with | zero => exact hj | succ j => cases hj) (by simp)
    obtain ⟨_, a2⟩ := vo_part H hx 1 [.int .i64 x.r, .int .i64 x.n] (fun j u hj => by rcases j with _ | _ | j; exact hj; exact hj; cases hj) (by simp)
    obtain ⟨_, a3⟩ := vo_part H hx 3 x.v.cells (fun j u hj => by rcases j with _ | _ | _ | j; exact hj; exact hj; exact hj; cases hj) (by simp [Pv.cells])
    obtain ⟨s2, b1⟩ := vo_part H2 hy 0 [.int .i64 y.s] (fun j u hj => by cases j with | zero => exact hj | succ j => cases hj) (by simp)
    obtain ⟨_, b2⟩ := vo_part H2 hy 1 [.int .i64 y.r, .int .i64 y.n] (fun j u hj => by rcases j with _ | _ | j; exact hj; exact hj; cases hj) (by simp)
    obtain ⟨_, b3⟩ := vo_part H2 hy 3 y.v.cells (fun j u hj => by rcases j with _ | _ | _ | j; exact hj; exact hj; exact hj; cases hj) (by simp [Pv.cells])
    have hwk : IntKind.i64.wrap ((k : Int) + 1) = ((k + 1 : Nat) : Int) := by rw [wrap_i64 (by omega)]; omega
    have fin : x.s = y.s → (x.r = y.r ∧ x.n = y.n) → x.v.v = y.v.v → ∀ {mm : Mem} {ρ : Env} {es : Vec} {S : Stack}, (∀ ids, es.den ρ ids = ⟨[IntKind.i64.wrap ((k : Int) + 1)], [], [], [], []⟩) → (Tree.again 4 es mm).holds ⟨Try.prog, w, fun _ => False, PureAt w (.bool (voSame (vlsOf xs) (vlsOf ys)))⟩ ρ [] ((voX a xs).and (voX b ys)) ((4, fun vs' hx'' => ∃ n', n' < xs.length - k ∧ ∃ k : Nat, n' = xs.length - k ∧ k ≤ xs.length ∧ (vlsOf xs).take k = (vlsOf ys).take k ∧ vs' = ⟨[(k : Int)], [], [], [], []⟩ ∧ (voX a xs).and (voX b ys) = hx'') :: S) := fun e1 e2 e3 {mm ρ es S} hes =>
      again_V ⟨[IntKind.i64.wrap ((k : Int) + 1)], [], [], [], []⟩ rfl hes _ (fun w2 ids hf => ⟨hf.x, hf.sep⟩) ⟨xs.length - (k + 1), by omega, k + 1, rfl, by omega, (take_stepV gx gy heq).2 (by unfold Vo.map; rw [e1, e2.1, e2.2, e3]), by rw [hwk], rfl⟩
    refine need_k (a.isSome = true ∧ 0 ≤ (k : Int) ∧ (k : Int) < (xs.length : Int)) (by kernel_rfl) ⟨s1, by omega, by omega⟩ ?_
    refine need_k (b.isSome = true ∧ 0 ≤ (k : Int) ∧ (k : Int) < (ys.length : Int)) (by kernel_rfl) ⟨s2, by omega, by omega⟩ ?_
    refine par_i ?_ ?_
    · skip
      refine node_ldx ⟨[x.s], [], [], [], []⟩ (.pointer (some (((a.getD ⟨0, 0, none⟩).add (k * 6)).add 0))) [.int .i64 x.s] (by intros; kernel_rfl) (by intros; kernel_rfl) a1 ⟨by kernel_rfl, by kernel_rfl⟩ ?_
      refine node_ldx ⟨[y.s], [], [], [], []⟩ (.pointer (some (((b.getD ⟨0, 0, none⟩).add (k * 6)).add 0))) [.int .i64 y.s] (by intros; kernel_rfl) (by intros; kernel_rfl) b1 ⟨by kernel_rfl, by kernel_rfl⟩ ?_
      refine br_B (x.s != y.s) (by kernel_rfl) (fun h => no (hne fun q => by rw [q.1] at h; simp at h)) (fun h1 => ?_)
      refine need_k (a.isSome = true ∧ 0 ≤ (k : Int) ∧ (k : Int) < (xs.length : Int)) (by kernel_rfl) ⟨s1, by omega, by omega⟩ ?_
      refine need_k (b.isSome = true ∧ 0 ≤ (k : Int) ∧ (k : Int) < (ys.length : Int)) (by kernel_rfl) ⟨s2, by omega, by omega⟩ ?_
      refine par_i ?_ ?_
      · skip
        refine node_ldx ⟨[x.r, x.n], [], [], [], []⟩ (.pointer (some (((a.getD ⟨0, 0, none⟩).add (k * 6)).add 1))) [.int .i64 x.r, .int .i64 x.n] (by intros; kernel_rfl) (by intros; kernel_rfl) a2 ⟨by kernel_rfl, by kernel_rfl⟩ ?_
        refine node_ldx ⟨[y.r, y.n], [], [], [], []⟩ (.pointer (some (((b.getD ⟨0, 0, none⟩).add (k * 6)).add 1))) [.int .i64 y.r, .int .i64 y.n] (by intros; kernel_rfl) (by intros; kernel_rfl) b2 ⟨by kernel_rfl, by kernel_rfl⟩ ?_
        refine br_B (!((x.r == y.r) && (x.n == y.n))) (by kernel_rfl) (fun h => no (hne fun q => by rw [q.2.1, q.2.2.1] at h; simp at h)) (fun h2 => ?_)
        refine need_k (a.isSome = true ∧ 0 ≤ (k : Int) ∧ (k : Int) < (xs.length : Int)) (by kernel_rfl) ⟨s1, by omega, by omega⟩ ?_
        refine need_k (b.isSome = true ∧ 0 ≤ (k : Int) ∧ (k : Int) < (ys.length : Int)) (by kernel_rfl) ⟨s2, by omega, by omega⟩ ?_
        refine par_i ?_ ?_
        · skip
          refine node_ldx ⟨[x.v.v.k], [], [], [x.v.v.cs.length, x.v.c1, x.v.v.ns.length, x.v.c2], [x.v.a1, x.v.a2]⟩ (.pointer (some (((a.getD ⟨0, 0, none⟩).add (k * 6)).add 3))) x.v.cells (by intros; kernel_rfl) (by intros; kernel_rfl) a3 ⟨by kernel_rfl, by kernel_rfl⟩ ?_
          refine node_ldx ⟨[y.v.v.k], [], [], [y.v.v.cs.length, y.v.c1, y.v.v.ns.length, y.v.c2], [y.v.a1, y.v.a2]⟩ (.pointer (some (((b.getD ⟨0, 0, none⟩).add (k * 6)).add 3))) y.v.cells (by intros; kernel_rfl) (by intros; kernel_rfl) b3 ⟨by kernel_rfl, by kernel_rfl⟩ ?_
          refine node_PI ⟨[], [vlSame x.v.v y.v.v], [], [], []⟩ (fun _ => #[x.v.val, y.v.val]) (.bool (vlSame x.v.v y.v.v)) (by intros; kernel_rfl) (by intros; kernel_rfl) (by kernel_rfl) (by kernel_rfl) (by kernel_rfl) oneNil (fun ids w2 hp hf3 => samev_any _ _ _ _ _ _ _ _ _ _ w2 (voX_at hf3.x.1 hf (List.mem_of_getElem? hx)) (voX_at hf3.x.2 hf2 (List.mem_of_getElem? hy))) ?_
          refine br_B (!(vlSame x.v.v y.v.v)) (by kernel_rfl) (fun h => no (hne fun q => by rw [vlSame_t q.2.2.2] at h; cases h)) (fun h3 => ?_)
          exact fin (by simpa using h1) (by simpa using h2) (Classical.byContradiction fun q => by rw [vlSame_f q] at h3; cases h3) (by intros; kernel_rfl)
        · skip
          refine node_ldx ⟨[y.v.v.k], [], [], [y.v.v.cs.length, y.v.c1, y.v.v.ns.length, y.v.c2], [y.v.a1, y.v.a2]⟩ (.pointer (some (((b.getD ⟨0, 0, none⟩).add (k * 6)).add 3))) y.v.cells (by intros; kernel_rfl) (by intros; kernel_rfl) b3 ⟨by kernel_rfl, by kernel_rfl⟩ ?_
          refine node_ldx ⟨[x.v.v.k], [], [], [x.v.v.cs.length, x.v.c1, x.v.v.ns.length, x.v.c2], [x.v.a1, x.v.a2]⟩ (.pointer (some (((a.getD ⟨0, 0, none⟩).add (k * 6)).add 3))) x.v.cells (by intros; kernel_rfl) (by intros; kernel_rfl) a3 ⟨by kernel_rfl, by kernel_rfl⟩ ?_
          refine node_PI ⟨[], [vlSame x.v.v y.v.v], [], [], []⟩ (fun _ => #[x.v.val, y.v.val]) (.bool (vlSame x.v.v y.v.v)) (by intros; kernel_rfl) (by intros; kernel_rfl) (by kernel_rfl) (by kernel_rfl) (by kernel_rfl) oneNil (fun ids w2 hp hf3 => samev_any _ _ _ _ _ _ _ _ _ _ w2 (voX_at hf3.x.1 hf (List.mem_of_getElem? hx)) (voX_at hf3.x.2 hf2 (List.mem_of_getElem? hy))) ?_
          refine br_B (!(vlSame x.v.v y.v.v)) (by kernel_rfl) (fun h => no (hne fun q => by rw [vlSame_t q.2.2.2] at h; cases h)) (fun h3 => ?_)
          exact fin (by simpa using h1) (by simpa using h2) (Classical.byContradiction fun q => by rw [vlSame_f q] at h3; cases h3) (by intros; kernel_rfl)
      · skip
        refine node_ldx ⟨[y.r, y.n], [], [], [], []⟩ (.pointer (some (((b.getD ⟨0, 0, none⟩).add (k * 6)).add 1))) [.int .i64 y.r, .int .i64 y.n] (by intros; kernel_rfl) (by intros; kernel_rfl) b2 ⟨by kernel_rfl, by kernel_rfl⟩ ?_
        refine node_ldx ⟨[x.r, x.n], [], [], [], []⟩ (.pointer (some (((a.getD ⟨0, 0, none⟩).add (k * 6)).add 1))) [.int .i64 x.r, .int .i64 x.n] (by intros; kernel_rfl) (by intros; kernel_rfl) a2 ⟨by kernel_rfl, by kernel_rfl⟩ ?_
        refine br_B (!((x.r == y.r) && (x.n == y.n))) (by kernel_rfl) (fun h => no (hne fun q => by rw [q.2.1, q.2.2.1] at h; simp at h)) (fun h2 => ?_)
        refine need_k (a.isSome = true ∧ 0 ≤ (k : Int) ∧ (k : Int) < (xs.length : Int)) (by kernel_rfl) ⟨s1, by omega, by omega⟩ ?_
        refine need_k (b.isSome = true ∧ 0 ≤ (k : Int) ∧ (k : Int) < (ys.length : Int)) (by kernel_rfl) ⟨s2, by omega, by omega⟩ ?_
        refine par_i ?_ ?_
        · skip
          refine node_ldx ⟨[x.v.v.k], [], [], [x.v.v.cs.length, x.v.c1, x.v.v.ns.length, x.v.c2], [x.v.a1, x.v.a2]⟩ (.pointer (some (((a.getD ⟨0, 0, none⟩).add (k * 6)).add 3))) x.v.cells (by intros; kernel_rfl) (by intros; kernel_rfl) a3 ⟨by kernel_rfl, by kernel_rfl⟩ ?_
          refine node_ldx ⟨[y.v.v.k], [], [], [y.v.v.cs.length, y.v.c1, y.v.v.ns.length, y.v.c2], [y.v.a1, y.v.a2]⟩ (.pointer (some (((b.getD ⟨0, 0, none⟩).add (k * 6)).add 3))) y.v.cells (by intros; kernel_rfl) (by intros; kernel_rfl) b3 ⟨by kernel_rfl, by kernel_rfl⟩ ?_
          refine node_PI ⟨[], [vlSame x.v.v y.v.v], [], [], []⟩ (fun _ => #[x.v.val, y.v.val]) (.bool (vlSame x.v.v y.v.v)) (by intros; kernel_rfl) (by intros; kernel_rfl) (by kernel_rfl) (by kernel_rfl) (by kernel_rfl) oneNil (fun ids w2 hp hf3 => samev_any _ _ _ _ _ _ _ _ _ _ w2 (voX_at hf3.x.1 hf (List.mem_of_getElem? hx)) (voX_at hf3.x.2 hf2 (List.mem_of_getElem? hy))) ?_
          refine br_B (!(vlSame x.v.v y.v.v)) (by kernel_rfl) (fun h => no (hne fun q => by rw [vlSame_t q.2.2.2] at h; cases h)) (fun h3 => ?_)
          exact fin (by simpa using h1) (by simpa using h2) (Classical.byContradiction fun q => by rw [vlSame_f q] at h3; cases h3) (by intros; kernel_rfl)
        · skip
          refine node_ldx ⟨[y.v.v.k], [], [], [y.v.v.cs.length, y.v.c1, y.v.v.ns.length, y.v.c2], [y.v.a1, y.v.a2]⟩ (.pointer (some (((b.getD ⟨0, 0, none⟩).add (k * 6)).add 3))) y.v.cells (by intros; kernel_rfl) (by intros; kernel_rfl) b3 ⟨by kernel_rfl, by kernel_rfl⟩ ?_
          refine node_ldx ⟨[x.v.v.k], [], [], [x.v.v.cs.length, x.v.c1, x.v.v.ns.length, x.v.c2], [x.v.a1, x.v.a2]⟩ (.pointer (some (((a.getD ⟨0, 0, none⟩).add (k * 6)).add 3))) x.v.cells (by intros; kernel_rfl) (by intros; kernel_rfl) a3 ⟨by kernel_rfl, by kernel_rfl⟩ ?_
          refine node_PI ⟨[], [vlSame x.v.v y.v.v], [], [], []⟩ (fun _ => #[x.v.val, y.v.val]) (.bool (vlSame x.v.v y.v.v)) (by intros; kernel_rfl) (by intros; kernel_rfl) (by kernel_rfl) (by kernel_rfl) (by kernel_rfl) oneNil (fun ids w2 hp hf3 => samev_any _ _ _ _ _ _ _ _ _ _ w2 (voX_at hf3.x.1 hf (List.mem_of_getElem? hx)) (voX_at hf3.x.2 hf2 (List.mem_of_getElem? hy))) ?_
          refine br_B (!(vlSame x.v.v y.v.v)) (by kernel_rfl) (fun h => no (hne fun q => by rw [vlSame_t q.2.2.2] at h; cases h)) (fun h3 => ?_)
          exact fin (by simpa using h1) (by simpa using h2) (Classical.byContradiction fun q => by rw [vlSame_f q] at h3; cases h3) (by intros; kernel_rfl)
    · skip
      refine node_ldx ⟨[y.s], [], [], [], []⟩ (.pointer (some (((b.getD ⟨0, 0, none⟩).add (k * 6)).add 0))) [.int .i64 y.s] (by intros; kernel_rfl) (by intros; kernel_rfl) b1 ⟨by kernel_rfl, by kernel_rfl⟩ ?_
      refine node_ldx ⟨[x.s], [], [], [], []⟩ (.pointer (some (((a.getD ⟨0, 0, none⟩).add (k * 6)).add 0))) [.int .i64 x.s] (by intros; kernel_rfl) (by intros; kernel_rfl) a1 ⟨by kernel_rfl, by kernel_rfl⟩ ?_
      refine br_B (x.s != y.s) (by kernel_rfl) (fun h => no (hne fun q => by rw [q.1] at h; simp at h)) (fun h1 => ?_)
      refine need_k (a.isSome = true ∧ 0 ≤ (k : Int) ∧ (k : Int) < (xs.length : Int)) (by kernel_rfl) ⟨s1, by omega, by omega⟩ ?_
      refine need_k (b.isSome = true ∧ 0 ≤ (k : Int) ∧ (k : Int) < (ys.length : Int)) (by kernel_rfl) ⟨s2, by omega, by omega⟩ ?_
      refine par_i ?_ ?_
      · skip
        refine node_ldx ⟨[x.r, x.n], [], [], [], []⟩ (.pointer (some (((a.getD ⟨0, 0, none⟩).add (k * 6)).add 1))) [.int .i64 x.r, .int .i64 x.n] (by intros; kernel_rfl) (by intros; kernel_rfl) a2 ⟨by kernel_rfl, by kernel_rfl⟩ ?_
        refine node_ldx ⟨[y.r, y.n], [], [], [], []⟩ (.pointer (some (((b.getD ⟨0, 0, none⟩).add (k * 6)).add 1))) [.int .i64 y.r, .int .i64 y.n] (by intros; kernel_rfl) (by intros; kernel_rfl) b2 ⟨by kernel_rfl, by kernel_rfl⟩ ?_
        refine br_B (!((x.r == y.r) && (x.n == y.n))) (by kernel_rfl) (fun h => no (hne fun q => by rw [q.2.1, q.2.2.1] at h; simp at h)) (fun h2 => ?_)
        refine need_k (a.isSome = true ∧ 0 ≤ (k : Int) ∧ (k : Int) < (xs.length : Int)) (by kernel_rfl) ⟨s1, by omega, by omega⟩ ?_
        refine need_k (b.isSome = true ∧ 0 ≤ (k : Int) ∧ (k : Int) < (ys.length : Int)) (by kernel_rfl) ⟨s2, by omega, by omega⟩ ?_
        refine par_i ?_ ?_
        · skip
          refine node_ldx ⟨[x.v.v.k], [], [], [x.v.v.cs.length, x.v.c1, x.v.v.ns.length, x.v.c2], [x.v.a1, x.v.a2]⟩ (.pointer (some (((a.getD ⟨0, 0, none⟩).add (k * 6)).add 3))) x.v.cells (by intros; kernel_rfl) (by intros; kernel_rfl) a3 ⟨by kernel_rfl, by kernel_rfl⟩ ?_
          refine node_ldx ⟨[y.v.v.k], [], [], [y.v.v.cs.length, y.v.c1, y.v.v.ns.length, y.v.c2], [y.v.a1, y.v.a2]⟩ (.pointer (some (((b.getD ⟨0, 0, none⟩).add (k * 6)).add 3))) y.v.cells (by intros; kernel_rfl) (by intros; kernel_rfl) b3 ⟨by kernel_rfl, by kernel_rfl⟩ ?_
          refine node_PI ⟨[], [vlSame x.v.v y.v.v], [], [], []⟩ (fun _ => #[x.v.val, y.v.val]) (.bool (vlSame x.v.v y.v.v)) (by intros; kernel_rfl) (by intros; kernel_rfl) (by kernel_rfl) (by kernel_rfl) (by kernel_rfl) oneNil (fun ids w2 hp hf3 => samev_any _ _ _ _ _ _ _ _ _ _ w2 (voX_at hf3.x.1 hf (List.mem_of_getElem? hx)) (voX_at hf3.x.2 hf2 (List.mem_of_getElem? hy))) ?_
          refine br_B (!(vlSame x.v.v y.v.v)) (by kernel_rfl) (fun h => no (hne fun q => by rw [vlSame_t q.2.2.2] at h; cases h)) (fun h3 => ?_)
          exact fin (by simpa using h1) (by simpa using h2) (Classical.byContradiction fun q => by rw [vlSame_f q] at h3; cases h3) (by intros; kernel_rfl)
        · skip
          refine node_ldx ⟨[y.v.v.k], [], [], [y.v.v.cs.length, y.v.c1, y.v.v.ns.length, y.v.c2], [y.v.a1, y.v.a2]⟩ (.pointer (some (((b.getD ⟨0, 0, none⟩).add (k * 6)).add 3))) y.v.cells (by intros; kernel_rfl) (by intros; kernel_rfl) b3 ⟨by kernel_rfl, by kernel_rfl⟩ ?_
          refine node_ldx ⟨[x.v.v.k], [], [], [x.v.v.cs.length, x.v.c1, x.v.v.ns.length, x.v.c2], [x.v.a1, x.v.a2]⟩ (.pointer (some (((a.getD ⟨0, 0, none⟩).add (k * 6)).add 3))) x.v.cells (by intros; kernel_rfl) (by intros; kernel_rfl) a3 ⟨by kernel_rfl, by kernel_rfl⟩ ?_
          refine node_PI ⟨[], [vlSame x.v.v y.v.v], [], [], []⟩ (fun _ => #[x.v.val, y.v.val]) (.bool (vlSame x.v.v y.v.v)) (by intros; kernel_rfl) (by intros; kernel_rfl) (by kernel_rfl) (by kernel_rfl) (by kernel_rfl) oneNil (fun ids w2 hp hf3 => samev_any _ _ _ _ _ _ _ _ _ _ w2 (voX_at hf3.x.1 hf (List.mem_of_getElem? hx)) (voX_at hf3.x.2 hf2 (List.mem_of_getElem? hy))) ?_
          refine br_B (!(vlSame x.v.v y.v.v)) (by kernel_rfl) (fun h => no (hne fun q => by rw [vlSame_t q.2.2.2] at h; cases h)) (fun h3 => ?_)
          exact fin (by simpa using h1) (by simpa using h2) (Classical.byContradiction fun q => by rw [vlSame_f q] at h3; cases h3) (by intros; kernel_rfl)
      · skip
        refine node_ldx ⟨[y.r, y.n], [], [], [], []⟩ (.pointer (some (((b.getD ⟨0, 0, none⟩).add (k * 6)).add 1))) [.int .i64 y.r, .int .i64 y.n] (by intros; kernel_rfl) (by intros; kernel_rfl) b2 ⟨by kernel_rfl, by kernel_rfl⟩ ?_
        refine node_ldx ⟨[x.r, x.n], [], [], [], []⟩ (.pointer (some (((a.getD ⟨0, 0, none⟩).add (k * 6)).add 1))) [.int .i64 x.r, .int .i64 x.n] (by intros; kernel_rfl) (by intros; kernel_rfl) a2 ⟨by kernel_rfl, by kernel_rfl⟩ ?_
        refine br_B (!((x.r == y.r) && (x.n == y.n))) (by kernel_rfl) (fun h => no (hne fun q => by rw [q.2.1, q.2.2.1] at h; simp at h)) (fun h2 => ?_)
        refine need_k (a.isSome = true ∧ 0 ≤ (k : Int) ∧ (k : Int) < (xs.length : Int)) (by kernel_rfl) ⟨s1, by omega, by omega⟩ ?_
        refine need_k (b.isSome = true ∧ 0 ≤ (k : Int) ∧ (k : Int) < (ys.length : Int)) (by kernel_rfl) ⟨s2, by omega, by omega⟩ ?_
        refine par_i ?_ ?_
        · skip
          refine node_ldx ⟨[x.v.v.k], [], [], [x.v.v.cs.length, x.v.c1, x.v.v.ns.length, x.v.c2], [x.v.a1, x.v.a2]⟩ (.pointer (some (((a.getD ⟨0, 0, none⟩).add (k * 6)).add 3))) x.v.cells (by intros; kernel_rfl) (by intros; kernel_rfl) a3 ⟨by kernel_rfl, by kernel_rfl⟩ ?_
          refine node_ldx ⟨[y.v.v.k], [], [], [y.v.v.cs.length, y.v.c1, y.v.v.ns.length, y.v.c2], [y.v.a1, y.v.a2]⟩ (.pointer (some (((b.getD ⟨0, 0, none⟩).add (k * 6)).add 3))) y.v.cells (by intros; kernel_rfl) (by intros; kernel_rfl) b3 ⟨by kernel_rfl, by kernel_rfl⟩ ?_
          refine node_PI ⟨[], [vlSame x.v.v y.v.v], [], [], []⟩ (fun _ => #[x.v.val, y.v.val]) (.bool (vlSame x.v.v y.v.v)) (by intros; kernel_rfl) (by intros; kernel_rfl) (by kernel_rfl) (by kernel_rfl) (by kernel_rfl) oneNil (fun ids w2 hp hf3 => samev_any _ _ _ _ _ _ _ _ _ _ w2 (voX_at hf3.x.1 hf (List.mem_of_getElem? hx)) (voX_at hf3.x.2 hf2 (List.mem_of_getElem? hy))) ?_
          refine br_B (!(vlSame x.v.v y.v.v)) (by kernel_rfl) (fun h => no (hne fun q => by rw [vlSame_t q.2.2.2] at h; cases h)) (fun h3 => ?_)
          exact fin (by simpa using h1) (by simpa using h2) (Classical.byContradiction fun q => by rw [vlSame_f q] at h3; cases h3) (by intros; kernel_rfl)
        · skip
          refine node_ldx ⟨[y.v.v.k], [], [], [y.v.v.cs.length, y.v.c1, y.v.v.ns.length, y.v.c2], [y.v.a1, y.v.a2]⟩ (.pointer (some (((b.getD ⟨0, 0, none⟩).add (k * 6)).add 3))) y.v.cells (by intros; kernel_rfl) (by intros; kernel_rfl) b3 ⟨by kernel_rfl, by kernel_rfl⟩ ?_
          refine node_ldx ⟨[x.v.v.k], [], [], [x.v.v.cs.length, x.v.c1, x.v.v.ns.length, x.v.c2], [x.v.a1, x.v.a2]⟩ (.pointer (some (((a.getD ⟨0, 0, none⟩).add (k * 6)).add 3))) x.v.cells (by intros; kernel_rfl) (by intros; kernel_rfl) a3 ⟨by kernel_rfl, by kernel_rfl⟩ ?_
          refine node_PI ⟨[], [vlSame x.v.v y.v.v], [], [], []⟩ (fun _ => #[x.v.val, y.v.val]) (.bool (vlSame x.v.v y.v.v)) (by intros; kernel_rfl) (by intros; kernel_rfl) (by kernel_rfl) (by kernel_rfl) (by kernel_rfl) oneNil (fun ids w2 hp hf3 => samev_any _ _ _ _ _ _ _ _ _ _ w2 (voX_at hf3.x.1 hf (List.mem_of_getElem? hx)) (voX_at hf3.x.2 hf2 (List.mem_of_getElem? hy))) ?_
          refine br_B (!(vlSame x.v.v y.v.v)) (by kernel_rfl) (fun h => no (hne fun q => by rw [vlSame_t q.2.2.2] at h; cases h)) (fun h3 => ?_)
          exact fin (by simpa using h1) (by simpa using h2) (Classical.byContradiction fun q => by rw [vlSame_f q] at h3; cases h3) (by intros; kernel_rfl)
  · have : vlsOf xs = vlsOf ys := by
      have e1 : (vlsOf xs).take k = vlsOf xs := List.take_of_length_le (by rw [vlsOf_len]; omega)
      have e2 : (vlsOf ys).take k = vlsOf ys := List.take_of_length_le (by rw [vlsOf_len]; omega)
      rw [← e1, ← e2]; exact heq
    rw [voSame_t this]; rfl
set_option maxHeartbeats 2000000 in
theorem rsame7_any (m o : Ms) (w : World) (H : m.X.X w) (H2 : o.X.X w) (hw : MsWf m) (hw2 : MsWf o) : Calls Try.prog 17 #[m.val, o.val] w (PureAt w (.bool (mcSame m.con o.con))) := by
  refine calls_at (tab_ok _) Try.func17 rfl tRSame7 (ρ := ⟨m.ints ++ o.ints, [], [], m.nats ++ o.nats, m.adrs ++ o.adrs⟩) (ids := []) (hx := m.X.and o.X) rfl (Facts.initq rfl oneNil ⟨H, H2⟩ (fun k hk => hk.elim (Ms.X_sep H k) (Ms.X_sep H2 k))) ?_
  have no : ∀ {m2 : Mem} {ρ : Env} {hx : HX} {S : Stack}, ¬ m.con = o.con → (Tree.done (.lf (.bool (.lit false))) m2).holds ⟨Try.prog, w, fun _ => False, PureAt w (.bool (mcSame m.con o.con))⟩ ρ [] hx S := fun h => pure_done fun _ => by rw [mcSame_f h]; rfl
  have inj : m.con = o.con → _ := fun h => Mc.mk.inj h
  refine br_B (m.k != o.k) (by kernel_rfl) (fun h => no fun q => by rw [(show m.k = o.k from congrArg Mc.k q)] at h; simp at h) (fun h0 => ?_)
  refine br_B (m.f != o.f) (by kernel_rfl) (fun h => no fun q => by rw [(show m.f = o.f from congrArg Mc.f q)] at h; simp at h) (fun h1 => ?_)
  refine br_B (m.t != o.t) (by kernel_rfl) (fun h => no fun q => by rw [(show m.t = o.t from congrArg Mc.t q)] at h; simp at h) (fun h2 => ?_)
  refine br_B (m.e != o.e) (by kernel_rfl) (fun h => no fun q => by rw [(show m.e = o.e from congrArg Mc.e q)] at h; simp at h) (fun h3 => ?_)
  refine br_B (!((m.r == o.r) && (m.n == o.n))) (by kernel_rfl) (fun h => no fun q => by rw [(show m.r = o.r from congrArg Mc.r q), (show m.n = o.n from congrArg Mc.n q)] at h; simp at h) (fun h4 => ?_)
  refine br_B (m.slot != o.slot) (by kernel_rfl) (fun h => no fun q => by rw [(show m.slot = o.slot from congrArg Mc.slot q)] at h; simp at h) (fun h5 => ?_)
  refine br_B (m.low != o.low) (by kernel_rfl) (fun h => no fun q => by rw [(show m.low = o.low from congrArg Mc.low q)] at h; simp at h) (fun h6 => ?_)
  refine br_B (m.tm != o.tm) (by kernel_rfl) (fun h => no fun q => by rw [(show m.tm = o.tm from congrArg Mc.tm q)] at h; simp at h) (fun h7 => ?_)
  refine node_PI ⟨[], [vlSame m.p.v o.p.v], [], [], []⟩ (fun _ => #[m.p.val, o.p.val]) (.bool (vlSame m.p.v o.p.v)) (by intros; kernel_rfl) (by intros; kernel_rfl) (by kernel_rfl) (by kernel_rfl) (by kernel_rfl) oneNil (fun ids w2 hp hf => samev_any _ _ _ _ _ _ _ _ _ _ w2 (hw.v.f.at_ hf.x.1.1.1) (hw2.v.f.at_ hf.x.2.1.1)) ?_
  refine br_B (vlSame m.p.v o.p.v) (by kernel_rfl) (fun h8 => ?_) (fun h => no fun q => by rw [vlSame_t (show m.p.v = o.p.v from congrArg Mc.v q)] at h; cases h)
  refine node_PI ⟨[], [voSame (vlsOf m.vs) (vlsOf o.vs)], [], [], []⟩ (fun _ => #[.slice m.av m.vs.length m.cv, .slice o.av o.vs.length o.cv]) (.bool (voSame (vlsOf m.vs) (vlsOf o.vs))) (by intros; kernel_rfl) (by intros; kernel_rfl) (by kernel_rfl) (by kernel_rfl) (by kernel_rfl) oneNil (fun ids w2 hp hf => rsamevs_any _ _ _ _ _ _ w2 hf.x.1.1.2 hf.x.2.1.2 hw.fit.vs hw2.fit.vs hw.vl) ?_
  refine br_B (voSame (vlsOf m.vs) (vlsOf o.vs)) (by kernel_rfl) (fun h9 => ?_) (fun h => no fun q => by rw [voSame_t (show vlsOf m.vs = vlsOf o.vs from congrArg Mc.vs q)] at h; cases h)
  refine br_B (cmdEq m.c o.c) (by kernel_rfl) (fun h10 => ?_) (fun h => no fun q => by rw [(cmdEq_iff m.c o.c).2 (show m.c = o.c from congrArg Mc.c q)] at h; cases h)
  refine br_B ((m.rk == o.rk) && ((m.re == o.re) && (m.im == o.im))) (by kernel_rfl) (fun h11 => ?_) (fun h => no fun q => by rw [(show m.rk = o.rk from congrArg Mc.rk q), (show m.re = o.re from congrArg Mc.re q), (show m.im = o.im from congrArg Mc.im q)] at h; simp at h)
  have ev : m.p.v = o.p.v := Classical.byContradiction fun q => by rw [vlSame_f q] at h8; cases h8
  have es : vlsOf m.vs = vlsOf o.vs := Classical.byContradiction fun q => by rw [voSame_f q] at h9; cases h9
  have ec : m.c = o.c := (cmdEq_iff m.c o.c).1 h10
  have eall : mcSame m.con o.con = decide (m.d = o.d) := by
    have k0 : m.k = o.k := by simpa using h0
    have k1 : m.f = o.f := by simpa using h1
    have k2 : m.t = o.t := by simpa using h2
    have k3 : m.e = o.e := by simpa using h3
    have k4 : m.r = o.r ∧ m.n = o.n := by simpa using h4
    have k5 : m.slot = o.slot := by simpa using h5
    have k6 : m.low = o.low := by simpa using h6
    have k7 : m.tm = o.tm := by simpa using h7
    have k11 : m.rk = o.rk ∧ m.re = o.re ∧ m.im = o.im := by simpa using h11
    by_cases hd : m.d = o.d
    · rw [decide_eq_true hd]
      refine mcSame_t ?_
      unfold Ms.con
      rw [k0, k1, k2, k3, k4.1, k4.2, k5, k6, k7, ev, es, ec, k11.1, k11.2.1, k11.2.2, hd]
    · rw [decide_eq_false hd]
      exact mcSame_f fun q => hd (congrArg Mc.d q)
  rw [eall]
  refine node_PI ⟨[], [decide (m.d = o.d)], [], [], []⟩ (fun _ => #[.slice m.ad m.d.length m.cd, .slice o.ad o.d.length o.cd]) (.bool (decide (m.d = o.d))) (by intros; kernel_rfl) (by intros; kernel_rfl) (by kernel_rfl) (by kernel_rfl) (by kernel_rfl) oneNil (fun ids w2 hp hf => sameb_any _ _ _ _ _ _ w2 hf.x.1.2 hf.x.2.2 hw.dl) ?_
  exact pure_done (by intros; kernel_rfl)
section
variable {C : Cfg} {ρ : Env} {pre : List Nat} {hx : HX} {L : Stack} {m m' : Mem} {args : List SV} {r : SV} {t : Tree}
end
def Ms.vals1 (m : Ms) (e : Int) : Vals := ⟨m.ints ++ [e], [], [], m.nats, m.adrs⟩
section
variable {C : Cfg} {ρ : Env} {pre : List Nat} {hx : HX} {L : Stack} {m m' : Mem} {args : List SV} {r : SV} {t : Tree}
theorem node_dec (hP : C.P = Try.prog) (a : List Nat → Option Addr) (cap : Nat) (bs : List Int) (hb : Byt bs) (hl : bs.length ≤ 140737488355328) (e : Int) (he : decE7 bs = e) (hat : ∀ ids w, pre <+: ids → Facts C m ρ ids hx w → Cells w (a ids) (bcells bs)) (hargs : ∀ ids, (args.map (SV.den ρ ids)).toArray = #[.slice (a ids) bs.length cap]) (hr : ∀ (y : Ms) ids, r.den (ρ.add (y.vals1 e)) ids = .tuple #[y.val, .int .i64 e]) (hhp : m'.hp = m.hp) (hft : hpFits m.c m.hp.length m.hp = true) (hc : ∀ y : Ms, (ρ.add (y.vals1 e)).cnt = m'.c)
    (h : ∀ y : Ms, y.con = decC7 bs → (∀ k, y.R.F k → C.W.heap.size ≤ k ∧ ¬ hx.F k) → t.holds C (ρ.add (y.vals1 e)) pre (hx.and y.R) L) : (Tree.call 22 args m r m' t).holds C ρ pre hx L := by
  subst he
  refine node_out (fun ids => #[.slice (a ids) bs.length cap]) (fun vs h' => ∃ y : Ms, y.con = decC7 bs ∧ vs = y.vals1 (decE7 bs) ∧ h' = y.R) hargs (fun ids w hp hf => ?_) hhp hft ?_ ?_
  · rw [hP]
    refine (decode7_any (a ids) cap bs w (hat ids w hp hf) hb hl).mono ?_
    rintro e w' ⟨y, rfl, g1, g2, g3, g4⟩
    exact ⟨_, _, ⟨y, g1, rfl, rfl⟩, by rw [hr], g2, g3, g4⟩
  · rintro vs h' ⟨y, _, rfl, rfl⟩; exact ⟨hc y, oneNil⟩
  · rintro vs h' ⟨y, e, rfl, rfl⟩ hfr; exact h y e hfr
theorem node_enc (hP : C.P = Try.prog) (x : Ms) (hw : MsWf x) (bs : List Int) (e : Int) (hb : encM x = bs) (he : chkM x = e) (hat : ∀ ids w, pre <+: ids → Facts C m ρ ids hx w → x.X.X w) (hargs : ∀ ids, (args.map (SV.den ρ ids)).toArray = #[x.val]) (hr : ∀ a' c' ids, r.den (ρ.add ⟨[e], [], [], [bs.length, c'], [a']⟩) ids = .tuple #[.slice a' bs.length c', .int .i64 e]) (hhp : m'.hp = m.hp) (hft : hpFits m.c m.hp.length m.hp = true) (hc : ∀ a' c', (ρ.add ⟨[e], [], [], [bs.length, c'], [a']⟩).cnt = m'.c)
    (h : ∀ a' c', (bs ≠ [] → a'.isSome = true) → (∀ k, c' ≠ 0 → abk a' = some k → C.W.heap.size ≤ k ∧ ¬ hx.F k) → t.holds C (ρ.add ⟨[e], [], [], [bs.length, c'], [a']⟩) pre (hx.and (frow a' c' bs)) L) : (Tree.call 16 args m r m' t).holds C ρ pre hx L := by
  subst hb; subst he
  exact node_newi (V := fun s => .tuple #[s, .int .i64 (chkM x)]) (bs := encM x) (fun _ => #[x.val]) (fun a' c' => ⟨[chkM x], [], [], [(encM x).length, c'], [a']⟩) hargs (fun ids w hp hf => by rw [hP]; exact encode7_any x hw w (hat ids w hp hf)) hr hhp hft hc (fun _ _ => oneNil) h
end
def m8 : Ms := ⟨8, 2, 3, 0, 0, 0, 5, 0, 0, pz, none, 0, [], cz, 0, 0, 0, none, 0, []⟩
def b8 : List Int := [1, 8, 1, 2, 1, 3, 0, 1, 5]
theorem m8_wf : MsWf m8 := by
  have h : ∀ n : Int, -10 ≤ n ∧ n ≤ 10 → I64 n := fun n h => by unfold I64; omega
  refine ⟨h _ (by decide), h _ (by decide), h _ (by decide), h _ (by decide), h _ (by decide), h _ (by decide), h _ (by decide), h _ (by decide), h _ (by decide), vz_wf, (fun x hx => by cases hx), fun i hi => ?_, h _ (by decide), h _ (by decide), h _ (by decide), (fun x hx => by cases hx), by decide, by decide⟩
  simp only [m8, CmD.is, cz, List.mem_cons, List.not_mem_nil, or_false, or_self] at hi
  rw [hi]; exact i0
theorem m8_X (w : World) : m8.X.X w := ⟨⟨⟨fun h => absurd h (by decide), fun h => absurd h (by decide)⟩, fun h => absurd h (by decide), fun x hx => by cases hx⟩, fun h => absurd h (by decide)⟩
theorem m8_c : chkM m8 = 0 := by kernel_rfl
theorem m8_b : encM m8 = b8 := by kernel_rfl
theorem m8_d : decE7 b8 = 0 := by kernel_rfl
theorem m8_r : decC7 b8 = m8.con := by kernel_rfl
theorem b8_byt : Byt b8 := by unfold Byt b8; decide
theorem pure_out {P : Program} {W : World} {M : Nat → Prop} {v : SV} {m : Mem} {ρ : Env} {pre : List Nat} {hx : HX} {L : Stack} {V : Value} (hM : ∀ x, ¬ M x) (hv : ∀ ids, v.den ρ ids = V) : (Tree.done v m).holds ⟨P, W, M, PureAt W V⟩ ρ pre hx L := fun ids w2 hp hf =>
  ⟨by rw [hv], (show Chg (fun _ => False) W w2 from ⟨hf.chg.os, hf.chg.tape, hf.chg.output, hf.chg.size, fun k hk _ => hf.chg.block k hk (hM k)⟩).below⟩
theorem head7_any (w : World) : Calls Try.prog 9 #[] w (PureAt w (.bool true)) := by
  refine calls_at (tab_ok _) Try.func9 rfl tHead7 (ρ := ⟨[], [], [], [], []⟩) (ids := []) (hx := HX.nil) rfl (Facts.initP rfl oneNil) ?_
  refine node_enc rfl m8 m8_wf b8 0 m8_b m8_c (fun ids w hp hf => m8_X w) (by intros; kernel_rfl) (by intros; kernel_rfl) (by kernel_rfl) (by kernel_rfl) (by intros; kernel_rfl) ?_
  intro a c _ fa
  refine node_dec rfl (fun ids => some ⟨idAt ids 1, 0, none⟩) 9 b8 b8_byt (by decide) 0 m8_d (fun ids w2 hp hf => blk_cells (hf.blk 1 _ _ rfl)) (by intros; kernel_rfl) (by intros; kernel_rfl) (by kernel_rfl) (by kernel_rfl) (by intros; kernel_rfl) ?_
  intro y hy fy
  refine br_T true (by kernel_rfl) rfl ?_
  refine node_PI ⟨[], [decide (b8 = b8)], [], [], []⟩ (fun ids => #[.slice a b8.length c, .slice (some ⟨idAt ids 3, 0, none⟩) b8.length 9]) (.bool (decide (b8 = b8))) (by intros; kernel_rfl) (by intros; kernel_rfl) (by kernel_rfl) (by kernel_rfl) (by kernel_rfl) oneNil (fun ids w2 hp hf => sameb_any _ _ b8 _ _ b8 w2 (frow_cells hf.x.1.2) (blk_cells (hf.blk 3 _ _ rfl)) (by decide)) ?_
  refine br_T true (by kernel_rfl) rfl ?_
  refine br_T true (by kernel_rfl) rfl ?_
  have hyw : MsWf y := McWf.ms (by rw [hy, m8_r]; exact m8_wf.con)
  refine node_PI ⟨[], [mcSame y.con m8.con], [], [], []⟩ (fun _ => #[y.val, m8.val]) (.bool (mcSame y.con m8.con)) (by intros; kernel_rfl) (by intros; kernel_rfl) (by kernel_rfl) (by kernel_rfl) (by kernel_rfl) oneNil (fun ids w2 hp hf => rsame7_any y m8 w2 (R_X hf.x.2) (m8_X w2) hyw m8_wf) ?_
  rw [mcSame_t (hy.trans m8_r)]
  exact pure_out (fun _ => id) (by intros; kernel_rfl)
end Go.Proofs.Ytadgaefmoobcoaa

namespace Go.Proofs.Ytadgaefmoobcoaa
open Go.ChangeShapes Go.WideShapes Go.ChangeAt Go.RowKit Go.Syn Go.Eng
set_option linter.unusedVariables false
set_option linter.unusedSimpArgs false
set_option maxRecDepth 100000
theorem MsWf.of {m m' : Ms} (h : MsWf m) (e : m'.con = m.con) : MsWf m' := McWf.ms (by rw [e]; exact h.con)
theorem mz_wf : MsWf mz := by
  refine ⟨i0, i0, i0, i0, i0, i0, i0, i0, i0, vz_wf, (fun x hx => by cases hx), fun i hi => ?_, i0, i0, i0, (fun x hx => by cases hx), by decide, by decide⟩
  simp only [mz, CmD.is, cz, List.mem_cons, List.not_mem_nil, or_false, or_self] at hi
  rw [hi]; exact i0
end Go.Proofs.Ytadgaefmoobcoaa

namespace Go.Proofs.Ytadgaefmoobcoaa
open Go.ChangeShapes Go.WideShapes Go.ChangeAt Go.RowKit Go.Syn Go.Eng
set_option linter.unusedVariables false
set_option linter.unusedSimpArgs false
section
variable {bs : List Int} {q : Nat × Int} {rest : List Int}
end
section
variable {bs : List Int} {q : Nat × Int}
end
end Go.Proofs.Ytadgaefmoobcoaa

namespace Go.Proofs.Ytadgaefmoobcoaa
open Go.ChangeShapes Go.WideShapes Go.ChangeAt Go.RowKit Go.Syn Go.Eng
set_option linter.unusedVariables false
set_option linter.unusedSimpArgs false
set_option maxRecDepth 100000
abbrev tQTakeCmdb0 : List LV := [(tLi 0), (tLi 0), (tLi 0), (tLi 0), (tLi 0), (tLi 0), (tLi 0), (tLi 0)]
abbrev tQTakeCmdb1 : List LV := [(tVi 2), (tVi 3), (tVi 4), (tVi 5), (tVi 6), (tVi 7), (tVi 8), (tVi 9)]
abbrev tQTakeCmdm0 : Mem := ⟨[(95, [(tSl 3 6 7), (tVi 2)]), (95, [.nilsl, (tLi 0)]), (32, tQTakeCmdb0), (3, []), (95, [(tSl 3 6 7), (tVi 2)]), (3, [(tVi 4)])], ⟨5, 0, 0, 10, 5⟩⟩
abbrev tQTakeCmdm1 : Mem := ⟨[(95, [(tSl 2 4 5), (tVi 1)]), (95, [.nilsl, (tLi 0)]), (32, tQTakeCmdb0), (3, [])], ⟨2, 0, 0, 6, 3⟩⟩
abbrev tQTakeCmdm2 : Mem := ⟨[(95, [(tSl 2 4 5), (tVi 1)]), (95, [.nilsl, (tLi 0)]), (32, tQTakeCmdb0), (3, [])], ⟨3, 0, 0, 6, 3⟩⟩
abbrev tQTakeCmdm3 : Mem := ⟨[(95, [(tSl 2 4 5), (tVi 1)]), (95, [.nilsl, (tLi 0)]), (32, tQTakeCmdb0), (3, [])], ⟨4, 0, 0, 6, 3⟩⟩
abbrev tQTakeCmdm4 : Mem := ⟨[(95, [(tSl 2 4 5), (tVi 1)]), (95, [.nilsl, (tLi 0)]), (32, tQTakeCmdb0), (3, [])], ⟨5, 0, 0, 6, 3⟩⟩
abbrev tQTakeCmdm5 : Mem := ⟨[(95, [(tSl 2 4 5), (tVi 1)]), (95, [.nilsl, (tLi 0)]), (32, tQTakeCmdb0), (3, [])], ⟨6, 0, 0, 6, 3⟩⟩
abbrev tQTakeCmdm6 : Mem := ⟨[(95, [(tSl 2 4 5), (tVi 1)]), (95, [.nilsl, (tLi 0)]), (32, tQTakeCmdb0), (3, [])], ⟨7, 0, 0, 6, 3⟩⟩
abbrev tQTakeCmdm7 : Mem := ⟨[(95, [(tSl 2 4 5), (tVi 1)]), (95, [.nilsl, (tLi 0)]), (32, tQTakeCmdb0), (3, [])], ⟨8, 0, 0, 6, 3⟩⟩
abbrev tQTakeCmdm8 : Mem := ⟨[(95, [(tSl 2 4 5), (tVi 1)]), (95, [.nilsl, (tLi 0)]), (32, tQTakeCmdb0), (3, [])], ⟨9, 0, 0, 6, 3⟩⟩
set_option maxRecDepth 100000 in
theorem tQTakeCmd : (runF ⟨tt, fns, { loops := [(2, ⟨[(4, .sl)], [0]⟩)], loads := [6], cur := [1] }⟩ (Try.f77.body.getD .skip) Try.f77.results.toList (entry Try.f77.ntmps [.agg [.sl 0 (.var 0) (.var 1), .int .i64 (.var 0)]] [] ⟨1, 0, 0, 2, 1⟩)) =
  (.loop 2 ⟨[(.var 0)], [], [], [(.lit 0), (.lit 0), (.var 0), (.var 1)], [(.nm 3 0), (.var 0)]⟩ ⟨[(95, [(tSl 0 0 1), (tVi 0)]), (95, [.nilsl, (tLi 0)]), (32, tQTakeCmdb0), (3, [])], ⟨1, 0, 0, 2, 1⟩⟩ tQTakeCmdm1 (.br (.cmp .lss (.nat 2) (.lit 8)) (.call 78 [(.agg [(tSl 2 4 5), (tVi 1)])] tQTakeCmdm1 (.tup [(.true, [(tSl 3 6 7), (tVi 2)]), (.false, [(.int .u64 (.var 3))])]) ⟨[(95, [(tSl 2 4 5), (tVi 1)]), (95, [.nilsl, (tLi 0)]), (32, tQTakeCmdb0), (3, [])], ⟨4, 0, 0, 8, 4⟩⟩ (.call 79 [(.lf (.int .u64 (.var 3)))] ⟨[(95, [(tSl 3 6 7), (tVi 2)]), (95, [.nilsl, (tLi 0)]), (32, tQTakeCmdb0), (3, []), (95, [(tSl 3 6 7), (tVi 2)])], ⟨4, 0, 0, 8, 4⟩⟩ (.lf (tVi 4)) ⟨[(95, [(tSl 3 6 7), (tVi 2)]), (95, [.nilsl, (tLi 0)]), (32, tQTakeCmdb0), (3, []), (95, [(tSl 3 6 7), (tVi 2)])], ⟨5, 0, 0, 8, 4⟩⟩ (.gen (.call ⟨(.builtin .append), #[(.tmp 17), (.tmp 20)], #[25, 25]⟩) 25 [(17, (.lf (tSl 1 2 3))), (20, (.lf (.nsl 5 0 1 1)))] ⟨[(95, [(tSl 3 6 7), (tVi 2)]), (95, [.nilsl, (tLi 0)]), (32, tQTakeCmdb0), (3, []), (95, [(tSl 3 6 7), (tVi 2)]), (3, [(tVi 4)])], ⟨5, 0, 0, 8, 4⟩⟩ (.some (.lf (tSl 4 8 9))) tQTakeCmdm0 (.again 2 ⟨[(.var 2)], [], [], [(.var 8), (.var 9), (.var 6), (.var 7)], [(.var 4), (.var 3)]⟩ tQTakeCmdm0)))) (.need (.inb 1 (.lit 0) (.nat 2)) (.need (.inb 1 (.lit 1) (.nat 2)) (.need (.inb 1 (.lit 2) (.nat 2)) (.need (.inb 1 (.lit 3) (.nat 2)) (.need (.inb 1 (.lit 4) (.nat 2)) (.need (.inb 1 (.lit 5) (.nat 2)) (.need (.inb 1 (.lit 6) (.nat 2)) (.need (.inb 1 (.lit 7) (.nat 2)) (.ldq (.adr 1 (.lit 0) 1 0) [(tVi 2)] tQTakeCmdm1 tQTakeCmdm2 (.ldq (.adr 1 (.lit 1) 1 0) [(tVi 3)] tQTakeCmdm2 tQTakeCmdm3 (.ldq (.adr 1 (.lit 2) 1 0) [(tVi 4)] tQTakeCmdm3 tQTakeCmdm4 (.ldq (.adr 1 (.lit 3) 1 0) [(tVi 5)] tQTakeCmdm4 tQTakeCmdm5 (.ldq (.adr 1 (.lit 4) 1 0) [(tVi 6)] tQTakeCmdm5 tQTakeCmdm6 (.ldq (.adr 1 (.lit 5) 1 0) [(tVi 7)] tQTakeCmdm6 tQTakeCmdm7 (.ldq (.adr 1 (.lit 6) 1 0) [(tVi 8)] tQTakeCmdm7 tQTakeCmdm8 (.ldq (.adr 1 (.lit 7) 1 0) [(tVi 9)] tQTakeCmdm8 ⟨[(95, [(tSl 2 4 5), (tVi 1)]), (95, [.nilsl, (tLi 0)]), (32, tQTakeCmdb0), (3, [])], ⟨10, 0, 0, 6, 3⟩⟩ (.done (.tup [(.true, [(tSl 2 4 5), (tVi 1)]), (.true, tQTakeCmdb1)]) ⟨[(95, [(tSl 2 4 5), (tVi 1)]), (95, [(tSl 2 4 5), (tVi 1)]), (32, tQTakeCmdb1), (3, [])], ⟨10, 0, 0, 6, 3⟩⟩))))))))))))))))))) := by kernel_rfl
abbrev tQTake2b0 : List LV := [(tVi 9), (tVi 10), (tVi 11), (tVi 12), (tVi 13), (tVi 14), (tVi 15), (tVi 16)]
abbrev tQTake2m0 : Mem := ⟨[(95, [(tSl 7 14 15), (tVi 11)]), (95, [.nilsl, (tLi 0)]), (27, [(tLi 0), .nilsl, .nilsl]), (27, [(tVi 12), (tSl 8 16 17), (tSl 9 18 19)])], ⟨13, 0, 0, 20, 10⟩⟩
abbrev tQTake2m1 : Mem := ⟨[(95, [(tSl 3 6 7), (tVi 6)]), (95, [.nilsl, (tLi 0)]), (27, [(tLi 0), .nilsl, .nilsl]), (27, [(tVi 7), (tSl 4 8 9), (tSl 5 10 11)])], ⟨8, 0, 0, 12, 6⟩⟩
set_option maxRecDepth 100000 in
theorem tQTake2 : (runF ⟨tt, fns, { loops := [(5, ⟨[(7, .int .i64)], [0, 3]⟩), (12, ⟨[(10, .int .i64)], [0, 3]⟩)] }⟩ (Try.f76.body.getD .skip) Try.f76.results.toList (entry Try.f76.ntmps [.agg [.sl 0 (.var 0) (.var 1), .int .i64 (.var 0)]] [] ⟨1, 0, 0, 2, 1⟩)) =
  (.call 75 [(.agg [(tSl 0 0 1), (tVi 0)]), (.lf (tLi 2))] ⟨[(95, [(tSl 0 0 1), (tVi 0)]), (95, [.nilsl, (tLi 0)]), (27, [(tLi 0), .nilsl, .nilsl])], ⟨1, 0, 0, 2, 1⟩⟩ (.tup [(.true, [(tSl 1 2 3), (tVi 1)]), (.false, [(tVi 2)])]) ⟨[(95, [(tSl 0 0 1), (tVi 0)]), (95, [.nilsl, (tLi 0)]), (27, [(tLi 0), .nilsl, .nilsl])], ⟨3, 0, 0, 4, 2⟩⟩ (.call 75 [(.agg [(tSl 1 2 3), (tVi 1)]), (.lf (tLi 8))] ⟨[(95, [(tSl 1 2 3), (tVi 1)]), (95, [.nilsl, (tLi 0)]), (27, [(tLi 0), .nilsl, .nilsl]), (27, [(tVi 2), .nilsl, .nilsl])], ⟨3, 0, 0, 4, 2⟩⟩ (.tup [(.true, [(tSl 2 4 5), (tVi 3)]), (.false, [(tVi 4)])]) ⟨[(95, [(tSl 1 2 3), (tVi 1)]), (95, [.nilsl, (tLi 0)]), (27, [(tLi 0), .nilsl, .nilsl]), (27, [(tVi 2), .nilsl, .nilsl])], ⟨5, 0, 0, 6, 3⟩⟩ (.loop 5 ⟨[(.lit 0), (.var 3), (.var 2)], [], [], [(.var 4), (.var 5), (.lit 0), (.lit 0), (.lit 0), (.lit 0)], [(.var 2), .nil, .nil]⟩ ⟨[(95, [(tSl 2 4 5), (tVi 3)]), (95, [.nilsl, (tLi 0)]), (27, [(tLi 0), .nilsl, .nilsl]), (27, [(tVi 2), .nilsl, .nilsl])], ⟨5, 0, 0, 6, 3⟩⟩ tQTake2m1 (.br (.cmp .lss (.var 5) (.var 4)) (.call 77 [(.agg [(tSl 3 6 7), (tVi 6)])] tQTake2m1 (.tup [(.true, [(tSl 6 12 13), (tVi 8)]), (.true, tQTake2b0)]) ⟨[(95, [(tSl 3 6 7), (tVi 6)]), (95, [.nilsl, (tLi 0)]), (27, [(tLi 0), .nilsl, .nilsl]), (27, [(tVi 7), (tSl 4 8 9), (tSl 5 10 11)])], ⟨17, 0, 0, 14, 7⟩⟩ (.gen (.call ⟨(.builtin .append), #[(.tmp 37), (.tmp 39)], #[24, 24]⟩) 24 [(37, (.lf (tSl 4 8 9))), (39, (.lf (.nsl 6 0 1 1)))] ⟨[(95, [(tSl 6 12 13), (tVi 8)]), (95, [.nilsl, (tLi 0)]), (27, [(tLi 0), .nilsl, .nilsl]), (27, [(tVi 7), (tSl 4 8 9), (tSl 5 10 11)]), (95, [(tSl 6 12 13), (tVi 8)]), (32, tQTake2b0), (32, tQTake2b0)], ⟨17, 0, 0, 14, 7⟩⟩ (.some (.lf (tSl 7 14 15))) ⟨[(95, [(tSl 6 12 13), (tVi 8)]), (95, [.nilsl, (tLi 0)]), (27, [(tLi 0), .nilsl, .nilsl]), (27, [(tVi 7), (tSl 4 8 9), (tSl 5 10 11)]), (95, [(tSl 6 12 13), (tVi 8)]), (32, tQTake2b0), (32, tQTake2b0)], ⟨17, 0, 0, 16, 8⟩⟩ (.again 5 ⟨[(.op .add .i64 (.var 5) (.lit 1)), (.var 8), (.var 7)], [], [], [(.var 12), (.var 13), (.var 14), (.var 15), (.var 10), (.var 11)], [(.var 6), (.var 7), (.var 5)]⟩ ⟨[(95, [(tSl 6 12 13), (tVi 8)]), (95, [.nilsl, (tLi 0)]), (27, [(tLi 0), .nilsl, .nilsl]), (27, [(tVi 7), (tSl 7 14 15), (tSl 5 10 11)]), (95, [(tSl 6 12 13), (tVi 8)]), (32, tQTake2b0), (32, tQTake2b0)], ⟨17, 0, 0, 16, 8⟩⟩))) (.call 75 [(.agg [(tSl 3 6 7), (tVi 6)]), (.lf (tLi 7))] tQTake2m1 (.tup [(.true, [(tSl 6 12 13), (tVi 8)]), (.false, [(tVi 9)])]) ⟨[(95, [(tSl 3 6 7), (tVi 6)]), (95, [.nilsl, (tLi 0)]), (27, [(tLi 0), .nilsl, .nilsl]), (27, [(tVi 7), (tSl 4 8 9), (tSl 5 10 11)])], ⟨10, 0, 0, 14, 7⟩⟩ (.loop 12 ⟨[(.lit 0), (.var 8), (.var 7)], [], [], [(.var 12), (.var 13), (.var 8), (.var 9), (.var 10), (.var 11)], [(.var 6), (.var 4), (.var 5)]⟩ ⟨[(95, [(tSl 6 12 13), (tVi 8)]), (95, [.nilsl, (tLi 0)]), (27, [(tLi 0), .nilsl, .nilsl]), (27, [(tVi 7), (tSl 4 8 9), (tSl 5 10 11)])], ⟨10, 0, 0, 14, 7⟩⟩ tQTake2m0 (.br (.cmp .lss (.var 10) (.var 9)) (.call 75 [(.agg [(tSl 7 14 15), (tVi 11)]), (.lf (tLi 9))] tQTake2m0 (.tup [(.true, [(tSl 10 20 21), (tVi 13)]), (.false, [(tVi 14)])]) ⟨[(95, [(tSl 7 14 15), (tVi 11)]), (95, [.nilsl, (tLi 0)]), (27, [(tLi 0), .nilsl, .nilsl]), (27, [(tVi 12), (tSl 8 16 17), (tSl 9 18 19)])], ⟨15, 0, 0, 22, 11⟩⟩ (.gen (.call ⟨(.builtin .append), #[(.tmp 59), (.tmp 61)], #[25, 25]⟩) 25 [(59, (.lf (tSl 9 18 19))), (61, (.lf (.nsl 5 0 1 1)))] ⟨[(95, [(tSl 10 20 21), (tVi 13)]), (95, [.nilsl, (tLi 0)]), (27, [(tLi 0), .nilsl, .nilsl]), (27, [(tVi 12), (tSl 8 16 17), (tSl 9 18 19)]), (95, [(tSl 10 20 21), (tVi 13)]), (3, [(tVi 14)])], ⟨15, 0, 0, 22, 11⟩⟩ (.some (.lf (tSl 11 22 23))) ⟨[(95, [(tSl 10 20 21), (tVi 13)]), (95, [.nilsl, (tLi 0)]), (27, [(tLi 0), .nilsl, .nilsl]), (27, [(tVi 12), (tSl 8 16 17), (tSl 9 18 19)]), (95, [(tSl 10 20 21), (tVi 13)]), (3, [(tVi 14)])], ⟨15, 0, 0, 24, 12⟩⟩ (.again 12 ⟨[(.op .add .i64 (.var 10) (.lit 1)), (.var 13), (.var 12)], [], [], [(.var 20), (.var 21), (.var 16), (.var 17), (.var 22), (.var 23)], [(.var 10), (.var 8), (.var 11)]⟩ ⟨[(95, [(tSl 10 20 21), (tVi 13)]), (95, [.nilsl, (tLi 0)]), (27, [(tLi 0), .nilsl, .nilsl]), (27, [(tVi 12), (tSl 8 16 17), (tSl 11 22 23)]), (95, [(tSl 10 20 21), (tVi 13)]), (3, [(tVi 14)])], ⟨15, 0, 0, 24, 12⟩⟩))) (.done (.tup [(.true, [(tSl 7 14 15), (tVi 11)]), (.true, [(tVi 12), (tSl 8 16 17), (tSl 9 18 19)])]) ⟨[(95, [(tSl 7 14 15), (tVi 11)]), (95, [(tSl 7 14 15), (tVi 11)]), (27, [(tVi 12), (tSl 8 16 17), (tSl 9 18 19)]), (27, [(tVi 12), (tSl 8 16 17), (tSl 9 18 19)])], ⟨13, 0, 0, 20, 10⟩⟩)))))))) := by kernel_rfl
section
variable {C : Cfg} {ρ : Env} {pre : List Nat} {hx : HX} {L : Stack} {m m1 m2 : Mem} {args : List SV} {r r2 : SV} {t : Tree} {ty : Nat} {ps : List (Nat × SV)}
end
structure Qb (w : World) (a : Option Addr) (bs : List Int) : Prop where
  mem : Cells w a (bcells bs)
  byt : Byt bs
  len : bs.length ≤ 140737488355328
theorem cl_keep {w w' : World} {a : Option Addr} {xs : List Value} (h : Cells w a xs) (hb : ∀ k, k < w.heap.size → w'.heap[k]? = w.heap[k]?) : Cells w' a xs := (HX.cl a xs).loc w w' h fun k hk => hb k (cl_sep h k hk)
theorem Qb.keep {w w' : World} {a : Option Addr} {bs : List Int} (h : Qb w a bs) (hb : ∀ k, k < w.heap.size → w'.heap[k]? = w.heap[k]?) : Qb w' a bs := ⟨cl_keep h.mem hb, h.byt, h.len⟩
def qR (bs : List Int) (a' : Option Addr) (c' : Nat) (p : Nat × Int) : Value := .agg #[.slice a' (bs.drop p.1).length c', .int .i64 p.2]
def AtP (bs : List Int) (a a' : Option Addr) (c' : Nat) (p : Nat × Int) : Prop := p.1 ≤ bs.length ∧ Left a bs a' (bs.drop p.1) c'
theorem AtP.start {bs : List Int} {a : Option Addr} {c : Nat} (h : bs.length ≤ c) (bad : Int) : AtP bs a a c (0, bad) := ⟨Nat.zero_le _, Left.refl h⟩
theorem qnumP {w : World} {bs : List Int} {a a' : Option Addr} {c' : Nat} {p : Nat × Int} (H : Qb w a bs) (hA : AtP bs a a' c' p) : Calls Try.prog 78 #[qR bs a' c' p] w (fun e w' => ∃ a2 c2, e = .returned (.tuple #[qR bs a2 c2 (stN bs p), .int .u64 (unN bs p : Int)]) ∧ AtP bs a a2 c2 (stN bs p) ∧ Below w.heap.size w w') := by
  refine (qnum_any a' c' (bs.drop p.1) p.2 w (hA.2.1 w H.mem) (fun b q => H.byt b (List.mem_of_mem_drop q)) (by rw [List.length_drop]; have := H.len; omega) hA.2.2.1).mono ?_
  rintro e w' ⟨a2, c2, rfl, hL, hb⟩
  have e1 : bs.drop (stN bs p).1 = (readN (bs.drop p.1) p.2).1 := ixN_drop hA.1 p.2
  refine ⟨a2, c2, ?_, ⟨stN_le _ _, ?_⟩, hb⟩
  · unfold qV qR
    rw [e1]; rfl
  · rw [e1]; exact hA.2.trans hL
section
variable {C : Cfg} {ρ : Env} {pre : List Nat} {hx : HX} {L : Stack} {m m' : Mem} {args : List SV} {r : SV} {t : Tree}
theorem node_q {f : Nat} {bs : List Int} {a : Option Addr} {p' : Nat × Int} {V : Value → Value} (AS : Array Value) (vs : Option Addr → Nat → Vals) (hargs : ∀ ids, (args.map (SV.den ρ ids)).toArray = AS) (hhp : m'.hp = m.hp) (hfit : hpFits m.c m.hp.length m.hp = true) (hc : ∀ a2 c2, (ρ.add (vs a2 c2)).cnt = m'.c) (h1 : ∀ a2 c2 v, v ∈ (vs a2 c2).v → v.oneCell' = true)
    (hr : ∀ a2 c2 ids, r.den (ρ.add (vs a2 c2)) ids = V (qR bs a2 c2 p'))
    (hcall : ∀ ids w, pre <+: ids → Facts C m ρ ids hx w → Calls C.P f AS w (fun e w' => ∃ a2 c2, e = .returned (V (qR bs a2 c2 p')) ∧ AtP bs a a2 c2 p' ∧ Below w.heap.size w w'))
    (h : ∀ a2 c2, AtP bs a a2 c2 p' → t.holds C (ρ.add (vs a2 c2)) pre hx L) : (Tree.call f args m r m' t).holds C ρ pre hx L := by
  refine node_pures (fun u => ∃ a2 c2, AtP bs a a2 c2 p' ∧ u = vs a2 c2) hhp hfit ?_ (fun ids w hp hf => ?_) ?_
  · rintro u ⟨a2, c2, _, rfl⟩
    exact ⟨hc _ _, h1 _ _⟩
  · rw [hargs]
    refine (hcall ids w hp hf).mono ?_
    rintro e w' ⟨a2, c2, rfl, hA, hb⟩
    exact ⟨_, ⟨a2, c2, hA, rfl⟩, by rw [hr], hb⟩
  · rintro u ⟨a2, c2, hA, rfl⟩
    exact h a2 c2 hA
end
theorem facts_old {C : Cfg} {m : Mem} {ρ : Env} {ids : List Nat} {hx : HX} {w' : World} (hM : ∀ k, ¬ C.M k) (hf : Facts C m ρ ids hx w') : ∀ k, k < C.W.heap.size → w'.heap[k]? = C.W.heap[k]? := fun k hk => hf.chg.block k hk (hM k)
theorem qcountP {w : World} {bs : List Int} {a a' : Option Addr} {c' : Nat} {p : Nat × Int} (most : Int) (hm : I64 most) (H : Qb w a bs) (hA : AtP bs a a' c' p) : Calls Try.prog 75 #[qR bs a' c' p, .int .i64 most] w (fun e w' => ∃ a2 c2, e = .returned (.tuple #[qR bs a2 c2 (stC most bs p), .int .i64 (vaC most bs p : Int)]) ∧ AtP bs a a2 c2 (stC most bs p) ∧ Below w.heap.size w w') := by
  have hu := readN_u64 (l := bs.drop p.1) (fun b q => H.byt b (List.mem_of_mem_drop q)) p.2
  have hu' : unN bs p < 2 ^ 64 := hu
  unfold I64 at hm
  refine calls_at (tab_ok _) Try.func75 rfl tQCount (ρ := ⟨[p.2, most], [], [], [(bs.drop p.1).length, c'], [a']⟩) (ids := []) (hx := HX.nil) rfl (Facts.initP rfl oneNil) ?_
  refine node_q (V := fun v => .tuple #[v, .int .u64 (unN bs p : Int)]) #[qR bs a' c' p] (fun a2 c2 => ⟨[(stN bs p).2, (unN bs p : Int)], [], [], [(bs.drop (stN bs p).1).length, c2], [a2]⟩) (by intros; kernel_rfl) (by intros; kernel_rfl) (by intros; kernel_rfl) (by intros; kernel_rfl) (fun _ _ => oneNil) (by intros; kernel_rfl) (fun ids w2 hp hf => qnumP (H.keep (facts_old (fun _ q => q) hf)) hA) ?_
  intro a2 c2 hA2
  have est : (stC most bs p).1 = (stN bs p).1 := rfl
  have done : ∀ {v : SV} {m : Mem} {ρ : Env} {L : Stack} (e : (stC most bs p).2 = (readC most (bs.drop p.1) p.2).2.1), (∀ ids, v.den ρ ids = .tuple #[.agg #[.slice a2 (bs.drop (stN bs p).1).length c2, .int .i64 (stC most bs p).2], .int .i64 (vaC most bs p : Int)]) → (Tree.done v m).holds ⟨Try.prog, w, fun _ => False, fun e w' => ∃ a2 c2, e = .returned (.tuple #[qR bs a2 c2 (stC most bs p), .int .i64 (vaC most bs p : Int)]) ∧ AtP bs a a2 c2 (stC most bs p) ∧ Below w.heap.size w w'⟩ ρ [] HX.nil L := fun _ hv ids w2 hp hf => ⟨a2, c2, by rw [hv]; rfl, ⟨stC_le _ _ _, by rw [est]; exact hA2.2⟩, hf.chg.below⟩
  have big : ∀ {X : Int}, X = ((max 0 most).toNat : Int) → (decide ((unN bs p : Int) > X) = decide ((max 0 most).toNat < unN bs p)) := fun e => by rw [e]; exact decide_eq_decide.2 (by omega)
  have ccT : (stN bs p).2 = 0 → (max 0 most).toNat < unN bs p → (stC most bs p).2 = 12 ∧ vaC most bs p = 0 := fun h1 h2 => by
    unfold stC vaC readC
    dsimp only
    rw [if_pos (show (max 0 most).toNat < (readN (bs.drop p.1) p.2).2.2 from h2)]
    exact ⟨rfl, rfl⟩
  have ccF : ¬ (max 0 most).toNat < unN bs p → (stC most bs p).2 = (stN bs p).2 ∧ vaC most bs p = unN bs p := fun h2 => by
    unfold stC vaC readC
    dsimp only
    rw [if_neg (show ¬ (max 0 most).toNat < (readN (bs.drop p.1) p.2).2.2 from h2)]
    exact ⟨rfl, rfl⟩
  have badz : (stN bs p).2 ≠ 0 → unN bs p = 0 := fun h => by
    unfold stN at h
    unfold unN
    dsimp only at h
    by_cases q : (readN (bs.drop p.1) p.2).2.2 = 0
    · exact q
    · exfalso
      apply h
      revert q
      unfold readN
      split
      · intro q; exact absurd rfl q
      · split
        · intro q; exact absurd rfl q
        · split
          · intro q; exact absurd rfl q
          · split
            · intro q; exact absurd rfl q
            · split
              · intro q; exact absurd rfl q
              · intro _; rfl
  have wN : IntKind.i64.wrap ((unN bs p : Nat) : Int) = ((unN bs p : Nat) : Int) ∨ (max 0 most).toNat < unN bs p := by
    by_cases q : (max 0 most).toNat < unN bs p
    · exact .inr q
    · exact .inl (wrap_i64 (by omega))
  have arm : ∀ {X : Int} {t1 t2 t3 : Tree} {ρ : Env} {m : Mem} {L : Stack} {v1 v2 v3 : SV} {b1 b2 : BE}, True := trivial
  by_cases hneg : most < 0
  · refine br_t (show decide (most < 0) = true from decide_eq_true hneg) ?_
    have hX : IntKind.u64.wrap 0 = ((max 0 most).toNat : Int) := by rw [show (max 0 most).toNat = 0 by omega]; rfl
    by_cases hz : (stN bs p).2 = 0
    · refine br_t (show ((stN bs p).2 == 0) = true by simp [hz]) ?_
      by_cases hb : (max 0 most).toNat < unN bs p
      · refine br_t (show decide ((unN bs p : Int) > IntKind.u64.wrap 0) = true by rw [big hX]; exact decide_eq_true hb) ?_
        obtain ⟨q1, q2⟩ := ccT hz hb
        exact done rfl (fun ids => by rw [q1, q2]; rfl)
      · refine br_f (show decide ((unN bs p : Int) > IntKind.u64.wrap 0) = false by rw [big hX]; exact decide_eq_false hb) ?_
        obtain ⟨q1, q2⟩ := ccF hb
        refine done rfl (fun ids => ?_)
        rw [q1, q2]
        show Value.tuple #[.agg #[.slice a2 (bs.drop (stN bs p).1).length c2, .int .i64 (stN bs p).2], .int .i64 (IntKind.i64.wrap ((unN bs p : Nat) : Int))] = _
        rw [wN.resolve_right hb]
    · refine br_f (show ((stN bs p).2 == 0) = false by simpa using hz) ?_
      have hb : ¬ (max 0 most).toNat < unN bs p := by rw [badz hz]; omega
      obtain ⟨q1, q2⟩ := ccF hb
      refine done rfl (fun ids => ?_)
      rw [q1, q2]
      show Value.tuple #[.agg #[.slice a2 (bs.drop (stN bs p).1).length c2, .int .i64 (stN bs p).2], .int .i64 (IntKind.i64.wrap ((unN bs p : Nat) : Int))] = _
      rw [wN.resolve_right hb]
  · refine br_f (show decide (most < 0) = false from decide_eq_false hneg) ?_
    have hX : IntKind.u64.wrap most = ((max 0 most).toNat : Int) := by rw [IntWalk.u64_in _ (by omega)]; omega
    by_cases hz : (stN bs p).2 = 0
    · refine br_t (show ((stN bs p).2 == 0) = true by simp [hz]) ?_
      by_cases hb : (max 0 most).toNat < unN bs p
      · refine br_t (show decide ((unN bs p : Int) > IntKind.u64.wrap most) = true by rw [big hX]; exact decide_eq_true hb) ?_
        obtain ⟨q1, q2⟩ := ccT hz hb
        exact done rfl (fun ids => by rw [q1, q2]; rfl)
      · refine br_f (show decide ((unN bs p : Int) > IntKind.u64.wrap most) = false by rw [big hX]; exact decide_eq_false hb) ?_
        obtain ⟨q1, q2⟩ := ccF hb
        refine done rfl (fun ids => ?_)
        rw [q1, q2]
        show Value.tuple #[.agg #[.slice a2 (bs.drop (stN bs p).1).length c2, .int .i64 (stN bs p).2], .int .i64 (IntKind.i64.wrap ((unN bs p : Nat) : Int))] = _
        rw [wN.resolve_right hb]
    · refine br_f (show ((stN bs p).2 == 0) = false by simpa using hz) ?_
      have hb : ¬ (max 0 most).toNat < unN bs p := by rw [badz hz]; omega
      obtain ⟨q1, q2⟩ := ccF hb
      refine done rfl (fun ids => ?_)
      rw [q1, q2]
      show Value.tuple #[.agg #[.slice a2 (bs.drop (stN bs p).1).length c2, .int .i64 (stN bs p).2], .int .i64 (IntKind.i64.wrap ((unN bs p : Nat) : Int))] = _
      rw [wN.resolve_right hb]
def vnN (bs : List Int) (k : Nat) (p : Nat × Int) : List Int := (List.range k).map fun j => vaN bs (itN (stN bs) j p)
theorem vnN_step (bs : List Int) (k : Nat) (p : Nat × Int) : vnN bs (k + 1) p = vnN bs k p ++ [vaN bs (itN (stN bs) k p)] := by unfold vnN; rw [List.range_succ, List.map_append]; rfl
theorem vnN_len (bs : List Int) (k : Nat) (p : Nat × Int) : (vnN bs k p).length = k := by unfold vnN; rw [List.length_map, List.length_range]
theorem ints_get {ns : List Int} {i : Nat} {x : Int} (h : ns[i]? = some x) : ∀ j u, [Value.int .i64 x][j]? = some u → (ns.map (Value.int .i64))[i * 1 + j]? = some u := fun j u hj => by
  cases j with
  | zero =>
    simp only [List.getElem?_cons_zero, Option.some.injEq] at hj
    subst hj
    rw [Nat.mul_one, Nat.add_zero, List.getElem?_map, h]; rfl
  | succ j => simp at hj
theorem nrow_ldq {an : Option Addr} {n c : Nat} {ns : List Int} {w : World} (hX : (nrow an n c ns).X w) {i : Nat} {x : Int} (h : ns[i]? = some x) (N : Nat → Prop) (hN : ∀ k, (nrow an n c ns).F k → ¬ N k) : CellsAt w (.pointer (some (((an.getD ⟨0, 0, none⟩).add (i * 1)).add 0))) [.int .i64 x] N := by
  refine (cl_elt (rw_cells hX) [.int .i64 x] (ints_get h) (by simp)).2 N ?_
  have hc : c ≠ 0 := fun q => by
    rcases hX with ⟨_, _, h3⟩ | ⟨h3, _⟩
    · have : ns = [] := by simpa using h3
      rw [this] at h; simp at h
    · exact h3 q
  obtain ⟨g, _, rfl, _⟩ := rw_open hX hc
  exact hN g ⟨hc, rfl⟩
def QcI (W : World) (a : Option Addr) (bs : List Int) (p : Nat × Int) (vs : Vals) (hx : HX) : Prop := ∃ (k : Nat) (an : Option Addr) (c : Nat) (al : Option Addr) (cl : Nat), k ≤ 8 ∧ (∀ j, c ≠ 0 → abk an = some j → W.heap.size ≤ j) ∧ (c ≠ 0 → an.isSome = true) ∧ (k ≠ 0 → c ≠ 0) ∧ AtP bs a al cl (itN (stN bs) k p) ∧
  vs = ⟨[(itN (stN bs) k p).2], [], [], [k, c, (bs.drop (itN (stN bs) k p).1).length, cl], [an, al]⟩ ∧ hx = HX.nil.and (nrow an k c (vnN bs k p))
theorem or_fresh {W : World} {a a' : Option Addr} {cap : Nat} {F : Nat → Prop} (h : ∀ j, cap ≠ 0 → abk a = some j → W.heap.size ≤ j) (hor : (cap ≠ 0 ∧ abk a' = abk a) ∨ ∃ g, abk a' = some g ∧ W.heap.size ≤ g ∧ ¬ F g) : ∀ j, abk a' = some j → W.heap.size ≤ j := fun j hj => by
  rcases hor with ⟨q1, q2⟩ | ⟨g, q1, q2, _⟩
  · exact h j q1 (q2 ▸ hj)
  · rw [q1] at hj; cases hj; exact q2
theorem or_some {W : World} {a a' : Option Addr} {cap : Nat} {F : Nat → Prop} (h : cap ≠ 0 → a.isSome = true) (hor : (cap ≠ 0 ∧ abk a' = abk a) ∨ ∃ g, abk a' = some g ∧ W.heap.size ≤ g ∧ ¬ F g) : a'.isSome = true := by
  cases a' with
  | some x => rfl
  | none =>
    rcases hor with ⟨q1, q2⟩ | ⟨g, q1, _⟩
    · have := h q1
      cases a with
      | none => cases this
      | some y => cases q2
    · cases q1
set_option maxHeartbeats 4000000 in
theorem qtakecmd {w : World} {bs : List Int} {a a' : Option Addr} {c' : Nat} {p : Nat × Int} (H : Qb w a bs) (hA : AtP bs a a' c' p) : Calls Try.prog 77 #[qR bs a' c' p] w (fun e w' => ∃ a2 c2, e = .returned (.tuple #[qR bs a2 c2 (tcS bs p), .agg (tcC bs p).cells.toArray]) ∧ AtP bs a a2 c2 (tcS bs p) ∧ Below w.heap.size w w') := by
  refine calls_at (tab_ok _) Try.func77 rfl tQTakeCmd (ρ := ⟨[p.2], [], [], [(bs.drop p.1).length, c'], [a']⟩) (ids := []) (hx := HX.nil) rfl (Facts.initP rfl oneNil) ?_
  refine loop_i (QcI w a bs p) (fun vs => 8 - vs.n.headD 0) (fun ids w2 hp hf => ⟨HX.nil.and (nrow (some ⟨idAt ids 3, 0, none⟩) 0 0 []), ⟨⟨trivial, HX.rw_nil _ _ _ _⟩, fun b hb => hb.elim (fun h => h.elim) (fun h => absurd rfl h.1)⟩, 0, some ⟨idAt ids 3, 0, none⟩, 0, a', c', Nat.zero_le _, fun j q => absurd rfl q, fun q => absurd rfl q, fun q => absurd rfl q, hA, rfl, rfl⟩) ?_
  rintro vs hx' hcnt ⟨k, an, c, al, cl, hk, hfr, hsm, hkc, hAk, rfl, rfl⟩
  by_cases hlt : k < 8
  · refine br_t (show decide ((k : Int) < 8) = true from decide_eq_true (by omega)) ?_
    obtain ⟨pk, epk⟩ : ∃ x, x = itN (stN bs) k p := ⟨_, rfl⟩
    obtain ⟨pn, epn⟩ : ∃ x, x = itN (stN bs) (k + 1) p := ⟨_, rfl⟩
    have hpn : stN bs pk = pn := by rw [epn, epk]; rfl
    have hns := vnN_step bs k p
    obtain ⟨ns, ens⟩ : ∃ x, x = vnN bs k p := ⟨_, rfl⟩
    rw [← epk, ← ens] at hns
    rw [← epk, ← ens]
    rw [← epk] at hAk
    have hu : unN bs pk < 2 ^ 64 := readN_u64 (l := bs.drop pk.1) (fun b q => H.byt b (List.mem_of_mem_drop q)) pk.2
    obtain ⟨u, eu⟩ : ∃ x, x = unN bs pk := ⟨_, rfl⟩
    rw [← eu] at hu
    refine node_q (bs := bs) (a := a) (p' := pn) (V := fun v => .tuple #[v, .int .u64 (u : Int)]) #[qR bs al cl pk] (fun a2 c2 => ⟨[pn.2, (u : Int)], [], [], [(bs.drop pn.1).length, c2], [a2]⟩) (by intros; kernel_rfl) (by intros; kernel_rfl) (by intros; kernel_rfl) (by intros; kernel_rfl) (fun _ _ => oneNil) (by intros; kernel_rfl) (fun ids w2 hp hf => by rw [eu, ← hpn]; exact qnumP (H.keep (facts_old (fun _ q => q) hf)) hAk) ?_
    intro a3 c3 hA3
    refine node_val ⟨[unfoldN u], [], [], [], []⟩ (fun w => runfold_any hu w) (by intros; kernel_rfl) (by intros; kernel_rfl) (by intros; kernel_rfl) (by intros; kernel_rfl) (by intros; kernel_rfl) oneNil ?_
    refine node_pushs (sz := 1) (vs := [.int .i64 (unfoldN u)]) rfl Try.underlying25 info_int1 rfl (by decide) an k c (ns.map (Value.int .i64)) 5 (by intros; kernel_rfl) (by intros; kernel_rfl) rfl (by intros; kernel_rfl) rfl (by simp [Value.oneCell']) (fun j _ _ q => q.elim) (fun j h1 h2 => .inl (hfr j h1 h2)) (by unfold maxLen; omega) (by omega) (by intros; kernel_rfl) (by intros; kernel_rfl) (by intros; kernel_rfl) (by intros; kernel_rfl) ?_
    intro b1 d1 hd1 hf1 hor1
    have hv : vaN bs pk = unfoldN u := by rw [eu]; rfl
    rw [ncells_snoc, ← hv, ← hns]
    intro ids w2 hp hf
    refine ⟨_, ⟨hf.x, hf.sep⟩, _, rfl, ⟨k + 1, b1, d1, a3, c3, by omega, fun j _ h2 => or_fresh hfr hor1 j h2, fun _ => or_some hsm hor1, fun _ => hd1, by rw [← epn]; exact hA3, ?_, rfl⟩, ?_⟩
    · rw [← epn]; rfl
    · show 8 - (k + 1) < 8 - k
      omega
  refine br_f (show decide ((k : Int) < 8) = false from decide_eq_false (by omega)) ?_
  obtain rfl : k = 8 := by omega
  have h8 := hkc (by decide)
  have hs := hsm h8
  have hl8 := vnN_len bs 8 p
  have hS : itN (stN bs) 8 p = tcS bs p := rfl
  have hg : ∀ i : Nat, i < 8 → (vnN bs 8 p)[i]? = some (vaN bs (itN (stN bs) i p)) := fun i hi => by
    unfold vnN
    rw [List.getElem?_map, List.getElem?_range hi]; rfl
  have hC : tcC bs p = ⟨vaN bs (itN (stN bs) 0 p), vaN bs (itN (stN bs) 1 p), vaN bs (itN (stN bs) 2 p), ⟨vaN bs (itN (stN bs) 3 p), vaN bs (itN (stN bs) 4 p), vaN bs (itN (stN bs) 5 p), vaN bs (itN (stN bs) 6 p), vaN bs (itN (stN bs) 7 p)⟩⟩ := rfl
  rw [hC]
  rw [hS] at hAk ⊢
  obtain ⟨ps, eps⟩ : ∃ x, x = tcS bs p := ⟨_, rfl⟩
  rw [← eps] at hAk ⊢
  obtain ⟨x0, ex0⟩ : ∃ x, x = vaN bs (itN (stN bs) 0 p) := ⟨_, rfl⟩
  have hx0 := hg 0 (by decide)
  rw [← ex0] at hx0 ⊢
  obtain ⟨x1, ex1⟩ : ∃ x, x = vaN bs (itN (stN bs) 1 p) := ⟨_, rfl⟩
  have hx1 := hg 1 (by decide)
  rw [← ex1] at hx1 ⊢
  obtain ⟨x2, ex2⟩ : ∃ x, x = vaN bs (itN (stN bs) 2 p) := ⟨_, rfl⟩
  have hx2 := hg 2 (by decide)
  rw [← ex2] at hx2 ⊢
  obtain ⟨x3, ex3⟩ : ∃ x, x = vaN bs (itN (stN bs) 3 p) := ⟨_, rfl⟩
  have hx3 := hg 3 (by decide)
  rw [← ex3] at hx3 ⊢
  obtain ⟨x4, ex4⟩ : ∃ x, x = vaN bs (itN (stN bs) 4 p) := ⟨_, rfl⟩
  have hx4 := hg 4 (by decide)
  rw [← ex4] at hx4 ⊢
  obtain ⟨x5, ex5⟩ : ∃ x, x = vaN bs (itN (stN bs) 5 p) := ⟨_, rfl⟩
  have hx5 := hg 5 (by decide)
  rw [← ex5] at hx5 ⊢
  obtain ⟨x6, ex6⟩ : ∃ x, x = vaN bs (itN (stN bs) 6 p) := ⟨_, rfl⟩
  have hx6 := hg 6 (by decide)
  rw [← ex6] at hx6 ⊢
  obtain ⟨x7, ex7⟩ : ∃ x, x = vaN bs (itN (stN bs) 7 p) := ⟨_, rfl⟩
  have hx7 := hg 7 (by decide)
  rw [← ex7] at hx7 ⊢
  obtain ⟨ns, ens⟩ : ∃ x, x = vnN bs 8 p := ⟨_, rfl⟩
  rw [← ens]
  rw [← ens] at hx0
  rw [← ens] at hx1
  rw [← ens] at hx2
  rw [← ens] at hx3
  rw [← ens] at hx4
  rw [← ens] at hx5
  rw [← ens] at hx6
  rw [← ens] at hx7
  refine need_i ⟨hs, (show (0 : Int) ≤ 0 by omega), (show (0 : Int) < (8 : Int) by omega)⟩ ?_
  refine need_i ⟨hs, (show (0 : Int) ≤ 1 by omega), (show (1 : Int) < (8 : Int) by omega)⟩ ?_
  refine need_i ⟨hs, (show (0 : Int) ≤ 2 by omega), (show (2 : Int) < (8 : Int) by omega)⟩ ?_
  refine need_i ⟨hs, (show (0 : Int) ≤ 3 by omega), (show (3 : Int) < (8 : Int) by omega)⟩ ?_
  refine need_i ⟨hs, (show (0 : Int) ≤ 4 by omega), (show (4 : Int) < (8 : Int) by omega)⟩ ?_
  refine need_i ⟨hs, (show (0 : Int) ≤ 5 by omega), (show (5 : Int) < (8 : Int) by omega)⟩ ?_
  refine need_i ⟨hs, (show (0 : Int) ≤ 6 by omega), (show (6 : Int) < (8 : Int) by omega)⟩ ?_
  refine need_i ⟨hs, (show (0 : Int) ≤ 7 by omega), (show (7 : Int) < (8 : Int) by omega)⟩ ?_
  refine node_ldq ⟨[x0], [], [], [], []⟩ (fun ids w2 hp hf => nrow_ldq (i := 0) hf.x.2 hx0 _ (fun k h q => q (.inr h))) (fun ids w2 hf => envUp hf (by kernel_rfl) oneNil) ?_
  refine node_ldq ⟨[x1], [], [], [], []⟩ (fun ids w2 hp hf => nrow_ldq (i := 1) hf.x.2 hx1 _ (fun k h q => q (.inr h))) (fun ids w2 hf => envUp hf (by kernel_rfl) oneNil) ?_
  refine node_ldq ⟨[x2], [], [], [], []⟩ (fun ids w2 hp hf => nrow_ldq (i := 2) hf.x.2 hx2 _ (fun k h q => q (.inr h))) (fun ids w2 hf => envUp hf (by kernel_rfl) oneNil) ?_
  refine node_ldq ⟨[x3], [], [], [], []⟩ (fun ids w2 hp hf => nrow_ldq (i := 3) hf.x.2 hx3 _ (fun k h q => q (.inr h))) (fun ids w2 hf => envUp hf (by kernel_rfl) oneNil) ?_
  refine node_ldq ⟨[x4], [], [], [], []⟩ (fun ids w2 hp hf => nrow_ldq (i := 4) hf.x.2 hx4 _ (fun k h q => q (.inr h))) (fun ids w2 hf => envUp hf (by kernel_rfl) oneNil) ?_
  refine node_ldq ⟨[x5], [], [], [], []⟩ (fun ids w2 hp hf => nrow_ldq (i := 5) hf.x.2 hx5 _ (fun k h q => q (.inr h))) (fun ids w2 hf => envUp hf (by kernel_rfl) oneNil) ?_
  refine node_ldq ⟨[x6], [], [], [], []⟩ (fun ids w2 hp hf => nrow_ldq (i := 6) hf.x.2 hx6 _ (fun k h q => q (.inr h))) (fun ids w2 hf => envUp hf (by kernel_rfl) oneNil) ?_
  refine node_ldq ⟨[x7], [], [], [], []⟩ (fun ids w2 hp hf => nrow_ldq (i := 7) hf.x.2 hx7 _ (fun k h q => q (.inr h))) (fun ids w2 hf => envUp hf (by kernel_rfl) oneNil) ?_
  intro ids w2 hp hf
  exact ⟨al, cl, by kernel_rfl, hAk, hf.chg.below⟩
def QtI1 (W : World) (a : Option Addr) (bs : List Int) (kd : Int) (n : Nat) (q : Nat × Int) (vs : Vals) (hx : HX) : Prop := ∃ (k : Nat) (al : Option Addr) (cl : Nat) (a1 : Option Addr) (c1 : Nat), k ≤ n ∧ (∀ j, c1 ≠ 0 → abk a1 = some j → W.heap.size ≤ j) ∧ AtP bs a al cl (itN (tcS bs) k q) ∧
  vs = ⟨[(k : Int), (itN (tcS bs) k q).2, kd], [], [], [(bs.drop (itN (tcS bs) k q).1).length, cl, k, c1, 0, 0], [al, a1, none]⟩ ∧ hx = HX.nil.and (crow a1 k c1 (csN bs k q))
def QtI2 (W : World) (a : Option Addr) (bs : List Int) (kd : Int) (n : Nat) (cs : List CmD) (a1 : Option Addr) (c1 : Nat) (m : Nat) (q : Nat × Int) (vs : Vals) (hx : HX) : Prop := ∃ (k : Nat) (al : Option Addr) (cl : Nat) (a2 : Option Addr) (c2 : Nat), k ≤ m ∧ (∀ j, c2 ≠ 0 → abk a2 = some j → W.heap.size ≤ j ∧ ¬ (HX.nil.and (crow a1 n c1 cs)).F j) ∧ AtP bs a al cl (itN (stC 9 bs) k q) ∧
  vs = ⟨[(k : Int), (itN (stC 9 bs) k q).2, kd], [], [], [(bs.drop (itN (stC 9 bs) k q).1).length, cl, n, c1, k, c2], [al, a1, a2]⟩ ∧ hx = (HX.nil.and (crow a1 n c1 cs)).and (nrow a2 k c2 (nsN bs k q))
def QTk (w : World) (a : Option Addr) (bs : List Int) (p : Nat × Int) (e : Ending) (w' : World) : Prop := ∃ al cl a1 c1 a2 c2, e = .returned (.tuple #[qR bs al cl (rdS bs p), vlV (rdV bs p) a1 c1 a2 c2]) ∧ AtP bs a al cl (rdS bs p) ∧ (vlX (rdV bs p) a1 a2).X w' ∧ (∀ k, (vlX (rdV bs p) a1 a2).F k → w.heap.size ≤ k) ∧ Below w.heap.size w w'
set_option maxHeartbeats 4000000 in
theorem qtake {w : World} {bs : List Int} {a a' : Option Addr} {c' : Nat} {p : Nat × Int} (H : Qb w a bs) (hA : AtP bs a a' c' p) : Calls Try.prog 76 #[qR bs a' c' p] w (QTk w a bs p) := by
  refine calls_at (tab_ok _) Try.func76 rfl tQTake2 (ρ := ⟨[p.2], [], [], [(bs.drop p.1).length, c'], [a']⟩) (ids := []) (hx := HX.nil) rfl (Facts.initP rfl oneNil) ?_
  obtain ⟨kd, ekd⟩ : ∃ x : Nat, x = vaC 2 bs p := ⟨_, rfl⟩
  obtain ⟨q1, eq1⟩ : ∃ x, x = stC 2 bs p := ⟨_, rfl⟩
  obtain ⟨n, en⟩ : ∃ x : Nat, x = vaC 8 bs q1 := ⟨_, rfl⟩
  obtain ⟨q2, eq2⟩ : ∃ x, x = stC 8 bs q1 := ⟨_, rfl⟩
  have hn8 : (n : Int) ≤ 8 := by rw [en]; exact vaC_le (by decide) _ _
  have i64 : ∀ {x : Int}, 0 ≤ x ∧ x ≤ 9 → I64 x := fun h => by unfold I64; omega
  refine node_q (bs := bs) (a := a) (p' := q1) (V := fun v => .tuple #[v, .int .i64 (kd : Int)]) #[qR bs a' c' p, .int .i64 2] (fun a2 c2 => ⟨[q1.2, (kd : Int)], [], [], [(bs.drop q1.1).length, c2], [a2]⟩) (by intros; kernel_rfl) (by intros; kernel_rfl) (by intros; kernel_rfl) (by intros; kernel_rfl) (fun _ _ => oneNil) (by intros; kernel_rfl) (fun ids w2 hp hf => by rw [ekd, eq1]; exact qcountP 2 (i64 (by omega)) (H.keep (facts_old (fun _ q => q) hf)) hA) ?_
  intro l1 d1 hA1
  refine node_q (bs := bs) (a := a) (p' := q2) (V := fun v => .tuple #[v, .int .i64 (n : Int)]) #[qR bs l1 d1 q1, .int .i64 8] (fun a2 c2 => ⟨[q2.2, (n : Int)], [], [], [(bs.drop q2.1).length, c2], [a2]⟩) (by intros; kernel_rfl) (by intros; kernel_rfl) (by intros; kernel_rfl) (by intros; kernel_rfl) (fun _ _ => oneNil) (by intros; kernel_rfl) (fun ids w2 hp hf => by rw [en, eq2]; exact qcountP 8 (i64 (by omega)) (H.keep (facts_old (fun _ q => q) hf)) hA1) ?_
  intro l2 d2 hA2
  refine loop_i (QtI1 w a bs kd n q2) (fun vs => n - (vs.i.headD 0).toNat) (fun ids w2 hp hf => ⟨HX.nil.and (crow none 0 0 []), ⟨⟨trivial, HX.rw_nil _ _ _ _⟩, fun b hb => hb.elim (fun h => h.elim) (fun h => absurd rfl h.1)⟩, 0, l2, d2, none, 0, Nat.zero_le _, fun j q => absurd rfl q, hA2, rfl, rfl⟩) ?_
  rintro vs hx' hcnt ⟨k, al, cl, a1, c1, hk, hfr, hAk, rfl, rfl⟩
  by_cases hlt : k < n
  · refine br_t (show decide ((k : Int) < (n : Int)) = true from decide_eq_true (by omega)) ?_
    have hwk : IntKind.i64.wrap ((k : Int) + 1) = ((k + 1 : Nat) : Int) := by rw [wrap_i64 (by omega)]; omega
    obtain ⟨qk, eqk⟩ : ∃ x, x = itN (tcS bs) k q2 := ⟨_, rfl⟩
    obtain ⟨qn, eqn⟩ : ∃ x, x = itN (tcS bs) (k + 1) q2 := ⟨_, rfl⟩
    have hqn : tcS bs qk = qn := by rw [eqn, eqk]; rfl
    obtain ⟨c, ec⟩ : ∃ c, c = tcC bs qk := ⟨_, rfl⟩
    have hcs := csN_step bs k q2
    obtain ⟨cs, ecs⟩ : ∃ x, x = csN bs k q2 := ⟨_, rfl⟩
    rw [← eqk, ← ec, ← ecs] at hcs
    rw [← eqk, ← ecs]
    rw [← eqk] at hAk
    refine node_q (bs := bs) (a := a) (p' := qn) (V := fun v => .tuple #[v, .agg c.cells.toArray]) #[qR bs al cl qk] (fun a2 c2 => ⟨qn.2 :: c.is, [], [], [(bs.drop qn.1).length, c2], [a2]⟩) (by intros; kernel_rfl) (by intros; kernel_rfl) (by intros; kernel_rfl) (by intros; kernel_rfl) (fun _ _ => oneNil) (by intros; kernel_rfl) (fun ids w2 hp hf => by rw [ec, ← hqn]; exact qtakecmd (H.keep (facts_old (fun _ q => q) hf)) hAk) ?_
    intro l3 d3 hA3
    refine node_pushs (sz := 8) (vs := c.cells) rfl Try.underlying24 info_cmd rfl (by decide) a1 k c1 (ccells cs) 6 (by intros; kernel_rfl) (by intros; kernel_rfl) rfl (by intros; kernel_rfl) rfl (cmd_one c) (fun j _ _ q => q.elim) (fun j h1 h2 => .inl (hfr j h1 h2)) (by unfold maxLen; omega) (by omega) (by intros; kernel_rfl) (by intros; kernel_rfl) (by intros; kernel_rfl) (by intros; kernel_rfl) ?_
    intro b1 e1 hd1 hf1 hor1
    rw [ccells_snoc, ← hcs]
    intro ids w2 hp hf
    refine ⟨_, ⟨hf.x, hf.sep⟩, _, rfl, ⟨k + 1, l3, d3, b1, e1, by omega, fun j _ h2 => or_fresh hfr hor1 j h2, by rw [← eqn]; exact hA3, ?_, rfl⟩, ?_⟩
    · rw [← eqn, ← hwk]; rfl
    · show n - (IntKind.i64.wrap ((k : Int) + 1)).toNat < n - ((k : Int)).toNat
      rw [hwk]; omega
  refine br_f (show decide ((k : Int) < (n : Int)) = false from decide_eq_false (by omega)) ?_
  obtain rfl : k = n := by omega
  obtain ⟨q3, eq3⟩ : ∃ x, x = itN (tcS bs) k q2 := ⟨_, rfl⟩
  obtain ⟨cs, ecs⟩ : ∃ x, x = csN bs k q2 := ⟨_, rfl⟩
  rw [← eq3, ← ecs]
  rw [← eq3] at hAk
  obtain ⟨m, em⟩ : ∃ x : Nat, x = vaC 7 bs q3 := ⟨_, rfl⟩
  obtain ⟨q4, eq4⟩ : ∃ x, x = stC 7 bs q3 := ⟨_, rfl⟩
  have hm7 : (m : Int) ≤ 7 := by rw [em]; exact vaC_le (by decide) _ _
  refine node_q (bs := bs) (a := a) (p' := q4) (V := fun v => .tuple #[v, .int .i64 (m : Int)]) #[qR bs al cl q3, .int .i64 7] (fun a2 c2 => ⟨[q4.2, (m : Int)], [], [], [(bs.drop q4.1).length, c2], [a2]⟩) (by intros; kernel_rfl) (by intros; kernel_rfl) (by intros; kernel_rfl) (by intros; kernel_rfl) (fun _ _ => oneNil) (by intros; kernel_rfl) (fun ids w2 hp hf => by rw [em, eq4]; exact qcountP 7 (i64 (by omega)) (H.keep (facts_old (fun _ q => q) hf)) hAk) ?_
  intro l4 d4 hA4
  refine loop_i (QtI2 w a bs kd k cs a1 c1 m q4) (fun vs => m - (vs.i.headD 0).toNat) (fun ids w2 hp hf => ⟨(HX.nil.and (crow a1 k c1 cs)).and (nrow none 0 0 []), ⟨⟨hf.x, HX.rw_nil _ _ _ _⟩, fun b hb => hb.elim (hf.sep b) (fun h => absurd rfl h.1)⟩, 0, l4, d4, none, 0, Nat.zero_le _, fun j q => absurd rfl q, hA4, rfl, rfl⟩) ?_
  rintro vs hx' hcnt2 ⟨k2, al2, cl2, a2, c2, hk2, hfr2, hAk2, rfl, rfl⟩
  by_cases hlt2 : k2 < m
  · refine br_t (show decide ((k2 : Int) < (m : Int)) = true from decide_eq_true (by omega)) ?_
    have hwk : IntKind.i64.wrap ((k2 : Int) + 1) = ((k2 + 1 : Nat) : Int) := by rw [wrap_i64 (by omega)]; omega
    obtain ⟨qk, eqk⟩ : ∃ x, x = itN (stC 9 bs) k2 q4 := ⟨_, rfl⟩
    obtain ⟨qn, eqn⟩ : ∃ x, x = itN (stC 9 bs) (k2 + 1) q4 := ⟨_, rfl⟩
    have hqn : stC 9 bs qk = qn := by rw [eqn, eqk]; rfl
    obtain ⟨c, ec⟩ : ∃ c : Nat, c = vaC 9 bs qk := ⟨_, rfl⟩
    have hns := nsN_step bs k2 q4
    obtain ⟨ns, ens⟩ : ∃ x, x = nsN bs k2 q4 := ⟨_, rfl⟩
    rw [← eqk, ← ec, ← ens] at hns
    rw [← eqk, ← ens]
    rw [← eqk] at hAk2
    refine node_q (bs := bs) (a := a) (p' := qn) (V := fun v => .tuple #[v, .int .i64 (c : Int)]) #[qR bs al2 cl2 qk, .int .i64 9] (fun a2 c2 => ⟨[qn.2, (c : Int)], [], [], [(bs.drop qn.1).length, c2], [a2]⟩) (by intros; kernel_rfl) (by intros; kernel_rfl) (by intros; kernel_rfl) (by intros; kernel_rfl) (fun _ _ => oneNil) (by intros; kernel_rfl) (fun ids w2 hp hf => by rw [ec, ← hqn]; exact qcountP 9 (i64 (by omega)) (H.keep (facts_old (fun _ q => q) hf)) hAk2) ?_
    intro l3 d3 hA3
    refine node_pushs (sz := 1) (vs := [.int .i64 (c : Int)]) rfl Try.underlying25 info_int1 rfl (by decide) a2 k2 c2 (ns.map (Value.int .i64)) 5 (by intros; kernel_rfl) (by intros; kernel_rfl) rfl (by intros; kernel_rfl) rfl (by simp [Value.oneCell']) (fun j h1 h2 => (hfr2 j h1 h2).2) (fun j h1 h2 => .inl (hfr2 j h1 h2).1) (by unfold maxLen; omega) (by omega) (by intros; kernel_rfl) (by intros; kernel_rfl) (by intros; kernel_rfl) (by intros; kernel_rfl) ?_
    intro b1 e1 hd1 hf1 hor1
    rw [ncells_snoc, ← hns]
    intro ids w2 hp hf
    refine ⟨_, ⟨hf.x, hf.sep⟩, _, rfl, ⟨k2 + 1, l3, d3, b1, e1, by omega, fun j h1 h2 => ⟨or_fresh (fun j h1 h2 => (hfr2 j h1 h2).1) hor1 j h2, hf1 j h2⟩, by rw [← eqn]; exact hA3, ?_, rfl⟩, ?_⟩
    · rw [← eqn, ← hwk]; rfl
    · show m - (IntKind.i64.wrap ((k2 : Int) + 1)).toNat < m - ((k2 : Int)).toNat
      rw [hwk]; omega
  refine br_f (show decide ((k2 : Int) < (m : Int)) = false from decide_eq_false (by omega)) ?_
  obtain rfl : k2 = m := by omega
  have hV : rdV bs p = ⟨(kd : Int), cs, nsN bs k2 q4⟩ := by
    rw [ekd, ecs, eq4, em, eq3, eq2, en, eq1]; rfl
  have hS : rdS bs p = itN (stC 9 bs) k2 q4 := by
    rw [eq4, em, eq3, eq2, en, eq1]; rfl
  have hcl : cs.length = k := by rw [ecs, csN_len]
  have hnl := nsN_len bs k2 q4
  unfold QTk
  rw [hV, hS]
  intro ids w2 hp hf
  refine ⟨al2, cl2, a1, c1, a2, c2, ?_, hAk2, ⟨?_, ?_⟩, ?_, hf.chg.below⟩
  · unfold vlV
    dsimp only
    rw [hcl, hnl]; rfl
  · exact rw_cells hf.x.1.2
  · exact rw_cells hf.x.2
  · intro j hj
    rcases hj with hj | hj
    · exact rw_fresh hf.x.1.2 hfr j hj
    · exact rw_fresh hf.x.2 (fun j h1 h2 => (hfr2 j h1 h2).1) j hj
theorem qdone {w : World} {bs : List Int} {a a' : Option Addr} {c' : Nat} {p : Nat × Int} (hA : AtP bs a a' c' p) : Calls Try.prog 57 #[qR bs a' c' p] w (PureAt w (qR bs a' c' (p.1, doneB bs.length p.1 p.2))) := by
  refine calls_at (tab_ok _) Try.func57 rfl tQDone (ρ := ⟨[p.2], [], [], [(bs.drop p.1).length, c'], [a']⟩) (ids := []) (hx := HX.nil) rfl (Facts.initP rfl oneNil) ?_
  have hl : (bs.drop p.1).length = bs.length - p.1 := List.length_drop
  by_cases h0 : p.2 = 0
  · refine br_t (show (p.2 == 0) = true by simp [h0]) ?_
    by_cases h1 : p.1 < bs.length
    · refine br_t (show decide (((bs.drop p.1).length : Int) > 0) = true by rw [hl]; exact decide_eq_true (by omega)) ?_
      rw [show doneB bs.length p.1 p.2 = 13 from if_pos ⟨h0, h1⟩]
      exact pure_done (by intros; kernel_rfl)
    · refine br_f (show decide (((bs.drop p.1).length : Int) > 0) = false by rw [hl]; exact decide_eq_false (by omega)) ?_
      rw [show doneB bs.length p.1 p.2 = p.2 from if_neg (fun q => h1 q.2)]
      exact pure_done (by intros; kernel_rfl)
  · refine br_f (show (p.2 == 0) = false by simpa using h0) ?_
    rw [show doneB bs.length p.1 p.2 = p.2 from if_neg (fun q => h0 q.1)]
    exact pure_done (by intros; kernel_rfl)
end Go.Proofs.Ytadgaefmoobcoaa

namespace Go.Proofs.Ytadgaefmoobcoaa
open Go.ChangeShapes Go.WideShapes Go.ChangeAt Go.RowKit Go.Syn Go.Eng
set_option linter.unusedVariables false
set_option linter.unusedSimpArgs false
set_option maxRecDepth 100000
section
variable {C : Cfg} {ρ : Env} {pre : List Nat} {hx : HX} {L : Stack} {m m' : Mem} {t : Tree} {ps : List (Nat × SV)} {ty : TypeId}
theorem node_upto {st e : TypeId} {xo hi : Operand} {r : SV} {z : Value} {n cap u sz bytes : Nat} (a : Option Addr) (ht : C.P.underlying st = some (.slice e)) (hel : C.P.elem st = e) (hinfo : (C.P.info? e).map (fun i => (i.zero, i.size, i.bytes)) = some (some z, sz, bytes))
    (hxo : ∀ ids, envOf ρ ids ps xo = .slice a n cap) (hhi : ∀ ids, envOf ρ ids ps hi = .int .i64 (u : Int)) (hu : ∀ ids w, Facts C m ρ ids hx w → u ≤ cap)
    (hr : ∀ ids, r.den (ρ.add ⟨[], [], [], [u, cap], [sliA a 0 cap sz]⟩) ids = .slice (sliA a 0 cap sz) u cap) (hhp : m'.hp = m.hp) (hfit : hpFits m.c m.hp.length m.hp = true) (hc : (ρ.add ⟨[], [], [], [u, cap], [sliA a 0 cap sz]⟩).cnt = m'.c)
    (h : t.holds C (ρ.add ⟨[], [], [], [u, cap], [sliA a 0 cap sz]⟩) pre hx L) :
    (Tree.gen (.slice st xo none (some hi) none) ty ps m (some r) m' t).holds C ρ pre hx L := by
  obtain ⟨i0, hi', hz0, hz1, hz2⟩ := info_parts hinfo
  refine node_gpure (V := .slice (sliA a 0 cap sz) u cap) _ (fun ids w hp hf => ?_) hr hhp hfit hc oneNil h
  have hu := hu ids w hf
  have hsize : (sizeOf (C.P.elem st)).run C.P w = .ok sz w := by
    rw [hel]; simp [sizeOf, typeInfo, hi', hz1]
  have ht' : C.P.underlying st = some (.slice (C.P.elem st)) := by rw [ht, hel]
  have hrun : (Instr.sliceAt st (.slice a n cap) none (some (.int .i64 (u : Int))) none).run C.P w = .ok (.slice (sliA a 0 cap sz) u cap) w := by
    rw [run_sliceAt_slice w st _ _ _ _ ht', run_slice_h w st a n cap ht' .i64 (u : Int) (by omega) (by omega), hsize]
    simp [Result.andThen, sliced, sliA]
  simp only [execOp, hxo, hhi, Sem.run_bind, Sem.run_pure, Result.andThen_ok, Option.map_none, Option.map_some, hrun]
end
theorem pre_cells {w : World} {a : Option Addr} {cap : Nat} {bs : List Int} (h : Cells w a (bcells bs)) (hc : bs.length ≤ cap) (k : Nat) : Cells w (sliA a 0 cap 1) (bcells (bs.take k)) := by
  have := sli_cells h 0 k cap 1 (by omega) (by rw [bcells_len]; omega) (by decide)
  rw [Nat.zero_mul, List.drop_zero] at this
  have e : bcells (bs.take k) = (bcells bs).take k := by unfold bcells; rw [List.map_take]
  rw [e]; exact this
theorem qnum7 {w : World} {bs : List Int} {a a' : Option Addr} {c' : Nat} {p : Nat × Int} (H : Qb w a bs) (hA : AtP bs a a' c' p) : Calls Try.prog 55 #[qR bs a' c' p] w (fun e w' => ∃ a2 c2, e = .returned (.tuple #[qR bs a2 c2 (stC big bs p), .int .i64 (vaC big bs p : Int)]) ∧ AtP bs a a2 c2 (stC big bs p) ∧ Below w.heap.size w w') := by
  refine calls_at (tab_ok _) Try.func55 rfl tQNum7 (ρ := ⟨[p.2], [], [], [(bs.drop p.1).length, c'], [a']⟩) (ids := []) (hx := HX.nil) rfl (Facts.initP rfl oneNil) ?_
  obtain ⟨q, eq⟩ : ∃ q, q = stC big bs p := ⟨_, rfl⟩
  obtain ⟨n, en⟩ : ∃ n, n = vaC big bs p := ⟨_, rfl⟩
  rw [← eq, ← en]
  refine node_q (bs := bs) (a := a) (p' := q) (V := fun v => .tuple #[v, .int .i64 (n : Int)]) #[qR bs a' c' p, .int .i64 big] (fun a2 c2 => ⟨[q.2, (n : Int)], [], [], [(bs.drop q.1).length, c2], [a2]⟩) (by intros; kernel_rfl) (by intros; kernel_rfl) (by intros; kernel_rfl) (by intros; kernel_rfl) (fun _ _ => oneNil) (by intros; kernel_rfl) (fun ids w2 hp hf => by rw [eq, en]; exact qcountP big (by unfold I64; decide) (H.keep (facts_old (fun _ q => q) hf)) hA) ?_
  intro a2 c2 hA2 ids w2 hp hf
  exact ⟨a2, c2, by kernel_rfl, hA2, hf.chg.below⟩
def QTx (w : World) (a : Option Addr) (bs : List Int) (p : Nat × Int) (e : Ending) (w' : World) : Prop := ∃ al cl ad cd, e = .returned (.tuple #[qR bs al cl (txS 1024 bs p), .slice ad (txD 1024 bs p).length cd]) ∧ AtP bs a al cl (txS 1024 bs p) ∧ Cells w' ad (bcells (txD 1024 bs p)) ∧ (∀ k, (HX.cl ad (bcells (txD 1024 bs p))).F k → w.heap.size ≤ k ∧ k < w'.heap.size) ∧ Below w.heap.size w w'
set_option maxHeartbeats 2000000 in
theorem qtxt {w : World} {bs : List Int} {a a' : Option Addr} {c' : Nat} {p : Nat × Int} (H : Qb w a bs) (hA : AtP bs a a' c' p) : Calls Try.prog 80 #[qR bs a' c' p, .int .i64 1024] w (QTx w a bs p) := by
  refine calls_at (tab_ok _) Try.func80 rfl tQRTxt (ρ := ⟨[p.2, 1024], [], [], [(bs.drop p.1).length, c'], [a']⟩) (ids := []) (hx := HX.nil) rfl (Facts.initP rfl oneNil) ?_
  obtain ⟨q, eq⟩ : ∃ q, q = stC 1024 bs p := ⟨_, rfl⟩
  obtain ⟨n, en⟩ : ∃ n, n = vaC 1024 bs p := ⟨_, rfl⟩
  have hql : q.1 ≤ bs.length := by rw [eq]; exact stC_le _ _ _
  have ht : txB 1024 bs p = (q.2 == 0 && decide (n ≤ bs.length - q.1)) := by rw [eq, en]; rfl
  have hS : txS 1024 bs p = if txB 1024 bs p = true then (q.1 + n, 0) else if q.2 = 0 then (q.1, 10) else q := by rw [eq, en]; rfl
  have hD : txD 1024 bs p = if txB 1024 bs p = true then (bs.drop q.1).take n else [] := by rw [eq, en]; rfl
  have hn : n ≤ 1024 := by
    have := vaC_le (most := 1024) (by decide) bs p
    rw [← en] at this; omega
  refine node_q (bs := bs) (a := a) (p' := q) (V := fun v => .tuple #[v, .int .i64 (n : Int)]) #[qR bs a' c' p, .int .i64 1024] (fun a2 c2 => ⟨[q.2, (n : Int)], [], [], [(bs.drop q.1).length, c2], [a2]⟩) (by intros; kernel_rfl) (by intros; kernel_rfl) (by intros; kernel_rfl) (by intros; kernel_rfl) (fun _ _ => oneNil) (by intros; kernel_rfl) (fun ids w2 hp hf => by rw [eq, en]; exact qcountP 1024 (by unfold I64; decide) (H.keep (facts_old (fun _ q => q) hf)) hA) ?_
  intro a2 c2 hA2
  have hdl : (bs.drop q.1).length = bs.length - q.1 := List.length_drop
  by_cases h0 : q.2 = 0
  case' neg =>
    refine br_T (q.2 != 0) (by kernel_rfl) (by simpa using h0) ?_
    have hb : txB 1024 bs p = false := by rw [ht]; simp [h0]
    rw [hb, if_neg (by decide), if_neg h0] at hS
    rw [hb, if_neg (by decide)] at hD
    intro ids w2 hp hf
    exact ⟨a2, c2, none, 0, by rw [hS, hD]; kernel_rfl, by rw [hS]; exact hA2, by rw [hD]; exact fun h => absurd h (Nat.lt_irrefl 0), (fun k hk => by rw [hD] at hk; exact absurd rfl hk.1), hf.chg.below⟩
  refine br_F (q.2 != 0) (by kernel_rfl) (by simpa using h0) ?_
  by_cases h1 : n ≤ (bs.drop q.1).length
  case' neg =>
    refine br_T (decide ((n : Int) > ((bs.drop q.1).length : Int))) (by kernel_rfl) (decide_eq_true (by omega)) ?_
    have hb : txB 1024 bs p = false := by rw [ht, decide_eq_false (by omega)]; simp
    rw [hb, if_neg (by decide), if_pos h0] at hS
    rw [hb, if_neg (by decide)] at hD
    intro ids w2 hp hf
    exact ⟨a2, c2, none, 0, by rw [hS, hD]; kernel_rfl, by rw [hS]; exact hA2, by rw [hD]; exact fun h => absurd h (Nat.lt_irrefl 0), (fun k hk => by rw [hD] at hk; exact absurd rfl hk.1), hf.chg.below⟩
  refine br_F (decide ((n : Int) > ((bs.drop q.1).length : Int))) (by kernel_rfl) (decide_eq_false (by omega)) ?_
  have hb : txB 1024 bs p = true := by rw [ht, decide_eq_true (by omega), h0]; rfl
  rw [hb, if_pos rfl] at hS
  rw [hb, if_pos rfl] at hD
  obtain ⟨D, eD⟩ : ∃ D, D = (bs.drop q.1).take n := ⟨_, rfl⟩
  have hDl : D.length = n := by rw [eD, List.length_take]; omega
  have hcap := hA2.2.2.1
  rw [← eD] at hD
  refine node_upto (n := (bs.drop q.1).length) (cap := c2) (u := n) a2 Try.underlying35 (by kernel_rfl) info_byte (by intros; kernel_rfl) (by intros; kernel_rfl) (fun ids w2 hf => by omega) (by intros; kernel_rfl) (by kernel_rfl) (by kernel_rfl) (by kernel_rfl) ?_
  refine node_nd (bs := D) (fun ids => #[.slice (sliA a2 0 c2 1) D.length c2]) (fun a' c' => ⟨[], [], [], [D.length, c'], [a']⟩) (fun ids => Eq.trans (b := #[.slice (sliA a2 0 c2 1) n c2]) (by kernel_rfl) (by rw [hDl])) (fun ids w2 hp hf => copyb_new _ _ _ _ (by rw [eD]; exact pre_cells (hA2.2.1 w2 (H.keep (facts_old (fun _ q => q) hf)).mem) hcap n) (by omega)) (by intros; kernel_rfl) (by kernel_rfl) (by kernel_rfl) (by intros; kernel_rfl) (fun _ _ => oneNil) ?_
  intro a3 c3 hf3
  refine node_from (n := (bs.drop q.1).length) (cap := c2) (l := n) a2 Try.underlying35 (by kernel_rfl) info_byte (by intros; kernel_rfl) (by intros; kernel_rfl) h1 (by intros; kernel_rfl) (by kernel_rfl) (by kernel_rfl) (by kernel_rfl) ?_
  have hd2 : (bs.drop (q.1 + n)).length = (bs.drop q.1).length - n := by rw [List.length_drop, List.length_drop]; omega
  have hleft : Left a2 (bs.drop q.1) (sliA a2 n c2 1) (bs.drop (q.1 + n)) (c2 - n) := by
    refine ⟨fun w2 h2 => ?_, by omega, blk_sliA _ _ _ _⟩
    have := sli_cells h2 n ((bs.drop q.1).length - n) c2 1 (by rw [bcells_len]; omega) (by rw [bcells_len]; omega) (by decide)
    rw [Nat.mul_one, bcells_sub] at this
    have e : ((bs.drop q.1).drop n).take ((bs.drop q.1).length - n) = bs.drop (q.1 + n) := by
      rw [List.drop_drop]
      exact List.take_of_length_le (by rw [List.length_drop, List.length_drop]; omega)
    rwa [e] at this
  intro ids w2 hp hf
  refine ⟨sliA a2 n c2 1, c2 - n, a3, c3, ?_, by rw [hS]; exact ⟨by show q.1 + n ≤ _; omega, hA2.2.trans hleft⟩, by rw [hD]; exact hf.x.2, (fun k hk => by rw [hD] at hk; exact ⟨(hf3 k hk).1, (hf.sep k (.inr hk)).1⟩), hf.chg.below⟩
  rw [hS, hD]
  exact Eq.trans (b := .returned (.tuple #[.agg #[.slice (sliA a2 n c2 1) ((bs.drop q.1).length - n) (c2 - n), .int .i64 q.2], .slice a3 D.length c3])) (by kernel_rfl) (by rw [← hd2, h0]; rfl)
end Go.Proofs.Ytadgaefmoobcoaa
