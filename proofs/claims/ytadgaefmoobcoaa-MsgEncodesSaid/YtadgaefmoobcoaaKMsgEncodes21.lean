/- Part 21 of the texts of a proof about the given program: what the statement's proof needs of them. -/
import Derived.Test.YtadgaefmoobcoaaKMsgEncodes20
namespace Go.Eng
open Go.RowKit Go.Syn
set_option linter.unusedVariables false
set_option linter.unusedSimpArgs false
section
variable {C : Cfg} {ρ : Env} {pre : List Nat} {hx hx' rest : HX} {L : Stack} {m m' : Mem} {ty : Nat} {ps : List (Nat × SV)} {t : Tree} {ids : List Nat} {w w' : World} {vs : Vals}
theorem Facts.act2 {F : Nat → Prop} {n1 n2 b1 b2 : Nat} {cs1 cs1' cs2 cs2' : List LV} (hf : Facts C m ρ ids hx w) (hg : Chg F w w') (hF0 : ∀ b, F b → b = idAt ids n1 ∨ b = idAt ids n2 ∨ (hx.F b ∧ (C.W.heap.size ≤ b ∨ C.M b))) (hn1 : m.hp[n1]? = some (b1, cs1)) (hn2 : m.hp[n2]? = some (b2, cs2)) (hne : n1 ≠ n2)
    (hb1 : w'.heap[idAt ids n1]? = some (.cells (cellsDen (ρ.add vs) ids cs1').toArray b1 (0, 0))) (hb2 : w'.heap[idAt ids n2]? = some (.cells (cellsDen (ρ.add vs) ids cs2').toArray b2 (0, 0))) (hX : hx'.X w') (hF : ∀ b, hx'.F b → hx.F b ∨ (w.heap.size ≤ b ∧ b < w'.heap.size))
    (hhp : m'.hp = (m.hp.set n1 (b1, cs1')).set n2 (b2, cs2')) (hfit : hpFits m.c m.hp.length m.hp = true) (hc : (ρ.add vs).cnt = m'.c) (h1 : ∀ v, v ∈ vs.v → v.oneCell' = true) : Facts C m' (ρ.add vs) ids hx' w' := by
  have lt : ∀ {n : Nat} {y : Nat × List LV}, m.hp[n]? = some y → n < m.hp.length := fun {n y} h => by
    rcases Nat.lt_or_ge n m.hp.length with q | q
    · exact q
    · rw [List.getElem?_eq_none q] at h; cases h
  have l1 := lt hn1
  have l2 := lt hn2
  have m1 := idAt_mem (ids := ids) (n := n1) (hf.len ▸ l1)
  have m2 := idAt_mem (ids := ids) (n := n2) (hf.len ▸ l2)
  refine ⟨by rw [hf.len, hhp]; simp, hf.nod, fun k t3 cs3 hk => ?_, hf.own, ?_, hX, ?_, envUp' hf hc h1⟩
  · rw [hhp, List.getElem?_set] at hk
    split at hk
    · rename_i e
      subst e
      simp only [List.length_set, l2, if_true, Option.some.injEq, Prod.mk.injEq] at hk
      obtain ⟨rfl, rfl⟩ := hk
      exact hb2
    rename_i e2
    rw [List.getElem?_set] at hk
    split at hk
    · rename_i e
      subst e
      simp only [l1, if_true, Option.some.injEq, Prod.mk.injEq] at hk
      obtain ⟨rfl, rfl⟩ := hk
      exact hb1
    rename_i e1
    have hk2 := lt hk
    have hmk := idAt_mem (ids := ids) (n := k) (hf.len ▸ hk2)
    have hno : ¬ F (idAt ids k) := fun q => by
      rcases hF0 _ q with q | q | q
      · exact e1 (idAt_inj hf.nod (hf.len ▸ l1) (hf.len ▸ hk2) q.symm)
      · exact e2 (idAt_inj hf.nod (hf.len ▸ l2) (hf.len ▸ hk2) q.symm)
      · exact (hf.sep _ q.1).2 hmk
    rw [hg.block _ (hf.id_lt hmk) hno, hf.blk k t3 cs3 hk, cellsDen_add hf.cnt.cnt (List.prefix_refl _) hf.len (List.all_eq_true.1 hfit _ (List.mem_of_getElem? hk))]
  · refine ⟨hg.os.trans hf.chg.os, hg.tape.trans hf.chg.tape, hg.output.trans hf.chg.output, Nat.le_trans hf.chg.size hg.size, fun k hk hM => ?_⟩
    rw [hg.block k (Nat.lt_of_lt_of_le hk hf.chg.size) (fun q => ?_)]
    · exact hf.chg.block k hk hM
    · have own : ∀ {i : Nat}, i ∈ ids → k = i → False := fun hi e => by
        subst e
        rcases hf.own _ hi with q | q
        · omega
        · exact hM q
      rcases hF0 _ q with q | q | ⟨_, q⟩
      · exact own m1 q
      · exact own m2 q
      · rcases q with q | q
        · omega
        · exact hM q
  · intro b hb3
    rcases hF b hb3 with h | ⟨h2, h3⟩
    · exact ⟨Nat.lt_of_lt_of_le (hf.sep b h).1 hg.size, (hf.sep b h).2⟩
    · exact ⟨h3, fun hm => by have := hf.id_lt hm; omega⟩
end
end Go.Eng
namespace Go.Proofs.Ytadgaefmoobcoaa
open Go.ChangeShapes Go.WideShapes Go.ChangeAt Go.RowKit Go.Syn Go.Eng
set_option linter.unusedVariables false
set_option linter.unusedSimpArgs false
set_option maxRecDepth 100000
abbrev tDecode8b0 : List LV := [(tVi 17), (tVi 18), (tVi 19), (tVi 20), (tVi 21), (tVi 22), (tVi 23), (tVi 24), (tVi 25), (tVi 26), (tSl 7 14 15), (tSl 8 16 17), (tSl 9 18 19), (tVi 27), (tVi 28), (tVi 29), (tVi 30), (tVi 31), (tVi 32), (tVi 33), (tVi 34), (tVi 35), (tVi 36), (tVi 37), (tSl 10 20 21)]
abbrev tDecode8b1 : List LV := [(tVi 4), (tVi 7), (tVi 10), (tVi 13), (tLi 0), (tLi 0), (tLi 0), (tLi 0), (tLi 0), (tLi 0), .nilsl, .nilsl, .nilsl, (tLi 0), (tLi 0), (tLi 0), (tLi 0), (tLi 0), (tLi 0), (tLi 0), (tLi 0), (tLi 0), (tLi 0), (tLi 0), .nilsl]
abbrev tDecode8b2 : List LV := [(tLi 0), (tLi 0), (tLi 0), (tLi 0), (tLi 0), (tLi 0), (tLi 0), (tLi 0), (tLi 0), (tLi 0), .nilsl, .nilsl, .nilsl, (tLi 0), (tLi 0), (tLi 0), (tLi 0), (tLi 0), (tLi 0), (tLi 0), (tLi 0), (tLi 0), (tLi 0), (tLi 0), .nilsl]
abbrev tDecode8m0 : Mem := ⟨[(37, tDecode8b2), (128, [(tSl 11 22 23), (tVi 38), (tVi 39)]), (37, tDecode8b0)], ⟨41, 0, 0, 24, 12⟩⟩
abbrev tDecode8m1 : Mem := ⟨[(37, tDecode8b2), (128, [(tSl 11 22 23), (tVi 38), (tVi 39)]), (37, tDecode8b0)], ⟨42, 0, 0, 24, 12⟩⟩
abbrev tDecode8m2 : Mem := ⟨[(37, tDecode8b2), (128, [(tSl 6 12 13), (tVi 15), (tVi 16)]), (37, tDecode8b0)], ⟨38, 0, 0, 22, 11⟩⟩
abbrev tDecode8m3 : Mem := ⟨[(37, tDecode8b2), (128, [(tSl 5 10 11), (tVi 11), (tVi 12)]), (37, tDecode8b1)], ⟨15, 0, 0, 12, 6⟩⟩
abbrev tDecode8m4 : Mem := ⟨[(37, tDecode8b2), (128, [(tSl 5 10 11), (tVi 11), (tVi 12)]), (37, tDecode8b1)], ⟨16, 0, 0, 12, 6⟩⟩
abbrev tDecode8m5 : Mem := ⟨[(37, tDecode8b2), (128, [(tSl 4 8 9), (tVi 8), (tVi 9)])], ⟨11, 0, 0, 10, 5⟩⟩
abbrev tDecode8m6 : Mem := ⟨[(37, tDecode8b2), (128, [(tSl 1 2 3), (tVi 0), (tVi 1)])], ⟨2, 0, 0, 4, 2⟩⟩
abbrev tDecode8m7 : Mem := ⟨[(37, tDecode8b2), (128, [(tSl 2 4 5), (tVi 2), (tVi 3)])], ⟨5, 0, 0, 6, 3⟩⟩
abbrev tDecode8m8 : Mem := ⟨[(37, tDecode8b2), (128, [(tSl 3 6 7), (tVi 5), (tVi 6)])], ⟨8, 0, 0, 8, 4⟩⟩
set_option maxRecDepth 100000 in
theorem tDecode8 : (runF ⟨tt, fns, { touch := [(59, [0]), (84, [0]), (85, [0]), (82, [0]), (83, [0]), (62, [0]), (61, [0, 1])], ret := [(58, .one (.newp 128 [.sl, .int .i64, .int .i64]))], joins := [(8, ⟨[], []⟩)] }⟩ (Try.f22.body.getD .skip) Try.f22.results.toList (entry Try.f22.ntmps [.lf (.sl 0 (.var 0) (.var 1))] [] ⟨0, 0, 0, 2, 1⟩)) =
  (.br (.cmp .gtr (.nat 0) (.lit 65536)) (.done (.tup [(.true, tDecode8b2), (.false, [(tLi 12)])]) ⟨[(37, tDecode8b2)], ⟨0, 0, 0, 2, 1⟩⟩) (.call 58 [(.lf (tSl 0 0 1))] ⟨[(37, tDecode8b2)], ⟨0, 0, 0, 2, 1⟩⟩ (.lf (.ptr 1 0)) tDecode8m6 (.call 59 [(.lf (.ptr 1 0)), (.lf (tLi 1125899906842624))] tDecode8m6 (.lf (tVi 4)) tDecode8m7 (.call 59 [(.lf (.ptr 1 0)), (.lf (tLi 1125899906842624))] tDecode8m7 (.lf (tVi 7)) tDecode8m8 (.call 59 [(.lf (.ptr 1 0)), (.lf (tLi 1125899906842624))] tDecode8m8 (.lf (tVi 10)) tDecode8m5 (.call 59 [(.lf (.ptr 1 0)), (.lf (tLi 1125899906842624))] tDecode8m5 (.lf (tVi 13)) ⟨[(37, tDecode8b2), (128, [(tSl 5 10 11), (tVi 11), (tVi 12)])], ⟨14, 0, 0, 12, 6⟩⟩ (.call 25 [(.lf (tVi 4))] ⟨[(37, tDecode8b2), (128, [(tSl 5 10 11), (tVi 11), (tVi 12)]), (37, tDecode8b1)], ⟨14, 0, 0, 12, 6⟩⟩ (.lf (tVi 14)) tDecode8m3 (.join 8 tDecode8m3 tDecode8m3 (.br (.cmp .eql (.var 14) (.lit 0)) (.call 60 [(.lf (.ptr 1 0))] tDecode8m3 (.lf (tVi 15)) tDecode8m4 (.br (.cmp .eql (.var 15) (.lit 0)) (.done (.tup [(.true, tDecode8b2), (.false, [(tLi 26)])]) tDecode8m4) (.again 8 ⟨[], [], [], [], []⟩ tDecode8m4))) (.again 8 ⟨[], [], [], [], []⟩ tDecode8m3)) (.call 61 [(.lf (.ptr 1 0)), (.lf (.ptr 2 0)), (.lf (tVi 14))] tDecode8m3 (.tup []) tDecode8m2 (.call 62 [(.lf (.ptr 1 0))] tDecode8m2 (.lf (tVi 40)) tDecode8m0 (.br (.cmp .neq (.var 40) (.lit 0)) (.done (.tup [(.true, tDecode8b2), (.false, [(tVi 40)])]) tDecode8m0) (.call 10 [(.agg tDecode8b0)] tDecode8m0 (.lf (tVi 41)) tDecode8m1 (.br (.cmp .neq (.var 41) (.lit 0)) (.done (.tup [(.true, tDecode8b2), (.false, [(tVi 41)])]) tDecode8m1) (.done (.tup [(.true, tDecode8b0), (.false, [(tLi 0)])]) ⟨[(37, tDecode8b0), (128, [(tSl 11 22 23), (tVi 38), (tVi 39)]), (37, tDecode8b0)], ⟨42, 0, 0, 24, 12⟩⟩)))))))))))))) := by kernel_rfl
structure Mc where
  k : Int
  f : Int
  t : Int
  e : Int
  r : Int
  n : Int
  slot : Int
  low : Int
  tm : Int
  v : Vl
  vs : List (Vo Vl)
  c : CmD
  rk : Int
  re : Int
  im : Int
  d : List Int
def Ms.con (m : Ms) : Mc := ⟨m.k, m.f, m.t, m.e, m.r, m.n, m.slot, m.low, m.tm, m.p.v, vlsOf m.vs, m.c, m.rk, m.re, m.im, m.d⟩
def vNo (x : Vo Vl) : Vo Pv := ⟨x.s, x.r, x.n, ⟨x.v, none, 0, none, 0⟩⟩
def Mc.ms (c : Mc) : Ms := ⟨c.k, c.f, c.t, c.e, c.r, c.n, c.slot, c.low, c.tm, ⟨c.v, none, 0, none, 0⟩, none, 0, c.vs.map vNo, c.c, c.rk, c.re, c.im, none, 0, c.d⟩
theorem vlsOf_no (l : List (Vo Vl)) : vlsOf (l.map vNo) = l := by
  unfold vlsOf
  rw [List.map_map]
  induction l with
  | nil => rfl
  | cons x r ih => rw [List.map_cons, ih]; rfl
theorem Mc.con_ms (c : Mc) : c.ms.con = c := by
  show (⟨_, _, _, _, _, _, _, _, _, _, vlsOf (c.vs.map vNo), _, _, _, _, _⟩ : Mc) = c
  rw [vlsOf_no]
  rfl
theorem con_len {m m' : Ms} (h : m.con = m'.con) : m.vs.length = m'.vs.length := by
  have h1 : (vlsOf m.vs).length = (vlsOf m'.vs).length := by rw [show vlsOf m.vs = vlsOf m'.vs from congrArg Mc.vs h]
  unfold vlsOf at h1
  rwa [List.length_map, List.length_map] at h1
theorem plr_con {m m' : Ms} (h : m.con = m'.con) (q : PlR m) : PlR m' := by
  have hl := con_len h
  obtain ⟨h1, h2, h3, h4, h5, h6, h7, h8, h9, h10, h11, h12, h13, h14, h15, h16⟩ := Mc.mk.inj h
  obtain ⟨a1, a2, a3, a4, a5, a6, a7, a8, a9, a10, a11, a12, a13, a14, a15, a16, a17, a18⟩ := q
  rw [h1] at a1 a5 a6 a7 a8 a9 a10 a11 a12 a13 a18
  rw [h2] at a2
  rw [h3] at a3
  rw [h4] at a4
  rw [h5, h6] at a5
  rw [h7] at a6 a15 a18
  rw [h8] at a7 a16
  rw [h9] at a8 a17
  rw [h10] at a9
  rw [hl] at a10
  rw [h12] at a11
  rw [h13, h14, h15] at a12
  rw [h16] at a13 a14
  exact ⟨a1, a2, a3, a4, a5, a6, a7, a8, a9, a10, a11, a12, a13, a14, a15, a16, a17, a18⟩
theorem chk_con {m m' : Ms} (h : m.con = m'.con) : chkM m = chkM m' := by
  have hp : plainP m = plainP m' := by
    rw [Bool.eq_iff_iff, plain_iff, plain_iff]
    exact ⟨plr_con h, plr_con h.symm⟩
  obtain ⟨h1, h2, h3, h4, h5, h6, h7, h8, h9, h10, h11, h12, h13, h14, h15, h16⟩ := Mc.mk.inj h
  have hc : cmdX m = cmdX m' := by unfold cmdX; rw [h1, h12]
  have hr : resB m = resB m' := by unfold resB; rw [h13, h14, h15]
  unfold chkM
  rw [hp]
  have : restE m = restE m' := by unfold restE; rw [h1, h5, h6, h7, h10, h11, hc, hr]
  rw [this]
def chkC (c : Mc) : Int := chkM c.ms
theorem chkC_is (m : Ms) : chkM m = chkC m.con := chk_con (by rw [Mc.con_ms])
def hq (bs : List Int) (n : Nat) : Nat × Int := itN (stC big bs) n (0, 0)
def hk (bs : List Int) : Int := (vaC big bs (hq bs 0) : Int)
def rdC (u : Int) (bs : List Int) (k f t e : Int) (q : Nat × Int) : Mc :=
  { k := k, f := f, t := t, e := e, r := opt (ub u 1) (vaC big bs q : Int) 0, n := opt (ub u 1) (vaC big bs (stC big bs q) : Int) 0, slot := opt (ub u 2) (vaC big bs (sB u bs q) : Int) 0, low := opt (ub u 4) (vaC big bs (sN 2 u bs (sB u bs q)) : Int) 0, tm := opt (ub u 8) (vaC big bs (sN 4 u bs (sN 2 u bs (sB u bs q))) : Int) 0,
    v := vV u bs (q4 u bs q), vs := vO u bs (sV u bs (q4 u bs q)), c := opt (ub u 64) (tcC bs (q6 u bs q)) cz, rk := opt (ub u 128) (vaN bs (sC u bs (q6 u bs q))) 0, re := opt (ub u 128) (vaN bs (stN bs (sC u bs (q6 u bs q)))) 0, im := opt (ub u 128) (vaN bs (stN bs (stN bs (sC u bs (q6 u bs q))))) 0, d := vD u bs (q8 u bs q) }
def rdMc (bs : List Int) : Mc := rdC (useI (hk bs)) bs (hk bs) (vaC big bs (hq bs 1) : Int) (vaC big bs (hq bs 2) : Int) (vaC big bs (hq bs 3) : Int) (hq bs 4)
def doneE (bs : List Int) : Int := doneB bs.length (q9 (useI (hk bs)) bs (hq bs 4)).1 (q9 (useI (hk bs)) bs (hq bs 4)).2
def decE7 (bs : List Int) : Int := if bs.length > 65536 then 12 else if useI (hk bs) = 0 ∧ (hq bs 4).2 = 0 then 26 else if doneE bs ≠ 0 then doneE bs else chkC (rdMc bs)
def decC7 (bs : List Int) : Mc := if decE7 bs = 0 then rdMc bs else mz.con
theorem rd_con (u : Int) (bs : List Int) (q : Nat × Int) (k f t e : Int) (pp : Pv) (av : Option Addr) (cv : Nat) (vs : List (Vo Pv)) (ad : Option Addr) (cd : Nat) (h1 : pp.v = vV u bs (q4 u bs q)) (h2 : vlsOf vs = vO u bs (sV u bs (q4 u bs q))) :
    ({ gR u bs (sC u bs (q6 u bs q)) (gC u bs (q6 u bs q) { gT u bs (sN 4 u bs (sN 2 u bs (sB u bs q))) (gL u bs (sN 2 u bs (sB u bs q)) (gS u bs (sB u bs q) (gB u bs q { mz with k := k, f := f, t := t, e := e }))) with p := pp, av := av, cv := cv, vs := vs }) with ad := ad, cd := cd, d := vD u bs (q8 u bs q) } : Ms).con = rdC u bs k f t e q := by
  unfold Ms.con rdC
  dsimp only
  have eB : ∀ (c : Bool) (x y : Ms), (opt c x y).k = opt c x.k y.k ∧ (opt c x y).f = opt c x.f y.f ∧ (opt c x y).t = opt c x.t y.t ∧ (opt c x y).e = opt c x.e y.e ∧ (opt c x y).r = opt c x.r y.r ∧ (opt c x y).n = opt c x.n y.n ∧ (opt c x y).slot = opt c x.slot y.slot ∧ (opt c x y).low = opt c x.low y.low ∧ (opt c x y).tm = opt c x.tm y.tm ∧ (opt c x y).p = opt c x.p y.p ∧ (opt c x y).vs = opt c x.vs y.vs ∧ (opt c x y).c = opt c x.c y.c ∧ (opt c x y).rk = opt c x.rk y.rk ∧ (opt c x y).re = opt c x.re y.re ∧ (opt c x y).im = opt c x.im y.im := fun c x y => by
    unfold opt
    split <;> exact ⟨rfl, rfl, rfl, rfl, rfl, rfl, rfl, rfl, rfl, rfl, rfl, rfl, rfl, rfl, rfl⟩
  have same : ∀ {α : Type} (c : Bool) (x : α), opt c x x = x := fun c x => by unfold opt; split <;> rfl
  unfold gR gC gT gL gS gB
  simp only [eB, same, h1, h2]
  rfl
section
variable {W : World} {RR : Ending → World → Prop} {ρ : Env} {pre : List Nat} {hx : HX} {S : Stack} {m m' : Mem} {t : Tree} {args : List SV} {a : Option Addr} {cap : Nat} {bs : List Int}
theorem node_fd (u : Int) (q : Nat × Int) (k f t' e : Int) {c1 c2 : List LV} (hok : RdOk hx a cap bs) (hq' : q.1 ≤ bs.length) (h1 : m.hp[1]? = some (128, c1)) (h2 : m.hp[2]? = some (37, c2)) (hc1 : ∀ ids, cellsDen ρ ids c1 = rcells a cap bs q.1 q.2) (hc2 : ∀ ids, cellsDen ρ ids c2 = ({ mz with k := k, f := f, t := t', e := e } : Ms).cells)
    (hargs : ∀ ids, (args.map (SV.den ρ ids)).toArray = #[.pointer (some ⟨idAt ids 1, 0, none⟩), .pointer (some ⟨idAt ids 2, 0, none⟩), .int .i64 u]) (c1' c2' : List LV) (hhp : m'.hp = (m.hp.set 1 (128, c1')).set 2 (37, c2'))
    (hc1' : ∀ (mm : Ms) ids, cellsDen (ρ.add (stV a cap bs mm (q9 u bs q))) ids c1' = rcells a cap bs (q9 u bs q).1 (q9 u bs q).2) (hc2' : ∀ (mm : Ms) ids, cellsDen (ρ.add (stV a cap bs mm (q9 u bs q))) ids c2' = mm.cells) (hfit : hpFits m.c m.hp.length m.hp = true) (hc : ∀ mm : Ms, (ρ.add (stV a cap bs mm (q9 u bs q))).cnt = m'.c)
    (h : ∀ mm : Ms, mm.con = rdC u bs k f t' e q → (∀ k, mm.R.F k → W.heap.size ≤ k ∧ ¬ hx.F k) → t.holds ⟨Try.prog, W, fun _ => False, RR⟩ (ρ.add (stV a cap bs mm (q9 u bs q))) pre (hx.and mm.R) S) :
    (Tree.call 61 args m (.tup []) m' t).holds ⟨Try.prog, W, fun _ => False, RR⟩ ρ pre hx S := by
  intro ids w hp hf
  rw [hargs]
  have lt : ∀ {n : Nat} {y : Nat × List LV}, m.hp[n]? = some y → n < ids.length := fun {n y} g => by
    rw [hf.len]
    rcases Nat.lt_or_ge n m.hp.length with z | z
    · exact z
    · rw [List.getElem?_eq_none z] at g; cases g
  have b2 := hf.blk 2 _ _ h2
  rw [hc2] at b2
  have hne : idAt ids 1 ≠ idAt ids 2 := fun e => by have := idAt_inj hf.nod (lt h1) (lt h2) e; omega
  refine (fields_any (idAt ids 1) (idAt ids 2) a cap bs u q { mz with k := k, f := f, t := t', e := e } w (rd_at 1 hok hq' hf h1 hc1) b2 hne (fun j hj z => (hf.sep j (hok.fr j hj)).2 (z ▸ idAt_mem (lt h2))) rfl ⟨rfl, rfl, rfl⟩ ⟨rfl, rfl, rfl⟩).mono ?_
  rintro e' w' ⟨rfl, pp, av, cv, vs, ad, cd, mm, g1, g2, g3, gb1, gb2, gX, gF, gch⟩
  have hcon : mm.con = rdC u bs k f t' e q := by rw [g3]; exact rd_con u bs q k f t' e pp av cv vs ad cd g1 g2
  refine ⟨stV a cap bs mm (q9 u bs q), ids, hx.and mm.R, rfl, List.prefix_refl _, hf.act2 (n1 := 1) (n2 := 2) gch (fun b hb => hb.elim .inl fun z => .inr (.inl z)) h1 h2 (by decide) (by rw [hc1']; exact gb1) (by rw [hc2']; exact gb2) (hx' := hx.and mm.R) ⟨hx.loc w w' hf.x fun k hk => gch.block k (hf.sep k hk).1 fun z => ?_, gX⟩ (fun k hk => hk.elim .inl fun z => .inr (gF k z)) hhp hfit (hc mm) oneNil, holds_pre t hp (h mm hcon fun k hk => ⟨Nat.le_trans hf.chg.size (gF k hk).1, fun z => by have := (hf.sep k z).1; have := (gF k hk).1; omega⟩)⟩
  rcases z with z | z
  · exact (hf.sep k hk).2 (z ▸ idAt_mem (lt h1))
  · exact (hf.sep k hk).2 (z ▸ idAt_mem (lt h2))
end
def RdM (w : World) (c : Mc) (err : Int) (e : Ending) (w' : World) : Prop := ∃ m : Ms, e = .returned (.tuple #[m.val, .int .i64 err]) ∧ m.con = c ∧ m.R.X w' ∧ (∀ k, m.R.F k → w.heap.size ≤ k ∧ k < w'.heap.size) ∧ Below w.heap.size w w'
theorem mz_R (w : World) : mz.R.X w := ⟨⟨⟨pvR_z w, fun x hx => by cases hx⟩, HX.rw_nil _ _ _ _⟩, HX.rw_nil _ _ _ _⟩
theorem mz_RF {k : Nat} (h : mz.R.F k) : False := by
  rcases h with ((h | ⟨x, hx, _⟩) | h) | h
  · exact pvR_zF h
  · cases hx
  · exact h.1 rfl
  · exact h.1 rfl
theorem R_X {m : Ms} {w : World} (h : m.R.X w) : m.X.X w := ⟨⟨⟨rw_cells h.1.1.1.1, rw_cells h.1.1.1.2⟩, rw_cells h.1.2, fun x hx => by
  obtain ⟨y, hy, rfl⟩ := List.mem_map.1 hx
  have := h.1.1.2 _ (List.mem_map.2 ⟨y, hy, rfl⟩)
  exact ⟨rw_cells this.1, rw_cells this.2⟩⟩, rw_cells h.2⟩
structure McWf (o : Mc) : Prop where
  k : I64 o.k
  f : I64 o.f
  t : I64 o.t
  e : I64 o.e
  r : I64 o.r
  n : I64 o.n
  slot : I64 o.slot
  low : I64 o.low
  tm : I64 o.tm
  v : VlWf o.v
  vs : ∀ x ∈ o.vs, I64 x.s ∧ I64 x.r ∧ I64 x.n ∧ VlWf x.v
  c : CmFit o.c
  rk : I64 o.rk
  re : I64 o.re
  im : I64 o.im
  d : Byt o.d
  dl : o.d.length ≤ 140737488355328
  vl : o.vs.length ≤ 4611686018427387904
theorem McWf.ms {m : Ms} (h : McWf m.con) : MsWf m := by
  have hl : (vlsOf m.vs).length = m.vs.length := List.length_map _
  exact ⟨h.k, h.f, h.t, h.e, h.r, h.n, h.slot, h.low, h.tm, h.v, fun x hx => by
    obtain ⟨a1, a2, a3, a4⟩ := h.vs (Vo.map Pv.v x) (List.mem_map.2 ⟨x, hx, rfl⟩)
    exact ⟨a1, a2, a3, a4⟩, h.c, h.rk, h.re, h.im, h.d, h.dl, by rw [← hl]; exact h.vl⟩
theorem MsWf.con {m : Ms} (h : MsWf m) : McWf m.con := by
  have hl : (vlsOf m.vs).length = m.vs.length := List.length_map _
  exact ⟨h.k, h.f, h.t, h.e, h.r, h.n, h.slot, h.low, h.tm, h.v, fun x hx => by
    obtain ⟨y, hy, rfl⟩ := List.mem_map.1 hx
    exact ⟨(h.vs y hy).s, (h.vs y hy).r, (h.vs y hy).n, (h.vs y hy).v⟩, h.c, h.rk, h.re, h.im, h.d, h.dl, (show (vlsOf m.vs).length ≤ _ from hl ▸ h.vl)⟩
theorem vz_wf : VlWf vz := ⟨(show I64 0 by unfold I64; decide), (fun c h => by cases h), vz_fit⟩
theorem opt_P {α : Type} {P : α → Prop} {c : Bool} {x y : α} (h1 : P x) (h2 : P y) : P (opt c x y) := by unfold opt; split <;> assumption
theorem big_i (bs : List Int) (q : Nat × Int) : I64 (vaC big bs q : Int) := by
  have h1 := vaC_le (most := big) (by decide) bs q
  have h2 : big ≤ 9223372036854775807 := by decide
  unfold I64
  generalize big = z at h1 h2 ⊢
  omega
theorem i0 : I64 0 := by unfold I64; decide
theorem tcC_fit {bs : List Int} (hb : Byt bs) (q : Nat × Int) : CmFit (tcC bs q) := fun i hi => by
  simp only [CmD.is, tcC, List.mem_cons, List.not_mem_nil, or_false] at hi
  rcases hi with rfl | rfl | rfl | rfl | rfl | rfl | rfl | rfl <;> exact vaN_fit hb _
theorem txD_len (most : Int) (bs : List Int) (q : Nat × Int) : (txD most bs q).length ≤ bs.length := by
  unfold txD
  split
  · rw [List.length_take, List.length_drop]; omega
  · exact Nat.zero_le _
theorem txD_byt {bs : List Int} (hb : Byt bs) (most : Int) (q : Nat × Int) : Byt (txD most bs q) := by
  unfold txD
  split
  · exact fun x hx => hb x (List.mem_of_mem_drop (List.mem_of_mem_take hx))
  · exact fun x hx => by cases hx
theorem rdC_wf {bs : List Int} (hb : Byt bs) (hl : bs.length ≤ 140737488355328) (u k f t e : Int) (q : Nat × Int) (h1 : I64 k) (h2 : I64 f) (h3 : I64 t) (h4 : I64 e) : McWf (rdC u bs k f t e q) := by
  refine ⟨h1, h2, h3, h4, opt_P (big_i _ _) i0, opt_P (big_i _ _) i0, opt_P (big_i _ _) i0, opt_P (big_i _ _) i0, opt_P (big_i _ _) i0, opt_P (P := VlWf) (rd_wf hb _) vz_wf, fun x hx => ?_, opt_P (P := CmFit) (tcC_fit hb _) (fun i hi => ?_), opt_P (vaN_fit hb _) i0, opt_P (vaN_fit hb _) i0, opt_P (vaN_fit hb _) i0, opt_P (P := Byt) (txD_byt hb _ _) (fun x hx => by cases hx), opt_P (P := fun l : List Int => l.length ≤ 140737488355328) (Nat.le_trans (txD_len _ _ _) hl) (Nat.zero_le _), ?_⟩
  · have hx : x ∈ vO u bs (sV u bs (q4 u bs q)) := hx
    unfold vO opt at hx
    split at hx
    · obtain ⟨j, _, rfl⟩ := List.mem_map.1 hx
      exact ⟨big_i _ _, big_i _ _, big_i _ _, rd_wf hb _⟩
    · cases hx
  · simp only [CmD.is, cz, List.mem_cons, List.not_mem_nil, or_false, or_self] at hi
    rw [hi]; exact i0
  · refine opt_P (P := fun l : List (Vo Vl) => l.length ≤ 4611686018427387904) ?_ (Nat.zero_le _)
    rw [voN_len]
    have := vaC_le (most := 64) (by decide) bs (sV u bs (q4 u bs q))
    omega
theorem rdMc_wf {bs : List Int} (hb : Byt bs) (hl : bs.length ≤ 140737488355328) : McWf (rdMc bs) := rdC_wf hb hl _ _ _ _ _ _ (big_i _ _) (big_i _ _) (big_i _ _) (big_i _ _)
theorem q9_le {bs : List Int} (u : Int) {q : Nat × Int} (h : q.1 ≤ bs.length) : (q9 u bs q).1 ≤ bs.length := by
  have a1 : (sB u bs q).1 ≤ bs.length := opt_le (stC_le _ _ _) h
  have a2 : (sN 2 u bs (sB u bs q)).1 ≤ bs.length := opt_le (stC_le _ _ _) a1
  have a3 : (sN 4 u bs (sN 2 u bs (sB u bs q))).1 ≤ bs.length := opt_le (stC_le _ _ _) a2
  have a4 : (q4 u bs q).1 ≤ bs.length := opt_le (stC_le _ _ _) a3
  have a5 : (sV u bs (q4 u bs q)).1 ≤ bs.length := opt_le (rdS_le' _ _) a4
  have a6 : (q6 u bs q).1 ≤ bs.length := opt_le (it_le (vtS_le bs) (stC_le _ _ _) _) a5
  have a7 : (sC u bs (q6 u bs q)).1 ≤ bs.length := opt_le (stN_le _ _) a6
  have a8 : (q8 u bs q).1 ≤ bs.length := opt_le (stN_le _ _) a7
  exact opt_le (txS_le _ _ _) a8
theorem hq_le (bs : List Int) : ∀ n, (hq bs n).1 ≤ bs.length := fun n => it_le (stC_le _ _) (Nat.zero_le _) n
set_option maxHeartbeats 2000000 in
theorem decode7_any (a : Option Addr) (cap : Nat) (bs : List Int) (w : World) (H : Cells w a (bcells bs)) (hb : Byt bs) (hl : bs.length ≤ 140737488355328) : Calls Try.prog 22 #[.slice a bs.length cap] w (RdM w (decC7 bs) (decE7 bs)) := by
  refine calls_at (tab_ok _) Try.func22 rfl tDecode8 (ρ := ⟨[], [], [], [bs.length, cap], [a]⟩) (ids := []) (hx := HX.cl a (bcells bs)) rfl (Facts.initq rfl oneNil H (cl_sep H)) ?_
  have bad : ∀ {m2 : Mem} {ρ : Env} {pre : List Nat} {hx : HX} {S : Stack} {v : SV} (e : Int), e ≠ 0 → decE7 bs = e → (∀ ids, v.den ρ ids = .tuple #[mz.val, .int .i64 e]) → (Tree.done v m2).holds ⟨Try.prog, w, fun _ => False, RdM w (decC7 bs) (decE7 bs)⟩ ρ pre hx S := fun {m2 ρ pre hx S v} e he h hv ids w2 hp hf => by
    refine ⟨mz, by rw [hv, h], ?_, mz_R w2, fun k hk => (mz_RF hk).elim, hf.chg.below⟩
    unfold decC7; rw [if_neg (by rw [h]; exact he)]
  refine br_D (p := (bs.length : Int) > 65536) (by kernel_rfl) (fun h => bad 12 (by decide) (by unfold decE7; rw [if_pos (by omega)]) (by intros; kernel_rfl)) (fun hlen => ?_)
  refine node_rnew (a := a) (cap := cap) (bs := bs) [.sl 1 (.var 2) (.var 3), .int .i64 (.var 0), .int .i64 (.var 1)] (fun a' c' => ⟨[0, 0], [], [], [bs.length, c'], [a']⟩) rfl (by intros; kernel_rfl) (fun ids w hf => hf.x) hl (by intros; kernel_rfl) rfl rfl (by kernel_rfl) (by intros; kernel_rfl) (fun _ _ => oneNil) ?_
  intro a' c' hc' hs' hfr
  obtain ⟨B, eB⟩ : ∃ x, x = (HX.cl a (bcells bs)).and (frow a' c' bs) := ⟨_, rfl⟩
  rw [← eB]
  have hok : RdOk B a' c' bs := ⟨fun w h => by rw [eB] at h; exact frow_cells h.2, fun k hk => by
    rw [eB]
    have hne : bs ≠ [] := fun q => hk.1 (by rw [q]; rfl)
    have h1 := hs' hne
    refine .inr ⟨fun q => ?_, ?_⟩
    · have : bs.length = 0 := by omega
      exact hne (List.eq_nil_of_length_eq_zero this)
    · have h2 : k = blk a' := hk.2
      rw [h2]
      cases a' with
      | none => cases h1
      | some z => rfl, hb, hl, hc'⟩
  have hcnt : ∀ (q : Nat × Int), ∀ w b, RdAt w b a' c' bs q.1 q.2 → Calls Try.prog 59 #[.pointer (some ⟨b, 0, none⟩), .int .i64 big] w (At1 w b 128 (.int .i64 (vaC big bs q : Int)) (rcells a' c' bs (stC big bs q).1 (stC big bs q).2)) := fun q w b h => rcount_any b a' c' bs q.1 q.2 big (by unfold I64; decide) w h
  refine node_rd (V := .int .i64 (vaC big bs (hq bs 0) : Int)) (ix := (hq bs 0).1) (bad := (hq bs 0).2) (ix' := (stC big bs (hq bs 0)).1) (bad' := (stC big bs (hq bs 0)).2) 1 ⟨[((stC big bs (hq bs 0)).1 : Int), (stC big bs (hq bs 0)).2, (vaC big bs (hq bs 0) : Int)], [], [], [bs.length, c'], [a']⟩ (fun b => #[.pointer (some ⟨b, 0, none⟩), .int .i64 big]) hok (hq_le bs 0) rfl rfl (by intros; kernel_rfl) (by intros; kernel_rfl) (hcnt (hq bs 0)) [.sl 2 (.var 4) (.var 5), .int .i64 (.var 2), .int .i64 (.var 3)] rfl (by intros; kernel_rfl) (by intros; kernel_rfl) (by kernel_rfl) (by kernel_rfl) oneNil ?_
  refine node_rd (V := .int .i64 (vaC big bs (hq bs 1) : Int)) (ix := (hq bs 1).1) (bad := (hq bs 1).2) (ix' := (stC big bs (hq bs 1)).1) (bad' := (stC big bs (hq bs 1)).2) 1 ⟨[((stC big bs (hq bs 1)).1 : Int), (stC big bs (hq bs 1)).2, (vaC big bs (hq bs 1) : Int)], [], [], [bs.length, c'], [a']⟩ (fun b => #[.pointer (some ⟨b, 0, none⟩), .int .i64 big]) hok (hq_le bs 1) rfl rfl (by intros; kernel_rfl) (by intros; kernel_rfl) (hcnt (hq bs 1)) [.sl 3 (.var 6) (.var 7), .int .i64 (.var 5), .int .i64 (.var 6)] rfl (by intros; kernel_rfl) (by intros; kernel_rfl) (by kernel_rfl) (by kernel_rfl) oneNil ?_
  refine node_rd (V := .int .i64 (vaC big bs (hq bs 2) : Int)) (ix := (hq bs 2).1) (bad := (hq bs 2).2) (ix' := (stC big bs (hq bs 2)).1) (bad' := (stC big bs (hq bs 2)).2) 1 ⟨[((stC big bs (hq bs 2)).1 : Int), (stC big bs (hq bs 2)).2, (vaC big bs (hq bs 2) : Int)], [], [], [bs.length, c'], [a']⟩ (fun b => #[.pointer (some ⟨b, 0, none⟩), .int .i64 big]) hok (hq_le bs 2) rfl rfl (by intros; kernel_rfl) (by intros; kernel_rfl) (hcnt (hq bs 2)) [.sl 4 (.var 8) (.var 9), .int .i64 (.var 8), .int .i64 (.var 9)] rfl (by intros; kernel_rfl) (by intros; kernel_rfl) (by kernel_rfl) (by kernel_rfl) oneNil ?_
  refine node_rd (V := .int .i64 (vaC big bs (hq bs 3) : Int)) (ix := (hq bs 3).1) (bad := (hq bs 3).2) (ix' := (stC big bs (hq bs 3)).1) (bad' := (stC big bs (hq bs 3)).2) 1 ⟨[((stC big bs (hq bs 3)).1 : Int), (stC big bs (hq bs 3)).2, (vaC big bs (hq bs 3) : Int)], [], [], [bs.length, c'], [a']⟩ (fun b => #[.pointer (some ⟨b, 0, none⟩), .int .i64 big]) hok (hq_le bs 3) rfl rfl (by intros; kernel_rfl) (by intros; kernel_rfl) (hcnt (hq bs 3)) [.sl 5 (.var 10) (.var 11), .int .i64 (.var 11), .int .i64 (.var 12)] rfl (by intros; kernel_rfl) (by intros; kernel_rfl) (by kernel_rfl) (by kernel_rfl) oneNil ?_
  obtain ⟨u, eu⟩ : ∃ x, x = useI (vaC big bs (hq bs 0) : Int) := ⟨_, rfl⟩
  have eu2 : useI (hk bs) = u := by rw [eu]; rfl
  refine node_P ⟨[u], [], [], [], []⟩ #[.int .i64 (vaC big bs (hq bs 0) : Int)] (.int .i64 u) (by intros; kernel_rfl) (by intros; kernel_rfl) (by kernel_rfl) (by kernel_rfl) (by kernel_rfl) oneNil (fun ids w2 hp hf => by rw [eu]; exact uses_any _ w2) ?_
  obtain ⟨q, eq⟩ : ∃ q, q = hq bs 4 := ⟨_, rfl⟩
  have hql : q.1 ≤ bs.length := by rw [eq]; exact hq_le bs 4
  rw [show stC big bs (hq bs 3) = q by rw [eq]; rfl]
  have hE : decE7 bs = if u = 0 ∧ q.2 = 0 then 26 else if doneB bs.length (q9 u bs q).1 (q9 u bs q).2 ≠ 0 then doneB bs.length (q9 u bs q).1 (q9 u bs q).2 else chkC (rdMc bs) := by
    unfold decE7 doneE
    rw [if_neg (by omega), eu2, ← eq]
  refine ⟨fun vs hx => vs = Vals.nil ∧ ¬ (u = 0 ∧ q.2 = 0) ∧ B = hx, ?_, ?_⟩
  · refine br_D (p := u = 0) (by kernel_rfl) (fun h => ?_) (fun h => again_V Vals.nil rfl (by intros; kernel_rfl) _ (fun w2 ids hf => ⟨hf.x, hf.sep⟩) ⟨rfl, fun z => h z.1, rfl⟩)
    refine node_PI ⟨[q.2], [], [], [], []⟩ (fun ids => #[.pointer (some ⟨idAt ids 1, 0, none⟩)]) (.int .i64 q.2) (by intros; kernel_rfl) (by intros; kernel_rfl) (by kernel_rfl) (by kernel_rfl) (by kernel_rfl) oneNil (fun ids w2 hp hf => rerr_any (idAt ids 1) a' c' bs q.1 q.2 w2 (hf.blk 1 128 _ rfl)) ?_
    refine br_D (p := q.2 = 0) (by kernel_rfl) (fun h2 => bad 26 (by decide) (by rw [hE, if_pos ⟨h, h2⟩]) (by intros; kernel_rfl)) (fun h2 => again_V Vals.nil rfl (by intros; kernel_rfl) _ (fun w2 ids hf => ⟨hf.x, hf.sep⟩) ⟨rfl, fun z => h2 z.2, rfl⟩)
  rintro vs hx hcn ⟨rfl, hno, rfl⟩
  rw [Env.add_nil]
  rw [if_neg hno] at hE
  refine node_fd (a := a') (cap := c') u q (vaC big bs (hq bs 0) : Int) (vaC big bs (hq bs 1) : Int) (vaC big bs (hq bs 2) : Int) (vaC big bs (hq bs 3) : Int) hok hql rfl rfl (by intros; kernel_rfl) (by intros; kernel_rfl) (by intros; kernel_rfl) [.sl 6 (.var 12) (.var 13), .int .i64 (.var 15), .int .i64 (.var 16)] [.int .i64 (.var 17), .int .i64 (.var 18), .int .i64 (.var 19), .int .i64 (.var 20), .int .i64 (.var 21), .int .i64 (.var 22), .int .i64 (.var 23), .int .i64 (.var 24), .int .i64 (.var 25), .int .i64 (.var 26), .sl 7 (.var 14) (.var 15), .sl 8 (.var 16) (.var 17), .sl 9 (.var 18) (.var 19), .int .i64 (.var 27), .int .i64 (.var 28), .int .i64 (.var 29), .int .i64 (.var 30), .int .i64 (.var 31), .int .i64 (.var 32), .int .i64 (.var 33), .int .i64 (.var 34), .int .i64 (.var 35), .int .i64 (.var 36), .int .i64 (.var 37), .sl 10 (.var 20) (.var 21)] rfl (by intros; kernel_rfl) (by intros; kernel_rfl) (by kernel_rfl) (by intros; kernel_rfl) ?_
  intro m hcon hmf
  have hcon2 : m.con = rdMc bs := by rw [hcon]; unfold rdMc; rw [← eq, eu2]; rfl
  have hwf : MsWf m := McWf.ms (by rw [hcon2]; exact rdMc_wf hb hl)
  obtain ⟨dn, edn⟩ : ∃ x, x = doneB bs.length (q9 u bs q).1 (q9 u bs q).2 := ⟨_, rfl⟩
  rw [← edn] at hE
  have hok2 : RdOk (B.and m.R) a' c' bs := ⟨fun w h => hok.cl w h.1, fun k h => .inl (hok.fr k h), hb, hl, hc'⟩
  refine node_rd (V := .int .i64 dn) (ix := (q9 u bs q).1) (bad := (q9 u bs q).2) (ix' := (q9 u bs q).1) (bad' := dn) 1 ⟨[((q9 u bs q).1 : Int), dn, dn], [], [], [bs.length, c'], [a']⟩ (fun b => #[.pointer (some ⟨b, 0, none⟩)]) hok2 (q9_le u hql) rfl rfl (by intros; kernel_rfl) (by intros; kernel_rfl) (fun w b h => by rw [edn]; exact rdone_any b a' c' bs _ _ w h.blk) [.sl 11 (.var 22) (.var 23), .int .i64 (.var 38), .int .i64 (.var 39)] rfl (by intros; kernel_rfl) (by intros; kernel_rfl) (by kernel_rfl) (by kernel_rfl) oneNil ?_
  refine br_D (p := dn ≠ 0) (by show (dn != 0) = _; rw [Bool.eq_iff_iff]; simp) (fun h => bad dn h (by rw [hE, if_pos h]) (by intros; kernel_rfl)) (fun h => ?_)
  rw [if_neg h, ← hcon2, ← chkC_is] at hE
  obtain ⟨ce, ece⟩ : ∃ x, x = chkM m := ⟨_, rfl⟩
  rw [← ece] at hE
  refine node_PI ⟨[ce], [], [], [], []⟩ (fun _ => #[m.val]) (.int .i64 ce) (by intros; kernel_rfl) (by intros; kernel_rfl) (by kernel_rfl) (by kernel_rfl) (by kernel_rfl) oneNil (fun ids w2 hp hf => by rw [ece]; exact mchk_any m w2 (R_X hf.x.2) hwf.fit (by have := hwf.slot; unfold I64 at this; omega)) ?_
  refine br_D (p := ce ≠ 0) (by show (ce != 0) = _; rw [Bool.eq_iff_iff]; simp) (fun h2 => bad ce h2 hE (by intros; kernel_rfl)) (fun h2 => ?_)
  have h0 : decE7 bs = 0 := by rw [hE]; exact Classical.not_not.1 h2
  intro ids w2 hp hf
  refine ⟨m, by rw [h0]; rfl, by unfold decC7; rw [if_pos h0]; exact hcon2, hf.x.2, fun k hk => ⟨(hmf k hk).1, (hf.sep k (.inr hk)).1⟩, hf.chg.below⟩
end Go.Proofs.Ytadgaefmoobcoaa

namespace Go.Proofs.Ytadgaefmoobcoaa
open Go.Eng
abbrev tRSame7b0 : List LV := [(tVi 21), (tVi 22), (tVi 23), (tVi 24), (tVi 25), (tVi 26), (tVi 27), (tVi 28), (tVi 29), (tVi 30), (tSl 4 8 9), (tSl 5 10 11), (tSl 6 12 13), (tVi 31), (tVi 32), (tVi 33), (tVi 34), (tVi 35), (tVi 36), (tVi 37), (tVi 38), (tVi 39), (tVi 40), (tVi 41), (tSl 7 14 15)]
abbrev tRSame7b1 : List LV := [(tVi 0), (tVi 1), (tVi 2), (tVi 3), (tVi 4), (tVi 5), (tVi 6), (tVi 7), (tVi 8), (tVi 9), (tSl 0 0 1), (tSl 1 2 3), (tSl 2 4 5), (tVi 10), (tVi 11), (tVi 12), (tVi 13), (tVi 14), (tVi 15), (tVi 16), (tVi 17), (tVi 18), (tVi 19), (tVi 20), (tSl 3 6 7)]
abbrev tRSame7m0 : Mem := ⟨[(37, tRSame7b1), (37, tRSame7b0)], ⟨42, 0, 0, 16, 8⟩⟩
abbrev tRSame7m1 : Mem := ⟨[(37, tRSame7b1), (37, tRSame7b0)], ⟨42, 1, 0, 16, 8⟩⟩
abbrev tRSame7m2 : Mem := ⟨[(37, tRSame7b1), (37, tRSame7b0)], ⟨42, 2, 0, 16, 8⟩⟩
abbrev tRSame7m3 : Mem := ⟨[(37, tRSame7b1), (37, tRSame7b0)], ⟨42, 3, 0, 16, 8⟩⟩
set_option maxRecDepth 100000 in
theorem tRSame7 : (runF ⟨tt, fns, {}⟩ (Try.f17.body.getD .skip) Try.f17.results.toList (entry Try.f17.ntmps [.agg [.int .i64 (.var 0), .int .i64 (.var 1), .int .i64 (.var 2), .int .i64 (.var 3), .int .i64 (.var 4), .int .i64 (.var 5), .int .i64 (.var 6), .int .i64 (.var 7), .int .i64 (.var 8), .int .i64 (.var 9), .sl 0 (.var 0) (.var 1), .sl 1 (.var 2) (.var 3), .sl 2 (.var 4) (.var 5), .int .i64 (.var 10), .int .i64 (.var 11), .int .i64 (.var 12), .int .i64 (.var 13), .int .i64 (.var 14), .int .i64 (.var 15), .int .i64 (.var 16), .int .i64 (.var 17), .int .i64 (.var 18), .int .i64 (.var 19), .int .i64 (.var 20), .sl 3 (.var 6) (.var 7)], .agg [.int .i64 (.var 21), .int .i64 (.var 22), .int .i64 (.var 23), .int .i64 (.var 24), .int .i64 (.var 25), .int .i64 (.var 26), .int .i64 (.var 27), .int .i64 (.var 28), .int .i64 (.var 29), .int .i64 (.var 30), .sl 4 (.var 8) (.var 9), .sl 5 (.var 10) (.var 11), .sl 6 (.var 12) (.var 13), .int .i64 (.var 31), .int .i64 (.var 32), .int .i64 (.var 33), .int .i64 (.var 34), .int .i64 (.var 35), .int .i64 (.var 36), .int .i64 (.var 37), .int .i64 (.var 38), .int .i64 (.var 39), .int .i64 (.var 40), .int .i64 (.var 41), .sl 7 (.var 14) (.var 15)]] [] ⟨42, 0, 0, 16, 8⟩)) =
  (.br (.cmp .neq (.var 0) (.var 21)) (.done (.lf (.bool (.lit .false))) tRSame7m0) (.br (.cmp .neq (.var 1) (.var 22)) (.done (.lf (.bool (.lit .false))) tRSame7m0) (.br (.cmp .neq (.var 2) (.var 23)) (.done (.lf (.bool (.lit .false))) tRSame7m0) (.br (.cmp .neq (.var 3) (.var 24)) (.done (.lf (.bool (.lit .false))) tRSame7m0) (.br (.not (.and (.cmp .eql (.var 4) (.var 25)) (.cmp .eql (.var 5) (.var 26)))) (.done (.lf (.bool (.lit .false))) tRSame7m0) (.br (.cmp .neq (.var 6) (.var 27)) (.done (.lf (.bool (.lit .false))) tRSame7m0) (.br (.cmp .neq (.var 7) (.var 28)) (.done (.lf (.bool (.lit .false))) tRSame7m0) (.br (.cmp .neq (.var 8) (.var 29)) (.done (.lf (.bool (.lit .false))) tRSame7m0) (.call 48 [(.agg [(tVi 9), (tSl 0 0 1), (tSl 1 2 3)]), (.agg [(tVi 30), (tSl 4 8 9), (tSl 5 10 11)])] tRSame7m0 (.lf (.bool (.var 0))) tRSame7m1 (.br (.var 0) (.call 49 [(.lf (tSl 2 4 5)), (.lf (tSl 6 12 13))] tRSame7m1 (.lf (.bool (.var 1))) tRSame7m2 (.br (.var 1) (.br (.and (.cmp .eql (.var 10) (.var 31)) (.and (.cmp .eql (.var 11) (.var 32)) (.and (.cmp .eql (.var 12) (.var 33)) (.and (.cmp .eql (.var 13) (.var 34)) (.and (.cmp .eql (.var 14) (.var 35)) (.and (.cmp .eql (.var 15) (.var 36)) (.and (.cmp .eql (.var 16) (.var 37)) (.cmp .eql (.var 17) (.var 38))))))))) (.br (.and (.cmp .eql (.var 18) (.var 39)) (.and (.cmp .eql (.var 19) (.var 40)) (.cmp .eql (.var 20) (.var 41)))) (.call 18 [(.lf (tSl 3 6 7)), (.lf (tSl 7 14 15))] tRSame7m2 (.lf (.bool (.var 2))) tRSame7m3 (.done (.lf (.bool (.var 2))) tRSame7m3)) (.done (.lf (.bool (.lit .false))) tRSame7m2)) (.done (.lf (.bool (.lit .false))) tRSame7m2)) (.done (.lf (.bool (.lit .false))) tRSame7m2))) (.done (.lf (.bool (.lit .false))) tRSame7m1))))))))))) := by kernel_rfl
abbrev tRSameVst1 : Tree := (.need (.inb 0 (.var 0) (.nat 0)) (.need (.inb 1 (.var 0) (.nat 2)) (.par (.ld .false (.adr 0 (.var 0) 6 3) [(tVi 7), (tSl 2 4 5), (tSl 3 6 7)] ⟨[], ⟨7, 0, 0, 4, 2⟩⟩ ⟨[], ⟨8, 0, 0, 8, 4⟩⟩ (.ld .false (.adr 1 (.var 0) 6 3) [(tVi 8), (tSl 4 8 9), (tSl 5 10 11)] ⟨[], ⟨8, 0, 0, 8, 4⟩⟩ ⟨[], ⟨9, 0, 0, 12, 6⟩⟩ (.call 48 [(.agg [(tVi 7), (tSl 2 4 5), (tSl 3 6 7)]), (.agg [(tVi 8), (tSl 4 8 9), (tSl 5 10 11)])] ⟨[], ⟨9, 0, 0, 12, 6⟩⟩ (.lf (.bool (.var 0))) ⟨[], ⟨9, 1, 0, 12, 6⟩⟩ (.br (.not (.var 0)) (.done (.lf (.bool (.lit .false))) ⟨[], ⟨9, 1, 0, 12, 6⟩⟩) (.again 4 ⟨[(.op .add .i64 (.var 0) (.lit 1))], [], [], [], []⟩ ⟨[], ⟨9, 1, 0, 12, 6⟩⟩))))) (.ld .false (.adr 1 (.var 0) 6 3) [(tVi 7), (tSl 2 4 5), (tSl 3 6 7)] ⟨[], ⟨7, 0, 0, 4, 2⟩⟩ ⟨[], ⟨8, 0, 0, 8, 4⟩⟩ (.ld .false (.adr 0 (.var 0) 6 3) [(tVi 8), (tSl 4 8 9), (tSl 5 10 11)] ⟨[], ⟨8, 0, 0, 8, 4⟩⟩ ⟨[], ⟨9, 0, 0, 12, 6⟩⟩ (.call 48 [(.agg [(tVi 8), (tSl 4 8 9), (tSl 5 10 11)]), (.agg [(tVi 7), (tSl 2 4 5), (tSl 3 6 7)])] ⟨[], ⟨9, 0, 0, 12, 6⟩⟩ (.lf (.bool (.var 0))) ⟨[], ⟨9, 1, 0, 12, 6⟩⟩ (.br (.not (.var 0)) (.done (.lf (.bool (.lit .false))) ⟨[], ⟨9, 1, 0, 12, 6⟩⟩) (.again 4 ⟨[(.op .add .i64 (.var 0) (.lit 1))], [], [], [], []⟩ ⟨[], ⟨9, 1, 0, 12, 6⟩⟩))))))))
abbrev tRSameVst0 : Tree := (.need (.inb 0 (.var 0) (.nat 0)) (.need (.inb 1 (.var 0) (.nat 2)) (.par (.ld .false (.adr 0 (.var 0) 6 1) [(tVi 3), (tVi 4)] ⟨[], ⟨3, 0, 0, 4, 2⟩⟩ ⟨[], ⟨5, 0, 0, 4, 2⟩⟩ (.ld .false (.adr 1 (.var 0) 6 1) [(tVi 5), (tVi 6)] ⟨[], ⟨5, 0, 0, 4, 2⟩⟩ ⟨[], ⟨7, 0, 0, 4, 2⟩⟩ (.br (.not (.and (.cmp .eql (.var 3) (.var 5)) (.cmp .eql (.var 4) (.var 6)))) (.done (.lf (.bool (.lit .false))) ⟨[], ⟨7, 0, 0, 4, 2⟩⟩) tRSameVst1))) (.ld .false (.adr 1 (.var 0) 6 1) [(tVi 3), (tVi 4)] ⟨[], ⟨3, 0, 0, 4, 2⟩⟩ ⟨[], ⟨5, 0, 0, 4, 2⟩⟩ (.ld .false (.adr 0 (.var 0) 6 1) [(tVi 5), (tVi 6)] ⟨[], ⟨5, 0, 0, 4, 2⟩⟩ ⟨[], ⟨7, 0, 0, 4, 2⟩⟩ (.br (.not (.and (.cmp .eql (.var 5) (.var 3)) (.cmp .eql (.var 6) (.var 4)))) (.done (.lf (.bool (.lit .false))) ⟨[], ⟨7, 0, 0, 4, 2⟩⟩) tRSameVst1))))))
set_option maxRecDepth 100000 in
theorem tRSameVs : (runF ⟨tt, fns, { loops := [(4, ⟨[(13, .int .i64)], []⟩)] }⟩ (Try.f49.body.getD .skip) Try.f49.results.toList (entry Try.f49.ntmps [.lf (.sl 0 (.var 0) (.var 1)), .lf (.sl 1 (.var 2) (.var 3))] [] ⟨0, 0, 0, 4, 2⟩)) =
  (.br (.cmp .neq (.nat 0) (.nat 2)) (.done (.lf (.bool (.lit .false))) ⟨[], ⟨0, 0, 0, 4, 2⟩⟩) (.loop 4 ⟨[(.lit 0)], [], [], [], []⟩ ⟨[], ⟨0, 0, 0, 4, 2⟩⟩ ⟨[], ⟨1, 0, 0, 4, 2⟩⟩ (.br (.cmp .lss (.var 0) (.nat 0)) (.need (.inb 0 (.var 0) (.nat 0)) (.need (.inb 1 (.var 0) (.nat 2)) (.par (.ld .false (.adr 0 (.var 0) 6 0) [(tVi 1)] ⟨[], ⟨1, 0, 0, 4, 2⟩⟩ ⟨[], ⟨2, 0, 0, 4, 2⟩⟩ (.ld .false (.adr 1 (.var 0) 6 0) [(tVi 2)] ⟨[], ⟨2, 0, 0, 4, 2⟩⟩ ⟨[], ⟨3, 0, 0, 4, 2⟩⟩ (.br (.cmp .neq (.var 1) (.var 2)) (.done (.lf (.bool (.lit .false))) ⟨[], ⟨3, 0, 0, 4, 2⟩⟩) tRSameVst0))) (.ld .false (.adr 1 (.var 0) 6 0) [(tVi 1)] ⟨[], ⟨1, 0, 0, 4, 2⟩⟩ ⟨[], ⟨2, 0, 0, 4, 2⟩⟩ (.ld .false (.adr 0 (.var 0) 6 0) [(tVi 2)] ⟨[], ⟨2, 0, 0, 4, 2⟩⟩ ⟨[], ⟨3, 0, 0, 4, 2⟩⟩ (.br (.cmp .neq (.var 2) (.var 1)) (.done (.lf (.bool (.lit .false))) ⟨[], ⟨3, 0, 0, 4, 2⟩⟩) tRSameVst0)))))) (.done (.lf (.bool (.lit .true))) ⟨[], ⟨1, 0, 0, 4, 2⟩⟩)))) := by kernel_rfl
abbrev tCpVs7b0 : List LV := [(tVi 1), (tVi 2), (tVi 3), (tVi 5), (tSl 4 8 9), (tSl 5 10 11)]
abbrev tCpVs7b1 : List LV := [(tVi 1), (tVi 2), (tVi 3), (tVi 4), (tSl 2 4 5), (tSl 3 6 7)]
abbrev tCpVs7m0 : Mem := ⟨[(59, []), (59, tCpVs7b0), (59, tCpVs7b0)], ⟨6, 0, 0, 14, 7⟩⟩
set_option maxRecDepth 100000 in
theorem tCpVs7 : (runF ⟨tt, fns, {loops := [(3, ⟨[(9, .int .i64), (3, .sl)], []⟩)]}⟩ (Try.f14.body.getD .skip) Try.f14.results.toList (entry Try.f14.ntmps [.lf (.sl 0 (.var 0) (.var 1))] [] ⟨0, 0, 0, 2, 1⟩)) =
  (.loop 3 ⟨[(.lit 0)], [], [], [(.lit 0), (.lit 0)], [(.nm 0 0)]⟩ ⟨[(59, [])], ⟨0, 0, 0, 2, 1⟩⟩ ⟨[(59, [])], ⟨1, 0, 0, 4, 2⟩⟩ (.br (.cmp .lss (.var 0) (.nat 0)) (.need (.inb 0 (.var 0) (.nat 0)) (.ld .false (.adr 0 (.var 0) 6 0) tCpVs7b1 ⟨[(59, [])], ⟨1, 0, 0, 4, 2⟩⟩ ⟨[(59, [])], ⟨5, 0, 0, 8, 4⟩⟩ (.call 33 [(.agg [(tVi 4), (tSl 2 4 5), (tSl 3 6 7)])] ⟨[(59, []), (59, tCpVs7b1)], ⟨5, 0, 0, 8, 4⟩⟩ (.agg [(tVi 5), (tSl 4 8 9), (tSl 5 10 11)]) ⟨[(59, []), (59, tCpVs7b1)], ⟨6, 0, 0, 12, 6⟩⟩ (.gen (.call ⟨(.builtin .append), #[(.tmp 20), (.tmp 22)], #[28, 28]⟩) 28 [(20, (.lf (tSl 1 2 3))), (22, (.lf (.nsl 2 0 1 1)))] ⟨[(59, []), (59, tCpVs7b0), (59, tCpVs7b0)], ⟨6, 0, 0, 12, 6⟩⟩ (.some (.lf (tSl 6 12 13))) tCpVs7m0 (.again 3 ⟨[(.op .add .i64 (.var 0) (.lit 1))], [], [], [(.var 12), (.var 13)], [(.var 6)]⟩ tCpVs7m0))))) (.done (.lf (tSl 1 2 3)) ⟨[(59, [])], ⟨1, 0, 0, 4, 2⟩⟩))) := by kernel_rfl
abbrev tCpM7b0 : List LV := [(tVi 0), (tVi 1), (tVi 2), (tVi 3), (tVi 4), (tVi 5), (tVi 6), (tVi 7), (tVi 8), (tVi 21), (tSl 4 8 9), (tSl 5 10 11), (tSl 6 12 13), (tVi 10), (tVi 11), (tVi 12), (tVi 13), (tVi 14), (tVi 15), (tVi 16), (tVi 17), (tVi 18), (tVi 19), (tVi 20), (tSl 7 14 15)]
abbrev tCpM7b1 : List LV := [(tVi 0), (tVi 1), (tVi 2), (tVi 3), (tVi 4), (tVi 5), (tVi 6), (tVi 7), (tVi 8), (tVi 21), (tSl 4 8 9), (tSl 5 10 11), (tSl 6 12 13), (tVi 10), (tVi 11), (tVi 12), (tVi 13), (tVi 14), (tVi 15), (tVi 16), (tVi 17), (tVi 18), (tVi 19), (tVi 20), (tSl 3 6 7)]
abbrev tCpM7b2 : List LV := [(tVi 0), (tVi 1), (tVi 2), (tVi 3), (tVi 4), (tVi 5), (tVi 6), (tVi 7), (tVi 8), (tVi 21), (tSl 4 8 9), (tSl 5 10 11), (tSl 2 4 5), (tVi 10), (tVi 11), (tVi 12), (tVi 13), (tVi 14), (tVi 15), (tVi 16), (tVi 17), (tVi 18), (tVi 19), (tVi 20), (tSl 3 6 7)]
abbrev tCpM7b3 : List LV := [(tVi 0), (tVi 1), (tVi 2), (tVi 3), (tVi 4), (tVi 5), (tVi 6), (tVi 7), (tVi 8), (tVi 9), (tSl 0 0 1), (tSl 1 2 3), (tSl 2 4 5), (tVi 10), (tVi 11), (tVi 12), (tVi 13), (tVi 14), (tVi 15), (tVi 16), (tVi 17), (tVi 18), (tVi 19), (tVi 20), (tSl 3 6 7)]
abbrev tCpM7b4 : List LV := [(tLi 0), (tLi 0), (tLi 0), (tLi 0), (tLi 0), (tLi 0), (tLi 0), (tLi 0), (tLi 0), (tLi 0), .nilsl, .nilsl, .nilsl, (tLi 0), (tLi 0), (tLi 0), (tLi 0), (tLi 0), (tLi 0), (tLi 0), (tLi 0), (tLi 0), (tLi 0), (tLi 0), .nilsl]
set_option maxRecDepth 100000 in
theorem tCpM7 : (runF ⟨tt, fns, {}⟩ (Try.f11.body.getD .skip) Try.f11.results.toList (entry Try.f11.ntmps [.agg [.int .i64 (.var 0), .int .i64 (.var 1), .int .i64 (.var 2), .int .i64 (.var 3), .int .i64 (.var 4), .int .i64 (.var 5), .int .i64 (.var 6), .int .i64 (.var 7), .int .i64 (.var 8), .int .i64 (.var 9), .sl 0 (.var 0) (.var 1), .sl 1 (.var 2) (.var 3), .sl 2 (.var 4) (.var 5), .int .i64 (.var 10), .int .i64 (.var 11), .int .i64 (.var 12), .int .i64 (.var 13), .int .i64 (.var 14), .int .i64 (.var 15), .int .i64 (.var 16), .int .i64 (.var 17), .int .i64 (.var 18), .int .i64 (.var 19), .int .i64 (.var 20), .sl 3 (.var 6) (.var 7)]] [] ⟨21, 0, 0, 8, 4⟩)) =
  (.call 33 [(.agg [(tVi 9), (tSl 0 0 1), (tSl 1 2 3)])] ⟨[(37, tCpM7b3), (37, tCpM7b4)], ⟨21, 0, 0, 8, 4⟩⟩ (.agg [(tVi 21), (tSl 4 8 9), (tSl 5 10 11)]) ⟨[(37, tCpM7b3), (37, tCpM7b4)], ⟨22, 0, 0, 12, 6⟩⟩ (.call 14 [(.lf (tSl 2 4 5))] ⟨[(37, tCpM7b2), (37, tCpM7b4)], ⟨22, 0, 0, 12, 6⟩⟩ (.lf (tSl 6 12 13)) ⟨[(37, tCpM7b2), (37, tCpM7b4)], ⟨22, 0, 0, 14, 7⟩⟩ (.call 20 [(.lf (tSl 3 6 7))] ⟨[(37, tCpM7b1), (37, tCpM7b4)], ⟨22, 0, 0, 14, 7⟩⟩ (.lf (tSl 7 14 15)) ⟨[(37, tCpM7b1), (37, tCpM7b4)], ⟨22, 0, 0, 16, 8⟩⟩ (.done (.agg tCpM7b0) ⟨[(37, tCpM7b0), (37, tCpM7b0)], ⟨22, 0, 0, 16, 8⟩⟩)))) := by kernel_rfl
abbrev tHead7b0 : List LV := [(tVi 1), (tVi 2), (tVi 3), (tVi 4), (tVi 5), (tVi 6), (tVi 7), (tVi 8), (tVi 9), (tVi 10), (tSl 1 2 3), (tSl 2 4 5), (tSl 3 6 7), (tVi 11), (tVi 12), (tVi 13), (tVi 14), (tVi 15), (tVi 16), (tVi 17), (tVi 18), (tVi 19), (tVi 20), (tVi 21), (tSl 4 8 9)]
abbrev tHead7b1 : List LV := [(tLi 8), (tLi 2), (tLi 3), (tLi 0), (tLi 0), (tLi 0), (tLi 5), (tLi 0), (tLi 0), (tLi 0), .nilsl, .nilsl, .nilsl, (tLi 0), (tLi 0), (tLi 0), (tLi 0), (tLi 0), (tLi 0), (tLi 0), (tLi 0), (tLi 0), (tLi 0), (tLi 0), .nilsl]
abbrev tHead7b2 : List LV := [(.int .u8 (.lit 1)), (.int .u8 (.lit 8)), (.int .u8 (.lit 1)), (.int .u8 (.lit 2)), (.int .u8 (.lit 1)), (.int .u8 (.lit 3)), (.int .u8 (.lit 0)), (.int .u8 (.lit 1)), (.int .u8 (.lit 5))]
abbrev tHead7m0 : Mem := ⟨[(37, tHead7b1), (5, tHead7b2), (37, tHead7b0), (5, tHead7b2)], ⟨23, 1, 0, 10, 5⟩⟩
abbrev tHead7m1 : Mem := ⟨[(37, tHead7b1), (5, tHead7b2), (37, tHead7b0), (5, tHead7b2)], ⟨23, 2, 0, 10, 5⟩⟩
set_option maxRecDepth 100000 in
theorem tHead7 : (runF ⟨tt, fns, {}⟩ (Try.f9.body.getD .skip) Try.f9.results.toList (entry Try.f9.ntmps [] [] ⟨0, 0, 0, 0, 0⟩)) =
  (.call 16 [(.agg tHead7b1)] ⟨[(37, tHead7b1)], ⟨0, 0, 0, 0, 0⟩⟩ (.tup [(.false, [(tSl 0 0 1)]), (.false, [(tVi 0)])]) ⟨[(37, tHead7b1)], ⟨1, 0, 0, 2, 1⟩⟩ (.call 22 [(.lf (.nsl 1 0 9 9))] ⟨[(37, tHead7b1), (5, tHead7b2)], ⟨1, 0, 0, 2, 1⟩⟩ (.tup [(.true, tHead7b0), (.false, [(tVi 22)])]) ⟨[(37, tHead7b1), (5, tHead7b2)], ⟨23, 0, 0, 10, 5⟩⟩ (.br (.cmp .eql (.var 0) (.lit 0)) (.call 18 [(.lf (tSl 0 0 1)), (.lf (.nsl 3 0 9 9))] ⟨[(37, tHead7b1), (5, tHead7b2), (37, tHead7b0), (5, tHead7b2)], ⟨23, 0, 0, 10, 5⟩⟩ (.lf (.bool (.var 0))) tHead7m0 (.br (.var 0) (.br (.cmp .eql (.var 22) (.lit 0)) (.call 17 [(.agg tHead7b0), (.agg tHead7b1)] tHead7m0 (.lf (.bool (.var 1))) tHead7m1 (.done (.lf (.bool (.var 1))) tHead7m1)) (.done (.lf (.bool (.lit .false))) tHead7m0)) (.done (.lf (.bool (.lit .false))) tHead7m0))) (.done (.lf (.bool (.lit .false))) ⟨[(37, tHead7b1), (5, tHead7b2), (37, tHead7b0)], ⟨23, 0, 0, 10, 5⟩⟩)))) := by kernel_rfl
end Go.Proofs.Ytadgaefmoobcoaa

namespace Go.Proofs.Ytadgaefmoobcoaa
open Go.ChangeShapes Go.WideShapes Go.ChangeAt Go.RowKit Go.Syn Go.Eng
set_option linter.unusedVariables false
set_option linter.unusedSimpArgs false
set_option maxRecDepth 100000
noncomputable def voSame (a b : List (Vo Vl)) : Bool := @decide (a = b) (Classical.propDecidable _)
noncomputable def mcSame (a b : Mc) : Bool := @decide (a = b) (Classical.propDecidable _)
theorem voSame_t {a b : List (Vo Vl)} (h : a = b) : voSame a b = true := @decide_eq_true _ (Classical.propDecidable _) h
theorem voSame_f {a b : List (Vo Vl)} (h : ¬ a = b) : voSame a b = false := @decide_eq_false _ (Classical.propDecidable _) h
theorem mcSame_t {a b : Mc} (h : a = b) : mcSame a b = true := @decide_eq_true _ (Classical.propDecidable _) h
theorem mcSame_f {a b : Mc} (h : ¬ a = b) : mcSame a b = false := @decide_eq_false _ (Classical.propDecidable _) h
theorem vlsOf_get {xs : List (Vo Pv)} {k : Nat} {x : Vo Pv} (h : xs[k]? = some x) : (vlsOf xs)[k]? = some (Vo.map Pv.v x) := by unfold vlsOf; rw [List.getElem?_map, h]; rfl
theorem vlsOf_len (xs : List (Vo Pv)) : (vlsOf xs).length = xs.length := List.length_map _
set_option maxHeartbeats 2000000 in
theorem rsamevs_any (a : Option Addr) (c : Nat) (xs : List (Vo Pv)) (b : Option Addr) (d : Nat) (ys : List (Vo Pv)) (w : World) (H : (voX a xs).X w) (H2 : (voX b ys).X w) (hf : ∀ x ∈ xs, VlFit x.v.v) (hf2 : ∀ x ∈ ys, VlFit x.v.v) (hl : xs.length ≤ 4611686018427387904) :
    Calls Try.prog 49 #[.slice a xs.length c, .slice b ys.length d] w (PureAt w (.bool (voSame (vlsOf xs) (vlsOf ys)))) := by
  refine calls_at (tab_ok _) Try.func49 rfl tRSameVs (ρ := ⟨[], [], [], [xs.length, c, ys.length, d], [a, b]⟩) (ids := []) (hx := (voX a xs).and (voX b ys)) rfl (Facts.initq rfl oneNil ⟨H, H2⟩ (fun k hk => hk.elim (voX_sep H k) (voX_sep H2 k))) ?_
  have no : ∀ {m2 : Mem} {ρ : Env} {hx : HX} {S : Stack}, ¬ vlsOf xs = vlsOf ys → (Tree.done (.lf (.bool (.lit false))) m2).holds ⟨Try.prog, w, fun _ => False, PureAt w (.bool (voSame (vlsOf xs) (vlsOf ys)))⟩ ρ [] hx S := fun h => pure_done fun _ => by rw [voSame_f h]; rfl
  refine br_D (p := (xs.length : Int) ≠ (ys.length : Int)) (by show ((xs.length : Int) != (ys.length : Int)) = _; rw [Bool.eq_iff_iff]; simp) (fun h => no fun e => h (by have := congrArg List.length e; rw [vlsOf_len, vlsOf_len] at this; omega)) (fun hlen => ?_)
  have hlen : xs.length = ys.length := by omega
  refine ⟨fun vs hx m => ∃ k : Nat, m = xs.length - k ∧ k ≤ xs.length ∧ (vlsOf xs).take k = (vlsOf ys).take k ∧ vs = ⟨[(k : Int)], [], [], [], []⟩ ∧ (voX a xs).and (voX b ys) = hx, fun ids w2 hp hf => ⟨_, xs.length, ⟨hf.x, hf.sep⟩, 0, rfl, Nat.zero_le _, rfl, by kernel_rfl, rfl⟩, ?_⟩
  rintro vs hx' m hcnt ⟨k, rfl, hk, heq, rfl, rfl⟩
  refine holds_env (ρ' := ⟨[(k : Int)], [], [], [xs.length, c, ys.length, d], [a, b]⟩) rfl ?_
  refine br_D (p := (k : Int) < (xs.length : Int)) (by kernel_rfl) (fun hlt => ?_) (fun hlt => pure_done fun _ => ?_)
  · have hlt : k < xs.length := by omega
    obtain ⟨x, hx⟩ : ∃ b, xs[k]? = some b := ⟨_, List.getElem?_eq_getElem hlt⟩
    obtain ⟨y, hy⟩ : ∃ b, ys[k]? = some b := ⟨_, List.getElem?_eq_getElem (by omega)⟩
    have gx := vlsOf_get hx
    have gy := vlsOf_get hy
    have hxv := voX_at H hf (List.mem_of_getElem? hx)
    have hyv := voX_at H2 hf2 (List.mem_of_getElem? hy)
    have hne : ¬ (x.s = y.s ∧ x.r = y.r ∧ x.n = y.n ∧ x.v.v = y.v.v) → ¬ vlsOf xs = vlsOf ys := fun h e => h (by
      rw [e, gy] at gx
      have e2 : Vo.map Pv.v x = Vo.map Pv.v y := (Option.some.inj gx).symm
      exact ⟨congrArg (fun z : Vo Vl => z.s) e2, congrArg (fun z : Vo Vl => z.r) e2, congrArg (fun z : Vo Vl => z.n) e2, congrArg (fun z : Vo Vl => z.v) e2⟩)
    obtain ⟨s1, a1⟩ := vo_part H hx 0 [.int .i64 x.s] (fun j u hj => by cases j with | zero => exact hj | succ j => cases hj) (by simp)
    obtain ⟨_, a2⟩ := vo_part H hx 1 [.int .i64 x.r, .int .i64 x.n] (fun j u hj => by rcases j with _ | _ | j; exact hj; exact hj; cases hj) (by simp)
    obtain ⟨_, a3⟩ := vo_part H hx 3 x.v.cells (fun j u hj => by rcases j with _ | _ | _ | j; exact hj; exact hj; exact hj; cases hj) (by simp [Pv.cells])
    obtain ⟨s2, b1⟩ := vo_part H2 hy 0 [.int .i64 y.s] (fun j u hj => by cases j with | zero => exact hj | succ j => cases hj) (by simp)
    obtain ⟨_, b2⟩ := vo_part H2 hy 1 [.int .i64 y.r, .int .i64 y.n] (fun j u hj => by rcases j with _ | _ | j; exact hj; exact hj; cases hj) (by simp)
    obtain ⟨_, b3⟩ := vo_part H2 hy 3 y.v.cells (fun j u hj => by rcases j with _ | _ | _ | j; exact hj; exact hj; exact hj; cases hj) (by simp [Pv.cells])
    have hwk : IntKind.i64.wrap ((k : Int) + 1) = ((k + 1 : Nat) : Int) := by rw [wrap_i64 (by omega)]; omega
    have fin : x.s = y.s → (x.r = y.r ∧ x.n = y.n) → x.v.v = y.v.v → ∀ {mm : Mem} {ρ : Env} {es : Vec} {S : Stack}, (∀ ids, es.den ρ ids = ⟨[IntKind.i64.wrap ((k : Int) + 1)], [], [], [], []⟩) → (Tree.again 4 es mm).holds ⟨Try.prog, w, fun _ => False, PureAt w (.bool (voSame (vlsOf xs) (vlsOf ys)))⟩ ρ [] ((voX a xs).and (voX b ys)) ((4, fun vs' hx'' => ∃ n', n' < xs.length - k ∧ ∃ k : Nat, n' = xs.length - k ∧ k ≤ xs.length ∧ (vlsOf xs).take k = (vlsOf ys).take k ∧ vs' = ⟨[(k : Int)], [], [], [], []⟩ ∧ (voX a xs).and (voX b ys) = hx'') :: S) := fun e1 e2 e3 {mm ρ es S} hes =>
      again_V ⟨[IntKind.i64.wrap ((k : Int) + 1)], [], [], [], []⟩ rfl hes _ (fun w2 ids hf => ⟨hf.x, hf.sep⟩) ⟨xs.length - (k + 1), by omega, k + 1, rfl, by omega, (take_stepV gx gy heq).2 (by unfold Vo.map; rw [e1, e2.1, e2.2, e3]), by rw [hwk], rfl⟩
    refine need_k (a.isSome = true ∧ 0 ≤ (k : Int) ∧ (k : Int) < (xs.length : Int)) (by kernel_rfl) ⟨s1, by omega, by omega⟩ ?_
    refine need_k (b.isSome = true ∧ 0 ≤ (k : Int) ∧ (k : Int) < (ys.length : Int)) (by kernel_rfl) ⟨s2, by omega, by omega⟩ ?_
    refine par_i ?_ ?_
    · skip
      refine node_ldx ⟨[x.s], [], [], [], []⟩ (.pointer (some (((a.getD ⟨0, 0, none⟩).add (k * 6)).add 0))) [.int .i64 x.s] (by intros; kernel_rfl) (by intros; kernel_rfl) a1 ⟨by kernel_rfl, by kernel_rfl⟩ ?_
      refine node_ldx ⟨[y.s], [], [], [], []⟩ (.pointer (some (((b.getD ⟨0, 0, none⟩).add (k * 6)).add 0))) [.int .i64 y.s] (by intros; kernel_rfl) (by intros; kernel_rfl) b1 ⟨by kernel_rfl, by kernel_rfl⟩ ?_
      refine br_B (x.s != y.s) (by kernel_rfl) (fun h => no (hne fun q => by rw [q.1] at h; simp at h)) (fun h1 => ?_)
      refine need_k (a.isSome = true ∧ 0 ≤ (k : Int) ∧ (k : Int) < (xs.length : Int)) (by kernel_rfl) ⟨s1, by omega, by omega⟩ ?_
      refine need_k (b.isSome = true ∧ 0 ≤ (k : Int) ∧ (k : Int) < (ys.length : Int)) (by kernel_rfl) ⟨s2, by omega, by omega⟩ ?_
      refine par_i ?_ ?_
      · skip
        refine node_ldx ⟨[x.r, x.n], [], [], [], []⟩ (.pointer (some (((a.getD ⟨0, 0, none⟩).add (k * 6)).add 1))) [.int .i64 x.r, .int .i64 x.n] (by intros; kernel_rfl) (by intros; kernel_rfl) a2 ⟨by kernel_rfl, by kernel_rfl⟩ ?_
        refine node_ldx ⟨[y.r, y.n], [], [], [], []⟩ (.pointer (some (((b.getD ⟨0, 0, none⟩).add (k * 6)).add 1))) [.int .i64 y.r, .int .i64 y.n] (by intros; kernel_rfl) (by intros; kernel_rfl) b2 ⟨by kernel_rfl, by kernel_rfl⟩ ?_
        refine br_B (!((x.r == y.r) && (x.n == y.n))) (by kernel_rfl) (fun h => no (hne fun q => by rw [q.2.1, q.2.2.1] at h; simp at h)) (fun h2 => ?_)
        refine need_k (a.isSome = true ∧ 0 ≤ (k : Int) ∧ (k : Int) < (xs.length : Int)) (by kernel_rfl) ⟨s1, by omega, by omega⟩ ?_
        refine need_k (b.isSome = true ∧ 0 ≤ (k : Int) ∧ (k : Int) < (ys.length : Int)) (by kernel_rfl) ⟨s2, by omega, by omega⟩ ?_
        refine par_i ?_ ?_
        · skip
          refine node_ldx ⟨[x.v.v.k], [], [], [x.v.v.cs.length, x.v.c1, x.v.v.ns.length, x.v.c2], [x.v.a1, x.v.a2]⟩ (.pointer (some (((a.getD ⟨0, 0, none⟩).add (k * 6)).add 3))) x.v.cells (by intros; kernel_rfl) (by intros; kernel_rfl) a3 ⟨by kernel_rfl, by kernel_rfl⟩ ?_
          refine node_ldx ⟨[y.v.v.k], [], [], [y.v.v.cs.length, y.v.c1, y.v.v.ns.length, y.v.c2], [y.v.a1, y.v.a2]⟩ (.pointer (some (((b.getD ⟨0, 0, none⟩).add (k * 6)).add 3))) y.v.cells (by intros; kernel_rfl) (by intros; kernel_rfl) b3 ⟨by kernel_rfl, by kernel_rfl⟩ ?_
          refine node_PI ⟨[], [vlSame x.v.v y.v.v], [], [], []⟩ (fun _ => #[x.v.val, y.v.val]) (.bool (vlSame x.v.v y.v.v)) (by intros; kernel_rfl) (by intros; kernel_rfl) (by kernel_rfl) (by kernel_rfl) (by kernel_rfl) oneNil (fun ids w2 hp hf3 => samev_any _ _ _ _ _ _ _ _ _ _ w2 (voX_at hf3.x.1 hf (List.mem_of_getElem? hx)) (voX_at hf3.x.2 hf2 (List.mem_of_getElem? hy))) ?_
          refine br_B (!(vlSame x.v.v y.v.v)) (by kernel_rfl) (fun h => no (hne fun q => by rw [vlSame_t q.2.2.2] at h; cases h)) (fun h3 => ?_)
          exact fin (by simpa using h1) (by simpa using h2) (Classical.byContradiction fun q => by rw [vlSame_f q] at h3; cases h3) (by intros; kernel_rfl)
        · skip
          refine node_ldx ⟨[y.v.v.k], [], [], [y.v.v.cs.length, y.v.c1, y.v.v.ns.length, y.v.c2], [y.v.a1, y.v.a2]⟩ (.pointer (some (((b.getD ⟨0, 0, none⟩).add (k * 6)).add 3))) y.v.cells (by intros; kernel_rfl) (by intros; kernel_rfl) b3 ⟨by kernel_rfl, by kernel_rfl⟩ ?_
          refine node_ldx ⟨[x.v.v.k], [], [], [x.v.v.cs.length, x.v.c1, x.v.v.ns.length, x.v.c2], [x.v.a1, x.v.a2]⟩ (.pointer (some (((a.getD ⟨0, 0, none⟩).add (k * 6)).add 3))) x.v.cells (by intros; kernel_rfl) (by intros; kernel_rfl) a3 ⟨by kernel_rfl, by kernel_rfl⟩ ?_
          refine node_PI ⟨[], [vlSame x.v.v y.v.v], [], [], []⟩ (fun _ => #[x.v.val, y.v.val]) (.bool (vlSame x.v.v y.v.v)) (by intros; kernel_rfl) (by intros; kernel_rfl) (by kernel_rfl) (by kernel_rfl) (by kernel_rfl) oneNil (fun ids w2 hp hf3 => samev_any _ _ _ _ _ _ _ _ _ _ w2 (voX_at hf3.x.1 hf (List.mem_of_getElem? hx)) (voX_at hf3.x.2 hf2 (List.mem_of_getElem? hy))) ?_
          refine br_B (!(vlSame x.v.v y.v.v)) (by kernel_rfl) (fun h => no (hne fun q => by rw [vlSame_t q.2.2.2] at h; cases h)) (fun h3 => ?_)
          exact fin (by simpa using h1) (by simpa using h2) (Classical.byContradiction fun q => by rw [vlSame_f q] at h3; cases h3) (by intros; kernel_rfl)
      · skip
        refine node_ldx ⟨[y.r, y.n], [], [], [], []⟩ (.pointer (some (((b.getD ⟨0, 0, none⟩).add (k * 6)).add 1))) [.int .i64 y.r, .int .i64 y.n] (by intros; kernel_rfl) (by intros; kernel_rfl) b2 ⟨by kernel_rfl, by kernel_rfl⟩ ?_
        refine node_ldx ⟨[x.r, x.n], [], [], [], []⟩ (.pointer (some (((a.getD ⟨0, 0, none⟩).add (k * 6)).add 1))) [.int .i64 x.r, .int .i64 x.n] (by intros; kernel_rfl) (by intros; kernel_rfl) a2 ⟨by kernel_rfl, by kernel_rfl⟩ ?_
        refine br_B (!((x.r == y.r) && (x.n == y.n))) (by kernel_rfl) (fun h => no (hne fun q => by rw [q.2.1, q.2.2.1] at h; simp at h)) (fun h2 => ?_)
        refine need_k (a.isSome = true ∧ 0 ≤ (k : Int) ∧ (k : Int) < (xs.length : Int)) (by kernel_rfl) ⟨s1, by omega, by omega⟩ ?_
        refine need_k (b.isSome = true ∧ 0 ≤ (k : Int) ∧ (k : Int) < (ys.length : Int)) (by kernel_rfl) ⟨s2, by omega, by omega⟩ ?_
        refine par_i ?_ ?_
        · skip
          refine node_ldx ⟨[x.v.v.k], [], [], [x.v.v.cs.length, x.v.c1, x.v.v.ns.length, x.v.c2], [x.v.a1, x.v.a2]⟩ (.pointer (some (((a.getD ⟨0, 0, none⟩).add (k * 6)).add 3))) x.v.cells (by intros; kernel_rfl) (by intros; kernel_rfl) a3 ⟨by kernel_rfl, by kernel_rfl⟩ ?_
          refine node_ldx ⟨[y.v.v.k], [], [], [y.v.v.cs.length, y.v.c1, y.v.v.ns.length, y.v.c2], [y.v.a1, y.v.a2]⟩ (.pointer (some (((b.getD ⟨0, 0, none⟩).add (k * 6)).add 3))) y.v.cells (by intros; kernel_rfl) (by intros; kernel_rfl) b3 ⟨by kernel_rfl, by kernel_rfl⟩ ?_
          refine node_PI ⟨[], [vlSame x.v.v y.v.v], [], [], []⟩ (fun _ => #[x.v.val, y.v.val]) (.bool (vlSame x.v.v y.v.v)) (by intros; kernel_rfl) (by intros; kernel_rfl) (by kernel_rfl) (by kernel_rfl) (by kernel_rfl) oneNil (fun ids w2 hp hf3 => samev_any _ _ _ _ _ _ _ _ _ _ w2 (voX_at hf3.x.1 hf (List.mem_of_getElem? hx)) (voX_at hf3.x.2 hf2 (List.mem_of_getElem? hy))) ?_
          refine br_B (!(vlSame x.v.v y.v.v)) (by kernel_rfl) (fun h => no (hne fun q => by rw [vlSame_t q.2.2.2] at h; cases h)) (fun h3 => ?_)
          exact fin (by simpa using h1) (by simpa using h2) (Classical.byContradiction fun q => by rw [vlSame_f q] at h3; cases h3) (by intros; kernel_rfl)
        · skip
          refine node_ldx ⟨[y.v.v.k], [], [], [y.v.v.cs.length, y.v.c1, y.v.v.ns.length, y.v.c2], [y.v.a1, y.v.a2]⟩ (.pointer (some (((b.getD ⟨0, 0, none⟩).add (k * 6)).add 3))) y.v.cells (by intros; kernel_rfl) (by intros; kernel_rfl) b3 ⟨by kernel_rfl, by kernel_rfl⟩ ?_
          refine node_ldx ⟨[x.v.v.k], [], [], [x.v.v.cs.length, x.v.c1, x.v.v.ns.length, x.v.c2], [x.v.a1, x.v.a2]⟩ (.pointer (some (((a.getD ⟨0, 0, none⟩).add (k * 6)).add 3))) x.v.cells (by intros; kernel_rfl) (by intros; kernel_rfl) a3 ⟨by kernel_rfl, by kernel_rfl⟩ ?_
          refine node_PI ⟨[], [vlSame x.v.v y.v.v], [], [], []⟩ (fun _ => #[x.v.val, y.v.val]) (.bool (vlSame x.v.v y.v.v)) (by intros; kernel_rfl) (by intros; kernel_rfl) (by kernel_rfl) (by kernel_rfl) (by kernel_rfl) oneNil (fun ids w2 hp hf3 => samev_any _ _ _ _ _ _ _ _ _ _ w2 (voX_at hf3.x.1 hf (List.mem_of_getElem? hx)) (voX_at hf3.x.2 hf2 (List.mem_of_getElem? hy))) ?_
          refine br_B (!(vlSame x.v.v y.v.v)) (by kernel_rfl) (fun h => no (hne fun q => by rw [vlSame_t q.2.2.2] at h; cases h)) (fun h3 => ?_)
          exact fin (by simpa using h1) (by simpa using h2) (Classical.byContradiction fun q => by rw [vlSame_f q] at h3; cases h3) (by intros; kernel_rfl)
    · skip
      refine node_ldx ⟨[y.s], [], [], [], []⟩ (.pointer (some (((b.getD ⟨0, 0, none⟩).add (k * 6)).add 0))) [.int .i64 y.s] (by intros; kernel_rfl) (by intros; kernel_rfl) b1 ⟨by kernel_rfl, by kernel_rfl⟩ ?_
      refine node_ldx ⟨[x.s], [], [], [], []⟩ (.pointer (some (((a.getD ⟨0, 0, none⟩).add (k * 6)).add 0))) [.int .i64 x.s] (by intros; kernel_rfl) (by intros; kernel_rfl) a1 ⟨by kernel_rfl, by kernel_rfl⟩ ?_
      refine br_B (x.s != y.s) (by kernel_rfl) (fun h => no (hne fun q => by rw [q.1] at h; simp at h)) (fun h1 => ?_)
      refine need_k (a.isSome = true ∧ 0 ≤ (k : Int) ∧ (k : Int) < (xs.length : Int)) (by kernel_rfl) ⟨s1, by omega, by omega⟩ ?_
      refine need_k (b.isSome = true ∧ 0 ≤ (k : Int) ∧ (k : Int) < (ys.length : Int)) (by kernel_rfl) ⟨s2, by omega, by omega⟩ ?_
      refine par_i ?_ ?_
      · skip
        refine node_ldx ⟨[x.r, x.n], [], [], [], []⟩ (.pointer (some (((a.getD ⟨0, 0, none⟩).add (k * 6)).add 1))) [.int .i64 x.r, .int .i64 x.n] (by intros; kernel_rfl) (by intros; kernel_rfl) a2 ⟨by kernel_rfl, by kernel_rfl⟩ ?_
        refine node_ldx ⟨[y.r, y.n], [], [], [], []⟩ (.pointer (some (((b.getD ⟨0, 0, none⟩).add (k * 6)).add 1))) [.int .i64 y.r, .int .i64 y.n] (by intros; kernel_rfl) (by intros; kernel_rfl) b2 ⟨by kernel_rfl, by kernel_rfl⟩ ?_
        refine br_B (!((x.r == y.r) && (x.n == y.n))) (by kernel_rfl) (fun h => no (hne fun q => by rw [q.2.1, q.2.2.1] at h; simp at h)) (fun h2 => ?_)
        refine need_k (a.isSome = true ∧ 0 ≤ (k : Int) ∧ (k : Int) < (xs.length : Int)) (by kernel_rfl) ⟨s1, by omega, by omega⟩ ?_
        refine need_k (b.isSome = true ∧ 0 ≤ (k : Int) ∧ (k : Int) < (ys.length : Int)) (by kernel_rfl) ⟨s2, by omega, by omega⟩ ?_
        refine par_i ?_ ?_
        · skip
          refine node_ldx ⟨[x.v.v.k], [], [], [x.v.v.cs.length, x.v.c1, x.v.v.ns.length, x.v.c2], [x.v.a1, x.v.a2]⟩ (.pointer (some (((a.getD ⟨0, 0, none⟩).add (k * 6)).add 3))) x.v.cells (by intros; kernel_rfl) (by intros; kernel_rfl) a3 ⟨by kernel_rfl, by kernel_rfl⟩ ?_
          refine node_ldx ⟨[y.v.v.k], [], [], [y.v.v.cs.length, y.v.c1, y.v.v.ns.length, y.v.c2], [y.v.a1, y.v.a2]⟩ (.pointer (some (((b.getD ⟨0, 0, none⟩).add (k * 6)).add 3))) y.v.cells (by intros; kernel_rfl) (by intros; kernel_rfl) b3 ⟨by kernel_rfl, by kernel_rfl⟩ ?_
          refine node_PI ⟨[], [vlSame x.v.v y.v.v], [], [], []⟩ (fun _ => #[x.v.val, y.v.val]) (.bool (vlSame x.v.v y.v.v)) (by intros; kernel_rfl) (by intros; kernel_rfl) (by kernel_rfl) (by kernel_rfl) (by kernel_rfl) oneNil (fun ids w2 hp hf3 => samev_any _ _ _ _ _ _ _ _ _ _ w2 (voX_at hf3.x.1 hf (List.mem_of_getElem? hx)) (voX_at hf3.x.2 hf2 (List.mem_of_getElem? hy))) ?_
          refine br_B (!(vlSame x.v.v y.v.v)) (by kernel_rfl) (fun h => no (hne fun q => by rw [vlSame_t q.2.2.2] at h; cases h)) (fun h3 => ?_)
          exact fin (by simpa using h1) (by simpa using h2) (Classical.byContradiction fun q => by rw [vlSame_f q] at h3; cases h3) (by intros; kernel_rfl)
        · skip
          refine node_ldx ⟨[y.v.v.k], [], [], [y.v.v.cs.length, y.v.c1, y.v.v.ns.length, y.v.c2], [y.v.a1, y.v.a2]⟩ (.pointer (some (((b.getD ⟨0, 0, none⟩).add (k * 6)).add 3))) y.v.cells (by intros; kernel_rfl) (by intros; kernel_rfl) b3 ⟨by kernel_rfl, by kernel_rfl⟩ ?_
          refine node_ldx ⟨[x.v.v.k], [], [], [x.v.v.cs.length, x.v.c1, x.v.v.ns.length, x.v.c2], [x.v.a1, x.v.a2]⟩ (.pointer (some (((a.getD ⟨0, 0, none⟩).add (k * 6)).add 3))) x.v.cells (by intros; kernel_rfl) (by intros; kernel_rfl) a3 ⟨by kernel_rfl, by kernel_rfl⟩ ?_
          refine node_PI ⟨[], [vlSame x.v.v y.v.v], [], [], []⟩ (fun _ => #[x.v.val, y.v.val]) (.bool (vlSame x.v.v y.v.v)) (by intros; kernel_rfl) (by intros; kernel_rfl) (by kernel_rfl) (by kernel_rfl) (by kernel_rfl) oneNil (fun ids w2 hp hf3 => samev_any _ _ _ _ _ _ _ _ _ _ w2 (voX_at hf3.x.1 hf (List.mem_of_getElem? hx)) (voX_at hf3.x.2 hf2 (List.mem_of_getElem? hy))) ?_
          refine br_B (!(vlSame x.v.v y.v.v)) (by kernel_rfl) (fun h => no (hne fun q => by rw [vlSame_t q.2.2.2] at h; cases h)) (fun h3 => ?_)
          exact fin (by simpa using h1) (by simpa using h2) (Classical.byContradiction fun q => by rw [vlSame_f q] at h3; cases h3) (by intros; kernel_rfl)
      · skip
        refine node_ldx ⟨[y.r, y.n], [], [], [], []⟩ (.pointer (some (((b.getD ⟨0, 0, none⟩).add (k * 6)).add 1))) [.int .i64 y.r, .int .i64 y.n] (by intros; kernel_rfl) (by intros; kernel_rfl) b2 ⟨by kernel_rfl, by kernel_rfl⟩ ?_
        refine node_ldx ⟨[x.r, x.n], [], [], [], []⟩ (.pointer (some (((a.getD ⟨0, 0, none⟩).add (k * 6)).add 1))) [.int .i64 x.r, .int .i64 x.n] (by intros; kernel_rfl) (by intros; kernel_rfl) a2 ⟨by kernel_rfl, by kernel_rfl⟩ ?_
        refine br_B (!((x.r == y.r) && (x.n == y.n))) (by kernel_rfl) (fun h => no (hne fun q => by rw [q.2.1, q.2.2.1] at h; simp at h)) (fun h2 => ?_)
        refine need_k (a.isSome = true ∧ 0 ≤ (k : Int) ∧ (k : Int) < (xs.length : Int)) (by kernel_rfl) ⟨s1, by omega, by omega⟩ ?_
        refine need_k (b.isSome = true ∧ 0 ≤ (k : Int) ∧ (k : Int) < (ys.length : Int)) (by kernel_rfl) ⟨s2, by omega, by omega⟩ ?_
        refine par_i ?_ ?_
        · skip
          refine node_ldx ⟨[x.v.v.k], [], [], [x.v.v.cs.length, x.v.c1, x.v.v.ns.length, x.v.c2], [x.v.a1, x.v.a2]⟩ (.pointer (some (((a.getD ⟨0, 0, none⟩).add (k * 6)).add 3))) x.v.cells (by intros; kernel_rfl) (by intros; kernel_rfl) a3 ⟨by kernel_rfl, by kernel_rfl⟩ ?_
          refine node_ldx ⟨[y.v.v.k], [], [], [y.v.v.cs.length, y.v.c1, y.v.v.ns.length, y.v.c2], [y.v.a1, y.v.a2]⟩ (.pointer (some (((b.getD ⟨0, 0, none⟩).add (k * 6)).add 3))) y.v.cells (by intros; kernel_rfl) (by intros; kernel_rfl) b3 ⟨by kernel_rfl, by kernel_rfl⟩ ?_
          refine node_PI ⟨[], [vlSame x.v.v y.v.v], [], [], []⟩ (fun _ => #[x.v.val, y.v.val]) (.bool (vlSame x.v.v y.v.v)) (by intros; kernel_rfl) (by intros; kernel_rfl) (by kernel_rfl) (by kernel_rfl) (by kernel_rfl) oneNil (fun ids w2 hp hf3 => samev_any _ _ _ _ _ _ _ _ _ _ w2 (voX_at hf3.x.1 hf (List.mem_of_getElem? hx)) (voX_at hf3.x.2 hf2 (List.mem_of_getElem? hy))) ?_
          refine br_B (!(vlSame x.v.v y.v.v)) (by kernel_rfl) (fun h => no (hne fun q => by rw [vlSame_t q.2.2.2] at h; cases h)) (fun h3 => ?_)
          exact fin (by simpa using h1) (by simpa using h2) (Classical.byContradiction fun q => by rw [vlSame_f q] at h3; cases h3) (by intros; kernel_rfl)
        · skip
          refine node_ldx ⟨[y.v.v.k], [], [], [y.v.v.cs.length, y.v.c1, y.v.v.ns.length, y.v.c2], [y.v.a1, y.v.a2]⟩ (.pointer (some (((b.getD ⟨0, 0, none⟩).add (k * 6)).add 3))) y.v.cells (by intros; kernel_rfl) (by intros; kernel_rfl) b3 ⟨by kernel_rfl, by kernel_rfl⟩ ?_
          refine node_ldx ⟨[x.v.v.k], [], [], [x.v.v.cs.length, x.v.c1, x.v.v.ns.length, x.v.c2], [x.v.a1, x.v.a2]⟩ (.pointer (some (((a.getD ⟨0, 0, none⟩).add (k * 6)).add 3))) x.v.cells (by intros; kernel_rfl) (by intros; kernel_rfl) a3 ⟨by kernel_rfl, by kernel_rfl⟩ ?_
          refine node_PI ⟨[], [vlSame x.v.v y.v.v], [], [], []⟩ (fun _ => #[x.v.val, y.v.val]) (.bool (vlSame x.v.v y.v.v)) (by intros; kernel_rfl) (by intros; kernel_rfl) (by kernel_rfl) (by kernel_rfl) (by kernel_rfl) oneNil (fun ids w2 hp hf3 => samev_any _ _ _ _ _ _ _ _ _ _ w2 (voX_at hf3.x.1 hf (List.mem_of_getElem? hx)) (voX_at hf3.x.2 hf2 (List.mem_of_getElem? hy))) ?_
          refine br_B (!(vlSame x.v.v y.v.v)) (by kernel_rfl) (fun h => no (hne fun q => by rw [vlSame_t q.2.2.2] at h; cases h)) (fun h3 => ?_)
          exact fin (by simpa using h1) (by simpa using h2) (Classical.byContradiction fun q => by rw [vlSame_f q] at h3; cases h3) (by intros; kernel_rfl)
  · have : vlsOf xs = vlsOf ys := by
      have e1 : (vlsOf xs).take k = vlsOf xs := List.take_of_length_le (by rw [vlsOf_len]; omega)
      have e2 : (vlsOf ys).take k = vlsOf ys := List.take_of_length_le (by rw [vlsOf_len]; omega)
      rw [← e1, ← e2]; exact heq
    rw [voSame_t this]; rfl
set_option maxHeartbeats 2000000 in
theorem rsame7_any (m o : Ms) (w : World) (H : m.X.X w) (H2 : o.X.X w) (hw : MsWf m) (hw2 : MsWf o) : Calls Try.prog 17 #[m.val, o.val] w (PureAt w (.bool (mcSame m.con o.con))) := by
  refine calls_at (tab_ok _) Try.func17 rfl tRSame7 (ρ := ⟨m.ints ++ o.ints, [], [], m.nats ++ o.nats, m.adrs ++ o.adrs⟩) (ids := []) (hx := m.X.and o.X) rfl (Facts.initq rfl oneNil ⟨H, H2⟩ (fun k hk => hk.elim (Ms.X_sep H k) (Ms.X_sep H2 k))) ?_
  have no : ∀ {m2 : Mem} {ρ : Env} {hx : HX} {S : Stack}, ¬ m.con = o.con → (Tree.done (.lf (.bool (.lit false))) m2).holds ⟨Try.prog, w, fun _ => False, PureAt w (.bool (mcSame m.con o.con))⟩ ρ [] hx S := fun h => pure_done fun _ => by rw [mcSame_f h]; rfl
  have inj : m.con = o.con → _ := fun h => Mc.mk.inj h
  refine br_B (m.k != o.k) (by kernel_rfl) (fun h => no fun q => by rw [(show m.k = o.k from congrArg Mc.k q)] at h; simp at h) (fun h0 => ?_)
  refine br_B (m.f != o.f) (by kernel_rfl) (fun h => no fun q => by rw [(show m.f = o.f from congrArg Mc.f q)] at h; simp at h) (fun h1 => ?_)
  refine br_B (m.t != o.t) (by kernel_rfl) (fun h => no fun q => by rw [(show m.t = o.t from congrArg Mc.t q)] at h; simp at h) (fun h2 => ?_)
  refine br_B (m.e != o.e) (by kernel_rfl) (fun h => no fun q => by rw [(show m.e = o.e from congrArg Mc.e q)] at h; simp at h) (fun h3 => ?_)
  refine br_B (!((m.r == o.r) && (m.n == o.n))) (by kernel_rfl) (fun h => no fun q => by rw [(show m.r = o.r from congrArg Mc.r q), (show m.n = o.n from congrArg Mc.n q)] at h; simp at h) (fun h4 => ?_)
  refine br_B (m.slot != o.slot) (by kernel_rfl) (fun h => no fun q => by rw [(show m.slot = o.slot from congrArg Mc.slot q)] at h; simp at h) (fun h5 => ?_)
  refine br_B (m.low != o.low) (by kernel_rfl) (fun h => no fun q => by rw [(show m.low = o.low from congrArg Mc.low q)] at h; simp at h) (fun h6 => ?_)
  refine br_B (m.tm != o.tm) (by kernel_rfl) (fun h => no fun q => by rw [(show m.tm = o.tm from congrArg Mc.tm q)] at h; simp at h) (fun h7 => ?_)
  refine node_PI ⟨[], [vlSame m.p.v o.p.v], [], [], []⟩ (fun _ => #[m.p.val, o.p.val]) (.bool (vlSame m.p.v o.p.v)) (by intros; kernel_rfl) (by intros; kernel_rfl) (by kernel_rfl) (by kernel_rfl) (by kernel_rfl) oneNil (fun ids w2 hp hf => samev_any _ _ _ _ _ _ _ _ _ _ w2 (hw.v.f.at_ hf.x.1.1.1) (hw2.v.f.at_ hf.x.2.1.1)) ?_
  refine br_B (vlSame m.p.v o.p.v) (by kernel_rfl) (fun h8 => ?_) (fun h => no fun q => by rw [vlSame_t (show m.p.v = o.p.v from congrArg Mc.v q)] at h; cases h)
  refine node_PI ⟨[], [voSame (vlsOf m.vs) (vlsOf o.vs)], [], [], []⟩ (fun _ => #[.slice m.av m.vs.length m.cv, .slice o.av o.vs.length o.cv]) (.bool (voSame (vlsOf m.vs) (vlsOf o.vs))) (by intros; kernel_rfl) (by intros; kernel_rfl) (by kernel_rfl) (by kernel_rfl) (by kernel_rfl) oneNil (fun ids w2 hp hf => rsamevs_any _ _ _ _ _ _ w2 hf.x.1.1.2 hf.x.2.1.2 hw.fit.vs hw2.fit.vs hw.vl) ?_
  refine br_B (voSame (vlsOf m.vs) (vlsOf o.vs)) (by kernel_rfl) (fun h9 => ?_) (fun h => no fun q => by rw [voSame_t (show vlsOf m.vs = vlsOf o.vs from congrArg Mc.vs q)] at h; cases h)
  refine br_B (cmdEq m.c o.c) (by kernel_rfl) (fun h10 => ?_) (fun h => no fun q => by rw [(cmdEq_iff m.c o.c).2 (show m.c = o.c from congrArg Mc.c q)] at h; cases h)
  refine br_B ((m.rk == o.rk) && ((m.re == o.re) && (m.im == o.im))) (by kernel_rfl) (fun h11 => ?_) (fun h => no fun q => by rw [(show m.rk = o.rk from congrArg Mc.rk q), (show m.re = o.re from congrArg Mc.re q), (show m.im = o.im from congrArg Mc.im q)] at h; simp at h)
  have ev : m.p.v = o.p.v := Classical.byContradiction fun q => by rw [vlSame_f q] at h8; cases h8
  have es : vlsOf m.vs = vlsOf o.vs := Classical.byContradiction fun q => by rw [voSame_f q] at h9; cases h9
  have ec : m.c = o.c := (cmdEq_iff m.c o.c).1 h10
  have eall : mcSame m.con o.con = decide (m.d = o.d) := by
    have k0 : m.k = o.k := by simpa using h0
    have k1 : m.f = o.f := by simpa using h1
    have k2 : m.t = o.t := by simpa using h2
    have k3 : m.e = o.e := by simpa using h3
    have k4 : m.r = o.r ∧ m.n = o.n := by simpa using h4
    have k5 : m.slot = o.slot := by simpa using h5
    have k6 : m.low = o.low := by simpa using h6
    have k7 : m.tm = o.tm := by simpa using h7
    have k11 : m.rk = o.rk ∧ m.re = o.re ∧ m.im = o.im := by simpa using h11
    by_cases hd : m.d = o.d
    · rw [decide_eq_true hd]
      refine mcSame_t ?_
      unfold Ms.con
      rw [k0, k1, k2, k3, k4.1, k4.2, k5, k6, k7, ev, es, ec, k11.1, k11.2.1, k11.2.2, hd]
    · rw [decide_eq_false hd]
      exact mcSame_f fun q => hd (congrArg Mc.d q)
  rw [eall]
  refine node_PI ⟨[], [decide (m.d = o.d)], [], [], []⟩ (fun _ => #[.slice m.ad m.d.length m.cd, .slice o.ad o.d.length o.cd]) (.bool (decide (m.d = o.d))) (by intros; kernel_rfl) (by intros; kernel_rfl) (by kernel_rfl) (by kernel_rfl) (by kernel_rfl) oneNil (fun ids w2 hp hf => sameb_any _ _ _ _ _ _ w2 hf.x.1.2 hf.x.2.2 hw.dl) ?_
  exact pure_done (by intros; kernel_rfl)
def VoNew (w : World) (xs : List (Vo Pv)) (e : Ending) (w' : World) : Prop := ∃ (a : Option Addr) (c : Nat) (ys : List (Vo Pv)), e = .returned (.slice a ys.length c) ∧ vlsOf ys = vlsOf xs ∧ ((voAll ys).and (vrow a c ys)).X w' ∧ (∀ k, ((voAll ys).and (vrow a c ys)).F k → w.heap.size ≤ k ∧ k < w'.heap.size) ∧ Below w.heap.size w w'
section
variable {C : Cfg} {ρ : Env} {pre : List Nat} {hx : HX} {L : Stack} {m m' : Mem} {args : List SV} {r : SV} {t : Tree}
theorem node_cpr (hP : C.P = Try.prog) (p : Pv) (hfit : VlFit p.v) (hat : ∀ ids w, pre <+: ids → Facts C m ρ ids hx w → (vlX p.v p.a1 p.a2).X w) (hargs : ∀ ids, (args.map (SV.den ρ ids)).toArray = #[p.val]) (hr : ∀ (q : Pv) ids, r.den (ρ.add ⟨[q.v.k], [], [], [q.v.cs.length, q.c1, q.v.ns.length, q.c2], [q.a1, q.a2]⟩) ids = q.val)
    (hhp : m'.hp = m.hp) (hft : hpFits m.c m.hp.length m.hp = true) (hc : ∀ q : Pv, (ρ.add ⟨[q.v.k], [], [], [q.v.cs.length, q.c1, q.v.ns.length, q.c2], [q.a1, q.a2]⟩).cnt = m'.c)
    (h : ∀ q : Pv, q.v = p.v → (∀ k, (pvR q).F k → C.W.heap.size ≤ k ∧ ¬ hx.F k) → t.holds C (ρ.add ⟨[q.v.k], [], [], [q.v.cs.length, q.c1, q.v.ns.length, q.c2], [q.a1, q.a2]⟩) pre (hx.and (pvR q)) L) : (Tree.call 33 args m r m' t).holds C ρ pre hx L := by
  refine node_out (fun _ => #[p.val]) (fun vs h' => ∃ q : Pv, q.v = p.v ∧ vs = ⟨[q.v.k], [], [], [q.v.cs.length, q.c1, q.v.ns.length, q.c2], [q.a1, q.a2]⟩ ∧ h' = pvR q) hargs (fun ids w hp hf => ?_) hhp hft ?_ ?_
  · rw [hP]
    refine (cpvr_any p.v p.a1 p.c1 p.a2 p.c2 w (hfit.at_ (hat ids w hp hf))).mono ?_
    rintro e w' ⟨b1, d1, b2, d2, rfl, g1, g2, g3, g4, g5⟩
    exact ⟨_, _, ⟨⟨p.v, b1, d1, b2, d2⟩, rfl, rfl, rfl⟩, by rw [hr ⟨p.v, b1, d1, b2, d2⟩]; rfl, ⟨g1, g2⟩, fun k hk => hk.elim (fun q => ⟨g3 k q, rw_ltx g1 q.1 q.2⟩) fun q => ⟨(g4 k q).1, rw_ltx g2 q.1 q.2⟩, g5⟩
  · rintro vs h' ⟨q, _, rfl, rfl⟩; exact ⟨hc q, oneNil⟩
  · rintro vs h' ⟨q, e, rfl, rfl⟩ hfr; exact h q e hfr
end
set_option maxHeartbeats 1000000 in
theorem cpvs7_any (a : Option Addr) (c : Nat) (xs : List (Vo Pv)) (w : World) (H : (voX a xs).X w) (hf : ∀ x ∈ xs, VlFit x.v.v) (hl : xs.length * 80 ≤ 140737488355328) : Calls Try.prog 14 #[.slice a xs.length c] w (VoNew w xs) := by
  obtain ⟨B, eB⟩ : ∃ x, x = voX a xs := ⟨_, rfl⟩
  refine calls_at (tab_ok _) Try.func14 rfl tCpVs7 (ρ := ⟨[], [], [], [xs.length, c], [a]⟩) (ids := []) (hx := B) rfl (Facts.initq rfl oneNil (by rw [eB]; exact H) (by rw [eB]; exact voX_sep H)) ?_
  refine ⟨fun vs hx m => ∃ (k : Nat) (b : Option Addr) (d : Nat) (ys : List (Vo Pv)), m = xs.length - k ∧ k ≤ xs.length ∧ ys.length = k ∧ vlsOf ys = (vlsOf xs).take k ∧ OwnR w B (voAll ys) ∧ OwnR w (B.and (voAll ys)) (vrow b d ys) ∧ vs = ⟨[(k : Int)], [], [], [ys.length, d], [b]⟩ ∧ hx = (B.and (voAll ys)).and (vrow b d ys), fun ids w2 hp hf => ⟨(B.and (voAll [])).and (vrow (some ⟨idAt ids 0, 0, none⟩) 0 []), xs.length, ⟨⟨⟨hf.x, fun x hx => by cases hx⟩, HX.rw_nil _ _ _ _⟩, fun k hk => hk.elim (fun q => q.elim (fun q => hf.sep k q) fun ⟨x, hx, _⟩ => by cases hx) fun q => absurd rfl q.1⟩, 0, some ⟨idAt ids 0, 0, none⟩, 0, [], rfl, Nat.zero_le _, rfl, rfl, (fun k ⟨x, hx, _⟩ => by cases hx), (fun k hk => absurd rfl hk.1), by kernel_rfl, rfl⟩, ?_⟩
  rintro vs hx' m hcnt ⟨k, b, d, ys, rfl, hk, hyl, hv, ownv, ownr, rfl, rfl⟩
  refine holds_env (ρ' := ⟨[(k : Int)], [], [], [xs.length, c, ys.length, d], [a, b]⟩) rfl ?_
  refine br_D (p := (k : Int) < (xs.length : Int)) (by kernel_rfl) (fun hlt => ?_) (fun hlt => ?_)
  · have hlt : k < xs.length := by omega
    obtain ⟨x, hx⟩ : ∃ b, xs[k]? = some b := ⟨_, List.getElem?_eq_getElem hlt⟩
    have hxm := List.mem_of_getElem? hx
    obtain ⟨s1, q1⟩ := vo_part H hx 0 (voC x) (fun j u hj => by rw [Nat.zero_add]; exact hj) (by simp [voC])
    refine need_k (a.isSome = true ∧ 0 ≤ (k : Int) ∧ (k : Int) < (xs.length : Int)) (by kernel_rfl) ⟨s1, by omega, by omega⟩ ?_
    refine node_ldx ⟨[x.s, x.r, x.n, x.v.v.k], [], [], [x.v.v.cs.length, x.v.c1, x.v.v.ns.length, x.v.c2], [x.v.a1, x.v.a2]⟩ (.pointer (some (((a.getD ⟨0, 0, none⟩).add (k * 6)).add 0))) (voC x) (by intros; kernel_rfl) (by intros; kernel_rfl) q1 ⟨by kernel_rfl, by kernel_rfl⟩ ?_
    refine node_cpr rfl x.v (hf x hxm) (fun ids w2 hp hf2 => by have := hf2.x.1.1; rw [eB] at this; exact this.2 _ (List.mem_map.2 ⟨x, hxm, rfl⟩)) (by intros; kernel_rfl) (by intros; kernel_rfl) (by kernel_rfl) (by kernel_rfl) (by intros; kernel_rfl) ?_
    intro q hq fq
    obtain ⟨z, ez⟩ : ∃ z : Vo Pv, z = ⟨x.s, x.r, x.n, q⟩ := ⟨_, rfl⟩
    have hzv : Vo.map Pv.v z = Vo.map Pv.v x := by rw [ez]; unfold Vo.map; dsimp only; rw [hq]
    have hv' : vlsOf (ys ++ [z]) = (vlsOf xs).take (k + 1) := by
      rw [List.take_add_one, vlsOf_get hx, ← hv]
      unfold vlsOf
      rw [List.map_append, ← hzv]; rfl
    refine holds_eq (HX.and_right_comm _ _ _) ?_
    have epc : (B.and (voAll ys)).and (pvR q) = B.and (voAll (ys ++ [z])) := by rw [voAll_snoc, ez, HX.and_assoc]
    refine holds_eq (congrArg (fun y => y.and (vrow b d ys)) epc) ?_
    have fz : ∀ j, (pvR z.v).F j → w.heap.size ≤ j ∧ ¬ ((B.and (voAll ys)).and (vrow b d ys)).F j := fun j hj => by rw [ez] at hj; exact fq j hj
    have ownv' : OwnR w B (voAll (ys ++ [z])) := fun j hj => by
      rw [voAll_snoc] at hj
      rcases hj with hj | hj
      · exact ownv j hj
      · exact ⟨(fz j hj).1, fun y => (fz j hj).2 (.inl (.inl y))⟩
    have hdis : ∀ j, d ≠ 0 → abk b = some j → ¬ (B.and (voAll (ys ++ [z]))).F j := fun j q1 q2 y => by
      rcases y with y | y
      · exact (ownr j ⟨q1, q2⟩).2 (.inl y)
      · rw [voAll_snoc] at y
        rcases y with y | y
        · exact (ownr j ⟨q1, q2⟩).2 (.inr y)
        · exact (fz j y).2 (.inr ⟨q1, q2⟩)
    have hwk : IntKind.i64.wrap ((k : Int) + 1) = ((k + 1 : Nat) : Int) := by rw [wrap_i64 (by omega)]; omega
    refine node_pushs (e := 59) (sz := 6) rfl Try.underlying28 info_vote rfl (by decide) b ys.length d (vocs ys) (voC z) 2 (by intros; kernel_rfl) (by intros; kernel_rfl) rfl (fun ids => by rw [ez]; kernel_rfl) rfl (voC_one z) hdis (fun j q1 q2 => .inl (ownr j ⟨q1, q2⟩).1) (by unfold maxLen; omega) (by omega) (by intros; kernel_rfl) (by kernel_rfl) (by kernel_rfl) (by intros; kernel_rfl) ?_
    intro b' d' hc' hr' hor'
    have erow : HX.rw 6 59 b' (ys.length + 1) d' (vocs ys ++ voC z) = vrow b' d' (ys ++ [z]) := by unfold vrow; rw [vocs_snoc, List.length_append]; rfl
    refine holds_eq (congrArg _ erow) ?_
    refine again_V ⟨[IntKind.i64.wrap ((k : Int) + 1)], [], [], [ys.length + 1, d'], [b']⟩ rfl (by intros; kernel_rfl) _ (fun w2 ids hf => ⟨hf.x, hf.sep⟩) ⟨xs.length - (k + 1), by omega, k + 1, b', d', ys ++ [z], rfl, by omega, by rw [List.length_append, hyl]; rfl, hv', ownv', fun j hj => ⟨?_, hr' j hj.2⟩, by rw [hwk, List.length_append]; rfl, rfl⟩
    rcases hor' with ⟨r1, r2⟩ | ⟨g, r1, r2, _⟩
    · exact (ownr j ⟨r1, by rw [← r2]; exact hj.2⟩).1
    · have := hj.2
      rw [r1] at this; cases this; exact r2
  · have hke : k = xs.length := by omega
    intro ids w2 hp hf2
    refine ⟨b, d, ys, rfl, by rw [hv, hke]; exact List.take_of_length_le (by rw [vlsOf_len]; exact Nat.le_refl _), ⟨hf2.x.1.2, hf2.x.2⟩, fun j hj => ?_, hf2.chg.below⟩
    rcases hj with hj | hj
    · exact ⟨(ownv j hj).1, (hf2.sep j (.inl (.inr hj))).1⟩
    · exact ⟨(ownr j hj).1, (hf2.sep j (.inr hj)).1⟩
def NewM (w : World) (V : Value → Value) (c : Mc) (e : Ending) (w' : World) : Prop := ∃ m : Ms, e = .returned (V m.val) ∧ m.con = c ∧ m.R.X w' ∧ (∀ k, m.R.F k → w.heap.size ≤ k ∧ k < w'.heap.size) ∧ Below w.heap.size w w'

theorem copyb_own (a : Option Addr) (cap : Nat) (bs : List Int) (w : World) (H : Cells w a (bcells bs)) (hl : bs.length ≤ 140737488355328) : Calls Try.prog 20 #[.slice a bs.length cap] w (NewO w id bs) := by
  refine calls_at (tab_ok _) Try.func20 rfl tCopyB (ρ := ⟨[], [], [], [bs.length, cap], [a]⟩) (ids := []) (hx := HX.cl a (bcells bs)) rfl (Facts.initq rfl oneNil H (cl_sep H)) ?_
  refine node_makeS Try.underlying35 info_byte rfl bs.length (fun _ => rfl) (fun _ => rfl) (by omega) (by unfold maxLen; omega) (fun _ _ => rfl) rfl rfl (fun _ => rfl) ?_
  intro i hiW hiF
  refine loop_i (CpbI a bs i) (fun vs => bs.length - (vs.i.headD 0).toNat) (fun ids w2 hp hf => ⟨_, ⟨hf.x, hf.sep⟩, 0, by omega, rfl, rfl⟩) ?_
  rintro vs hx' hcnt ⟨k, hk1, rfl, rfl⟩
  have hwk : IntKind.i64.wrap ((k : Int) + 1) = ((k + 1 : Nat) : Int) := by rw [wrap_i64 (by omega)]; omega
  by_cases hk : k < bs.length
  · refine br_t (show decide ((k : Int) < (bs.length : Int)) = true by simpa using hk) ?_
    obtain ⟨b, hb⟩ : ∃ b, bs[k]? = some b := ⟨_, List.getElem?_eq_getElem hk⟩
    obtain ⟨s1, c1⟩ := b_elt H hb
    refine need_i ⟨s1, (show (0 : Int) ≤ k by omega), (show (k : Int) < bs.length by omega)⟩ ?_
    refine ⟨⟨[b], [], [], [], []⟩, fun ids => c1 _ (fun e => e), ⟨rfl, oneNil⟩, ?_⟩
    refine need_i ⟨rfl, (show (0 : Int) ≤ k by omega), (show (k : Int) < bs.length by omega)⟩ ?_
    refine node_stores (sz := 1) (some ⟨i, 0, none⟩) bs.length bs.length _ [.int .u8 b] k 0 (.int .u8 b) (by kernel_rfl) (fun _ => rfl) (fun _ => rfl) rfl (by simp [Value.oneCell']) (by simp; omega) (by simp) (fun q hq hab hF => ?_) (fun q hq hab => ?_) rfl rfl rfl ?_
    · cases hab; exact hiF hF
    · cases hab; exact .inl hiW
    · rw [Nat.mul_one, Nat.add_zero, rep_spl bs k b hb]
      intro ids w2 hp hf
      refine ⟨_, ⟨hf.x, hf.sep⟩, _, rfl, ⟨k + 1, by omega, ?_, rfl⟩, ?_⟩
      · show (⟨[IntKind.i64.wrap ((k : Int) + 1)], [], [], [], []⟩ : Vals) = _
        rw [hwk]
      · show bs.length - (IntKind.i64.wrap ((k : Int) + 1)).toNat < bs.length - ((k : Int)).toNat
        rw [hwk]; omega
  · refine br_f (show decide ((k : Int) < (bs.length : Int)) = false by simpa using hk) ?_
    intro ids w2 hp hf
    have hx2 := hf.x.2
    rw [List.take_of_length_le (by omega), show bs.length - k = 0 by omega, List.replicate_zero, List.append_nil] at hx2
    exact ⟨some ⟨i, 0, none⟩, bs.length, rfl, hx2, fun k _ h2 => by cases h2; exact hiW, hf.chg.below⟩
set_option maxHeartbeats 1000000 in
theorem cpm7_any (m : Ms) (w : World) (H : m.X.X w) (hw : MsFit m) (hl : m.vs.length * 80 ≤ 140737488355328) (hd : m.d.length ≤ 140737488355328) : Calls Try.prog 11 #[m.val] w (NewM w id m.con) := by
  obtain ⟨B, eB⟩ : ∃ x, x = m.X := ⟨_, rfl⟩
  have BX : ∀ {w}, B.X w → m.X.X w := fun h => by rw [← eB]; exact h
  refine calls_at (tab_ok _) Try.func11 rfl tCpM7 (ρ := ⟨m.ints, [], [], m.nats, m.adrs⟩) (ids := []) (hx := B) rfl (Facts.initq rfl oneNil (by rw [eB]; exact H) (by rw [eB]; exact Ms.X_sep H)) ?_
  refine node_cpr rfl m.p hw.v (fun ids w2 hp hf => (BX hf.x).1.1) (by intros; kernel_rfl) (by intros; kernel_rfl) (by kernel_rfl) (by kernel_rfl) (by intros; kernel_rfl) ?_
  intro q hq fq
  refine node_out (fun _ => #[.slice m.av m.vs.length m.cv]) (fun vs h' => ∃ (a : Option Addr) (c : Nat) (ys : List (Vo Pv)), vlsOf ys = vlsOf m.vs ∧ vs = ⟨[], [], [], [ys.length, c], [a]⟩ ∧ h' = (voAll ys).and (vrow a c ys)) (by intros; kernel_rfl) (fun ids w2 hp hf => ?_) (by kernel_rfl) (by kernel_rfl) ?_ ?_
  · refine (cpvs7_any m.av m.cv m.vs w2 (BX hf.x.1).1.2 hw.vs hl).mono ?_
    rintro e w' ⟨a, c, ys, rfl, g1, g2, g3, g4⟩
    exact ⟨_, _, ⟨a, c, ys, g1, rfl, rfl⟩, rfl, g2, g3, g4⟩
  · rintro vs h' ⟨a, c, ys, _, rfl, rfl⟩
    exact ⟨by kernel_rfl, oneNil⟩
  rintro vs h' ⟨a, c, ys, hys, rfl, rfl⟩ fv
  refine node_newi (V := id) (bs := m.d) (fun _ => #[.slice m.ad m.d.length m.cd]) (fun a' c' => ⟨[], [], [], [m.d.length, c'], [a']⟩) (by intros; kernel_rfl) (fun ids w2 hp hf => copyb_own m.ad m.cd m.d w2 (BX hf.x.1.1).2 hd) (by intros; kernel_rfl) (by kernel_rfl) (by kernel_rfl) (by intros; kernel_rfl) (fun _ _ => oneNil) ?_
  intro ad cd _ fd ids w2 hp hf
  refine ⟨{ m with p := q, av := a, cv := c, vs := ys, ad := ad, cd := cd }, ?_, ?_, ⟨⟨⟨hf.x.1.1.2, hf.x.1.2.1⟩, hf.x.1.2.2⟩, hf.x.2⟩, fun k hk => ?_, hf.chg.below⟩
  · rfl
  · unfold Ms.con; dsimp only; rw [hq, hys]
  · rcases hk with ((hk | hk) | hk) | hk
    · exact ⟨(fq k hk).1, (hf.sep k (.inl (.inl (.inr hk)))).1⟩
    · exact ⟨(fv k (.inl hk)).1, (hf.sep k (.inl (.inr (.inl hk)))).1⟩
    · exact ⟨(fv k (.inr hk)).1, (hf.sep k (.inl (.inr (.inr hk)))).1⟩
    · exact ⟨(fd k hk.1 hk.2).1, (hf.sep k (.inr hk)).1⟩
def Ms.vals1 (m : Ms) (e : Int) : Vals := ⟨m.ints ++ [e], [], [], m.nats, m.adrs⟩
section
variable {C : Cfg} {ρ : Env} {pre : List Nat} {hx : HX} {L : Stack} {m m' : Mem} {args : List SV} {r : SV} {t : Tree}
theorem node_cpm (hP : C.P = Try.prog) (x : Ms) (hw : MsFit x) (hl : x.vs.length * 80 ≤ 140737488355328) (hd : x.d.length ≤ 140737488355328) (hat : ∀ ids w, pre <+: ids → Facts C m ρ ids hx w → x.X.X w) (hargs : ∀ ids, (args.map (SV.den ρ ids)).toArray = #[x.val]) (hr : ∀ (y : Ms) ids, r.den (ρ.add y.vals) ids = y.val) (hhp : m'.hp = m.hp) (hft : hpFits m.c m.hp.length m.hp = true) (hc : ∀ y : Ms, (ρ.add y.vals).cnt = m'.c)
    (h : ∀ y : Ms, y.con = x.con → (∀ k, y.R.F k → C.W.heap.size ≤ k ∧ ¬ hx.F k) → t.holds C (ρ.add y.vals) pre (hx.and y.R) L) : (Tree.call 11 args m r m' t).holds C ρ pre hx L := by
  refine node_out (fun _ => #[x.val]) (fun vs h' => ∃ y : Ms, y.con = x.con ∧ vs = y.vals ∧ h' = y.R) hargs (fun ids w hp hf => ?_) hhp hft ?_ ?_
  · rw [hP]
    refine (cpm7_any x w (hat ids w hp hf) hw hl hd).mono ?_
    rintro e w' ⟨y, rfl, g1, g2, g3, g4⟩
    exact ⟨_, _, ⟨y, g1, rfl, rfl⟩, by rw [hr]; rfl, g2, g3, g4⟩
  · rintro vs h' ⟨y, _, rfl, rfl⟩; exact ⟨hc y, oneNil⟩
  · rintro vs h' ⟨y, e, rfl, rfl⟩ hfr; exact h y e hfr
theorem node_dec (hP : C.P = Try.prog) (a : List Nat → Option Addr) (cap : Nat) (bs : List Int) (hb : Byt bs) (hl : bs.length ≤ 140737488355328) (e : Int) (he : decE7 bs = e) (hat : ∀ ids w, pre <+: ids → Facts C m ρ ids hx w → Cells w (a ids) (bcells bs)) (hargs : ∀ ids, (args.map (SV.den ρ ids)).toArray = #[.slice (a ids) bs.length cap]) (hr : ∀ (y : Ms) ids, r.den (ρ.add (y.vals1 e)) ids = .tuple #[y.val, .int .i64 e]) (hhp : m'.hp = m.hp) (hft : hpFits m.c m.hp.length m.hp = true) (hc : ∀ y : Ms, (ρ.add (y.vals1 e)).cnt = m'.c)
    (h : ∀ y : Ms, y.con = decC7 bs → (∀ k, y.R.F k → C.W.heap.size ≤ k ∧ ¬ hx.F k) → t.holds C (ρ.add (y.vals1 e)) pre (hx.and y.R) L) : (Tree.call 22 args m r m' t).holds C ρ pre hx L := by
  subst he
  refine node_out (fun ids => #[.slice (a ids) bs.length cap]) (fun vs h' => ∃ y : Ms, y.con = decC7 bs ∧ vs = y.vals1 (decE7 bs) ∧ h' = y.R) hargs (fun ids w hp hf => ?_) hhp hft ?_ ?_
  · rw [hP]
    refine (decode7_any (a ids) cap bs w (hat ids w hp hf) hb hl).mono ?_
    rintro e w' ⟨y, rfl, g1, g2, g3, g4⟩
    exact ⟨_, _, ⟨y, g1, rfl, rfl⟩, by rw [hr], g2, g3, g4⟩
  · rintro vs h' ⟨y, _, rfl, rfl⟩; exact ⟨hc y, oneNil⟩
  · rintro vs h' ⟨y, e, rfl, rfl⟩ hfr; exact h y e hfr
theorem node_enc (hP : C.P = Try.prog) (x : Ms) (hw : MsWf x) (bs : List Int) (e : Int) (hb : encM x = bs) (he : chkM x = e) (hat : ∀ ids w, pre <+: ids → Facts C m ρ ids hx w → x.X.X w) (hargs : ∀ ids, (args.map (SV.den ρ ids)).toArray = #[x.val]) (hr : ∀ a' c' ids, r.den (ρ.add ⟨[e], [], [], [bs.length, c'], [a']⟩) ids = .tuple #[.slice a' bs.length c', .int .i64 e]) (hhp : m'.hp = m.hp) (hft : hpFits m.c m.hp.length m.hp = true) (hc : ∀ a' c', (ρ.add ⟨[e], [], [], [bs.length, c'], [a']⟩).cnt = m'.c)
    (h : ∀ a' c', (bs ≠ [] → a'.isSome = true) → (∀ k, c' ≠ 0 → abk a' = some k → C.W.heap.size ≤ k ∧ ¬ hx.F k) → t.holds C (ρ.add ⟨[e], [], [], [bs.length, c'], [a']⟩) pre (hx.and (frow a' c' bs)) L) : (Tree.call 16 args m r m' t).holds C ρ pre hx L := by
  subst hb; subst he
  exact node_newi (V := fun s => .tuple #[s, .int .i64 (chkM x)]) (bs := encM x) (fun _ => #[x.val]) (fun a' c' => ⟨[chkM x], [], [], [(encM x).length, c'], [a']⟩) hargs (fun ids w hp hf => by rw [hP]; exact encode7_any x hw w (hat ids w hp hf)) hr hhp hft hc (fun _ _ => oneNil) h
end
def m8 : Ms := ⟨8, 2, 3, 0, 0, 0, 5, 0, 0, pz, none, 0, [], cz, 0, 0, 0, none, 0, []⟩
def b8 : List Int := [1, 8, 1, 2, 1, 3, 0, 1, 5]
theorem m8_wf : MsWf m8 := by
  have h : ∀ n : Int, -10 ≤ n ∧ n ≤ 10 → I64 n := fun n h => by unfold I64; omega
  refine ⟨h _ (by decide), h _ (by decide), h _ (by decide), h _ (by decide), h _ (by decide), h _ (by decide), h _ (by decide), h _ (by decide), h _ (by decide), vz_wf, (fun x hx => by cases hx), fun i hi => ?_, h _ (by decide), h _ (by decide), h _ (by decide), (fun x hx => by cases hx), by decide, by decide⟩
  simp only [m8, CmD.is, cz, List.mem_cons, List.not_mem_nil, or_false, or_self] at hi
  rw [hi]; exact i0
theorem m8_X (w : World) : m8.X.X w := ⟨⟨⟨fun h => absurd h (by decide), fun h => absurd h (by decide)⟩, fun h => absurd h (by decide), fun x hx => by cases hx⟩, fun h => absurd h (by decide)⟩
theorem m8_c : chkM m8 = 0 := by kernel_rfl
theorem m8_b : encM m8 = b8 := by kernel_rfl
theorem m8_d : decE7 b8 = 0 := by kernel_rfl
theorem m8_r : decC7 b8 = m8.con := by kernel_rfl
theorem b8_byt : Byt b8 := by unfold Byt b8; decide
theorem pure_out {P : Program} {W : World} {M : Nat → Prop} {v : SV} {m : Mem} {ρ : Env} {pre : List Nat} {hx : HX} {L : Stack} {V : Value} (hM : ∀ x, ¬ M x) (hv : ∀ ids, v.den ρ ids = V) : (Tree.done v m).holds ⟨P, W, M, PureAt W V⟩ ρ pre hx L := fun ids w2 hp hf =>
  ⟨by rw [hv], (show Chg (fun _ => False) W w2 from ⟨hf.chg.os, hf.chg.tape, hf.chg.output, hf.chg.size, fun k hk _ => hf.chg.block k hk (hM k)⟩).below⟩
theorem head7_any (w : World) : Calls Try.prog 9 #[] w (PureAt w (.bool true)) := by
  refine calls_at (tab_ok _) Try.func9 rfl tHead7 (ρ := ⟨[], [], [], [], []⟩) (ids := []) (hx := HX.nil) rfl (Facts.initP rfl oneNil) ?_
  refine node_enc rfl m8 m8_wf b8 0 m8_b m8_c (fun ids w hp hf => m8_X w) (by intros; kernel_rfl) (by intros; kernel_rfl) (by kernel_rfl) (by kernel_rfl) (by intros; kernel_rfl) ?_
  intro a c _ fa
  refine node_dec rfl (fun ids => some ⟨idAt ids 1, 0, none⟩) 9 b8 b8_byt (by decide) 0 m8_d (fun ids w2 hp hf => blk_cells (hf.blk 1 _ _ rfl)) (by intros; kernel_rfl) (by intros; kernel_rfl) (by kernel_rfl) (by kernel_rfl) (by intros; kernel_rfl) ?_
  intro y hy fy
  refine br_T true (by kernel_rfl) rfl ?_
  refine node_PI ⟨[], [decide (b8 = b8)], [], [], []⟩ (fun ids => #[.slice a b8.length c, .slice (some ⟨idAt ids 3, 0, none⟩) b8.length 9]) (.bool (decide (b8 = b8))) (by intros; kernel_rfl) (by intros; kernel_rfl) (by kernel_rfl) (by kernel_rfl) (by kernel_rfl) oneNil (fun ids w2 hp hf => sameb_any _ _ b8 _ _ b8 w2 (frow_cells hf.x.1.2) (blk_cells (hf.blk 3 _ _ rfl)) (by decide)) ?_
  refine br_T true (by kernel_rfl) rfl ?_
  refine br_T true (by kernel_rfl) rfl ?_
  have hyw : MsWf y := McWf.ms (by rw [hy, m8_r]; exact m8_wf.con)
  refine node_PI ⟨[], [mcSame y.con m8.con], [], [], []⟩ (fun _ => #[y.val, m8.val]) (.bool (mcSame y.con m8.con)) (by intros; kernel_rfl) (by intros; kernel_rfl) (by kernel_rfl) (by kernel_rfl) (by kernel_rfl) oneNil (fun ids w2 hp hf => rsame7_any y m8 w2 (R_X hf.x.2) (m8_X w2) hyw m8_wf) ?_
  rw [mcSame_t (hy.trans m8_r)]
  exact pure_out (fun _ => id) (by intros; kernel_rfl)
end Go.Proofs.Ytadgaefmoobcoaa

namespace Go.Proofs.Ytadgaefmoobcoaa
open Go.ChangeShapes Go.WideShapes Go.ChangeAt Go.RowKit Go.Syn Go.Eng
set_option linter.unusedVariables false
set_option linter.unusedSimpArgs false
set_option maxRecDepth 100000
theorem opn_bal {w : World} {d : Dat} (h : d.In Try.prog w 23) : ∃ x y : Int, d = .parts [.int .i64 x, .int .i64 y] ∧ I64 x ∧ I64 y := by
  obtain ⟨ds, rfl, g⟩ := in_struct Try.underlying23 h
  obtain ⟨d0, r0, rfl, h0, g0⟩ := inEach_cons g
  obtain ⟨d1, r1, rfl, h1, g1⟩ := inEach_cons g0
  obtain rfl := inEach_nil g1
  obtain ⟨x, rfl, i⟩ := opn_int h0
  obtain ⟨y, rfl, j⟩ := opn_int h1
  exact ⟨x, y, rfl, i, j⟩
theorem opn_res {w : World} {d : Dat} (h : d.In Try.prog w 34) : ∃ x y z : Int, d = .parts [.int .i64 x, .int .i64 y, .int .i64 z] ∧ I64 x ∧ I64 y ∧ I64 z := by
  obtain ⟨ds, rfl, g⟩ := in_struct Try.underlying34 h
  obtain ⟨d0, r0, rfl, h0, g0⟩ := inEach_cons g
  obtain ⟨d1, r1, rfl, h1, g1⟩ := inEach_cons g0
  obtain ⟨d2, r2, rfl, h2, g2⟩ := inEach_cons g1
  obtain rfl := inEach_nil g2
  obtain ⟨x, rfl, i⟩ := opn_int h0
  obtain ⟨y, rfl, j⟩ := opn_int h1
  obtain ⟨z, rfl, l⟩ := opn_int h2
  exact ⟨x, y, z, rfl, i, j, l⟩
theorem opn_vo {w : World} {d : Dat} (h : d.In Try.prog w 59) : ∃ x : Vo Pv, d.cells = voC x ∧ VoWf x ∧ x.v.hx.X w := by
  obtain ⟨ds, rfl, g⟩ := in_struct Try.underlying59 h
  obtain ⟨d0, r0, rfl, h0, g0⟩ := inEach_cons g
  obtain ⟨d1, r1, rfl, h1, g1⟩ := inEach_cons g0
  obtain ⟨d2, r2, rfl, h2, g2⟩ := inEach_cons g1
  obtain rfl := inEach_nil g2
  obtain ⟨s, rfl, i⟩ := opn_int h0
  obtain ⟨x, y, rfl, j, l⟩ := opn_bal h1
  obtain ⟨v, a1, c1, a2, c2, e, H, hk, hc⟩ := opn_vl h2
  refine ⟨⟨s, x, y, ⟨v, a1, c1, a2, c2⟩⟩, ?_, ⟨i, j, l, hk, hc, H.fit⟩, H.X⟩
  show [Value.int .i64 s] ++ (Dat.cellsAll [.int .i64 x, .int .i64 y] ++ (d2.cells ++ [])) = _
  rw [e]; rfl
theorem opn_vos {w : World} : ∀ (ds : List Dat), (∀ d ∈ ds, d.In Try.prog w 59) → ∃ vs : List (Vo Pv), vs.length = ds.length ∧ Dat.cellsAll ds = vocs vs ∧ ∀ x ∈ vs, VoWf x ∧ x.v.hx.X w
  | [], _ => ⟨[], rfl, rfl, fun x hx => by cases hx⟩
  | d :: r, h => by
    obtain ⟨v, e, o, o'⟩ := opn_vo (h d (List.mem_cons_self))
    obtain ⟨vs, l, e2, o2⟩ := opn_vos r (fun d hd => h d (List.mem_cons_of_mem _ hd))
    refine ⟨v :: vs, by simp [l], by rw [Dat.cellsAll, e, e2]; rfl, fun x hx => ?_⟩
    rcases List.mem_cons.1 hx with rfl | hx
    · exact ⟨o, o'⟩
    · exact o2 x hx
theorem vos_X {w : World} {a : Option Addr} {vs : List (Vo Pv)} (h : Cells w a (vocs vs)) (h2 : ∀ x ∈ vs, VoWf x ∧ x.v.hx.X w) : (voX a vs).X w := ⟨h, fun y hy => by
  obtain ⟨x, hx, rfl⟩ := List.mem_map.1 hy
  exact (h2 x hx).2⟩
theorem bytes_vot : Try.prog.bytesOf 59 = 80 := by kernel_rfl
theorem opn_ms {w : World} {d : Dat} (h : d.In Try.prog w 37) : ∃ m : Ms, d.cells = m.cells ∧ m.X.X w ∧ MsWf m ∧ m.vs.length * 80 ≤ 140737488355328 := by
  obtain ⟨ds, rfl, g⟩ := in_struct Try.underlying37 h
  obtain ⟨d0, r0, rfl, h0, g0⟩ := inEach_cons g
  obtain ⟨d1, r1, rfl, h1, g1⟩ := inEach_cons g0
  obtain ⟨d2, r2, rfl, h2, g2⟩ := inEach_cons g1
  obtain ⟨d3, r3, rfl, h3, g3⟩ := inEach_cons g2
  obtain ⟨d4, r4, rfl, h4, g4⟩ := inEach_cons g3
  obtain ⟨d5, r5, rfl, h5, g5⟩ := inEach_cons g4
  obtain ⟨d6, r6, rfl, h6, g6⟩ := inEach_cons g5
  obtain ⟨d7, r7, rfl, h7, g7⟩ := inEach_cons g6
  obtain ⟨d8, r8, rfl, h8, g8⟩ := inEach_cons g7
  obtain ⟨d9, r9, rfl, h9, g9⟩ := inEach_cons g8
  obtain ⟨d10, r10, rfl, h10, g10⟩ := inEach_cons g9
  obtain ⟨d11, r11, rfl, h11, g11⟩ := inEach_cons g10
  obtain ⟨d12, r12, rfl, h12, g12⟩ := inEach_cons g11
  obtain rfl := inEach_nil g12
  obtain ⟨i0, rfl, j0⟩ := opn_int h0
  obtain ⟨i1, rfl, j1⟩ := opn_int h1
  obtain ⟨i2, rfl, j2⟩ := opn_int h2
  obtain ⟨i3, rfl, j3⟩ := opn_int h3
  obtain ⟨b0, b1, rfl, jb0, jb1⟩ := opn_bal h4
  obtain ⟨i5, rfl, j5⟩ := opn_int h5
  obtain ⟨i6, rfl, j6⟩ := opn_int h6
  obtain ⟨i7, rfl, j7⟩ := opn_int h7
  obtain ⟨v, a1, c1, a2, c2, e8, H8, hk8, hc8⟩ := opn_vl h8
  obtain ⟨av, cv, dv, rfl, lv, mv, bv, Cv, Iv⟩ := in_slice Try.underlying28 h9
  obtain ⟨c, rfl, hc⟩ := opn_cmd h10
  obtain ⟨q0, q1, q2, rfl, jq0, jq1, jq2⟩ := opn_res h11
  obtain ⟨ad, cd, dd, rfl, ld, md, bd, Cd, Id⟩ := in_slice Try.underlying35 h12
  obtain ⟨vs, lvs, evs, ovs⟩ := opn_vos dv Iv
  obtain ⟨bs, lbs, ebs, hbs⟩ := opn_bytes dd Id
  have hr := reach_is
  rw [bytes_vot] at bv
  rw [bytes_u8] at bd
  have hvl : vs.length * 80 ≤ 140737488355328 := by omega
  refine ⟨⟨i0, i1, i2, i3, b0, b1, i5, i6, i7, ⟨v, a1, c1, a2, c2⟩, av, cv, vs, c, q0, q1, q2, ad, cd, bs⟩, ?_, ⟨⟨H8.X, vos_X (by rw [← evs]; exact Cv) ovs⟩, by show Cells w ad (bcells bs); rw [← ebs]; exact Cd⟩, ⟨j0, j1, j2, j3, jb0, jb1, j5, j6, j7, ⟨hk8, hc8, H8.fit⟩, fun x hx => (ovs x hx).1, hc, jq0, jq1, jq2, hbs, by show bs.length ≤ _; omega, by show vs.length ≤ _; omega⟩, hvl⟩
  show [Value.int .i64 i0] ++ ([Value.int .i64 i1] ++ ([Value.int .i64 i2] ++ ([Value.int .i64 i3] ++ (Dat.cellsAll [.int .i64 b0, .int .i64 b1] ++ ([Value.int .i64 i5] ++ ([Value.int .i64 i6] ++ ([Value.int .i64 i7] ++ (d8.cells ++ ([Value.slice av dv.length cv] ++ ((cmDat c).cells ++ (Dat.cellsAll [.int .i64 q0, .int .i64 q1, .int .i64 q2] ++ ([Value.slice ad dd.length cd] ++ [])))))))))))) = _
  rw [e8, ← lvs, ← lbs]; rfl
theorem MsWf.of {m m' : Ms} (h : MsWf m) (e : m'.con = m.con) : MsWf m' := McWf.ms (by rw [e]; exact h.con)
theorem ms_arg {d : Dat} {m : Ms} (h : d.cells = m.cells) : Value.agg d.cells.toArray = m.val := by rw [h]; rfl
end Go.Proofs.Ytadgaefmoobcoaa

namespace Go.Proofs.Ytadgaefmoobcoaa
open Go.ChangeShapes Go.WideShapes Go.ChangeAt Go.RowKit Go.Syn Go.Eng
set_option linter.unusedVariables false
set_option linter.unusedSimpArgs false
def voBc (x : Vo Vl) : List Int := numB (natU x.s) ++ (numB (natU x.r) ++ (numB (natU x.n) ++ vlB x.v))
def mBc (o : Mc) : List Int := numB (natU o.k) ++ (numB (natU o.f) ++ (numB (natU o.t) ++ (numB (natU o.e) ++ (bitB (useI o.k) 1 (natsB [o.r, o.n]) ++ (bitB (useI o.k) 2 (natsB [o.slot]) ++ (bitB (useI o.k) 4 (natsB [o.low]) ++ (bitB (useI o.k) 8 (natsB [o.tm]) ++ (bitB (useI o.k) 16 (vlB o.v) ++ (bitB (useI o.k) 32 (natsB [(o.vs.length : Int)]) ++ (o.vs.flatMap voBc ++ (bitB (useI o.k) 64 (cmdB o.c) ++ (bitB (useI o.k) 128 (numB (foldN o.rk) ++ (numB (foldN o.re) ++ numB (foldN o.im))) ++ bitB (useI o.k) 256 (numB o.d.length ++ o.d)))))))))))))
theorem mB_con (m : Ms) : mB m = mBc m.con := by
  have h1 : (vlsOf m.vs).flatMap voBc = m.vs.flatMap voB := by
    unfold vlsOf
    rw [List.flatMap_map]; rfl
  have h2 : (vlsOf m.vs).length = m.vs.length := vlsOf_len _
  unfold mB mBc
  show _ = numB (natU m.k) ++ (numB (natU m.f) ++ (numB (natU m.t) ++ (numB (natU m.e) ++ (bitB (useI m.k) 1 (natsB [m.r, m.n]) ++ (bitB (useI m.k) 2 (natsB [m.slot]) ++ (bitB (useI m.k) 4 (natsB [m.low]) ++ (bitB (useI m.k) 8 (natsB [m.tm]) ++ (bitB (useI m.k) 16 (vlB m.p.v) ++ (bitB (useI m.k) 32 (natsB [((vlsOf m.vs).length : Int)]) ++ ((vlsOf m.vs).flatMap voBc ++ (bitB (useI m.k) 64 (cmdB m.c) ++ (bitB (useI m.k) 128 (numB (foldN m.rk) ++ (numB (foldN m.re) ++ numB (foldN m.im))) ++ bitB (useI m.k) 256 (numB m.d.length ++ m.d)))))))))))))
  rw [h1, h2]; rfl
theorem mB_small {m : Ms} (hw : MsWf m) (h0 : chkM m = 0) : (mB m).length ≤ 65536 := by
  have G := chk_good h0
  have g1 := numB_len (natU_lt m.k)
  have g2 := numB_len (natU_lt m.f)
  have g3 := numB_len (natU_lt m.t)
  have g4 := numB_len (natU_lt m.e)
  have c1 := bitB_len (useI m.k) 1 (natsB [m.r, m.n])
  have c2 := bitB_len (useI m.k) 2 (natsB [m.slot])
  have c3 := bitB_len (useI m.k) 4 (natsB [m.low])
  have c4 := bitB_len (useI m.k) 8 (natsB [m.tm])
  have c5 := bitB_len (useI m.k) 16 (vlB m.p.v)
  have c6 := bitB_len (useI m.k) 32 (natsB [(m.vs.length : Int)])
  have c7 := bitB_len (useI m.k) 64 (cmdB m.c)
  have c8 := bitB_len (useI m.k) 128 (resY m)
  have c9 := bitB_len (useI m.k) 256 (numB m.d.length ++ m.d)
  have n1 : (natsB [m.r, m.n]).length ≤ 18 := natsB_len [m.r, m.n]
  have n2 : (natsB [m.slot]).length ≤ 9 := natsB_len [m.slot]
  have n3 : (natsB [m.low]).length ≤ 9 := natsB_len [m.low]
  have n4 : (natsB [m.tm]).length ≤ 9 := natsB_len [m.tm]
  have n5 := vlB_small hw.v G.ve
  have n6 : (natsB [(m.vs.length : Int)]).length ≤ 9 := natsB_len [(m.vs.length : Int)]
  have n7 := vos_small (l := m.vs) fun x hx => voB_small (hw.vs x hx) (G.vo x hx).2.2.2
  have n8 := cmdB_len hw.c
  have n9 : (resY m).length ≤ 27 := by
    have h4 := numB_len (foldN_lt hw.rk)
    have h5 := numB_len (foldN_lt hw.re)
    have h6 := numB_len (foldN_lt hw.im)
    unfold resY; simp only [List.length_append]; omega
  have hdl : m.d.length ≤ 1024 := by have := G.pl.dl; omega
  have n10 : (numB m.d.length ++ m.d).length ≤ 1033 := by
    have h4 := numB_len (u := m.d.length) (by omega)
    rw [List.length_append]; omega
  have hvl := G.vl
  unfold mB
  simp only [List.length_append] at *
  omega
section
variable {bs : List Int} {q : Nat × Int} {rest : List Int}
end
theorem one1 (x : Int) : natsB [x] = numB (natU x) := by simp [natsB]
section
variable {bs : List Int} {q : Nat × Int}
end
end Go.Proofs.Ytadgaefmoobcoaa

namespace Go.Proofs.Ytadgaefmoobcoaa
open Go.ChangeShapes Go.WideShapes Go.ChangeAt Go.RowKit Go.Syn Go.Eng
set_option linter.unusedVariables false
set_option linter.unusedSimpArgs false
set_option maxRecDepth 100000
abbrev tQCmdb0 : List LV := [(tVi 0), (tVi 1), (tVi 2), (tVi 3), (tVi 4), (tVi 5), (tVi 6), (tVi 7)]
abbrev tQCmdm0 : Mem := ⟨[(32, tQCmdb0), (5, []), (3, tQCmdb0)], ⟨8, 0, 0, 20, 10⟩⟩
abbrev tQCmdm1 : Mem := ⟨[(32, tQCmdb0), (5, []), (3, tQCmdb0)], ⟨8, 0, 0, 22, 11⟩⟩
abbrev tQCmdm2 : Mem := ⟨[(32, tQCmdb0), (5, []), (3, tQCmdb0)], ⟨8, 0, 0, 24, 12⟩⟩
abbrev tQCmdm3 : Mem := ⟨[(32, tQCmdb0), (5, []), (3, tQCmdb0)], ⟨8, 0, 0, 26, 13⟩⟩
abbrev tQCmdm4 : Mem := ⟨[(32, tQCmdb0), (5, []), (3, tQCmdb0)], ⟨8, 0, 0, 28, 14⟩⟩
abbrev tQCmdm5 : Mem := ⟨[(32, tQCmdb0), (5, []), (3, tQCmdb0)], ⟨8, 0, 0, 30, 15⟩⟩
abbrev tQCmdm6 : Mem := ⟨[(32, tQCmdb0), (5, []), (3, tQCmdb0)], ⟨8, 0, 0, 32, 16⟩⟩
abbrev tQCmdm7 : Mem := ⟨[(32, tQCmdb0), (5, []), (3, tQCmdb0)], ⟨8, 0, 0, 10, 5⟩⟩
abbrev tQCmdm8 : Mem := ⟨[(32, tQCmdb0), (5, []), (3, tQCmdb0)], ⟨8, 0, 0, 12, 6⟩⟩
abbrev tQCmdm9 : Mem := ⟨[(32, tQCmdb0), (5, []), (3, tQCmdb0)], ⟨8, 0, 0, 14, 7⟩⟩
abbrev tQCmdm10 : Mem := ⟨[(32, tQCmdb0), (5, []), (3, tQCmdb0)], ⟨8, 0, 0, 16, 8⟩⟩
abbrev tQCmdm11 : Mem := ⟨[(32, tQCmdb0), (5, []), (3, tQCmdb0)], ⟨8, 0, 0, 18, 9⟩⟩
abbrev tQCmdm12 : Mem := ⟨[(32, tQCmdb0), (5, []), (3, tQCmdb0)], ⟨8, 0, 0, 2, 1⟩⟩
abbrev tQCmdm13 : Mem := ⟨[(32, tQCmdb0), (5, []), (3, tQCmdb0)], ⟨8, 0, 0, 4, 2⟩⟩
abbrev tQCmdm14 : Mem := ⟨[(32, tQCmdb0), (5, []), (3, tQCmdb0)], ⟨8, 0, 0, 6, 3⟩⟩
abbrev tQCmdm15 : Mem := ⟨[(32, tQCmdb0), (5, []), (3, tQCmdb0)], ⟨8, 0, 0, 8, 4⟩⟩
set_option maxRecDepth 100000 in
theorem tQCmd : (runF ⟨tt, fns, { loops := [], unroll := [4], rounds := 10 }⟩ (Try.f52.body.getD .skip) Try.f52.results.toList (entry Try.f52.ntmps [.agg [.int .i64 (.var 0), .int .i64 (.var 1), .int .i64 (.var 2), .int .i64 (.var 3), .int .i64 (.var 4), .int .i64 (.var 5), .int .i64 (.var 6), .int .i64 (.var 7)]] [] ⟨8, 0, 0, 0, 0⟩)) =
  (.call 53 [(.lf (tVi 0))] ⟨[(32, tQCmdb0), (5, []), (3, tQCmdb0)], ⟨8, 0, 0, 0, 0⟩⟩ (.lf (tSl 0 0 1)) tQCmdm12 (.gen (.call ⟨(.builtin .append), #[(.tmp 34), (.tmp 39)], #[35, 35]⟩) 35 [(34, (.lf (.nsl 1 0 0 0))), (39, (.lf (tSl 0 0 1)))] tQCmdm12 (.some (.lf (tSl 1 2 3))) tQCmdm13 (.call 53 [(.lf (tVi 1))] tQCmdm13 (.lf (tSl 2 4 5)) tQCmdm14 (.gen (.call ⟨(.builtin .append), #[(.tmp 34), (.tmp 39)], #[35, 35]⟩) 35 [(34, (.lf (tSl 1 2 3))), (39, (.lf (tSl 2 4 5)))] tQCmdm14 (.some (.lf (tSl 3 6 7))) tQCmdm15 (.call 53 [(.lf (tVi 2))] tQCmdm15 (.lf (tSl 4 8 9)) tQCmdm7 (.gen (.call ⟨(.builtin .append), #[(.tmp 34), (.tmp 39)], #[35, 35]⟩) 35 [(34, (.lf (tSl 3 6 7))), (39, (.lf (tSl 4 8 9)))] tQCmdm7 (.some (.lf (tSl 5 10 11))) tQCmdm8 (.call 53 [(.lf (tVi 3))] tQCmdm8 (.lf (tSl 6 12 13)) tQCmdm9 (.gen (.call ⟨(.builtin .append), #[(.tmp 34), (.tmp 39)], #[35, 35]⟩) 35 [(34, (.lf (tSl 5 10 11))), (39, (.lf (tSl 6 12 13)))] tQCmdm9 (.some (.lf (tSl 7 14 15))) tQCmdm10 (.call 53 [(.lf (tVi 4))] tQCmdm10 (.lf (tSl 8 16 17)) tQCmdm11 (.gen (.call ⟨(.builtin .append), #[(.tmp 34), (.tmp 39)], #[35, 35]⟩) 35 [(34, (.lf (tSl 7 14 15))), (39, (.lf (tSl 8 16 17)))] tQCmdm11 (.some (.lf (tSl 9 18 19))) tQCmdm0 (.call 53 [(.lf (tVi 5))] tQCmdm0 (.lf (tSl 10 20 21)) tQCmdm1 (.gen (.call ⟨(.builtin .append), #[(.tmp 34), (.tmp 39)], #[35, 35]⟩) 35 [(34, (.lf (tSl 9 18 19))), (39, (.lf (tSl 10 20 21)))] tQCmdm1 (.some (.lf (tSl 11 22 23))) tQCmdm2 (.call 53 [(.lf (tVi 6))] tQCmdm2 (.lf (tSl 12 24 25)) tQCmdm3 (.gen (.call ⟨(.builtin .append), #[(.tmp 34), (.tmp 39)], #[35, 35]⟩) 35 [(34, (.lf (tSl 11 22 23))), (39, (.lf (tSl 12 24 25)))] tQCmdm3 (.some (.lf (tSl 13 26 27))) tQCmdm4 (.call 53 [(.lf (tVi 7))] tQCmdm4 (.lf (tSl 14 28 29)) tQCmdm5 (.gen (.call ⟨(.builtin .append), #[(.tmp 34), (.tmp 39)], #[35, 35]⟩) 35 [(34, (.lf (tSl 13 26 27))), (39, (.lf (tSl 14 28 29)))] tQCmdm5 (.some (.lf (tSl 15 30 31))) tQCmdm6 (.done (.lf (tSl 15 30 31)) tQCmdm6))))))))))))))))) := by kernel_rfl
section
variable {C : Cfg} {ρ : Env} {pre : List Nat} {hx : HX} {L : Stack} {m m1 m2 : Mem} {args : List SV} {r r2 : SV} {t : Tree} {ty : Nat} {ps : List (Nat × SV)}
theorem node_cat {f : Nat} {so xo : Operand} {ac : Go.Call} {a : Option Addr} {cap : Nat} {bs bs2 : List Int} (AS : List Nat → Array Value) (hargs : ∀ ids, (args.map (SV.den ρ ids)).toArray = AS ids) (hrow : ∀ w, hx.X w → (frow a cap bs).X w) (hrf : ∀ k, cap ≠ 0 → abk a = some k → hx.F k)
    (hcall : ∀ ids w, pre <+: ids → Facts C m ρ ids hx w → Calls C.P f (AS ids) w (NewO w id bs2)) (hP : C.P = Try.prog) (hac : ac = { callee := .builtin .append, args := #[so, xo], argTypes := #[35, 35] })
    (hr : ∀ a2 c2 ids, r.den (ρ.add ⟨[], [], [], [bs2.length, c2], [a2]⟩) ids = .slice a2 bs2.length c2) (hhp : m1.hp = m.hp) (hfit : hpFits m.c m.hp.length m.hp = true) (hc : ∀ a2 c2, (ρ.add ⟨[], [], [], [bs2.length, c2], [a2]⟩).cnt = m1.c)
    (hso : ∀ a2 c2 ids, envOf (ρ.add ⟨[], [], [], [bs2.length, c2], [a2]⟩) ids ps so = .slice a bs.length cap) (hxo : ∀ a2 c2 ids, envOf (ρ.add ⟨[], [], [], [bs2.length, c2], [a2]⟩) ids ps xo = .slice a2 bs2.length c2)
    (hM : ∀ k, cap ≠ 0 → abk a = some k → C.W.heap.size ≤ k ∨ C.M k) (h63 : bs.length + bs2.length ≤ 140737488355328)
    (hr2 : ∀ a2 c2 a' c' ids, r2.den ((ρ.add ⟨[], [], [], [bs2.length, c2], [a2]⟩).add ⟨[], [], [], [bs.length + bs2.length, c'], [a']⟩) ids = .slice a' (bs.length + bs2.length) c') (hhp2 : m2.hp = m1.hp) (hfit2 : hpFits m1.c m1.hp.length m1.hp = true) (hc2 : ∀ a2 c2 a' c', ((ρ.add ⟨[], [], [], [bs2.length, c2], [a2]⟩).add ⟨[], [], [], [bs.length + bs2.length, c'], [a']⟩).cnt = m2.c)
    (h : ∀ a2 c2 a' c', (∀ k, c' ≠ 0 → abk a' = some k → (cap ≠ 0 ∧ abk a = some k) ∨ C.W.heap.size ≤ k) → t.holds C ((ρ.add ⟨[], [], [], [bs2.length, c2], [a2]⟩).add ⟨[], [], [], [bs.length + bs2.length, c'], [a']⟩) pre (HX.nil.and (frow a' c' (bs ++ bs2))) L) :
    (Tree.call f args m r m1 (Tree.gen (.call ac) ty ps m1 (some r2) m2 t)).holds C ρ pre hx L := by
  refine node_newi (V := id) (bs := bs2) AS (fun a2 c2 => ⟨[], [], [], [bs2.length, c2], [a2]⟩) hargs hcall hr hhp hfit hc (fun _ _ => oneNil) ?_
  intro a2 c2 _ hn2
  refine node_appends (sz := 1) (bytes := 1) (e := 5) (z := .int .u8 0) (rest := HX.nil) (xs := bcells bs) hac (hP ▸ Try.underlying35) (hP ▸ info_byte) rfl (by decide) a bs.length cap (fun _ => a2) bs2.length c2 (bcells bs2) (by rw [bcells_len, Nat.mul_one]) (fun ids w hp hf => hrow w hf.x.1) (fun ids w hp hf => frow_cells hf.x.2) (bcells_one bs2) (fun w h => ⟨trivial, fun _ q => q.elim⟩) (fun k h1 h2 => .inl (hrf k h1 h2)) (fun k _ _ q => q.elim) hM (by unfold maxLen; omega) (by omega) (hso a2 c2) (fun ids _ => hxo a2 c2 ids) (hr2 a2 c2) hhp2 hfit2 (hc2 a2 c2) ?_
  intro a' c' _ _ hor
  rw [frow_app]
  exact h a2 c2 a' c' (fun k h1 h2 => (hor k h1 h2).elim .inl (fun q => .inr q.1))
end
set_option maxHeartbeats 4000000 in
theorem qcmd_any (c : CmD) (hc : CmFit c) (w : World) : Calls Try.prog 52 #[.agg c.cells.toArray] w (NewO w id (cmdB c)) := by
  refine calls_at (tab_ok _) Try.func52 rfl tQCmd (ρ := ⟨c.is, [], [], [], []⟩) (ids := []) (hx := HX.nil) rfl (Facts.initP rfl oneNil) ?_
  obtain ⟨b0, e0⟩ : ∃ b, b = numB (foldN c.sess) := ⟨_, rfl⟩
  have g0 : b0.length ≤ 9 := by rw [e0]; exact numI_len (hc _ (by simp [CmD.is]))
  obtain ⟨b1, e1⟩ : ∃ b, b = numB (foldN c.seq) := ⟨_, rfl⟩
  have g1 : b1.length ≤ 9 := by rw [e1]; exact numI_len (hc _ (by simp [CmD.is]))
  obtain ⟨b2, e2⟩ : ∃ b, b = numB (foldN c.ack) := ⟨_, rfl⟩
  have g2 : b2.length ≤ 9 := by rw [e2]; exact numI_len (hc _ (by simp [CmD.is]))
  obtain ⟨b3, e3⟩ : ∃ b, b = numB (foldN c.op.kind) := ⟨_, rfl⟩
  have g3 : b3.length ≤ 9 := by rw [e3]; exact numI_len (hc _ (by simp [CmD.is]))
  obtain ⟨b4, e4⟩ : ∃ b, b = numB (foldN c.op.reg) := ⟨_, rfl⟩
  have g4 : b4.length ≤ 9 := by rw [e4]; exact numI_len (hc _ (by simp [CmD.is]))
  obtain ⟨b5, e5⟩ : ∃ b, b = numB (foldN c.op.tg) := ⟨_, rfl⟩
  have g5 : b5.length ≤ 9 := by rw [e5]; exact numI_len (hc _ (by simp [CmD.is]))
  obtain ⟨b6, e6⟩ : ∃ b, b = numB (foldN c.op.re) := ⟨_, rfl⟩
  have g6 : b6.length ≤ 9 := by rw [e6]; exact numI_len (hc _ (by simp [CmD.is]))
  obtain ⟨b7, e7⟩ : ∃ b, b = numB (foldN c.op.im) := ⟨_, rfl⟩
  have g7 : b7.length ≤ 9 := by rw [e7]; exact numI_len (hc _ (by simp [CmD.is]))
  refine node_newi (V := id) (bs := b0) (fun _ => #[.int .i64 c.sess]) (fun a' c' => ⟨[], [], [], [b0.length, c'], [a']⟩) (by intros; kernel_rfl) (fun ids w2 _ _ => by rw [e0]; exact qi_any (hc _ (by simp [CmD.is])) w2) (by intros; kernel_rfl) (by intros; kernel_rfl) (by intros; kernel_rfl) (by intros; kernel_rfl) (fun _ _ => oneNil) ?_
  intro y0 z0 _ _
  refine node_clones (sz := 1) (xs := bcells b0) rfl Try.underlying35 info_byte rfl (by decide) 1 rfl (fun _ => y0) b0.length z0 (by rw [bcells_len, Nat.mul_one]) (fun ids w2 hp hf => frow_cells hf.x.2) (bcells_one b0) (by unfold maxLen; omega) (by omega) (by intros; kernel_rfl) (by intros; kernel_rfl) (by intros; kernel_rfl) (by intros; kernel_rfl) (by intros; kernel_rfl) (by intros; kernel_rfl) ?_
  intro x0 w0 hx0
  have k0 : ∀ k, w0 ≠ 0 → abk x0 = some k → w.heap.size ≤ k := fun k h1 h2 => (hx0 k h1 h2).1
  refine node_cat (a := x0) (cap := w0) (bs := b0) (bs2 := b1) (fun _ => #[.int .i64 c.seq]) (by intros; kernel_rfl) (fun w h => h.2) (fun k h1 h2 => .inr ⟨h1, h2⟩) (fun ids w2 _ _ => by rw [e1]; exact qi_any (hc _ (by simp [CmD.is])) w2) rfl rfl (by intros; kernel_rfl) (by intros; kernel_rfl) (by intros; kernel_rfl) (by intros; kernel_rfl) (by intros; kernel_rfl) (by intros; kernel_rfl) (fun k h1 h2 => .inl (k0 k h1 h2)) (by omega) (by intros; kernel_rfl) (by intros; kernel_rfl) (by intros; kernel_rfl) (by intros; kernel_rfl) ?_
  intro u1 v1 x1 w1 hh1
  have k1 : ∀ k, w1 ≠ 0 → abk x1 = some k → w.heap.size ≤ k := fun k h1 h2 => (hh1 k h1 h2).elim (fun q => k0 k q.1 q.2) id
  refine node_cat (a := x1) (cap := w1) (bs := (b0 ++ b1)) (bs2 := b2) (fun _ => #[.int .i64 c.ack]) (by intros; kernel_rfl) (fun w h => h.2) (fun k h1 h2 => .inr ⟨h1, h2⟩) (fun ids w2 _ _ => by rw [e2]; exact qi_any (hc _ (by simp [CmD.is])) w2) rfl rfl (by intros; kernel_rfl) (by intros; kernel_rfl) (by intros; kernel_rfl) (by intros; kernel_rfl) (by intros; simp only [List.length_append]; rfl) (by intros; kernel_rfl) (fun k h1 h2 => .inl (k1 k h1 h2)) (by simp only [List.length_append]; omega) (by intros; simp only [List.length_append]; rfl) (by intros; kernel_rfl) (by intros; kernel_rfl) (by intros; kernel_rfl) ?_
  intro u2 v2 x2 w2 hh2
  have k2 : ∀ k, w2 ≠ 0 → abk x2 = some k → w.heap.size ≤ k := fun k h1 h2 => (hh2 k h1 h2).elim (fun q => k1 k q.1 q.2) id
  refine node_cat (a := x2) (cap := w2) (bs := ((b0 ++ b1) ++ b2)) (bs2 := b3) (fun _ => #[.int .i64 c.op.kind]) (by intros; kernel_rfl) (fun w h => h.2) (fun k h1 h2 => .inr ⟨h1, h2⟩) (fun ids w2 _ _ => by rw [e3]; exact qi_any (hc _ (by simp [CmD.is])) w2) rfl rfl (by intros; kernel_rfl) (by intros; kernel_rfl) (by intros; kernel_rfl) (by intros; kernel_rfl) (by intros; simp only [List.length_append]; rfl) (by intros; kernel_rfl) (fun k h1 h2 => .inl (k2 k h1 h2)) (by simp only [List.length_append]; omega) (by intros; simp only [List.length_append]; rfl) (by intros; kernel_rfl) (by intros; kernel_rfl) (by intros; kernel_rfl) ?_
  intro u3 v3 x3 w3 hh3
  have k3 : ∀ k, w3 ≠ 0 → abk x3 = some k → w.heap.size ≤ k := fun k h1 h2 => (hh3 k h1 h2).elim (fun q => k2 k q.1 q.2) id
  refine node_cat (a := x3) (cap := w3) (bs := (((b0 ++ b1) ++ b2) ++ b3)) (bs2 := b4) (fun _ => #[.int .i64 c.op.reg]) (by intros; kernel_rfl) (fun w h => h.2) (fun k h1 h2 => .inr ⟨h1, h2⟩) (fun ids w2 _ _ => by rw [e4]; exact qi_any (hc _ (by simp [CmD.is])) w2) rfl rfl (by intros; kernel_rfl) (by intros; kernel_rfl) (by intros; kernel_rfl) (by intros; kernel_rfl) (by intros; simp only [List.length_append]; rfl) (by intros; kernel_rfl) (fun k h1 h2 => .inl (k3 k h1 h2)) (by simp only [List.length_append]; omega) (by intros; simp only [List.length_append]; rfl) (by intros; kernel_rfl) (by intros; kernel_rfl) (by intros; kernel_rfl) ?_
  intro u4 v4 x4 w4 hh4
  have k4 : ∀ k, w4 ≠ 0 → abk x4 = some k → w.heap.size ≤ k := fun k h1 h2 => (hh4 k h1 h2).elim (fun q => k3 k q.1 q.2) id
  refine node_cat (a := x4) (cap := w4) (bs := ((((b0 ++ b1) ++ b2) ++ b3) ++ b4)) (bs2 := b5) (fun _ => #[.int .i64 c.op.tg]) (by intros; kernel_rfl) (fun w h => h.2) (fun k h1 h2 => .inr ⟨h1, h2⟩) (fun ids w2 _ _ => by rw [e5]; exact qi_any (hc _ (by simp [CmD.is])) w2) rfl rfl (by intros; kernel_rfl) (by intros; kernel_rfl) (by intros; kernel_rfl) (by intros; kernel_rfl) (by intros; simp only [List.length_append]; rfl) (by intros; kernel_rfl) (fun k h1 h2 => .inl (k4 k h1 h2)) (by simp only [List.length_append]; omega) (by intros; simp only [List.length_append]; rfl) (by intros; kernel_rfl) (by intros; kernel_rfl) (by intros; kernel_rfl) ?_
  intro u5 v5 x5 w5 hh5
  have k5 : ∀ k, w5 ≠ 0 → abk x5 = some k → w.heap.size ≤ k := fun k h1 h2 => (hh5 k h1 h2).elim (fun q => k4 k q.1 q.2) id
  refine node_cat (a := x5) (cap := w5) (bs := (((((b0 ++ b1) ++ b2) ++ b3) ++ b4) ++ b5)) (bs2 := b6) (fun _ => #[.int .i64 c.op.re]) (by intros; kernel_rfl) (fun w h => h.2) (fun k h1 h2 => .inr ⟨h1, h2⟩) (fun ids w2 _ _ => by rw [e6]; exact qi_any (hc _ (by simp [CmD.is])) w2) rfl rfl (by intros; kernel_rfl) (by intros; kernel_rfl) (by intros; kernel_rfl) (by intros; kernel_rfl) (by intros; simp only [List.length_append]; rfl) (by intros; kernel_rfl) (fun k h1 h2 => .inl (k5 k h1 h2)) (by simp only [List.length_append]; omega) (by intros; simp only [List.length_append]; rfl) (by intros; kernel_rfl) (by intros; kernel_rfl) (by intros; kernel_rfl) ?_
  intro u6 v6 x6 w6 hh6
  have k6 : ∀ k, w6 ≠ 0 → abk x6 = some k → w.heap.size ≤ k := fun k h1 h2 => (hh6 k h1 h2).elim (fun q => k5 k q.1 q.2) id
  refine node_cat (a := x6) (cap := w6) (bs := ((((((b0 ++ b1) ++ b2) ++ b3) ++ b4) ++ b5) ++ b6)) (bs2 := b7) (fun _ => #[.int .i64 c.op.im]) (by intros; kernel_rfl) (fun w h => h.2) (fun k h1 h2 => .inr ⟨h1, h2⟩) (fun ids w2 _ _ => by rw [e7]; exact qi_any (hc _ (by simp [CmD.is])) w2) rfl rfl (by intros; kernel_rfl) (by intros; kernel_rfl) (by intros; kernel_rfl) (by intros; kernel_rfl) (by intros; simp only [List.length_append]; rfl) (by intros; kernel_rfl) (fun k h1 h2 => .inl (k6 k h1 h2)) (by simp only [List.length_append]; omega) (by intros; simp only [List.length_append]; rfl) (by intros; kernel_rfl) (by intros; kernel_rfl) (by intros; kernel_rfl) ?_
  intro u7 v7 x7 w7 hh7
  have k7 : ∀ k, w7 ≠ 0 → abk x7 = some k → w.heap.size ≤ k := fun k h1 h2 => (hh7 k h1 h2).elim (fun q => k6 k q.1 q.2) id
  intro ids w2 hp hf
  have e : cmdB c = (((((((b0 ++ b1) ++ b2) ++ b3) ++ b4) ++ b5) ++ b6) ++ b7) := by rw [e0, e1, e2, e3, e4, e5, e6, e7]; simp [cmdB, CmD.is]
  rw [e]
  refine ⟨x7, w7, ?_, hf.x.2, k7, hf.chg.below⟩
  simp only [List.length_append]; rfl
def RbI {α : Type} (W : World) (B : List Int) (l : List α) (f : α → List Int) (vs : Vals) (hx : HX) : Prop := ∃ (k : Nat) (a' : Option Addr) (c' : Nat), k ≤ l.length ∧ (∀ j, c' ≠ 0 → abk a' = some j → W.heap.size ≤ j) ∧
  vs = ⟨[(k : Int)], [], [], [(B ++ (l.take k).flatMap f).length, c'], [a']⟩ ∧ hx = HX.nil.and (frow a' c' (B ++ (l.take k).flatMap f))
set_option maxHeartbeats 4000000 in
theorem rbytes_any (v : Vl) (a1 : Option Addr) (c1 : Nat) (a2 : Option Addr) (c2 : Nat) (hw : VlWf v) (h0 : valE v = 0) (w : World) (H : VlAt w v a1 a2) : Calls Try.prog 51 #[vlV v a1 c1 a2 c2] w (NewO w id (vlB v)) := by
  obtain ⟨r1, r2, r3, r4⟩ := right_len h0
  refine calls_at (tab_ok _) Try.func51 rfl tRBytes (ρ := ⟨[v.k], [], [], [v.cs.length, c1, v.ns.length, c2], [a1, a2]⟩) (ids := []) (hx := HX.nil) rfl (Facts.initP rfl oneNil) ?_
  obtain ⟨b0, e0⟩ : ∃ b, b = numB (natU v.k) := ⟨_, rfl⟩
  have g0 : b0.length ≤ 9 := by rw [e0]; exact numB_len (natU_lt _)
  obtain ⟨b1, e1⟩ : ∃ b, b = numB v.cs.length := ⟨_, rfl⟩
  have g1 : b1.length ≤ 9 := by rw [e1]; exact numB_len (by omega)
  obtain ⟨b2, e2⟩ : ∃ b, b = numB v.ns.length := ⟨_, rfl⟩
  have g2 : b2.length ≤ 9 := by rw [e2]; exact numB_len (by omega)
  refine node_newi (V := id) (bs := b0) (fun _ => #[.int .u64 (IntKind.u64.wrap v.k)]) (fun a' c' => ⟨[], [], [], [b0.length, c'], [a']⟩) (by intros; kernel_rfl) (fun ids w2 _ _ => by rw [natU_c, e0]; exact qn_any (natU_lt _) w2) (by intros; kernel_rfl) (by intros; kernel_rfl) (by intros; kernel_rfl) (by intros; kernel_rfl) (fun _ _ => oneNil) ?_
  intro y0 z0 _ hy0
  have k0 : ∀ k, z0 ≠ 0 → abk y0 = some k → w.heap.size ≤ k := fun k h1 h2 => (hy0 k h1 h2).1
  refine node_cat (a := y0) (cap := z0) (bs := b0) (bs2 := b1) (fun _ => #[.int .u64 (IntKind.u64.wrap (v.cs.length : Int))]) (by intros; kernel_rfl) (fun w h => h.2) (fun k h1 h2 => .inr ⟨h1, h2⟩) (fun ids w2 _ _ => by rw [natU_n (by omega), e1]; exact qn_any (by omega) w2) rfl rfl (by intros; kernel_rfl) (by intros; kernel_rfl) (by intros; kernel_rfl) (by intros; kernel_rfl) (by intros; kernel_rfl) (by intros; kernel_rfl) (fun k h1 h2 => .inl (k0 k h1 h2)) (by omega) (by intros; kernel_rfl) (by intros; kernel_rfl) (by intros; kernel_rfl) (by intros; kernel_rfl) ?_
  intro u1 v1 x1 w1 hh1
  have k1 : ∀ k, w1 ≠ 0 → abk x1 = some k → w.heap.size ≤ k := fun k h1 h2 => (hh1 k h1 h2).elim (fun q => k0 k q.1 q.2) id
  refine loop_i (RbI w (b0 ++ b1) v.cs cmdB) (fun vs => v.cs.length - (vs.i.headD 0).toNat) (fun ids w2 hp hf => ⟨_, ⟨hf.x, hf.sep⟩, 0, x1, w1, Nat.zero_le _, k1, ?_, ?_⟩) ?_
  · rw [List.take_zero, List.flatMap_nil, List.append_nil, List.length_append]; rfl
  · rw [List.take_zero, List.flatMap_nil, List.append_nil]
  rintro vs hx' hcnt ⟨k, a', c', hk, hfr, rfl, rfl⟩
  have hlen : ∀ k, ((v.cs.take k).flatMap cmdB).length ≤ 576 := fun k => by
    have h1 := csB_len (cs := v.cs.take k) (fun c hc => hw.c c (List.mem_of_mem_take hc))
    have h2 : (v.cs.take k).length ≤ 8 := by rw [List.length_take]; omega
    omega
  by_cases hlt : k < v.cs.length
  · refine br_t (show decide ((k : Int) < (v.cs.length : Int)) = true from decide_eq_true (by omega)) ?_
    have hwk : IntKind.i64.wrap ((k : Int) + 1) = ((k + 1 : Nat) : Int) := by rw [wrap_i64 (by omega)]; omega
    obtain ⟨c, hc⟩ : ∃ c, v.cs[k]? = some c := ⟨_, List.getElem?_eq_getElem hlt⟩
    have hcf := hw.c c (List.mem_of_getElem? hc)
    obtain ⟨s, q⟩ := c_elt H.c hc
    refine need_i ⟨s, (show (0 : Int) ≤ k by omega), (show (k : Int) < v.cs.length by omega)⟩ ?_
    refine ⟨⟨c.is, [], [], [], []⟩, fun ids => q _ (fun e => e), ⟨rfl, oneNil⟩, ?_⟩
    have es : (b0 ++ b1) ++ (v.cs.take (k + 1)).flatMap cmdB = ((b0 ++ b1) ++ (v.cs.take k).flatMap cmdB) ++ cmdB c := by rw [flat_step cmdB hc]; simp only [List.append_assoc]
    have hl := hlen k
    obtain ⟨pb, epb⟩ : ∃ x, x = (b0 ++ b1) ++ (v.cs.take k).flatMap cmdB := ⟨_, rfl⟩
    have hpb : pb.length ≤ 600 := by rw [epb, List.length_append, List.length_append]; omega
    obtain ⟨bc, ebc⟩ : ∃ x, x = cmdB c := ⟨_, rfl⟩
    have hbc : bc.length ≤ 72 := by rw [ebc]; exact cmdB_len hcf
    rw [← epb]
    rw [← epb, ← ebc] at es
    refine node_cat (a := a') (cap := c') (bs := pb) (bs2 := bc) (fun _ => #[.agg c.cells.toArray]) (by intros; kernel_rfl) (fun w h => h.2) (fun k h1 h2 => .inr ⟨h1, h2⟩) (fun ids w2 _ _ => by rw [ebc]; exact qcmd_any c hcf w2) rfl rfl (by intros; kernel_rfl) (by intros; kernel_rfl) (by intros; kernel_rfl) (by intros; kernel_rfl) (by intros; kernel_rfl) (by intros; kernel_rfl) (fun k h1 h2 => .inl (hfr k h1 h2)) (by omega) (by intros; kernel_rfl) (by intros; kernel_rfl) (by intros; kernel_rfl) (by intros; kernel_rfl) ?_
    intro u2 v2 x2 w2' hh2 ids w2 hp hf
    refine ⟨_, ⟨hf.x, hf.sep⟩, _, rfl, ⟨k + 1, x2, w2', by omega, fun j h1 h2 => (hh2 j h1 h2).elim (fun q => hfr j q.1 q.2) id, ?_, ?_⟩, ?_⟩
    · rw [es, List.length_append, ← hwk]; rfl
    · rw [es]
    · show v.cs.length - (IntKind.i64.wrap ((k : Int) + 1)).toNat < v.cs.length - ((k : Int)).toNat
      rw [hwk]; omega
  refine br_f (show decide ((k : Int) < (v.cs.length : Int)) = false from decide_eq_false (by omega)) ?_
  obtain rfl : k = v.cs.length := by omega
  rw [List.take_length]
  have hl := hlen v.cs.length
  rw [List.take_length] at hl
  obtain ⟨pb, epb⟩ : ∃ x, x = (b0 ++ b1) ++ v.cs.flatMap cmdB := ⟨_, rfl⟩
  have hpb : pb.length ≤ 600 := by rw [epb, List.length_append, List.length_append]; omega
  rw [← epb]
  refine node_cat (a := a') (cap := c') (bs := pb) (bs2 := b2) (fun _ => #[.int .u64 (IntKind.u64.wrap (v.ns.length : Int))]) (by intros; kernel_rfl) (fun w h => h.2) (fun k h1 h2 => .inr ⟨h1, h2⟩) (fun ids w2 _ _ => by rw [natU_n (by omega), e2]; exact qn_any (by omega) w2) rfl rfl (by intros; kernel_rfl) (by intros; kernel_rfl) (by intros; kernel_rfl) (by intros; kernel_rfl) (by intros; kernel_rfl) (by intros; kernel_rfl) (fun k h1 h2 => .inl (hfr k h1 h2)) (by omega) (by intros; kernel_rfl) (by intros; kernel_rfl) (by intros; kernel_rfl) (by intros; kernel_rfl) ?_
  intro u3 v3 x3 w3 hh3
  have k3 : ∀ k, w3 ≠ 0 → abk x3 = some k → w.heap.size ≤ k := fun k h1 h2 => (hh3 k h1 h2).elim (fun q => hfr k q.1 q.2) id
  refine loop_i (RbI w (pb ++ b2) v.ns (fun n => numB (natU n))) (fun vs => v.ns.length - (vs.i.headD 0).toNat) (fun ids w2 hp hf => ⟨_, ⟨hf.x, hf.sep⟩, 0, x3, w3, Nat.zero_le _, k3, ?_, ?_⟩) ?_
  · rw [List.take_zero, List.flatMap_nil, List.append_nil, List.length_append]; rfl
  · rw [List.take_zero, List.flatMap_nil, List.append_nil]
  rintro vs hx' hcnt2 ⟨k, a4, c4, hk4, hfr4, rfl, rfl⟩
  have hlen2 : ((v.ns.take k).flatMap fun n => numB (natU n)).length ≤ 63 := by
    have h1 := nsB_len (v.ns.take k)
    have h2 : (v.ns.take k).length ≤ 7 := by rw [List.length_take]; omega
    omega
  by_cases hlt : k < v.ns.length
  · refine br_t (show decide ((k : Int) < (v.ns.length : Int)) = true from decide_eq_true (by omega)) ?_
    have hwk : IntKind.i64.wrap ((k : Int) + 1) = ((k + 1 : Nat) : Int) := by rw [wrap_i64 (by omega)]; omega
    obtain ⟨n, hn⟩ : ∃ n, v.ns[k]? = some n := ⟨_, List.getElem?_eq_getElem hlt⟩
    obtain ⟨s, q⟩ := ints_at H.n hn
    refine need_i ⟨s, (show (0 : Int) ≤ k by omega), (show (k : Int) < v.ns.length by omega)⟩ ?_
    refine ⟨⟨[n], [], [], [], []⟩, fun ids => q _ (fun e => e), ⟨rfl, oneNil⟩, ?_⟩
    have es := flat_step (fun n => numB (natU n)) hn
    obtain ⟨bn, ebn⟩ : ∃ x, x = numB (natU n) := ⟨_, rfl⟩
    have hbn : bn.length ≤ 9 := by rw [ebn]; exact numB_len (natU_lt _)
    have es2 : (pb ++ b2) ++ ((v.ns.take (k + 1)).flatMap fun n => numB (natU n)) = ((pb ++ b2) ++ ((v.ns.take k).flatMap fun n => numB (natU n))) ++ bn := by rw [es, ebn]; simp only [List.append_assoc]
    obtain ⟨pc, epc⟩ : ∃ x, x = (pb ++ b2) ++ ((v.ns.take k).flatMap fun n => numB (natU n)) := ⟨_, rfl⟩
    have hpc : pc.length ≤ 700 := by rw [epc, List.length_append, List.length_append]; omega
    rw [← epc]
    rw [← epc] at es2
    refine node_cat (a := a4) (cap := c4) (bs := pc) (bs2 := bn) (fun _ => #[.int .u64 (IntKind.u64.wrap n)]) (by intros; kernel_rfl) (fun w h => h.2) (fun k h1 h2 => .inr ⟨h1, h2⟩) (fun ids w2 _ _ => by rw [natU_c, ebn]; exact qn_any (natU_lt _) w2) rfl rfl (by intros; kernel_rfl) (by intros; kernel_rfl) (by intros; kernel_rfl) (by intros; kernel_rfl) (by intros; kernel_rfl) (by intros; kernel_rfl) (fun k h1 h2 => .inl (hfr4 k h1 h2)) (by omega) (by intros; kernel_rfl) (by intros; kernel_rfl) (by intros; kernel_rfl) (by intros; kernel_rfl) ?_
    intro u2 v2 x2 w2' hh2 ids w2 hp hf
    refine ⟨_, ⟨hf.x, hf.sep⟩, _, rfl, ⟨k + 1, x2, w2', by omega, fun j h1 h2 => (hh2 j h1 h2).elim (fun q => hfr4 j q.1 q.2) id, ?_, ?_⟩, ?_⟩
    · rw [es2, List.length_append, ← hwk]; rfl
    · rw [es2]
    · show v.ns.length - (IntKind.i64.wrap ((k : Int) + 1)).toNat < v.ns.length - ((k : Int)).toNat
      rw [hwk]; omega
  refine br_f (show decide ((k : Int) < (v.ns.length : Int)) = false from decide_eq_false (by omega)) ?_
  obtain rfl : k = v.ns.length := by omega
  rw [List.take_length]
  have e : vlB v = (pb ++ b2) ++ v.ns.flatMap fun n => numB (natU n) := by rw [epb, e0, e1, e2]; simp [vlB, List.append_assoc]
  rw [← e]
  intro ids w2 hp hf
  exact ⟨a4, c4, rfl, hf.x.2, hfr4, hf.chg.below⟩
structure Qb (w : World) (a : Option Addr) (bs : List Int) : Prop where
  mem : Cells w a (bcells bs)
  byt : Byt bs
  len : bs.length ≤ 140737488355328
def AtP (bs : List Int) (a a' : Option Addr) (c' : Nat) (p : Nat × Int) : Prop := p.1 ≤ bs.length ∧ Left a bs a' (bs.drop p.1) c'
theorem AtP.start {bs : List Int} {a : Option Addr} {c : Nat} (h : bs.length ≤ c) (bad : Int) : AtP bs a a c (0, bad) := ⟨Nat.zero_le _, Left.refl h⟩
section
variable {C : Cfg} {ρ : Env} {pre : List Nat} {hx : HX} {L : Stack} {m m' : Mem} {args : List SV} {r : SV} {t : Tree}
end
end Go.Proofs.Ytadgaefmoobcoaa
