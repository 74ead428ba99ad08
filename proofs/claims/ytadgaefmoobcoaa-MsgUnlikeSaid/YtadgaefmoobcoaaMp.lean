/- A message comes back from its bytes, and bytes that are read are those that would be written. -/
import Derived.Test.YtadgaefmoobcoaaMF
namespace Go.Proofs.Ytadgaefmoobcoaa
open Go.ChangeShapes Go.WideShapes Go.ChangeAt Go.RowKit Go.Syn Go.Eng
set_option linter.unusedVariables false
set_option linter.unusedSimpArgs false
def voBc (x : Vo Vl) : List Int := numB (natU x.s) ++ (numB (natU x.r) ++ (numB (natU x.n) ++ vlB x.v))
def mBc (o : Mc) : List Int := numB (natU o.k) ++ (numB (natU o.f) ++ (numB (natU o.t) ++ (numB (natU o.e) ++ (bitB (useI o.k) 1 (natsB [o.r, o.n]) ++ (bitB (useI o.k) 2 (natsB [o.slot]) ++ (bitB (useI o.k) 4 (natsB [o.low]) ++ (bitB (useI o.k) 8 (natsB [o.tm]) ++ (bitB (useI o.k) 16 (vlB o.v) ++ (bitB (useI o.k) 32 (natsB [(o.vs.length : Int)]) ++ (o.vs.flatMap voBc ++ (bitB (useI o.k) 64 (cmdB o.c) ++ (bitB (useI o.k) 128 (numB (foldN o.rk) ++ (numB (foldN o.re) ++ numB (foldN o.im))) ++ bitB (useI o.k) 256 (numB o.d.length ++ o.d)))))))))))))
theorem mB_con (m : Ms) : mB m = mBc m.con := by
  have h1 : (vlsOf m.vs).flatMap voBc = m.vs.flatMap voB := by
    unfold vlsOf
    rw [List.flatMap_map]; rfl
  have h2 : (vlsOf m.vs).length = m.vs.length := vlsOf_len _
  unfold mB mBc
  show _ = numB (natU m.k) ++ (numB (natU m.f) ++ (numB (natU m.t) ++ (numB (natU m.e) ++ (bitB (useI m.k) 1 (natsB [m.r, m.n]) ++ (bitB (useI m.k) 2 (natsB [m.slot]) ++ (bitB (useI m.k) 4 (natsB [m.low]) ++ (bitB (useI m.k) 8 (natsB [m.tm]) ++ (bitB (useI m.k) 16 (vlB m.p.v) ++ (bitB (useI m.k) 32 (natsB [((vlsOf m.vs).length : Int)]) ++ ((vlsOf m.vs).flatMap voBc ++ (bitB (useI m.k) 64 (cmdB m.c) ++ (bitB (useI m.k) 128 (numB (foldN m.rk) ++ (numB (foldN m.re) ++ numB (foldN m.im))) ++ bitB (useI m.k) 256 (numB m.d.length ++ m.d)))))))))))))
  rw [h1, h2]; rfl
theorem mB_small {m : Ms} (hw : MsWf m) (h0 : chkM m = 0) : (mB m).length ≤ 65536 := by
  have G := chk_good h0
  have g1 := numB_len (natU_lt m.k)
  have g2 := numB_len (natU_lt m.f)
  have g3 := numB_len (natU_lt m.t)
  have g4 := numB_len (natU_lt m.e)
  have c1 := bitB_len (useI m.k) 1 (natsB [m.r, m.n])
  have c2 := bitB_len (useI m.k) 2 (natsB [m.slot])
  have c3 := bitB_len (useI m.k) 4 (natsB [m.low])
  have c4 := bitB_len (useI m.k) 8 (natsB [m.tm])
  have c5 := bitB_len (useI m.k) 16 (vlB m.p.v)
  have c6 := bitB_len (useI m.k) 32 (natsB [(m.vs.length : Int)])
  have c7 := bitB_len (useI m.k) 64 (cmdB m.c)
  have c8 := bitB_len (useI m.k) 128 (resY m)
  have c9 := bitB_len (useI m.k) 256 (numB m.d.length ++ m.d)
  have n1 : (natsB [m.r, m.n]).length ≤ 18 := natsB_len [m.r, m.n]
  have n2 : (natsB [m.slot]).length ≤ 9 := natsB_len [m.slot]
  have n3 : (natsB [m.low]).length ≤ 9 := natsB_len [m.low]
  have n4 : (natsB [m.tm]).length ≤ 9 := natsB_len [m.tm]
  have n5 := vlB_small hw.v G.ve
  have n6 : (natsB [(m.vs.length : Int)]).length ≤ 9 := natsB_len [(m.vs.length : Int)]
  have n7 := vos_small (l := m.vs) fun x hx => voB_small (hw.vs x hx) (G.vo x hx).2.2.2
  have n8 := cmdB_len hw.c
  have n9 : (resY m).length ≤ 27 := by
    have h4 := numB_len (foldN_lt hw.rk)
    have h5 := numB_len (foldN_lt hw.re)
    have h6 := numB_len (foldN_lt hw.im)
    unfold resY; simp only [List.length_append]; omega
  have hdl : m.d.length ≤ 1024 := by have := G.pl.dl; omega
  have n10 : (numB m.d.length ++ m.d).length ≤ 1033 := by
    have h4 := numB_len (u := m.d.length) (by omega)
    rw [List.length_append]; omega
  have hvl := G.vl
  unfold mB
  simp only [List.length_append] at *
  omega
/-- A right message, by what it is. -/
theorem good_of {o : Mc} (h : chkC o = 0) : MsGood o.ms := chk_good h
theorem vNo_mem {o : Mc} {x : Vo Vl} (h : x ∈ o.vs) : vNo x ∈ o.ms.vs := List.mem_map.2 ⟨x, h, rfl⟩
theorem natU_nn {i : Int} (h0 : 0 ≤ i) (h : i ≤ 1099511627776) : natU i = i.toNat ∧ natU i ≤ (max 0 big).toNat := by
  have e := natU_of h0 (by omega)
  have h1 : (max 0 big).toNat = 1125899906842624 := by decide
  exact ⟨e, by rw [e, h1]; omega⟩
section
variable {bs : List Int} {q : Nat × Int} {rest : List Int}
/-- A plain number that comes back. -/
theorem here_big {i : Int} (h0 : 0 ≤ i) (h1 : i ≤ 1099511627776) (h : Here bs q (numB (natU i) ++ rest)) : Here bs (stC big bs q) rest ∧ (vaC big bs q : Int) = i := by
  obtain ⟨e, hm⟩ := natU_nn h0 h1
  obtain ⟨g1, g2⟩ := here_cnt (most := big) (natU_lt i) hm h
  exact ⟨g1, by rw [g2, e]; omega⟩
theorem here_opt {X : List Int} {st : Nat × Int} {P : Prop} (u b : Int) (hstep : ub u b = true → Here bs q (X ++ rest) → Here bs st rest ∧ P) (h : Here bs q (bitB u b X ++ rest)) : Here bs (opt (ub u b) st q) rest ∧ (ub u b = true → P) := by
  unfold bitB at h
  unfold opt
  by_cases hb : ub u b = true
  · rw [if_pos hb] at h ⊢
    obtain ⟨g1, g2⟩ := hstep hb h
    exact ⟨g1, fun _ => g2⟩
  · rw [if_neg hb] at h ⊢
    exact ⟨h, fun q => absurd q hb⟩
theorem here_text {d : List Int} (hd : d.length ≤ 1024) (h : Here bs q ((numB d.length ++ d) ++ rest)) : Here bs (txS 1024 bs q) rest ∧ txD 1024 bs q = d := by
  rw [List.append_assoc] at h
  have h1 : (max 0 (1024 : Int)).toNat = 1024 := by decide
  obtain ⟨g1, g2⟩ := here_cnt (most := 1024) (by omega) (by rw [h1]; exact hd) h
  have hl : (bs.drop (stC 1024 bs q).1).length = (d ++ rest).length := by rw [g1.is]
  rw [List.length_drop, List.length_append] at hl
  have hle := g1.le
  have ht : txB 1024 bs q = true := by
    unfold txB txN
    rw [g1.ok, g2]
    simp; omega
  unfold txS txD txN
  rw [if_pos ht, if_pos ht, g2]
  refine ⟨⟨rfl, by show _ + _ ≤ _; omega, ?_⟩, ?_⟩
  · show bs.drop ((stC 1024 bs q).1 + d.length) = rest
    rw [← List.drop_drop, g1.is, List.drop_left]
  · rw [g1.is, List.take_left]
theorem here_vote {x : Vo Vl} (hx : (0 ≤ x.s ∧ x.s ≤ 1099511627776) ∧ (0 ≤ x.r ∧ x.r ≤ 1099511627776) ∧ (0 ≤ x.n ∧ x.n ≤ 1099511627776) ∧ VlWf x.v ∧ valE x.v = 0) (h : Here bs q (voBc x ++ rest)) : Here bs (vtS bs q) rest ∧ vtV bs q = x := by
  unfold voBc at h
  simp only [List.append_assoc] at h
  obtain ⟨g1, e1⟩ := here_big hx.1.1 hx.1.2 h
  obtain ⟨g2, e2⟩ := here_big hx.2.1.1 hx.2.1.2 g1
  obtain ⟨g3, e3⟩ := here_big hx.2.2.1.1 hx.2.2.1.2 g2
  obtain ⟨g4, e4⟩ := read_vlB hx.2.2.2.1 hx.2.2.2.2 g3
  exact ⟨g4, by unfold vtV; rw [e1, e2, e3, e4]⟩
end
theorem one1 (x : Int) : natsB [x] = numB (natU x) := by simp [natsB]
theorem bal_in {r n : Int} (h : balB r n = true) : (0 ≤ r ∧ r ≤ 1099511627776) ∧ (0 ≤ n ∧ n ≤ 1099511627776) := by
  unfold balB at h
  have := of_decide_eq_true h
  omega
theorem opt_f {α : Type} {c : Bool} {x y z : α} (h1 : c = true → x = z) (h2 : c = false → y = z) : opt c x y = z := by
  unfold opt
  cases c with
  | true => exact h1 rfl
  | false => exact h2 rfl
theorem or_z {c z : Bool} (h : (c || z) = true) (h2 : c = false) : z = true := by rw [h2] at h; exact h
/-- A right message comes back. -/
theorem mc_back {o : Mc} (hw : McWf o) (h0 : chkC o = 0) : decE7 (mBc o) = 0 ∧ rdMc (mBc o) = o ∧ (mBc o).length ≤ 65536 := by
  have G := good_of h0
  have pl := G.pl
  have hmw : MsWf o.ms := McWf.ms (by rw [Mc.con_ms]; exact hw)
  obtain ⟨bs, ebs⟩ : ∃ x, x = mBc o := ⟨_, rfl⟩
  obtain ⟨u, eu⟩ : ∃ x, x = useI o.k := ⟨_, rfl⟩
  have hu0 : u ≠ 0 := by rw [eu]; exact pl.u0
  have hk0 : 0 ≤ o.k ∧ o.k ≤ 1099511627776 := by
    rcases kcases o.k with h | h | h | h | h | h | h | h | h | h | h | h | h | h | ⟨h, _⟩
    all_goals first | omega | exact absurd h pl.u0
  have hs : Here bs (0, 0) (mBc o) := ⟨rfl, Nat.zero_le _, by rw [ebs]; rfl⟩
  unfold mBc at hs
  rw [← eu] at hs
  obtain ⟨a1, v1⟩ := here_big hk0.1 hk0.2 hs
  obtain ⟨a2, v2⟩ := here_big (i := o.f) pl.f.1 (by have := pl.f.2; exact Int.le_trans this (by decide)) a1
  obtain ⟨a3, v3⟩ := here_big (i := o.t) pl.t.1 (by have := pl.t.2; exact Int.le_trans this (by decide)) a2
  obtain ⟨a4, v4⟩ := here_big (i := o.e) pl.e.1 pl.e.2 a3
  have hq4' : stC big bs (stC big bs (stC big bs (stC big bs (0, 0)))) = hq bs 4 := rfl
  rw [hq4'] at a4
  obtain ⟨z, ez⟩ : ∃ z, z = hq bs 4 := ⟨_, rfl⟩
  rw [← ez] at a4
  have hbal : ub u 1 = true → balB o.r o.n = true := fun q => G.bal (by rw [eu] at q; exact q)
  obtain ⟨b1, w1⟩ := here_opt u 1 (st := stC big bs (stC big bs z)) (P := (vaC big bs z : Int) = o.r ∧ (vaC big bs (stC big bs z) : Int) = o.n) (fun q h => by
    obtain ⟨i1, i2⟩ := bal_in (hbal q)
    rw [show natsB [o.r, o.n] = numB (natU o.r) ++ numB (natU o.n) by simp [natsB], List.append_assoc] at h
    obtain ⟨g1, e1⟩ := here_big i1.1 i1.2 h
    obtain ⟨g2, e2⟩ := here_big i2.1 i2.2 g1
    exact ⟨g2, e1, e2⟩) a4
  obtain ⟨b2, w2⟩ := here_opt u 2 (P := (vaC big bs (sB u bs z) : Int) = o.slot) (fun q h => here_big (i := o.slot) pl.s1.1 pl.s1.2 (by rw [one1] at h; exact h)) b1
  obtain ⟨b3, w3⟩ := here_opt u 4 (P := (vaC big bs (sN 2 u bs (sB u bs z)) : Int) = o.low) (fun q h => here_big (i := o.low) pl.l1.1 pl.l1.2 (by rw [one1] at h; exact h)) b2
  obtain ⟨b4, w4⟩ := here_opt u 8 (P := (vaC big bs (sN 4 u bs (sN 2 u bs (sB u bs z))) : Int) = o.tm) (fun q h => here_big (i := o.tm) pl.t1.1 pl.t1.2 (by rw [one1] at h; exact h)) b3
  obtain ⟨b5, w5⟩ := here_opt u 16 (P := rdV bs (q4 u bs z) = o.v) (fun q h => read_vlB hw.v G.ve h) b4
  have hb5 : Here bs (sV u bs (q4 u bs z)) _ := b5
  have hlen : o.ms.vs.length = o.vs.length := List.length_map _
  have hvl : o.vs.length ≤ 64 := by have := G.vl; omega
  have hvok : ∀ x ∈ o.vs, (0 ≤ x.s ∧ x.s ≤ 1099511627776) ∧ (0 ≤ x.r ∧ x.r ≤ 1099511627776) ∧ (0 ≤ x.n ∧ x.n ≤ 1099511627776) ∧ VlWf x.v ∧ valE x.v = 0 := fun x hx => by
    obtain ⟨g1, g2, g3, g4⟩ := G.vo (vNo x) (vNo_mem hx)
    have g1 : o.slot ≤ x.s := g1
    have g2 : x.s ≤ 1099511627776 := g2
    have hs0 : 0 ≤ o.slot := pl.s1.1
    obtain ⟨i1, i2⟩ := bal_in g3
    exact ⟨⟨by omega, g2⟩, i1, i2, (hw.vs x hx).2.2.2, g4⟩
  obtain ⟨b6, w6⟩ : Here bs (sO u bs (sV u bs (q4 u bs z))) _ ∧ vO u bs (sV u bs (q4 u bs z)) = o.vs := by
    obtain ⟨y, ey⟩ : ∃ y, y = sV u bs (q4 u bs z) := ⟨_, rfl⟩
    rw [← ey] at hb5 ⊢
    unfold sO vO opt
    by_cases hb : ub u 32 = true
    · rw [if_pos hb, if_pos hb]
      unfold bitB at hb5
      rw [if_pos hb] at hb5
      have e : natsB [(o.vs.length : Int)] = numB o.vs.length := by
        have e2 := natU_of (i := (o.vs.length : Int)) (by omega) (by omega)
        rw [one1, e2]; simp
      rw [e] at hb5
      have h1 : (max 0 (64 : Int)).toNat = 64 := by decide
      obtain ⟨g1, g2⟩ := here_cnt (most := 64) (by omega) (by rw [h1]; exact hvl) hb5
      obtain ⟨g3, g4⟩ := here_row (st := vtS bs) (val := vtV bs) (fun p x rest hx h => here_vote hx h) o.vs hvok (stC 64 bs y) _ g1 o.vs.length (Nat.le_refl _)
      rw [g2]
      rw [List.drop_length, List.flatMap_nil, List.nil_append] at g3
      rw [List.take_length] at g4
      exact ⟨g3, g4⟩
    · rw [if_neg hb, if_neg hb]
      have hn : o.vs = [] := by
        have := or_z pl.o (by rw [show useI o.ms.k = u from eu.symm]; exact Bool.eq_false_iff.2 hb)
        have := of_decide_eq_true this
        exact List.eq_nil_of_length_eq_zero (by omega)
      unfold bitB at hb5
      rw [if_neg hb, hn, List.flatMap_nil, List.nil_append, List.nil_append] at hb5
      rw [hn]
      exact ⟨hb5, rfl⟩
  have hb6 : Here bs (q6 u bs z) _ := b6
  obtain ⟨b7, w7⟩ := here_opt u 64 (P := tcC bs (q6 u bs z) = o.c) (fun q h => here_cmd hw.c h) hb6
  have hb7 : Here bs (sC u bs (q6 u bs z)) _ := b7
  obtain ⟨b8, w8⟩ := here_opt u 128 (st := stN bs (stN bs (stN bs (sC u bs (q6 u bs z))))) (P := vaN bs (sC u bs (q6 u bs z)) = o.rk ∧ vaN bs (stN bs (sC u bs (q6 u bs z))) = o.re ∧ vaN bs (stN bs (stN bs (sC u bs (q6 u bs z)))) = o.im) (fun q h => by
    rw [List.append_assoc, List.append_assoc] at h
    obtain ⟨g1, e1⟩ := here_int hw.rk h
    obtain ⟨g2, e2⟩ := here_int hw.re g1
    obtain ⟨g3, e3⟩ := here_int hw.im g2
    exact ⟨g3, e1, e2, e3⟩) hb7
  have hb8 : Here bs (q8 u bs z) (bitB u 256 (numB o.d.length ++ o.d) ++ []) := by rw [List.append_nil]; exact b8
  have hdl : o.d.length ≤ 1024 := by have : (o.d.length : Int) ≤ 1024 := pl.dl; omega
  obtain ⟨b9, w9⟩ := here_opt u 256 (P := txD 1024 bs (q8 u bs z) = o.d) (fun q h => here_text hdl h) hb8
  have hb9 : Here bs (q9 u bs z) [] := b9
  have hend := here_end hb9
  have hrd : rdMc bs = o := by
    have hkk : hk bs = o.k := v1
    have huu : useI (hk bs) = u := by rw [hkk, eu]
    unfold rdMc
    rw [huu, ← ez, hkk]
    have e2 : (vaC big bs (hq bs 1) : Int) = o.f := v2
    have e3 : (vaC big bs (hq bs 2) : Int) = o.t := v3
    have e4 : (vaC big bs (hq bs 3) : Int) = o.e := v4
    rw [e2, e3, e4]
    have uu : useI o.ms.k = u := eu.symm
    obtain ⟨p1, p2, p3, p4, p5, p6, p7, p8, p9, p10, p11, p12, p13, p14, p15, p16, p17, p18⟩ := pl
    rw [uu] at p5 p6 p7 p8 p9 p11 p12 p13
    have y1 : ub u 1 = false → (0 : Int) = o.r ∧ (0 : Int) = o.n := fun q => by have := or_z p5 q; simp at this; exact ⟨this.1.symm, this.2.symm⟩
    have y2 : ub u 128 = false → (0 : Int) = o.rk ∧ (0 : Int) = o.re ∧ (0 : Int) = o.im := fun q => by have := or_z p12 q; simp at this; exact ⟨this.1.symm, this.2.1.symm, this.2.2.symm⟩
    unfold rdC
    rw [opt_f (fun q => (w1 q).1) fun q => (y1 q).1, opt_f (fun q => (w1 q).2) fun q => (y1 q).2, opt_f w2 fun q => (by have := or_z p6 q; simp at this; exact this.symm), opt_f w3 fun q => (by have := or_z p7 q; simp at this; exact this.symm), opt_f w4 fun q => (by have := or_z p8 q; simp at this; exact this.symm)]
    rw [show vV u bs (q4 u bs z) = o.v from opt_f w5 fun q => (v_zero.1 (or_z p9 q)).symm, w6]
    rw [opt_f w7 fun q => ((cmdEq_iff _ _).1 (or_z p11 q)).symm, opt_f (fun q => (w8 q).1) fun q => (y2 q).1, opt_f (fun q => (w8 q).2.1) fun q => (y2 q).2.1, opt_f (fun q => (w8 q).2.2) fun q => (y2 q).2.2]
    rw [show vD u bs (q8 u bs z) = o.d from opt_f w9 fun q => (List.eq_nil_of_length_eq_zero (of_decide_eq_true (or_z p13 q))).symm]
  have hsm : bs.length ≤ 65536 := by
    have h1 := mB_small hmw (by have : chkM o.ms = 0 := h0; exact this)
    rw [mB_con, Mc.con_ms, ← ebs] at h1
    exact h1
  rw [← ebs]
  refine ⟨?_, hrd, hsm⟩
  unfold decE7
  have huu : useI (hk bs) = u := by rw [show hk bs = o.k from v1, eu]
  have hd0 : doneE bs = 0 := by
    unfold doneE doneB
    rw [huu, ← ez, hend, if_neg (fun q => by have := q.2; omega)]
    exact hb9.ok
  rw [if_neg (by omega), huu, if_neg (fun q => hu0 q.1), hd0, if_neg (by decide), hrd, h0]
/-! ### The other way -/
theorem back_opt {bs : List Int} {q st : Nat × Int} {X : List Int} (u b : Int) (hstep : ub u b = true → st.2 = 0 → q.2 = 0 ∧ bs.drop q.1 = X ++ bs.drop st.1) (h : (opt (ub u b) st q).2 = 0) : q.2 = 0 ∧ bs.drop q.1 = bitB u b X ++ bs.drop (opt (ub u b) st q).1 := by
  unfold opt at h ⊢
  unfold bitB
  by_cases hb : ub u b = true
  · rw [if_pos hb] at h ⊢
    rw [if_pos hb]
    exact hstep hb h
  · rw [if_neg hb] at h ⊢
    rw [if_neg hb]
    exact ⟨h, rfl⟩
section
variable {bs : List Int} {q : Nat × Int}
theorem back_big (hb : Byt bs) (hp : q.1 ≤ bs.length) (h : (stC big bs q).2 = 0) : q.2 = 0 ∧ bs.drop q.1 = numB (natU (vaC big bs q : Int)) ++ bs.drop (stC big bs q).1 := by
  obtain ⟨g1, g2⟩ := back_cnt hb hp h
  refine ⟨g1, ?_⟩
  have h1 := vaC_le (most := big) (by decide) bs q
  have h2 : big ≤ 1125899906842624 := by decide
  have e : natU (vaC big bs q : Int) = vaC big bs q := by
    rw [natU_of (by omega) (by omega)]; omega
  rw [e]; exact g2
theorem back_text (hb : Byt bs) (hp : q.1 ≤ bs.length) (h : (txS 1024 bs q).2 = 0) : q.2 = 0 ∧ bs.drop q.1 = (numB (txD 1024 bs q).length ++ txD 1024 bs q) ++ bs.drop (txS 1024 bs q).1 := by
  unfold txS at h ⊢
  unfold txD
  by_cases ht : txB 1024 bs q = true
  · rw [if_pos ht] at h ⊢
    rw [if_pos ht]
    unfold txB txN at ht
    simp only [Bool.and_eq_true, beq_iff_eq, decide_eq_true_eq] at ht
    obtain ⟨g1, g2⟩ := back_cnt hb hp ht.1
    refine ⟨g1, ?_⟩
    have hl : ((bs.drop (stC 1024 bs q).1).take (txN 1024 bs q)).length = txN 1024 bs q := by
      rw [List.length_take, List.length_drop]; unfold txN; omega
    rw [hl, List.append_assoc, g2]
    show _ = _ ++ ((bs.drop (stC 1024 bs q).1).take (txN 1024 bs q) ++ bs.drop ((stC 1024 bs q).1 + txN 1024 bs q))
    rw [← List.drop_drop, List.take_append_drop]; rfl
  · rw [if_neg ht] at h
    by_cases h2 : (stC 1024 bs q).2 = 0
    · rw [if_pos h2] at h; exact absurd h (show ¬ (10 : Int) = 0 by decide)
    · rw [if_neg h2] at h; exact absurd h h2
theorem back_vote (hb : Byt bs) (hp : q.1 ≤ bs.length) (h : (vtS bs q).2 = 0) : q.2 = 0 ∧ bs.drop q.1 = voBc (vtV bs q) ++ bs.drop (vtS bs q).1 := by
  obtain ⟨g4, e4⟩ := back_val hb (stC_le _ _ _) h
  obtain ⟨g3, e3⟩ := back_big hb (stC_le _ _ _) g4
  obtain ⟨g2, e2⟩ := back_big hb (stC_le _ _ _) g3
  obtain ⟨g1, e1⟩ := back_big hb hp g2
  refine ⟨g1, ?_⟩
  unfold voBc vtV
  simp only [List.append_assoc]
  rw [e1, e2, e3, e4]; rfl
end
theorem mc_fore {bs : List Int} (hb : Byt bs) (h : decE7 bs = 0) : chkC (rdMc bs) = 0 ∧ mBc (rdMc bs) = bs := by
  unfold decE7 at h
  by_cases h1 : bs.length > 65536
  · rw [if_pos h1] at h; exact absurd h (by decide)
  rw [if_neg h1] at h
  by_cases h2 : useI (hk bs) = 0 ∧ (hq bs 4).2 = 0
  · rw [if_pos h2] at h; exact absurd h (by decide)
  rw [if_neg h2] at h
  by_cases h3 : doneE bs ≠ 0
  · rw [if_pos h3] at h; exact absurd h h3
  rw [if_neg h3] at h
  have h3 : doneE bs = 0 := Classical.not_not.1 h3
  refine ⟨h, ?_⟩
  obtain ⟨u, eu⟩ : ∃ u, u = useI (hk bs) := ⟨_, rfl⟩
  obtain ⟨z, ez⟩ : ∃ z, z = hq bs 4 := ⟨_, rfl⟩
  have hz : z.1 ≤ bs.length := by rw [ez]; exact hq_le bs 4
  unfold doneE doneB at h3
  rw [← eu, ← ez] at h3
  have l1 : (sB u bs z).1 ≤ bs.length := opt_le (stC_le _ _ _) hz
  have l2 : (sN 2 u bs (sB u bs z)).1 ≤ bs.length := opt_le (stC_le _ _ _) l1
  have l3 : (sN 4 u bs (sN 2 u bs (sB u bs z))).1 ≤ bs.length := opt_le (stC_le _ _ _) l2
  have l4 : (q4 u bs z).1 ≤ bs.length := opt_le (stC_le _ _ _) l3
  have l5 : (sV u bs (q4 u bs z)).1 ≤ bs.length := opt_le (rdS_le' _ _) l4
  have l6 : (q6 u bs z).1 ≤ bs.length := opt_le (it_le (vtS_le bs) (stC_le _ _ _) _) l5
  have l7 : (sC u bs (q6 u bs z)).1 ≤ bs.length := opt_le (stN_le _ _) l6
  have l8 : (q8 u bs z).1 ≤ bs.length := opt_le (stN_le _ _) l7
  have l9 := q9_le u hz
  have hbad : (q9 u bs z).2 = 0 ∧ (q9 u bs z).1 = bs.length := by
    by_cases g : (q9 u bs z).2 = 0 ∧ (q9 u bs z).1 < bs.length
    · rw [if_pos g] at h3; exact absurd h3 (by decide)
    · rw [if_neg g] at h3; exact ⟨h3, by have := fun q => g ⟨h3, q⟩; omega⟩
  obtain ⟨g9, e9⟩ := back_opt (X := numB (txD 1024 bs (q8 u bs z)).length ++ txD 1024 bs (q8 u bs z)) u 256 (fun _ h => back_text hb l8 h) hbad.1
  have e9 : bs.drop (q8 u bs z).1 = bitB u 256 (numB (txD 1024 bs (q8 u bs z)).length ++ txD 1024 bs (q8 u bs z)) ++ bs.drop (q9 u bs z).1 := e9
  rw [hbad.2, List.drop_length, List.append_nil] at e9
  obtain ⟨g8, e8⟩ := back_opt (X := numB (foldN (vaN bs (sC u bs (q6 u bs z)))) ++ (numB (foldN (vaN bs (stN bs (sC u bs (q6 u bs z))))) ++ numB (foldN (vaN bs (stN bs (stN bs (sC u bs (q6 u bs z)))))))) u 128 (fun _ h => by
    obtain ⟨i3, j3⟩ := back_int hb (stN_le _ _) h
    obtain ⟨i2, j2⟩ := back_int hb (stN_le _ _) i3
    obtain ⟨i1, j1⟩ := back_int hb l7 i2
    exact ⟨i1, by rw [j1, j2, j3]; simp only [List.append_assoc]⟩) g9
  obtain ⟨g7, e7⟩ := back_opt (X := cmdB (tcC bs (q6 u bs z))) u 64 (fun _ h => back_cmd hb l6 h) g8
  obtain ⟨g6, e6⟩ : (sV u bs (q4 u bs z)).2 = 0 ∧ bs.drop (sV u bs (q4 u bs z)).1 = bitB u 32 (natsB [((vO u bs (sV u bs (q4 u bs z))).length : Int)]) ++ ((vO u bs (sV u bs (q4 u bs z))).flatMap voBc ++ bs.drop (q6 u bs z).1) := by
    have g7 : (sO u bs (sV u bs (q4 u bs z))).2 = 0 := g7
    show _ ∧ _ = _ ++ (_ ++ bs.drop (sO u bs (sV u bs (q4 u bs z))).1)
    obtain ⟨y, ey⟩ : ∃ y, y = sV u bs (q4 u bs z) := ⟨_, rfl⟩
    rw [← ey] at g7 l5 ⊢
    unfold sO at g7 ⊢
    unfold vO
    unfold opt at g7 ⊢
    unfold bitB
    by_cases hu : ub u 32 = true
    · rw [if_pos hu] at g7 ⊢
      rw [if_pos hu, if_pos hu]
      obtain ⟨i1, j1⟩ := back_row (f := voBc) (val := vtV bs) (vtS_le bs) (fun p hp h => back_vote hb hp h) (stC 64 bs y) (stC_le _ _ _) (vaC 64 bs y) g7
      obtain ⟨i0, j0⟩ := back_cnt hb l5 i1
      refine ⟨i0, ?_⟩
      have hn := vaC_le (most := 64) (by decide) bs y
      have e : natsB [((voN bs (vaC 64 bs y) (stC 64 bs y)).length : Int)] = numB (vaC 64 bs y) := by
        rw [voN_len]
        unfold natsB
        have e2 := natU_of (i := (vaC 64 bs y : Int)) (by omega) (by omega)
        simp [e2]
      rw [e, j0, j1]; rfl
    · rw [if_neg hu] at g7 ⊢
      rw [if_neg hu, if_neg hu]
      exact ⟨g7, rfl⟩
  obtain ⟨g5, e5⟩ := back_opt (X := vlB (rdV bs (q4 u bs z))) u 16 (fun _ h => back_val hb l4 h) g6
  have one : ∀ (x : Int), natsB [x] = numB (natU x) := fun x => by simp [natsB]
  obtain ⟨g4, e4⟩ := back_opt (X := natsB [(vaC big bs (sN 4 u bs (sN 2 u bs (sB u bs z))) : Int)]) u 8 (fun _ h => by rw [one]; exact back_big hb l3 h) g5
  obtain ⟨g3, e3⟩ := back_opt (X := natsB [(vaC big bs (sN 2 u bs (sB u bs z)) : Int)]) u 4 (fun _ h => by rw [one]; exact back_big hb l2 h) g4
  obtain ⟨g2, e2⟩ := back_opt (X := natsB [(vaC big bs (sB u bs z) : Int)]) u 2 (fun _ h => by rw [one]; exact back_big hb l1 h) g3
  obtain ⟨g1, e1⟩ := back_opt (X := natsB [(vaC big bs z : Int), (vaC big bs (stC big bs z) : Int)]) u 1 (fun _ h => by
    obtain ⟨i2, j2⟩ := back_big hb (stC_le _ _ _) h
    obtain ⟨i1, j1⟩ := back_big hb hz i2
    exact ⟨i1, by rw [j1, j2]; simp [natsB]⟩) g2
  have z4 : z = stC big bs (hq bs 3) := by rw [ez]; rfl
  rw [z4] at g1
  obtain ⟨d3, f3⟩ := back_big hb (hq_le bs 3) g1
  obtain ⟨d2, f2⟩ := back_big hb (hq_le bs 2) (show (stC big bs (hq bs 2)).2 = 0 from d3)
  obtain ⟨d1, f1⟩ := back_big hb (hq_le bs 1) (show (stC big bs (hq bs 1)).2 = 0 from d2)
  obtain ⟨d0, f0⟩ := back_big hb (hq_le bs 0) (show (stC big bs (hq bs 0)).2 = 0 from d1)
  have f0 : bs = numB (natU (vaC big bs (hq bs 0) : Int)) ++ bs.drop (hq bs 1).1 := f0
  have f1 : bs.drop (hq bs 1).1 = numB (natU (vaC big bs (hq bs 1) : Int)) ++ bs.drop (hq bs 2).1 := f1
  have f2 : bs.drop (hq bs 2).1 = numB (natU (vaC big bs (hq bs 2) : Int)) ++ bs.drop (hq bs 3).1 := f2
  rw [← z4] at f3
  have e1 : bs.drop z.1 = bitB u 1 (natsB [(vaC big bs z : Int), (vaC big bs (stC big bs z) : Int)]) ++ bs.drop (sB u bs z).1 := e1
  have e2 : bs.drop (sB u bs z).1 = bitB u 2 (natsB [(vaC big bs (sB u bs z) : Int)]) ++ bs.drop (sN 2 u bs (sB u bs z)).1 := e2
  have e3 : bs.drop (sN 2 u bs (sB u bs z)).1 = bitB u 4 (natsB [(vaC big bs (sN 2 u bs (sB u bs z)) : Int)]) ++ bs.drop (sN 4 u bs (sN 2 u bs (sB u bs z))).1 := e3
  have e4 : bs.drop (sN 4 u bs (sN 2 u bs (sB u bs z))).1 = bitB u 8 (natsB [(vaC big bs (sN 4 u bs (sN 2 u bs (sB u bs z))) : Int)]) ++ bs.drop (q4 u bs z).1 := e4
  have e5 : bs.drop (q4 u bs z).1 = bitB u 16 (vlB (rdV bs (q4 u bs z))) ++ bs.drop (sV u bs (q4 u bs z)).1 := e5
  have e7 : bs.drop (q6 u bs z).1 = bitB u 64 (cmdB (tcC bs (q6 u bs z))) ++ bs.drop (sC u bs (q6 u bs z)).1 := e7
  have e8 : bs.drop (sC u bs (q6 u bs z)).1 = bitB u 128 (numB (foldN (vaN bs (sC u bs (q6 u bs z)))) ++ (numB (foldN (vaN bs (stN bs (sC u bs (q6 u bs z))))) ++ numB (foldN (vaN bs (stN bs (stN bs (sC u bs (q6 u bs z)))))))) ++ bs.drop (q8 u bs z).1 := e8
  have bitE : ∀ (b : Int) (X Y : List Int), (ub u b = true → X = Y) → bitB u b X = bitB u b Y := fun b X Y h => by
    unfold bitB
    by_cases hu : ub u b = true
    · rw [if_pos hu, if_pos hu, h hu]
    · rw [if_neg hu, if_neg hu]
  have op : ∀ {α : Type} {b : Int} {x y : α}, ub u b = true → opt (ub u b) x y = x := fun h => by unfold opt; rw [if_pos h]
  have hm : mBc (rdMc bs) = numB (natU (vaC big bs (hq bs 0) : Int)) ++ (numB (natU (vaC big bs (hq bs 1) : Int)) ++ (numB (natU (vaC big bs (hq bs 2) : Int)) ++ (numB (natU (vaC big bs (hq bs 3) : Int)) ++ (bitB u 1 (natsB [opt (ub u 1) (vaC big bs z : Int) 0, opt (ub u 1) (vaC big bs (stC big bs z) : Int) 0]) ++ (bitB u 2 (natsB [opt (ub u 2) (vaC big bs (sB u bs z) : Int) 0]) ++ (bitB u 4 (natsB [opt (ub u 4) (vaC big bs (sN 2 u bs (sB u bs z)) : Int) 0]) ++ (bitB u 8 (natsB [opt (ub u 8) (vaC big bs (sN 4 u bs (sN 2 u bs (sB u bs z))) : Int) 0]) ++ (bitB u 16 (vlB (opt (ub u 16) (rdV bs (q4 u bs z)) vz)) ++ (bitB u 32 (natsB [((vO u bs (sV u bs (q4 u bs z))).length : Int)]) ++ ((vO u bs (sV u bs (q4 u bs z))).flatMap voBc ++ (bitB u 64 (cmdB (opt (ub u 64) (tcC bs (q6 u bs z)) cz)) ++ (bitB u 128 (numB (foldN (opt (ub u 128) (vaN bs (sC u bs (q6 u bs z))) 0)) ++ (numB (foldN (opt (ub u 128) (vaN bs (stN bs (sC u bs (q6 u bs z)))) 0)) ++ numB (foldN (opt (ub u 128) (vaN bs (stN bs (stN bs (sC u bs (q6 u bs z))))) 0)))) ++ bitB u 256 (numB (opt (ub u 256) (txD 1024 bs (q8 u bs z)) []).length ++ opt (ub u 256) (txD 1024 bs (q8 u bs z)) []))))))))))))) := by
    rw [eu, ez]; rfl
  rw [hm]
  refine Eq.trans ?_ f0.symm
  rw [f1, f2, f3, e1, e2, e3, e4, e5, e6, e7, e8, e9]
  rw [bitE 1 _ _ fun h => by rw [op h, op h], bitE 2 _ _ fun h => by rw [op h], bitE 4 _ _ fun h => by rw [op h], bitE 8 _ _ fun h => by rw [op h], bitE 16 _ _ fun h => by rw [op h], bitE 64 _ _ fun h => by rw [op h], bitE 128 _ _ fun h => by rw [op h, op h, op h], bitE 256 _ _ fun h => by rw [op h]]
end Go.Proofs.Ytadgaefmoobcoaa
