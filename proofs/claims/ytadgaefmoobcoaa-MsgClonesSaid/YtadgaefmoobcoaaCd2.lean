/- Bytes of values: apart, there and back. -/
import Derived.Test.YtadgaefmoobcoaaCd1
namespace Go.Proofs.Ytadgaefmoobcoaa
open Go.ChangeShapes Go.WideShapes Go.ChangeAt Go.RowKit Go.Syn Go.Eng
set_option linter.unusedVariables false
set_option linter.unusedSimpArgs false
set_option maxRecDepth 100000
theorem numB_app {u t : Nat} (hu : u < 2 ^ 64) (ht : t < 2 ^ 64) {r s : List Int} (h : numB u ++ r = numB t ++ s) : u = t ∧ r = s := by
  have h1 := readN_num hu r
  rw [h, readN_num ht s] at h1
  simp only [Prod.mk.injEq, true_and] at h1
  exact ⟨h1.2.symm, h1.1.symm⟩
theorem flat_app {α : Type} {f : α → List Int} {ok : α → Prop} (hf : ∀ x y, ok x → ok y → ∀ r s, f x ++ r = f y ++ s → x = y ∧ r = s) : ∀ (xs ys : List α), xs.length = ys.length → (∀ x ∈ xs, ok x) → (∀ x ∈ ys, ok x) → ∀ r s, xs.flatMap f ++ r = ys.flatMap f ++ s → xs = ys ∧ r = s
  | [], [], _, _, _, r, s, h => ⟨rfl, by simpa using h⟩
  | [], y :: ys, h, _, _, _, _, _ => by simp at h
  | x :: xs, [], h, _, _, _, _, _ => by simp at h
  | x :: xs, y :: ys, h, h1, h2, r, s, e => by
    rw [List.flatMap_cons, List.flatMap_cons, List.append_assoc, List.append_assoc] at e
    obtain ⟨rfl, e2⟩ := hf x y (h1 x (by simp)) (h2 y (by simp)) _ _ e
    obtain ⟨rfl, e3⟩ := flat_app hf xs ys (by simpa using h) (fun x q => h1 x (by simp [q])) (fun x q => h2 x (by simp [q])) r s e2
    exact ⟨rfl, e3⟩
theorem foldB_app (i j : Int) (hi : I64 i) (hj : I64 j) (r s : List Int) (h : numB (foldN i) ++ r = numB (foldN j) ++ s) : i = j ∧ r = s := by
  obtain ⟨h1, h2⟩ := numB_app (foldN_lt hi) (foldN_lt hj) h
  exact ⟨by rw [← unfold_fold i, h1, unfold_fold], h2⟩
theorem cmd_ext {c d : CmD} (h : c.is = d.is) : c = d := by
  obtain ⟨x0, x1, x2, y0, y1, y2, y3, y4⟩ := c
  obtain ⟨z0, z1, z2, t0, t1, t2, t3, t4⟩ := d
  simp only [CmD.is, List.cons.injEq, and_true] at h
  obtain ⟨rfl, rfl, rfl, rfl, rfl, rfl, rfl, rfl⟩ := h
  rfl
theorem cmdB_app (c d : CmD) (hc : CmFit c) (hd : CmFit d) (r s : List Int) (h : cmdB c ++ r = cmdB d ++ s) : c = d ∧ r = s := by
  obtain ⟨h1, h2⟩ := flat_app (f := fun i => numB (foldN i)) (ok := I64) (fun x y hx hy r s => foldB_app x y hx hy r s) c.is d.is rfl hc hd r s h
  exact ⟨cmd_ext h1, h2⟩
theorem natU_inj {i j : Int} (hi : I64 i) (hj : I64 j) (h : natU i = natU j) : i = j := by
  have h1 := natU_c i
  have h2 := natU_c j
  rw [h, ← h2] at h1
  have h3 : i % 18446744073709551616 = j % 18446744073709551616 := h1
  unfold I64 at hi hj
  omega
theorem natB_app (i j : Int) (hi : I64 i) (hj : I64 j) (r s : List Int) (h : numB (natU i) ++ r = numB (natU j) ++ s) : i = j ∧ r = s := by
  obtain ⟨h1, h2⟩ := numB_app (natU_lt i) (natU_lt j) h
  exact ⟨natU_inj hi hj h1, h2⟩
/-- A value whose numbers fit. -/
structure VlWf (v : Vl) : Prop where
  k : I64 v.k
  c : ∀ c ∈ v.cs, CmFit c
  f : VlFit v
theorem vlB_app {v u : Vl} (hv : VlWf v) (hu : VlWf u) {r s : List Int} (h : vlB v ++ r = vlB u ++ s) : v = u ∧ r = s := by
  have a1 := hv.f.l1
  have a2 := hv.f.l2
  have b1 := hu.f.l1
  have b2 := hu.f.l2
  unfold vlB at h
  simp only [List.append_assoc] at h
  obtain ⟨e1, h⟩ := natB_app _ _ hv.k hu.k _ _ h
  obtain ⟨e2, h⟩ := numB_app (by omega) (by omega) h
  obtain ⟨e3, h⟩ := flat_app cmdB_app v.cs u.cs e2 hv.c hu.c _ _ h
  obtain ⟨e4, h⟩ := numB_app (by omega) (by omega) h
  obtain ⟨e5, h⟩ := flat_app natB_app v.ns u.ns e4 hv.f.n hu.f.n _ _ h
  refine ⟨?_, h⟩
  cases v; cases u; simp_all
theorem pre_no {v u : Vl} (hv : VlWf v) (hu : VlWf u) (e : vlB v = (vlB u).take (vlB v).length) : v = u :=
  (vlB_app (r := (vlB u).drop (vlB v).length) (s := []) hv hu (by
    have := List.take_append_drop (vlB v).length (vlB u)
    rw [← e] at this
    rw [this, List.append_nil])).1
theorem vlB_same {v u : Vl} (hv : VlWf v) (hu : VlWf u) : decide (vlB v = vlB u) = vlSame v u := by
  by_cases h : v = u
  · rw [vlSame_t h, decide_eq_true (by rw [h])]
  · rw [vlSame_f h, decide_eq_false (fun e => h (vlB_app (r := []) (s := []) hv hu (by simpa using e)).1)]
/-- A place in bytes with no error, and what is left behind it. -/
structure Here (bs : List Int) (p : Nat × Int) (rest : List Int) : Prop where
  ok : p.2 = 0
  le : p.1 ≤ bs.length
  is : bs.drop p.1 = rest
theorem here_num {bs : List Int} {p : Nat × Int} {u : Nat} {rest : List Int} (hu : u < 2 ^ 64) (h : Here bs p (numB u ++ rest)) : Here bs (stN bs p) rest ∧ unN bs p = u := by
  have e : readN (bs.drop p.1) p.2 = (rest, 0, u) := by rw [h.is, h.ok]; exact readN_num hu rest
  have hl : (bs.drop p.1).length = (numB u ++ rest).length := by rw [h.is]
  rw [List.length_drop, List.length_append] at hl
  have hle := h.le
  have e1 : (stN bs p).1 = bs.length - rest.length := by unfold stN ixN; dsimp only; rw [e]
  refine ⟨⟨by unfold stN; dsimp only; rw [e], by omega, ?_⟩, by unfold unN; rw [e]⟩
  have h2 : bs.drop (p.1 + (numB u).length) = rest := by rw [← List.drop_drop, h.is, List.drop_left]
  rw [e1, show bs.length - rest.length = p.1 + (numB u).length by omega]; exact h2
theorem here_cnt {most : Int} {bs : List Int} {p : Nat × Int} {u : Nat} {rest : List Int} (hu : u < 2 ^ 64) (hm : u ≤ (max 0 most).toNat) (h : Here bs p (numB u ++ rest)) : Here bs (stC most bs p) rest ∧ vaC most bs p = u := by
  obtain ⟨h1, h2⟩ := here_num hu h
  have e : readC most (bs.drop p.1) p.2 = readN (bs.drop p.1) p.2 := by
    unfold readC
    dsimp only
    have : (readN (bs.drop p.1) p.2).2.2 = u := h2
    rw [this, if_neg (by omega)]
  have e1 : stC most bs p = stN bs p := by unfold stC stN; rw [e]
  rw [e1]
  exact ⟨h1, by unfold vaC; rw [e]; exact h2⟩
theorem here_int {bs : List Int} {p : Nat × Int} {i : Int} {rest : List Int} (hi : I64 i) (h : Here bs p (numB (foldN i) ++ rest)) : Here bs (stN bs p) rest ∧ vaN bs p = i := by
  obtain ⟨h1, h2⟩ := here_num (foldN_lt hi) h
  exact ⟨h1, by unfold vaN; rw [h2, unfold_fold]⟩
theorem here_cmd {bs : List Int} {p : Nat × Int} {c : CmD} {rest : List Int} (hc : CmFit c) (h : Here bs p (cmdB c ++ rest)) : Here bs (tcS bs p) rest ∧ tcC bs p = c := by
  have f := fun i (q : i ∈ c.is) => hc i q
  simp only [CmD.is, List.mem_cons, List.not_mem_nil, or_false, forall_eq_or_imp, forall_eq] at f
  obtain ⟨f0, f1, f2, f3, f4, f5, f6, f7⟩ := f
  have h0 := h
  unfold cmdB CmD.is at h0
  simp only [List.flatMap_cons, List.flatMap_nil, List.append_assoc, List.nil_append, List.append_nil] at h0
  obtain ⟨h1, e0⟩ := here_int f0 h0
  obtain ⟨h2, e1⟩ := here_int f1 h1
  obtain ⟨h3, e2⟩ := here_int f2 h2
  obtain ⟨h4, e3⟩ := here_int f3 h3
  obtain ⟨h5, e4⟩ := here_int f4 h4
  obtain ⟨h6, e5⟩ := here_int f5 h5
  obtain ⟨h7, e6⟩ := here_int f6 h6
  obtain ⟨h8, e7⟩ := here_int f7 h7
  refine ⟨h8, ?_⟩
  unfold tcC
  dsimp only
  rw [e0, e1, e2, e3, e4, e5, e6, e7]
theorem here_row {α : Type} {bs : List Int} {f : α → List Int} {st : Nat × Int → Nat × Int} {val : Nat × Int → α} {ok : α → Prop} (hstep : ∀ p x rest, ok x → Here bs p (f x ++ rest) → Here bs (st p) rest ∧ val p = x) (xs : List α) (hok : ∀ x ∈ xs, ok x) (p : Nat × Int) (rest : List Int) (h : Here bs p (xs.flatMap f ++ rest)) :
    ∀ k, k ≤ xs.length → Here bs (itN st k p) ((xs.drop k).flatMap f ++ rest) ∧ (List.range k).map (fun j => val (itN st j p)) = xs.take k
  | 0, _ => ⟨by rw [List.drop_zero]; exact h, by simp⟩
  | k + 1, hk => by
    obtain ⟨h1, h2⟩ := here_row hstep xs hok p rest h k (by omega)
    obtain ⟨x, hx⟩ : ∃ x, xs[k]? = some x := ⟨_, List.getElem?_eq_getElem (by omega)⟩
    have e : xs.drop k = x :: xs.drop (k + 1) := by
      rw [List.drop_eq_getElem_cons (by omega)]
      rw [List.getElem?_eq_getElem (by omega)] at hx
      rw [Option.some.inj hx]
    rw [e, List.flatMap_cons, List.append_assoc] at h1
    obtain ⟨h3, h4⟩ := hstep _ x _ (hok x (List.mem_of_getElem? hx)) h1
    refine ⟨h3, ?_⟩
    rw [List.range_succ, List.map_append, h2, List.take_add_one, hx]
    simp [h4]
theorem here_cmds {bs : List Int} {p : Nat × Int} {cs : List CmD} {rest : List Int} (hc : ∀ c ∈ cs, CmFit c) (h : Here bs p (cs.flatMap cmdB ++ rest)) : Here bs (itN (tcS bs) cs.length p) rest ∧ csN bs cs.length p = cs := by
  obtain ⟨h1, h2⟩ := here_row (val := tcC bs) (fun p x rest hx h => here_cmd hx h) cs hc p rest h cs.length (Nat.le_refl _)
  rw [List.drop_length, List.flatMap_nil, List.nil_append] at h1
  rw [List.take_length] at h2
  exact ⟨h1, h2⟩
theorem here_ns {bs : List Int} {p : Nat × Int} {ns : List Int} {rest : List Int} (hn : ∀ n ∈ ns, 0 ≤ n ∧ n ≤ 9) (h : Here bs p ((ns.flatMap fun n => numB (natU n)) ++ rest)) : Here bs (itN (stC 9 bs) ns.length p) rest ∧ nsN bs ns.length p = ns := by
  obtain ⟨h1, h2⟩ := here_row (f := fun n => numB (natU n)) (val := fun p => (vaC 9 bs p : Int)) (fun p x rest hx h => by
    have e := natU_of hx.1 (by omega)
    obtain ⟨g1, g2⟩ := here_cnt (most := 9) (natU_lt x) (by rw [e]; omega) h
    exact ⟨g1, by rw [g2, e]; omega⟩) ns hn p rest h ns.length (Nat.le_refl _)
  rw [List.drop_length, List.flatMap_nil, List.nil_append] at h1
  rw [List.take_length] at h2
  exact ⟨h1, h2⟩
theorem set_range {xs : List Int} (h : SetOk xs) : ∀ n ∈ xs, 0 ≤ n ∧ n ≤ 9 := fun n hn => by
  obtain ⟨i, hi, rfl⟩ := List.mem_iff_getElem.1 hn
  have g := h.2.2 i hi
  have p := good_pos (xs := xs) (k := i) (fun j hj => h.2.2 j (by omega))
  unfold goodAt at g
  have e : xs.getD i 0 = xs[i] := by rw [List.getD_eq_getElem?_getD, List.getElem?_eq_getElem hi]; rfl
  rw [e] at g
  omega
theorem right_ns {v : Vl} (h : valE v = 0) : ∀ n ∈ v.ns, 0 ≤ n ∧ n ≤ 9 := by
  unfold valE at h
  split at h
  · split at h
    · cases h
    · rename_i h1
      have h3 : v.ns = [] := Classical.byContradiction fun q => h1 (.inr q)
      rw [h3]; exact fun n q => by cases q
  · split at h
    · split at h
      · cases h
      · unfold checkV at h
        split at h
        · rename_i hs
          intro n hn
          have := (setOkB_iff.1 hs)
          exact set_range this n hn
        · cases h
    · split at h
      · split at h
        · cases h
        · rename_i h1
          have h3 : v.ns = [] := Classical.byContradiction fun q => h1 (.inr (.inr q))
          rw [h3]; exact fun n q => by cases q
      · cases h
theorem read_vlB {bs : List Int} {p : Nat × Int} {v : Vl} {rest : List Int} (hv : VlWf v) (h0 : valE v = 0) (h : Here bs p (vlB v ++ rest)) : Here bs (rdS bs p) rest ∧ rdV bs p = v := by
  obtain ⟨r1, r2, r3, r4⟩ := right_len h0
  have rn := right_ns h0
  unfold vlB at h
  simp only [List.append_assoc] at h
  have ek := natU_of r3 (by omega)
  obtain ⟨h1, e1⟩ := here_cnt (most := 2) (natU_lt v.k) (by rw [ek]; omega) h
  obtain ⟨h2, e2⟩ := here_cnt (most := 8) (by omega) (by omega) h1
  obtain ⟨h3, e3⟩ := here_cmds hv.c h2
  obtain ⟨h4, e4⟩ := here_cnt (most := 7) (by omega) (by omega) h3
  obtain ⟨h5, e5⟩ := here_ns rn h4
  have d1 : rdB bs p = itN (tcS bs) v.cs.length (stC 8 bs (stC 2 bs p)) := by unfold rdB rdA; rw [e2]
  refine ⟨?_, ?_⟩
  · unfold rdS
    rw [d1, e4]; exact h5
  · unfold rdV
    rw [d1, e4, e1, e2, ek]
    have : csN bs v.cs.length (rdA bs p) = v.cs := e3
    rw [this, e5]
    cases v
    simp only [Vl.mk.injEq, and_true]
    simp only at r3
    omega
theorem here_end {bs : List Int} {p : Nat × Int} (h : Here bs p []) : p.1 = bs.length := by
  have := h.le
  have h2 := h.is
  rw [List.drop_eq_nil_iff] at h2
  omega
theorem back_num {bs : List Int} (hb : Byt bs) {p : Nat × Int} (hp : p.1 ≤ bs.length) (h : (stN bs p).2 = 0) : p.2 = 0 ∧ bs.drop p.1 = numB (unN bs p) ++ bs.drop (stN bs p).1 := by
  obtain ⟨h1, h2, _⟩ := readN_ok (l := bs.drop p.1) (bad := p.2) (fun b q => hb b (List.mem_of_mem_drop q)) h
  have hl : (bs.drop p.1).length = (numB (unN bs p) ++ (readN (bs.drop p.1) p.2).1).length := congrArg List.length h2
  rw [List.length_drop, List.length_append] at hl
  have e1 : (stN bs p).1 = p.1 + (numB (unN bs p)).length := by
    show bs.length - (readN (bs.drop p.1) p.2).1.length = _
    omega
  refine ⟨h1, ?_⟩
  have h3 : bs.drop (p.1 + (numB (unN bs p)).length) = (readN (bs.drop p.1) p.2).1 := by
    rw [← List.drop_drop]
    have : bs.drop p.1 = numB (unN bs p) ++ (readN (bs.drop p.1) p.2).1 := h2
    exact (congrArg (List.drop _) this).trans List.drop_left
  rw [e1, h3]; exact h2
theorem back_cnt {most : Int} {bs : List Int} (hb : Byt bs) {p : Nat × Int} (hp : p.1 ≤ bs.length) (h : (stC most bs p).2 = 0) : p.2 = 0 ∧ bs.drop p.1 = numB (vaC most bs p) ++ bs.drop (stC most bs p).1 := by
  have e : readC most (bs.drop p.1) p.2 = readN (bs.drop p.1) p.2 := by
    have h' : (readC most (bs.drop p.1) p.2).2.1 = 0 := h
    unfold readC at h' ⊢
    dsimp only at h' ⊢
    split
    · rename_i q
      rw [if_pos q] at h'
      cases h'
    · rfl
  have e1 : stC most bs p = stN bs p := by unfold stC stN; rw [e]
  have e2 : vaC most bs p = unN bs p := by unfold vaC unN; rw [e]
  rw [e1, e2]
  exact back_num hb hp (e1 ▸ h)
theorem back_int {bs : List Int} (hb : Byt bs) {p : Nat × Int} (hp : p.1 ≤ bs.length) (h : (stN bs p).2 = 0) : p.2 = 0 ∧ bs.drop p.1 = numB (foldN (vaN bs p)) ++ bs.drop (stN bs p).1 := by
  unfold vaN
  rw [fold_unfold]
  exact back_num hb hp h
theorem back_cmd {bs : List Int} (hb : Byt bs) {p : Nat × Int} (hp : p.1 ≤ bs.length) (h : (tcS bs p).2 = 0) : p.2 = 0 ∧ bs.drop p.1 = cmdB (tcC bs p) ++ bs.drop (tcS bs p).1 := by
  obtain ⟨g7, e7⟩ := back_int hb (stN_le _ _) h
  obtain ⟨g6, e6⟩ := back_int hb (stN_le _ _) g7
  obtain ⟨g5, e5⟩ := back_int hb (stN_le _ _) g6
  obtain ⟨g4, e4⟩ := back_int hb (stN_le _ _) g5
  obtain ⟨g3, e3⟩ := back_int hb (stN_le _ _) g4
  obtain ⟨g2, e2⟩ := back_int hb (stN_le _ _) g3
  obtain ⟨g1, e1⟩ := back_int hb (stN_le _ _) g2
  obtain ⟨g0, e0⟩ := back_int hb hp g1
  refine ⟨g0, ?_⟩
  rw [e0, e1, e2, e3, e4, e5, e6, e7]
  unfold cmdB CmD.is tcC tcS
  simp only [List.flatMap_cons, List.flatMap_nil, List.append_assoc, List.nil_append, List.append_nil]
theorem back_row {α : Type} {bs : List Int} {f : α → List Int} {st : Nat × Int → Nat × Int} {val : Nat × Int → α} (hle : ∀ p, (st p).1 ≤ bs.length) (hstep : ∀ p : Nat × Int, p.1 ≤ bs.length → (st p).2 = 0 → p.2 = 0 ∧ bs.drop p.1 = f (val p) ++ bs.drop (st p).1) (p : Nat × Int) (hp : p.1 ≤ bs.length) :
    ∀ k, (itN st k p).2 = 0 → p.2 = 0 ∧ bs.drop p.1 = ((List.range k).map (fun j => val (itN st j p))).flatMap f ++ bs.drop (itN st k p).1
  | 0, h => ⟨h, by simp [itN]⟩
  | k + 1, h => by
    obtain ⟨h1, h2⟩ := hstep (itN st k p) (it_le hle hp k) h
    obtain ⟨h3, h4⟩ := back_row hle hstep p hp k h1
    refine ⟨h3, ?_⟩
    rw [h4, h2, List.range_succ, List.map_append, List.flatMap_append, List.append_assoc]
    simp [itN]
theorem back_val {bs : List Int} (hb : Byt bs) {p : Nat × Int} (hp : p.1 ≤ bs.length) (h : (rdS bs p).2 = 0) : p.2 = 0 ∧ bs.drop p.1 = vlB (rdV bs p) ++ bs.drop (rdS bs p).1 := by
  obtain ⟨h5, e5⟩ := back_row (f := fun n : Int => numB (natU n)) (val := fun p => (vaC 9 bs p : Int)) (stC_le 9 bs) (fun p hp h => by
    obtain ⟨g1, g2⟩ := back_cnt hb hp h
    have := vaC_le (most := 9) (by decide) bs p
    refine ⟨g1, ?_⟩
    rw [natU_of (by omega) (by omega)]
    exact g2) (stC 7 bs (rdB bs p)) (stC_le _ _ _) _ h
  obtain ⟨h4, e4⟩ := back_cnt hb (it_le (fun p => stN_le _ _) (stC_le _ _ _) _) h5
  obtain ⟨h3, e3⟩ := back_row (f := cmdB) (val := tcC bs) (fun p => stN_le _ _) (fun p hp h => back_cmd hb hp h) (rdA bs p) (stC_le _ _ _) _ h4
  obtain ⟨h2, e2⟩ := back_cnt hb (stC_le _ _ _) h3
  obtain ⟨h1, e1⟩ := back_cnt hb hp h2
  refine ⟨h1, ?_⟩
  have k2 := vaC_le (most := 2) (by decide) bs p
  have key : vlB (rdV bs p) = numB (vaC 2 bs p) ++ (numB (vaC 8 bs (stC 2 bs p)) ++ (((csN bs (vaC 8 bs (stC 2 bs p)) (rdA bs p)).flatMap cmdB) ++ (numB (vaC 7 bs (rdB bs p)) ++ ((nsN bs (vaC 7 bs (rdB bs p)) (stC 7 bs (rdB bs p))).flatMap fun n => numB (natU n))))) := by
    unfold vlB rdV
    dsimp only
    rw [csN_len, nsN_len, natU_of (by omega) (by omega)]
    rfl
  rw [key]
  simp only [List.append_assoc]
  rw [e1, e2]
  have e3' : bs.drop (stC 8 bs (stC 2 bs p)).1 = (csN bs (vaC 8 bs (stC 2 bs p)) (rdA bs p)).flatMap cmdB ++ bs.drop (rdB bs p).1 := e3
  have e4' : bs.drop (rdB bs p).1 = numB (vaC 7 bs (rdB bs p)) ++ bs.drop (stC 7 bs (rdB bs p)).1 := e4
  rw [e3', e4']
  have e5' : bs.drop (stC 7 bs (rdB bs p)).1 = ((nsN bs (vaC 7 bs (rdB bs p)) (stC 7 bs (rdB bs p))).flatMap fun n => numB (natU n)) ++ bs.drop (rdS bs p).1 := e5
  rw [e5']
theorem rdS_le (bs : List Int) (p : Nat × Int) : (rdS bs p).1 ≤ bs.length := it_le (stC_le _ _) (stC_le _ _ _) _
theorem rd_wf {bs : List Int} (hb : Byt bs) (p : Nat × Int) : VlWf (rdV bs p) := by
  refine ⟨?_, fun c hc i hi => ?_, rdV_fit _ _⟩
  · have := vaC_le (most := 2) (by decide) bs p
    show I64 (vaC 2 bs p : Int)
    unfold I64; omega
  · obtain ⟨j, _, rfl⟩ := List.mem_map.1 hc
    unfold tcC CmD.is at hi
    simp only [List.mem_cons, List.not_mem_nil, or_false] at hi
    rcases hi with rfl | rfl | rfl | rfl | rfl | rfl | rfl | rfl <;> exact vaN_fit hb _
section
variable {C : Cfg} {ρ : Env} {pre : List Nat} {hx : HX} {L : Stack} {m m' : Mem} {args : List SV} {r : SV} {t : Tree}
/-- A call whose answer is new bytes. -/
theorem node_nd {f : Nat} {bs : List Int} (AS : List Nat → Array Value) (vs : Option Addr → Nat → Vals) (hargs : ∀ ids, (args.map (SV.den ρ ids)).toArray = AS ids) (hcall : ∀ ids w, pre <+: ids → Facts C m ρ ids hx w → Calls C.P f (AS ids) w (NewD w id bs))
    (hr : ∀ a' c' ids, r.den (ρ.add (vs a' c')) ids = .slice a' bs.length c') (hhp : m'.hp = m.hp) (hfit : hpFits m.c m.hp.length m.hp = true) (hc : ∀ a' c', (ρ.add (vs a' c')).cnt = m'.c) (h1 : ∀ a' c' v, v ∈ (vs a' c').v → v.oneCell' = true)
    (h : ∀ a' c', (∀ k, (HX.cl a' (bcells bs)).F k → C.W.heap.size ≤ k ∧ ¬ hx.F k) → t.holds C (ρ.add (vs a' c')) pre (hx.and (HX.cl a' (bcells bs))) L) : (Tree.call f args m r m' t).holds C ρ pre hx L := by
  refine node_out AS (fun u hy => ∃ a' c', u = vs a' c' ∧ hy = HX.cl a' (bcells bs)) hargs (fun ids w hp hf => ?_) hhp hfit ?_ ?_
  · refine (hcall ids w hp hf).mono ?_
    rintro e w' ⟨a', c', rfl, hX, hge, _, hb⟩
    exact ⟨_, _, ⟨a', c', rfl, rfl⟩, by rw [hr]; rfl, hX, fun k hk => ⟨by obtain ⟨hne, rfl⟩ := hk; exact hge (fun q => hne (by rw [q]; rfl)), cl_sep hX k hk⟩, hb⟩
  · rintro u hy ⟨a', c', rfl, rfl⟩
    exact ⟨hc _ _, h1 _ _⟩
  · rintro u hy ⟨a', c', rfl, rfl⟩ hfr
    exact h a' c' hfr
end
theorem numB_byt {u : Nat} (h : u < 2 ^ 64) : Byt (numB u) := fun b hb => by
  have := nlen_8 h
  rcases List.mem_cons.1 hb with rfl | hb
  · omega
  · exact digs_byt _ _ b hb
theorem byt_app {a b : List Int} (h : Byt a) (h2 : Byt b) : Byt (a ++ b) := fun x hx => (List.mem_append.1 hx).elim (h x) (h2 x)
theorem byt_flat {α : Type} {f : α → List Int} {xs : List α} (h : ∀ x ∈ xs, Byt (f x)) : Byt (xs.flatMap f) := fun b hb => by
  obtain ⟨x, hx, hb⟩ := List.mem_flatMap.1 hb
  exact h x hx b hb
theorem vlB_byt {v : Vl} (h : VlWf v) : Byt (vlB v) := by
  have l1 := h.f.l1
  have l2 := h.f.l2
  unfold vlB
  exact byt_app (numB_byt (natU_lt _)) (byt_app (numB_byt (by omega)) (byt_app (byt_flat fun c hc => byt_flat fun i hi => numB_byt (foldN_lt (h.c c hc i hi))) (byt_app (numB_byt (by omega)) (byt_flat fun n _ => numB_byt (natU_lt _)))))
theorem u8_wf {k : Int} (h : (Lit.int .u8 k).wf = true) : 0 ≤ k ∧ k < 256 := by
  simp [Lit.wf] at h
  have h1 := h.1
  have h2 := h.2
  change (0 : Int) ≤ k at h1
  change k ≤ 255 at h2
  omega
theorem opn_bytes {w : World} (ds : List Dat) (hds : ∀ d ∈ ds, d.In Try.prog w 5) : ∃ bs : List Int, bs.length = ds.length ∧ Dat.cellsAll ds = bcells bs ∧ Byt bs := by
  obtain ⟨bs, rfl, ho⟩ := list_map_of (Dat.int .u8) (fun x => 0 ≤ x ∧ x < 256) ds (fun d hd => by
    obtain ⟨k0, rfl, hk⟩ := in_int Try.underlying5 (hds d hd)
    exact ⟨k0, rfl, u8_wf hk⟩)
  refine ⟨bs, by rw [List.length_map], ?_, ho⟩
  clear hds ho
  induction bs with
  | nil => rfl
  | cons x r ih => rw [List.map_cons, bcells, List.map_cons, ← bcells, ← ih]; rfl
theorem bytes_u8 : Try.prog.bytesOf 5 = 1 := by kernel_rfl
end Go.Proofs.Ytadgaefmoobcoaa
