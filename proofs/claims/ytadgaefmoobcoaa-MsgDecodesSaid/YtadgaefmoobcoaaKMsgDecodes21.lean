/- Part 21 of the texts of a proof about the given program: what the statement's proof needs of them. -/
import Derived.Test.YtadgaefmoobcoaaKMsgDecodes20
namespace Go.Proofs.Ytadgaefmoobcoaa
open Go.ChangeShapes Go.WideShapes Go.ChangeAt Go.RowKit Go.Syn Go.Eng
set_option linter.unusedVariables false
set_option linter.unusedSimpArgs false
set_option maxRecDepth 100000
def rvV (bs : List Int) (al : Option Addr) (cl : Nat) (q : Nat × Int) (m : Ms) : Vals := ⟨q.2 :: m.ints, [], [], (bs.drop q.1).length :: cl :: m.nats, al :: m.adrs⟩
def RsT (w : World) (a : Option Addr) (bs : List Int) (u k f t e : Int) (q : Nat × Int) (en : Ending) (w' : World) : Prop := ∃ al cl, ∃ y : Ms, en = .returned (.tuple #[qR bs al cl (q9 u bs q), y.val]) ∧ AtP bs a al cl (q9 u bs q) ∧ y.con = rdC u bs k f t e q ∧ y.X.X w' ∧ (∀ j, y.X.F j → w.heap.size ≤ j ∧ j < w'.heap.size) ∧ Below w.heap.size w w'
theorem vtS_eq (bs : List Int) (q : Nat × Int) : vtS bs q = rdS bs (stC big bs (stC big bs (stC big bs q))) := rfl
theorem vtV_eq (bs : List Int) (q : Nat × Int) : vtV bs q = ⟨(vaC big bs q : Int), (vaC big bs (stC big bs q) : Int), (vaC big bs (stC big bs (stC big bs q)) : Int), rdV bs (stC big bs (stC big bs (stC big bs q)))⟩ := rfl
theorem opt_t {α : Type} {c : Bool} {x y : α} (h : c = true) : opt c x y = x := if_pos h
theorem opt_n {α : Type} {c : Bool} {x y : α} (h : ¬ c = true) : opt c x y = y := if_neg h
structure Bare (m : Ms) : Prop where
  p : m.p = pz
  av : m.av = none
  cv : m.cv = 0
  vs : m.vs = []
theorem Bare.opt {c : Bool} {x y : Ms} (h1 : Bare x) (h2 : Bare y) : Bare (opt c x y) := by unfold Go.Proofs.Ytadgaefmoobcoaa.opt; split <;> assumption
def RjI (a : Option Addr) (bs : List Int) (G : HX) (q : Nat × Int) (m : Ms) (vs : Vals) (hx : HX) : Prop := ∃ al cl, AtP bs a al cl q ∧ vs = rvV bs al cl q m ∧ G = hx
def RpI (w : World) (a : Option Addr) (bs : List Int) (q : Nat × Int) (m : Ms) (v : Vl) (vs : Vals) (hx : HX) : Prop := ∃ al cl, ∃ pp : Pv, AtP bs a al cl q ∧ pp.v = v ∧ (∀ j, pp.hx.F j → w.heap.size ≤ j) ∧ vs = rvV bs al cl q { m with p := pp } ∧ hx = HX.nil.and pp.hx
def RoI (a : Option Addr) (bs : List Int) (G : HX) (q : Nat × Int) (n : Nat) (vs : Vals) (hx : HX) : Prop := ∃ al cl, AtP bs a al cl q ∧ vs = ⟨[(n : Int), q.2], [], [], [(bs.drop q.1).length, cl], [al]⟩ ∧ G = hx
def voH (vs : List (Vo Pv)) : HX := HX.all (vs.map fun x => x.v.hx)
theorem voH_snoc (xs : List (Vo Pv)) (x : Vo Pv) : voH (xs ++ [x]) = (voH xs).and x.v.hx := by unfold voH; rw [List.map_append]; exact all_snocV _ _
def RvI (w : World) (a : Option Addr) (bs : List Int) (P : HX) (q : Nat × Int) (n : Nat) (m : Ms) (vs : Vals) (hx : HX) : Prop := ∃ (i : Nat) (al : Option Addr) (cl : Nat) (av : Option Addr) (cv : Nat) (xs : List (Vo Pv)), i ≤ n ∧ AtP bs a al cl (itN (vtS bs) i q) ∧ vlsOf xs = voN bs i q ∧ OwnR w P (voH xs) ∧ OwnR w (P.and (voH xs)) (vrow av cv xs) ∧
  vs = ⟨(i : Int) :: (itN (vtS bs) i q).2 :: ({ m with av := av, cv := cv, vs := xs } : Ms).ints, [], [], (bs.drop (itN (vtS bs) i q).1).length :: cl :: ({ m with av := av, cv := cv, vs := xs } : Ms).nats, al :: ({ m with av := av, cv := cv, vs := xs } : Ms).adrs⟩ ∧ hx = (P.and (voH xs)).and (vrow av cv xs)
def Rn3I (w : World) (a : Option Addr) (bs : List Int) (G : HX) (q : Nat × Int) (vs : Vals) (hx : HX) : Prop := ∃ (k : Nat) (an : Option Addr) (c : Nat) (al : Option Addr) (cl : Nat), k ≤ 3 ∧ (∀ j, c ≠ 0 → abk an = some j → w.heap.size ≤ j ∧ ¬ G.F j) ∧ (c ≠ 0 → an.isSome = true) ∧ (k ≠ 0 → c ≠ 0) ∧ AtP bs a al cl (itN (stN bs) k q) ∧
  vs = ⟨[(itN (stN bs) k q).2], [], [], [k, c, (bs.drop (itN (stN bs) k q).1).length, cl], [an, al]⟩ ∧ hx = G.and (nrow an k c (vnN bs k q))
def RdI (w : World) (a : Option Addr) (bs : List Int) (G : HX) (q : Nat × Int) (m : Ms) (d : List Int) (vs : Vals) (hx : HX) : Prop := ∃ al cl ad cd, AtP bs a al cl q ∧ (∀ j, (HX.cl ad (bcells d)).F j → w.heap.size ≤ j) ∧ vs = rvV bs al cl q { m with ad := ad, cd := cd, d := d } ∧ hx = G.and (HX.cl ad (bcells d))
section
variable {W : World} {RR : Ending → World → Prop} {ρ : Env} {pre : List Nat} {hx : HX} {L : Stack} {m m' : Mem} {t : Tree} {args : List SV} {r : SV}
theorem node_qtk {bs : List Int} {a al : Option Addr} {cl : Nat} {q p' : Nat × Int} {v : Vl} (H : Qb W a bs) (hA : AtP bs a al cl q) (hst : rdS bs q = p') (hva : rdV bs q = v) (hargs : ∀ ids, (args.map (SV.den ρ ids)).toArray = #[qR bs al cl q])
    (hr : ∀ al' cl' (p : Pv) ids, r.den (ρ.add ⟨[p'.2, p.v.k], [], [], [(bs.drop p'.1).length, cl', p.v.cs.length, p.c1, p.v.ns.length, p.c2], [al', p.a1, p.a2]⟩) ids = .tuple #[qR bs al' cl' p', p.val]) (hhp : m'.hp = m.hp) (hft : hpFits m.c m.hp.length m.hp = true)
    (hc : ∀ al' cl' (p : Pv), (ρ.add ⟨[p'.2, p.v.k], [], [], [(bs.drop p'.1).length, cl', p.v.cs.length, p.c1, p.v.ns.length, p.c2], [al', p.a1, p.a2]⟩).cnt = m'.c)
    (h : ∀ al' cl' (p : Pv), AtP bs a al' cl' p' → p.v = v → (∀ k, p.hx.F k → W.heap.size ≤ k ∧ ¬ hx.F k) → t.holds ⟨Try.prog, W, fun _ => False, RR⟩ (ρ.add ⟨[p'.2, p.v.k], [], [], [(bs.drop p'.1).length, cl', p.v.cs.length, p.c1, p.v.ns.length, p.c2], [al', p.a1, p.a2]⟩) pre (hx.and p.hx) L) : (Tree.call 76 args m r m' t).holds ⟨Try.prog, W, fun _ => False, RR⟩ ρ pre hx L := by
  subst hst; subst hva
  refine node_out (fun _ => #[qR bs al cl q]) (fun vs h' => ∃ al' cl', ∃ p : Pv, AtP bs a al' cl' (rdS bs q) ∧ p.v = rdV bs q ∧ vs = ⟨[(rdS bs q).2, p.v.k], [], [], [(bs.drop (rdS bs q).1).length, cl', p.v.cs.length, p.c1, p.v.ns.length, p.c2], [al', p.a1, p.a2]⟩ ∧ h' = p.hx) hargs (fun ids w hp hf => ?_) hhp hft ?_ ?_
  · refine (qtake (H.keep (facts_old (fun _ q => q) hf)) hA).mono ?_
    rintro e w' ⟨al', cl', a1, c1, a2, c2, rfl, g1, g2, g3, g4⟩
    exact ⟨_, _, ⟨al', cl', ⟨rdV bs q, a1, c1, a2, c2⟩, g1, rfl, rfl, rfl⟩, by rw [hr al' cl' ⟨rdV bs q, a1, c1, a2, c2⟩]; rfl, g2, fun k hk => ⟨g3 k hk, vlX_sep g2 k hk⟩, g4⟩
  · rintro vs h' ⟨al', cl', p, _, _, rfl, rfl⟩; exact ⟨hc _ _ _, oneNil⟩
  · rintro vs h' ⟨al', cl', p, g1, g2, rfl, rfl⟩ hfr; exact h al' cl' p g1 g2 hfr
theorem node_qtx {bs : List Int} {a al : Option Addr} {cl : Nat} {q : Nat × Int} (H : Qb W a bs) (hA : AtP bs a al cl q) (hargs : ∀ ids, (args.map (SV.den ρ ids)).toArray = #[qR bs al cl q, .int .i64 1024])
    (hr : ∀ al' cl' ad cd ids, r.den (ρ.add ⟨[(txS 1024 bs q).2], [], [], [(bs.drop (txS 1024 bs q).1).length, cl', (txD 1024 bs q).length, cd], [al', ad]⟩) ids = .tuple #[qR bs al' cl' (txS 1024 bs q), .slice ad (txD 1024 bs q).length cd]) (hhp : m'.hp = m.hp) (hft : hpFits m.c m.hp.length m.hp = true)
    (hc : ∀ al' cl' ad cd, (ρ.add ⟨[(txS 1024 bs q).2], [], [], [(bs.drop (txS 1024 bs q).1).length, cl', (txD 1024 bs q).length, cd], [al', ad]⟩).cnt = m'.c)
    (h : ∀ al' cl' ad cd, AtP bs a al' cl' (txS 1024 bs q) → (∀ k, (HX.cl ad (bcells (txD 1024 bs q))).F k → W.heap.size ≤ k ∧ ¬ hx.F k) → t.holds ⟨Try.prog, W, fun _ => False, RR⟩ (ρ.add ⟨[(txS 1024 bs q).2], [], [], [(bs.drop (txS 1024 bs q).1).length, cl', (txD 1024 bs q).length, cd], [al', ad]⟩) pre (hx.and (HX.cl ad (bcells (txD 1024 bs q)))) L) : (Tree.call 80 args m r m' t).holds ⟨Try.prog, W, fun _ => False, RR⟩ ρ pre hx L := by
  refine node_out (fun _ => #[qR bs al cl q, .int .i64 1024]) (fun vs h' => ∃ al' cl' ad cd, AtP bs a al' cl' (txS 1024 bs q) ∧ vs = ⟨[(txS 1024 bs q).2], [], [], [(bs.drop (txS 1024 bs q).1).length, cl', (txD 1024 bs q).length, cd], [al', ad]⟩ ∧ h' = HX.cl ad (bcells (txD 1024 bs q))) hargs (fun ids w hp hf => ?_) hhp hft ?_ ?_
  · refine (qtxt (H.keep (facts_old (fun _ q => q) hf)) hA).mono ?_
    rintro e w' ⟨al', cl', ad, cd, rfl, g1, g2, g3, g4⟩
    exact ⟨_, _, ⟨al', cl', ad, cd, g1, rfl, rfl⟩, by rw [hr], g2, g3, g4⟩
  · rintro vs h' ⟨al', cl', ad, cd, _, rfl, rfl⟩; exact ⟨hc _ _ _ _, oneNil⟩
  · rintro vs h' ⟨al', cl', ad, cd, g1, rfl, rfl⟩ hfr; exact h al' cl' ad cd g1 hfr
theorem node_qn7 {bs : List Int} {a al : Option Addr} {cl : Nat} {q p' : Nat × Int} {x : Int} (H : Qb W a bs) (hA : AtP bs a al cl q) (hst : stC big bs q = p') (hva : (vaC big bs q : Int) = x) (hargs : ∀ ids, (args.map (SV.den ρ ids)).toArray = #[qR bs al cl q])
    (hr : ∀ a2 c2 ids, r.den (ρ.add ⟨[p'.2, x], [], [], [(bs.drop p'.1).length, c2], [a2]⟩) ids = .tuple #[qR bs a2 c2 p', .int .i64 x]) (hhp : m'.hp = m.hp) (hft : hpFits m.c m.hp.length m.hp = true)
    (hc : ∀ a2 c2, (ρ.add ⟨[p'.2, x], [], [], [(bs.drop p'.1).length, c2], [a2]⟩).cnt = m'.c)
    (h : ∀ a2 c2, AtP bs a a2 c2 p' → t.holds ⟨Try.prog, W, fun _ => False, RR⟩ (ρ.add ⟨[p'.2, x], [], [], [(bs.drop p'.1).length, c2], [a2]⟩) pre hx L) : (Tree.call 55 args m r m' t).holds ⟨Try.prog, W, fun _ => False, RR⟩ ρ pre hx L := by
  subst hst; subst hva
  exact node_q (bs := bs) (a := a) (p' := stC big bs q) (V := fun v => .tuple #[v, .int .i64 (vaC big bs q : Int)]) #[qR bs al cl q] (fun a2 c2 => ⟨[(stC big bs q).2, (vaC big bs q : Int)], [], [], [(bs.drop (stC big bs q).1).length, c2], [a2]⟩) hargs hhp hft hc (fun _ _ => oneNil) hr (fun ids w hp hf => qnum7 (H.keep (facts_old (fun _ q => q) hf)) hA) h
end
set_option maxHeartbeats 32000000 in
theorem qrest {w : World} {bs : List Int} {a a' : Option Addr} {c' : Nat} {q : Nat × Int} (H : Qb w a bs) (hA : AtP bs a a' c' q) (k f t e : Int) : Calls Try.prog 56 #[qR bs a' c' q, ({ mz with k := k, f := f, t := t, e := e } : Ms).val] w (RsT w a bs (useI k) k f t e q) := by
  obtain ⟨m0, em0⟩ : ∃ x, x = ({ mz with k := k, f := f, t := t, e := e } : Ms) := ⟨_, rfl⟩
  have hB0 : Bare m0 := by rw [em0]; exact ⟨rfl, rfl, rfl, rfl⟩
  have hD0 : m0.ad = none ∧ m0.cd = 0 ∧ m0.d = [] := by rw [em0]; exact ⟨rfl, rfl, rfl⟩
  have hk0 : m0.k = k := by rw [em0]
  rw [← em0]
  obtain ⟨u, eu⟩ : ∃ x, x = useI k := ⟨_, rfl⟩
  obtain ⟨s, es⟩ : ∃ x, x = usesS k := ⟨_, rfl⟩
  have hsl : s.data.toList.length ≤ 1000 := by rw [es]; exact uses_len k
  rw [← eu]
  refine calls_at (tab_ok _) Try.func56 rfl tQRest (ρ := ⟨q.2 :: m0.ints, [], [], (bs.drop q.1).length :: c' :: m0.nats, a' :: m0.adrs⟩) (ids := []) (hx := HX.nil) (by kernel_rfl) (Facts.initP rfl oneNil) ?_
  refine node_P ⟨[], [], [.string s], [], []⟩ #[.int .i64 m0.k] (.string s) (by intros; kernel_rfl) (by intros; kernel_rfl) (by kernel_rfl) (by kernel_rfl) (by kernel_rfl) (fun v hv => by simp only [List.mem_singleton] at hv; subst hv; rfl) (fun ids w2 hp hf => by rw [hk0, es]; exact ruses_any k w2) ?_
  refine holds_env (ρ' := ⟨(q.2 :: m0.ints), [], [.string s], ((bs.drop q.1).length :: c' :: m0.nats), (a' :: m0.adrs)⟩) (by kernel_rfl) ?_
  obtain ⟨q1, eq1⟩ : ∃ x, x = sB u bs q := ⟨_, rfl⟩
  obtain ⟨m1, em1⟩ : ∃ x, x = gB u bs q m0 := ⟨_, rfl⟩
  refine ⟨RjI a bs HX.nil q1 m1, ?_, ?_⟩
  · skip
    refine node_P ⟨[], [ub u 1], [], [], []⟩ #[.string s, .int .u8 98] (.bool (ub u 1)) (by intros; kernel_rfl) (by intros; kernel_rfl) (by kernel_rfl) (by kernel_rfl) (by kernel_rfl) oneNil (fun ids w2 hp hf => by have := has_any s 98 hsl w2; rw [show hasB s 98 = ub u 1 by rw [es, eu]; exact has_b k] at this; exact this) ?_
    by_cases h : ub u 1 = true
    · refine br_T (ub u 1) (by kernel_rfl) h ?_
      refine node_qn7 (q := q) H hA rfl rfl (by intros; kernel_rfl) (by intros; kernel_rfl) (by kernel_rfl) (by kernel_rfl) (by intros; kernel_rfl) ?_
      intro z0 y0 hz0
      refine node_qn7 (q := (stC big bs q)) H hz0 rfl rfl (by intros; kernel_rfl) (by intros; kernel_rfl) (by kernel_rfl) (by kernel_rfl) (by intros; kernel_rfl) ?_
      intro z1 y1 hz1
      have g1 : q1 = (stC big bs (stC big bs q)) := by rw [eq1]; exact opt_t h
      have g2 : m1 = ({ m0 with r := (vaC big bs q : Int), n := (vaC big bs (stC big bs q) : Int) } : Ms) := by rw [em1]; exact opt_t h
      exact again_V (rvV bs z1 y1 ((stC big bs (stC big bs q))) ({ m0 with r := (vaC big bs q : Int), n := (vaC big bs (stC big bs q) : Int) } : Ms)) rfl (by intros; kernel_rfl) _ (fun w2 ids hf => ⟨hf.x, hf.sep⟩) ⟨z1, y1, by rw [g1]; exact hz1, by rw [g1, g2], rfl⟩
    · refine br_F (ub u 1) (by kernel_rfl) (by simpa using h) ?_
      have g1 : q1 = q := by rw [eq1]; exact opt_n h
      have g2 : m1 = m0 := by rw [em1]; exact opt_n h
      exact again_V (rvV bs a' c' q m0) rfl (by intros; kernel_rfl) _ (fun w2 ids hf => ⟨hf.x, hf.sep⟩) ⟨a', c', by rw [g1]; exact hA, by rw [g1, g2], rfl⟩
  rintro vs hx' hcnt1 ⟨l1, d1, hA1, rfl, rfl⟩
  refine holds_env (ρ' := ⟨(q.2 :: m0.ints) ++ (q1.2 :: m1.ints), [], [.string s], ((bs.drop q.1).length :: c' :: m0.nats) ++ ((bs.drop q1.1).length :: d1 :: m1.nats), (a' :: m0.adrs) ++ (l1 :: m1.adrs)⟩) (by kernel_rfl) ?_
  obtain ⟨q2, eq2⟩ : ∃ x, x = sN 2 u bs q1 := ⟨_, rfl⟩
  obtain ⟨m2, em2⟩ : ∃ x, x = gS u bs q1 m1 := ⟨_, rfl⟩
  refine ⟨RjI a bs HX.nil q2 m2, ?_, ?_⟩
  · skip
    refine node_P ⟨[], [ub u 2], [], [], []⟩ #[.string s, .int .u8 115] (.bool (ub u 2)) (by intros; kernel_rfl) (by intros; kernel_rfl) (by kernel_rfl) (by kernel_rfl) (by kernel_rfl) oneNil (fun ids w2 hp hf => by have := has_any s 115 hsl w2; rw [show hasB s 115 = ub u 2 by rw [es, eu]; exact has_s k] at this; exact this) ?_
    by_cases h : ub u 2 = true
    · refine br_T (ub u 2) (by kernel_rfl) h ?_
      refine node_qn7 (q := q1) H hA1 rfl rfl (by intros; kernel_rfl) (by intros; kernel_rfl) (by kernel_rfl) (by kernel_rfl) (by intros; kernel_rfl) ?_
      intro z0 y0 hz0
      have g1 : q2 = (stC big bs q1) := by rw [eq2]; exact opt_t h
      have g2 : m2 = ({ m1 with slot := (vaC big bs q1 : Int) } : Ms) := by rw [em2]; exact opt_t h
      exact again_V (rvV bs z0 y0 ((stC big bs q1)) ({ m1 with slot := (vaC big bs q1 : Int) } : Ms)) rfl (by intros; kernel_rfl) _ (fun w2 ids hf => ⟨hf.x, hf.sep⟩) ⟨z0, y0, by rw [g1]; exact hz0, by rw [g1, g2], rfl⟩
    · refine br_F (ub u 2) (by kernel_rfl) (by simpa using h) ?_
      have g1 : q2 = q1 := by rw [eq2]; exact opt_n h
      have g2 : m2 = m1 := by rw [em2]; exact opt_n h
      exact again_V (rvV bs l1 d1 q1 m1) rfl (by intros; kernel_rfl) _ (fun w2 ids hf => ⟨hf.x, hf.sep⟩) ⟨l1, d1, by rw [g1]; exact hA1, by rw [g1, g2], rfl⟩
  rintro vs hx' hcnt2 ⟨l2, d2, hA2, rfl, rfl⟩
  refine holds_env (ρ' := ⟨(q.2 :: m0.ints) ++ (q1.2 :: m1.ints) ++ (q2.2 :: m2.ints), [], [.string s], ((bs.drop q.1).length :: c' :: m0.nats) ++ ((bs.drop q1.1).length :: d1 :: m1.nats) ++ ((bs.drop q2.1).length :: d2 :: m2.nats), (a' :: m0.adrs) ++ (l1 :: m1.adrs) ++ (l2 :: m2.adrs)⟩) (by kernel_rfl) ?_
  obtain ⟨q3, eq3⟩ : ∃ x, x = sN 4 u bs q2 := ⟨_, rfl⟩
  obtain ⟨m3, em3⟩ : ∃ x, x = gL u bs q2 m2 := ⟨_, rfl⟩
  refine ⟨RjI a bs HX.nil q3 m3, ?_, ?_⟩
  · skip
    refine node_P ⟨[], [ub u 4], [], [], []⟩ #[.string s, .int .u8 108] (.bool (ub u 4)) (by intros; kernel_rfl) (by intros; kernel_rfl) (by kernel_rfl) (by kernel_rfl) (by kernel_rfl) oneNil (fun ids w2 hp hf => by have := has_any s 108 hsl w2; rw [show hasB s 108 = ub u 4 by rw [es, eu]; exact has_l k] at this; exact this) ?_
    by_cases h : ub u 4 = true
    · refine br_T (ub u 4) (by kernel_rfl) h ?_
      refine node_qn7 (q := q2) H hA2 rfl rfl (by intros; kernel_rfl) (by intros; kernel_rfl) (by kernel_rfl) (by kernel_rfl) (by intros; kernel_rfl) ?_
      intro z0 y0 hz0
      have g1 : q3 = (stC big bs q2) := by rw [eq3]; exact opt_t h
      have g2 : m3 = ({ m2 with low := (vaC big bs q2 : Int) } : Ms) := by rw [em3]; exact opt_t h
      exact again_V (rvV bs z0 y0 ((stC big bs q2)) ({ m2 with low := (vaC big bs q2 : Int) } : Ms)) rfl (by intros; kernel_rfl) _ (fun w2 ids hf => ⟨hf.x, hf.sep⟩) ⟨z0, y0, by rw [g1]; exact hz0, by rw [g1, g2], rfl⟩
    · refine br_F (ub u 4) (by kernel_rfl) (by simpa using h) ?_
      have g1 : q3 = q2 := by rw [eq3]; exact opt_n h
      have g2 : m3 = m2 := by rw [em3]; exact opt_n h
      exact again_V (rvV bs l2 d2 q2 m2) rfl (by intros; kernel_rfl) _ (fun w2 ids hf => ⟨hf.x, hf.sep⟩) ⟨l2, d2, by rw [g1]; exact hA2, by rw [g1, g2], rfl⟩
  rintro vs hx' hcnt3 ⟨l3, d3, hA3, rfl, rfl⟩
  refine holds_env (ρ' := ⟨(q.2 :: m0.ints) ++ (q1.2 :: m1.ints) ++ (q2.2 :: m2.ints) ++ (q3.2 :: m3.ints), [], [.string s], ((bs.drop q.1).length :: c' :: m0.nats) ++ ((bs.drop q1.1).length :: d1 :: m1.nats) ++ ((bs.drop q2.1).length :: d2 :: m2.nats) ++ ((bs.drop q3.1).length :: d3 :: m3.nats), (a' :: m0.adrs) ++ (l1 :: m1.adrs) ++ (l2 :: m2.adrs) ++ (l3 :: m3.adrs)⟩) (by kernel_rfl) ?_
  obtain ⟨q4, eq4⟩ : ∃ x, x = sN 8 u bs q3 := ⟨_, rfl⟩
  obtain ⟨m4, em4⟩ : ∃ x, x = gT u bs q3 m3 := ⟨_, rfl⟩
  refine ⟨RjI a bs HX.nil q4 m4, ?_, ?_⟩
  · skip
    refine node_P ⟨[], [ub u 8], [], [], []⟩ #[.string s, .int .u8 116] (.bool (ub u 8)) (by intros; kernel_rfl) (by intros; kernel_rfl) (by kernel_rfl) (by kernel_rfl) (by kernel_rfl) oneNil (fun ids w2 hp hf => by have := has_any s 116 hsl w2; rw [show hasB s 116 = ub u 8 by rw [es, eu]; exact has_t k] at this; exact this) ?_
    by_cases h : ub u 8 = true
    · refine br_T (ub u 8) (by kernel_rfl) h ?_
      refine node_qn7 (q := q3) H hA3 rfl rfl (by intros; kernel_rfl) (by intros; kernel_rfl) (by kernel_rfl) (by kernel_rfl) (by intros; kernel_rfl) ?_
      intro z0 y0 hz0
      have g1 : q4 = (stC big bs q3) := by rw [eq4]; exact opt_t h
      have g2 : m4 = ({ m3 with tm := (vaC big bs q3 : Int) } : Ms) := by rw [em4]; exact opt_t h
      exact again_V (rvV bs z0 y0 ((stC big bs q3)) ({ m3 with tm := (vaC big bs q3 : Int) } : Ms)) rfl (by intros; kernel_rfl) _ (fun w2 ids hf => ⟨hf.x, hf.sep⟩) ⟨z0, y0, by rw [g1]; exact hz0, by rw [g1, g2], rfl⟩
    · refine br_F (ub u 8) (by kernel_rfl) (by simpa using h) ?_
      have g1 : q4 = q3 := by rw [eq4]; exact opt_n h
      have g2 : m4 = m3 := by rw [em4]; exact opt_n h
      exact again_V (rvV bs l3 d3 q3 m3) rfl (by intros; kernel_rfl) _ (fun w2 ids hf => ⟨hf.x, hf.sep⟩) ⟨l3, d3, by rw [g1]; exact hA3, by rw [g1, g2], rfl⟩
  rintro vs hx' hcnt4 ⟨l4, d4, hA4, rfl, rfl⟩
  refine holds_env (ρ' := ⟨(q.2 :: m0.ints) ++ (q1.2 :: m1.ints) ++ (q2.2 :: m2.ints) ++ (q3.2 :: m3.ints) ++ (q4.2 :: m4.ints), [], [.string s], ((bs.drop q.1).length :: c' :: m0.nats) ++ ((bs.drop q1.1).length :: d1 :: m1.nats) ++ ((bs.drop q2.1).length :: d2 :: m2.nats) ++ ((bs.drop q3.1).length :: d3 :: m3.nats) ++ ((bs.drop q4.1).length :: d4 :: m4.nats), (a' :: m0.adrs) ++ (l1 :: m1.adrs) ++ (l2 :: m2.adrs) ++ (l3 :: m3.adrs) ++ (l4 :: m4.adrs)⟩) (by kernel_rfl) ?_
  have hB4 : Bare m4 := by
    have b1 : Bare m1 := by rw [em1]; exact Bare.opt ⟨hB0.p, hB0.av, hB0.cv, hB0.vs⟩ hB0
    have b2 : Bare m2 := by rw [em2]; exact Bare.opt ⟨b1.p, b1.av, b1.cv, b1.vs⟩ b1
    have b3 : Bare m3 := by rw [em3]; exact Bare.opt ⟨b2.p, b2.av, b2.cv, b2.vs⟩ b2
    rw [em4]; exact Bare.opt ⟨b3.p, b3.av, b3.cv, b3.vs⟩ b3
  have hD4 : m4.ad = none ∧ m4.cd = 0 ∧ m4.d = [] := by
    have dd : ∀ {c : Bool} {x y : Ms}, (x.ad = none ∧ x.cd = 0 ∧ x.d = []) → (y.ad = none ∧ y.cd = 0 ∧ y.d = []) → ((opt c x y).ad = none ∧ (opt c x y).cd = 0 ∧ (opt c x y).d = []) := fun {c x y} h1 h2 => by unfold opt; split <;> assumption
    have b1 : m1.ad = none ∧ m1.cd = 0 ∧ m1.d = [] := by rw [em1]; exact dd hD0 hD0
    have b2 : m2.ad = none ∧ m2.cd = 0 ∧ m2.d = [] := by rw [em2]; exact dd b1 b1
    have b3 : m3.ad = none ∧ m3.cd = 0 ∧ m3.d = [] := by rw [em3]; exact dd b2 b2
    rw [em4]; exact dd b3 b3
  obtain ⟨q5, eq5⟩ : ∃ x, x = sV u bs q4 := ⟨_, rfl⟩
  obtain ⟨v5, ev5⟩ : ∃ x, x = vV u bs q4 := ⟨_, rfl⟩
  refine ⟨RpI w a bs q5 m4 v5, ?_, ?_⟩
  · skip
    refine node_P ⟨[], [ub u 16], [], [], []⟩ #[.string s, .int .u8 118] (.bool (ub u 16)) (by intros; kernel_rfl) (by intros; kernel_rfl) (by kernel_rfl) (by kernel_rfl) (by kernel_rfl) oneNil (fun ids w2 hp hf => by have := has_any s 118 hsl w2; rw [show hasB s 118 = ub u 16 by rw [es, eu]; exact has_v k] at this; exact this) ?_
    by_cases h : ub u 16 = true
    · refine br_T (ub u 16) (by kernel_rfl) h ?_
      refine node_qtk (q := q4) H hA4 rfl rfl (by intros; kernel_rfl) (by intros; kernel_rfl) (by kernel_rfl) (by kernel_rfl) (by intros; kernel_rfl) ?_
      intro z0 y0 pp hz0 hpv hpf
      have g1 : q5 = rdS bs q4 := by rw [eq5]; exact opt_t h
      have g2 : v5 = rdV bs q4 := by rw [ev5]; exact opt_t h
      exact again_V (rvV bs z0 y0 (rdS bs q4) { m4 with p := pp }) rfl (by intros; kernel_rfl) _ (fun w2 ids hf => ⟨hf.x, hf.sep⟩) ⟨z0, y0, pp, by rw [g1]; exact hz0, by rw [g2]; exact hpv, fun j hj => (hpf j hj).1, by rw [g1], rfl⟩
    · refine br_F (ub u 16) (by kernel_rfl) (by simpa using h) ?_
      have g1 : q5 = q4 := by rw [eq5]; exact opt_n h
      have g2 : v5 = vz := by rw [ev5]; exact opt_n h
      have g3 : m4 = { m4 with p := pz } := by rw [← hB4.p]
      exact again_V (rvV bs l4 d4 q4 m4) rfl (by intros; kernel_rfl) (HX.nil.and pz.hx) (fun w2 ids hf => ⟨⟨hf.x, fun h => absurd h (by decide), fun h => absurd h (by decide)⟩, fun j hj => hj.elim (fun z => z.elim) (fun z => z.elim (fun y => absurd rfl y.1) (fun y => absurd rfl y.1))⟩) ⟨l4, d4, pz, by rw [g1]; exact hA4, by rw [g2]; rfl, (fun j hj => hj.elim (fun y => absurd rfl y.1) (fun y => absurd rfl y.1)), by rw [g1, ← g3], rfl⟩
  rintro vs hx' hcnt5 ⟨l5, d5, pp, hA5, hpv, hpf, rfl, rfl⟩
  obtain ⟨m5, em5⟩ : ∃ x, x = ({ m4 with p := pp } : Ms) := ⟨_, rfl⟩
  rw [← em5] at hcnt5 ⊢
  obtain ⟨P, eP⟩ : ∃ x, x = HX.nil.and pp.hx := ⟨_, rfl⟩
  rw [← eP]
  refine holds_env (ρ' := ⟨(q.2 :: m0.ints) ++ (q1.2 :: m1.ints) ++ (q2.2 :: m2.ints) ++ (q3.2 :: m3.ints) ++ (q4.2 :: m4.ints) ++ (q5.2 :: m5.ints), [], [.string s], ((bs.drop q.1).length :: c' :: m0.nats) ++ ((bs.drop q1.1).length :: d1 :: m1.nats) ++ ((bs.drop q2.1).length :: d2 :: m2.nats) ++ ((bs.drop q3.1).length :: d3 :: m3.nats) ++ ((bs.drop q4.1).length :: d4 :: m4.nats) ++ ((bs.drop q5.1).length :: d5 :: m5.nats), (a' :: m0.adrs) ++ (l1 :: m1.adrs) ++ (l2 :: m2.adrs) ++ (l3 :: m3.adrs) ++ (l4 :: m4.adrs) ++ (l5 :: m5.adrs)⟩) (by kernel_rfl) ?_
  obtain ⟨qO, eqO⟩ : ∃ x, x = opt (ub u 32) (stC 64 bs q5) q5 := ⟨_, rfl⟩
  obtain ⟨nV, enV⟩ : ∃ x, x = opt (ub u 32) (vaC 64 bs q5) 0 := ⟨_, rfl⟩
  have hn64 : nV ≤ 64 := by
    rw [enV]; unfold opt; split
    · have := vaC_le (most := 64) (by decide) bs q5; omega
    · exact Nat.zero_le _
  have hsO : sO u bs q5 = itN (vtS bs) nV qO := by
    rw [enV, eqO]; unfold sO opt; split <;> rfl
  have hvO : vO u bs q5 = voN bs nV qO := by
    rw [enV, eqO]; unfold vO opt; split <;> rfl
  refine ⟨RoI a bs P qO nV, ?_, ?_⟩
  · skip
    refine node_P ⟨[], [ub u 32], [], [], []⟩ #[.string s, .int .u8 111] (.bool (ub u 32)) (by intros; kernel_rfl) (by intros; kernel_rfl) (by kernel_rfl) (by kernel_rfl) (by kernel_rfl) oneNil (fun ids w2 hp hf => by have := has_any s 111 hsl w2; rw [show hasB s 111 = ub u 32 by rw [es, eu]; exact has_o k] at this; exact this) ?_
    by_cases h : ub u 32 = true
    · refine br_T (ub u 32) (by kernel_rfl) h ?_
      refine node_q (bs := bs) (a := a) (p' := stC 64 bs q5) (V := fun v => .tuple #[v, .int .i64 (vaC 64 bs q5 : Int)]) #[qR bs l5 d5 q5, .int .i64 64] (fun a2 c2 => ⟨[(stC 64 bs q5).2, (vaC 64 bs q5 : Int)], [], [], [(bs.drop (stC 64 bs q5).1).length, c2], [a2]⟩) (by intros; kernel_rfl) (by kernel_rfl) (by kernel_rfl) (by intros; kernel_rfl) (fun _ _ => oneNil) (by intros; kernel_rfl) (fun ids w2 hp hf => qcountP 64 (by unfold I64; decide) (H.keep (facts_old (fun _ q => q) hf)) hA5) ?_
      intro z0 y0 hz0
      have g1 : qO = stC 64 bs q5 := by rw [eqO]; exact opt_t h
      have g2 : nV = vaC 64 bs q5 := by rw [enV]; exact opt_t h
      exact again_V ⟨[(vaC 64 bs q5 : Int), (stC 64 bs q5).2], [], [], [(bs.drop (stC 64 bs q5).1).length, y0], [z0]⟩ rfl (by intros; kernel_rfl) _ (fun w2 ids hf => ⟨hf.x, hf.sep⟩) ⟨z0, y0, by rw [g1]; exact hz0, by rw [g1, g2], rfl⟩
    · refine br_F (ub u 32) (by kernel_rfl) (by simpa using h) ?_
      have g1 : qO = q5 := by rw [eqO]; exact opt_n h
      have g2 : nV = 0 := by rw [enV]; exact opt_n h
      exact again_V ⟨[0, q5.2], [], [], [(bs.drop q5.1).length, d5], [l5]⟩ rfl (by intros; kernel_rfl) _ (fun w2 ids hf => ⟨hf.x, hf.sep⟩) ⟨l5, d5, by rw [g1]; exact hA5, by rw [g1, g2]; rfl, rfl⟩
  rintro vs hx' hcnt6 ⟨l6, d6, hA6, rfl, rfl⟩
  refine holds_env (ρ' := ⟨(q.2 :: m0.ints) ++ (q1.2 :: m1.ints) ++ (q2.2 :: m2.ints) ++ (q3.2 :: m3.ints) ++ (q4.2 :: m4.ints) ++ (q5.2 :: m5.ints) ++ [(nV : Int), qO.2], [], [.string s], ((bs.drop q.1).length :: c' :: m0.nats) ++ ((bs.drop q1.1).length :: d1 :: m1.nats) ++ ((bs.drop q2.1).length :: d2 :: m2.nats) ++ ((bs.drop q3.1).length :: d3 :: m3.nats) ++ ((bs.drop q4.1).length :: d4 :: m4.nats) ++ ((bs.drop q5.1).length :: d5 :: m5.nats) ++ [(bs.drop qO.1).length, d6], (a' :: m0.adrs) ++ (l1 :: m1.adrs) ++ (l2 :: m2.adrs) ++ (l3 :: m3.adrs) ++ (l4 :: m4.adrs) ++ (l5 :: m5.adrs) ++ [l6]⟩) (by kernel_rfl) ?_
  have hb5 : m5.av = none ∧ m5.cv = 0 ∧ m5.vs = [] := by rw [em5]; exact ⟨hB4.av, hB4.cv, hB4.vs⟩
  have e5 : m5 = { m5 with av := none, cv := 0, vs := [] } := by
    obtain ⟨b1, b2, b3⟩ := hb5
    rw [← b1, ← b2, ← b3]
  refine loop_i (RvI w a bs P qO nV m5) (fun vs => nV - (vs.i.headD 0).toNat) (fun ids w2 hp hf => ⟨(P.and (voH [])).and (vrow none 0 []), ⟨⟨⟨hf.x, fun x hx => by cases hx⟩, HX.rw_nil _ _ _ _⟩, fun j hj => hj.elim (fun z => z.elim (fun y => hf.sep j y) (fun ⟨x, hx, _⟩ => by cases hx)) (fun z => absurd rfl z.1)⟩, 0, l6, d6, none, 0, [], Nat.zero_le _, hA6, rfl, (fun j ⟨x, hx, _⟩ => by cases hx), (fun j hj => absurd rfl hj.1), by rw [← e5]; kernel_rfl, rfl⟩) ?_
  rintro vs hx'' hcnt7 ⟨i, lv, dv, av, cv, xs, hi, hAv, hxs, ownv, ownr, rfl, rfl⟩
  obtain ⟨qi, eqi⟩ : ∃ x, x = itN (vtS bs) i qO := ⟨_, rfl⟩
  obtain ⟨mi, emi⟩ : ∃ x, x = ({ m5 with av := av, cv := cv, vs := xs } : Ms) := ⟨_, rfl⟩
  have hmi : mi.av = av ∧ mi.cv = cv ∧ mi.vs = xs := by rw [emi]; exact ⟨rfl, rfl, rfl⟩
  have hxl : xs.length = i := by have := congrArg List.length hxs; rw [vlsOf_len, voN_len] at this; exact this
  rw [← eqi] at hAv
  rw [← eqi, ← emi]
  refine holds_env (ρ' := ⟨(q.2 :: m0.ints) ++ (q1.2 :: m1.ints) ++ (q2.2 :: m2.ints) ++ (q3.2 :: m3.ints) ++ (q4.2 :: m4.ints) ++ (q5.2 :: m5.ints) ++ [(nV : Int), qO.2] ++ ((i : Int) :: qi.2 :: mi.ints), [], [.string s], ((bs.drop q.1).length :: c' :: m0.nats) ++ ((bs.drop q1.1).length :: d1 :: m1.nats) ++ ((bs.drop q2.1).length :: d2 :: m2.nats) ++ ((bs.drop q3.1).length :: d3 :: m3.nats) ++ ((bs.drop q4.1).length :: d4 :: m4.nats) ++ ((bs.drop q5.1).length :: d5 :: m5.nats) ++ [(bs.drop qO.1).length, d6] ++ ((bs.drop qi.1).length :: dv :: mi.nats), (a' :: m0.adrs) ++ (l1 :: m1.adrs) ++ (l2 :: m2.adrs) ++ (l3 :: m3.adrs) ++ (l4 :: m4.adrs) ++ (l5 :: m5.adrs) ++ [l6] ++ (lv :: mi.adrs)⟩) (by kernel_rfl) ?_
  by_cases hlt : i < nV
  · refine br_T (decide ((i : Int) < (nV : Int))) (by kernel_rfl) (decide_eq_true (by omega)) ?_
    obtain ⟨p1, ep1⟩ : ∃ x, x = stC big bs qi := ⟨_, rfl⟩
    obtain ⟨p2, ep2⟩ : ∃ x, x = stC big bs p1 := ⟨_, rfl⟩
    obtain ⟨p3, ep3⟩ : ∃ x, x = stC big bs p2 := ⟨_, rfl⟩
    obtain ⟨p4, ep4⟩ : ∃ x, x = rdS bs p3 := ⟨_, rfl⟩
    obtain ⟨y1, ey1⟩ : ∃ x, x = (vaC big bs qi : Int) := ⟨_, rfl⟩
    obtain ⟨y2, ey2⟩ : ∃ x, x = (vaC big bs p1 : Int) := ⟨_, rfl⟩
    obtain ⟨y3, ey3⟩ : ∃ x, x = (vaC big bs p2 : Int) := ⟨_, rfl⟩
    obtain ⟨y4, ey4⟩ : ∃ x, x = rdV bs p3 := ⟨_, rfl⟩
    refine node_qn7 (q := qi) H hAv ep1.symm ey1.symm (by intros; kernel_rfl) (by intros; kernel_rfl) (by kernel_rfl) (by kernel_rfl) (by intros; kernel_rfl) ?_
    intro z0 c0 hz0
    refine node_qn7 (q := p1) H hz0 ep2.symm ey2.symm (by intros; kernel_rfl) (by intros; kernel_rfl) (by kernel_rfl) (by kernel_rfl) (by intros; kernel_rfl) ?_
    intro z1 c1 hz1
    refine node_qn7 (q := p2) H hz1 ep3.symm ey3.symm (by intros; kernel_rfl) (by intros; kernel_rfl) (by kernel_rfl) (by kernel_rfl) (by intros; kernel_rfl) ?_
    intro z2 c2 hz2
    refine node_qtk (q := p3) H hz2 ep4.symm ey4.symm (by intros; kernel_rfl) (by intros; kernel_rfl) (by kernel_rfl) (by kernel_rfl) (by intros; kernel_rfl) ?_
    intro z3 c3 pv hz3 hvv fq
    have hqn : p4 = itN (vtS bs) (i + 1) qO := by rw [itN_succ, ← eqi, vtS_eq, ← ep1, ← ep2, ← ep3, ← ep4]
    obtain ⟨z, ez⟩ : ∃ z : Vo Pv, z = ⟨y1, y2, y3, pv⟩ := ⟨_, rfl⟩
    have hxs' : vlsOf (xs ++ [z]) = voN bs (i + 1) qO := by
      rw [voN_step, ← hxs, ← eqi, vtV_eq, ← ep1, ← ep2, ← ep3, ← ey1, ← ey2, ← ey3, ← ey4]
      unfold vlsOf
      rw [List.map_append, ez]
      show _ ++ [(⟨y1, y2, y3, pv.v⟩ : Vo Vl)] = _
      rw [hvv]
    refine holds_eq (HX.and_right_comm _ _ _) ?_
    have epc : (P.and (voH xs)).and pv.hx = P.and (voH (xs ++ [z])) := by rw [voH_snoc, ez, HX.and_assoc]
    refine holds_eq (congrArg (fun y => y.and (vrow av cv xs)) epc) ?_
    have fz : ∀ j, z.v.hx.F j → w.heap.size ≤ j ∧ ¬ ((P.and (voH xs)).and (vrow av cv xs)).F j := fun j hj => by rw [ez] at hj; exact fq j hj
    have ownv' : OwnR w P (voH (xs ++ [z])) := fun j hj => by
      rw [voH_snoc] at hj
      rcases hj with hj | hj
      · exact ownv j hj
      · exact ⟨(fz j hj).1, fun y => (fz j hj).2 (.inl (.inl y))⟩
    have hdis : ∀ j, cv ≠ 0 → abk av = some j → ¬ (P.and (voH (xs ++ [z]))).F j := fun j q1 q2 y => by
      rcases y with y | y
      · exact (ownr j ⟨q1, q2⟩).2 (.inl y)
      · rw [voH_snoc] at y
        rcases y with y | y
        · exact (ownr j ⟨q1, q2⟩).2 (.inr y)
        · exact (fz j y).2 (.inr ⟨q1, q2⟩)
    have hwk : IntKind.i64.wrap ((i : Int) + 1) = ((i + 1 : Nat) : Int) := by rw [wrap_i64 (by omega)]; omega
    obtain ⟨g1, g2, g3⟩ := hmi
    refine node_pushs (e := 59) (sz := 6) rfl Try.underlying28 info_vote rfl (by decide) av xs.length cv (vocs xs) (voC z) 5 (fun ids => Eq.trans (b := .slice mi.av mi.vs.length mi.cv) (by kernel_rfl) (by rw [g1, g2, g3])) (by intros; kernel_rfl) rfl (fun ids => by rw [ez]; kernel_rfl) rfl (voC_one z) hdis (fun j q1 q2 => .inl (ownr j ⟨q1, q2⟩).1) (by unfold maxLen; omega) (by omega) (by intros; kernel_rfl) (by kernel_rfl) (by kernel_rfl) (by intros; kernel_rfl) ?_
    intro b' d' hc' hr' hor'
    have erow : HX.rw 6 59 b' (xs.length + 1) d' (vocs xs ++ voC z) = vrow b' d' (xs ++ [z]) := by unfold vrow; rw [vocs_snoc, List.length_append]; rfl
    refine holds_eq (congrArg _ erow) ?_
    refine again_V ⟨((i + 1 : Nat) : Int) :: p4.2 :: ({ mi with av := b', cv := d', vs := xs ++ [z] } : Ms).ints, [], [], (bs.drop p4.1).length :: c3 :: ({ mi with av := b', cv := d', vs := xs ++ [z] } : Ms).nats, z3 :: ({ mi with av := b', cv := d', vs := xs ++ [z] } : Ms).adrs⟩ rfl (fun ids => Eq.trans (b := ⟨IntKind.i64.wrap ((i : Int) + 1) :: p4.2 :: mi.ints, [], [], (bs.drop p4.1).length :: c3 :: [mi.p.v.cs.length, mi.p.c1, mi.p.v.ns.length, mi.p.c2, xs.length + 1, d', mi.d.length, mi.cd], z3 :: [mi.p.a1, mi.p.a2, b', mi.ad]⟩) (by kernel_rfl) (by rw [hwk, ← (show (xs ++ [z]).length = xs.length + 1 by rw [List.length_append]; rfl)]; rfl)) _ (fun w2 ids hf => ⟨hf.x, hf.sep⟩) ⟨⟨i + 1, z3, c3, b', d', xs ++ [z], hlt, by rw [← hqn]; exact hz3, hxs', ownv', fun j hj => ⟨?_, hr' j hj.2⟩, by rw [← hqn, emi], rfl⟩, ?_⟩
    · rcases hor' with ⟨r1, r2⟩ | ⟨g, r1, r2, _⟩
      · exact (ownr j ⟨r1, by rw [← r2]; exact hj.2⟩).1
      · have := hj.2
        rw [r1] at this; cases this; exact r2
    · show nV - (((i + 1 : Nat) : Int)).toNat < nV - ((i : Int)).toNat
      omega
  refine br_F (decide ((i : Int) < (nV : Int))) (by kernel_rfl) (decide_eq_false (by omega)) ?_
  have hin : i = nV := by omega
  have hqi : qi = q6 u bs q := by rw [eqi, hin, ← hsO, eq5, eq4, eq3, eq2, eq1]; rfl
  have hxs6 : vlsOf xs = vO u bs (sV u bs q4) := by rw [hxs, hin, ← hvO, eq5]
  obtain ⟨G, eG⟩ : ∃ x, x = (P.and (voH xs)).and (vrow av cv xs) := ⟨_, rfl⟩
  rw [← eG]
  obtain ⟨q7, eq7⟩ : ∃ x, x = sC u bs qi := ⟨_, rfl⟩
  obtain ⟨m7, em7⟩ : ∃ x, x = gC u bs qi mi := ⟨_, rfl⟩
  refine ⟨RjI a bs G q7 m7, ?_, ?_⟩
  · skip
    refine node_P ⟨[], [ub u 64], [], [], []⟩ #[.string s, .int .u8 99] (.bool (ub u 64)) (by intros; kernel_rfl) (by intros; kernel_rfl) (by kernel_rfl) (by kernel_rfl) (by kernel_rfl) oneNil (fun ids w2 hp hf => by have := has_any s 99 hsl w2; rw [show hasB s 99 = ub u 64 by rw [es, eu]; exact has_c k] at this; exact this) ?_
    by_cases h : ub u 64 = true
    · refine br_T (ub u 64) (by kernel_rfl) h ?_
      refine node_q (bs := bs) (a := a) (p' := tcS bs qi) (V := fun v => .tuple #[v, .agg (tcC bs qi).cells.toArray]) #[qR bs lv dv qi] (fun a2 c2 => ⟨(tcS bs qi).2 :: (tcC bs qi).is, [], [], [(bs.drop (tcS bs qi).1).length, c2], [a2]⟩) (by intros; kernel_rfl) (by kernel_rfl) (by kernel_rfl) (by intros; kernel_rfl) (fun _ _ => oneNil) (by intros; kernel_rfl) (fun ids w2 hp hf => qtakecmd (H.keep (facts_old (fun _ q => q) hf)) hAv) ?_
      intro z0 y0 hz0
      have g1 : q7 = (tcS bs qi) := by rw [eq7]; exact opt_t h
      have g2 : m7 = ({ mi with c := tcC bs qi } : Ms) := by rw [em7]; exact opt_t h
      exact again_V (rvV bs z0 y0 ((tcS bs qi)) ({ mi with c := tcC bs qi } : Ms)) rfl (by intros; kernel_rfl) _ (fun w2 ids hf => ⟨hf.x, hf.sep⟩) ⟨z0, y0, by rw [g1]; exact hz0, by rw [g1, g2], rfl⟩
    · refine br_F (ub u 64) (by kernel_rfl) (by simpa using h) ?_
      have g1 : q7 = qi := by rw [eq7]; exact opt_n h
      have g2 : m7 = mi := by rw [em7]; exact opt_n h
      exact again_V (rvV bs lv dv qi mi) rfl (by intros; kernel_rfl) _ (fun w2 ids hf => ⟨hf.x, hf.sep⟩) ⟨lv, dv, by rw [g1]; exact hAv, by rw [g1, g2], rfl⟩
  rintro vs hx' hcnt7 ⟨l7, d7, hA7, rfl, rfl⟩
  refine holds_env (ρ' := ⟨(q.2 :: m0.ints) ++ (q1.2 :: m1.ints) ++ (q2.2 :: m2.ints) ++ (q3.2 :: m3.ints) ++ (q4.2 :: m4.ints) ++ (q5.2 :: m5.ints) ++ [(nV : Int), qO.2] ++ ((i : Int) :: qi.2 :: mi.ints) ++ (q7.2 :: m7.ints), [], [.string s], ((bs.drop q.1).length :: c' :: m0.nats) ++ ((bs.drop q1.1).length :: d1 :: m1.nats) ++ ((bs.drop q2.1).length :: d2 :: m2.nats) ++ ((bs.drop q3.1).length :: d3 :: m3.nats) ++ ((bs.drop q4.1).length :: d4 :: m4.nats) ++ ((bs.drop q5.1).length :: d5 :: m5.nats) ++ [(bs.drop qO.1).length, d6] ++ ((bs.drop qi.1).length :: dv :: mi.nats) ++ ((bs.drop q7.1).length :: d7 :: m7.nats), (a' :: m0.adrs) ++ (l1 :: m1.adrs) ++ (l2 :: m2.adrs) ++ (l3 :: m3.adrs) ++ (l4 :: m4.adrs) ++ (l5 :: m5.adrs) ++ [l6] ++ (lv :: mi.adrs) ++ (l7 :: m7.adrs)⟩) (by kernel_rfl) ?_
  obtain ⟨q8', eq8⟩ : ∃ x, x = sR u bs q7 := ⟨_, rfl⟩
  obtain ⟨m8', em8⟩ : ∃ x, x = gR u bs q7 m7 := ⟨_, rfl⟩
  refine ⟨RjI a bs G q8' m8', ?_, ?_⟩
  · skip
    refine node_P ⟨[], [ub u 128], [], [], []⟩ #[.string s, .int .u8 114] (.bool (ub u 128)) (by intros; kernel_rfl) (by intros; kernel_rfl) (by kernel_rfl) (by kernel_rfl) (by kernel_rfl) oneNil (fun ids w2 hp hf => by have := has_any s 114 hsl w2; rw [show hasB s 114 = ub u 128 by rw [es, eu]; exact has_r k] at this; exact this) ?_
    by_cases h : ub u 128 = true
    case' neg =>
      refine br_F (ub u 128) (by kernel_rfl) (by simpa using h) ?_
      have g1 : q8' = q7 := by rw [eq8]; exact opt_n h
      have g2 : m8' = m7 := by rw [em8]; exact opt_n h
      exact again_V (rvV bs l7 d7 q7 m7) rfl (by intros; kernel_rfl) _ (fun w2 ids hf => ⟨hf.x, hf.sep⟩) ⟨l7, d7, by rw [g1]; exact hA7, by rw [g1, g2], rfl⟩
    refine br_T (ub u 128) (by kernel_rfl) h ?_
    refine loop_i (Rn3I w a bs G q7) (fun vs => 3 - vs.n.headD 0) (fun ids w2 hp hf => ⟨G.and (nrow (some ⟨idAt ids 4, 0, none⟩) 0 0 []), ⟨⟨hf.x, HX.rw_nil _ _ _ _⟩, fun b hb => hb.elim (fun h => hf.sep b h) (fun h => absurd rfl h.1)⟩, 0, some ⟨idAt ids 4, 0, none⟩, 0, l7, d7, Nat.zero_le _, (fun j q => absurd rfl q), (fun q => absurd rfl q), (fun q => absurd rfl q), hA7, by kernel_rfl, rfl⟩) ?_
    rintro vs hx3 hcnt9 ⟨j, an, c, ln, dn, hj, hfr, hsm, hkc, hAk, rfl, rfl⟩
    by_cases hltj : j < 3
    · refine br_T (decide ((j : Int) < 3)) (by kernel_rfl) (decide_eq_true (by omega)) ?_
      obtain ⟨pk, epk⟩ : ∃ x, x = itN (stN bs) j q7 := ⟨_, rfl⟩
      obtain ⟨pn, epn⟩ : ∃ x, x = itN (stN bs) (j + 1) q7 := ⟨_, rfl⟩
      have hpn : stN bs pk = pn := by rw [epn, epk]; rfl
      have hns := vnN_step bs j q7
      obtain ⟨ns, ens⟩ : ∃ x, x = vnN bs j q7 := ⟨_, rfl⟩
      rw [← epk, ← ens] at hns
      rw [← epk, ← ens]
      rw [← epk] at hAk
      have hu : unN bs pk < 2 ^ 64 := readN_u64 (l := bs.drop pk.1) (fun b q => H.byt b (List.mem_of_mem_drop q)) pk.2
      obtain ⟨uu, euu⟩ : ∃ x, x = unN bs pk := ⟨_, rfl⟩
      rw [← euu] at hu
      refine node_q (bs := bs) (a := a) (p' := pn) (V := fun v => .tuple #[v, .int .u64 (uu : Int)]) #[qR bs ln dn pk] (fun a2 c2 => ⟨[pn.2, (uu : Int)], [], [], [(bs.drop pn.1).length, c2], [a2]⟩) (by intros; kernel_rfl) (by kernel_rfl) (by kernel_rfl) (by intros; kernel_rfl) (fun _ _ => oneNil) (by intros; kernel_rfl) (fun ids w2 hp hf => by rw [euu, ← hpn]; exact qnumP (H.keep (facts_old (fun _ q => q) hf)) hAk) ?_
      intro a3 c3 hA3
      refine node_P ⟨[unfoldN uu], [], [], [], []⟩ #[.int .u64 (uu : Int)] (.int .i64 (unfoldN uu)) (by intros; kernel_rfl) (by intros; kernel_rfl) (by kernel_rfl) (by kernel_rfl) (by kernel_rfl) oneNil (fun ids w2 hp hf => runfold_any hu w2) ?_
      refine node_pushs (sz := 1) (vs := [.int .i64 (unfoldN uu)]) rfl Try.underlying25 info_int1 rfl (by decide) an j c (ns.map (Value.int .i64)) 6 (by intros; kernel_rfl) (by intros; kernel_rfl) rfl (by intros; kernel_rfl) rfl (by simp [Value.oneCell']) (fun b h1 h2 q => (hfr b h1 h2).2 q) (fun b h1 h2 => .inl (hfr b h1 h2).1) (by unfold maxLen; omega) (by omega) (by intros; kernel_rfl) (by kernel_rfl) (by kernel_rfl) (by intros; kernel_rfl) ?_
      intro b1 d1 hd1 hf1 hor1
      have hv : vaN bs pk = unfoldN uu := by rw [euu]; rfl
      rw [ncells_snoc, ← hv, ← hns]
      refine again_V ⟨[pn.2], [], [], [j + 1, d1, (bs.drop pn.1).length, c3], [b1, a3]⟩ rfl (by intros; kernel_rfl) _ (fun w2 ids hf => ⟨hf.x, hf.sep⟩) ⟨⟨j + 1, b1, d1, a3, c3, by omega, fun b h1 h2 => ⟨or_fresh (fun b h1 h2 => (hfr b h1 h2).1) hor1 b h2, hf1 b h2⟩, fun _ => or_some hsm hor1, fun _ => hd1, by rw [← epn]; exact hA3, by rw [← epn], rfl⟩, ?_⟩
      show 3 - (j + 1) < 3 - j
      omega
    refine br_F (decide ((j : Int) < 3)) (by kernel_rfl) (decide_eq_false (by omega)) ?_
    obtain rfl : j = 3 := by omega
    have h3 := hkc (by decide)
    have hs := hsm h3
    have hg : ∀ i : Nat, i < 3 → (vnN bs 3 q7)[i]? = some (vaN bs (itN (stN bs) i q7)) := fun i hi => by
      unfold vnN
      rw [List.getElem?_map, List.getElem?_range hi]; rfl
    have hx0 := hg 0 (by decide)
    have hx1 := hg 1 (by decide)
    have hx2 := hg 2 (by decide)
    obtain ⟨x0, ex0⟩ : ∃ x, x = vaN bs q7 := ⟨_, rfl⟩
    obtain ⟨x1, ex1⟩ : ∃ x, x = vaN bs (stN bs q7) := ⟨_, rfl⟩
    obtain ⟨x2, ex2⟩ : ∃ x, x = vaN bs (stN bs (stN bs q7)) := ⟨_, rfl⟩
    rw [show vaN bs (itN (stN bs) 0 q7) = x0 from ex0.symm] at hx0
    rw [show vaN bs (itN (stN bs) 1 q7) = x1 from ex1.symm] at hx1
    rw [show vaN bs (itN (stN bs) 2 q7) = x2 from ex2.symm] at hx2
    have hS3 : itN (stN bs) 3 q7 = stN bs (stN bs (stN bs q7)) := rfl
    rw [hS3] at hAk ⊢
    obtain ⟨ps, eps⟩ : ∃ x, x = stN bs (stN bs (stN bs q7)) := ⟨_, rfl⟩
    obtain ⟨ns, ens⟩ : ∃ x, x = vnN bs 3 q7 := ⟨_, rfl⟩
    rw [← ens] at hx0 hx1 hx2
    rw [← eps] at hAk
    rw [← ens, ← eps]
    refine need_k (an.isSome = true ∧ (0 : Int) ≤ 0 ∧ (0 : Int) < (3 : Nat)) (by kernel_rfl) ⟨hs, by decide, by decide⟩ ?_
    refine need_k (an.isSome = true ∧ (0 : Int) ≤ 1 ∧ (1 : Int) < (3 : Nat)) (by kernel_rfl) ⟨hs, by decide, by decide⟩ ?_
    refine need_k (an.isSome = true ∧ (0 : Int) ≤ 2 ∧ (2 : Int) < (3 : Nat)) (by kernel_rfl) ⟨hs, by decide, by decide⟩ ?_
    refine node_ldq ⟨[x0], [], [], [], []⟩ (fun ids w2 hp hf => nrow_ldq (i := 0) hf.x.2 hx0 _ (fun k h q => q (.inr h))) (fun ids w2 hf => envUp hf (by kernel_rfl) oneNil) ?_
    refine node_ldq ⟨[x1], [], [], [], []⟩ (fun ids w2 hp hf => nrow_ldq (i := 1) hf.x.2 hx1 _ (fun k h q => q (.inr h))) (fun ids w2 hf => envUp hf (by kernel_rfl) oneNil) ?_
    refine node_ldq ⟨[x2], [], [], [], []⟩ (fun ids w2 hp hf => nrow_ldq (i := 2) hf.x.2 hx2 _ (fun k h q => q (.inr h))) (fun ids w2 hf => envUp hf (by kernel_rfl) oneNil) ?_
    have g1 : q8' = ps := by rw [eq8, eps]; exact opt_t h
    have g2 : m8' = { m7 with rk := x0, re := x1, im := x2 } := by rw [em8, ex0, ex1, ex2]; exact opt_t h
    exact again_V (rvV bs ln dn ps { m7 with rk := x0, re := x1, im := x2 }) rfl (by intros; kernel_rfl) G (fun w2 ids hf => ⟨hf.x.1, fun j hj => hf.sep j (.inl hj)⟩) ⟨ln, dn, by rw [g1]; exact hAk, by rw [g1, g2], rfl⟩
  rintro vs hx'' hcnt8 ⟨l8, d8, hA8, rfl, rfl⟩
  refine holds_env (ρ' := ⟨(q.2 :: m0.ints) ++ (q1.2 :: m1.ints) ++ (q2.2 :: m2.ints) ++ (q3.2 :: m3.ints) ++ (q4.2 :: m4.ints) ++ (q5.2 :: m5.ints) ++ [(nV : Int), qO.2] ++ ((i : Int) :: qi.2 :: mi.ints) ++ (q7.2 :: m7.ints) ++ (q8'.2 :: m8'.ints), [], [.string s], ((bs.drop q.1).length :: c' :: m0.nats) ++ ((bs.drop q1.1).length :: d1 :: m1.nats) ++ ((bs.drop q2.1).length :: d2 :: m2.nats) ++ ((bs.drop q3.1).length :: d3 :: m3.nats) ++ ((bs.drop q4.1).length :: d4 :: m4.nats) ++ ((bs.drop q5.1).length :: d5 :: m5.nats) ++ [(bs.drop qO.1).length, d6] ++ ((bs.drop qi.1).length :: dv :: mi.nats) ++ ((bs.drop q7.1).length :: d7 :: m7.nats) ++ ((bs.drop q8'.1).length :: d8 :: m8'.nats), (a' :: m0.adrs) ++ (l1 :: m1.adrs) ++ (l2 :: m2.adrs) ++ (l3 :: m3.adrs) ++ (l4 :: m4.adrs) ++ (l5 :: m5.adrs) ++ [l6] ++ (lv :: mi.adrs) ++ (l7 :: m7.adrs) ++ (l8 :: m8'.adrs)⟩) (by kernel_rfl) ?_
  have hD8 : m8'.ad = none ∧ m8'.cd = 0 ∧ m8'.d = [] := by
    have dd : ∀ {c : Bool} {x y : Ms}, (x.ad = none ∧ x.cd = 0 ∧ x.d = []) → (y.ad = none ∧ y.cd = 0 ∧ y.d = []) → ((opt c x y).ad = none ∧ (opt c x y).cd = 0 ∧ (opt c x y).d = []) := fun {c x y} h1 h2 => by unfold opt; split <;> assumption
    have bi : mi.ad = none ∧ mi.cd = 0 ∧ mi.d = [] := by rw [emi, em5]; exact hD4
    have b7 : m7.ad = none ∧ m7.cd = 0 ∧ m7.d = [] := by rw [em7]; exact dd bi bi
    rw [em8]; exact dd b7 b7
  obtain ⟨q9', eq9⟩ : ∃ x, x = sD u bs q8' := ⟨_, rfl⟩
  obtain ⟨dD, edD⟩ : ∃ x, x = vD u bs q8' := ⟨_, rfl⟩
  refine ⟨RdI w a bs G q9' m8' dD, ?_, ?_⟩
  · skip
    refine node_P ⟨[], [ub u 256], [], [], []⟩ #[.string s, .int .u8 100] (.bool (ub u 256)) (by intros; kernel_rfl) (by intros; kernel_rfl) (by kernel_rfl) (by kernel_rfl) (by kernel_rfl) oneNil (fun ids w2 hp hf => by have := has_any s 100 hsl w2; rw [show hasB s 100 = ub u 256 by rw [es, eu]; exact has_d k] at this; exact this) ?_
    by_cases h : ub u 256 = true
    · refine br_T (ub u 256) (by kernel_rfl) h ?_
      refine node_qtx (q := q8') H hA8 (by intros; kernel_rfl) (by intros; kernel_rfl) (by kernel_rfl) (by kernel_rfl) (by intros; kernel_rfl) ?_
      intro z0 y0 ad cd hz0 hdf
      have g1 : q9' = txS 1024 bs q8' := by rw [eq9]; exact opt_t h
      have g2 : dD = txD 1024 bs q8' := by rw [edD]; exact opt_t h
      exact again_V (rvV bs z0 y0 (txS 1024 bs q8') { m8' with ad := ad, cd := cd, d := txD 1024 bs q8' }) rfl (by intros; kernel_rfl) _ (fun w2 ids hf => ⟨hf.x, hf.sep⟩) ⟨z0, y0, ad, cd, by rw [g1]; exact hz0, by rw [g2]; exact fun j hj => (hdf j hj).1, by rw [g1, g2], by rw [g2]⟩
    · refine br_F (ub u 256) (by kernel_rfl) (by simpa using h) ?_
      have g1 : q9' = q8' := by rw [eq9]; exact opt_n h
      have g2 : dD = [] := by rw [edD]; exact opt_n h
      have g3 : m8' = { m8' with ad := none, cd := 0, d := [] } := by
        obtain ⟨b1, b2, b3⟩ := hD8
        rw [← b1, ← b2, ← b3]
      exact again_V (rvV bs l8 d8 q8' m8') rfl (by intros; kernel_rfl) (G.and (HX.cl none (bcells []))) (fun w2 ids hf => ⟨⟨hf.x, fun h => absurd h (Nat.lt_irrefl 0)⟩, fun j hj => hj.elim (fun z => hf.sep j z) (fun z => absurd rfl z.1)⟩) ⟨l8, d8, none, 0, by rw [g1]; exact hA8, by rw [g2]; exact fun j hj => absurd rfl hj.1, by rw [g1, g2, ← g3], by rw [g2]⟩
  rintro vs hx4 hcnt10 ⟨l9, d9, ad, cd, hA9, hdf, rfl, rfl⟩
  have hq9 : q9' = q9 u bs q := by rw [eq9, eq8, eq7, hqi]; rfl
  have hdD : dD = vD u bs (q8 u bs q) := by rw [edD, eq8, eq7, hqi]; rfl
  obtain ⟨y, ey⟩ : ∃ x, x = ({ m8' with ad := ad, cd := cd, d := dD } : Ms) := ⟨_, rfl⟩
  have hcon : y.con = rdC u bs k f t e q := by
    rw [← rd_con u bs q k f t e pp av cv xs ad cd (by rw [hpv, ev5, eq4, eq3, eq2, eq1]; rfl) (by rw [hxs6, eq4, eq3, eq2, eq1]; rfl)]
    rw [ey, em8, em7, eq7, hqi, emi, em5, em4, em3, em2, em1, em0, hdD, eq3, eq2, eq1]
  have hyp : y.p = pp ∧ y.av = av ∧ y.vs = xs ∧ y.ad = ad ∧ y.d = dD := by
    have oo : ∀ {c : Bool} {x z : Ms}, (x.p = pp ∧ x.av = av ∧ x.vs = xs) → (z.p = pp ∧ z.av = av ∧ z.vs = xs) → ((opt c x z).p = pp ∧ (opt c x z).av = av ∧ (opt c x z).vs = xs) := fun {c x z} h1 h2 => by unfold opt; split <;> assumption
    have bi : mi.p = pp ∧ mi.av = av ∧ mi.vs = xs := by rw [emi, em5]; exact ⟨rfl, rfl, rfl⟩
    have b7 : m7.p = pp ∧ m7.av = av ∧ m7.vs = xs := by rw [em7]; exact oo bi bi
    have b8 : m8'.p = pp ∧ m8'.av = av ∧ m8'.vs = xs := by rw [em8]; exact oo b7 b7
    rw [ey]; exact ⟨b8.1, b8.2.1, b8.2.2, rfl, rfl⟩
  have hyX : y.X = (pp.hx.and (voX av xs)).and (HX.cl ad (bcells dD)) := by unfold Ms.X; rw [hyp.1, hyp.2.1, hyp.2.2.1, hyp.2.2.2.1, hyp.2.2.2.2]
  intro ids w2 hp hf
  rw [← ey] at hf
  have hG := hf.x.1
  have hFS := hf.sep
  rw [eG] at hG
  rw [eP] at hG
  refine ⟨l9, d9, y, by rw [← hq9, ey]; kernel_rfl, by rw [← hq9]; exact hA9, hcon, by rw [hyX]; exact ⟨⟨hG.1.1.2, rw_cells hG.2, hG.1.2⟩, hf.x.2⟩, fun j hj => ?_, hf.chg.below⟩
  rw [hyX] at hj
  have sub : ∀ j, (pp.hx.and (voX av xs)).F j → G.F j := fun j hj => by
    rw [eG, eP]
    rcases hj with hj | hj | hj
    · exact .inl (.inl (.inr hj))
    · exact .inr ((rw_cl hG.2).2 j hj)
    · exact .inl (.inr hj)
  rcases hj with hj | hj
  · refine ⟨?_, (hf.sep j (.inl (sub j hj))).1⟩
    rcases hj with hj | hj | hj
    · exact hpf j hj
    · exact (ownr j ((rw_cl hG.2).2 j hj)).1
    · exact (ownv j hj).1
  · exact ⟨hdf j hj, (hf.sep j (.inr hj)).1⟩
end Go.Proofs.Ytadgaefmoobcoaa

namespace Go.Proofs.Ytadgaefmoobcoaa
open Go.ChangeShapes Go.WideShapes Go.ChangeAt Go.RowKit Go.Syn Go.Eng
set_option linter.unusedVariables false
set_option linter.unusedSimpArgs false
set_option maxRecDepth 100000
def Keeps (f : Nat × Int → Nat × Int) : Prop := ∀ p, p.2 ≠ 0 → (f p).2 = p.2
theorem Keeps.comp {f g : Nat × Int → Nat × Int} (h1 : Keeps f) (h2 : Keeps g) : Keeps fun p => f (g p) := fun p hp => by
  have := h2 p hp
  rw [h1 (g p) (by rw [this]; exact hp), this]
theorem Keeps.it {f : Nat × Int → Nat × Int} (h : Keeps f) : ∀ n, Keeps fun p => itN f n p
  | 0 => fun _ _ => rfl
  | n + 1 => fun p hp => by
    have := Keeps.it h n p hp
    show (f (itN f n p)).2 = p.2
    rw [h _ (by rw [this]; exact hp), this]
theorem Keeps.opt {f : Nat × Int → Nat × Int} (h : Keeps f) (c : Bool) : Keeps fun p => Go.Proofs.Ytadgaefmoobcoaa.opt c (f p) p := fun p hp => by
  unfold Go.Proofs.Ytadgaefmoobcoaa.opt
  split
  · exact h p hp
  · rfl
theorem keep_N (bs : List Int) : Keeps (stN bs) := fun p hp => by
  unfold stN readN
  simp [hp]
theorem keep_C (most : Int) (bs : List Int) : Keeps (stC most bs) := fun p hp => by
  unfold stC readC readN
  simp [hp]
theorem keep_tc (bs : List Int) : Keeps (tcS bs) := (keep_N bs).it 8
theorem keep_rd (bs : List Int) : Keeps (rdS bs) := fun p hp => by
  have h1 := keep_C 2 bs p hp
  have h2 := keep_C 8 bs (stC 2 bs p) (by rw [h1]; exact hp)
  unfold rdS
  have h3 : (rdB bs p).2 = p.2 := by
    unfold rdB
    have h4 : (rdA bs p).2 = p.2 := by unfold rdA; rw [h2, h1]
    rw [(keep_tc bs).it _ _ (by rw [h4]; exact hp), h4]
  have h5 := keep_C 7 bs (rdB bs p) (by rw [h3]; exact hp)
  rw [(keep_C 9 bs).it _ _ (by rw [h5, h3]; exact hp), h5, h3]
theorem keep_tx (bs : List Int) : Keeps (txS 1024 bs) := fun p hp => by
  have h1 := keep_C 1024 bs p hp
  have hb : txB 1024 bs p = false := by unfold txB; rw [h1]; simp [hp]
  unfold txS
  rw [hb, if_neg (by decide), if_neg (by rw [h1]; exact hp), h1]
theorem keep_9 (u : Int) (bs : List Int) : Keeps (q9 u bs) := fun p hp => by
  have k1 : Keeps (sB u bs) := ((keep_C big bs).comp (keep_C big bs)).opt (ub u 1)
  have kn : ∀ b, Keeps (sN b u bs) := fun b => (keep_C big bs).opt (ub u b)
  have kv : Keeps (sV u bs) := (keep_rd bs).opt (ub u 16)
  have kt : Keeps (vtS bs) := (keep_rd bs).comp ((keep_C big bs).comp ((keep_C big bs).comp (keep_C big bs)))
  have ko : Keeps (sO u bs) := fun p hp => by
    unfold sO Go.Proofs.Ytadgaefmoobcoaa.opt
    split
    · have h1 := keep_C 64 bs p hp
      rw [kt.it _ _ (by rw [h1]; exact hp), h1]
    · rfl
  have kc : Keeps (sC u bs) := (keep_tc bs).opt (ub u 64)
  have kr : Keeps (sR u bs) := ((keep_N bs).comp ((keep_N bs).comp (keep_N bs))).opt (ub u 128)
  have kd : Keeps (sD u bs) := (keep_tx bs).opt (ub u 256)
  exact (kd.comp (kr.comp (kc.comp (ko.comp (kv.comp ((kn 8).comp ((kn 4).comp ((kn 2).comp k1)))))))) p hp
theorem hq_s (bs : List Int) (n : Nat) : hq bs (n + 1) = stC big bs (hq bs n) := rfl
def RdX (w : World) (c : Mc) (err : Int) (e : Ending) (w' : World) : Prop := ∃ m : Ms, e = .returned (.tuple #[m.val, .int .i64 err]) ∧ m.con = c ∧ m.X.X w' ∧ (∀ k, m.X.F k → w.heap.size ≤ k ∧ k < w'.heap.size) ∧ Below w.heap.size w w'
theorem mz_X0 (w : World) : mz.X.X w := R_X (mz_R w)
theorem mz_XF {k : Nat} (h : mz.X.F k) : False := by
  rcases h with (h | h) | h
  · exact h.elim (fun q => q.1 rfl) fun q => q.1 rfl
  · rcases h with h | ⟨y, hy, _⟩
    · exact h.1 rfl
    · cases hy
  · exact h.1 rfl
set_option maxHeartbeats 8000000 in
theorem qdec7 (a : Option Addr) (cap : Nat) (bs : List Int) (w : World) (H : Qb w a bs) (hcap : bs.length ≤ cap) : Calls Try.prog 21 #[.slice a bs.length cap] w (RdX w (decC7 bs) (decE7 bs)) := by
  refine calls_at (tab_ok _) Try.func21 rfl tQDec7 (ρ := ⟨[], [], [], [bs.length, cap], [a]⟩) (ids := []) (hx := HX.nil) rfl (Facts.initP rfl oneNil) ?_
  have hb := H.byt
  have bad : ∀ {m2 : Mem} {ρ : Env} {pre : List Nat} {hx : HX} {S : Stack} {v : SV} (e : Int), e ≠ 0 → decE7 bs = e → (∀ ids, v.den ρ ids = .tuple #[mz.val, .int .i64 e]) → (Tree.done v m2).holds ⟨Try.prog, w, fun _ => False, RdX w (decC7 bs) (decE7 bs)⟩ ρ pre hx S := fun {m2 ρ pre hx S v} e he h hv ids w2 hp hf => by
    refine ⟨mz, by rw [hv, h], ?_, mz_X0 w2, fun k hk => (mz_XF hk).elim, hf.chg.below⟩
    unfold decC7; rw [if_neg (by rw [h]; exact he)]
  by_cases hlen : bs.length > 65536
  · exact br_T (decide ((bs.length : Int) > 65536)) (by kernel_rfl) (decide_eq_true (by omega)) (bad 12 (by decide) (by unfold decE7; rw [if_pos hlen]) (by intros; kernel_rfl))
  refine br_F (decide ((bs.length : Int) > 65536)) (by kernel_rfl) (decide_eq_false (by omega)) ?_
  obtain ⟨p1, ep1⟩ : ∃ x, x = hq bs 1 := ⟨_, rfl⟩
  obtain ⟨p2, ep2⟩ : ∃ x, x = hq bs 2 := ⟨_, rfl⟩
  obtain ⟨p3, ep3⟩ : ∃ x, x = hq bs 3 := ⟨_, rfl⟩
  obtain ⟨p4, ep4⟩ : ∃ x, x = hq bs 4 := ⟨_, rfl⟩
  obtain ⟨k, ek⟩ : ∃ x, x = (vaC big bs (hq bs 0) : Int) := ⟨_, rfl⟩
  obtain ⟨f, ef⟩ : ∃ x, x = (vaC big bs (hq bs 1) : Int) := ⟨_, rfl⟩
  obtain ⟨t, et⟩ : ∃ x, x = (vaC big bs (hq bs 2) : Int) := ⟨_, rfl⟩
  obtain ⟨e, ee⟩ : ∃ x, x = (vaC big bs (hq bs 3) : Int) := ⟨_, rfl⟩
  refine node_qn7 (q := (0, 0)) (al := a) (cl := cap) (p' := p1) (x := k) H (AtP.start hcap 0) (by rw [ep1, hq_s]; rfl) (by rw [ek]; rfl) (by intros; kernel_rfl) (by intros; kernel_rfl) (by kernel_rfl) (by kernel_rfl) (by intros; kernel_rfl) ?_
  intro l1 d1 h1
  refine node_qn7 (q := p1) (p' := p2) (x := f) H h1 (by rw [ep2, hq_s, ep1]) (by rw [ef, ep1]) (by intros; kernel_rfl) (by intros; kernel_rfl) (by kernel_rfl) (by kernel_rfl) (by intros; kernel_rfl) ?_
  intro l2 d2 h2
  refine node_qn7 (q := p2) (p' := p3) (x := t) H h2 (by rw [ep3, hq_s, ep2]) (by rw [et, ep2]) (by intros; kernel_rfl) (by intros; kernel_rfl) (by kernel_rfl) (by kernel_rfl) (by intros; kernel_rfl) ?_
  intro l3 d3 h3
  refine node_qn7 (q := p3) (p' := p4) (x := e) H h3 (by rw [ep4, hq_s, ep3]) (by rw [ee, ep3]) (by intros; kernel_rfl) (by intros; kernel_rfl) (by kernel_rfl) (by kernel_rfl) (by intros; kernel_rfl) ?_
  intro l4 d4 h4
  have hkk : hk bs = k := by rw [ek]; rfl
  obtain ⟨u, eu⟩ : ∃ x, x = useI k := ⟨_, rfl⟩
  obtain ⟨s, es⟩ : ∃ x, x = usesS k := ⟨_, rfl⟩
  obtain ⟨q, eq⟩ : ∃ x, x = q9 u bs p4 := ⟨_, rfl⟩
  obtain ⟨dn, edn⟩ : ∃ x, x = doneB bs.length q.1 q.2 := ⟨_, rfl⟩
  have hdn : doneE bs = dn := by unfold doneE; rw [hkk, ← eu, ← ep4, ← eq, ← edn]
  have hrd : rdMc bs = rdC u bs k f t e p4 := by unfold rdMc; rw [hkk, ← eu, ← ef, ← et, ← ee, ← ep4]
  have hE : decE7 bs = if u = 0 ∧ p4.2 = 0 then 26 else if dn ≠ 0 then dn else chkC (rdMc bs) := by
    unfold decE7
    rw [if_neg hlen, hkk, ← eu, ← ep4, hdn]
  by_cases hz : p4.2 = 0
  case' neg =>
    refine br_T (p4.2 != 0) (by kernel_rfl) (by simpa using hz) ?_
    have hq2 : q.2 = p4.2 := by rw [eq]; exact keep_9 u bs p4 hz
    have hdq : dn = p4.2 := by rw [edn]; unfold doneB; rw [hq2, if_neg (fun z => hz z.1)]
    exact bad p4.2 hz (by rw [hE, if_neg (fun z => hz z.2), if_pos (by rw [hdq]; exact hz), hdq]) (by intros; kernel_rfl)
  refine br_F (p4.2 != 0) (by kernel_rfl) (by simpa using hz) ?_
  refine node_P ⟨[], [], [.string s], [], []⟩ #[.int .i64 k] (.string s) (by intros; kernel_rfl) (by intros; kernel_rfl) (by kernel_rfl) (by kernel_rfl) (by kernel_rfl) (fun v hv => by simp only [List.mem_singleton] at hv; subst hv; rfl) (fun ids w2 hp hf => by rw [es]; exact ruses_any k w2) ?_
  have hnil : (s.toList == (⟨#[]⟩ : ByteArray).toList) = (u == 0) := by rw [es, eu]; exact uses_eq k
  refine node_bin (x := .string s) (y := .string ⟨#[]⟩) (V := .bool (s.toList == (⟨#[]⟩ : ByteArray).toList)) ⟨[], [s.toList == (⟨#[]⟩ : ByteArray).toList], [], [], []⟩ (by intros; kernel_rfl) (by intros; kernel_rfl) (fun w => by simp [eqGuard]) (fun w => by simp [binOp, Op.stringOp]) (by intros; kernel_rfl) (by kernel_rfl) (by kernel_rfl) (by kernel_rfl) oneNil ?_
  rw [hnil]
  by_cases hu : u = 0
  · exact br_T (u == 0) (by kernel_rfl) (by simpa using hu) (bad 26 (by decide) (by rw [hE, if_pos ⟨hu, hz⟩]) (by intros; kernel_rfl))
  refine br_F (u == 0) (by kernel_rfl) (by simpa using hu) ?_
  rw [if_neg (fun z => hu z.1)] at hE
  refine node_out (fun _ => #[qR bs l4 d4 p4, ({ mz with k := k, f := f, t := t, e := e } : Ms).val]) (fun vs h' => ∃ al cl, ∃ y : Ms, AtP bs a al cl q ∧ y.con = rdMc bs ∧ vs = rvV bs al cl q y ∧ h' = y.X) (by intros; kernel_rfl) (fun ids w2 hp hf => ?_) (by kernel_rfl) (by kernel_rfl) ?_ ?_
  · refine (qrest (H.keep (facts_old (fun _ q => q) hf)) h4 k f t e).mono ?_
    rintro en w' ⟨al, cl, y, rfl, g1, g2, g3, g4, g5⟩
    rw [← eu] at g1 g2
    rw [← eq] at g1
    exact ⟨_, _, ⟨al, cl, y, g1, by rw [g2, hrd], rfl, rfl⟩, by rw [← eu, ← eq]; kernel_rfl, g3, g4, g5⟩
  · rintro vs h' ⟨al, cl, y, _, _, rfl, rfl⟩; exact ⟨by kernel_rfl, oneNil⟩
  rintro vs h' ⟨al, cl, y, hA, hcon, rfl, rfl⟩ hfr
  have hwf : MsWf y := McWf.ms (by rw [hcon]; exact rdMc_wf hb H.len)
  refine node_P ⟨[dn], [], [], [(bs.drop q.1).length, cl], [al]⟩ #[qR bs al cl q] (qR bs al cl (q.1, dn)) (by intros; kernel_rfl) (by intros; kernel_rfl) (by kernel_rfl) (by kernel_rfl) (by kernel_rfl) oneNil (fun ids w2 hp hf => by rw [edn]; exact qdone hA) ?_
  by_cases hd0 : dn = 0
  case' neg => exact br_T (dn != 0) (by kernel_rfl) (by simpa using hd0) (bad dn hd0 (by rw [hE, if_pos hd0]) (by intros; kernel_rfl))
  refine br_F (dn != 0) (by kernel_rfl) (by simpa using hd0) ?_
  rw [if_neg (fun z => z hd0), ← hcon, ← chkC_is] at hE
  obtain ⟨ce, ece⟩ : ∃ x, x = chkM y := ⟨_, rfl⟩
  rw [← ece] at hE
  refine node_PI ⟨[ce], [], [], [], []⟩ (fun _ => #[y.val]) (.int .i64 ce) (by intros; kernel_rfl) (by intros; kernel_rfl) (by kernel_rfl) (by kernel_rfl) (by kernel_rfl) oneNil (fun ids w2 hp hf => by rw [ece]; exact rmchk_any y w2 hf.x.2 hwf.fit (fun x hx => (hwf.vs x hx).s)) ?_
  by_cases hc0 : ce = 0
  case' neg => exact br_T (ce != 0) (by kernel_rfl) (by simpa using hc0) (bad ce hc0 hE (by intros; kernel_rfl))
  refine br_F (ce != 0) (by kernel_rfl) (by simpa using hc0) ?_
  have h0 : decE7 bs = 0 := by rw [hE]; exact hc0
  intro ids w2 hp hf
  exact ⟨y, by rw [h0]; kernel_rfl, by unfold decC7; rw [if_pos h0]; exact hcon, hf.x.2, fun k hk => ⟨(hfr k hk).1, (hf.sep k (.inr hk)).1⟩, hf.chg.below⟩
section
variable {C : Cfg} {ρ : Env} {pre : List Nat} {hx : HX} {L : Stack} {m m' : Mem} {args : List SV} {r : SV} {t : Tree}
theorem node_qdec (hP : C.P = Try.prog) (a : Option Addr) (cap : Nat) (bs : List Int) (hcap : bs.length ≤ cap) (e : Int) (he : decE7 bs = e) (hat : ∀ ids w, pre <+: ids → Facts C m ρ ids hx w → Qb w a bs) (hargs : ∀ ids, (args.map (SV.den ρ ids)).toArray = #[.slice a bs.length cap]) (hr : ∀ (y : Ms) ids, r.den (ρ.add (y.vals1 e)) ids = .tuple #[y.val, .int .i64 e]) (hhp : m'.hp = m.hp) (hft : hpFits m.c m.hp.length m.hp = true) (hc : ∀ y : Ms, (ρ.add (y.vals1 e)).cnt = m'.c)
    (h : ∀ y : Ms, y.con = decC7 bs → (∀ k, y.X.F k → C.W.heap.size ≤ k ∧ ¬ hx.F k) → t.holds C (ρ.add (y.vals1 e)) pre (hx.and y.X) L) : (Tree.call 21 args m r m' t).holds C ρ pre hx L := by
  subst he
  refine node_out (fun ids => #[.slice a bs.length cap]) (fun vs h' => ∃ y : Ms, y.con = decC7 bs ∧ vs = y.vals1 (decE7 bs) ∧ h' = y.X) hargs (fun ids w hp hf => ?_) hhp hft ?_ ?_
  · rw [hP]
    refine (qdec7 a cap bs w (hat ids w hp hf) hcap).mono ?_
    rintro e w' ⟨y, rfl, g1, g2, g3, g4⟩
    exact ⟨_, _, ⟨y, g1, rfl, rfl⟩, by rw [hr], g2, g3, g4⟩
  · rintro vs h' ⟨y, _, rfl, rfl⟩; exact ⟨hc y, oneNil⟩
  · rintro vs h' ⟨y, e, rfl, rfl⟩ hfr; exact h y e hfr
end
end Go.Proofs.Ytadgaefmoobcoaa

namespace Go.Eng
open Go.ChangeShapes Go.WideShapes Go.ChangeAt Go.RowKit Go.Syn
set_option linter.unusedVariables false
set_option linter.unusedSimpArgs false
structure Wr where
  sz : Nat
  e : Nat
  a : Option Addr
  n : Nat
  cap : Nat
  P : List Value → Prop
def Wr.hx (r : Wr) : HX := HX.obj (fun k => r.cap ≠ 0 ∧ abk r.a = some k) (fun h => ∃ xs, xs.length = r.n * r.sz ∧ r.P xs ∧ h = HX.rw r.sz r.e r.a r.n r.cap xs)
def wilds (l : List Wr) : HX := HX.all (l.map Wr.hx)
theorem Wr.of {r : Wr} {w : World} {xs : List Value} (h : (HX.rw r.sz r.e r.a r.n r.cap xs).X w) (hl : xs.length = r.n * r.sz) (hP : r.P xs) : r.hx.X w := ⟨_, ⟨xs, hl, hP, rfl⟩, h, fun k hk => hk⟩
theorem Wr.open {r : Wr} {w : World} (h : r.hx.X w) : ∃ xs, xs.length = r.n * r.sz ∧ r.P xs ∧ (HX.rw r.sz r.e r.a r.n r.cap xs).X w := by
  obtain ⟨_, ⟨xs, hl, hP, rfl⟩, hX, _⟩ := h
  exact ⟨xs, hl, hP, hX⟩
theorem wilds_get {l : List Wr} {r : Wr} {w : World} (hr : r ∈ l) (h : (wilds l).X w) : r.hx.X w := h _ (List.mem_map.2 ⟨r, hr, rfl⟩)
theorem wilds_of {l : List Wr} {w : World} (h : ∀ r ∈ l, r.hx.X w) : (wilds l).X w := fun q hq => by
  obtain ⟨r, hr, rfl⟩ := List.mem_map.1 hq
  exact h r hr
theorem wilds_F {l : List Wr} {k : Nat} (h : (wilds l).F k) : ∃ r ∈ l, r.cap ≠ 0 ∧ abk r.a = some k := by
  obtain ⟨q, hq, hk⟩ := h
  obtain ⟨r, hr, rfl⟩ := List.mem_map.1 hq
  exact ⟨r, hr, hk⟩
theorem spl_one {xs : List Value} {p : Nat} {u : Value} (h : p < xs.length) : spl xs p [u] = xs.set p u := by
  unfold spl
  rw [List.set_eq_take_append_cons_drop, if_pos h]
  simp
theorem wild_st {w w' : World} {g p e : Nat} {u : Value} {cur : List Value} (hg : w.heap[g]? = some (.cells cur.toArray e (0, 0))) (hp : p < cur.length) (hg' : w'.heap[g]? = some (.cells (spl cur p [u]).toArray e (0, 0))) (hb : ∀ k, k ≠ g → k < w.heap.size → w'.heap[k]? = w.heap[k]?)
    {r : Wr} (hP : r.e = e → ∀ xs, xs.length = r.n * r.sz → r.P xs → r.P (xs.set p u)) (h : r.hx.X w) : r.hx.X w' := by
  obtain ⟨xs, hl, hPx, hX⟩ := Wr.open h
  by_cases hc : r.cap = 0
  · rcases hX with ⟨_, h2, h3⟩ | ⟨q, _⟩
    · exact Wr.of (.inl ⟨hc, h2, h3⟩) hl hPx
    · exact absurd hc q
  · obtain ⟨g2, cur2, ea, hlt, hg2, hnc, hcm, hcl, htk⟩ := rw_open hX hc
    by_cases hgg : g2 = g
    · subst hgg
      rw [hg] at hg2
      injection hg2 with hg2
      injection hg2 with h1 h2 h3
      have h1 : cur = cur2 := by have := congrArg Array.toList h1; simpa using this
      subst h1
      have hn : r.n * r.sz ≤ cur.length := by rw [hcl]; exact Nat.mul_le_mul_right _ hnc
      have hX2 := rw_shut hc hg' hnc hcm (by rw [spl_len (by simp; omega)]; exact hcl)
      rw [← ea, h2] at hX2
      refine Wr.of hX2 (by rw [List.length_take, spl_len (by simp; omega)]; omega) ?_
      rw [spl_one hp]
      have e2 : (cur.set p u).take (r.n * r.sz) = xs.set p u := by rw [List.take_set, htk]
      rw [e2]
      exact hP h2.symm xs hl hPx
    · exact Wr.of ((HX.rw r.sz r.e r.a r.n r.cap xs).loc w w' hX fun k hk => by
        obtain ⟨_, hk⟩ := hk
        rw [ea] at hk
        have : g2 = k := by injection hk
        subst this
        exact hb _ hgg hlt) hl hPx
section
variable {C : Cfg} {ρ : Env} {pre : List Nat} {rest : HX} {L : Stack} {m m' : Mem} {ty : Nat} {ps : List (Nat × SV)} {t : Tree}
theorem node_wst {et : Nat} {xa xv : Operand} (l : List Wr) (r : Wr) (hr : r ∈ l) (i off : Nat) (u : Value) (hsize : (C.P.info? et).map (·.size) = some 1) (hxa : ∀ ids, envOf ρ ids ps xa = .pointer (some (((r.a.getD ⟨0, 0, none⟩).add (i * r.sz)).add off))) (hxv : ∀ ids, envOf ρ ids ps xv = u) (hv : u.cells = #[u]) (h1 : u.oneCell' = true)
    (hio : i * r.sz + off < r.n * r.sz) (hP : ∀ q ∈ l, q.e = r.e → ∀ xs, xs.length = q.n * q.sz → q.P xs → q.P (xs.set (i * r.sz + off) u)) (hdis : ∀ k, r.cap ≠ 0 → abk r.a = some k → ¬ rest.F k) (hM : ∀ k, r.cap ≠ 0 → abk r.a = some k → C.W.heap.size ≤ k ∨ C.M k) (hhp : m'.hp = m.hp) (hfit : hpFits m.c m.hp.length m.hp = true) (hc : ρ.cnt = m'.c)
    (h : t.holds C ρ pre (rest.and (wilds l)) L) : (Tree.gen (.store et xa xv) ty ps m none m' t).holds C ρ pre (rest.and (wilds l)) L := by
  intro ids w hp hf
  unfold GenRun
  obtain ⟨xs, hl, hPx, hrow⟩ := Wr.open (wilds_get hr hf.x.2)
  have hle := rw_le hrow
  have hn : r.n ≠ 0 := fun q => by rw [q] at hio; omega
  have hc0 : r.cap ≠ 0 := by omega
  obtain ⟨g, cur, ea, hlt, hg, hnc, hcm, hcl, htk⟩ := rw_open hrow hc0
  have hmul : r.n * r.sz ≤ r.cap * r.sz := Nat.mul_le_mul_right _ hnc
  obtain ⟨w', hrun, hg', hgr⟩ := run_store_blk (P := C.P) (o := i * r.sz + off) (vs := [u]) hg (by simp; omega) (fun q hq => by simp only [List.mem_singleton] at hq; subst hq; exact h1)
  have hadr : ((r.a.getD ⟨0, 0, none⟩).add (i * r.sz)).add off = ⟨g, i * r.sz + off, none⟩ := by
    rw [ea, Option.getD_some, Go.WideShapes.add_plain, Go.WideShapes.add_plain, Nat.zero_add]
  rw [hadr] at hxa
  have hab : abk r.a = some g := by rw [ea]; rfl
  obtain ⟨i0, hi, hi2⟩ := Option.map_eq_some_iff.1 hsize
  have hrun2 : (Instr.storeAt et (.pointer (some ⟨g, i * r.sz + off, none⟩)) u).run C.P w = .ok () w' := by
    simp [Instr.storeAt, Instr.sureAddr, storeVar, sizeOf, typeInfo, hi, hi2, hv, hrun]
  simp only [execOp, hxa, hxv, Sem.run_bind, Sem.run_pure, Result.andThen_ok, hrun2]
  have hX : (rest.and (wilds l)).X w' := ⟨rest.loc w w' hf.x.1 fun k hk => hgr.block k (hf.sep k (.inl hk)).1 (fun q => hdis g hc0 hab (by cases q; exact hk)), wilds_of fun q hq => wild_st hg (by omega) hg' (fun k hk hlt => hgr.block k hlt (fun z => hk (by cases z; rfl))) (hP q hq) (wilds_get hq hf.x.2)⟩
  refine ⟨Vals.nil, ids, rest.and (wilds l), rfl, List.prefix_refl _, hf.turn hgr (fun b hb => by cases hb; exact ⟨.inr ⟨_, List.mem_map.2 ⟨r, hr, rfl⟩, hc0, hab⟩, hM _ hc0 hab⟩) hX (fun k hk => .inl hk) hhp hfit (by rw [Env.add_nil]; exact hc) oneNil, ?_⟩
  rw [Env.add_nil]; exact holds_pre t hp h
end
end Go.Eng

namespace Go.Proofs.Ytadgaefmoobcoaa
open Go.ChangeShapes Go.WideShapes Go.ChangeAt Go.RowKit Go.Syn Go.Eng
set_option linter.unusedVariables false
set_option linter.unusedSimpArgs false
set_option maxRecDepth 100000
def crW (p : Pv) : Wr := ⟨8, 32, p.a1, p.v.cs.length, p.c1, fun _ => True⟩
def nrW (p : Pv) : Wr := ⟨1, 3, p.a2, p.v.ns.length, p.c2, fun _ => True⟩
def vrW (m : Ms) : Wr := ⟨6, 59, m.av, m.vs.length, m.cv, fun xs => ∃ ys : List (Vo Pv), xs = vocs ys ∧ ys.map Vo.v = m.vs.map Vo.v⟩
def drW (m : Ms) : Wr := ⟨1, 5, m.ad, m.d.length, m.cd, fun xs => ∃ bs, xs = bcells bs⟩
def Ms.wl (m : Ms) : List Wr := crW m.p :: nrW m.p :: vrW m :: drW m :: m.vs.flatMap fun x => [crW x.v, nrW x.v]
theorem wl_mem {m : Ms} {q : Wr} (h : q ∈ m.wl) : q = crW m.p ∨ q = nrW m.p ∨ q = vrW m ∨ q = drW m ∨ ∃ x ∈ m.vs, q = crW x.v ∨ q = nrW x.v := by
  unfold Ms.wl at h
  simp only [List.mem_cons, List.mem_flatMap, List.not_mem_nil, or_false] at h
  rcases h with h | h | h | h | ⟨x, hx, h⟩
  · exact .inl h
  · exact .inr (.inl h)
  · exact .inr (.inr (.inl h))
  · exact .inr (.inr (.inr (.inl h)))
  · exact .inr (.inr (.inr (.inr ⟨x, hx, h⟩)))
theorem wl_v {m : Ms} : vrW m ∈ m.wl := by unfold Ms.wl; simp
theorem wl_d {m : Ms} : drW m ∈ m.wl := by unfold Ms.wl; simp
theorem wl_xc {m : Ms} {x : Vo Pv} (h : x ∈ m.vs) : crW x.v ∈ m.wl := by unfold Ms.wl; simp only [List.mem_cons, List.mem_flatMap]; exact .inr (.inr (.inr (.inr ⟨x, h, .inl rfl⟩)))
theorem st_cmd {m : Ms} {p : Nat} {u : Value} : ∀ q ∈ m.wl, q.e = 32 → ∀ xs, xs.length = q.n * q.sz → q.P xs → q.P (xs.set p u) := fun q hq he xs _ hP => by
  rcases wl_mem hq with rfl | rfl | rfl | rfl | ⟨x, _, rfl | rfl⟩
  all_goals first | trivial | exact absurd he (of_decide_eq_false rfl)
theorem st_byte {m : Ms} {p : Nat} {b : Int} : ∀ q ∈ m.wl, q.e = 5 → ∀ xs, xs.length = q.n * q.sz → q.P xs → q.P (xs.set p (.int .u8 b)) := fun q hq he xs _ hP => by
  rcases wl_mem hq with rfl | rfl | rfl | rfl | ⟨x, _, rfl | rfl⟩
  all_goals first | trivial | exact absurd he (of_decide_eq_false rfl) | skip
  obtain ⟨bs, rfl⟩ := hP
  exact ⟨bs.set p b, by unfold bcells; rw [List.map_set]⟩
theorem vocs_set : ∀ (ys : List (Vo Pv)) (i : Nat) (s : Int), (vocs ys).set (i * 6) (.int .i64 s) = vocs (ys.modify i fun x => { x with s := s })
  | [], i, s => by simp [vocs]
  | y :: ys, 0, s => by simp [vocs, voC, List.modify_cons]
  | y :: ys, i + 1, s => by
    have h := vocs_set ys i s
    unfold vocs at h ⊢
    rw [List.modify_succ_cons, List.flatMap_cons, List.flatMap_cons, ← h, List.set_append_right _ _ (by simp [voC]; omega)]
    congr 2
    simp [voC]; omega
theorem st_vote {m : Ms} {i : Nat} {s : Int} : ∀ q ∈ m.wl, q.e = 59 → ∀ xs, xs.length = q.n * q.sz → q.P xs → q.P (xs.set (i * 6 + 0) (.int .i64 s)) := fun q hq he xs _ hP => by
  rcases wl_mem hq with rfl | rfl | rfl | rfl | ⟨x, _, rfl | rfl⟩
  all_goals first | trivial | exact absurd he (of_decide_eq_false rfl) | skip
  obtain ⟨ys, rfl, h⟩ := hP
  refine ⟨ys.modify i fun x => { x with s := s }, by rw [Nat.add_zero, vocs_set], ?_⟩
  rw [← h]
  refine List.ext_getElem? fun j => ?_
  rw [List.getElem?_map, List.getElem?_map, List.getElem?_modify]
  by_cases hj : i = j
  · simp only [hj, if_true]
    cases ys[j]? <;> rfl
  · simp only [hj, if_false]
    cases ys[j]? <;> rfl
theorem wl_X {m : Ms} {w : World} (h : m.R.X w) : (wilds m.wl).X w := wilds_of fun q hq => by
  have hc : ∀ {p : Pv}, (pvR p).X w → (crW p).hx.X w := fun h => Wr.of (r := crW _) h.1 (rw_len h.1) trivial
  have hn : ∀ {p : Pv}, (pvR p).X w → (nrW p).hx.X w := fun h => Wr.of (r := nrW _) h.2 (rw_len h.2) trivial
  rcases wl_mem hq with rfl | rfl | rfl | rfl | ⟨x, hx, rfl | rfl⟩
  · exact hc h.1.1.1
  · exact hn h.1.1.1
  · exact Wr.of (r := vrW m) h.1.2 (rw_len h.1.2) ⟨m.vs, rfl, rfl⟩
  · exact Wr.of (r := drW m) h.2 (rw_len h.2) ⟨m.d, rfl⟩
  · exact hc (h.1.1.2 _ (List.mem_map.2 ⟨x, hx, rfl⟩))
  · exact hn (h.1.1.2 _ (List.mem_map.2 ⟨x, hx, rfl⟩))
theorem wl_F {m : Ms} {k : Nat} (h : (wilds m.wl).F k) : m.R.F k := by
  obtain ⟨q, hq, hk⟩ := wilds_F h
  rcases wl_mem hq with rfl | rfl | rfl | rfl | ⟨x, hx, rfl | rfl⟩
  · exact .inl (.inl (.inl (.inl hk)))
  · exact .inl (.inl (.inl (.inr hk)))
  · exact .inl (.inr hk)
  · exact .inr hk
  · exact .inl (.inl (.inr ⟨_, List.mem_map.2 ⟨x, hx, rfl⟩, .inl hk⟩))
  · exact .inl (.inl (.inr ⟨_, List.mem_map.2 ⟨x, hx, rfl⟩, .inr hk⟩))
end Go.Proofs.Ytadgaefmoobcoaa

namespace Go.Proofs.Ytadgaefmoobcoaa
open Go.ChangeShapes Go.WideShapes Go.ChangeAt Go.RowKit Go.Syn Go.Eng
set_option linter.unusedVariables false
set_option linter.unusedSimpArgs false
set_option maxRecDepth 100000
abbrev tLDec7b0 : List LV := [(tVi 44), (tVi 45), (tVi 46), (tVi 47), (tVi 48), (tVi 49), (tVi 50), (tVi 51), (tVi 52), (tVi 53), (tSl 10 20 21), (tSl 11 22 23), (tSl 12 24 25), (tVi 54), (tVi 55), (tVi 56), (tVi 57), (tVi 58), (tVi 59), (tVi 60), (tVi 61), (tVi 62), (tVi 63), (tVi 64), (tSl 13 26 27)]
abbrev tLDec7b1 : List LV := [(tVi 22), (tVi 23), (tVi 24), (tVi 25), (tVi 26), (tVi 27), (tVi 28), (tVi 29), (tVi 30), (tVi 31), (tSl 6 12 13), (tSl 7 14 15), (tSl 8 16 17), (tVi 32), (tVi 33), (tVi 34), (tVi 35), (tVi 36), (tVi 37), (tVi 38), (tVi 39), (tVi 40), (tVi 41), (tVi 42), (tSl 9 18 19)]
abbrev tLDec7b2 : List LV := [(tVi 0), (tVi 1), (tVi 2), (tVi 3), (tVi 4), (tVi 5), (tVi 6), (tVi 7), (tVi 8), (tVi 9), (tSl 2 4 5), (tSl 3 6 7), (tSl 4 8 9), (tVi 10), (tVi 11), (tVi 12), (tVi 13), (tVi 14), (tVi 15), (tVi 16), (tVi 17), (tVi 18), (tVi 19), (tVi 20), (tSl 5 10 11)]
abbrev tLDec7m0 : Mem := ⟨[(37, tLDec7b2), (37, tLDec7b1), (37, tLDec7b0)], ⟨66, 2, 0, 28, 14⟩⟩
abbrev tLDec7m1 : Mem := ⟨[(37, tLDec7b2), (37, tLDec7b1), (37, tLDec7b0)], ⟨66, 3, 0, 28, 14⟩⟩
abbrev tLDec7m2 : Mem := ⟨[(37, tLDec7b2), (37, tLDec7b1), (37, tLDec7b0)], ⟨67, 3, 0, 28, 14⟩⟩
abbrev tLDec7m3 : Mem := ⟨[(37, tLDec7b2), (37, tLDec7b1), (37, tLDec7b0)], ⟨68, 3, 0, 28, 14⟩⟩
abbrev tLDec7m4 : Mem := ⟨[(37, tLDec7b2), (37, tLDec7b1), (37, tLDec7b0)], ⟨68, 3, 0, 30, 15⟩⟩
abbrev tLDec7m5 : Mem := ⟨[(37, tLDec7b2), (37, tLDec7b1), (37, tLDec7b0)], ⟨69, 3, 0, 30, 15⟩⟩
abbrev tLDec7m6 : Mem := ⟨[(37, tLDec7b2), (37, tLDec7b1), (37, tLDec7b0)], ⟨69, 3, 0, 32, 16⟩⟩
abbrev tLDec7m7 : Mem := ⟨[(37, tLDec7b2), (37, tLDec7b1), (37, tLDec7b0)], ⟨68, 4, 0, 28, 14⟩⟩
set_option maxRecDepth 100000 in
theorem tLDec7 : (runF ⟨tt, fns, { loops := [(10, ⟨[(50, .int .i64)], []⟩), (15, ⟨[(64, .int .i64)], []⟩), (19, ⟨[(80, .int .i64)], []⟩)], cur := [6, 7, 8, 9] }⟩ (Try.f5.body.getD .skip) Try.f5.results.toList (entry Try.f5.ntmps [.lf (.sl 0 (.var 0) (.var 1))] [] ⟨0, 0, 0, 2, 1⟩)) =
  (.call 9 [] ⟨[], ⟨0, 0, 0, 2, 1⟩⟩ (.lf (.bool (.var 0))) ⟨[], ⟨0, 1, 0, 2, 1⟩⟩ (.br (.not (.var 0)) (.done (.lf (.bool (.lit .false))) ⟨[], ⟨0, 1, 0, 2, 1⟩⟩) (.call 20 [(.lf (tSl 0 0 1))] ⟨[], ⟨0, 1, 0, 2, 1⟩⟩ (.lf (tSl 1 2 3)) ⟨[], ⟨0, 1, 0, 4, 2⟩⟩ (.call 21 [(.lf (tSl 0 0 1))] ⟨[], ⟨0, 1, 0, 4, 2⟩⟩ (.tup [(.true, tLDec7b2), (.false, [(tVi 21)])]) ⟨[], ⟨22, 1, 0, 12, 6⟩⟩ (.call 22 [(.lf (tSl 1 2 3))] ⟨[(37, tLDec7b2)], ⟨22, 1, 0, 12, 6⟩⟩ (.tup [(.true, tLDec7b1), (.false, [(tVi 43)])]) ⟨[(37, tLDec7b2)], ⟨44, 1, 0, 20, 10⟩⟩ (.call 22 [(.lf (tSl 1 2 3))] ⟨[(37, tLDec7b2), (37, tLDec7b1)], ⟨44, 1, 0, 20, 10⟩⟩ (.tup [(.true, tLDec7b0), (.false, [(tVi 65)])]) ⟨[(37, tLDec7b2), (37, tLDec7b1)], ⟨66, 1, 0, 28, 14⟩⟩ (.call 17 [(.agg tLDec7b1), (.agg tLDec7b2)] ⟨[(37, tLDec7b2), (37, tLDec7b1), (37, tLDec7b0)], ⟨66, 1, 0, 28, 14⟩⟩ (.lf (.bool (.var 1))) tLDec7m0 (.br (.not (.var 1)) (.done (.lf (.bool (.lit .false))) tLDec7m0) (.br (.cmp .neq (.var 43) (.var 21)) (.done (.lf (.bool (.lit .false))) tLDec7m0) (.call 18 [(.lf (tSl 1 2 3)), (.lf (tSl 0 0 1))] tLDec7m0 (.lf (.bool (.var 2))) tLDec7m1 (.br (.not (.var 2)) (.done (.lf (.bool (.lit .false))) tLDec7m1) (.loop 10 ⟨[(.lit 0)], [], [], [], []⟩ tLDec7m1 tLDec7m2 (.br (.cmp .lss (.var 66) (.nat 18)) (.need (.inb 9 (.var 66) (.nat 18)) (.ld .true (.adr 9 (.var 66) 1 0) [(.int .u8 (.var 67))] tLDec7m2 tLDec7m3 (.need (.inb 9 (.var 66) (.nat 18)) (.gen (.store 5 (.tmp 59) (.tmp 58)) 0 [(59, (.lf (.adr 9 (.var 66) 1 0))), (58, (.lf (.int .u8 (.op .xor .u8 (.var 67) (.lit 255)))))] tLDec7m3 .none tLDec7m3 (.again 10 ⟨[(.op .add .i64 (.var 66) (.lit 1))], [], [], [], []⟩ tLDec7m3))))) (.loop 15 ⟨[(.lit 0)], [], [], [], []⟩ tLDec7m2 tLDec7m3 (.br (.cmp .lss (.var 67) (.nat 16)) (.need (.inb 8 (.var 67) (.nat 16)) (.gen (.store 3 (.tmp 71) (.const (.int .i64 (-1)))) 0 [(71, (.lf (.adr 8 (.var 67) 6 0)))] tLDec7m3 .none tLDec7m3 (.need (.inb 8 (.var 67) (.nat 16)) (.ld .true (.adr 8 (.var 67) 6 4) [(tSl 14 28 29)] tLDec7m3 tLDec7m4 (.loop 19 ⟨[(.lit 0)], [], [], [], []⟩ tLDec7m4 tLDec7m5 (.br (.cmp .lss (.var 68) (.nat 28)) (.need (.inb 8 (.var 67) (.nat 16)) (.ld .true (.adr 8 (.var 67) 6 4) [(tSl 15 30 31)] tLDec7m5 tLDec7m6 (.need (.inb 15 (.var 68) (.nat 30)) (.gen (.store 3 (.tmp 92) (.const (.int .i64 (-1)))) 0 [(92, (.lf (.adr 15 (.var 68) 8 1)))] tLDec7m6 .none tLDec7m6 (.again 19 ⟨[(.op .add .i64 (.var 68) (.lit 1))], [], [], [], []⟩ tLDec7m6))))) (.again 15 ⟨[(.op .add .i64 (.var 67) (.lit 1))], [], [], [], []⟩ tLDec7m5))))))) (.call 17 [(.agg tLDec7b0), (.agg tLDec7b2)] tLDec7m3 (.lf (.bool (.var 3))) tLDec7m7 (.done (.lf (.bool (.var 3))) tLDec7m7))))))))))))))))) := by kernel_rfl
section
variable {C : Cfg} {ρ : Env} {pre : List Nat} {hx : HX} {L : Stack} {m m' : Mem} {args : List SV} {r : SV} {t : Tree}
theorem node_ldE {l : LV} {cs : List LV} (J : Vals → Prop) (hcell : ∀ ids w, pre <+: ids → Facts C m ρ ids hx w → ∃ vs, J vs ∧ CellsAt w (l.den ρ ids) (cellsDen (ρ.add vs) ids cs) (fun _ => False)) (hc : ∀ vs, J vs → (ρ.add vs).cnt = m'.c ∧ ∀ v, v ∈ vs.v → v.oneCell' = true)
    (h : ∀ vs, J vs → t.holds C (ρ.add vs) pre hx L) : (Tree.ld true l cs m m' t).holds C ρ pre hx L := fun ids w hp hf => by
  obtain ⟨vs, hJ, h1⟩ := hcell ids w hp hf
  exact ⟨vs, h1, envUp hf (hc vs hJ).1 (hc vs hJ).2, holds_pre t hp (h vs hJ)⟩
end
theorem rw_some {sz e n cap : Nat} {a : Option Addr} {xs : List Value} {w : World} (h : (HX.rw sz e a n cap xs).X w) (hn : 0 < n) : a.isSome = true := by
  have := rw_le h
  obtain ⟨g, cur, e, _⟩ := rw_open h (by omega)
  rw [e]; rfl
theorem wr_some {r : Wr} {w : World} (h : r.hx.X w) (hn : 0 < r.n) : r.a.isSome = true := by
  obtain ⟨xs, _, _, hX⟩ := Wr.open h
  exact rw_some hX hn
theorem vr_read {m : Ms} {w : World} (h : (wilds m.wl).X w) {k : Nat} {x : Vo Pv} (hk : m.vs[k]? = some x) (o : Nat) (u : Value) (hu : ∀ y : Vo Pv, y.v = x.v → (voC y)[o]? = some u) : CellsAt w (.pointer (some (((m.av.getD ⟨0, 0, none⟩).add (k * 6)).add o))) [u] (fun _ => False) := by
  obtain ⟨xs, hl, ⟨ys, rfl, hys⟩, hX⟩ := Wr.open (wilds_get wl_v h)
  have hX : Cells w m.av (vocs ys) := rw_cells hX
  have h2 : (ys.map Vo.v)[k]? = some x.v := by rw [hys, List.getElem?_map, hk]; rfl
  rw [List.getElem?_map] at h2
  obtain ⟨y, hy, e⟩ := Option.map_eq_some_iff.1 h2
  exact (flat_part voc_len hX hy (o := o) [u] (fun j v hj => by
    cases j with
    | zero => rw [Nat.add_zero, hu y e]; exact hj
    | succ j => cases hj) (by simp)).2 _ id
set_option maxHeartbeats 4000000 in
theorem dec7_walk (a : Option Addr) (cap : Nat) (bs : List Int) (w : World) (HB : Cells w a (bcells bs)) (hb : Byt bs) (hlb : bs.length ≤ 140737488355328) (hcap : bs.length ≤ cap) :
    Calls Try.prog 5 #[.slice a bs.length cap] w (PureAt w (.bool true)) := by
  have keep : ∀ {m : Mem} {ρ : Env} {ids : List Nat} {hx : HX} {w2 : World} {R : Ending → World → Prop}, Facts ⟨Try.prog, w, fun _ => False, R⟩ m ρ ids hx w2 → Cells w2 a (bcells bs) := fun hf => cl_stay HB (fun k hk => hf.chg.block k hk (fun q => q))
  refine calls_at (tab_ok _) Try.func5 rfl tLDec7 (ρ := ⟨[], [], [], [bs.length, cap], [a]⟩) (ids := []) (hx := HX.nil) rfl (Facts.initP rfl oneNil) ?_
  refine node_P ⟨[], [true], [], [], []⟩ #[] (.bool true) (by intros; kernel_rfl) (by intros; kernel_rfl) (by kernel_rfl) (by kernel_rfl) (by kernel_rfl) oneNil (fun ids w2 hp hf => head7_any w2) ?_
  refine br_F false (by kernel_rfl) rfl ?_
  refine node_nd (bs := bs) (fun ids => #[.slice a bs.length cap]) (fun a' c' => ⟨[], [], [], [bs.length, c'], [a']⟩) (by intros; kernel_rfl) (fun ids w2 hp hf => copyb_new a cap bs w2 (keep hf) hlb) (by intros; kernel_rfl) (by kernel_rfl) (by kernel_rfl) (by intros; kernel_rfl) (fun _ _ => oneNil) ?_
  intro a3 c3 fm
  obtain ⟨de, ede⟩ : ∃ x, x = decE7 bs := ⟨_, rfl⟩
  refine node_qdec rfl a cap bs hcap de ede.symm (fun ids w2 hp hf => ⟨keep hf, hb, hlb⟩) (by intros; kernel_rfl) (by intros; kernel_rfl) (by kernel_rfl) (by kernel_rfl) (by intros; kernel_rfl) ?_
  intro q hq fq
  refine node_dec rfl (fun _ => a3) c3 bs hb hlb de ede.symm (fun ids w2 hp hf => hf.x.1.2) (by intros; kernel_rfl) (by intros; kernel_rfl) (by kernel_rfl) (by kernel_rfl) (by intros; kernel_rfl) ?_
  intro y hy fy
  refine node_dec rfl (fun _ => a3) c3 bs hb hlb de ede.symm (fun ids w2 hp hf => hf.x.1.1.2) (by intros; kernel_rfl) (by intros; kernel_rfl) (by kernel_rfl) (by kernel_rfl) (by intros; kernel_rfl) ?_
  intro c hc fc
  have hdw : McWf (decC7 bs) := by
    unfold decC7; split
    · exact rdMc_wf hb hlb
    · exact mz_wf.con
  have hqw : MsWf q := McWf.ms (by rw [hq]; exact hdw)
  have hyw : MsWf y := McWf.ms (by rw [hy]; exact hdw)
  have hcw : MsWf c := McWf.ms (by rw [hc]; exact hdw)
  refine node_PI ⟨[], [true], [], [], []⟩ (fun _ => #[y.val, q.val]) (.bool true) (by intros; kernel_rfl) (by intros; kernel_rfl) (by kernel_rfl) (by kernel_rfl) (by kernel_rfl) oneNil (fun ids w2 hp hf => by
    have := rsame7_any y q w2 (R_X hf.x.1.2) hf.x.1.1.2 hyw hqw
    rw [mcSame_t (hy.trans hq.symm)] at this
    exact this) ?_
  refine br_F false (by kernel_rfl) rfl ?_
  refine br_F (de != de) (by kernel_rfl) (by simp) ?_
  refine node_PI ⟨[], [true], [], [], []⟩ (fun _ => #[.slice a3 bs.length c3, .slice a bs.length cap]) (.bool true) (by intros; kernel_rfl) (by intros; kernel_rfl) (by kernel_rfl) (by kernel_rfl) (by kernel_rfl) oneNil (fun ids w2 hp hf => by
    have := sameb_any a3 c3 bs a cap bs w2 hf.x.1.1.1.2 (keep hf) hlb
    rw [decide_eq_true rfl] at this
    exact this) ?_
  refine br_F false (by kernel_rfl) rfl ?_
  obtain ⟨S, eS⟩ : ∃ x, x = q.X.and c.R := ⟨_, rfl⟩
  obtain ⟨G, eG⟩ : ∃ x, x = S.and (wilds y.wl) := ⟨_, rfl⟩
  refine holds_sub (hx' := G) _ (fun w h => by rw [eG, eS]; exact ⟨⟨h.1.1.2, h.2⟩, wl_X h.1.2⟩) (fun k hk => by
    rw [eG, eS] at hk
    rcases hk with (hk | hk) | hk
    · exact .inl (.inl (.inr hk))
    · exact .inr hk
    · exact .inl (.inr (wl_F hk))) ?_
  have own : ∀ k, y.R.F k → w.heap.size ≤ k ∧ ¬ S.F k := fun k hk => ⟨(fy k hk).1, fun z => by
    rw [eS] at z
    rcases z with z | z
    · exact (fy k hk).2 (.inr z)
    · exact (fc k z).2 (.inr hk)⟩
  have ownW : ∀ r ∈ y.wl, ∀ k, r.cap ≠ 0 → abk r.a = some k → w.heap.size ≤ k ∧ ¬ S.F k := fun r hr k h1 h2 => own k (wl_F ⟨_, List.mem_map.2 ⟨r, hr, rfl⟩, h1, h2⟩)
  have GX : ∀ {w}, G.X w → S.X w ∧ (wilds y.wl).X w := fun h => by rw [eG] at h; exact h
  have wr : ∀ k : Nat, k < 4611686018427387904 → IntKind.i64.wrap ((k : Int) + 1) = ((k + 1 : Nat) : Int) := fun k h => by rw [wrap_i64 (by omega)]; omega
  have hvl := hyw.vl
  have ld := hyw.dl
  have l1 := hyw.v.f.l1
  have l2 := hyw.v.f.l2
  -- the bytes
  refine ⟨fun vs hx n => ∃ k : Nat, n = y.d.length - k ∧ k ≤ y.d.length ∧ vs = ⟨[(k : Int)], [], [], [], []⟩ ∧ (0 < y.d.length → y.ad.isSome = true) ∧ G = hx, fun ids w2 hp hf => ⟨_, y.d.length, ⟨hf.x, hf.sep⟩, 0, rfl, Nat.zero_le _, by kernel_rfl, fun h => wr_some (wilds_get wl_d (GX hf.x).2) h, rfl⟩, ?_⟩
  rintro vs hx' n hcnt ⟨k, rfl, hk, rfl, hsm, rfl⟩
  refine br_D (p := (k : Int) < (y.d.length : Int)) (by kernel_rfl) (fun hlt => ?_) (fun _ => ?_)
  · have hlt : k < y.d.length := by omega
    refine need_k (y.ad.isSome = true ∧ 0 ≤ (k : Int) ∧ (k : Int) < (y.d.length : Int)) (by kernel_rfl) ⟨hsm (by omega), by omega, by omega⟩ ?_
    refine node_ldE (fun vs => ∃ b : Int, vs = ⟨[b], [], [], [], []⟩) (fun ids w2 hp hf => ?_) (fun vs ⟨b, e⟩ => by subst e; exact ⟨by kernel_rfl, oneNil⟩) ?_
    · obtain ⟨xs, hl, ⟨bs, rfl⟩, hX⟩ := Wr.open (wilds_get wl_d (GX hf.x).2)
      have hl : (bcells bs).length = y.d.length * 1 := hl
      rw [bcells_len, Nat.mul_one] at hl
      obtain ⟨b, hb⟩ : ∃ b, bs[k]? = some b := ⟨_, List.getElem?_eq_getElem (by omega)⟩
      obtain ⟨s1, c1⟩ := b_elt (rw_cells hX) hb
      exact ⟨_, ⟨b, rfl⟩, c1 _ (fun e => e)⟩
    rintro vs ⟨b, rfl⟩
    refine need_k (y.ad.isSome = true ∧ 0 ≤ (k : Int) ∧ (k : Int) < (y.d.length : Int)) (by kernel_rfl) ⟨hsm (by omega), by omega, by omega⟩ ?_
    rw [eG]
    refine node_wst y.wl (drW y) wl_d k 0 (.int .u8 (ifn .xor .u8 b 255)) (by kernel_rfl) (by intros; kernel_rfl) (by intros; kernel_rfl) rfl rfl (by show k * 1 + 0 < y.d.length * 1; omega) st_byte (fun j h1 h2 => (ownW _ wl_d j h1 h2).2) (fun j h1 h2 => .inl (ownW _ wl_d j h1 h2).1) (by kernel_rfl) (by kernel_rfl) (by kernel_rfl) ?_
    exact again_V ⟨[IntKind.i64.wrap ((k : Int) + 1)], [], [], [], []⟩ rfl (by intros; kernel_rfl) _ (fun w2 ids hf => ⟨hf.x, hf.sep⟩) ⟨y.d.length - (k + 1), by omega, k + 1, rfl, by omega, (by rw [wr k (by omega)]), hsm, rfl⟩
  clear hk hsm
  -- the votes
  refine ⟨fun vs hx n => ∃ k : Nat, n = y.vs.length - k ∧ k ≤ y.vs.length ∧ vs = ⟨[(k : Int)], [], [], [], []⟩ ∧ (0 < y.vs.length → y.av.isSome = true) ∧ G = hx, fun ids w2 hp hf => ⟨_, y.vs.length, ⟨hf.x, hf.sep⟩, 0, rfl, Nat.zero_le _, by kernel_rfl, fun h => wr_some (wilds_get wl_v (GX hf.x).2) h, rfl⟩, ?_⟩
  rintro vs hx' n hcnt ⟨k4, rfl, hk, rfl, hsm, rfl⟩
  refine br_D (p := (k4 : Int) < (y.vs.length : Int)) (by kernel_rfl) (fun hlt => ?_) (fun _ => ?_)
  · have hlt : k4 < y.vs.length := by omega
    obtain ⟨x, hx⟩ : ∃ b, y.vs[k4]? = some b := ⟨_, List.getElem?_eq_getElem hlt⟩
    have hxm := List.mem_of_getElem? hx
    have hxw := (hyw.vs x hxm).v.f
    have x1 := hxw.l1
    have x2 := hxw.l2
    have nd : y.av.isSome = true ∧ 0 ≤ (k4 : Int) ∧ (k4 : Int) < (y.vs.length : Int) := ⟨hsm (by omega), by omega, by omega⟩
    refine need_k (y.av.isSome = true ∧ 0 ≤ (k4 : Int) ∧ (k4 : Int) < (y.vs.length : Int)) (by kernel_rfl) nd ?_
    rw [eG]
    refine node_wst y.wl (vrW y) wl_v k4 0 (.int .i64 (-1)) (by kernel_rfl) (by intros; kernel_rfl) (by intros; kernel_rfl) rfl rfl (by show k4 * 6 + 0 < y.vs.length * 6; omega) st_vote (fun j h1 h2 => (ownW _ wl_v j h1 h2).2) (fun j h1 h2 => .inl (ownW _ wl_v j h1 h2).1) (by kernel_rfl) (by kernel_rfl) (by kernel_rfl) ?_
    rw [← eG]
    refine need_k (y.av.isSome = true ∧ 0 ≤ (k4 : Int) ∧ (k4 : Int) < (y.vs.length : Int)) (by kernel_rfl) nd ?_
    refine node_ldk ⟨[], [], [], [x.v.v.cs.length, x.v.c1], [x.v.a1]⟩ (fun _ => .pointer (some (((y.av.getD ⟨0, 0, none⟩).add (k4 * 6)).add 4))) [.slice x.v.a1 x.v.v.cs.length x.v.c1] (by intros; kernel_rfl) (by intros; kernel_rfl) (fun ids w2 hp hf => vr_read (GX hf.x).2 hx 4 _ (fun z e => by simp only [voC]; rw [e]; rfl)) (by kernel_rfl) oneNil ?_
    refine ⟨fun vs hx n => ∃ k : Nat, n = x.v.v.cs.length - k ∧ k ≤ x.v.v.cs.length ∧ vs = ⟨[(k : Int)], [], [], [], []⟩ ∧ (0 < x.v.v.cs.length → x.v.a1.isSome = true) ∧ G = hx, fun ids w2 hp hf => ⟨_, x.v.v.cs.length, ⟨hf.x, hf.sep⟩, 0, rfl, Nat.zero_le _, by kernel_rfl, fun h => wr_some (wilds_get (wl_xc hxm) (GX hf.x).2) h, rfl⟩, ?_⟩
    rintro vs hx' n hcnt ⟨k5, rfl, hk5, rfl, hsm5, rfl⟩
    refine br_D (p := (k5 : Int) < (x.v.v.cs.length : Int)) (by kernel_rfl) (fun hlt5 => ?_) (fun _ => ?_)
    · have hlt5 : k5 < x.v.v.cs.length := by omega
      refine need_k (y.av.isSome = true ∧ 0 ≤ (k4 : Int) ∧ (k4 : Int) < (y.vs.length : Int)) (by kernel_rfl) nd ?_
      refine node_ldk ⟨[], [], [], [x.v.v.cs.length, x.v.c1], [x.v.a1]⟩ (fun _ => .pointer (some (((y.av.getD ⟨0, 0, none⟩).add (k4 * 6)).add 4))) [.slice x.v.a1 x.v.v.cs.length x.v.c1] (by intros; kernel_rfl) (by intros; kernel_rfl) (fun ids w2 hp hf => vr_read (GX hf.x).2 hx 4 _ (fun z e => by simp only [voC]; rw [e]; rfl)) (by kernel_rfl) oneNil ?_
      refine need_k (x.v.a1.isSome = true ∧ 0 ≤ (k5 : Int) ∧ (k5 : Int) < (x.v.v.cs.length : Int)) (by kernel_rfl) ⟨hsm5 (by omega), by omega, by omega⟩ ?_
      rw [eG]
      refine node_wst y.wl (crW x.v) (wl_xc hxm) k5 1 (.int .i64 (-1)) (by kernel_rfl) (by intros; kernel_rfl) (by intros; kernel_rfl) rfl rfl (by show k5 * 8 + 1 < x.v.v.cs.length * 8; omega) st_cmd (fun j h1 h2 => (ownW _ (wl_xc hxm) j h1 h2).2) (fun j h1 h2 => .inl (ownW _ (wl_xc hxm) j h1 h2).1) (by kernel_rfl) (by kernel_rfl) (by kernel_rfl) ?_
      exact again_V ⟨[IntKind.i64.wrap ((k5 : Int) + 1)], [], [], [], []⟩ rfl (by intros; kernel_rfl) _ (fun w2 ids hf => ⟨hf.x, hf.sep⟩) ⟨x.v.v.cs.length - (k5 + 1), by omega, k5 + 1, rfl, by omega, (by rw [wr k5 (by omega)]), hsm5, rfl⟩
    exact again_V ⟨[IntKind.i64.wrap ((k4 : Int) + 1)], [], [], [], []⟩ rfl (by intros; kernel_rfl) _ (fun w2 ids hf => ⟨hf.x, hf.sep⟩) ⟨y.vs.length - (k4 + 1), by omega, k4 + 1, rfl, by omega, (by rw [wr k4 (by omega)]), hsm, rfl⟩
  -- the end
  refine node_PI ⟨[], [true], [], [], []⟩ (fun _ => #[c.val, q.val]) (.bool true) (by intros; kernel_rfl) (by intros; kernel_rfl) (by kernel_rfl) (by kernel_rfl) (by kernel_rfl) oneNil (fun ids w2 hp hf => by
    have h := (GX hf.x).1
    rw [eS] at h
    have := rsame7_any c q w2 (R_X h.2) h.1 hcw hqw
    rw [mcSame_t (hc.trans hq.symm)] at this
    exact this) ?_
  exact pure_out (fun _ => id) (by intros; kernel_rfl)
theorem dec7_args (a : Option Addr) (cap : Nat) (ds : List Dat) (w : World) (h1 : Cells w a (Dat.cellsAll ds)) (h2 : ∀ d ∈ ds, d.In Try.prog w 5) (h3 : ds.length ≤ 9223372036854775807) (h4 : ds.length * Try.prog.bytesOf 5 ≤ reachBytes) (h5 : ds.length ≤ cap) :
    Calls Try.prog 5 #[.slice a ds.length cap] w (PureAt w (.bool true)) := by
  obtain ⟨bs, lbs, ebs, hby⟩ := opn_bytes ds h2
  rw [ebs] at h1
  rw [bytes_u8] at h4
  have hr := reach_is
  rw [← lbs]
  exact dec7_walk a cap bs w h1 hby (by omega) (by omega)
end Go.Proofs.Ytadgaefmoobcoaa
