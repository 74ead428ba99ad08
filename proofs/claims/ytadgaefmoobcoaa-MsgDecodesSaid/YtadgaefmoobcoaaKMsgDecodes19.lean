/- Part 19 of the texts of a proof about the given program: what the statement's proof needs of them. -/
import Derived.Test.YtadgaefmoobcoaaKMsgDecodes18
namespace Go.Proofs.Ytadgaefmoobcoaa
open Go.ChangeShapes Go.WideShapes Go.ChangeAt Go.RowKit Go.Syn Go.Eng
set_option linter.unusedVariables false
set_option linter.unusedSimpArgs false
set_option maxRecDepth 100000
theorem ints_blk {P : Program} {W w : World} {M : Nat → Prop} {R : Ending → World → Prop} {m : Mem} {ρ : Env} {ids : List Nat} {hx : HX} (hf : Facts ⟨P, W, M, R⟩ m ρ ids hx w) (n ty : Nat) (cs : List LV) (xs : List Int) (h : m.hp[n]? = some (ty, cs)) (hc : cellsDen ρ ids cs = xs.map (Value.int .i64)) (hl : xs.length ≤ 1000) (hx : ∀ x ∈ xs, I64 x) : Ints w (some ⟨idAt ids n, 0, none⟩) xs :=
  Ints.of_cells (by omega) hx (blk_cells (ty := ty) (by have := hf.blk n ty cs h; rw [hc] at this; exact this))
structure VoWf (x : Vo Pv) : Prop where
  s : I64 x.s
  r : I64 x.r
  n : I64 x.n
  v : VlWf x.v.v
structure MsWf (m : Ms) : Prop where
  k : I64 m.k
  f : I64 m.f
  t : I64 m.t
  e : I64 m.e
  r : I64 m.r
  n : I64 m.n
  slot : I64 m.slot
  low : I64 m.low
  tm : I64 m.tm
  v : VlWf m.p.v
  vs : ∀ x ∈ m.vs, VoWf x
  c : CmFit m.c
  rk : I64 m.rk
  re : I64 m.re
  im : I64 m.im
  d : Byt m.d
  dl : m.d.length ≤ 140737488355328
  vl : m.vs.length ≤ 4611686018427387904
theorem MsWf.fit {m : Ms} (h : MsWf m) : MsFit m := ⟨h.v.f, fun x hx => (h.vs x hx).v.f⟩
structure MsGood (m : Ms) : Prop where
  pl : PlR m
  ve : valE m.p.v = 0
  vl : m.vs.length ≤ 64
  vo : ∀ x ∈ m.vs, m.slot ≤ x.s ∧ x.s ≤ 1099511627776 ∧ balB x.r x.n = true ∧ valE x.v.v = 0
  bal : ub (useI m.k) 1 = true → balB m.r m.n = true
  cm : ub (useI m.k) 64 = true → cmdX m = 0
  rs : ub (useI m.k) 128 = true → resB m = true
theorem vsE_ok : ∀ (vs : List (Vo Vl)) (f : Int), vsE f vs = 0 → ∀ x ∈ vs, f ≤ x.s ∧ x.s ≤ 1099511627776 ∧ balB x.r x.n = true ∧ valE x.v = 0
  | [], _, _, x, hx => by cases hx
  | y :: r, f, h, x, hx => by
    unfold vsE at h
    by_cases h1 : y.s < f ∨ y.s > 1099511627776
    · rw [if_pos h1] at h; exact absurd h (by decide)
    rw [if_neg h1] at h
    by_cases h2 : balB y.r y.n = false
    · rw [if_pos h2] at h; exact absurd h (by decide)
    rw [if_neg h2] at h
    by_cases h3 : valE y.v ≠ 0
    · rw [if_pos h3] at h; exact absurd h h3
    rw [if_neg h3] at h
    rcases List.mem_cons.1 hx with rfl | hx
    · exact ⟨by omega, by omega, by simpa using h2, by simpa using h3⟩
    · obtain ⟨g1, g2, g3, g4⟩ := vsE_ok r _ h x hx
      exact ⟨by omega, g2, g3, g4⟩
theorem ub_16 (k : Int) (h : ub (useI k) 16 = true) : ub (useI k) 32 = false ∧ ub (useI k) 64 = false ∧ ub (useI k) 128 = false := by
  rcases kcases k with rfl | rfl | rfl | rfl | rfl | rfl | rfl | rfl | rfl | rfl | rfl | rfl | rfl | rfl | ⟨q, _⟩
  all_goals first | exact ⟨rfl, rfl, rfl⟩ | exact absurd h (by decide) | (rw [q] at h; exact absurd h (by decide))
theorem ub_32 (k : Int) (h : ub (useI k) 32 = true) : ub (useI k) 64 = false ∧ ub (useI k) 128 = false := by
  rcases kcases k with rfl | rfl | rfl | rfl | rfl | rfl | rfl | rfl | rfl | rfl | rfl | rfl | rfl | rfl | ⟨q, _⟩
  all_goals first | exact ⟨rfl, rfl⟩ | exact absurd h (by decide) | (rw [q] at h; exact absurd h (by decide))
theorem chk_good {m : Ms} (h : chkM m = 0) : MsGood m := by
  unfold chkM at h
  by_cases hp : ¬ plainP m = true
  · rw [if_neg hp] at h; exact absurd h (by decide)
  have hp := Classical.not_not.1 hp
  rw [if_pos hp] at h
  have hpl := (plain_iff m).1 hp
  unfold restE at h
  by_cases hb : (ub (useI m.k) 1 && !(balB m.r m.n)) = true
  · rw [if_pos hb] at h; exact absurd h (by decide)
  rw [if_neg hb] at h
  have hbal : ub (useI m.k) 1 = true → balB m.r m.n = true := fun q => by
    rw [q] at hb; simpa using hb
  by_cases h16 : ub (useI m.k) 16 = true
  · rw [if_pos h16] at h
    obtain ⟨g1, g2, g3⟩ := ub_16 m.k h16
    have ho := hpl.o
    rw [g1] at ho
    have ho : m.vs.length = 0 := by simpa using ho
    have hv : m.vs = [] := List.eq_nil_of_length_eq_zero ho
    exact ⟨hpl, h, by omega, (fun x hx => by rw [hv] at hx; cases hx), hbal, (fun q => by rw [g2] at q; cases q), (fun q => by rw [g3] at q; cases q)⟩
  rw [if_neg h16] at h
  have hv0 : m.p.v = vz := by
    have := hpl.v
    rw [Bool.eq_false_iff.2 h16] at this
    exact v_zero.1 this
  have hve : valE m.p.v = 0 := by rw [hv0]; rfl
  by_cases h32 : ub (useI m.k) 32 = true
  · rw [if_pos h32] at h
    obtain ⟨g2, g3⟩ := ub_32 m.k h32
    unfold chkVs at h
    have hl : (vlsOf m.vs).length = m.vs.length := List.length_map _
    by_cases hlen : (vlsOf m.vs).length > 64
    · rw [if_pos hlen] at h; exact absurd h (by decide)
    rw [if_neg hlen] at h
    refine ⟨hpl, hve, by omega, fun x hx => ?_, hbal, (fun q => by rw [g2] at q; cases q), (fun q => by rw [g3] at q; cases q)⟩
    exact vsE_ok _ _ h (Vo.map Pv.v x) (List.mem_map.2 ⟨x, hx, rfl⟩)
  rw [if_neg h32] at h
  have ho := hpl.o
  rw [Bool.eq_false_iff.2 h32] at ho
  have ho : m.vs.length = 0 := by simpa using ho
  have hv : m.vs = [] := List.eq_nil_of_length_eq_zero ho
  by_cases h64 : ub (useI m.k) 64 = true ∧ cmdX m ≠ 0
  · rw [if_pos h64] at h; exact absurd h h64.2
  rw [if_neg h64] at h
  by_cases hr : (ub (useI m.k) 128 && !(resB m)) = true
  · rw [if_pos hr] at h; exact absurd h (by decide)
  exact ⟨hpl, hve, by omega, (fun x hx => by rw [hv] at hx; cases hx), hbal, fun q => Classical.byContradiction fun z => h64 ⟨q, z⟩, fun q => by rw [q] at hr; simpa using hr⟩
def voB (x : Vo Pv) : List Int := numB (natU x.s) ++ (numB (natU x.r) ++ (numB (natU x.n) ++ vlB x.v.v))
def resY (m : Ms) : List Int := numB (foldN m.rk) ++ (numB (foldN m.re) ++ numB (foldN m.im))
def mB (m : Ms) : List Int := numB (natU m.k) ++ (numB (natU m.f) ++ (numB (natU m.t) ++ (numB (natU m.e) ++ (bitB (useI m.k) 1 (natsB [m.r, m.n]) ++ (bitB (useI m.k) 2 (natsB [m.slot]) ++ (bitB (useI m.k) 4 (natsB [m.low]) ++ (bitB (useI m.k) 8 (natsB [m.tm]) ++ (bitB (useI m.k) 16 (vlB m.p.v) ++ (bitB (useI m.k) 32 (natsB [(m.vs.length : Int)]) ++ (m.vs.flatMap voB ++ (bitB (useI m.k) 64 (cmdB m.c) ++ (bitB (useI m.k) 128 (resY m) ++ bitB (useI m.k) 256 (numB m.d.length ++ m.d)))))))))))))
def encM (m : Ms) : List Int := if chkM m = 0 then mB m else []
theorem bitB_len (u b : Int) (xs : List Int) : (bitB u b xs).length ≤ xs.length := by unfold bitB; split <;> simp
theorem vlB_small {v : Vl} (hw : VlWf v) (h : valE v = 0) : (vlB v).length ≤ 666 := by
  have := vlB_len (v := v) hw.c (by have := hw.f.l1; omega) (by have := hw.f.l2; omega)
  have := right_len h
  omega
theorem voB_small {x : Vo Pv} (hw : VoWf x) (h : valE x.v.v = 0) : (voB x).length ≤ 693 := by
  have := vlB_small hw.v h
  have := numB_len (natU_lt x.s)
  have := numB_len (natU_lt x.r)
  have := numB_len (natU_lt x.n)
  unfold voB
  simp only [List.length_append]
  omega
theorem vos_small {l : List (Vo Pv)} (h : ∀ x ∈ l, (voB x).length ≤ 693) : (l.flatMap voB).length ≤ 693 * l.length := by
  induction l with
  | nil => simp
  | cons x r ih =>
    rw [List.flatMap_cons, List.length_append, List.length_cons]
    have := ih fun y hy => h y (.tail _ hy)
    have := h x (.head _)
    omega
section
variable {W : World} {RR : Ending → World → Prop} {ρ : Env} {pre : List Nat} {B : HX} {S : Stack} {m m' : Mem} {t : Tree} {args : List SV} {a : Option Addr} {cap : Nat} {bs : List Int}
def OwnB (W : World) (B : HX) (a : Option Addr) (c : Nat) : Prop := ∀ k, c ≠ 0 → abk a = some k → (W.heap.size ≤ k ∨ False) ∧ ¬ B.F k
theorem node_e1 (bit u : Int) (xs : List Int) (q : Nat) {cu cw cx cs : List LV} (h1 : m.hp[1]? = some (3, cu)) (h2 : m.hp[2]? = some (113, cs)) (h3 : m.hp[3]? = some (78, cw)) (h4 : m.hp[q]? = some (3, cx)) (hq : 4 ≤ q) (hcu : ∀ ids, cellsDen ρ ids cu = [.int .i64 u]) (hcs : ∀ ids, cellsDen ρ ids cs = [.slice a bs.length cap]) (hcw : ∀ ids, cellsDen ρ ids cw = [.pointer (some ⟨idAt ids 2, 0, none⟩)]) (hcx : ∀ ids, cellsDen ρ ids cx = xs.map (Value.int .i64)) (hxs : ∀ x ∈ xs, I64 x) (hxl : xs.length ≤ 2)
    (hown : OwnB W B a cap) (hargs : ∀ ids, (args.map (SV.den ρ ids)).toArray = #[.int .i64 bit, .slice (some ⟨idAt ids q, 0, none⟩) xs.length xs.length, .pointer (some ⟨idAt ids 1, 0, none⟩), .pointer (some ⟨idAt ids 3, 0, none⟩)]) (hl : bs.length ≤ 1000000)
    (cs' : List LV) (hhp : m'.hp = m.hp.set 2 (113, cs')) (hcs' : ∀ a' cap' ids, cellsDen (ρ.add ⟨[], [], [], [(bs ++ bitB u bit (natsB xs)).length, cap'], [a']⟩) ids cs' = [.slice a' (bs ++ bitB u bit (natsB xs)).length cap']) (hfit : hpFits m.c m.hp.length m.hp = true) (hc : ∀ a' cap', (ρ.add ⟨[], [], [], [(bs ++ bitB u bit (natsB xs)).length, cap'], [a']⟩).cnt = m'.c)
    (h : ∀ a' cap', OwnB W B a' cap' → t.holds ⟨Try.prog, W, fun _ => False, RR⟩ (ρ.add ⟨[], [], [], [(bs ++ bitB u bit (natsB xs)).length, cap'], [a']⟩) pre (B.and (frow a' cap' (bs ++ bitB u bit (natsB xs)))) S) :
    (Tree.call 41 args m (.tup []) m' t).holds ⟨Try.prog, W, fun _ => False, RR⟩ ρ pre (B.and (frow a cap bs)) S := by
  refine node_wr (rest := B) (bs := bs) (bs' := bs ++ bitB u bit (natsB xs)) 2 (fun a' c' => ⟨[], [], [], [(bs ++ bitB u bit (natsB xs)).length, c'], [a']⟩) (fun _ => .tuple #[]) (fun ids => #[.int .i64 bit, .slice (some ⟨idAt ids q, 0, none⟩) xs.length xs.length, .pointer (some ⟨idAt ids 1, 0, none⟩), .pointer (some ⟨idAt ids 3, 0, none⟩)]) rfl h2 hcs (fun k g1 g2 => (hown k g1 g2).1) (fun k g1 g2 => (hown k g1 g2).2) hargs (fun ids w2 hp hf HW => ?_) cs' hhp hcs' (fun _ _ _ => rfl) hfit hc (fun _ _ => oneNil) (fun a' c' g _ => h a' c' g)
  have hlt : ∀ {n : Nat} {y : Nat × List LV}, m.hp[n]? = some y → n < ids.length := fun {n y} g => by
    rw [hf.len]
    rcases Nat.lt_or_ge n m.hp.length with z | z
    · exact z
    · rw [List.getElem?_eq_none z] at g; cases g
  have hne : ∀ {x y : Nat}, x ≠ y → x < ids.length → y < ids.length → idAt ids x ≠ idAt ids y := fun g i1 i2 e => g (idAt_inj hf.nod i1 i2 e)
  have b1 := hf.blk 1 _ _ h1
  rw [hcu] at b1
  have b3 := hf.blk 3 _ _ h3
  rw [hcw] at b3
  refine enc1_any bit u _ _ xs _ _ _ a cap bs w2 HW (ints_blk hf q _ cx xs h4 (hcx ids) (by omega) hxs) b1 b3 ⟨hne (by decide) (hlt h1) (hlt h3), hne (by decide) (hlt h1) (hlt h2), hne (by decide) (hlt h3) (hlt h2)⟩ (fun k g1 g2 => ⟨fun e => ?_, fun e => ?_⟩) (fun k g => ?_) (by omega)
  · exact (hf.sep k (.inr ⟨g1, g2⟩)).2 (e ▸ idAt_mem (hlt h1))
  · exact (hf.sep k (.inr ⟨g1, g2⟩)).2 (e ▸ idAt_mem (hlt h3))
  · have e : k = idAt ids q := g.2
    rw [e]
    exact ⟨hne (by omega) (hlt h4) (hlt h1), hne (by omega) (hlt h4) (hlt h3), hne (by omega) (hlt h4) (hlt h2), fun z => (hf.sep _ (.inr ⟨z.1, z.2⟩)).2 (idAt_mem (hlt h4))⟩
end
set_option maxHeartbeats 4000000 in
theorem encode7_any (m : Ms) (hw : MsWf m) (w : World) (H : m.X.X w) : Calls Try.prog 16 #[m.val] w (NewO w (fun s => .tuple #[s, .int .i64 (chkM m)]) (encM m)) := by
  obtain ⟨u, eu⟩ : ∃ x, x = useI m.k := ⟨_, rfl⟩
  obtain ⟨B, eB⟩ : ∃ x, x = m.X := ⟨_, rfl⟩
  have BX : ∀ {w}, B.X w → m.X.X w := fun h => by rw [← eB]; exact h
  have BF : ∀ {k}, m.X.F k → B.F k := fun h => by rw [eB]; exact h
  obtain ⟨e0, ee0⟩ : ∃ x, x = chkM m := ⟨_, rfl⟩
  refine calls_at (tab_ok _) Try.func16 rfl tEncode7 (ρ := ⟨m.ints, [], [], m.nats, m.adrs⟩) (ids := []) (hx := B) rfl (Facts.initq rfl oneNil (by rw [eB]; exact H) (by rw [eB]; exact Ms.X_sep H)) ?_
  refine node_PI ⟨[e0], [], [], [], []⟩ (fun _ => #[m.val]) (.int .i64 e0) (by intros; kernel_rfl) (by intros; kernel_rfl) (by kernel_rfl) (by kernel_rfl) (by kernel_rfl) oneNil (fun ids w2 hp hf => by rw [ee0]; exact mchk_any m w2 (BX hf.x) hw.fit (by have := hw.slot; unfold I64 at this; omega)) ?_
  refine br_B (e0 != 0) (by kernel_rfl) (fun h => ?_) (fun h => ?_)
  · have hne : ¬ chkM m = 0 := by rw [← ee0]; simpa using h
    have e : encM m = [] := by unfold encM; rw [if_neg hne]
    rw [e, ← ee0]
    intro ids w2 hp hf
    exact ⟨none, 0, rfl, HX.rw_nil _ _ _ _, fun k h => absurd rfl h, hf.chg.below⟩
  have h0 : chkM m = 0 := by rw [← ee0]; simpa using h
  have hz : e0 = 0 := by rw [ee0]; exact h0
  have G := chk_good h0
  have e : encM m = mB m := by unfold encM; rw [if_pos h0]
  rw [e, h0]
  have hve := right_len G.ve
  refine node_P ⟨[u], [], [], [], []⟩ #[.int .i64 m.k] (.int .i64 u) (by intros; kernel_rfl) (by intros; kernel_rfl) (by kernel_rfl) (by kernel_rfl) (by kernel_rfl) oneNil (fun ids w2 hp hf => by rw [eu]; exact uses_any m.k w2) ?_
  refine node_newB 113 Vals.nil (fun w => wnew_any w) (by intros; kernel_rfl) rfl (by intros; kernel_rfl) rfl (by kernel_rfl) (by kernel_rfl) oneNil ?_
  refine holds_eq (frow_none B).symm ?_
  have own0 : OwnB w B none 0 := fun k h => absurd rfl h
  have hdis : ∀ {q : Option Addr} {c : Nat} {x1 x2 : Option Addr} {v : Vl} {ids : List Nat} {w2 : World} {mm : Mem} {ρ : Env} {l : List Int}, OwnB w B q c → (∀ k, (vlX v x1 x2).F k → B.F k) → Facts ⟨Try.prog, w, fun _ => False, NewO w (fun s => .tuple #[s, .int .i64 0]) (mB m)⟩ mm ρ ids (B.and (frow q c l)) w2 → 2 < mm.hp.length → ∀ k, (k = idAt ids 2 ∨ (c ≠ 0 ∧ abk q = some k)) → (v.cs ≠ [] → k ≠ blk x1) ∧ (v.ns ≠ [] → k ≠ blk x2) := fun {q c x1 x2 v ids w2 mm ρ l} ho hv hf hlt k hk => by
    have no : ¬ B.F k := hk.elim (fun z => fun z2 => (hf.sep k (.inl z2)).2 (z ▸ idAt_mem (by rw [hf.len]; exact hlt))) fun z => (ho k z.1 z.2).2
    exact ⟨fun g e => no (hv k (.inl ⟨ccells_ne g, e⟩)), fun g e => no (hv k (.inr ⟨(fun z => g (List.map_eq_nil_iff.1 z)), e⟩))⟩
  obtain ⟨b1, eb1⟩ : ∃ b, b = ([] : List Int) ++ numB (natU m.k) := ⟨_, rfl⟩
  have lb1 : b1.length = 0 + (numB (natU m.k)).length := by rw [eb1, List.length_append]; simp
  have gb1 := numB_len (natU_lt m.k)
  refine node_wr (rest := B) (bs := ([] : List Int)) (bs' := b1) 2 (fun a' c' => ⟨[], [], [], [b1.length, c'], [a']⟩) (fun ids => .pointer (some ⟨idAt ids 2, 0, none⟩)) (fun ids => #[.pointer (some ⟨idAt ids 2, 0, none⟩), .int .u64 (natU m.k : Int)]) rfl rfl (by intros; kernel_rfl) (fun k h1 h2 => (own0 k h1 h2).1) (fun k h1 h2 => (own0 k h1 h2).2) (fun ids => by rw [← natU_c]; kernel_rfl) (fun ids w2 hp hf HW => by rw [eb1]; exact wnum_any _ _ _ ([] : List Int) (natU m.k) (natU_lt _) w2 HW (by decide)) [.sl 4 (.var 8) (.var 9)] rfl (by intros; kernel_rfl) (by intros; kernel_rfl) (by kernel_rfl) (by intros; kernel_rfl) (fun _ _ => oneNil) ?_
  intro ab1 cb1 ownb1 _
  have ownb1 : OwnB w B ab1 cb1 := ownb1
  obtain ⟨b2, eb2⟩ : ∃ b, b = b1 ++ numB (natU m.f) := ⟨_, rfl⟩
  have lb2 : b2.length = b1.length + (numB (natU m.f)).length := by rw [eb2, List.length_append]
  have gb2 := numB_len (natU_lt m.f)
  refine node_wr (rest := B) (bs := b1) (bs' := b2) 2 (fun a' c' => ⟨[], [], [], [b2.length, c'], [a']⟩) (fun ids => .pointer (some ⟨idAt ids 2, 0, none⟩)) (fun ids => #[.pointer (some ⟨idAt ids 2, 0, none⟩), .int .u64 (natU m.f : Int)]) rfl rfl (by intros; kernel_rfl) (fun k h1 h2 => (ownb1 k h1 h2).1) (fun k h1 h2 => (ownb1 k h1 h2).2) (fun ids => by rw [← natU_c]; kernel_rfl) (fun ids w2 hp hf HW => by rw [eb2]; exact wnum_any _ _ _ b1 (natU m.f) (natU_lt _) w2 HW (by omega)) [.sl 5 (.var 10) (.var 11)] rfl (by intros; kernel_rfl) (by intros; kernel_rfl) (by kernel_rfl) (by intros; kernel_rfl) (fun _ _ => oneNil) ?_
  intro ab2 cb2 ownb2 _
  have ownb2 : OwnB w B ab2 cb2 := ownb2
  obtain ⟨b3, eb3⟩ : ∃ b, b = b2 ++ numB (natU m.t) := ⟨_, rfl⟩
  have lb3 : b3.length = b2.length + (numB (natU m.t)).length := by rw [eb3, List.length_append]
  have gb3 := numB_len (natU_lt m.t)
  refine node_wr (rest := B) (bs := b2) (bs' := b3) 2 (fun a' c' => ⟨[], [], [], [b3.length, c'], [a']⟩) (fun ids => .pointer (some ⟨idAt ids 2, 0, none⟩)) (fun ids => #[.pointer (some ⟨idAt ids 2, 0, none⟩), .int .u64 (natU m.t : Int)]) rfl rfl (by intros; kernel_rfl) (fun k h1 h2 => (ownb2 k h1 h2).1) (fun k h1 h2 => (ownb2 k h1 h2).2) (fun ids => by rw [← natU_c]; kernel_rfl) (fun ids w2 hp hf HW => by rw [eb3]; exact wnum_any _ _ _ b2 (natU m.t) (natU_lt _) w2 HW (by omega)) [.sl 6 (.var 12) (.var 13)] rfl (by intros; kernel_rfl) (by intros; kernel_rfl) (by kernel_rfl) (by intros; kernel_rfl) (fun _ _ => oneNil) ?_
  intro ab3 cb3 ownb3 _
  have ownb3 : OwnB w B ab3 cb3 := ownb3
  obtain ⟨b4, eb4⟩ : ∃ b, b = b3 ++ numB (natU m.e) := ⟨_, rfl⟩
  have lb4 : b4.length = b3.length + (numB (natU m.e)).length := by rw [eb4, List.length_append]
  have gb4 := numB_len (natU_lt m.e)
  refine node_wr (rest := B) (bs := b3) (bs' := b4) 2 (fun a' c' => ⟨[], [], [], [b4.length, c'], [a']⟩) (fun ids => .pointer (some ⟨idAt ids 2, 0, none⟩)) (fun ids => #[.pointer (some ⟨idAt ids 2, 0, none⟩), .int .u64 (natU m.e : Int)]) rfl rfl (by intros; kernel_rfl) (fun k h1 h2 => (ownb3 k h1 h2).1) (fun k h1 h2 => (ownb3 k h1 h2).2) (fun ids => by rw [← natU_c]; kernel_rfl) (fun ids w2 hp hf HW => by rw [eb4]; exact wnum_any _ _ _ b3 (natU m.e) (natU_lt _) w2 HW (by omega)) [.sl 7 (.var 14) (.var 15)] rfl (by intros; kernel_rfl) (by intros; kernel_rfl) (by kernel_rfl) (by intros; kernel_rfl) (fun _ _ => oneNil) ?_
  intro ab4 cb4 ownb4 _
  have ownb4 : OwnB w B ab4 cb4 := ownb4
  refine holds_env (ρ' := ⟨[m.k, m.f, m.t, m.e, m.r, m.n, m.slot, m.low, m.tm, m.p.v.k, m.c.sess, m.c.seq, m.c.ack, m.c.op.kind, m.c.op.reg, m.c.op.tg, m.c.op.re, m.c.op.im, m.rk, m.re, m.im, e0, u], [], [], [m.p.v.cs.length, m.p.c1, m.p.v.ns.length, m.p.c2, m.vs.length, m.cv, m.d.length, m.cd, b1.length, cb1, b2.length, cb2, b3.length, cb3, b4.length, cb4], [m.p.a1, m.p.a2, m.av, m.ad, ab1, ab2, ab3, ab4]⟩) rfl ?_
  obtain ⟨b5, eb5⟩ : ∃ b, b = b4 ++ bitB u 1 (natsB [m.r, m.n]) := ⟨_, rfl⟩
  have lb5 : b5.length ≤ b4.length + 18 := by
    have h1 := bitB_len u 1 (natsB [m.r, m.n])
    have h2 := natsB_len [m.r, m.n]
    have h3 : ([m.r, m.n] : List Int).length = 2 := rfl
    rw [eb5, List.length_append]; omega
  refine node_e1 (B := B) (a := ab4) (cap := cb4) (bs := b4) 1 u [m.r, m.n] 4 rfl rfl rfl rfl (by decide) (by intros; kernel_rfl) (by intros; kernel_rfl) (by intros; kernel_rfl) (by intros; kernel_rfl) (fun x hx => by simp only [List.mem_cons, List.not_mem_nil, or_false] at hx; rcases hx with rfl | rfl; exact hw.r; exact hw.n) (by simp) ownb4 (by intros; kernel_rfl) (by omega) [.sl 8 (.var 16) (.var 17)] rfl (by intros; kernel_rfl) (by kernel_rfl) (by intros; kernel_rfl) ?_
  rw [← eb5]
  intro ab5 cb5 ownb5
  obtain ⟨b6, eb6⟩ : ∃ b, b = b5 ++ bitB u 2 (natsB [m.slot]) := ⟨_, rfl⟩
  have lb6 : b6.length ≤ b5.length + 9 := by
    have h1 := bitB_len u 2 (natsB [m.slot])
    have h2 := natsB_len [m.slot]
    have h3 : ([m.slot] : List Int).length = 1 := rfl
    rw [eb6, List.length_append]; omega
  refine node_e1 (B := B) (a := ab5) (cap := cb5) (bs := b5) 2 u [m.slot] 5 rfl rfl rfl rfl (by decide) (by intros; kernel_rfl) (by intros; kernel_rfl) (by intros; kernel_rfl) (by intros; kernel_rfl) (fun x hx => by rw [List.mem_singleton.1 hx]; exact hw.slot) (by simp) ownb5 (by intros; kernel_rfl) (by omega) [.sl 9 (.var 18) (.var 19)] rfl (by intros; kernel_rfl) (by kernel_rfl) (by intros; kernel_rfl) ?_
  rw [← eb6]
  intro ab6 cb6 ownb6
  obtain ⟨b7, eb7⟩ : ∃ b, b = b6 ++ bitB u 4 (natsB [m.low]) := ⟨_, rfl⟩
  have lb7 : b7.length ≤ b6.length + 9 := by
    have h1 := bitB_len u 4 (natsB [m.low])
    have h2 := natsB_len [m.low]
    have h3 : ([m.low] : List Int).length = 1 := rfl
    rw [eb7, List.length_append]; omega
  refine node_e1 (B := B) (a := ab6) (cap := cb6) (bs := b6) 4 u [m.low] 6 rfl rfl rfl rfl (by decide) (by intros; kernel_rfl) (by intros; kernel_rfl) (by intros; kernel_rfl) (by intros; kernel_rfl) (fun x hx => by rw [List.mem_singleton.1 hx]; exact hw.low) (by simp) ownb6 (by intros; kernel_rfl) (by omega) [.sl 10 (.var 20) (.var 21)] rfl (by intros; kernel_rfl) (by kernel_rfl) (by intros; kernel_rfl) ?_
  rw [← eb7]
  intro ab7 cb7 ownb7
  obtain ⟨b8, eb8⟩ : ∃ b, b = b7 ++ bitB u 8 (natsB [m.tm]) := ⟨_, rfl⟩
  have lb8 : b8.length ≤ b7.length + 9 := by
    have h1 := bitB_len u 8 (natsB [m.tm])
    have h2 := natsB_len [m.tm]
    have h3 : ([m.tm] : List Int).length = 1 := rfl
    rw [eb8, List.length_append]; omega
  refine node_e1 (B := B) (a := ab7) (cap := cb7) (bs := b7) 8 u [m.tm] 7 rfl rfl rfl rfl (by decide) (by intros; kernel_rfl) (by intros; kernel_rfl) (by intros; kernel_rfl) (by intros; kernel_rfl) (fun x hx => by rw [List.mem_singleton.1 hx]; exact hw.tm) (by simp) ownb7 (by intros; kernel_rfl) (by omega) [.sl 11 (.var 22) (.var 23)] rfl (by intros; kernel_rfl) (by kernel_rfl) (by intros; kernel_rfl) ?_
  rw [← eb8]
  intro ab8 cb8 ownb8
  obtain ⟨b9, eb9⟩ : ∃ b, b = b8 ++ bitB u 16 (vlB m.p.v) := ⟨_, rfl⟩
  have lb9 : b9.length ≤ b8.length + 666 := by
    have h1 := bitB_len u 16 (vlB m.p.v)
    have h2 : (vlB m.p.v).length ≤ 666 := vlB_small hw.v G.ve
    rw [eb9, List.length_append]; omega
  refine ⟨fun vs hx => ∃ (a2 : Option Addr) (c2 : Nat), OwnB w B a2 c2 ∧ vs = ⟨[], [], [], [b9.length, c2], [a2]⟩ ∧ hx = B.and (frow a2 c2 b9), ?_, ?_⟩
  · refine br_B (ub u 16) (by kernel_rfl) (fun h => ?_) (fun h => ?_)
    · have e2 : b9 = b8 ++ (vlB m.p.v) := by rw [eb9]; unfold bitB; rw [if_pos h]
      refine node_wr (rest := B) (bs := b8) (bs' := b8 ++ vlB m.p.v) 2 (fun a' c' => ⟨[], [], [], [(b8 ++ vlB m.p.v).length, c'], [a']⟩) (fun ids => .tuple #[]) (fun ids => #[.pointer (some ⟨idAt ids 2, 0, none⟩), m.p.val]) rfl rfl (by intros; kernel_rfl) (fun k h1 h2 => (ownb8 k h1 h2).1) (fun k h1 h2 => (ownb8 k h1 h2).2) (by intros; kernel_rfl) (fun ids w2 hp hf HW => write_any _ _ _ b8 m.p.v m.p.a1 m.p.c1 m.p.a2 m.p.c2 hw.v.k hw.v.c w2 HW (hw.v.f.at_ (BX hf.x.1).1.1) (by omega) (hdis ownb8 (fun k z => BF (.inl (.inl z))) hf (by decide))) [.sl 12 (.var 24) (.var 25)] rfl (by intros; kernel_rfl) (by intros; kernel_rfl) (by kernel_rfl) (by intros; kernel_rfl) (fun _ _ => oneNil) ?_
      intro ax cx ownx _
      have ownx : OwnB w B ax cx := ownx
      rw [← e2]
      exact again_V ⟨[], [], [], [b9.length, cx], [ax]⟩ rfl (by intros; kernel_rfl) _ (fun w2 ids hf => ⟨hf.x, hf.sep⟩) ⟨ax, cx, ownx, rfl, rfl⟩
    · have e2 : b9 = b8 := by rw [eb9]; unfold bitB; rw [if_neg (by rw [h]; decide), List.append_nil]
      exact again_V ⟨[], [], [], [b8.length, cb8], [ab8]⟩ rfl (by intros; kernel_rfl) _ (fun w2 ids hf => ⟨hf.x, hf.sep⟩) ⟨ab8, cb8, ownb8, by rw [e2], by rw [e2]⟩
  rintro vs hx hcntb9 ⟨ab9, cb9, ownb9, rfl, rfl⟩
  refine holds_env (ρ' := ⟨[m.k, m.f, m.t, m.e, m.r, m.n, m.slot, m.low, m.tm, m.p.v.k, m.c.sess, m.c.seq, m.c.ack, m.c.op.kind, m.c.op.reg, m.c.op.tg, m.c.op.re, m.c.op.im, m.rk, m.re, m.im, e0, u], [], [], [m.p.v.cs.length, m.p.c1, m.p.v.ns.length, m.p.c2, m.vs.length, m.cv, m.d.length, m.cd, b1.length, cb1, b2.length, cb2, b3.length, cb3, b4.length, cb4, b5.length, cb5, b6.length, cb6, b7.length, cb7, b8.length, cb8, b9.length, cb9], [m.p.a1, m.p.a2, m.av, m.ad, ab1, ab2, ab3, ab4, ab5, ab6, ab7, ab8, ab9]⟩) rfl ?_
  obtain ⟨f0, ef0⟩ : ∃ b, b = b9 ++ bitB u 32 (natsB [(m.vs.length : Int)]) := ⟨_, rfl⟩
  have lf0 : f0.length ≤ b9.length + 9 := by
    have h1 := bitB_len u 32 (natsB [(m.vs.length : Int)])
    have h2 := natsB_len [(m.vs.length : Int)]
    have h3 : ([(m.vs.length : Int)] : List Int).length = 1 := rfl
    rw [ef0, List.length_append]; omega
  refine node_e1 (B := B) (a := ab9) (cap := cb9) (bs := b9) 32 u [(m.vs.length : Int)] 8 rfl rfl rfl rfl (by decide) (by intros; kernel_rfl) (by intros; kernel_rfl) (by intros; kernel_rfl) (by intros; kernel_rfl) (fun x hx => by rw [List.mem_singleton.1 hx]; exact (by unfold I64; have := G.vl; omega)) (by simp) ownb9 (by intros; kernel_rfl) (by omega) [.sl 13 (.var 26) (.var 27)] rfl (by intros; kernel_rfl) (by kernel_rfl) (by intros; kernel_rfl) ?_
  rw [← ef0]
  intro af0 cf0 ownf0
  have hvs : ∀ x ∈ m.vs, (voB x).length ≤ 693 := fun x hx => voB_small (hw.vs x hx) (G.vo x hx).2.2.2
  have hvl := G.vl
  have hpre : ∀ k, ((m.vs.take k).flatMap voB).length ≤ 44352 := fun k => by
    have h1 := vos_small (l := m.vs.take k) fun x hx => hvs x (List.mem_of_mem_take hx)
    have h2 : (m.vs.take k).length ≤ 64 := by rw [List.length_take]; omega
    omega
  refine ⟨fun vs hx n => ∃ (k : Nat) (a2 : Option Addr) (c2 : Nat), n = m.vs.length - k ∧ k ≤ m.vs.length ∧ OwnB w B a2 c2 ∧ vs = ⟨[(k : Int)], [], [], [(f0 ++ (m.vs.take k).flatMap voB).length, c2], [a2]⟩ ∧ hx = B.and (frow a2 c2 (f0 ++ (m.vs.take k).flatMap voB)), fun ids w2 hp hf => ⟨_, m.vs.length, ⟨hf.x, hf.sep⟩, 0, af0, cf0, rfl, Nat.zero_le _, ownf0, by rw [List.take_zero, List.flatMap_nil, List.append_nil]; kernel_rfl, by rw [List.take_zero, List.flatMap_nil, List.append_nil]⟩, ?_⟩
  rintro vs hx' n hcnt ⟨k, af1, cf1, rfl, hk, ownf1, rfl, rfl⟩
  obtain ⟨f1, ef1⟩ : ∃ b, b = f0 ++ (m.vs.take k).flatMap voB := ⟨_, rfl⟩
  have lf1 : f1.length ≤ f0.length + 44352 := by rw [ef1, List.length_append]; have := hpre k; omega
  rw [← ef1]

  refine holds_env (ρ' := ⟨[m.k, m.f, m.t, m.e, m.r, m.n, m.slot, m.low, m.tm, m.p.v.k, m.c.sess, m.c.seq, m.c.ack, m.c.op.kind, m.c.op.reg, m.c.op.tg, m.c.op.re, m.c.op.im, m.rk, m.re, m.im, e0, u, (k : Int)], [], [], [m.p.v.cs.length, m.p.c1, m.p.v.ns.length, m.p.c2, m.vs.length, m.cv, m.d.length, m.cd, b1.length, cb1, b2.length, cb2, b3.length, cb3, b4.length, cb4, b5.length, cb5, b6.length, cb6, b7.length, cb7, b8.length, cb8, b9.length, cb9, f0.length, cf0, f1.length, cf1], [m.p.a1, m.p.a2, m.av, m.ad, ab1, ab2, ab3, ab4, ab5, ab6, ab7, ab8, ab9, af0, af1]⟩) rfl ?_
  refine br_D (p := (k : Int) < (m.vs.length : Int)) (by kernel_rfl) (fun hlt => ?_) (fun hlt => ?_)
  · have hlt : k < m.vs.length := by omega
    obtain ⟨x, hx⟩ : ∃ b, m.vs[k]? = some b := ⟨_, List.getElem?_eq_getElem hlt⟩
    have hxm := List.mem_of_getElem? hx
    have hxw := hw.vs x hxm
    have hxe := right_len (G.vo x hxm).2.2.2
    obtain ⟨s1, q1⟩ := vo_part H.1.2 hx 0 (voC x) (fun j u hj => by rw [Nat.zero_add]; exact hj) (by simp [voC])
    have htk : m.vs.take (k + 1) = m.vs.take k ++ [x] := by rw [List.take_add_one, hx]; rfl
    have hst : f0 ++ (m.vs.take (k + 1)).flatMap voB = f1 ++ voB x := by rw [htk, ef1, List.append_assoc, List.flatMap_append]; simp
    refine need_k (m.av.isSome = true ∧ 0 ≤ (k : Int) ∧ (k : Int) < (m.vs.length : Int)) (by kernel_rfl) ⟨s1, by omega, by omega⟩ ?_
    refine node_ldx ⟨[x.s, x.r, x.n, x.v.v.k], [], [], [x.v.v.cs.length, x.v.c1, x.v.v.ns.length, x.v.c2], [x.v.a1, x.v.a2]⟩ (.pointer (some (((m.av.getD ⟨0, 0, none⟩).add (k * 6)).add 0))) (voC x) (by intros; kernel_rfl) (by intros; kernel_rfl) q1 ⟨by kernel_rfl, by kernel_rfl⟩ ?_
    have gs := numB_len (natU_lt x.s)
    have gr := numB_len (natU_lt x.r)
    have gn := numB_len (natU_lt x.n)
    obtain ⟨d1, ed1⟩ : ∃ b, b = f1 ++ numB (natU x.s) := ⟨_, rfl⟩
    have ld1 : d1.length = f1.length + (numB (natU x.s)).length := by rw [ed1, List.length_append]
    refine node_wr (rest := B) (bs := f1) (bs' := d1) 2 (fun a' c' => ⟨[], [], [], [(d1).length, c'], [a']⟩) (fun ids => .pointer (some ⟨idAt ids 2, 0, none⟩)) (fun ids => #[.pointer (some ⟨idAt ids 2, 0, none⟩), .int .u64 (natU x.s : Int)]) rfl rfl (by intros; kernel_rfl) (fun k h1 h2 => (ownf1 k h1 h2).1) (fun k h1 h2 => (ownf1 k h1 h2).2) (fun ids => by rw [← natU_c]; kernel_rfl) (fun ids w2 hp hf HW => by rw [ed1]; exact wnum_any _ _ _ f1 (natU x.s) (natU_lt _) w2 HW (by omega)) [.sl 17 (.var 34) (.var 35)] rfl (by intros; kernel_rfl) (by intros; kernel_rfl) (by kernel_rfl) (by intros; kernel_rfl) (fun _ _ => oneNil) ?_
    intro ad1 cd1 ownd1 _
    have ownd1 : OwnB w B ad1 cd1 := ownd1
    obtain ⟨d2, ed2⟩ : ∃ b, b = d1 ++ numB (natU x.r) := ⟨_, rfl⟩
    have ld2 : d2.length = d1.length + (numB (natU x.r)).length := by rw [ed2, List.length_append]
    refine node_wr (rest := B) (bs := d1) (bs' := d2) 2 (fun a' c' => ⟨[], [], [], [(d2).length, c'], [a']⟩) (fun ids => .pointer (some ⟨idAt ids 2, 0, none⟩)) (fun ids => #[.pointer (some ⟨idAt ids 2, 0, none⟩), .int .u64 (natU x.r : Int)]) rfl rfl (by intros; kernel_rfl) (fun k h1 h2 => (ownd1 k h1 h2).1) (fun k h1 h2 => (ownd1 k h1 h2).2) (fun ids => by rw [← natU_c]; kernel_rfl) (fun ids w2 hp hf HW => by rw [ed2]; exact wnum_any _ _ _ d1 (natU x.r) (natU_lt _) w2 HW (by omega)) [.sl 18 (.var 36) (.var 37)] rfl (by intros; kernel_rfl) (by intros; kernel_rfl) (by kernel_rfl) (by intros; kernel_rfl) (fun _ _ => oneNil) ?_
    intro ad2 cd2 ownd2 _
    have ownd2 : OwnB w B ad2 cd2 := ownd2
    obtain ⟨d3, ed3⟩ : ∃ b, b = d2 ++ numB (natU x.n) := ⟨_, rfl⟩
    have ld3 : d3.length = d2.length + (numB (natU x.n)).length := by rw [ed3, List.length_append]
    refine node_wr (rest := B) (bs := d2) (bs' := d3) 2 (fun a' c' => ⟨[], [], [], [(d3).length, c'], [a']⟩) (fun ids => .pointer (some ⟨idAt ids 2, 0, none⟩)) (fun ids => #[.pointer (some ⟨idAt ids 2, 0, none⟩), .int .u64 (natU x.n : Int)]) rfl rfl (by intros; kernel_rfl) (fun k h1 h2 => (ownd2 k h1 h2).1) (fun k h1 h2 => (ownd2 k h1 h2).2) (fun ids => by rw [← natU_c]; kernel_rfl) (fun ids w2 hp hf HW => by rw [ed3]; exact wnum_any _ _ _ d2 (natU x.n) (natU_lt _) w2 HW (by omega)) [.sl 19 (.var 38) (.var 39)] rfl (by intros; kernel_rfl) (by intros; kernel_rfl) (by kernel_rfl) (by intros; kernel_rfl) (fun _ _ => oneNil) ?_
    intro ad3 cd3 ownd3 _
    have ownd3 : OwnB w B ad3 cd3 := ownd3
    refine node_wr (rest := B) (bs := d3) (bs' := d3 ++ vlB x.v.v) 2 (fun a' c' => ⟨[], [], [], [(d3 ++ vlB x.v.v).length, c'], [a']⟩) (fun ids => .tuple #[]) (fun ids => #[.pointer (some ⟨idAt ids 2, 0, none⟩), x.v.val]) rfl rfl (by intros; kernel_rfl) (fun k h1 h2 => (ownd3 k h1 h2).1) (fun k h1 h2 => (ownd3 k h1 h2).2) (by intros; kernel_rfl) (fun ids w2 hp hf HW => write_any _ _ _ d3 x.v.v x.v.a1 x.v.c1 x.v.a2 x.v.c2 hxw.v.k hxw.v.c w2 HW (voX_at (BX hf.x.1).1.2 hw.fit.vs hxm) (by omega) (hdis ownd3 (fun k z => BF (.inl (.inr (.inr ⟨_, List.mem_map.2 ⟨x, hxm, rfl⟩, z⟩)))) hf (by simp))) [.sl 20 (.var 40) (.var 41)] rfl (by intros; kernel_rfl) (by intros; kernel_rfl) (by kernel_rfl) (by intros; kernel_rfl) (fun _ _ => oneNil) ?_
    intro ad4 cd4 ownd4 _
    have ownd4 : OwnB w B ad4 cd4 := ownd4
    have hd4 : d3 ++ vlB x.v.v = f0 ++ (m.vs.take (k + 1)).flatMap voB := by rw [hst, ed3, ed2, ed1]; unfold voB; simp only [List.append_assoc]
    rw [hd4]
    have hwk : IntKind.i64.wrap ((k : Int) + 1) = ((k + 1 : Nat) : Int) := by rw [wrap_i64 (by omega)]; omega
    exact again_V ⟨[IntKind.i64.wrap ((k : Int) + 1)], [], [], [(f0 ++ (m.vs.take (k + 1)).flatMap voB).length, cd4], [ad4]⟩ rfl (by intros; kernel_rfl) _ (fun w2 ids hf => ⟨hf.x, hf.sep⟩) ⟨m.vs.length - (k + 1), by omega, k + 1, ad4, cd4, rfl, by omega, ownd4, by rw [hwk], rfl⟩
  have hke : k = m.vs.length := by omega
  have hf1' : f1 = f0 ++ m.vs.flatMap voB := by rw [ef1, hke, List.take_length]
  obtain ⟨f2, ef2⟩ : ∃ b, b = f1 ++ bitB u 64 (cmdB m.c) := ⟨_, rfl⟩
  have lf2 : f2.length ≤ f1.length + 72 := by
    have h1 := bitB_len u 64 (cmdB m.c)
    have h2 : (cmdB m.c).length ≤ 72 := cmdB_len hw.c
    rw [ef2, List.length_append]; omega
  refine ⟨fun vs hx => ∃ (a2 : Option Addr) (c2 : Nat), OwnB w B a2 c2 ∧ vs = ⟨[], [], [], [f2.length, c2], [a2]⟩ ∧ hx = B.and (frow a2 c2 f2), ?_, ?_⟩
  · refine br_B (ub u 64) (by kernel_rfl) (fun h => ?_) (fun h => ?_)
    · have e2 : f2 = f1 ++ (cmdB m.c) := by rw [ef2]; unfold bitB; rw [if_pos h]
      refine node_wr (rest := B) (bs := f1) (bs' := f1 ++ cmdB m.c) 2 (fun a' c' => ⟨[], [], [], [(f1 ++ cmdB m.c).length, c'], [a']⟩) (fun ids => .tuple #[]) (fun ids => #[.pointer (some ⟨idAt ids 2, 0, none⟩), .agg m.c.cells.toArray]) rfl rfl (by intros; kernel_rfl) (fun k h1 h2 => (ownf1 k h1 h2).1) (fun k h1 h2 => (ownf1 k h1 h2).2) (by intros; kernel_rfl) (fun ids w2 hp hf HW => putcmd_any _ _ _ f1 m.c hw.c w2 HW (by omega)) [.sl 15 (.var 30) (.var 31)] rfl (by intros; kernel_rfl) (by intros; kernel_rfl) (by kernel_rfl) (by intros; kernel_rfl) (fun _ _ => oneNil) ?_
      intro ax cx ownx _
      have ownx : OwnB w B ax cx := ownx
      rw [← e2]
      exact again_V ⟨[], [], [], [f2.length, cx], [ax]⟩ rfl (by intros; kernel_rfl) _ (fun w2 ids hf => ⟨hf.x, hf.sep⟩) ⟨ax, cx, ownx, rfl, rfl⟩
    · have e2 : f2 = f1 := by rw [ef2]; unfold bitB; rw [if_neg (by rw [h]; decide), List.append_nil]
      exact again_V ⟨[], [], [], [f1.length, cf1], [af1]⟩ rfl (by intros; kernel_rfl) _ (fun w2 ids hf => ⟨hf.x, hf.sep⟩) ⟨af1, cf1, ownf1, by rw [e2], by rw [e2]⟩
  rintro vs hx hcntf2 ⟨af2, cf2, ownf2, rfl, rfl⟩
  refine holds_env (ρ' := ⟨[m.k, m.f, m.t, m.e, m.r, m.n, m.slot, m.low, m.tm, m.p.v.k, m.c.sess, m.c.seq, m.c.ack, m.c.op.kind, m.c.op.reg, m.c.op.tg, m.c.op.re, m.c.op.im, m.rk, m.re, m.im, e0, u, (k : Int)], [], [], [m.p.v.cs.length, m.p.c1, m.p.v.ns.length, m.p.c2, m.vs.length, m.cv, m.d.length, m.cd, b1.length, cb1, b2.length, cb2, b3.length, cb3, b4.length, cb4, b5.length, cb5, b6.length, cb6, b7.length, cb7, b8.length, cb8, b9.length, cb9, f0.length, cf0, f1.length, cf1, f2.length, cf2], [m.p.a1, m.p.a2, m.av, m.ad, ab1, ab2, ab3, ab4, ab5, ab6, ab7, ab8, ab9, af0, af1, af2]⟩) rfl ?_
  obtain ⟨f3, ef3⟩ : ∃ b, b = f2 ++ bitB u 128 (resY m) := ⟨_, rfl⟩
  have lf3 : f3.length ≤ f2.length + 27 := by
    have h1 := bitB_len u 128 (resY m)
    have h2 : (resY m).length ≤ 27 := (by have h4 := numB_len (foldN_lt hw.rk); have h5 := numB_len (foldN_lt hw.re); have h6 := numB_len (foldN_lt hw.im); unfold resY; simp only [List.length_append]; omega)
    rw [ef3, List.length_append]; omega
  refine ⟨fun vs hx => ∃ (a2 : Option Addr) (c2 : Nat), OwnB w B a2 c2 ∧ vs = ⟨[], [], [], [f3.length, c2], [a2]⟩ ∧ hx = B.and (frow a2 c2 f3), ?_, ?_⟩
  · refine br_B (ub u 128) (by kernel_rfl) (fun h => ?_) (fun h => ?_)
    · have e2 : f3 = f2 ++ (resY m) := by rw [ef3]; unfold bitB; rw [if_pos h]
      have gk := numB_len (foldN_lt hw.rk)
      have ge := numB_len (foldN_lt hw.re)
      have gi := numB_len (foldN_lt hw.im)
      obtain ⟨y1, ey1⟩ : ∃ b, b = f2 ++ numB (foldN m.rk) := ⟨_, rfl⟩
      have ly1 : y1.length = f2.length + (numB (foldN m.rk)).length := by rw [ey1, List.length_append]
      obtain ⟨y2, ey2⟩ : ∃ b, b = y1 ++ numB (foldN m.re) := ⟨_, rfl⟩
      have ly2 : y2.length = y1.length + (numB (foldN m.re)).length := by rw [ey2, List.length_append]
      refine node_wr (rest := B) (bs := f2) (bs' := y1) 2 (fun a' c' => ⟨[], [], [], [(y1).length, c'], [a']⟩) (fun ids => .pointer (some ⟨idAt ids 2, 0, none⟩)) (fun ids => #[.pointer (some ⟨idAt ids 2, 0, none⟩), .int .i64 m.rk]) rfl rfl (by intros; kernel_rfl) (fun k h1 h2 => (ownf2 k h1 h2).1) (fun k h1 h2 => (ownf2 k h1 h2).2) (by intros; kernel_rfl) (fun ids w2 hp hf HW => by rw [ey1]; exact wint_any _ _ _ f2 m.rk hw.rk w2 HW (by omega)) [.sl 16 (.var 32) (.var 33)] rfl (by intros; kernel_rfl) (by intros; kernel_rfl) (by kernel_rfl) (by intros; kernel_rfl) (fun _ _ => oneNil) ?_
      intro ay1 cy1 owny1 _
      have owny1 : OwnB w B ay1 cy1 := owny1
      refine node_wr (rest := B) (bs := y1) (bs' := y2) 2 (fun a' c' => ⟨[], [], [], [(y2).length, c'], [a']⟩) (fun ids => .pointer (some ⟨idAt ids 2, 0, none⟩)) (fun ids => #[.pointer (some ⟨idAt ids 2, 0, none⟩), .int .i64 m.re]) rfl rfl (by intros; kernel_rfl) (fun k h1 h2 => (owny1 k h1 h2).1) (fun k h1 h2 => (owny1 k h1 h2).2) (by intros; kernel_rfl) (fun ids w2 hp hf HW => by rw [ey2]; exact wint_any _ _ _ y1 m.re hw.re w2 HW (by omega)) [.sl 17 (.var 34) (.var 35)] rfl (by intros; kernel_rfl) (by intros; kernel_rfl) (by kernel_rfl) (by intros; kernel_rfl) (fun _ _ => oneNil) ?_
      intro ay2 cy2 owny2 _
      have owny2 : OwnB w B ay2 cy2 := owny2
      refine node_wr (rest := B) (bs := y2) (bs' := y2 ++ numB (foldN m.im)) 2 (fun a' c' => ⟨[], [], [], [(y2 ++ numB (foldN m.im)).length, c'], [a']⟩) (fun ids => .pointer (some ⟨idAt ids 2, 0, none⟩)) (fun ids => #[.pointer (some ⟨idAt ids 2, 0, none⟩), .int .i64 m.im]) rfl rfl (by intros; kernel_rfl) (fun k h1 h2 => (owny2 k h1 h2).1) (fun k h1 h2 => (owny2 k h1 h2).2) (by intros; kernel_rfl) (fun ids w2 hp hf HW => wint_any _ _ _ y2 m.im hw.im w2 HW (by omega)) [.sl 18 (.var 36) (.var 37)] rfl (by intros; kernel_rfl) (by intros; kernel_rfl) (by kernel_rfl) (by intros; kernel_rfl) (fun _ _ => oneNil) ?_
      intro ay3 cy3 owny3 _
      have owny3 : OwnB w B ay3 cy3 := owny3
      have e3 : y2 ++ numB (foldN m.im) = f3 := by rw [e2, ey2, ey1]; unfold resY; simp only [List.append_assoc]
      rw [e3]
      exact again_V ⟨[], [], [], [f3.length, cy3], [ay3]⟩ rfl (by intros; kernel_rfl) _ (fun w2 ids hf => ⟨hf.x, hf.sep⟩) ⟨ay3, cy3, owny3, rfl, rfl⟩
    · have e2 : f3 = f2 := by rw [ef3]; unfold bitB; rw [if_neg (by rw [h]; decide), List.append_nil]
      exact again_V ⟨[], [], [], [f2.length, cf2], [af2]⟩ rfl (by intros; kernel_rfl) _ (fun w2 ids hf => ⟨hf.x, hf.sep⟩) ⟨af2, cf2, ownf2, by rw [e2], by rw [e2]⟩
  rintro vs hx hcntf3 ⟨af3, cf3, ownf3, rfl, rfl⟩
  refine holds_env (ρ' := ⟨[m.k, m.f, m.t, m.e, m.r, m.n, m.slot, m.low, m.tm, m.p.v.k, m.c.sess, m.c.seq, m.c.ack, m.c.op.kind, m.c.op.reg, m.c.op.tg, m.c.op.re, m.c.op.im, m.rk, m.re, m.im, e0, u, (k : Int)], [], [], [m.p.v.cs.length, m.p.c1, m.p.v.ns.length, m.p.c2, m.vs.length, m.cv, m.d.length, m.cd, b1.length, cb1, b2.length, cb2, b3.length, cb3, b4.length, cb4, b5.length, cb5, b6.length, cb6, b7.length, cb7, b8.length, cb8, b9.length, cb9, f0.length, cf0, f1.length, cf1, f2.length, cf2, f3.length, cf3], [m.p.a1, m.p.a2, m.av, m.ad, ab1, ab2, ab3, ab4, ab5, ab6, ab7, ab8, ab9, af0, af1, af2, af3]⟩) rfl ?_
  have hdl : m.d.length ≤ 1024 := by have := G.pl.dl; omega
  obtain ⟨f4, ef4⟩ : ∃ b, b = f3 ++ bitB u 256 (numB m.d.length ++ m.d) := ⟨_, rfl⟩
  have lf4 : f4.length ≤ f3.length + 1033 := by
    have h1 := bitB_len u 256 (numB m.d.length ++ m.d)
    have h2 : (numB m.d.length ++ m.d).length ≤ 1033 := (by have h4 := numB_len (u := m.d.length) (by omega); rw [List.length_append]; omega)
    rw [ef4, List.length_append]; omega
  refine ⟨fun vs hx => ∃ (a2 : Option Addr) (c2 : Nat), OwnB w B a2 c2 ∧ vs = ⟨[], [], [], [f4.length, c2], [a2]⟩ ∧ hx = B.and (frow a2 c2 f4), ?_, ?_⟩
  · refine br_B (ub u 256) (by kernel_rfl) (fun h => ?_) (fun h => ?_)
    · have e2 : f4 = f3 ++ (numB m.d.length ++ m.d) := by rw [ef4]; unfold bitB; rw [if_pos h]
      refine node_wr (rest := B) (bs := f3) (bs' := f3 ++ (numB m.d.length ++ m.d)) 2 (fun a' c' => ⟨[], [], [], [(f3 ++ (numB m.d.length ++ m.d)).length, c'], [a']⟩) (fun ids => .pointer (some ⟨idAt ids 2, 0, none⟩)) (fun ids => #[.pointer (some ⟨idAt ids 2, 0, none⟩), .slice m.ad m.d.length m.cd]) rfl rfl (by intros; kernel_rfl) (fun k h1 h2 => (ownf3 k h1 h2).1) (fun k h1 h2 => (ownf3 k h1 h2).2) (by intros; kernel_rfl) (fun ids w2 hp hf HW => wtext_any _ _ _ f3 m.ad m.cd m.d w2 HW (BX hf.x.1).2 (fun k z => ⟨fun e => (hf.sep k (.inl (BF (.inr z)))).2 (e ▸ idAt_mem (by rw [hf.len]; simp)), fun q => (ownf3 k q.1 q.2).2 (BF (.inr z))⟩) (by omega)) [.sl 17 (.var 34) (.var 35)] rfl (by intros; kernel_rfl) (by intros; kernel_rfl) (by kernel_rfl) (by intros; kernel_rfl) (fun _ _ => oneNil) ?_
      intro ax cx ownx _
      have ownx : OwnB w B ax cx := ownx
      rw [← e2]
      exact again_V ⟨[], [], [], [f4.length, cx], [ax]⟩ rfl (by intros; kernel_rfl) _ (fun w2 ids hf => ⟨hf.x, hf.sep⟩) ⟨ax, cx, ownx, rfl, rfl⟩
    · have e2 : f4 = f3 := by rw [ef4]; unfold bitB; rw [if_neg (by rw [h]; decide), List.append_nil]
      exact again_V ⟨[], [], [], [f3.length, cf3], [af3]⟩ rfl (by intros; kernel_rfl) _ (fun w2 ids hf => ⟨hf.x, hf.sep⟩) ⟨af3, cf3, ownf3, by rw [e2], by rw [e2]⟩
  rintro vs hx hcntf4 ⟨af4, cf4, ownf4, rfl, rfl⟩
  refine holds_env (ρ' := ⟨[m.k, m.f, m.t, m.e, m.r, m.n, m.slot, m.low, m.tm, m.p.v.k, m.c.sess, m.c.seq, m.c.ack, m.c.op.kind, m.c.op.reg, m.c.op.tg, m.c.op.re, m.c.op.im, m.rk, m.re, m.im, e0, u, (k : Int)], [], [], [m.p.v.cs.length, m.p.c1, m.p.v.ns.length, m.p.c2, m.vs.length, m.cv, m.d.length, m.cd, b1.length, cb1, b2.length, cb2, b3.length, cb3, b4.length, cb4, b5.length, cb5, b6.length, cb6, b7.length, cb7, b8.length, cb8, b9.length, cb9, f0.length, cf0, f1.length, cf1, f2.length, cf2, f3.length, cf3, f4.length, cf4], [m.p.a1, m.p.a2, m.av, m.ad, ab1, ab2, ab3, ab4, ab5, ab6, ab7, ab8, ab9, af0, af1, af2, af3, af4]⟩) rfl ?_
  have hall : f4 = mB m := by
    rw [ef4, ef3, ef2, hf1', ef0, eb9, eb8, eb7, eb6, eb5, eb4, eb3, eb2, eb1, eu]
    unfold mB
    simp only [List.append_assoc, List.nil_append]
  refine node_newi (V := id) (bs := f4) (fun ids => #[.pointer (some ⟨idAt ids 2, 0, none⟩)]) (fun a' c' => ⟨[], [], [], [f4.length, c'], [a']⟩) (by intros; kernel_rfl) (fun ids w2 hp hf => wbytes_any _ _ _ f4 w2 (w_at 2 hf rfl (by intros; kernel_rfl)) (by omega)) (by intros; kernel_rfl) (by kernel_rfl) (by kernel_rfl) (by intros; kernel_rfl) (fun _ _ => oneNil) ?_
  intro a' c' _ hfr ids w2 hp hf
  rw [← hall]
  exact ⟨a', c', rfl, hf.x.2, fun k h1 h2 => (hfr k h1 h2).1, hf.chg.below⟩
end Go.Proofs.Ytadgaefmoobcoaa

namespace Go.Eng
open Go.RowKit Go.Syn
set_option linter.unusedVariables false
theorem Facts.init2 {P : Program} {w : World} {M : Nat → Prop} {R : Ending → World → Prop} {ρ : Env} {c : Cnt} {hx : HX} {b0 b1 t0 t1 : Nat} {c0 c1 : List LV} {u0 u1 : List Value} (hc : ρ.cnt = c) (h1 : ∀ v, v ∈ ρ.v → v.oneCell' = true) (g0 : Blk w b0 u0 t0) (g1 : Blk w b1 u1 t1)
    (e0 : cellsDen ρ [b0, b1] c0 = u0) (e1 : cellsDen ρ [b0, b1] c1 = u1) (hn : b0 ≠ b1) (hM : M b0 ∧ M b1) (hX : hx.X w) (hsep : ∀ k, hx.F k → k < w.heap.size ∧ k ≠ b0 ∧ k ≠ b1) :
    Facts ⟨P, w, M, R⟩ ⟨[(t0, c0), (t1, c1)], c⟩ ρ [b0, b1] hx w := by
  refine ⟨rfl, ?_, fun n ty cs h => ?_, fun id hid => .inr ?_, Chg.refl _ _, hX, fun k hk => ⟨(hsep k hk).1, ?_⟩, ⟨hc, h1⟩⟩
  · simp only [List.nodup_cons, List.mem_cons, List.not_mem_nil, or_false, not_false_eq_true, List.nodup_nil, and_true]
    exact hn
  · rcases n with _ | _ | n
    · cases h; rw [e0]; exact g0
    · cases h; rw [e1]; exact g1
    · cases h
  · simp only [List.mem_cons, List.not_mem_nil, or_false] at hid
    rcases hid with rfl | rfl
    · exact hM.1
    · exact hM.2
  · simp only [List.mem_cons, List.not_mem_nil, or_false, not_or]
    exact (hsep k hk).2
theorem idAt2 {b0 b1 : Nat} {ids : List Nat} (h : [b0, b1] <+: ids) : idAt ids 0 = b0 ∧ idAt ids 1 = b1 := by
  obtain ⟨r, rfl⟩ := h
  exact ⟨rfl, rfl⟩
end Go.Eng
namespace Go.Proofs.Ytadgaefmoobcoaa
open Go.ChangeShapes Go.WideShapes Go.ChangeAt Go.RowKit Go.Syn Go.Eng
set_option linter.unusedVariables false
set_option linter.unusedSimpArgs false
set_option maxRecDepth 100000
abbrev big : Int := 1125899906842624
def opt {α : Type} (c : Bool) (x y : α) : α := if c = true then x else y
def sB (u : Int) (bs : List Int) (q : Nat × Int) : Nat × Int := opt (ub u 1) (stC big bs (stC big bs q)) q
def gB (u : Int) (bs : List Int) (q : Nat × Int) (m : Ms) : Ms := opt (ub u 1) { m with r := (vaC big bs q : Int), n := (vaC big bs (stC big bs q) : Int) } m
def sN (b u : Int) (bs : List Int) (q : Nat × Int) : Nat × Int := opt (ub u b) (stC big bs q) q
def gS (u : Int) (bs : List Int) (q : Nat × Int) (m : Ms) : Ms := opt (ub u 2) { m with slot := (vaC big bs q : Int) } m
def gL (u : Int) (bs : List Int) (q : Nat × Int) (m : Ms) : Ms := opt (ub u 4) { m with low := (vaC big bs q : Int) } m
def gT (u : Int) (bs : List Int) (q : Nat × Int) (m : Ms) : Ms := opt (ub u 8) { m with tm := (vaC big bs q : Int) } m
def sV (u : Int) (bs : List Int) (q : Nat × Int) : Nat × Int := opt (ub u 16) (rdS bs q) q
def vV (u : Int) (bs : List Int) (q : Nat × Int) : Vl := opt (ub u 16) (rdV bs q) vz
def vtS (bs : List Int) (q : Nat × Int) : Nat × Int := rdS bs (stC big bs (stC big bs (stC big bs q)))
def vtV (bs : List Int) (q : Nat × Int) : Vo Vl := ⟨(vaC big bs q : Int), (vaC big bs (stC big bs q) : Int), (vaC big bs (stC big bs (stC big bs q)) : Int), rdV bs (stC big bs (stC big bs (stC big bs q)))⟩
def voN (bs : List Int) (k : Nat) (q : Nat × Int) : List (Vo Vl) := (List.range k).map fun j => vtV bs (itN (vtS bs) j q)
theorem voN_step (bs : List Int) (k : Nat) (q : Nat × Int) : voN bs (k + 1) q = voN bs k q ++ [vtV bs (itN (vtS bs) k q)] := by unfold voN; rw [List.range_succ, List.map_append]; rfl
theorem itN_succ {α : Type} (f : α → α) (k : Nat) (x : α) : itN f (k + 1) x = f (itN f k x) := rfl
theorem voN_len (bs : List Int) (k : Nat) (q : Nat × Int) : (voN bs k q).length = k := by unfold voN; rw [List.length_map, List.length_range]
def sO (u : Int) (bs : List Int) (q : Nat × Int) : Nat × Int := opt (ub u 32) (itN (vtS bs) (vaC 64 bs q) (stC 64 bs q)) q
def vO (u : Int) (bs : List Int) (q : Nat × Int) : List (Vo Vl) := opt (ub u 32) (voN bs (vaC 64 bs q) (stC 64 bs q)) []
def sC (u : Int) (bs : List Int) (q : Nat × Int) : Nat × Int := opt (ub u 64) (tcS bs q) q
def gC (u : Int) (bs : List Int) (q : Nat × Int) (m : Ms) : Ms := opt (ub u 64) { m with c := tcC bs q } m
def sR (u : Int) (bs : List Int) (q : Nat × Int) : Nat × Int := opt (ub u 128) (stN bs (stN bs (stN bs q))) q
def gR (u : Int) (bs : List Int) (q : Nat × Int) (m : Ms) : Ms := opt (ub u 128) { m with rk := vaN bs q, re := vaN bs (stN bs q), im := vaN bs (stN bs (stN bs q)) } m
def sD (u : Int) (bs : List Int) (q : Nat × Int) : Nat × Int := opt (ub u 256) (txS 1024 bs q) q
def vD (u : Int) (bs : List Int) (q : Nat × Int) : List Int := opt (ub u 256) (txD 1024 bs q) []
def q4 (u : Int) (bs : List Int) (q : Nat × Int) : Nat × Int := sN 8 u bs (sN 4 u bs (sN 2 u bs (sB u bs q)))
def q6 (u : Int) (bs : List Int) (q : Nat × Int) : Nat × Int := sO u bs (sV u bs (q4 u bs q))
def q8 (u : Int) (bs : List Int) (q : Nat × Int) : Nat × Int := sR u bs (sC u bs (q6 u bs q))
def q9 (u : Int) (bs : List Int) (q : Nat × Int) : Nat × Int := sD u bs (q8 u bs q)
theorem opt_le {bs : List Int} {c : Bool} {x y : Nat × Int} (h1 : x.1 ≤ bs.length) (h2 : y.1 ≤ bs.length) : (opt c x y).1 ≤ bs.length := by unfold opt; split <;> assumption
theorem rdS_le' (bs : List Int) (p : Nat × Int) : (rdS bs p).1 ≤ bs.length := it_le (stC_le _ _) (stC_le _ _ _) _
theorem vtS_le (bs : List Int) (p : Nat × Int) : (vtS bs p).1 ≤ bs.length := rdS_le' _ _
def pvR (p : Pv) : HX := (crow p.a1 p.v.cs.length p.c1 p.v.cs).and (nrow p.a2 p.v.ns.length p.c2 p.v.ns)
def vrow (a : Option Addr) (c : Nat) (vs : List (Vo Pv)) : HX := HX.rw 6 59 a vs.length c (vocs vs)
def voAll (vs : List (Vo Pv)) : HX := HX.all (vs.map fun x => pvR x.v)
def Ms.R (m : Ms) : HX := (((pvR m.p).and (voAll m.vs)).and (vrow m.av m.cv m.vs)).and (frow m.ad m.cd m.d)
theorem pvR_z (w : World) : (pvR pz).X w := ⟨HX.rw_nil _ _ _ _, HX.rw_nil _ _ _ _⟩
theorem pvR_zF {k : Nat} (h : (pvR pz).F k) : False := h.elim (fun q => q.1 rfl) fun q => q.1 rfl
theorem voC_one (x : Vo Pv) : ∀ v ∈ voC x, v.oneCell' = true := fun v hv => by
  simp only [voC, List.mem_cons, List.not_mem_nil, or_false] at hv
  rcases hv with rfl | rfl | rfl | rfl | rfl | rfl <;> rfl
theorem vocs_snoc (xs : List (Vo Pv)) (x : Vo Pv) : vocs xs ++ voC x = vocs (xs ++ [x]) := by unfold vocs; rw [List.flatMap_append]; simp
theorem info_vote : (Try.prog.info? 59).map (fun i => (i.zero, i.size, i.bytes)) = some (some (.agg #[.int .i64 0, .int .i64 0, .int .i64 0, .int .i64 0, .slice none 0 0, .slice none 0 0]), 6, 80) := by kernel_rfl
theorem all_snocV (xs : List HX) (x : HX) : HX.all (xs ++ [x]) = (HX.all xs).and x := HX.ext (by
    funext k
    refine propext ⟨fun ⟨y, hy, hk⟩ => ?_, fun h => ?_⟩
    · rcases List.mem_append.1 hy with hy | hy
      · exact .inl ⟨y, hy, hk⟩
      · rw [List.mem_singleton.1 hy] at hk; exact .inr hk
    · rcases h with ⟨y, hy, hk⟩ | hk
      · exact ⟨y, List.mem_append_left _ hy, hk⟩
      · exact ⟨x, List.mem_append_right _ (List.mem_singleton.2 rfl), hk⟩) (by
    funext w
    refine propext ⟨fun h => ⟨fun y hy => h y (List.mem_append_left _ hy), h x (List.mem_append_right _ (List.mem_singleton.2 rfl))⟩, fun h y hy => ?_⟩
    rcases List.mem_append.1 hy with hy | hy
    · exact h.1 y hy
    · rw [List.mem_singleton.1 hy]; exact h.2)
theorem voAll_snoc (xs : List (Vo Pv)) (x : Vo Pv) : voAll (xs ++ [x]) = (voAll xs).and (pvR x.v) := by unfold voAll; rw [List.map_append]; exact all_snocV _ _
theorem and_rot (a b c d : HX) : ((a.and b).and c).and d = ((a.and c).and d).and b := by rw [HX.and_right_comm a b c, HX.and_right_comm (a.and c) b d]
def OwnR (W : World) (B : HX) (X : HX) : Prop := ∀ k, X.F k → W.heap.size ≤ k ∧ ¬ B.F k
def stV (a : Option Addr) (cap : Nat) (bs : List Int) (m : Ms) (q : Nat × Int) : Vals := ⟨(q.1 : Int) :: q.2 :: m.ints, [], [], bs.length :: cap :: m.nats, a :: m.adrs⟩
def FdR (w : World) (rb mb : Nat) (a : Option Addr) (cap : Nat) (bs : List Int) (u : Int) (q : Nat × Int) (m0 : Ms) (e : Ending) (w' : World) : Prop :=
  e = .returned (.tuple #[]) ∧ ∃ (pp : Pv) (av : Option Addr) (cv : Nat) (vs : List (Vo Pv)) (ad : Option Addr) (cd : Nat) (m : Ms),
    pp.v = vV u bs (q4 u bs q) ∧ vlsOf vs = vO u bs (sV u bs (q4 u bs q)) ∧
    m = { gR u bs (sC u bs (q6 u bs q)) (gC u bs (q6 u bs q) { gT u bs (sN 4 u bs (sN 2 u bs (sB u bs q))) (gL u bs (sN 2 u bs (sB u bs q)) (gS u bs (sB u bs q) (gB u bs q m0))) with p := pp, av := av, cv := cv, vs := vs }) with ad := ad, cd := cd, d := vD u bs (q8 u bs q) } ∧
    Blk w' rb (rcells a cap bs (q9 u bs q).1 (q9 u bs q).2) 128 ∧ Blk w' mb m.cells 37 ∧ m.R.X w' ∧ (∀ k, m.R.F k → w.heap.size ≤ k ∧ k < w'.heap.size) ∧ Chg (fun k => k = rb ∨ k = mb) w w'
section
variable {C : Cfg} {ρ : Env} {pre : List Nat} {hx : HX} {L : Stack} {m m' : Mem} {args : List SV} {r : SV} {t : Tree}
theorem node_rtx {a : Option Addr} {cap : Nat} {bs : List Int} {p : Nat × Int} {cs : List LV} (n : Nat) (most : Int) (hm : I64 most) (hok : RdOk hx a cap bs) (hix : p.1 ≤ bs.length) (hP : C.P = Try.prog) (hn : m.hp[n]? = some (128, cs)) (hcs : ∀ ids, cellsDen ρ ids cs = rcells a cap bs p.1 p.2)
    (hargs : ∀ ids, (args.map (SV.den ρ ids)).toArray = #[.pointer (some ⟨idAt ids n, 0, none⟩), .int .i64 most]) (cs' : List LV) (hhp : m'.hp = m.hp.set n (128, cs')) (hcs' : ∀ ad cd ids, cellsDen (ρ.add ⟨[((txS most bs p).1 : Int), (txS most bs p).2], [], [], [bs.length, cap, (txD most bs p).length, cd], [a, ad]⟩) ids cs' = rcells a cap bs (txS most bs p).1 (txS most bs p).2) (hr : ∀ ad cd ids, r.den (ρ.add ⟨[((txS most bs p).1 : Int), (txS most bs p).2], [], [], [bs.length, cap, (txD most bs p).length, cd], [a, ad]⟩) ids = .slice ad (txD most bs p).length cd)
    (hfit : hpFits m.c m.hp.length m.hp = true) (hc : ∀ ad cd, (ρ.add ⟨[((txS most bs p).1 : Int), (txS most bs p).2], [], [], [bs.length, cap, (txD most bs p).length, cd], [a, ad]⟩).cnt = m'.c)
    (h : ∀ ad cd, (∀ k, cd ≠ 0 → abk ad = some k → C.W.heap.size ≤ k ∧ ¬ hx.F k) → t.holds C (ρ.add ⟨[((txS most bs p).1 : Int), (txS most bs p).2], [], [], [bs.length, cap, (txD most bs p).length, cd], [a, ad]⟩) pre (hx.and (frow ad cd (txD most bs p))) L) : (Tree.call 85 args m r m' t).holds C ρ pre hx L := by
  intro ids w hp hf
  rw [hargs, hP]
  have hlt : n < m.hp.length := by
    rcases Nat.lt_or_ge n m.hp.length with q | q
    · exact q
    · rw [List.getElem?_eq_none q] at hn; cases hn
  have hmem := idAt_mem (ids := ids) (n := n) (hf.len ▸ hlt)
  refine (rtext_any (idAt ids n) a cap bs p most hm w (rd_at n hok hix hf hn hcs)).mono ?_
  rintro e w' ⟨ad, cd, rfl, hb, hX, g1, hg⟩
  refine ⟨_, ids, _, by rw [← hr ad cd ids], List.prefix_refl _, hf.act (F := fun b => b = idAt ids n) ⟨hg.os, hg.tape, hg.output, hg.size, fun k hk q => hg.block k hk (fun e => q (Option.some.inj e))⟩ (fun b q => .inl q) hn ?_ (hx' := hx.and (frow ad cd (txD most bs p))) ⟨hx.loc w w' hf.x (fun k hk => ?_), hX⟩ (fun k hk => ?_) hhp hfit (hc _ _) oneNil, holds_pre t hp (h ad cd ?_)⟩
  · rw [hcs']; exact hb
  · exact hg.block k (hf.sep k hk).1 (fun e => (hf.sep k hk).2 (Option.some.inj e ▸ hmem))
  · rcases hk with hk | hk
    · exact .inl hk
    · exact .inr ⟨g1 k hk.1 hk.2, rw_ltx hX hk.1 hk.2⟩
  · intro k k1 k2
    exact ⟨Nat.le_trans hf.chg.size (g1 k k1 k2), fun q => by have := (hf.sep _ q).1; have := g1 k k1 k2; omega⟩
end
set_option maxHeartbeats 8000000 in
theorem fields_any (rb mb : Nat) (a : Option Addr) (cap : Nat) (bs : List Int) (u : Int) (z0 : Nat × Int) (m0 : Ms) (w : World) (H : RdAt w rb a cap bs z0.1 z0.2) (Hm : Blk w mb m0.cells 37) (hne : rb ≠ mb) (hbm : ∀ k, (HX.cl a (bcells bs)).F k → k ≠ mb) (hp0 : m0.p = pz) (hv0 : m0.vs = [] ∧ m0.av = none ∧ m0.cv = 0) (hd0 : m0.d = [] ∧ m0.ad = none ∧ m0.cd = 0) :
    Calls Try.prog 61 #[.pointer (some ⟨rb, 0, none⟩), .pointer (some ⟨mb, 0, none⟩), .int .i64 u] w (FdR w rb mb a cap bs u z0 m0) := by
  obtain ⟨B, eB⟩ : ∃ x, x = HX.cl a (bcells bs) := ⟨_, rfl⟩
  have hokB : ∀ {hx : HX}, (∀ w, hx.X w → B.X w) → (∀ k, B.F k → hx.F k) → RdOk hx a cap bs := fun h1 h2 => ⟨fun w h => by have := h1 w h; rw [eB] at this; exact this, fun k h => h2 k (by rw [eB]; exact h), H.byt, H.len, H.cap⟩
  have hB0 : B.X w := by rw [eB]; exact H.mem
  refine calls_at (tab_ok _) Try.func61 rfl tFields (ρ := ⟨m0.ints ++ [(z0.1 : Int), z0.2, u], [], [], m0.nats ++ [bs.length, cap], m0.adrs ++ [a]⟩) (ids := [rb, mb]) (hx := B) (M := fun k => k = rb ∨ k = mb) rfl (Facts.init2 rfl oneNil H.blk Hm rfl rfl hne ⟨.inl rfl, .inr rfl⟩ hB0 (fun k hk => by rw [eB] at hk; exact ⟨(H.sepc k hk).1, (H.sepc k hk).2, hbm k hk⟩)) ?_
  have hcnt : ∀ (most : Int), I64 most → ∀ (q : Nat × Int), ∀ w b, RdAt w b a cap bs q.1 q.2 → Calls Try.prog 59 #[.pointer (some ⟨b, 0, none⟩), .int .i64 most] w (At1 w b 128 (.int .i64 (vaC most bs q : Int)) (rcells a cap bs (stC most bs q).1 (stC most bs q).2)) := fun most hm q w b h => rcount_any b a cap bs q.1 q.2 most hm w h
  have hint : ∀ (q : Nat × Int), ∀ w b, RdAt w b a cap bs q.1 q.2 → Calls Try.prog 84 #[.pointer (some ⟨b, 0, none⟩)] w (At1 w b 128 (.int .i64 (vaN bs q)) (rcells a cap bs (stN bs q).1 (stN bs q).2)) := fun q w b h => rint_any b a cap bs q.1 q.2 w h
  have hbig : I64 big := by unfold I64; decide
  have h64 : I64 64 := by unfold I64; decide
  have hok0 := hokB (hx := B) (fun w h => h) (fun k h => h)
  have hz0 := H.ix
  refine holds_env (ρ' := ⟨[m0.k, m0.f, m0.t, m0.e, m0.r, m0.n, m0.slot, m0.low, m0.tm, m0.p.v.k, m0.c.sess, m0.c.seq, m0.c.ack, m0.c.op.kind, m0.c.op.reg, m0.c.op.tg, m0.c.op.re, m0.c.op.im, m0.rk, m0.re, m0.im, (z0.1 : Int), z0.2, u], [], [], [m0.p.v.cs.length, m0.p.c1, m0.p.v.ns.length, m0.p.c2, m0.vs.length, m0.cv, m0.d.length, m0.cd, bs.length, cap], [m0.p.a1, m0.p.a2, m0.av, m0.ad, a]⟩) rfl ?_
  refine ⟨fun vs hx => vs = stV a cap bs (gB u bs z0 m0) (sB u bs z0) ∧ B = hx, ?_, ?_⟩
  · refine br_B (ub u 1) (by kernel_rfl) (fun h => ?_) (fun h => again_V (stV a cap bs m0 z0) rfl (by intros; kernel_rfl) _ (fun w2 ids hf => ⟨hf.x, hf.sep⟩) ⟨by unfold gB sB opt; rw [if_neg (by rw [h]; decide), if_neg (by rw [h]; decide)], rfl⟩)
    refine node_rd (V := .int .i64 (vaC big bs z0 : Int)) (ix := z0.1) (bad := z0.2) (ix' := (stC big bs z0).1) (bad' := (stC big bs z0).2) 0 ⟨[((stC big bs z0).1 : Int), (stC big bs z0).2, (vaC big bs z0 : Int)], [], [], [bs.length, cap], [a]⟩ (fun b => #[.pointer (some ⟨b, 0, none⟩), .int .i64 big]) hok0 hz0 rfl rfl (by intros; kernel_rfl) (by intros; kernel_rfl) (hcnt big hbig z0) [.sl 5 (.var 10) (.var 11), .int .i64 (.var 24), .int .i64 (.var 25)] rfl (by intros; kernel_rfl) (by intros; kernel_rfl) (by kernel_rfl) (by kernel_rfl) oneNil ?_
    obtain ⟨y0, ey0⟩ : ∃ x, x = stC big bs z0 := ⟨_, rfl⟩
    have ly0 : y0.1 ≤ bs.length := by rw [ey0]; exact stC_le _ _ _
    rw [← ey0]
    refine node_rd (V := .int .i64 (vaC big bs y0 : Int)) (ix := y0.1) (bad := y0.2) (ix' := (stC big bs y0).1) (bad' := (stC big bs y0).2) 0 ⟨[((stC big bs y0).1 : Int), (stC big bs y0).2, (vaC big bs y0 : Int)], [], [], [bs.length, cap], [a]⟩ (fun b => #[.pointer (some ⟨b, 0, none⟩), .int .i64 big]) hok0 ly0 rfl rfl (by intros; kernel_rfl) (by intros; kernel_rfl) (hcnt big hbig y0) [.sl 6 (.var 12) (.var 13), .int .i64 (.var 27), .int .i64 (.var 28)] rfl (by intros; kernel_rfl) (by intros; kernel_rfl) (by kernel_rfl) (by kernel_rfl) oneNil ?_
    obtain ⟨y1, ey1⟩ : ∃ x, x = stC big bs y0 := ⟨_, rfl⟩
    have ly1 : y1.1 ≤ bs.length := by rw [ey1]; exact stC_le _ _ _
    rw [← ey1]
    exact again_V (stV a cap bs { m0 with r := (vaC big bs z0 : Int), n := (vaC big bs y0 : Int) } y1) rfl (by intros; kernel_rfl) _ (fun w2 ids hf => ⟨hf.x, hf.sep⟩) ⟨by unfold gB sB opt; rw [if_pos h, if_pos h, ey1, ey0], rfl⟩
  rintro vs hx hcn1 ⟨rfl, rfl⟩
  obtain ⟨m1, em1⟩ : ∃ x, x = gB u bs z0 m0 := ⟨_, rfl⟩
  obtain ⟨z1, ez1⟩ : ∃ x, x = sB u bs z0 := ⟨_, rfl⟩
  rw [← em1, ← ez1]
  have hz1 : z1.1 ≤ bs.length := by rw [ez1]; exact opt_le (stC_le _ _ _) hz0
  refine holds_env (ρ' := ⟨[m0.k, m0.f, m0.t, m0.e, m0.r, m0.n, m0.slot, m0.low, m0.tm, m0.p.v.k, m0.c.sess, m0.c.seq, m0.c.ack, m0.c.op.kind, m0.c.op.reg, m0.c.op.tg, m0.c.op.re, m0.c.op.im, m0.rk, m0.re, m0.im, (z0.1 : Int), z0.2, u, (z1.1 : Int), z1.2, m1.k, m1.f, m1.t, m1.e, m1.r, m1.n, m1.slot, m1.low, m1.tm, m1.p.v.k, m1.c.sess, m1.c.seq, m1.c.ack, m1.c.op.kind, m1.c.op.reg, m1.c.op.tg, m1.c.op.re, m1.c.op.im, m1.rk, m1.re, m1.im], [], [], [m0.p.v.cs.length, m0.p.c1, m0.p.v.ns.length, m0.p.c2, m0.vs.length, m0.cv, m0.d.length, m0.cd, bs.length, cap, bs.length, cap, m1.p.v.cs.length, m1.p.c1, m1.p.v.ns.length, m1.p.c2, m1.vs.length, m1.cv, m1.d.length, m1.cd], [m0.p.a1, m0.p.a2, m0.av, m0.ad, a, a, m1.p.a1, m1.p.a2, m1.av, m1.ad]⟩) rfl ?_
  refine ⟨fun vs hx => vs = stV a cap bs (gS u bs z1 m1) (sN 2 u bs z1) ∧ B = hx, ?_, ?_⟩
  · refine br_B (ub u 2) (by kernel_rfl) (fun h => ?_) (fun h => again_V (stV a cap bs m1 z1) rfl (by intros; kernel_rfl) _ (fun w2 ids hf => ⟨hf.x, hf.sep⟩) ⟨by unfold gS sN opt; rw [if_neg (by rw [h]; decide), if_neg (by rw [h]; decide)], rfl⟩)
    refine node_rd (V := .int .i64 (vaC big bs z1 : Int)) (ix := z1.1) (bad := z1.2) (ix' := (stC big bs z1).1) (bad' := (stC big bs z1).2) 0 ⟨[((stC big bs z1).1 : Int), (stC big bs z1).2, (vaC big bs z1 : Int)], [], [], [bs.length, cap], [a]⟩ (fun b => #[.pointer (some ⟨b, 0, none⟩), .int .i64 big]) hok0 hz1 rfl rfl (by intros; kernel_rfl) (by intros; kernel_rfl) (hcnt big hbig z1) [.sl 10 (.var 20) (.var 21), .int .i64 (.var 47), .int .i64 (.var 48)] rfl (by intros; kernel_rfl) (by intros; kernel_rfl) (by kernel_rfl) (by kernel_rfl) oneNil ?_
    obtain ⟨y0, ey0⟩ : ∃ x, x = stC big bs z1 := ⟨_, rfl⟩
    have ly0 : y0.1 ≤ bs.length := by rw [ey0]; exact stC_le _ _ _
    rw [← ey0]
    exact again_V (stV a cap bs { m1 with slot := (vaC big bs z1 : Int) } y0) rfl (by intros; kernel_rfl) _ (fun w2 ids hf => ⟨hf.x, hf.sep⟩) ⟨by unfold gS sN opt; rw [if_pos h, if_pos h, ey0], rfl⟩
  rintro vs hx hcn2 ⟨rfl, rfl⟩
  obtain ⟨m2, em2⟩ : ∃ x, x = gS u bs z1 m1 := ⟨_, rfl⟩
  obtain ⟨z2, ez2⟩ : ∃ x, x = sN 2 u bs z1 := ⟨_, rfl⟩
  rw [← em2, ← ez2]
  have hz2 : z2.1 ≤ bs.length := by rw [ez2]; exact opt_le (stC_le _ _ _) hz1
  refine holds_env (ρ' := ⟨[m0.k, m0.f, m0.t, m0.e, m0.r, m0.n, m0.slot, m0.low, m0.tm, m0.p.v.k, m0.c.sess, m0.c.seq, m0.c.ack, m0.c.op.kind, m0.c.op.reg, m0.c.op.tg, m0.c.op.re, m0.c.op.im, m0.rk, m0.re, m0.im, (z0.1 : Int), z0.2, u, (z1.1 : Int), z1.2, m1.k, m1.f, m1.t, m1.e, m1.r, m1.n, m1.slot, m1.low, m1.tm, m1.p.v.k, m1.c.sess, m1.c.seq, m1.c.ack, m1.c.op.kind, m1.c.op.reg, m1.c.op.tg, m1.c.op.re, m1.c.op.im, m1.rk, m1.re, m1.im, (z2.1 : Int), z2.2, m2.k, m2.f, m2.t, m2.e, m2.r, m2.n, m2.slot, m2.low, m2.tm, m2.p.v.k, m2.c.sess, m2.c.seq, m2.c.ack, m2.c.op.kind, m2.c.op.reg, m2.c.op.tg, m2.c.op.re, m2.c.op.im, m2.rk, m2.re, m2.im], [], [], [m0.p.v.cs.length, m0.p.c1, m0.p.v.ns.length, m0.p.c2, m0.vs.length, m0.cv, m0.d.length, m0.cd, bs.length, cap, bs.length, cap, m1.p.v.cs.length, m1.p.c1, m1.p.v.ns.length, m1.p.c2, m1.vs.length, m1.cv, m1.d.length, m1.cd, bs.length, cap, m2.p.v.cs.length, m2.p.c1, m2.p.v.ns.length, m2.p.c2, m2.vs.length, m2.cv, m2.d.length, m2.cd], [m0.p.a1, m0.p.a2, m0.av, m0.ad, a, a, m1.p.a1, m1.p.a2, m1.av, m1.ad, a, m2.p.a1, m2.p.a2, m2.av, m2.ad]⟩) rfl ?_
  refine ⟨fun vs hx => vs = stV a cap bs (gL u bs z2 m2) (sN 4 u bs z2) ∧ B = hx, ?_, ?_⟩
  · refine br_B (ub u 4) (by kernel_rfl) (fun h => ?_) (fun h => again_V (stV a cap bs m2 z2) rfl (by intros; kernel_rfl) _ (fun w2 ids hf => ⟨hf.x, hf.sep⟩) ⟨by unfold gL sN opt; rw [if_neg (by rw [h]; decide), if_neg (by rw [h]; decide)], rfl⟩)
    refine node_rd (V := .int .i64 (vaC big bs z2 : Int)) (ix := z2.1) (bad := z2.2) (ix' := (stC big bs z2).1) (bad' := (stC big bs z2).2) 0 ⟨[((stC big bs z2).1 : Int), (stC big bs z2).2, (vaC big bs z2 : Int)], [], [], [bs.length, cap], [a]⟩ (fun b => #[.pointer (some ⟨b, 0, none⟩), .int .i64 big]) hok0 hz2 rfl rfl (by intros; kernel_rfl) (by intros; kernel_rfl) (hcnt big hbig z2) [.sl 15 (.var 30) (.var 31), .int .i64 (.var 70), .int .i64 (.var 71)] rfl (by intros; kernel_rfl) (by intros; kernel_rfl) (by kernel_rfl) (by kernel_rfl) oneNil ?_
    obtain ⟨y0, ey0⟩ : ∃ x, x = stC big bs z2 := ⟨_, rfl⟩
    have ly0 : y0.1 ≤ bs.length := by rw [ey0]; exact stC_le _ _ _
    rw [← ey0]
    exact again_V (stV a cap bs { m2 with low := (vaC big bs z2 : Int) } y0) rfl (by intros; kernel_rfl) _ (fun w2 ids hf => ⟨hf.x, hf.sep⟩) ⟨by unfold gL sN opt; rw [if_pos h, if_pos h, ey0], rfl⟩
  rintro vs hx hcn3 ⟨rfl, rfl⟩
  obtain ⟨m3, em3⟩ : ∃ x, x = gL u bs z2 m2 := ⟨_, rfl⟩
  obtain ⟨z3, ez3⟩ : ∃ x, x = sN 4 u bs z2 := ⟨_, rfl⟩
  rw [← em3, ← ez3]
  have hz3 : z3.1 ≤ bs.length := by rw [ez3]; exact opt_le (stC_le _ _ _) hz2
  refine holds_env (ρ' := ⟨[m0.k, m0.f, m0.t, m0.e, m0.r, m0.n, m0.slot, m0.low, m0.tm, m0.p.v.k, m0.c.sess, m0.c.seq, m0.c.ack, m0.c.op.kind, m0.c.op.reg, m0.c.op.tg, m0.c.op.re, m0.c.op.im, m0.rk, m0.re, m0.im, (z0.1 : Int), z0.2, u, (z1.1 : Int), z1.2, m1.k, m1.f, m1.t, m1.e, m1.r, m1.n, m1.slot, m1.low, m1.tm, m1.p.v.k, m1.c.sess, m1.c.seq, m1.c.ack, m1.c.op.kind, m1.c.op.reg, m1.c.op.tg, m1.c.op.re, m1.c.op.im, m1.rk, m1.re, m1.im, (z2.1 : Int), z2.2, m2.k, m2.f, m2.t, m2.e, m2.r, m2.n, m2.slot, m2.low, m2.tm, m2.p.v.k, m2.c.sess, m2.c.seq, m2.c.ack, m2.c.op.kind, m2.c.op.reg, m2.c.op.tg, m2.c.op.re, m2.c.op.im, m2.rk, m2.re, m2.im, (z3.1 : Int), z3.2, m3.k, m3.f, m3.t, m3.e, m3.r, m3.n, m3.slot, m3.low, m3.tm, m3.p.v.k, m3.c.sess, m3.c.seq, m3.c.ack, m3.c.op.kind, m3.c.op.reg, m3.c.op.tg, m3.c.op.re, m3.c.op.im, m3.rk, m3.re, m3.im], [], [], [m0.p.v.cs.length, m0.p.c1, m0.p.v.ns.length, m0.p.c2, m0.vs.length, m0.cv, m0.d.length, m0.cd, bs.length, cap, bs.length, cap, m1.p.v.cs.length, m1.p.c1, m1.p.v.ns.length, m1.p.c2, m1.vs.length, m1.cv, m1.d.length, m1.cd, bs.length, cap, m2.p.v.cs.length, m2.p.c1, m2.p.v.ns.length, m2.p.c2, m2.vs.length, m2.cv, m2.d.length, m2.cd, bs.length, cap, m3.p.v.cs.length, m3.p.c1, m3.p.v.ns.length, m3.p.c2, m3.vs.length, m3.cv, m3.d.length, m3.cd], [m0.p.a1, m0.p.a2, m0.av, m0.ad, a, a, m1.p.a1, m1.p.a2, m1.av, m1.ad, a, m2.p.a1, m2.p.a2, m2.av, m2.ad, a, m3.p.a1, m3.p.a2, m3.av, m3.ad]⟩) rfl ?_
  refine ⟨fun vs hx => vs = stV a cap bs (gT u bs z3 m3) (sN 8 u bs z3) ∧ B = hx, ?_, ?_⟩
  · refine br_B (ub u 8) (by kernel_rfl) (fun h => ?_) (fun h => again_V (stV a cap bs m3 z3) rfl (by intros; kernel_rfl) _ (fun w2 ids hf => ⟨hf.x, hf.sep⟩) ⟨by unfold gT sN opt; rw [if_neg (by rw [h]; decide), if_neg (by rw [h]; decide)], rfl⟩)
    refine node_rd (V := .int .i64 (vaC big bs z3 : Int)) (ix := z3.1) (bad := z3.2) (ix' := (stC big bs z3).1) (bad' := (stC big bs z3).2) 0 ⟨[((stC big bs z3).1 : Int), (stC big bs z3).2, (vaC big bs z3 : Int)], [], [], [bs.length, cap], [a]⟩ (fun b => #[.pointer (some ⟨b, 0, none⟩), .int .i64 big]) hok0 hz3 rfl rfl (by intros; kernel_rfl) (by intros; kernel_rfl) (hcnt big hbig z3) [.sl 20 (.var 40) (.var 41), .int .i64 (.var 93), .int .i64 (.var 94)] rfl (by intros; kernel_rfl) (by intros; kernel_rfl) (by kernel_rfl) (by kernel_rfl) oneNil ?_
    obtain ⟨y0, ey0⟩ : ∃ x, x = stC big bs z3 := ⟨_, rfl⟩
    have ly0 : y0.1 ≤ bs.length := by rw [ey0]; exact stC_le _ _ _
    rw [← ey0]
    exact again_V (stV a cap bs { m3 with tm := (vaC big bs z3 : Int) } y0) rfl (by intros; kernel_rfl) _ (fun w2 ids hf => ⟨hf.x, hf.sep⟩) ⟨by unfold gT sN opt; rw [if_pos h, if_pos h, ey0], rfl⟩
  rintro vs hx hcn4 ⟨rfl, rfl⟩
  obtain ⟨m4, em4⟩ : ∃ x, x = gT u bs z3 m3 := ⟨_, rfl⟩
  obtain ⟨z4, ez4⟩ : ∃ x, x = sN 8 u bs z3 := ⟨_, rfl⟩
  rw [← em4, ← ez4]
  have hz4 : z4.1 ≤ bs.length := by rw [ez4]; exact opt_le (stC_le _ _ _) hz3
  refine holds_env (ρ' := ⟨[m0.k, m0.f, m0.t, m0.e, m0.r, m0.n, m0.slot, m0.low, m0.tm, m0.p.v.k, m0.c.sess, m0.c.seq, m0.c.ack, m0.c.op.kind, m0.c.op.reg, m0.c.op.tg, m0.c.op.re, m0.c.op.im, m0.rk, m0.re, m0.im, (z0.1 : Int), z0.2, u, (z1.1 : Int), z1.2, m1.k, m1.f, m1.t, m1.e, m1.r, m1.n, m1.slot, m1.low, m1.tm, m1.p.v.k, m1.c.sess, m1.c.seq, m1.c.ack, m1.c.op.kind, m1.c.op.reg, m1.c.op.tg, m1.c.op.re, m1.c.op.im, m1.rk, m1.re, m1.im, (z2.1 : Int), z2.2, m2.k, m2.f, m2.t, m2.e, m2.r, m2.n, m2.slot, m2.low, m2.tm, m2.p.v.k, m2.c.sess, m2.c.seq, m2.c.ack, m2.c.op.kind, m2.c.op.reg, m2.c.op.tg, m2.c.op.re, m2.c.op.im, m2.rk, m2.re, m2.im, (z3.1 : Int), z3.2, m3.k, m3.f, m3.t, m3.e, m3.r, m3.n, m3.slot, m3.low, m3.tm, m3.p.v.k, m3.c.sess, m3.c.seq, m3.c.ack, m3.c.op.kind, m3.c.op.reg, m3.c.op.tg, m3.c.op.re, m3.c.op.im, m3.rk, m3.re, m3.im, (z4.1 : Int), z4.2, m4.k, m4.f, m4.t, m4.e, m4.r, m4.n, m4.slot, m4.low, m4.tm, m4.p.v.k, m4.c.sess, m4.c.seq, m4.c.ack, m4.c.op.kind, m4.c.op.reg, m4.c.op.tg, m4.c.op.re, m4.c.op.im, m4.rk, m4.re, m4.im], [], [], [m0.p.v.cs.length, m0.p.c1, m0.p.v.ns.length, m0.p.c2, m0.vs.length, m0.cv, m0.d.length, m0.cd, bs.length, cap, bs.length, cap, m1.p.v.cs.length, m1.p.c1, m1.p.v.ns.length, m1.p.c2, m1.vs.length, m1.cv, m1.d.length, m1.cd, bs.length, cap, m2.p.v.cs.length, m2.p.c1, m2.p.v.ns.length, m2.p.c2, m2.vs.length, m2.cv, m2.d.length, m2.cd, bs.length, cap, m3.p.v.cs.length, m3.p.c1, m3.p.v.ns.length, m3.p.c2, m3.vs.length, m3.cv, m3.d.length, m3.cd, bs.length, cap, m4.p.v.cs.length, m4.p.c1, m4.p.v.ns.length, m4.p.c2, m4.vs.length, m4.cv, m4.d.length, m4.cd], [m0.p.a1, m0.p.a2, m0.av, m0.ad, a, a, m1.p.a1, m1.p.a2, m1.av, m1.ad, a, m2.p.a1, m2.p.a2, m2.av, m2.ad, a, m3.p.a1, m3.p.a2, m3.av, m3.ad, a, m4.p.a1, m4.p.a2, m4.av, m4.ad]⟩) rfl ?_
  have keepB : ∀ (q : Nat × Int) (m : Ms), (gB u bs q m).p = m.p ∧ (gB u bs q m).vs = m.vs ∧ (gB u bs q m).av = m.av ∧ (gB u bs q m).cv = m.cv ∧ (gB u bs q m).d = m.d ∧ (gB u bs q m).ad = m.ad ∧ (gB u bs q m).cd = m.cd := fun q m => by unfold gB opt; split <;> exact ⟨rfl, rfl, rfl, rfl, rfl, rfl, rfl⟩
  have keepS : ∀ (q : Nat × Int) (m : Ms), (gS u bs q m).p = m.p ∧ (gS u bs q m).vs = m.vs ∧ (gS u bs q m).av = m.av ∧ (gS u bs q m).cv = m.cv ∧ (gS u bs q m).d = m.d ∧ (gS u bs q m).ad = m.ad ∧ (gS u bs q m).cd = m.cd := fun q m => by unfold gS opt; split <;> exact ⟨rfl, rfl, rfl, rfl, rfl, rfl, rfl⟩
  have keepL : ∀ (q : Nat × Int) (m : Ms), (gL u bs q m).p = m.p ∧ (gL u bs q m).vs = m.vs ∧ (gL u bs q m).av = m.av ∧ (gL u bs q m).cv = m.cv ∧ (gL u bs q m).d = m.d ∧ (gL u bs q m).ad = m.ad ∧ (gL u bs q m).cd = m.cd := fun q m => by unfold gL opt; split <;> exact ⟨rfl, rfl, rfl, rfl, rfl, rfl, rfl⟩
  have keepT : ∀ (q : Nat × Int) (m : Ms), (gT u bs q m).p = m.p ∧ (gT u bs q m).vs = m.vs ∧ (gT u bs q m).av = m.av ∧ (gT u bs q m).cv = m.cv ∧ (gT u bs q m).d = m.d ∧ (gT u bs q m).ad = m.ad ∧ (gT u bs q m).cd = m.cd := fun q m => by unfold gT opt; split <;> exact ⟨rfl, rfl, rfl, rfl, rfl, rfl, rfl⟩
  have hm4 : m4.p = pz ∧ m4.vs = [] ∧ m4.av = none ∧ m4.cv = 0 ∧ m4.d = [] ∧ m4.ad = none ∧ m4.cd = 0 := by
    obtain ⟨a1, a2, a3, a4, a5, a6, a7⟩ := keepB z0 m0
    obtain ⟨b1, b2, b3, b4, b5, b6, b7⟩ := keepS z1 m1
    obtain ⟨c1, c2, c3, c4, c5, c6, c7⟩ := keepL z2 m2
    obtain ⟨d1, d2, d3, d4, d5, d6, d7⟩ := keepT z3 m3
    rw [← em1] at a1 a2 a3 a4 a5 a6 a7
    rw [← em2] at b1 b2 b3 b4 b5 b6 b7
    rw [← em3] at c1 c2 c3 c4 c5 c6 c7
    rw [← em4] at d1 d2 d3 d4 d5 d6 d7
    rw [d1, d2, d3, d4, d5, d6, d7, c1, c2, c3, c4, c5, c6, c7, b1, b2, b3, b4, b5, b6, b7, a1, a2, a3, a4, a5, a6, a7]
    exact ⟨hp0, hv0.1, hv0.2.1, hv0.2.2, hd0.1, hd0.2.1, hd0.2.2⟩
  obtain ⟨g1, g2, g3, g4, g5, g6, g7⟩ := hm4
  -- the value
  refine ⟨fun vs hx => ∃ pp : Pv, pp.v = vV u bs z4 ∧ OwnR w B (pvR pp) ∧ vs = stV a cap bs { m4 with p := pp } (sV u bs z4) ∧ hx = B.and (pvR pp), ?_, ?_⟩
  · refine br_B (ub u 16) (by kernel_rfl) (fun h => ?_) (fun h => ?_)
    · refine node_read (p := z4) (bs := bs) 0 (fun a1 c1 a2 c2 => ⟨[((rdS bs z4).1 : Int), (rdS bs z4).2, (rdV bs z4).k], [], [], [bs.length, cap, (rdV bs z4).cs.length, c1, (rdV bs z4).ns.length, c2], [a, a1, a2]⟩) hok0 hz4 rfl rfl (by intros; kernel_rfl) (by intros; kernel_rfl) [.sl 25 (.var 50) (.var 51), .int .i64 (.var 116), .int .i64 (.var 117)] rfl (by intros; kernel_rfl) (by intros; kernel_rfl) (by kernel_rfl) (by intros; kernel_rfl) (fun _ _ _ _ => oneNil) ?_
      intro a1 c1 a2 c2 f1 f2 _
      refine again_V (stV a cap bs { m4 with p := ⟨rdV bs z4, a1, c1, a2, c2⟩ } (rdS bs z4)) rfl (by intros; kernel_rfl) (B.and (pvR ⟨rdV bs z4, a1, c1, a2, c2⟩)) (fun w2 ids hf => ⟨⟨hf.x.1.1, hf.x.1.2, hf.x.2⟩, fun k hk => hf.sep k (hk.elim (fun q => .inl (.inl q)) fun q => q.elim (fun q => .inl (.inr q)) .inr)⟩) ⟨_, by unfold vV opt; rw [if_pos h], fun k hk => hk.elim (fun q => f1 k q.1 q.2) fun q => f2 k q.1 q.2, by unfold sV opt; rw [if_pos h], rfl⟩
    · refine again_V (stV a cap bs { m4 with p := pz } z4) rfl (fun ids => by rw [← g1]; kernel_rfl) (B.and (pvR pz)) (fun w2 ids hf => ⟨⟨hf.x, pvR_z _⟩, fun k hk => hf.sep k (hk.elim id fun q => (pvR_zF q).elim)⟩) ⟨pz, by unfold vV opt; rw [if_neg (by rw [h]; decide)]; rfl, fun k hk => (pvR_zF hk).elim, by unfold sV opt; rw [if_neg (by rw [h]; decide)], rfl⟩
  rintro vs hx hcn5 ⟨pp, hpp, ownp, rfl, rfl⟩
  obtain ⟨m5, em5⟩ : ∃ x, x = ({ m4 with p := pp } : Ms) := ⟨_, rfl⟩
  obtain ⟨z5, ez5⟩ : ∃ x, x = sV u bs z4 := ⟨_, rfl⟩
  rw [← em5, ← ez5]
  have hz5 : z5.1 ≤ bs.length := by rw [ez5]; exact opt_le (rdS_le' _ _) hz4
  refine holds_env (ρ' := ⟨[m0.k, m0.f, m0.t, m0.e, m0.r, m0.n, m0.slot, m0.low, m0.tm, m0.p.v.k, m0.c.sess, m0.c.seq, m0.c.ack, m0.c.op.kind, m0.c.op.reg, m0.c.op.tg, m0.c.op.re, m0.c.op.im, m0.rk, m0.re, m0.im, (z0.1 : Int), z0.2, u, (z1.1 : Int), z1.2, m1.k, m1.f, m1.t, m1.e, m1.r, m1.n, m1.slot, m1.low, m1.tm, m1.p.v.k, m1.c.sess, m1.c.seq, m1.c.ack, m1.c.op.kind, m1.c.op.reg, m1.c.op.tg, m1.c.op.re, m1.c.op.im, m1.rk, m1.re, m1.im, (z2.1 : Int), z2.2, m2.k, m2.f, m2.t, m2.e, m2.r, m2.n, m2.slot, m2.low, m2.tm, m2.p.v.k, m2.c.sess, m2.c.seq, m2.c.ack, m2.c.op.kind, m2.c.op.reg, m2.c.op.tg, m2.c.op.re, m2.c.op.im, m2.rk, m2.re, m2.im, (z3.1 : Int), z3.2, m3.k, m3.f, m3.t, m3.e, m3.r, m3.n, m3.slot, m3.low, m3.tm, m3.p.v.k, m3.c.sess, m3.c.seq, m3.c.ack, m3.c.op.kind, m3.c.op.reg, m3.c.op.tg, m3.c.op.re, m3.c.op.im, m3.rk, m3.re, m3.im, (z4.1 : Int), z4.2, m4.k, m4.f, m4.t, m4.e, m4.r, m4.n, m4.slot, m4.low, m4.tm, m4.p.v.k, m4.c.sess, m4.c.seq, m4.c.ack, m4.c.op.kind, m4.c.op.reg, m4.c.op.tg, m4.c.op.re, m4.c.op.im, m4.rk, m4.re, m4.im, (z5.1 : Int), z5.2, m5.k, m5.f, m5.t, m5.e, m5.r, m5.n, m5.slot, m5.low, m5.tm, m5.p.v.k, m5.c.sess, m5.c.seq, m5.c.ack, m5.c.op.kind, m5.c.op.reg, m5.c.op.tg, m5.c.op.re, m5.c.op.im, m5.rk, m5.re, m5.im], [], [], [m0.p.v.cs.length, m0.p.c1, m0.p.v.ns.length, m0.p.c2, m0.vs.length, m0.cv, m0.d.length, m0.cd, bs.length, cap, bs.length, cap, m1.p.v.cs.length, m1.p.c1, m1.p.v.ns.length, m1.p.c2, m1.vs.length, m1.cv, m1.d.length, m1.cd, bs.length, cap, m2.p.v.cs.length, m2.p.c1, m2.p.v.ns.length, m2.p.c2, m2.vs.length, m2.cv, m2.d.length, m2.cd, bs.length, cap, m3.p.v.cs.length, m3.p.c1, m3.p.v.ns.length, m3.p.c2, m3.vs.length, m3.cv, m3.d.length, m3.cd, bs.length, cap, m4.p.v.cs.length, m4.p.c1, m4.p.v.ns.length, m4.p.c2, m4.vs.length, m4.cv, m4.d.length, m4.cd, bs.length, cap, m5.p.v.cs.length, m5.p.c1, m5.p.v.ns.length, m5.p.c2, m5.vs.length, m5.cv, m5.d.length, m5.cd], [m0.p.a1, m0.p.a2, m0.av, m0.ad, a, a, m1.p.a1, m1.p.a2, m1.av, m1.ad, a, m2.p.a1, m2.p.a2, m2.av, m2.ad, a, m3.p.a1, m3.p.a2, m3.av, m3.ad, a, m4.p.a1, m4.p.a2, m4.av, m4.ad, a, m5.p.a1, m5.p.a2, m5.av, m5.ad]⟩) rfl ?_
  obtain ⟨B1, eB1⟩ : ∃ x, x = B.and (pvR pp) := ⟨_, rfl⟩
  have hB1 : ∀ {w}, B1.X w → B.X w ∧ (pvR pp).X w := fun h => by rw [eB1] at h; exact h
  have hF1 : ∀ {k}, B.F k → B1.F k := fun h => by rw [eB1]; exact .inl h
  rw [← eB1]
  have hok1 := hokB (hx := B1) (fun w h => (hB1 h).1) (fun k h => hF1 h)
  -- the votes
  have stEq : ∀ (x : Ms) (b c : Option Addr) (i j : Nat) (l : List (Vo Pv)), stV a cap bs { x with av := b, cv := i, vs := l } = stV a cap bs { x with av := b, cv := i, vs := l } := fun _ _ _ _ _ _ => rfl
  refine ⟨fun vs hx => ∃ (av : Option Addr) (cv : Nat) (xs : List (Vo Pv)), vlsOf xs = vO u bs z5 ∧ OwnR w B1 (voAll xs) ∧ OwnR w (B1.and (voAll xs)) (vrow av cv xs) ∧ vs = stV a cap bs { m5 with av := av, cv := cv, vs := xs } (sO u bs z5) ∧ hx = (B1.and (voAll xs)).and (vrow av cv xs), ?_, ?_⟩
  · have nilF : ∀ {k}, (voAll []).F k → False := fun ⟨x, hx, _⟩ => by cases hx
    have none0 : vrow none 0 [] = vrow none 0 [] := rfl
    have start : ∀ {w : World} {ids : List Nat}, HXok B1 w ids → HXok ((B1.and (voAll [])).and (vrow none 0 [])) w ids := fun h => ⟨⟨⟨h.1, fun x hx => by cases hx⟩, HX.rw_nil _ _ _ _⟩, fun k hk => hk.elim (fun q => q.elim (fun q => h.2 k q) fun q => (nilF q).elim) fun q => absurd rfl q.1⟩
    refine br_B (ub u 32) (by kernel_rfl) (fun h => ?_) (fun h => ?_)
    · have e5 : m5 = { m5 with av := none, cv := 0, vs := [] } := by rw [em5]; show ({ m4 with p := pp } : Ms) = { m4 with p := pp, av := none, cv := 0, vs := [] }; rw [← g2, ← g3, ← g4]
      refine node_rd (V := .int .i64 (vaC 64 bs z5 : Int)) (ix := z5.1) (bad := z5.2) (ix' := (stC 64 bs z5).1) (bad' := (stC 64 bs z5).2) 0 ⟨[((stC 64 bs z5).1 : Int), (stC 64 bs z5).2, (vaC 64 bs z5 : Int)], [], [], [bs.length, cap], [a]⟩ (fun b => #[.pointer (some ⟨b, 0, none⟩), .int .i64 64]) hok1 hz5 rfl rfl (by intros; kernel_rfl) (by intros; kernel_rfl) (hcnt 64 h64 z5) [.sl 30 (.var 60) (.var 61), .int .i64 (.var 139), .int .i64 (.var 140)] rfl (by intros; kernel_rfl) (by intros; kernel_rfl) (by kernel_rfl) (by kernel_rfl) oneNil ?_
      obtain ⟨y0, ey0⟩ : ∃ x, x = stC 64 bs z5 := ⟨_, rfl⟩
      have ly0 : y0.1 ≤ bs.length := by rw [ey0]; exact stC_le _ _ _
      rw [← ey0]
      obtain ⟨n, en⟩ : ∃ x, x = vaC 64 bs z5 := ⟨_, rfl⟩
      rw [← en]
      have hn64 : n ≤ 64 := by have := vaC_le (most := 64) (by decide) bs z5; omega
      refine ⟨fun vs hx j => ∃ (k : Nat) (av : Option Addr) (cv : Nat) (xs : List (Vo Pv)), j = n - k ∧ k ≤ n ∧ vlsOf xs = voN bs k y0 ∧ xs.length = k ∧ OwnR w B1 (voAll xs) ∧ OwnR w (B1.and (voAll xs)) (vrow av cv xs) ∧ vs = ⟨(k : Int) :: (stV a cap bs { m5 with av := av, cv := cv, vs := xs } (itN (vtS bs) k y0)).i, [], [], (stV a cap bs { m5 with av := av, cv := cv, vs := xs } (itN (vtS bs) k y0)).n, (stV a cap bs { m5 with av := av, cv := cv, vs := xs } (itN (vtS bs) k y0)).a⟩ ∧ hx = (B1.and (voAll xs)).and (vrow av cv xs), fun ids w2 hp hf => ⟨_, n, start ⟨hf.x, hf.sep⟩, 0, none, 0, [], rfl, Nat.zero_le _, rfl, rfl, fun k hk => (nilF hk).elim, fun k hk => absurd rfl hk.1, by rw [← e5]; kernel_rfl, rfl⟩, ?_⟩
      rintro vs hx' j hcn6 ⟨k, av, cv, xs, rfl, hkn, hvl, hxl, ownv, ownr, rfl, rfl⟩
      obtain ⟨x0, ex0⟩ : ∃ x, x = itN (vtS bs) k y0 := ⟨_, rfl⟩
      have hx0 : x0.1 ≤ bs.length := by rw [ex0]; exact it_le (vtS_le bs) ly0 k
      rw [← ex0]
      obtain ⟨m6, em6⟩ : ∃ x, x = ({ m5 with av := av, cv := cv, vs := xs } : Ms) := ⟨_, rfl⟩
      rw [← em6]
      refine holds_env (ρ' := ⟨[m0.k, m0.f, m0.t, m0.e, m0.r, m0.n, m0.slot, m0.low, m0.tm, m0.p.v.k, m0.c.sess, m0.c.seq, m0.c.ack, m0.c.op.kind, m0.c.op.reg, m0.c.op.tg, m0.c.op.re, m0.c.op.im, m0.rk, m0.re, m0.im, (z0.1 : Int), z0.2, u, (z1.1 : Int), z1.2, m1.k, m1.f, m1.t, m1.e, m1.r, m1.n, m1.slot, m1.low, m1.tm, m1.p.v.k, m1.c.sess, m1.c.seq, m1.c.ack, m1.c.op.kind, m1.c.op.reg, m1.c.op.tg, m1.c.op.re, m1.c.op.im, m1.rk, m1.re, m1.im, (z2.1 : Int), z2.2, m2.k, m2.f, m2.t, m2.e, m2.r, m2.n, m2.slot, m2.low, m2.tm, m2.p.v.k, m2.c.sess, m2.c.seq, m2.c.ack, m2.c.op.kind, m2.c.op.reg, m2.c.op.tg, m2.c.op.re, m2.c.op.im, m2.rk, m2.re, m2.im, (z3.1 : Int), z3.2, m3.k, m3.f, m3.t, m3.e, m3.r, m3.n, m3.slot, m3.low, m3.tm, m3.p.v.k, m3.c.sess, m3.c.seq, m3.c.ack, m3.c.op.kind, m3.c.op.reg, m3.c.op.tg, m3.c.op.re, m3.c.op.im, m3.rk, m3.re, m3.im, (z4.1 : Int), z4.2, m4.k, m4.f, m4.t, m4.e, m4.r, m4.n, m4.slot, m4.low, m4.tm, m4.p.v.k, m4.c.sess, m4.c.seq, m4.c.ack, m4.c.op.kind, m4.c.op.reg, m4.c.op.tg, m4.c.op.re, m4.c.op.im, m4.rk, m4.re, m4.im, (z5.1 : Int), z5.2, m5.k, m5.f, m5.t, m5.e, m5.r, m5.n, m5.slot, m5.low, m5.tm, m5.p.v.k, m5.c.sess, m5.c.seq, m5.c.ack, m5.c.op.kind, m5.c.op.reg, m5.c.op.tg, m5.c.op.re, m5.c.op.im, m5.rk, m5.re, m5.im, (y0.1 : Int), y0.2, (n : Int), (k : Int), (x0.1 : Int), x0.2, m6.k, m6.f, m6.t, m6.e, m6.r, m6.n, m6.slot, m6.low, m6.tm, m6.p.v.k, m6.c.sess, m6.c.seq, m6.c.ack, m6.c.op.kind, m6.c.op.reg, m6.c.op.tg, m6.c.op.re, m6.c.op.im, m6.rk, m6.re, m6.im], [], [], [m0.p.v.cs.length, m0.p.c1, m0.p.v.ns.length, m0.p.c2, m0.vs.length, m0.cv, m0.d.length, m0.cd, bs.length, cap, bs.length, cap, m1.p.v.cs.length, m1.p.c1, m1.p.v.ns.length, m1.p.c2, m1.vs.length, m1.cv, m1.d.length, m1.cd, bs.length, cap, m2.p.v.cs.length, m2.p.c1, m2.p.v.ns.length, m2.p.c2, m2.vs.length, m2.cv, m2.d.length, m2.cd, bs.length, cap, m3.p.v.cs.length, m3.p.c1, m3.p.v.ns.length, m3.p.c2, m3.vs.length, m3.cv, m3.d.length, m3.cd, bs.length, cap, m4.p.v.cs.length, m4.p.c1, m4.p.v.ns.length, m4.p.c2, m4.vs.length, m4.cv, m4.d.length, m4.cd, bs.length, cap, m5.p.v.cs.length, m5.p.c1, m5.p.v.ns.length, m5.p.c2, m5.vs.length, m5.cv, m5.d.length, m5.cd, bs.length, cap, bs.length, cap, m6.p.v.cs.length, m6.p.c1, m6.p.v.ns.length, m6.p.c2, m6.vs.length, m6.cv, m6.d.length, m6.cd], [m0.p.a1, m0.p.a2, m0.av, m0.ad, a, a, m1.p.a1, m1.p.a2, m1.av, m1.ad, a, m2.p.a1, m2.p.a2, m2.av, m2.ad, a, m3.p.a1, m3.p.a2, m3.av, m3.ad, a, m4.p.a1, m4.p.a2, m4.av, m4.ad, a, m5.p.a1, m5.p.a2, m5.av, m5.ad, a, a, m6.p.a1, m6.p.a2, m6.av, m6.ad]⟩) rfl ?_
      refine br_D (p := (k : Int) < (n : Int)) (by kernel_rfl) (fun hk => ?_) (fun hk => ?_)
      · have hk : k < n := by omega
        have hok2 := hokB (hx := (B1.and (voAll xs)).and (vrow av cv xs)) (fun w h => (hB1 h.1.1).1) (fun k h => .inl (.inl (hF1 h)))
        refine node_rd (V := .int .i64 (vaC big bs x0 : Int)) (ix := x0.1) (bad := x0.2) (ix' := (stC big bs x0).1) (bad' := (stC big bs x0).2) 0 ⟨[((stC big bs x0).1 : Int), (stC big bs x0).2, (vaC big bs x0 : Int)], [], [], [bs.length, cap], [a]⟩ (fun b => #[.pointer (some ⟨b, 0, none⟩), .int .i64 big]) hok2 hx0 rfl rfl (by intros; kernel_rfl) (by intros; kernel_rfl) (hcnt big hbig x0) [.sl 36 (.var 72) (.var 73), .int .i64 (.var 166), .int .i64 (.var 167)] rfl (by intros; kernel_rfl) (by intros; kernel_rfl) (by kernel_rfl) (by kernel_rfl) oneNil ?_
        obtain ⟨x1, ex1⟩ : ∃ x, x = stC big bs x0 := ⟨_, rfl⟩
        have lx1 : x1.1 ≤ bs.length := by rw [ex1]; exact stC_le _ _ _
        rw [← ex1]
        refine node_rd (V := .int .i64 (vaC big bs x1 : Int)) (ix := x1.1) (bad := x1.2) (ix' := (stC big bs x1).1) (bad' := (stC big bs x1).2) 0 ⟨[((stC big bs x1).1 : Int), (stC big bs x1).2, (vaC big bs x1 : Int)], [], [], [bs.length, cap], [a]⟩ (fun b => #[.pointer (some ⟨b, 0, none⟩), .int .i64 big]) hok2 lx1 rfl rfl (by intros; kernel_rfl) (by intros; kernel_rfl) (hcnt big hbig x1) [.sl 37 (.var 74) (.var 75), .int .i64 (.var 169), .int .i64 (.var 170)] rfl (by intros; kernel_rfl) (by intros; kernel_rfl) (by kernel_rfl) (by kernel_rfl) oneNil ?_
        obtain ⟨x2, ex2⟩ : ∃ x, x = stC big bs x1 := ⟨_, rfl⟩
        have lx2 : x2.1 ≤ bs.length := by rw [ex2]; exact stC_le _ _ _
        rw [← ex2]
        refine node_rd (V := .int .i64 (vaC big bs x2 : Int)) (ix := x2.1) (bad := x2.2) (ix' := (stC big bs x2).1) (bad' := (stC big bs x2).2) 0 ⟨[((stC big bs x2).1 : Int), (stC big bs x2).2, (vaC big bs x2 : Int)], [], [], [bs.length, cap], [a]⟩ (fun b => #[.pointer (some ⟨b, 0, none⟩), .int .i64 big]) hok2 lx2 rfl rfl (by intros; kernel_rfl) (by intros; kernel_rfl) (hcnt big hbig x2) [.sl 38 (.var 76) (.var 77), .int .i64 (.var 172), .int .i64 (.var 173)] rfl (by intros; kernel_rfl) (by intros; kernel_rfl) (by kernel_rfl) (by kernel_rfl) oneNil ?_
        obtain ⟨x3, ex3⟩ : ∃ x, x = stC big bs x2 := ⟨_, rfl⟩
        have lx3 : x3.1 ≤ bs.length := by rw [ex3]; exact stC_le _ _ _
        rw [← ex3]
        refine node_read (p := x3) (bs := bs) 0 (fun a1 c1 a2 c2 => ⟨[((rdS bs x3).1 : Int), (rdS bs x3).2, (rdV bs x3).k], [], [], [bs.length, cap, (rdV bs x3).cs.length, c1, (rdV bs x3).ns.length, c2], [a, a1, a2]⟩) hok2 lx3 rfl rfl (by intros; kernel_rfl) (by intros; kernel_rfl) [.sl 39 (.var 78) (.var 79), .int .i64 (.var 175), .int .i64 (.var 176)] rfl (by intros; kernel_rfl) (by intros; kernel_rfl) (by kernel_rfl) (by intros; kernel_rfl) (fun _ _ _ _ => oneNil) ?_
        intro a1 c1 a2 c2 f1 f2 _
        obtain ⟨x, exx⟩ : ∃ x : Vo Pv, x = ⟨(vaC big bs x0 : Int), (vaC big bs x1 : Int), (vaC big bs x2 : Int), ⟨rdV bs x3, a1, c1, a2, c2⟩⟩ := ⟨_, rfl⟩
        have hxv : Vo.map Pv.v x = vtV bs x0 := by rw [exx]; unfold vtV; rw [← ex1, ← ex2, ← ex3]; rfl
        have hst : itN (vtS bs) (k + 1) y0 = rdS bs x3 := by
          have h1 : itN (vtS bs) (k + 1) y0 = vtS bs x0 := by rw [ex0]; exact itN_succ _ _ _
          rw [h1]; unfold vtS; rw [← ex1, ← ex2, ← ex3]
        have hvl' : vlsOf (xs ++ [x]) = voN bs (k + 1) y0 := by
          rw [voN_step, ← ex0, ← hxv, ← hvl]
          unfold vlsOf
          rw [List.map_append]; rfl
        refine holds_eq (and_rot _ _ _ _) ?_
        have epc : ((B1.and (voAll xs)).and (crow a1 (rdV bs x3).cs.length c1 (rdV bs x3).cs)).and (nrow a2 (rdV bs x3).ns.length c2 (rdV bs x3).ns) = B1.and (voAll (xs ++ [x])) := by
          rw [voAll_snoc, exx]
          show _ = B1.and ((voAll xs).and ((crow a1 (rdV bs x3).cs.length c1 (rdV bs x3).cs).and (nrow a2 (rdV bs x3).ns.length c2 (rdV bs x3).ns)))
          ac_rfl
        refine holds_eq (congrArg (fun z => z.and (vrow av cv xs)) epc) ?_
        have fx : ∀ k, (pvR x.v).F k → w.heap.size ≤ k ∧ ¬ ((B1.and (voAll xs)).and (vrow av cv xs)).F k := fun k hk => by
          rw [exx] at hk
          exact hk.elim (fun q => f1 k q.1 q.2) fun q => f2 k q.1 q.2
        have ownv' : OwnR w B1 (voAll (xs ++ [x])) := fun k hk => by
          rw [voAll_snoc] at hk
          rcases hk with hk | hk
          · exact ownv k hk
          · exact ⟨(fx k hk).1, fun q => (fx k hk).2 (.inl (.inl q))⟩
        have hdis : ∀ q, cv ≠ 0 → abk av = some q → ¬ (B1.and (voAll (xs ++ [x]))).F q := fun q q1 q2 z => by
          rcases z with z | z
          · exact (ownr q ⟨q1, q2⟩).2 (.inl z)
          · rw [voAll_snoc] at z
            rcases z with z | z
            · exact (ownr q ⟨q1, q2⟩).2 (.inr z)
            · exact (fx q z).2 (.inr ⟨q1, q2⟩)
        have ecut : vrow av cv xs = HX.rw 6 59 av k cv (vocs xs) := by unfold vrow; rw [hxl]
        have hwk : IntKind.i64.wrap ((k : Int) + 1) = ((k + 1 : Nat) : Int) := by rw [wrap_i64 (by omega)]; omega
        have fin : ∀ {a' : Option Addr} {cap' : Nat} {mm : Mem} {ρ : Env} {es : Vec} {S : Stack}, cap' ≠ 0 → (∀ k, abk a' = some k → ¬ (B1.and (voAll (xs ++ [x]))).F k) → ((cv ≠ 0 ∧ abk a' = abk av) ∨ ∃ g, abk a' = some g ∧ w.heap.size ≤ g ∧ ¬ ((B1.and (voAll (xs ++ [x]))).and (HX.rw 6 59 av k cv (vocs xs))).F g) → (∀ ids, es.den ρ ids = ⟨IntKind.i64.wrap ((k : Int) + 1) :: (stV a cap bs { m5 with av := a', cv := cap', vs := xs ++ [x] } (rdS bs x3)).i, [], [], (stV a cap bs { m5 with av := a', cv := cap', vs := xs ++ [x] } (rdS bs x3)).n, (stV a cap bs { m5 with av := a', cv := cap', vs := xs ++ [x] } (rdS bs x3)).a⟩) →
            (Tree.again 12 es mm).holds ⟨Try.prog, w, fun k => k = rb ∨ k = mb, FdR w rb mb a cap bs u z0 m0⟩ ρ [rb, mb] ((B1.and (voAll (xs ++ [x]))).and (HX.rw 6 59 a' (k + 1) cap' (vocs xs ++ voC x))) ((12, fun vs' hx'' => ∃ n', n' < n - k ∧ ∃ (k : Nat) (av : Option Addr) (cv : Nat) (xs : List (Vo Pv)), n' = n - k ∧ k ≤ n ∧ vlsOf xs = voN bs k y0 ∧ xs.length = k ∧ OwnR w B1 (voAll xs) ∧ OwnR w (B1.and (voAll xs)) (vrow av cv xs) ∧ vs' = ⟨(k : Int) :: (stV a cap bs { m5 with av := av, cv := cv, vs := xs } (itN (vtS bs) k y0)).i, [], [], (stV a cap bs { m5 with av := av, cv := cv, vs := xs } (itN (vtS bs) k y0)).n, (stV a cap bs { m5 with av := av, cv := cv, vs := xs } (itN (vtS bs) k y0)).a⟩ ∧ hx'' = (B1.and (voAll xs)).and (vrow av cv xs)) :: S) := fun {a' cap' mm ρ es S} hc' hr' hor' hes => by
          have erow : HX.rw 6 59 a' (k + 1) cap' (vocs xs ++ voC x) = vrow a' cap' (xs ++ [x]) := by unfold vrow; rw [vocs_snoc, List.length_append, hxl]; rfl
          refine holds_eq (congrArg _ erow) ?_
          refine again_V _ rfl hes _ (fun w2 ids hf => ⟨hf.x, hf.sep⟩) ⟨n - (k + 1), by omega, k + 1, a', cap', xs ++ [x], rfl, by omega, hvl', by rw [List.length_append, hxl]; rfl, ownv', fun q hq => ⟨?_, hr' q hq.2⟩, by rw [hwk, hst], rfl⟩
          rcases hor' with ⟨r1, r2⟩ | ⟨g, r1, r2, _⟩
          · exact (ownr q ⟨r1, by rw [← r2]; exact hq.2⟩).1
          · have := hq.2
            rw [r1] at this; cases this; exact r2
        refine holds_eq (congrArg _ ecut) ?_
        refine par_i ?_ ?_
        all_goals
          refine node_pushs (e := 59) (sz := 6) rfl Try.underlying28 info_vote rfl (by decide) av k cv (vocs xs) (voC x) 4 (fun ids => by rw [← hxl]; rw [em6]; kernel_rfl) (by intros; kernel_rfl) rfl (fun ids => by rw [exx]; kernel_rfl) rfl (voC_one x) hdis (fun q q1 q2 => .inl (ownr q ⟨q1, q2⟩).1) (by unfold maxLen; omega) (by omega) (by intros; kernel_rfl) (by kernel_rfl) (by kernel_rfl) (by intros; kernel_rfl) ?_
          intro a' cap' hc' hr' hor'
          have e7 : (xs ++ [x]).length = k + 1 := by rw [List.length_append, hxl]; rfl
          have e8 : (stV a cap bs { m5 with av := a', cv := cap', vs := xs ++ [x] } (rdS bs x3)) = ⟨((rdS bs x3).1 : Int) :: (rdS bs x3).2 :: m6.ints, [], [], bs.length :: cap :: [m6.p.v.cs.length, m6.p.c1, m6.p.v.ns.length, m6.p.c2, k + 1, cap', m6.d.length, m6.cd], a :: [m6.p.a1, m6.p.a2, a', m6.ad]⟩ := by
            rw [em6]
            show (⟨_, _, _, bs.length :: cap :: [m5.p.v.cs.length, m5.p.c1, m5.p.v.ns.length, m5.p.c2, (xs ++ [x]).length, cap', m5.d.length, m5.cd], _⟩ : Vals) = _
            rw [e7]; rfl
          exact fin hc' hr' hor' (fun ids => by rw [e8]; kernel_rfl)
      · have hke : k = n := by omega
        subst hke
        refine again_V (stV a cap bs m6 x0) rfl (by intros; kernel_rfl) _ (fun w2 ids hf => ⟨hf.x, hf.sep⟩) ⟨av, cv, xs, by unfold vO opt; rw [if_pos h, ← en, ← ey0]; exact hvl, ownv, ownr, by unfold sO opt; rw [if_pos h, ← en, ← ey0, ← ex0, em6], rfl⟩
    · have e5 : m5 = { m5 with av := none, cv := 0, vs := [] } := by rw [em5]; show ({ m4 with p := pp } : Ms) = { m4 with p := pp, av := none, cv := 0, vs := [] }; rw [← g2, ← g3, ← g4]
      exact again_V (stV a cap bs { m5 with av := none, cv := 0, vs := [] } z5) rfl (fun ids => by rw [← e5]; kernel_rfl) _ (fun w2 ids hf => start ⟨hf.x, hf.sep⟩) ⟨none, 0, [], by unfold vO opt; rw [if_neg (by rw [h]; decide)]; rfl, fun k hk => (nilF hk).elim, fun k hk => absurd rfl hk.1, by unfold sO opt; rw [if_neg (by rw [h]; decide)], rfl⟩
  rintro vs hx hcn6 ⟨av, cv, xs, hvs, ownv, ownr, rfl, rfl⟩
  obtain ⟨m6, em6⟩ : ∃ x, x = ({ m5 with av := av, cv := cv, vs := xs } : Ms) := ⟨_, rfl⟩
  obtain ⟨z6, ez6⟩ : ∃ x, x = sO u bs z5 := ⟨_, rfl⟩
  rw [← em6, ← ez6]
  have hz6 : z6.1 ≤ bs.length := by rw [ez6]; exact opt_le (it_le (vtS_le bs) (stC_le _ _ _) _) hz5
  obtain ⟨B2, eB2⟩ : ∃ x, x = (B1.and (voAll xs)).and (vrow av cv xs) := ⟨_, rfl⟩
  have hB2 : ∀ {w}, B2.X w → B1.X w ∧ (voAll xs).X w ∧ (vrow av cv xs).X w := fun h => by rw [eB2] at h; exact ⟨h.1.1, h.1.2, h.2⟩
  have hF2 : ∀ {k}, B1.F k → B2.F k := fun h => by rw [eB2]; exact .inl (.inl h)
  rw [← eB2]
  have hok3 := hokB (hx := B2) (fun w h => (hB1 (hB2 h).1).1) (fun k h => hF2 (hF1 h))
  refine holds_env (ρ' := ⟨[m0.k, m0.f, m0.t, m0.e, m0.r, m0.n, m0.slot, m0.low, m0.tm, m0.p.v.k, m0.c.sess, m0.c.seq, m0.c.ack, m0.c.op.kind, m0.c.op.reg, m0.c.op.tg, m0.c.op.re, m0.c.op.im, m0.rk, m0.re, m0.im, (z0.1 : Int), z0.2, u, (z1.1 : Int), z1.2, m1.k, m1.f, m1.t, m1.e, m1.r, m1.n, m1.slot, m1.low, m1.tm, m1.p.v.k, m1.c.sess, m1.c.seq, m1.c.ack, m1.c.op.kind, m1.c.op.reg, m1.c.op.tg, m1.c.op.re, m1.c.op.im, m1.rk, m1.re, m1.im, (z2.1 : Int), z2.2, m2.k, m2.f, m2.t, m2.e, m2.r, m2.n, m2.slot, m2.low, m2.tm, m2.p.v.k, m2.c.sess, m2.c.seq, m2.c.ack, m2.c.op.kind, m2.c.op.reg, m2.c.op.tg, m2.c.op.re, m2.c.op.im, m2.rk, m2.re, m2.im, (z3.1 : Int), z3.2, m3.k, m3.f, m3.t, m3.e, m3.r, m3.n, m3.slot, m3.low, m3.tm, m3.p.v.k, m3.c.sess, m3.c.seq, m3.c.ack, m3.c.op.kind, m3.c.op.reg, m3.c.op.tg, m3.c.op.re, m3.c.op.im, m3.rk, m3.re, m3.im, (z4.1 : Int), z4.2, m4.k, m4.f, m4.t, m4.e, m4.r, m4.n, m4.slot, m4.low, m4.tm, m4.p.v.k, m4.c.sess, m4.c.seq, m4.c.ack, m4.c.op.kind, m4.c.op.reg, m4.c.op.tg, m4.c.op.re, m4.c.op.im, m4.rk, m4.re, m4.im, (z5.1 : Int), z5.2, m5.k, m5.f, m5.t, m5.e, m5.r, m5.n, m5.slot, m5.low, m5.tm, m5.p.v.k, m5.c.sess, m5.c.seq, m5.c.ack, m5.c.op.kind, m5.c.op.reg, m5.c.op.tg, m5.c.op.re, m5.c.op.im, m5.rk, m5.re, m5.im, (z6.1 : Int), z6.2, m6.k, m6.f, m6.t, m6.e, m6.r, m6.n, m6.slot, m6.low, m6.tm, m6.p.v.k, m6.c.sess, m6.c.seq, m6.c.ack, m6.c.op.kind, m6.c.op.reg, m6.c.op.tg, m6.c.op.re, m6.c.op.im, m6.rk, m6.re, m6.im], [], [], [m0.p.v.cs.length, m0.p.c1, m0.p.v.ns.length, m0.p.c2, m0.vs.length, m0.cv, m0.d.length, m0.cd, bs.length, cap, bs.length, cap, m1.p.v.cs.length, m1.p.c1, m1.p.v.ns.length, m1.p.c2, m1.vs.length, m1.cv, m1.d.length, m1.cd, bs.length, cap, m2.p.v.cs.length, m2.p.c1, m2.p.v.ns.length, m2.p.c2, m2.vs.length, m2.cv, m2.d.length, m2.cd, bs.length, cap, m3.p.v.cs.length, m3.p.c1, m3.p.v.ns.length, m3.p.c2, m3.vs.length, m3.cv, m3.d.length, m3.cd, bs.length, cap, m4.p.v.cs.length, m4.p.c1, m4.p.v.ns.length, m4.p.c2, m4.vs.length, m4.cv, m4.d.length, m4.cd, bs.length, cap, m5.p.v.cs.length, m5.p.c1, m5.p.v.ns.length, m5.p.c2, m5.vs.length, m5.cv, m5.d.length, m5.cd, bs.length, cap, m6.p.v.cs.length, m6.p.c1, m6.p.v.ns.length, m6.p.c2, m6.vs.length, m6.cv, m6.d.length, m6.cd], [m0.p.a1, m0.p.a2, m0.av, m0.ad, a, a, m1.p.a1, m1.p.a2, m1.av, m1.ad, a, m2.p.a1, m2.p.a2, m2.av, m2.ad, a, m3.p.a1, m3.p.a2, m3.av, m3.ad, a, m4.p.a1, m4.p.a2, m4.av, m4.ad, a, m5.p.a1, m5.p.a2, m5.av, m5.ad, a, m6.p.a1, m6.p.a2, m6.av, m6.ad]⟩) rfl ?_
  refine ⟨fun vs hx => vs = stV a cap bs (gC u bs z6 m6) (sC u bs z6) ∧ B2 = hx, ?_, ?_⟩
  · refine br_B (ub u 64) (by kernel_rfl) (fun h => ?_) (fun h => again_V (stV a cap bs m6 z6) rfl (by intros; kernel_rfl) _ (fun w2 ids hf => ⟨hf.x, hf.sep⟩) ⟨by unfold gC sC opt; rw [if_neg (by rw [h]; decide), if_neg (by rw [h]; decide)], rfl⟩)
    refine node_rd (V := .agg (tcC bs z6).cells.toArray) (ix := z6.1) (bad := z6.2) (ix' := (tcS bs z6).1) (bad' := (tcS bs z6).2) 0 ⟨[((tcS bs z6).1 : Int), (tcS bs z6).2, (tcC bs z6).sess, (tcC bs z6).seq, (tcC bs z6).ack, (tcC bs z6).op.kind, (tcC bs z6).op.reg, (tcC bs z6).op.tg, (tcC bs z6).op.re, (tcC bs z6).op.im], [], [], [bs.length, cap], [a]⟩ (fun b => #[.pointer (some ⟨b, 0, none⟩)]) hok3 hz6 rfl rfl (by intros; kernel_rfl) (by intros; kernel_rfl) (fun w b h => takecmd_any b a cap bs z6 w h) [.sl 35 (.var 70) (.var 71), .int .i64 (.var 162), .int .i64 (.var 163)] rfl (by intros; kernel_rfl) (by intros; kernel_rfl) (by kernel_rfl) (by kernel_rfl) oneNil ?_
    exact again_V (stV a cap bs { m6 with c := tcC bs z6 } (tcS bs z6)) rfl (by intros; kernel_rfl) _ (fun w2 ids hf => ⟨hf.x, hf.sep⟩) ⟨by unfold gC sC opt; rw [if_pos h, if_pos h], rfl⟩
  rintro vs hx hcn7 ⟨rfl, rfl⟩
  obtain ⟨m7, em7⟩ : ∃ x, x = gC u bs z6 m6 := ⟨_, rfl⟩
  obtain ⟨z7, ez7⟩ : ∃ x, x = sC u bs z6 := ⟨_, rfl⟩
  rw [← em7, ← ez7]
  have hz7 : z7.1 ≤ bs.length := by rw [ez7]; exact opt_le (it_le (f := fun q => tcS bs q) (fun p => stN_le _ _) hz6 1) hz6
  refine holds_env (ρ' := ⟨[m0.k, m0.f, m0.t, m0.e, m0.r, m0.n, m0.slot, m0.low, m0.tm, m0.p.v.k, m0.c.sess, m0.c.seq, m0.c.ack, m0.c.op.kind, m0.c.op.reg, m0.c.op.tg, m0.c.op.re, m0.c.op.im, m0.rk, m0.re, m0.im, (z0.1 : Int), z0.2, u, (z1.1 : Int), z1.2, m1.k, m1.f, m1.t, m1.e, m1.r, m1.n, m1.slot, m1.low, m1.tm, m1.p.v.k, m1.c.sess, m1.c.seq, m1.c.ack, m1.c.op.kind, m1.c.op.reg, m1.c.op.tg, m1.c.op.re, m1.c.op.im, m1.rk, m1.re, m1.im, (z2.1 : Int), z2.2, m2.k, m2.f, m2.t, m2.e, m2.r, m2.n, m2.slot, m2.low, m2.tm, m2.p.v.k, m2.c.sess, m2.c.seq, m2.c.ack, m2.c.op.kind, m2.c.op.reg, m2.c.op.tg, m2.c.op.re, m2.c.op.im, m2.rk, m2.re, m2.im, (z3.1 : Int), z3.2, m3.k, m3.f, m3.t, m3.e, m3.r, m3.n, m3.slot, m3.low, m3.tm, m3.p.v.k, m3.c.sess, m3.c.seq, m3.c.ack, m3.c.op.kind, m3.c.op.reg, m3.c.op.tg, m3.c.op.re, m3.c.op.im, m3.rk, m3.re, m3.im, (z4.1 : Int), z4.2, m4.k, m4.f, m4.t, m4.e, m4.r, m4.n, m4.slot, m4.low, m4.tm, m4.p.v.k, m4.c.sess, m4.c.seq, m4.c.ack, m4.c.op.kind, m4.c.op.reg, m4.c.op.tg, m4.c.op.re, m4.c.op.im, m4.rk, m4.re, m4.im, (z5.1 : Int), z5.2, m5.k, m5.f, m5.t, m5.e, m5.r, m5.n, m5.slot, m5.low, m5.tm, m5.p.v.k, m5.c.sess, m5.c.seq, m5.c.ack, m5.c.op.kind, m5.c.op.reg, m5.c.op.tg, m5.c.op.re, m5.c.op.im, m5.rk, m5.re, m5.im, (z6.1 : Int), z6.2, m6.k, m6.f, m6.t, m6.e, m6.r, m6.n, m6.slot, m6.low, m6.tm, m6.p.v.k, m6.c.sess, m6.c.seq, m6.c.ack, m6.c.op.kind, m6.c.op.reg, m6.c.op.tg, m6.c.op.re, m6.c.op.im, m6.rk, m6.re, m6.im, (z7.1 : Int), z7.2, m7.k, m7.f, m7.t, m7.e, m7.r, m7.n, m7.slot, m7.low, m7.tm, m7.p.v.k, m7.c.sess, m7.c.seq, m7.c.ack, m7.c.op.kind, m7.c.op.reg, m7.c.op.tg, m7.c.op.re, m7.c.op.im, m7.rk, m7.re, m7.im], [], [], [m0.p.v.cs.length, m0.p.c1, m0.p.v.ns.length, m0.p.c2, m0.vs.length, m0.cv, m0.d.length, m0.cd, bs.length, cap, bs.length, cap, m1.p.v.cs.length, m1.p.c1, m1.p.v.ns.length, m1.p.c2, m1.vs.length, m1.cv, m1.d.length, m1.cd, bs.length, cap, m2.p.v.cs.length, m2.p.c1, m2.p.v.ns.length, m2.p.c2, m2.vs.length, m2.cv, m2.d.length, m2.cd, bs.length, cap, m3.p.v.cs.length, m3.p.c1, m3.p.v.ns.length, m3.p.c2, m3.vs.length, m3.cv, m3.d.length, m3.cd, bs.length, cap, m4.p.v.cs.length, m4.p.c1, m4.p.v.ns.length, m4.p.c2, m4.vs.length, m4.cv, m4.d.length, m4.cd, bs.length, cap, m5.p.v.cs.length, m5.p.c1, m5.p.v.ns.length, m5.p.c2, m5.vs.length, m5.cv, m5.d.length, m5.cd, bs.length, cap, m6.p.v.cs.length, m6.p.c1, m6.p.v.ns.length, m6.p.c2, m6.vs.length, m6.cv, m6.d.length, m6.cd, bs.length, cap, m7.p.v.cs.length, m7.p.c1, m7.p.v.ns.length, m7.p.c2, m7.vs.length, m7.cv, m7.d.length, m7.cd], [m0.p.a1, m0.p.a2, m0.av, m0.ad, a, a, m1.p.a1, m1.p.a2, m1.av, m1.ad, a, m2.p.a1, m2.p.a2, m2.av, m2.ad, a, m3.p.a1, m3.p.a2, m3.av, m3.ad, a, m4.p.a1, m4.p.a2, m4.av, m4.ad, a, m5.p.a1, m5.p.a2, m5.av, m5.ad, a, m6.p.a1, m6.p.a2, m6.av, m6.ad, a, m7.p.a1, m7.p.a2, m7.av, m7.ad]⟩) rfl ?_
  refine ⟨fun vs hx => vs = stV a cap bs (gR u bs z7 m7) (sR u bs z7) ∧ B2 = hx, ?_, ?_⟩
  · refine br_B (ub u 128) (by kernel_rfl) (fun h => ?_) (fun h => again_V (stV a cap bs m7 z7) rfl (by intros; kernel_rfl) _ (fun w2 ids hf => ⟨hf.x, hf.sep⟩) ⟨by unfold gR sR opt; rw [if_neg (by rw [h]; decide), if_neg (by rw [h]; decide)], rfl⟩)
    refine node_rd (V := .int .i64 (vaN bs z7)) (ix := z7.1) (bad := z7.2) (ix' := (stN bs z7).1) (bad' := (stN bs z7).2) 0 ⟨[((stN bs z7).1 : Int), (stN bs z7).2, (vaN bs z7)], [], [], [bs.length, cap], [a]⟩ (fun b => #[.pointer (some ⟨b, 0, none⟩)]) hok3 hz7 rfl rfl (by intros; kernel_rfl) (by intros; kernel_rfl) (hint z7) [.sl 40 (.var 80) (.var 81), .int .i64 (.var 185), .int .i64 (.var 186)] rfl (by intros; kernel_rfl) (by intros; kernel_rfl) (by kernel_rfl) (by kernel_rfl) oneNil ?_
    obtain ⟨y0, ey0⟩ : ∃ x, x = stN bs z7 := ⟨_, rfl⟩
    have ly0 : y0.1 ≤ bs.length := by rw [ey0]; exact stN_le _ _
    rw [← ey0]
    refine node_rd (V := .int .i64 (vaN bs y0)) (ix := y0.1) (bad := y0.2) (ix' := (stN bs y0).1) (bad' := (stN bs y0).2) 0 ⟨[((stN bs y0).1 : Int), (stN bs y0).2, (vaN bs y0)], [], [], [bs.length, cap], [a]⟩ (fun b => #[.pointer (some ⟨b, 0, none⟩)]) hok3 ly0 rfl rfl (by intros; kernel_rfl) (by intros; kernel_rfl) (hint y0) [.sl 41 (.var 82) (.var 83), .int .i64 (.var 188), .int .i64 (.var 189)] rfl (by intros; kernel_rfl) (by intros; kernel_rfl) (by kernel_rfl) (by kernel_rfl) oneNil ?_
    obtain ⟨y1, ey1⟩ : ∃ x, x = stN bs y0 := ⟨_, rfl⟩
    have ly1 : y1.1 ≤ bs.length := by rw [ey1]; exact stN_le _ _
    rw [← ey1]
    refine node_rd (V := .int .i64 (vaN bs y1)) (ix := y1.1) (bad := y1.2) (ix' := (stN bs y1).1) (bad' := (stN bs y1).2) 0 ⟨[((stN bs y1).1 : Int), (stN bs y1).2, (vaN bs y1)], [], [], [bs.length, cap], [a]⟩ (fun b => #[.pointer (some ⟨b, 0, none⟩)]) hok3 ly1 rfl rfl (by intros; kernel_rfl) (by intros; kernel_rfl) (hint y1) [.sl 42 (.var 84) (.var 85), .int .i64 (.var 191), .int .i64 (.var 192)] rfl (by intros; kernel_rfl) (by intros; kernel_rfl) (by kernel_rfl) (by kernel_rfl) oneNil ?_
    obtain ⟨y2, ey2⟩ : ∃ x, x = stN bs y1 := ⟨_, rfl⟩
    have ly2 : y2.1 ≤ bs.length := by rw [ey2]; exact stN_le _ _
    rw [← ey2]
    exact again_V (stV a cap bs { m7 with rk := vaN bs z7, re := vaN bs y0, im := vaN bs y1 } y2) rfl (by intros; kernel_rfl) _ (fun w2 ids hf => ⟨hf.x, hf.sep⟩) ⟨by unfold gR sR opt; rw [if_pos h, if_pos h, ey2, ey1, ey0], rfl⟩
  rintro vs hx hcn8 ⟨rfl, rfl⟩
  obtain ⟨m8, em8⟩ : ∃ x, x = gR u bs z7 m7 := ⟨_, rfl⟩
  obtain ⟨z8, ez8⟩ : ∃ x, x = sR u bs z7 := ⟨_, rfl⟩
  rw [← em8, ← ez8]
  have hz8 : z8.1 ≤ bs.length := by rw [ez8]; exact opt_le (stN_le _ _) hz7
  refine holds_env (ρ' := ⟨[m0.k, m0.f, m0.t, m0.e, m0.r, m0.n, m0.slot, m0.low, m0.tm, m0.p.v.k, m0.c.sess, m0.c.seq, m0.c.ack, m0.c.op.kind, m0.c.op.reg, m0.c.op.tg, m0.c.op.re, m0.c.op.im, m0.rk, m0.re, m0.im, (z0.1 : Int), z0.2, u, (z1.1 : Int), z1.2, m1.k, m1.f, m1.t, m1.e, m1.r, m1.n, m1.slot, m1.low, m1.tm, m1.p.v.k, m1.c.sess, m1.c.seq, m1.c.ack, m1.c.op.kind, m1.c.op.reg, m1.c.op.tg, m1.c.op.re, m1.c.op.im, m1.rk, m1.re, m1.im, (z2.1 : Int), z2.2, m2.k, m2.f, m2.t, m2.e, m2.r, m2.n, m2.slot, m2.low, m2.tm, m2.p.v.k, m2.c.sess, m2.c.seq, m2.c.ack, m2.c.op.kind, m2.c.op.reg, m2.c.op.tg, m2.c.op.re, m2.c.op.im, m2.rk, m2.re, m2.im, (z3.1 : Int), z3.2, m3.k, m3.f, m3.t, m3.e, m3.r, m3.n, m3.slot, m3.low, m3.tm, m3.p.v.k, m3.c.sess, m3.c.seq, m3.c.ack, m3.c.op.kind, m3.c.op.reg, m3.c.op.tg, m3.c.op.re, m3.c.op.im, m3.rk, m3.re, m3.im, (z4.1 : Int), z4.2, m4.k, m4.f, m4.t, m4.e, m4.r, m4.n, m4.slot, m4.low, m4.tm, m4.p.v.k, m4.c.sess, m4.c.seq, m4.c.ack, m4.c.op.kind, m4.c.op.reg, m4.c.op.tg, m4.c.op.re, m4.c.op.im, m4.rk, m4.re, m4.im, (z5.1 : Int), z5.2, m5.k, m5.f, m5.t, m5.e, m5.r, m5.n, m5.slot, m5.low, m5.tm, m5.p.v.k, m5.c.sess, m5.c.seq, m5.c.ack, m5.c.op.kind, m5.c.op.reg, m5.c.op.tg, m5.c.op.re, m5.c.op.im, m5.rk, m5.re, m5.im, (z6.1 : Int), z6.2, m6.k, m6.f, m6.t, m6.e, m6.r, m6.n, m6.slot, m6.low, m6.tm, m6.p.v.k, m6.c.sess, m6.c.seq, m6.c.ack, m6.c.op.kind, m6.c.op.reg, m6.c.op.tg, m6.c.op.re, m6.c.op.im, m6.rk, m6.re, m6.im, (z7.1 : Int), z7.2, m7.k, m7.f, m7.t, m7.e, m7.r, m7.n, m7.slot, m7.low, m7.tm, m7.p.v.k, m7.c.sess, m7.c.seq, m7.c.ack, m7.c.op.kind, m7.c.op.reg, m7.c.op.tg, m7.c.op.re, m7.c.op.im, m7.rk, m7.re, m7.im, (z8.1 : Int), z8.2, m8.k, m8.f, m8.t, m8.e, m8.r, m8.n, m8.slot, m8.low, m8.tm, m8.p.v.k, m8.c.sess, m8.c.seq, m8.c.ack, m8.c.op.kind, m8.c.op.reg, m8.c.op.tg, m8.c.op.re, m8.c.op.im, m8.rk, m8.re, m8.im], [], [], [m0.p.v.cs.length, m0.p.c1, m0.p.v.ns.length, m0.p.c2, m0.vs.length, m0.cv, m0.d.length, m0.cd, bs.length, cap, bs.length, cap, m1.p.v.cs.length, m1.p.c1, m1.p.v.ns.length, m1.p.c2, m1.vs.length, m1.cv, m1.d.length, m1.cd, bs.length, cap, m2.p.v.cs.length, m2.p.c1, m2.p.v.ns.length, m2.p.c2, m2.vs.length, m2.cv, m2.d.length, m2.cd, bs.length, cap, m3.p.v.cs.length, m3.p.c1, m3.p.v.ns.length, m3.p.c2, m3.vs.length, m3.cv, m3.d.length, m3.cd, bs.length, cap, m4.p.v.cs.length, m4.p.c1, m4.p.v.ns.length, m4.p.c2, m4.vs.length, m4.cv, m4.d.length, m4.cd, bs.length, cap, m5.p.v.cs.length, m5.p.c1, m5.p.v.ns.length, m5.p.c2, m5.vs.length, m5.cv, m5.d.length, m5.cd, bs.length, cap, m6.p.v.cs.length, m6.p.c1, m6.p.v.ns.length, m6.p.c2, m6.vs.length, m6.cv, m6.d.length, m6.cd, bs.length, cap, m7.p.v.cs.length, m7.p.c1, m7.p.v.ns.length, m7.p.c2, m7.vs.length, m7.cv, m7.d.length, m7.cd, bs.length, cap, m8.p.v.cs.length, m8.p.c1, m8.p.v.ns.length, m8.p.c2, m8.vs.length, m8.cv, m8.d.length, m8.cd], [m0.p.a1, m0.p.a2, m0.av, m0.ad, a, a, m1.p.a1, m1.p.a2, m1.av, m1.ad, a, m2.p.a1, m2.p.a2, m2.av, m2.ad, a, m3.p.a1, m3.p.a2, m3.av, m3.ad, a, m4.p.a1, m4.p.a2, m4.av, m4.ad, a, m5.p.a1, m5.p.a2, m5.av, m5.ad, a, m6.p.a1, m6.p.a2, m6.av, m6.ad, a, m7.p.a1, m7.p.a2, m7.av, m7.ad, a, m8.p.a1, m8.p.a2, m8.av, m8.ad]⟩) rfl ?_
  -- the data
  have hvs' : m8.p = pp ∧ m8.vs = xs ∧ m8.av = av ∧ m8.cv = cv ∧ m8.d = [] ∧ m8.ad = none ∧ m8.cd = 0 := by
    have hC : ∀ (q : Nat × Int) (m : Ms), (gC u bs q m).p = m.p ∧ (gC u bs q m).vs = m.vs ∧ (gC u bs q m).av = m.av ∧ (gC u bs q m).cv = m.cv ∧ (gC u bs q m).d = m.d ∧ (gC u bs q m).ad = m.ad ∧ (gC u bs q m).cd = m.cd := fun q m => by unfold gC opt; split <;> exact ⟨rfl, rfl, rfl, rfl, rfl, rfl, rfl⟩
    have hR : ∀ (q : Nat × Int) (m : Ms), (gR u bs q m).p = m.p ∧ (gR u bs q m).vs = m.vs ∧ (gR u bs q m).av = m.av ∧ (gR u bs q m).cv = m.cv ∧ (gR u bs q m).d = m.d ∧ (gR u bs q m).ad = m.ad ∧ (gR u bs q m).cd = m.cd := fun q m => by unfold gR opt; split <;> exact ⟨rfl, rfl, rfl, rfl, rfl, rfl, rfl⟩
    obtain ⟨a1, a2, a3, a4, a5, a6, a7⟩ := hC z6 m6
    obtain ⟨b1, b2, b3, b4, b5, b6, b7⟩ := hR z7 m7
    rw [← em7] at a1 a2 a3 a4 a5 a6 a7
    rw [← em8] at b1 b2 b3 b4 b5 b6 b7
    rw [b1, b2, b3, b4, b5, b6, b7, a1, a2, a3, a4, a5, a6, a7, em6, em5]
    exact ⟨rfl, rfl, rfl, rfl, g5, g6, g7⟩
  obtain ⟨k1, k2, k3, k4, k5, k6, k7⟩ := hvs'
  have hq9 : q9 u bs z0 = sD u bs z8 := by unfold q9 q8 q6 q4; rw [← ez1, ← ez2, ← ez3, ← ez4, ← ez5, ← ez6, ← ez7, ← ez8]
  have hq8 : q8 u bs z0 = z8 := by unfold q8 q6 q4; rw [← ez1, ← ez2, ← ez3, ← ez4, ← ez5, ← ez6, ← ez7, ← ez8]
  have hq6 : q6 u bs z0 = z6 := by unfold q6 q4; rw [← ez1, ← ez2, ← ez3, ← ez4, ← ez5, ← ez6]
  have hq4 : q4 u bs z0 = z4 := by unfold q4; rw [← ez1, ← ez2, ← ez3, ← ez4]
  have fin : ∀ {mm : Cnt} {rr : List (Nat × List LV)} {c0 c1 : List LV} {ρ : Env} {S : Stack} (ad : Option Addr) (cd : Nat), (∀ k, cd ≠ 0 → abk ad = some k → w.heap.size ≤ k ∧ ¬ B2.F k) → (∀ ids, cellsDen ρ ids c0 = rcells a cap bs (sD u bs z8).1 (sD u bs z8).2) → (∀ ids, cellsDen ρ ids c1 = ({ m8 with ad := ad, cd := cd, d := vD u bs z8 } : Ms).cells) →
      (Tree.done (.tup []) ⟨(128, c0) :: (37, c1) :: rr, mm⟩).holds ⟨Try.prog, w, fun k => k = rb ∨ k = mb, FdR w rb mb a cap bs u z0 m0⟩ ρ [rb, mb] (B2.and (frow ad cd (vD u bs z8))) S := fun {mm rr c0 c1 ρ S} ad cd hfr h0 h1 ids w2 hp hf => by
    obtain ⟨i0, i1⟩ := idAt2 hp
    have b0 := hf.blk 0 128 c0 rfl
    have b1 := hf.blk 1 37 c1 rfl
    rw [i0, h0] at b0
    rw [i1, h1] at b1
    have hR : ({ m8 with ad := ad, cd := cd, d := vD u bs z8 } : Ms).R = (((pvR pp).and (voAll xs)).and (vrow av cv xs)).and (frow ad cd (vD u bs z8)) := by unfold Ms.R; dsimp only; rw [k1, k2, k3, k4]
    have hX := hB2 hf.x.1
    have hX1 := hB1 hX.1
    refine ⟨rfl, pp, av, cv, xs, ad, cd, { m8 with ad := ad, cd := cd, d := vD u bs z8 }, by rw [hq4]; exact hpp, by rw [hq4, ← ez5]; exact hvs, ?_, by rw [hq9]; exact b0, b1, by rw [hR]; exact ⟨⟨⟨hX1.2, hX.2.1⟩, hX.2.2⟩, hf.x.2⟩, fun k hk => ?_, hf.chg⟩
    · rw [hq8, hq6, em8, em7, em6, em5, em4, em3, em2, em1, ← ez1, ← ez2, ← ez3, ← ez7]
    · rw [hR] at hk
      rcases hk with ((hk | hk) | hk) | hk
      · exact ⟨(ownp k hk).1, (hf.sep k (.inl (by rw [eB2, eB1]; exact .inl (.inl (.inr hk))))).1⟩
      · exact ⟨(ownv k hk).1, (hf.sep k (.inl (by rw [eB2]; exact .inl (.inr hk)))).1⟩
      · exact ⟨(ownr k hk).1, (hf.sep k (.inl (by rw [eB2]; exact .inr hk))).1⟩
      · exact ⟨(hfr k hk.1 hk.2).1, (hf.sep k (.inr hk)).1⟩
  refine br_B (ub u 256) (by kernel_rfl) (fun h => ?_) (fun h => ?_)
  · have e1 : vD u bs z8 = txD 1024 bs z8 := by unfold vD opt; rw [if_pos h]
    have e2 : sD u bs z8 = txS 1024 bs z8 := by unfold sD opt; rw [if_pos h]
    rw [e1, e2] at fin
    refine node_rtx (p := z8) 0 1024 (by unfold I64; decide) hok3 hz8 rfl rfl (by intros; kernel_rfl) (by intros; kernel_rfl) [.sl 45 (.var 90) (.var 91), .int .i64 (.var 208), .int .i64 (.var 209)] rfl (by intros; kernel_rfl) (by intros; kernel_rfl) (by kernel_rfl) (by intros; kernel_rfl) ?_
    intro ad cd hfr
    exact fin ad cd hfr (by intros; kernel_rfl) (by intros; kernel_rfl)
  · have e1 : vD u bs z8 = [] := by unfold vD opt; rw [if_neg (by rw [h]; decide)]
    have e2 : sD u bs z8 = z8 := by unfold sD opt; rw [if_neg (by rw [h]; decide)]
    rw [e1, e2] at fin
    refine holds_eq (frow_none B2).symm ?_
    exact fin none 0 (fun k h => absurd rfl h) (by intros; kernel_rfl) (fun ids => by rw [← k5, ← k6, ← k7]; kernel_rfl)
end Go.Proofs.Ytadgaefmoobcoaa
