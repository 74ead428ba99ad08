/- Part 21 of the texts of a proof about the given program: what the statement's proof needs of them. -/
import Derived.Test.YtbedoemdjlollaaKJudgeChecks20
namespace Go.Proofs.Ytbedoemdjlollaa
open Go.ChangeShapes Go.WideShapes Go.ChangeAt Go.RowKit Go.Syn Go.Eng
set_option linter.unusedVariables false
set_option linter.unusedSimpArgs false
set_option maxRecDepth 100000
def RunNew (w : World) (b : Nat) (I : Im) (a1 : Option Addr) (c1 : Nat) (V : Value) (e : Ending) (w' : World) : Prop := ∃ a2 c2 es, es.map SE.s = I.tb ∧ e = .returned V ∧ Blk w' b (imC I a1 c1 a2 c2) 54 ∧ Dj a2 c2 es ∧ (tabR a2 c2 es).X w' ∧ (∀ k, (tabR a2 c2 es).F k → w.heap.size ≤ k) ∧ w.grownBy w' (some b)
def resC (R : RunR) : Value := .agg #[.int .i64 R.k, .int .i64 R.re, .int .i64 R.im]
theorem xrun_any (b : Nat) (I : Im) (a1 : Option Addr) (c1 : Nat) (a2 : Option Addr) (c2 : Nat) (es : List SE) (c : CmD) (w : World) (hb : Blk w b (imC I a1 c1 a2 c2) 54) (H : TbAt w a2 es) (hes : es.map SE.s = I.tb) (hv : VT I.tb) (hr : I.regs.length = 16) (hc : cmdV c = 0) :
    Calls Try.prog 36 #[.pointer (some ⟨b, 0, none⟩), .agg c.cells.toArray] w (RunNew w b (runV I c).i a1 c1 (resC (runV I c))) := by
  refine calls_at (tab_ok _) Try.func36 rfl tXRun (ρ := ⟨imI I ++ c.is, [], [], [I.mem.length, c1, I.tb.length, c2], [a1, a2]⟩) (ids := [b]) (hx := HX.nil) (by kernel_rfl) (Facts.init1 rfl oneNil hb (by kernel_rfl)) ?_
  have hlen : es.length = I.tb.length := by rw [← hes, List.length_map]
  obtain ⟨h1, h2, h3, h4, h5, h6, h7⟩ := opB_of hc
  have hat := hv.ask (sess := c.sess) (seq := c.seq) (ack := c.ack) h1 h2 (by omega)
  obtain ⟨Q, eQ⟩ : ∃ Q, Q = runV I c := ⟨_, rfl⟩
  rw [← eQ]
  unfold runV at eQ
  obtain ⟨A, eA⟩ : ∃ A, A = askV I.tb c.sess c.seq c.ack := ⟨_, rfl⟩
  rw [← eA] at eQ hat
  obtain ⟨p, ep⟩ : ∃ p, p = applyM I.regs c.op := ⟨_, rfl⟩
  rw [← ep] at eQ
  have hpl : p.1.length = 16 := by rw [ep]; exact (applyM_len _ _).trans hr
  refine par_i ?_ ?_
  all_goals
    refine node_tb (V := askRet A.k A.re A.im A.d) (tb := A.t) (fun _ => #[.slice a2 I.tb.length c2, cmdC c.sess c.seq c.ack c.op.kind c.op.reg c.op.tg c.op.re c.op.im]) (fun a' c' => ⟨[A.k, A.re, A.im], [A.d], [], [A.t.length, c'], [a']⟩) (by intros; kernel_rfl) (fun ids w2 hp hf => by
      have hbb : w2.heap[b]? = w.heap[b]? := by
        have := hf.blkAt 0 rfl
        rw [idAt0 hp] at this
        exact this.trans (Eq.trans (by kernel_rfl) hb.symm)
      have := task_any a2 c2 es c.sess c.seq c.ack c.op.kind c.op.reg c.op.tg c.op.re c.op.im w2 (H.keep (fun k hk => by
        by_cases q : k = b
        · rw [q]; exact hbb
        · exact hf.chg.block k hk q)) (by rw [hes]; exact hv.ok)
      rw [hes, ← eA, hlen] at this
      exact this) (by intros; kernel_rfl) (by kernel_rfl) (by kernel_rfl) (by intros; kernel_rfl) (fun _ _ => oneNil) ?_
    intro a' c' es' hm' hdj' hsm' hn'
    have hl' : es'.length = A.t.length := by rw [← hm', List.length_map]
    rcases Bool.eq_false_or_eq_true A.d with hd | hd
    · refine br_F (!A.d) (by kernel_rfl) (by rw [hd]; rfl) ?_
      rw [if_pos hd] at eQ
      intro ids w2 hp hf
      have hblk := hf.blkAt 0 rfl
      rw [idAt0 hp] at hblk
      subst eQ
      exact ⟨a', c', es', hm', by kernel_rfl, hblk.trans (by kernel_rfl), hdj', hf.x.2, fun k hk => (hn' k hk).1, hf.chg.grown⟩
    · refine br_T (!A.d) (by kernel_rfl) (by rw [hd]; rfl) ?_
      rw [if_neg (by rw [hd]; decide)] at eQ
      refine node_P ⟨rgs p.1 ++ [p.2.1, p.2.2.1, p.2.2.2], [], [], [], []⟩ #[.agg ((rgs I.regs).map (Value.int .i64)).toArray, .agg c.op.cells.toArray] (resV p) (by intros; kernel_rfl) (fun ids => Eq.trans (b := resV (rgs p.1, p.2)) (by kernel_rfl) (by unfold resV; rw [rgs_of hpl])) (by kernel_rfl) (by kernel_rfl) (by kernel_rfl) oneNil (fun ids w2 hp hf => by
        have := apply_any (rgs I.regs) rfl c.op w2
        rw [rgs_of hr] at this ⊢
        rw [ep]; exact this) ?_
      refine node_tb (V := id) (tb := keepV A.t c.sess c.seq p.2.1 p.2.2.1 p.2.2.2) (fun _ => #[.slice a' A.t.length c', cmdC c.sess c.seq c.ack c.op.kind c.op.reg c.op.tg c.op.re c.op.im, .agg #[.int .i64 p.2.1, .int .i64 p.2.2.1, .int .i64 p.2.2.2]]) (fun a3 c3 => ⟨[], [], [], [(keepV A.t c.sess c.seq p.2.1 p.2.2.1 p.2.2.2).length, c3], [a3]⟩) (by intros; kernel_rfl) (fun ids w2 hp hf => by
        have := tkeep_any a' c' es' c.sess c.seq c.ack c.op.kind c.op.reg c.op.tg c.op.re c.op.im p.2.1 p.2.2.1 p.2.2.2 w2 (tabR_at hf.x.2) (by rw [hm']; exact hat.ok)
        rw [hm', hl'] at this
        exact this) (by intros; kernel_rfl) (by kernel_rfl) (by kernel_rfl) (by intros; kernel_rfl) (fun _ _ => oneNil) ?_
      intro a3 c3 es3 hm3 hdj3 hsm3 hn3
      intro ids w2 hp hf
      have hblk := hf.blkAt 0 rfl
      rw [idAt0 hp] at hblk
      subst eQ
      exact ⟨a3, c3, es3, hm3, by kernel_rfl, hblk.trans (by kernel_rfl), hdj3, hf.x.2, fun k hk => (hn3 k hk).1, hf.chg.grown⟩
end Go.Proofs.Ytbedoemdjlollaa

namespace Go.Proofs.Ytbedoemdjlollaa
open Go.ChangeShapes Go.WideShapes Go.ChangeAt Go.RowKit Go.Syn Go.Eng
set_option linter.unusedVariables false
set_option linter.unusedSimpArgs false
set_option maxRecDepth 100000
def exX (R : ExR) (a1 a2 : Option Addr) (c2 : Nat) (es : List SE) (oa : Option Addr) : HX := (imX R.i a1 a2 c2 es).and (HX.cl oa (ancells R.an))
def exRet (R : ExR) (a1 : Option Addr) (c1 : Nat) (a2 : Option Addr) (c2 : Nat) (oa : Option Addr) (oc : Nat) : Value := .tuple #[imV R.i a1 c1 a2 c2, .slice oa R.an.length oc, .int .i64 R.e]
def ExNew (w : World) (R : ExR) (e : Ending) (w' : World) : Prop := ∃ a1 c1 a2 c2 es oa oc, es.map SE.s = R.i.tb ∧ e = .returned (exRet R a1 c1 a2 c2 oa oc) ∧ Dj a2 c2 es ∧ (exX R a1 a2 c2 es oa).X w' ∧ (∀ k, (exX R a1 a2 c2 es oa).F k → w.heap.size ≤ k) ∧ Below w.heap.size w w'
theorem exX_lt {R : ExR} {a1 a2 : Option Addr} {c2 : Nat} {es : List SE} {oa : Option Addr} {w : World} (h : (exX R a1 a2 c2 es oa).X w) : ∀ k, (exX R a1 a2 c2 es oa).F k → k < w.heap.size := fun k hk => hk.elim (imX_lt h.1 k) (cl_sep h.2 k)
theorem dj_nil (a : Option Addr) (c : Nat) : Dj a c [] := ⟨fun i j e e' _ h => by simp at h, fun e he => (by cases he)⟩
theorem ex_err {W : World} {ρ : Env} {pre : List Nat} {hx : HX} {L : Stack} {v : SV} {m : Mem} (x : Int) (hv : ∀ ids, v.den ρ ids = exRet ⟨im0, [], x⟩ none 0 none 0 none 0) : (Tree.done v m).holds ⟨Try.prog, W, fun _ => False, ExNew W ⟨im0, [], x⟩⟩ ρ pre hx L := fun ids w2 hp hf => by
  refine ⟨none, 0, none, 0, [], none, 0, rfl, by rw [hv ids], dj_nil _ _, ⟨⟨cl_nil _ _, ⟨fun e he => (by cases he), HX.rw_nil _ _ _ _⟩⟩, cl_nil _ _⟩, ?_, hf.chg.below⟩
  rintro k ((hk | ⟨e, he, _⟩ | hk) | hk)
  · exact absurd rfl hk.1
  · cases he
  · exact absurd rfl hk.1
  · exact absurd rfl hk.1
theorem an_sm {l : List AnD} {i : Nat} {x : AnD} {a : Option Addr} {w : World} (H : Cells w a (ancells l)) (h : l[i]? = some x) : a.isSome = true :=
  (flat_part an_len H h (o := 0) x.cells (fun j u hj => by rw [Nat.zero_add]; exact hj) (by simp [AnD.cells])).1
section
variable {C : Cfg} {ρ : Env} {pre : List Nat} {hx : HX} {L : Stack} {m m' : Mem} {args : List SV} {r : SV} {t : Tree}
theorem node_ex {f : Nat} {R : ExR} (AS : List Nat → Array Value) (hargs : ∀ ids, (args.map (SV.den ρ ids)).toArray = AS ids) (hcall : ∀ ids w, pre <+: ids → Facts C m ρ ids hx w → Calls C.P f (AS ids) w (ExNew w R))
    (hr : ∀ a1 c1 a2 c2 oa oc ids, r.den (ρ.add ⟨imI R.i ++ [R.e], [], [], [R.i.mem.length, c1, R.i.tb.length, c2, R.an.length, oc], [a1, a2, oa]⟩) ids = exRet R a1 c1 a2 c2 oa oc) (hhp : m'.hp = m.hp) (hfit : hpFits m.c m.hp.length m.hp = true)
    (hc : ∀ a1 c1 a2 c2 oa oc, (ρ.add ⟨imI R.i ++ [R.e], [], [], [R.i.mem.length, c1, R.i.tb.length, c2, R.an.length, oc], [a1, a2, oa]⟩).cnt = m'.c)
    (h : ∀ a1 c1 a2 c2 es oa oc, es.map SE.s = R.i.tb → Dj a2 c2 es → Sm a2 es → (R.an ≠ [] → oa.isSome = true) → (∀ k, (exX R a1 a2 c2 es oa).F k → C.W.heap.size ≤ k ∧ ¬ hx.F k) → t.holds C (ρ.add ⟨imI R.i ++ [R.e], [], [], [R.i.mem.length, c1, R.i.tb.length, c2, R.an.length, oc], [a1, a2, oa]⟩) pre (hx.and (exX R a1 a2 c2 es oa)) L) : (Tree.call f args m r m' t).holds C ρ pre hx L := by
  refine node_out AS (fun u hy => ∃ a1 c1 a2 c2 es oa oc, es.map SE.s = R.i.tb ∧ Dj a2 c2 es ∧ Sm a2 es ∧ (R.an ≠ [] → oa.isSome = true) ∧ u = ⟨imI R.i ++ [R.e], [], [], [R.i.mem.length, c1, R.i.tb.length, c2, R.an.length, oc], [a1, a2, oa]⟩ ∧ hy = exX R a1 a2 c2 es oa) hargs (fun ids w hp hf => ?_) hhp hfit ?_ ?_
  · refine (hcall ids w hp hf).mono ?_
    rintro e w' ⟨a1, c1, a2, c2, es, oa, oc, h1, rfl, h2, hX, hge, hb⟩
    exact ⟨_, _, ⟨a1, c1, a2, c2, es, oa, oc, h1, h2, ⟨fun q => rw_sm hX.1.2.2 (sec_ne q), fun e he q => rw_sm (hX.1.2.1 e he) (kc_ne q)⟩, fun q => (by
      cases hq : R.an with
      | nil => exact absurd hq q
      | cons x l => exact an_sm (i := 0) (x := x) hX.2 (by rw [hq]; rfl)), rfl, rfl⟩, by rw [hr], hX, fun k hk => ⟨hge k hk, exX_lt hX k hk⟩, hb⟩
  · rintro u hy ⟨a1, c1, a2, c2, es, oa, oc, _, _, _, _, rfl, rfl⟩
    exact ⟨hc _ _ _ _ _ _, oneNil⟩
  · rintro u hy ⟨a1, c1, a2, c2, es, oa, oc, q1, q2, q3, q4, rfl, rfl⟩ hfr
    exact h a1 c1 a2 c2 es oa oc q1 q2 q3 q4 hfr
end
theorem valE_zero {v : Vl} (h : valE v = 0) : (v.k = 0 ∧ v.cs = [] ∧ v.ns = []) ∨ (v.k = 2 ∧ v.cs = [] ∧ setOkB v.ns = true) ∨ (v.k = 1 ∧ v.cs.length ≤ 8 ∧ v.cs ≠ [] ∧ v.ns = [] ∧ firstE v.cs = 0) := by
  unfold valE at h
  split at h
  · rename_i h0
    by_cases q : v.cs ≠ [] ∨ v.ns ≠ []
    · rw [if_pos q] at h; cases h
    · simp only [not_or, Classical.not_not] at q
      exact .inl ⟨h0, q.1, q.2⟩
  · split at h
    · rename_i h2
      by_cases q : v.cs ≠ []
      · rw [if_pos q] at h; cases h
      · rw [if_neg q] at h
        simp only [Classical.not_not] at q
        exact .inr (.inl ⟨h2, q, check_zero.1 h⟩)
    · split at h
      · rename_i h1
        by_cases q : v.cs = [] ∨ 8 < v.cs.length ∨ v.ns ≠ []
        · rw [if_pos q] at h; cases h
        · rw [if_neg q] at h
          simp only [not_or, Classical.not_not] at q
          exact .inr (.inr ⟨h1, by omega, q.1, q.2.2, h⟩)
      · cases h
def ExJ (I : Im) (slot : Int) (v : Vl) (vs : Vals) (hx : HX) : Prop := VI I ∧ slot = I.sl + 1 ∧ slot ≤ 1099511627776 ∧ ¬ (v.k = 2 ∧ 1099511627776 ≤ I.ep) ∧ vs = ⟨[], [], [], [], []⟩ ∧ hx = HX.nil
def ExI (W : World) (G : Im) (cs : List CmD) (b1 : Option Addr) (d1 : Nat) (vs : Vals) (hx : HX) : Prop := ∃ (k : Nat) (a2 : Option Addr) (c2 : Nat) (es : List SE) (oa : Option Addr) (oc : Nat), k ≤ cs.length ∧ es.map SE.s = (runAll G (cs.take k)).1.tb ∧ Dj a2 c2 es ∧
  (∀ q, (tabR a2 c2 es).F q → W.heap.size ≤ q ∧ ¬ ((HX.cl b1 (G.mem.map (Value.int .i64))).and (HX.rw 5 64 oa k oc (ancells (runAll G (cs.take k)).2))).F q) ∧ (∀ q, (HX.rw 5 64 oa k oc (ancells (runAll G (cs.take k)).2)).F q → W.heap.size ≤ q ∧ ¬ (HX.cl b1 (G.mem.map (Value.int .i64))).F q) ∧
  vs = ⟨(k : Int) :: imI (runAll G (cs.take k)).1, [], [], [k, oc, G.mem.length, d1, (runAll G (cs.take k)).1.tb.length, c2], [oa, b1, a2]⟩ ∧ hx = ((HX.cl b1 (G.mem.map (Value.int .i64))).and (HX.rw 5 64 oa k oc (ancells (runAll G (cs.take k)).2))).and (tabR a2 c2 es)
set_option maxHeartbeats 2000000 in
theorem xexec_any (I : Im) (a1 : Option Addr) (c1 : Nat) (a2 : Option Addr) (c2 : Nat) (es : List SE) (slot : Int) (v : Vl) (b1 : Option Addr) (d1 : Nat) (b2 : Option Addr) (d2 : Nat) (w : World) (H : ImAt w I a1 a2 es) (hl : es.length ≤ 4611686018427387904) (hm : I.mem.length ≤ 17592186044416) (HV : VlAt w v b1 b2) :
    Calls Try.prog 17 #[imV I a1 c1 a2 c2, .int .i64 slot, vlV v b1 d1 b2 d2] w (ExNew w (execV I slot v)) := by
  refine calls_at (tab_ok _) Try.func17 rfl tXExec (ρ := ⟨imI I ++ [slot, v.k], [], [], [I.mem.length, c1, I.tb.length, c2, v.cs.length, d1, v.ns.length, d2], [a1, a2, b1, b2]⟩) (ids := []) (hx := HX.nil) (by kernel_rfl) (Facts.initP rfl oneNil) ?_
  obtain ⟨R, eR⟩ : ∃ R, R = execV I slot v := ⟨_, rfl⟩
  rw [← eR]
  unfold execV at eR
  have keep : ∀ {m : Mem} {ρ : Env} {ids : List Nat} {hx : HX} {w2 : World} {R : Ending → World → Prop}, Facts ⟨Try.prog, w, fun _ => False, R⟩ m ρ ids hx w2 → ImAt w2 I a1 a2 es := fun hf => H.keep (fun k hk => hf.chg.block k hk (fun q => q))
  have keepV : ∀ {m : Mem} {ρ : Env} {ids : List Nat} {hx : HX} {w2 : World} {R : Ending → World → Prop}, Facts ⟨Try.prog, w, fun _ => False, R⟩ m ρ ids hx w2 → VlAt w2 v b1 b2 := fun hf => HV.fit.at_ ((vlX v b1 b2).loc _ _ HV.X fun k hk => hf.chg.block k (vlX_sep HV.X k hk) (fun q => q))
  refine ⟨ExJ I slot v, ?_, ?_⟩
  · refine node_P ⟨[], [validI I], [], [], []⟩ #[imV I a1 c1 a2 c2] (.bool (validI I)) (by intros; kernel_rfl) (by intros; kernel_rfl) (by kernel_rfl) (by kernel_rfl) (by kernel_rfl) oneNil (fun ids w2 hp hf => xvalid_any I a1 c1 a2 c2 es w2 (keep hf) hl) ?_
    rcases Bool.eq_false_or_eq_true (validI I) with hv | hv
    case' inr =>
      rw [if_pos hv] at eR
      subst eR
      exact br_T (!validI I) (by kernel_rfl) (by rw [hv]; rfl) (ex_err 44 (by intros; kernel_rfl))
    rw [if_neg (by rw [hv]; decide)] at eR
    have hI := (validI_iff I).1 hv
    refine br_F (!validI I) (by kernel_rfl) (by rw [hv]; rfl) ?_
    have hw : IntKind.i64.wrap (I.sl + 1) = I.sl + 1 := by have := hI.sl0; have := hI.sl1; exact wrap_i64 (by omega)
    by_cases h1 : slot = I.sl + 1
    case' neg =>
      rw [if_pos (.inl h1)] at eR
      subst eR
      exact br_T (slot != IntKind.i64.wrap (I.sl + 1)) (by kernel_rfl) (by rw [hw]; simpa using h1) (ex_err 61 (by intros; kernel_rfl))
    refine br_F (slot != IntKind.i64.wrap (I.sl + 1)) (by kernel_rfl) (by rw [hw]; simpa using h1) ?_
    by_cases h2 : 1099511627776 < slot
    case' pos =>
      rw [if_pos (.inr (.inl h2))] at eR
      subst eR
      exact br_T (decide (slot > 1099511627776)) (by kernel_rfl) (decide_eq_true h2) (ex_err 61 (by intros; kernel_rfl))
    refine br_F (decide (slot > 1099511627776)) (by kernel_rfl) (decide_eq_false h2) ?_
    by_cases h3 : v.k = 2
    · refine br_T (v.k == 2) (by kernel_rfl) (by simpa using h3) ?_
      by_cases h4 : 1099511627776 ≤ I.ep
      · rw [if_pos (.inr (.inr ⟨h3, h4⟩))] at eR
        subst eR
        exact br_T (decide (I.ep ≥ 1099511627776)) (by kernel_rfl) (decide_eq_true h4) (ex_err 61 (by intros; kernel_rfl))
      · refine br_F (decide (I.ep ≥ 1099511627776)) (by kernel_rfl) (decide_eq_false h4) ?_
        exact again_V ⟨[], [], [], [], []⟩ rfl (by intros; kernel_rfl) HX.nil (fun w2 ids hf => HXok.none _ _) ⟨hI, h1, by omega, fun q => h4 q.2, rfl, rfl⟩
    · refine br_F (v.k == 2) (by kernel_rfl) (by simpa using h3) ?_
      exact again_V ⟨[], [], [], [], []⟩ rfl (by intros; kernel_rfl) HX.nil (fun w2 ids hf => HXok.none _ _) ⟨hI, h1, by omega, fun q => h3 q.1, rfl, rfl⟩
  rintro vs hx' hcnt ⟨hI, h1, h2, h3, rfl, rfl⟩
  refine holds_env (ρ' := ⟨imI I ++ [slot, v.k], [], [], [I.mem.length, c1, I.tb.length, c2, v.cs.length, d1, v.ns.length, d2], [a1, a2, b1, b2]⟩) (by kernel_rfl) ?_
  rw [if_neg (by rw [(validI_iff I).2 hI]; decide), if_neg (by simp only [not_or]; exact ⟨fun q => q h1, by omega, h3⟩)] at eR
  refine node_P ⟨[valE v], [], [], [], []⟩ #[vlV v b1 d1 b2 d2] (.int .i64 (valE v)) (by intros; kernel_rfl) (by intros; kernel_rfl) (by kernel_rfl) (by kernel_rfl) (by kernel_rfl) oneNil (fun ids w2 hp hf => vchk_any v b1 d1 b2 d2 w2 (keepV hf)) ?_
  by_cases h4 : valE v = 0
  case' neg =>
    rw [if_pos h4] at eR
    subst eR
    exact br_T (valE v != 0) (by kernel_rfl) (by simpa using h4) (ex_err (valE v) (by intros; kernel_rfl))
  rw [if_neg (fun q => q h4)] at eR
  refine br_F (valE v != 0) (by kernel_rfl) (by simpa using h4) ?_
  have hfit := hI.fit
  refine node_im (V := id) (I := I) (fun _ => #[imV I a1 c1 a2 c2]) (fun x1 y1 x2 y2 => ⟨imI I, [], [], [I.mem.length, y1, I.tb.length, y2], [x1, x2]⟩) (by intros; kernel_rfl) (fun ids w2 hp hf => xclone_any I a1 c1 a2 c2 es w2 (keep hf) hm (by rw [H.len]; omega) (fun e he => by
    have := (hI.tb.each e.s (by rw [← H.tb]; exact List.mem_map_of_mem he)).len; omega)) (by intros; kernel_rfl) (by kernel_rfl) (by kernel_rfl) (by intros; kernel_rfl) (fun _ _ _ _ => oneNil) ?_
  intro x1 y1 x2 y2 es1 hm1 hdj1 hsm1 had1 hn1
  refine holds_eq (show _ = imX I x1 x2 y2 es1 from HX.nil_and _) ?_
  refine holds_env (ρ' := ⟨imI I ++ [slot, v.k, valE v] ++ imI I, [], [], [I.mem.length, c1, I.tb.length, c2, v.cs.length, d1, v.ns.length, d2, I.mem.length, y1, I.tb.length, y2], [a1, a2, b1, b2, x1, x2]⟩) (by kernel_rfl) ?_
  by_cases k2 : v.k = 2
  · refine br_T (v.k == 2) (by kernel_rfl) (by simpa using k2) ?_
    have hcs : v.cs = [] := by rcases valE_zero h4 with q | q | q <;> first | exact q.2.1 | omega
    have hns : setOkB v.ns = true := by
      rcases valE_zero h4 with q | q | q
      · omega
      · exact q.2.2
      · omega
    refine node_cl (n := v.ns.length) (xs := v.ns.map (Value.int .i64)) (fun _ => #[.slice b2 v.ns.length d2]) (fun a' c' => ⟨[], [], [], [v.ns.length, c'], [a']⟩) (by intros; kernel_rfl) (fun ids w2 hp hf => scloneN_any b2 d2 v.ns w2 (keepV hf).n.cells (keepV hf).l2) (by intros; kernel_rfl) (by kernel_rfl) (by kernel_rfl) (by intros; kernel_rfl) (fun _ _ => oneNil) ?_
    intro z1 u1 hz
    have hw : IntKind.i64.wrap (I.ep + 1) = I.ep + 1 := by have := hI.ep0; have := hI.ep1; exact wrap_i64 (by omega)
    rw [hcs] at eR
    intro ids w2 hp hf
    refine ⟨z1, u1, x2, y2, es1, none, 0, by rw [eR]; unfold goI; rw [if_pos k2]; exact hm1, ?_, hdj1, ?_, ?_, hf.chg.below⟩
    · rw [eR]; unfold goI; rw [if_pos k2]
      show _ = Ending.returned (exRet ⟨⟨I.ep + 1, v.ns, slot, I.regs, I.tb⟩, [], 0⟩ _ _ _ _ _ _)
      rw [← hw]; kernel_rfl
    · rw [eR]; unfold goI; rw [if_pos k2]
      exact ⟨⟨hf.x.2, hf.x.1.2⟩, cl_nil _ _⟩
    · rw [eR]; unfold goI; rw [if_pos k2]
      rintro k ((hk | hk) | hk)
      · exact (hz k hk).1
      · exact (hn1 k (.inr hk)).1
      · exact absurd rfl hk.1
  refine br_F (v.k == 2) (by kernel_rfl) (by simpa using k2) ?_
  obtain ⟨G, eG⟩ : ∃ G : Im, G = ⟨I.ep, I.mem, slot, I.regs, I.tb⟩ := ⟨_, rfl⟩
  have hgo : goI I slot v = G := by unfold goI; rw [if_neg k2, eG]
  rw [hgo] at eR
  have hG : VI G := by rw [eG]; exact ⟨hI.ep0, hI.ep1, by have := hI.sl0; show 0 ≤ slot; omega, h2, hI.mem, hI.regs, hI.tb⟩
  have hGr : G.regs.length = 16 := by rw [eG]; exact H.reg
  have hGm : G.mem = I.mem := by rw [eG]
  by_cases k1 : v.k = 1
  case' neg =>
    refine br_F (v.k == 1) (by kernel_rfl) (by simpa using k1) ?_
    have hcs : v.cs = [] := by rcases valE_zero h4 with q | q | q <;> first | exact q.2.1 | omega
    rw [hcs] at eR
    intro ids w2 hp hf
    subst eR
    refine ⟨x1, y1, x2, y2, es1, none, 0, by rw [eG]; exact hm1, by rw [eG]; kernel_rfl, hdj1, by rw [eG]; exact ⟨hf.x, cl_nil _ _⟩, ?_, hf.chg.below⟩
    rw [eG]
    rintro k (hk | hk)
    · exact (hn1 k hk).1
    · exact absurd rfl hk.1
  refine br_T (v.k == 1) (by kernel_rfl) (by simpa using k1) ?_
  obtain ⟨hc8, hcz⟩ : v.cs.length ≤ 8 ∧ firstE v.cs = 0 := by
    rcases valE_zero h4 with q | q | q
    · omega
    · omega
    · exact ⟨q.2.1, q.2.2.2.2⟩
  have hall := firstE_all hcz
  have hrow0 : ∀ q, ¬ (HX.rw 5 64 none 0 0 (ancells [])).F q := fun q hq => absurd rfl hq.1
  refine loop_i (ExI w G v.cs x1 y1) (fun vs => v.cs.length - (vs.i.headD 0).toNat) (fun ids w2 hp hf => ⟨((HX.cl x1 (G.mem.map (Value.int .i64))).and (HX.rw 5 64 none 0 0 (ancells []))).and (tabR x2 y2 es1), ⟨⟨⟨by rw [hGm]; exact hf.x.1, HX.rw_nil _ _ _ _⟩, hf.x.2⟩, ?_⟩, 0, x2, y2, es1, none, 0, Nat.zero_le _, by rw [eG]; exact hm1, hdj1, fun q hq => ⟨(hn1 q (.inr hq)).1, fun z => z.elim (fun z => had1 q hq (by rw [← hGm]; exact z)) (fun z => hrow0 q z)⟩, fun q hq => absurd hq (hrow0 q), by rw [eG]; kernel_rfl, by kernel_rfl⟩) ?_
  · rintro k ((hk | hk) | hk)
    · exact hf.sep k (.inl (by rw [← hGm]; exact hk))
    · exact absurd hk (hrow0 k)
    · exact hf.sep k (.inr hk)
  rintro vs hx' hcnt' ⟨k, a3, c3, es3, oa, oc, hk, hm3, hdj3, hn3, ho3, rfl, rfl⟩
  obtain ⟨J, eJ⟩ : ∃ J, J = runAll G (v.cs.take k) := ⟨_, rfl⟩
  rw [← eJ] at hm3 hn3 ho3 hcnt' ⊢
  have hJ := hG.all hGr hall k
  rw [← eJ] at hJ
  have hJk := runAll_keep G (v.cs.take k) (G, [])
  have hJm : J.1.mem = G.mem := by rw [eJ]; exact hJk.1
  have hJl : J.2.length = k := by rw [eJ]; exact (hJk.2.2.2).trans (by simp; omega)
  have hn3' : es3.length = J.1.tb.length := by rw [← hm3, List.length_map]
  by_cases hlt : k < v.cs.length
  case' neg =>
    refine br_F (decide ((k : Int) < (v.cs.length : Int))) (by kernel_rfl) (decide_eq_false (by omega)) ?_
    have hke : v.cs.take k = v.cs := List.take_of_length_le (by omega)
    rw [hke] at eJ
    rw [← eJ] at eR
    subst eR
    intro ids w2 hp hf
    refine ⟨x1, y1, a3, c3, es3, oa, oc, hm3, ?_, hdj3, ⟨⟨by rw [hJm]; exact hf.x.1.1, hf.x.2⟩, (rw_cells hf.x.1.2)⟩, ?_, hf.chg.below⟩
    · show _ = Ending.returned (Value.tuple #[imV J.1 x1 y1 a3 c3, .slice oa J.2.length oc, .int .i64 0])
      unfold imV imC
      rw [hJl, hJm]; kernel_rfl
    · rintro q ((hq | hq) | hq)
      · rw [hJm] at hq
        exact (hn1 q (.inl (by rw [← hGm]; exact hq))).1
      · exact (hn3 q hq).1
      · exact (ho3 q ((rw_cl hf.x.1.2).2 q hq)).1
  refine br_T (decide ((k : Int) < (v.cs.length : Int))) (by kernel_rfl) (decide_eq_true (by omega)) ?_
  obtain ⟨c, hc⟩ : ∃ c, v.cs[k]? = some c := ⟨_, List.getElem?_eq_getElem hlt⟩
  have hce := c_elt HV.c hc
  refine need_k (b1.isSome = true ∧ (0 : Int) ≤ k ∧ (k : Int) < v.cs.length) (by kernel_rfl) ⟨hce.1, by omega, by omega⟩ ?_
  refine node_ld0 (k := ⟨58, 0, 0, 18, 9⟩) ⟨c.is, [], [], [], []⟩ (.pointer (some (((b1.getD ⟨0, 0, none⟩).add (k * 8)).add 0))) c.cells (by intros; kernel_rfl) (by intros; kernel_rfl) (hce.2 _ (fun q => q)) hcnt' (by kernel_rfl) oneNil ?_
  obtain ⟨Q, eQ⟩ : ∃ Q, Q = runV J.1 c := ⟨_, rfl⟩
  have hQm : Q.i.mem = G.mem := by rw [eQ]; exact (runV_mem J.1 c).1.trans hJm
  refine node_touch (rest := (HX.cl x1 (G.mem.map (Value.int .i64))).and (HX.rw 5 64 oa k oc (ancells J.2))) (h0 := tabR a3 c3 es3) (fun ids => #[.pointer (some ⟨idAt ids 0, 0, none⟩), .agg c.cells.toArray]) (fun vs h' => ∃ a4 c4 es4, es4.map SE.s = Q.i.tb ∧ Dj a4 c4 es4 ∧ (∀ q, (tabR a4 c4 es4).F q → w.heap.size ≤ q) ∧ vs = ⟨imI Q.i ++ [Q.k, Q.re, Q.im], [], [], [G.mem.length, y1, Q.i.tb.length, c4], [x1, a4]⟩ ∧ h' = tabR a4 c4 es4) rfl rfl (by intros; kernel_rfl) (fun ids w2 hp hf => ?_) (fun q hq => ⟨(hn3 q hq).2, .inl (hn3 q hq).1⟩) (by kernel_rfl) ?_ ?_
  · have hb0 := hf.blkAt 0 rfl
    have := xrun_any (idAt ids 0) J.1 x1 y1 a3 c3 es3 c w2 (hb0.trans (Eq.trans (b := some (.cells (imC ⟨J.1.ep, G.mem, J.1.sl, J.1.regs, J.1.tb⟩ x1 y1 a3 c3).toArray 54 (0, 0))) (by kernel_rfl) (by unfold imC; rw [hJm]))) (tabR_at hf.x.2) hm3 hJ.1.tb hJ.2 (hall c (List.mem_of_getElem? hc))
    rw [← eQ] at this
    refine this.mono ?_
    rintro e w3 ⟨a4, c4, es4, q1, rfl, q2, q3, q4, q5, q6⟩
    refine ⟨_, _, ⟨a4, c4, es4, q1, q3, fun q hq => Nat.le_trans hf.chg.size (q5 q hq), rfl, rfl⟩, by kernel_rfl, q2.trans (Eq.trans (b := some (.cells (imC ⟨Q.i.ep, G.mem, Q.i.sl, Q.i.regs, Q.i.tb⟩ x1 y1 a4 c4).toArray 54 (0, 0))) (by unfold imC; rw [hQm]) (by kernel_rfl)), q4, fun q hq => ⟨.inr (q5 q hq), tabR_lt q4 q hq⟩, chg_of_grown (.inl rfl) q6⟩
  · rintro vs h' ⟨a4, c4, es4, _, _, _, rfl, rfl⟩
    exact ⟨by kernel_rfl, oneNil⟩
  rintro vs h' ⟨a4, c4, es4, hm4, hdj4, hn4, rfl, rfl⟩ hap4
  refine holds_eq (HX.and_right_comm _ _ _) ?_
  refine node_pushs (z := .agg #[.int .i64 0, .int .i64 0, .int .i64 0, .int .i64 0, .int .i64 0]) (sz := 5) (bytes := 40) rfl (by kernel_rfl) info_ans rfl (by decide) oa k oc (ancells J.2) (AnD.cells ⟨c.sess, c.seq, Q.k, Q.re, Q.im⟩) 4 (by intros; kernel_rfl) (by intros; kernel_rfl) rfl (by intros; kernel_rfl) rfl (an_one _) (fun q h1 h2 hF => ?_) (fun q h1 h2 => .inl (ho3 q ⟨h1, h2⟩).1) (by simp [maxLen]; omega) (by omega) (by intros; kernel_rfl) (by kernel_rfl) (by kernel_rfl) (by intros; kernel_rfl) ?_
  · rcases hF with hF | hF
    · exact (ho3 q ⟨h1, h2⟩).2 hF
    · exact (hap4 q hF).1 (.inr ⟨h1, h2⟩)
  intro oa' oc' hoc hdis hwh
  have hstep : runAll G (v.cs.take (k + 1)) = (Q.i, J.2 ++ [⟨c.sess, c.seq, Q.k, Q.re, Q.im⟩]) := by rw [runAll_step G hc, ← eJ, eQ]; rfl
  have hwk : IntKind.i64.wrap ((k : Int) + 1) = ((k + 1 : Nat) : Int) := by rw [wrap_i64 (by omega)]; omega
  rw [ancells_snoc]
  refine again_V ⟨((k + 1 : Nat) : Int) :: imI Q.i, [], [], [k + 1, oc', G.mem.length, y1, Q.i.tb.length, c4], [oa', x1, a4]⟩ rfl (fun ids => Eq.trans (b := ⟨IntKind.i64.wrap ((k : Int) + 1) :: imI Q.i, [], [], [k + 1, oc', G.mem.length, y1, Q.i.tb.length, c4], [oa', x1, a4]⟩) (by kernel_rfl) (by rw [hwk])) (((HX.cl x1 (G.mem.map (Value.int .i64))).and (HX.rw 5 64 oa' (k + 1) oc' (ancells (J.2 ++ [⟨c.sess, c.seq, Q.k, Q.re, Q.im⟩])))).and (tabR a4 c4 es4)) (fun w2 ids hf => ?_) ⟨⟨k + 1, a4, c4, es4, oa', oc', hlt, by rw [hstep]; exact hm4, hdj4, fun q hq => ⟨hn4 q hq, ?_⟩, fun q hq => ⟨?_, ?_⟩, by rw [hstep], by rw [hstep]⟩, ?_⟩
  · exact ⟨⟨⟨hf.x.1.1, hf.x.2⟩, hf.x.1.2⟩, fun q hq => hf.sep q (hq.elim (fun z => z.elim (fun z => .inl (.inl z)) .inr) (fun z => .inl (.inr z)))⟩
  · rw [hstep]
    rintro (z | z)
    · exact (hap4 q hq).1 (.inl z)
    · exact hdis q z.2 (.inr hq)
  · rw [hstep] at hq
    rcases hwh with ⟨z1, z2⟩ | ⟨g, z1, z2, z3⟩
    · exact (ho3 q ⟨z1, by rw [← z2]; exact hq.2⟩).1
    · rw [hq.2] at z1; cases z1; exact z2
  · rw [hstep] at hq
    exact fun z => hdis q hq.2 (.inl z)
  · show v.cs.length - (((k + 1 : Nat) : Int)).toNat < v.cs.length - ((k : Int)).toNat
    omega
end Go.Proofs.Ytbedoemdjlollaa

namespace Go.Proofs.Ytbedoemdjlollaa
open Go.ChangeShapes Go.WideShapes Go.ChangeAt Go.RowKit Go.Syn Go.Eng
set_option linter.unusedVariables false
set_option linter.unusedSimpArgs false
set_option maxRecDepth 100000
def hi0 : Im := ⟨0, [1, 2, 3], 0, im0.regs, []⟩
def hr2 : ExR := ⟨⟨0, [1, 2, 3], 2, [2, 1, 0, 0, 0, 0, 0, 0, 0, 0, 0, 0, 0, 0, 0, 0], [⟨9, 0, [⟨1, 1, 2, 1⟩]⟩]⟩, [⟨9, 1, 1, 2, 1⟩], 0⟩
def hr3 : ExR := ⟨⟨1, [2, 4], 3, [2, 1, 0, 0, 0, 0, 0, 0, 0, 0, 0, 0, 0, 0, 0, 0], [⟨9, 0, [⟨1, 1, 2, 1⟩]⟩]⟩, [], 0⟩
end Go.Proofs.Ytbedoemdjlollaa

namespace Go.Proofs.Ytbedoemdjlollaa
open Go.ChangeShapes Go.WideShapes Go.ChangeAt Go.RowKit Go.Syn Go.Eng
set_option linter.unusedVariables false
set_option linter.unusedSimpArgs false
set_option maxRecDepth 100000
end Go.Proofs.Ytbedoemdjlollaa

namespace Go.Proofs.Ytbedoemdjlollaa
open Go.ChangeShapes Go.WideShapes Go.ChangeAt Go.RowKit Go.Syn Go.Eng
set_option linter.unusedVariables false
set_option linter.unusedSimpArgs false
set_option maxRecDepth 100000
structure Pv where
  v : Vl
  a1 : Option Addr
  c1 : Nat
  a2 : Option Addr
  c2 : Nat
def Pv.cells (p : Pv) : List Value := [.int .i64 p.v.k, .slice p.a1 p.v.cs.length p.c1, .slice p.a2 p.v.ns.length p.c2]
def imOk (I : Im) : Prop := VI I ∧ I.regs.length = 16 ∧ ∀ x ∈ I.mem, I64 x
theorem imOk.fit {I : Im} (h : imOk I) : ImFit I := ⟨h.2.2, by have := h.1.fit.1; omega, h.2.1⟩
theorem goI_ok {I : Im} (h : imOk I) {slot : Int} {v : Vl} (hs : slot = I.sl + 1) (hs2 : slot ≤ 1099511627776) (he : v.k = 2 → I.ep < 1099511627776) (hz : valE v = 0) (hn : ∀ x ∈ v.ns, I64 x) : imOk (goI I slot v) := by
  have h0 := h.1.sl0
  have e0 := h.1.ep0
  unfold goI
  split
  · rename_i k2
    have hm : setOkB v.ns = true := by
      rcases valE_zero hz with q | q | q
      · omega
      · exact q.2.2
      · omega
    exact ⟨⟨by show 0 ≤ I.ep + 1; omega, by have := he k2; show I.ep + 1 ≤ _; omega, by show 0 ≤ slot; omega, hs2, hm, h.1.regs, h.1.tb⟩, h.2.1, hn⟩
  · exact ⟨⟨e0, h.1.ep1, by show 0 ≤ slot; omega, hs2, h.1.mem, h.1.regs, h.1.tb⟩, h.2.1, h.2.2⟩
theorem runAll_ok {I : Im} (h : imOk I) {cs : List CmD} (hc : ∀ c ∈ cs, cmdV c = 0) : imOk (runAll I cs).1 := by
  obtain ⟨h1, h2⟩ := h.1.all h.2.1 hc cs.length
  rw [List.take_length] at h1 h2
  exact ⟨h1, h2, by have := (runAll_keep I cs (I, [])).1; show ∀ x ∈ (cs.foldl stepV (I, [])).1.mem, I64 x; rw [this]; exact h.2.2⟩
theorem cs_ok {v : Vl} (hz : valE v = 0) : ∀ c ∈ v.cs, cmdV c = 0 := by
  rcases valE_zero hz with q | q | q
  · rw [q.2.1]; intro c hc; cases hc
  · rw [q.2.1]; intro c hc; cases hc
  · exact firstE_all q.2.2.2.2
theorem exec_eq {I : Im} (h : VI I) {slot : Int} {v : Vl} (hs : slot = I.sl + 1) (hs2 : slot ≤ 1099511627776) (he : v.k = 2 → I.ep < 1099511627776) : execV I slot v = if valE v ≠ 0 then ⟨im0, [], valE v⟩ else ⟨(runAll (goI I slot v) v.cs).1, (runAll (goI I slot v) v.cs).2, 0⟩ := by
  unfold execV
  rw [if_neg (by rw [(validI_iff I).2 h]; decide), if_neg]
  rintro (q | q | ⟨q1, q2⟩)
  · exact q hs
  · omega
  · have := he q1; omega
structure ExecOk (I : Im) (slot : Int) (v : Vl) (R : ExR) : Prop where
  e : R.e = 0
  i : R.i = (runAll (goI I slot v) v.cs).1
  an : R.an = (runAll (goI I slot v) v.cs).2
  ok : imOk R.i
  sl : R.i.sl = slot
  mem : R.i.mem = if v.k = 2 then v.ns else I.mem
  ep : R.i.ep = if v.k = 2 then I.ep + 1 else I.ep
  len : R.an.length = v.cs.length
  rest : v.cs = [] → R.i.regs = I.regs ∧ R.i.tb = I.tb
theorem exec_ok {I : Im} (h : imOk I) {slot : Int} {v : Vl} (hs : slot = I.sl + 1) (hs2 : slot ≤ 1099511627776) (he : v.k = 2 → I.ep < 1099511627776) (hz : valE v = 0) (hn : ∀ x ∈ v.ns, I64 x) : ExecOk I slot v (execV I slot v) := by
  rw [exec_eq h.1 hs hs2 he, if_neg (fun q => q hz)]
  have hk := runAll_keep (goI I slot v) v.cs (goI I slot v, [])
  refine ⟨rfl, rfl, rfl, runAll_ok (goI_ok h hs hs2 he hz hn) (cs_ok hz), hk.2.2.1.trans ?_, hk.1.trans ?_, hk.2.1.trans ?_, (hk.2.2.2).trans (by simp), fun hc => ?_⟩
  · show (goI I slot v).sl = slot
    unfold goI; split <;> rfl
  · show (goI I slot v).mem = _
    unfold goI; split <;> rfl
  · show (goI I slot v).ep = _
    unfold goI; split <;> rfl
  · rw [hc]
    show (goI I slot v).regs = _ ∧ (goI I slot v).tb = _
    unfold goI; split <;> exact ⟨rfl, rfl⟩
end Go.Proofs.Ytbedoemdjlollaa

namespace Go.Proofs.Ytbedoemdjlollaa
open Go.ChangeShapes Go.WideShapes Go.ChangeAt Go.RowKit Go.Syn Go.Eng
set_option linter.unusedVariables false
set_option linter.unusedSimpArgs false
set_option maxRecDepth 100000
def insP {α : Type} (l : List α) (p : Nat) (x : α) (k : Nat) : List α := if p < k then insAt (l.take k) p x else l.take k
theorem insAt_snoc {α : Type} {l : List α} {p : Nat} (x y : α) (h : p ≤ l.length) : insAt (l ++ [y]) p x = insAt l p x ++ [y] := by
  unfold insAt
  rw [List.take_append_of_le_length h, List.drop_append_of_le_length h]; simp
theorem insP_step {α : Type} {l : List α} {p k : Nat} {x y : α} (hk : l[k]? = some y) : insP l p x (k + 1) = (if p = k then insP l p x k ++ [x] else insP l p x k) ++ [y] := by
  have hkl : k < l.length := (List.getElem?_eq_some_iff.1 hk).1
  have ht : l.take (k + 1) = l.take k ++ [y] := by rw [List.take_add_one, hk]; rfl
  have hl : (l.take k).length = k := by rw [List.length_take]; omega
  unfold insP
  rcases Nat.lt_trichotomy p k with h | h | h
  · rw [if_pos (by omega), if_neg (by omega), if_pos h, ht, insAt_snoc _ _ (by omega)]
  · subst h
    rw [if_pos (by omega), if_pos rfl, if_neg (by omega), ht, insAt_snoc _ _ (by omega)]
    congr 1
    unfold insAt
    rw [List.take_of_length_le (by omega), List.drop_of_length_le (by omega)]
  · rw [if_neg (by omega), if_neg (by omega), if_neg (by omega), ht]
theorem insP_end {α : Type} {l : List α} {p : Nat} (x : α) (hp : p ≤ l.length) : (if p < l.length then insP l p x l.length else insP l p x l.length ++ [x]) = insAt l p x := by
  unfold insP
  rw [List.take_length]
  split
  · rfl
  · have : p = l.length := by omega
    rw [this]
    unfold insAt
    rw [List.take_length, List.drop_length]
theorem insP_zero {α : Type} (l : List α) (p : Nat) (x : α) : insP l p x 0 = [] := by unfold insP; rw [if_neg (by omega)]; rfl
def krow (a : Option Addr) (c : Nat) (M : List KpD) : HX := HX.rw 4 143 a M.length c (kcells M)
theorem krow_snoc (a : Option Addr) (c : Nat) (M : List KpD) (x : KpD) : HX.rw 4 143 a (M.length + 1) c (kcells M ++ x.cells) = krow a c (M ++ [x]) := by
  unfold krow kcells
  rw [List.length_append, List.flatMap_append]; simp
def Apart (W : World) (T : HX) (h : HX) : Prop := ∀ q, h.F q → W.heap.size ≤ q ∧ ¬ T.F q
theorem kp_one1 (k : KpD) : ∀ v ∈ k.cells, v.oneCell' = true := fun v hv => by
  unfold KpD.cells at hv
  simp only [List.mem_cons, List.not_mem_nil, or_false] at hv
  rcases hv with rfl | rfl | rfl | rfl <;> rfl
section
variable {C : Cfg} {ρ : Env} {pre : List Nat} {rest : HX} {L : Stack} {m m' : Mem} {ty : Nat} {ps : List (Nat × SV)} {t : Tree}
theorem node_kpush {so xo : Operand} {ac : Go.Call} {r : SV} {e2 : Nat} {lvs : List LV} (hC : C.P = Try.prog) (hac : ac = { callee := .builtin .append, args := #[so, xo], argTypes := #[139, 139] }) (a : Option Addr) (cap : Nat) (M : List KpD) (x : KpD) (bn : Nat) (hso : ∀ ids, envOf ρ ids ps so = .slice a M.length cap) (hxo : ∀ ids, envOf ρ ids ps xo = .slice (some ⟨idAt ids bn, 0, none⟩) 1 1)
    (hn : m.hp[bn]? = some (e2, lvs)) (hlv : ∀ ids, cellsDen ρ ids lvs = x.cells) (hap : Apart C.W rest (krow a cap M)) (hl : M.length ≤ 1000000)
    (hr : ∀ a' cap' ids, r.den (ρ.add ⟨[], [], [], [M.length + 1, cap'], [a']⟩) ids = .slice a' (M.length + 1) cap') (hhp : m'.hp = m.hp) (hfit : hpFits m.c m.hp.length m.hp = true) (hc : ∀ a' cap', (ρ.add ⟨[], [], [], [M.length + 1, cap'], [a']⟩).cnt = m'.c)
    (h : ∀ a' cap', Apart C.W rest (krow a' cap' (M ++ [x])) → t.holds C (ρ.add ⟨[], [], [], [M.length + 1, cap'], [a']⟩) pre (rest.and (krow a' cap' (M ++ [x]))) L) :
    (Tree.gen (.call ac) ty ps m (some r) m' t).holds C ρ pre (rest.and (krow a cap M)) L := by
  obtain ⟨P, W, MM, R⟩ := C
  cases hC
  refine node_pushs (z := .agg #[.int .i64 0, .int .i64 0, .int .i64 0, .int .i64 0]) (sz := 4) (bytes := 32) hac (by kernel_rfl) info_kp rfl (by decide) a M.length cap (kcells M) x.cells bn hso hxo hn hlv rfl (kp_one1 x) (fun q h1 h2 hF => (hap q ⟨h1, h2⟩).2 hF) (fun q h1 h2 => .inl (hap q ⟨h1, h2⟩).1) (by simp [maxLen]; omega) (by omega) hr hhp hfit hc ?_
  intro a' c' hc' hdis hwh
  rw [krow_snoc]
  refine h a' c' fun q hq => ⟨?_, hdis q hq.2⟩
  rcases hwh with ⟨z1, z2⟩ | ⟨g, z1, z2, z3⟩
  · exact (hap q ⟨z1, by rw [← z2]; exact hq.2⟩).1
  · rw [hq.2] at z1; cases z1; exact z2
end
structure RepR where
  k : Int
  re : Int
  im : Int
  d : Bool
def repV (l : List KpD) (seq : Int) : RepR :=
  if hitI (seqsK l) seq then
    match l[posI (seqsK l) seq]? with
    | none => ⟨0, 0, 0, true⟩
    | some k => ⟨k.kind, k.re, k.im, true⟩
  else ⟨0, 0, 0, false⟩
def repRet (R : RepR) : Value := .tuple #[.agg #[.int .i64 R.k, .int .i64 R.re, .int .i64 R.im], .bool R.d]
def RpI (l : List KpD) (seq : Int) (vs : Vals) (hx : HX) : Prop := ∃ k : Nat, k ≤ l.length ∧ (∀ (x : Nat) (e : KpD), x < k → l[x]? = some e → e.seq ≠ seq) ∧ vs = ⟨[(k : Int)], [], [], [], []⟩ ∧ hx = HX.nil
theorem rreply_any (no ack : Int) (a : Option Addr) (c : Nat) (l : List KpD) (seq : Int) (w : World) (H : Cells w a (kcells l)) (hr : Rise (seqsK l)) (hl : l.length ≤ 1000000) : Calls Try.prog 81 #[.agg #[.int .i64 no, .int .i64 ack, .slice a l.length c], .int .i64 seq] w (PureAt w (repRet (repV l seq))) := by
  refine calls_at (tab_ok _) Try.func81 rfl tRReply (ρ := ⟨[no, ack, seq], [], [], [l.length, c], [a]⟩) (ids := []) (hx := HX.nil) rfl (Facts.initP rfl oneNil) ?_
  have hk : ∀ {x : Nat} {e : KpD}, l[x]? = some e → (seqsK l)[x]? = some e.seq := fun h => by unfold seqsK; rw [List.getElem?_map, h]; rfl
  have hk2 : ∀ {x : Nat} {y : Int}, (seqsK l)[x]? = some y → ∃ e, l[x]? = some e ∧ e.seq = y := fun {x y} h => by
    unfold seqsK at h
    rw [List.getElem?_map] at h
    cases h4 : l[x]? with
    | none => rw [h4] at h; cases h
    | some e => rw [h4] at h; simp only [Option.map_some, Option.some.injEq] at h; exact ⟨e, rfl, h⟩
  have hkl : (seqsK l).length = l.length := by unfold seqsK; rw [List.length_map]
  obtain ⟨RR, eRR⟩ : ∃ RR, RR = repV l seq := ⟨_, rfl⟩
  rw [← eRR]
  unfold repV at eRR
  refine loop_i (RpI l seq) (fun vs => l.length - (vs.i.headD 0).toNat) (fun ids w2 hp hf => ⟨HX.nil, HXok.none _ _, 0, Nat.zero_le _, fun x e h => absurd h (Nat.not_lt_zero _), rfl, rfl⟩) ?_
  rintro vs hx' hcnt ⟨k, hkk, h1, rfl, rfl⟩
  by_cases hlt : k < l.length
  · refine br_T (decide ((k : Int) < (l.length : Int))) (by kernel_rfl) (decide_eq_true (by omega)) ?_
    obtain ⟨e, he⟩ : ∃ e, l[k]? = some e := ⟨_, List.getElem?_eq_getElem hlt⟩
    refine need_k (a.isSome = true ∧ (0 : Int) ≤ k ∧ (k : Int) < l.length) (by kernel_rfl) ⟨kp_sm H he, by omega, by omega⟩ ?_
    refine node_ld0 (k := ⟨4, 0, 0, 2, 1⟩) ⟨[e.seq], [], [], [], []⟩ (.pointer (some (((a.getD ⟨0, 0, none⟩).add (k * 4)).add 0))) [.int .i64 e.seq] (by intros; kernel_rfl) (by intros; kernel_rfl) ((flat_part kp_len H he (o := 0) [.int .i64 e.seq] (at1 rfl) (by simp)).2 _ (fun q => q)) ⟨rfl, oneNil⟩ (by kernel_rfl) oneNil ?_
    by_cases hq : e.seq = seq
    · refine br_T (e.seq == seq) (by kernel_rfl) (by simpa using hq) ?_
      have hp : posI (seqsK l) seq = k := posI_of (by omega) (fun x y hx hy => by
        have := hr x k y seq hx hy (by rw [← hq]; exact hk he); exact this) (fun x y hx hy => by
        rcases Nat.lt_or_ge k x with z | z
        · have := hr k x seq y z (by rw [← hq]; exact hk he) hy; omega
        · have : x = k := by omega
          subst this; rw [hk he, hq] at hy; cases hy; exact Int.le_refl _)
      have hh : hitI (seqsK l) seq = true := by rw [hit_iff, hp, ← hq]; exact hk he
      rw [if_pos hh, hp, he] at eRR
      dsimp only at eRR
      refine need_k (a.isSome = true ∧ (0 : Int) ≤ k ∧ (k : Int) < l.length) (by kernel_rfl) ⟨kp_sm H he, by omega, by omega⟩ ?_
      refine node_ld0 (k := ⟨5, 0, 0, 2, 1⟩) ⟨[e.kind, e.re, e.im], [], [], [], []⟩ (.pointer (some (((a.getD ⟨0, 0, none⟩).add (k * 4)).add 1))) [.int .i64 e.kind, .int .i64 e.re, .int .i64 e.im] (by intros; kernel_rfl) (by intros; kernel_rfl) ((flat_part kp_len H he (o := 1) [.int .i64 e.kind, .int .i64 e.re, .int .i64 e.im] (fun j u hj => by unfold KpD.cells; rw [Nat.add_comm, List.getElem?_cons_succ]; exact hj) (by simp)).2 _ (fun q => q)) ⟨rfl, oneNil⟩ (by kernel_rfl) oneNil ?_
      rw [eRR]
      exact pure_done (by intros; kernel_rfl)
    · refine br_F (e.seq == seq) (by kernel_rfl) (by simpa using hq) ?_
      have hwk : IntKind.i64.wrap ((k : Int) + 1) = ((k + 1 : Nat) : Int) := by rw [wrap_i64 (by omega)]; omega
      refine again_V ⟨[((k + 1 : Nat) : Int)], [], [], [], []⟩ rfl (fun ids => Eq.trans (b := ⟨[IntKind.i64.wrap ((k : Int) + 1)], [], [], [], []⟩) (by kernel_rfl) (by rw [hwk])) HX.nil (fun w2 ids hf => HXok.none _ _) ⟨⟨k + 1, by omega, fun x y hx hy => ?_, rfl, rfl⟩, ?_⟩
      · rcases Nat.lt_or_ge x k with z | z
        · exact h1 x y z hy
        · have : x = k := by omega
          subst this; rw [he] at hy; cases hy; exact hq
      · show l.length - (((k + 1 : Nat) : Int)).toNat < l.length - ((k : Int)).toNat
        omega
  · refine br_F (decide ((k : Int) < (l.length : Int))) (by kernel_rfl) (decide_eq_false (by omega)) ?_
    have hh : ¬ hitI (seqsK l) seq = true := fun q => by
      obtain ⟨e, he, hno⟩ := hk2 (hit_iff.1 q)
      exact h1 _ e (by have := (List.getElem?_eq_some_iff.1 he).1; omega) he hno
    rw [if_neg hh] at eRR
    rw [eRR]
    exact pure_done (by intros; kernel_rfl)
end Go.Proofs.Ytbedoemdjlollaa

namespace Go.Proofs.Ytbedoemdjlollaa
open Go.ChangeShapes Go.WideShapes Go.ChangeAt Go.RowKit Go.Syn Go.Eng
set_option linter.unusedVariables false
set_option linter.unusedSimpArgs false
set_option maxRecDepth 100000
def KpI (W : World) (T : HX) (l : List KpD) (j : Nat) (x : KpD) (vs : Vals) (hx : HX) : Prop := ∃ (k : Nat) (ka : Option Addr) (kc : Nat), k ≤ l.length ∧ Apart W T (krow ka kc (insP l j x k)) ∧ vs = ⟨[(k : Int)], [decide (j < k)], [], [(insP l j x k).length, kc], [ka]⟩ ∧ hx = T.and (krow ka kc (insP l j x k))
def KpJ (W : World) (T : HX) (M : List KpD) (b : List Bool) (vs : Vals) (hx : HX) : Prop := ∃ (ka : Option Addr) (kc : Nat), Apart W T (krow ka kc M) ∧ vs = ⟨[], b, [], [M.length, kc], [ka]⟩ ∧ hx = T.and (krow ka kc M)
theorem insAt_len2 {α : Type} (l : List α) (i : Nat) (x : α) : (insAt l i x).length = l.length + 1 := by
  unfold insAt
  rw [List.length_append, List.length_cons, List.length_take, List.length_drop]; omega
theorem insP_len {α : Type} (l : List α) (p : Nat) (x : α) (k : Nat) : (insP l p x k).length ≤ l.length + 1 := by
  unfold insP
  split
  · rw [insAt_len2, List.length_take]; omega
  · rw [List.length_take]; omega
theorem krow_nil (a : Option Addr) (w : World) : (krow a 0 []).X w := HX.rw_nil _ _ _ _
theorem krow_none (a : Option Addr) (q : Nat) : ¬ (krow a 0 []).F q := fun h => h.1 rfl
set_option maxHeartbeats 4000000 in
theorem rkeep_any (a : Option Addr) (cap : Nat) (es : List SE) (sess seq ack o1 o2 o3 o4 o5 k re im : Int) (w : World) (H : TbAt w a es) (hok : TOk (es.map SE.s)) :
    Calls Try.prog 60 #[.slice a es.length cap, cmdC sess seq ack o1 o2 o3 o4 o5, .agg #[.int .i64 k, .int .i64 re, .int .i64 im]] w (TbNew w id (keepV (es.map SE.s) sess seq k re im)) := by
  refine calls_at (tab_ok _) Try.func60 rfl tRKeep (ρ := ⟨[sess, seq, ack, o1, o2, o3, o4, o5, k, re, im], [], [], [es.length, cap], [a]⟩) (ids := []) (hx := HX.nil) rfl (Facts.initP rfl oneNil) ?_
  obtain ⟨t, et⟩ : ∃ t, t = es.map SE.s := ⟨_, rfl⟩
  rw [← et] at hok ⊢
  obtain ⟨R, eR⟩ : ∃ R, R = keepV t sess seq k re im := ⟨_, rfl⟩
  rw [← eR]
  have htl : t.length = es.length := by rw [et, List.length_map]
  have hkk : ∀ e ∈ es, e.s.kept.length ≤ 1000 := fun e he => hok.kept e.s (by rw [et]; exact List.mem_map_of_mem he)
  have hlen := hok.len
  refine node_tb (V := id) (tb := t) (fun _ => #[.slice a es.length cap]) (fun a' c' => ⟨[], [], [], [t.length, c'], [a']⟩) (by intros; kernel_rfl) (fun ids w2 hp hf => by
    rw [et]; exact rcopy_any a cap es w2 (H.keep (fun k hk => hf.chg.block k hk (fun q => q))) (by omega) (fun e he => by have := hkk e he; omega)) (by intros; kernel_rfl) (by kernel_rfl) (by kernel_rfl) (by intros; kernel_rfl) (fun _ _ => oneNil) ?_
  intro a2 c2 es2 hm2 hdj2 hsm2 hnew2
  have hl1 : es2.length = t.length := by rw [← hm2, List.length_map]
  obtain ⟨i, ei⟩ : ∃ i, i = posI (nosT t) sess := ⟨_, rfl⟩
  refine holds_env (ρ' := ⟨[sess, seq, ack, o1, o2, o3, o4, o5, k, re, im], [], [], [es.length, cap, es2.length, c2], [a, a2]⟩) (by rw [hl1]; kernel_rfl) ?_
  refine holds_eq (HX.nil_and _) ?_
  have hnew3 : ∀ k, (tabR a2 c2 es2).F k → w.heap.size ≤ k := fun k hk => (hnew2 k hk).1
  refine node_P ⟨[atV t sess], [], [], [], []⟩ #[.slice a2 es2.length c2, .int .i64 sess] (.int .i64 (atV t sess)) (by intros; kernel_rfl) (by intros; kernel_rfl) (by intros; kernel_rfl) (by intros; kernel_rfl) (by intros; kernel_rfl) oneNil (fun ids w2 hp hf => by
    have := rat_any a2 c2 es2 sess w2 (tabR_at hf.x) (by rw [hm2]; exact hok.nos) (by omega)
    rw [hm2] at this; exact this) ?_
  have stay : R = t → ∀ {m : Mem} {ρ : Env} {v : SV} {pre : List Nat} {L : Stack}, (∀ ids, v.den ρ ids = .slice a2 es2.length c2) → (Tree.done v m).holds ⟨Try.prog, w, fun _ => False, TbNew w id R⟩ ρ pre (tabR a2 c2 es2) L := fun hR {m ρ v pre L} hv ids w2 hp hf => by
    rw [hR] at hf ⊢
    exact tb_fin hf hm2 hdj2 hnew3 (hv ids)
  rcases Bool.eq_false_or_eq_true (hitI (nosT t) sess) with hh | hh
  rotate_left
  · have hat : atV t sess = -1 := by unfold atV; rw [if_neg (by rw [hh]; decide)]
    refine br_T (decide (atV t sess < 0)) (by kernel_rfl) (by rw [hat]; rfl) ?_
    exact stay (by rw [eR]; unfold keepV; rw [if_pos hh]) (by intros; kernel_rfl)
  have hat : atV t sess = (i : Int) := by unfold atV; rw [if_pos hh, ei]
  rw [hat]
  refine br_F (decide ((i : Int) < 0)) (by kernel_rfl) (decide_eq_false (by omega)) ?_
  obtain ⟨s, hs, hsno, hs1, _⟩ := tabS_at t sess
  rw [← ei] at hs1
  have hts := hs1 hh
  obtain ⟨e, he, hes⟩ : ∃ e, es2[i]? = some e ∧ e.s = s := by
    have h1 : (es2.map SE.s)[i]? = some s := by rw [hm2]; exact hts
    rw [List.getElem?_map] at h1
    cases h4 : es2[i]? with
    | none => rw [h4] at h1; cases h1
    | some x => rw [h4] at h1; simp only [Option.map_some, Option.some.injEq] at h1; exact ⟨x, rfl, h1⟩
  have hem := List.mem_of_getElem? he
  have hi2 : i < es2.length := (List.getElem?_eq_some_iff.1 he).1
  have hwe : es2 ≠ [] := fun q => by rw [q] at hi2; simp at hi2
  have hsok : e.s.kept.length ≤ 1000 ∧ Rise (seqsK e.s.kept) := by
    rw [hes]
    have := List.mem_of_getElem? hts
    exact ⟨hok.kept s this, hok.seqs s this⟩
  obtain ⟨l, el⟩ : ∃ l, l = e.s.kept := ⟨_, rfl⟩
  rw [← el] at hsok
  obtain ⟨j, ej⟩ : ∃ j, j = posI (seqsK l) seq := ⟨_, rfl⟩
  have hR : R = if hitI (seqsK l) seq = true ∨ seq ≤ e.s.ack ∨ 8 ≤ l.length then t else t.set i ⟨e.s.no, e.s.ack, insAt l j ⟨seq, k, re, im⟩⟩ := by
    rw [eR]; unfold keepV
    rw [if_neg (by rw [hh]; decide), ← ei, hts]
    dsimp only
    rw [← hes, ← el, ← ej]
  obtain ⟨T, eT⟩ : ∃ T, T = tabR a2 c2 es2 := ⟨_, rfl⟩
  have hTk : ∀ {w2 : World}, T.X w2 → Cells w2 e.a (kcells l) := fun h => by
    rw [eT] at h
    have := rw_cells (h.1 e hem)
    rw [← el] at this; exact this
  have hTt : ∀ {w2 : World}, T.X w2 → Cells w2 a2 (secells es2) := fun h => by rw [eT] at h; exact rw_cells h.2
  have ndt : a2.isSome = true ∧ (0 : Int) ≤ (i : Int) ∧ (i : Int) < (es2.length : Int) := ⟨hsm2.tab hwe, by omega, by omega⟩
  refine need_k (a2.isSome = true ∧ (0 : Int) ≤ i ∧ (i : Int) < es2.length) (by kernel_rfl) ndt ?_
  obtain ⟨Rp, eRp⟩ : ∃ Rp, Rp = repV l seq := ⟨_, rfl⟩
  have hRd : Rp.d = hitI (seqsK l) seq := by
    rw [eRp]; unfold repV
    split
    · rename_i q
      rw [q]; split <;> rfl
    · rename_i q
      simp at q
      rw [q]
  refine par_i ?_ ?_
  all_goals
    refine node_ldk ⟨[e.s.no, e.s.ack], [], [], [l.length, e.c], [e.a]⟩ (fun _ => .pointer (some (((a2.getD ⟨0, 0, none⟩).add (i * 3)).add 0))) [.int .i64 e.s.no, .int .i64 e.s.ack, .slice e.a l.length e.c] (by intros; kernel_rfl) (by intros; kernel_rfl) (fun ids w2 hp hf => by have := se_all i he (rw_cells hf.x.2); rw [el]; exact this) (by kernel_rfl) oneNil ?_
    try refine par_i ?_ ?_
  all_goals
    refine node_P ⟨[Rp.k, Rp.re, Rp.im], [Rp.d], [], [], []⟩ #[.agg #[.int .i64 e.s.no, .int .i64 e.s.ack, .slice e.a l.length e.c], .int .i64 seq] (repRet Rp) (by intros; kernel_rfl) (by intros; kernel_rfl) (by kernel_rfl) (by kernel_rfl) (by kernel_rfl) oneNil (fun ids w2 hp hf => eRp ▸ rreply_any e.s.no e.s.ack e.a e.c l seq w2 (hTk (by rw [eT]; exact hf.x)) hsok.2 (by omega)) ?_
    rcases Bool.eq_false_or_eq_true (hitI (seqsK l) seq) with hh2 | hh2
    · exact br_T Rp.d (by kernel_rfl) (by rw [hRd]; exact hh2) (stay (by rw [hR, if_pos (.inl hh2)]) (by intros; kernel_rfl))
    refine br_F Rp.d (by kernel_rfl) (by rw [hRd]; exact hh2) ?_
    refine need_k (a2.isSome = true ∧ (0 : Int) ≤ i ∧ (i : Int) < es2.length) (by kernel_rfl) ndt ?_
    refine node_ldk ⟨[e.s.ack], [], [], [], []⟩ (fun _ => .pointer (some (((a2.getD ⟨0, 0, none⟩).add (i * 3)).add 1))) [.int .i64 e.s.ack] (by intros; kernel_rfl) (by intros; kernel_rfl) (fun ids w2 hp hf => se_key i e he (n := 0) rfl (rw_cells hf.x.2)) (by kernel_rfl) oneNil ?_
    by_cases hst : seq ≤ e.s.ack
    · refine br_T (decide (seq ≤ e.s.ack)) (by kernel_rfl) (decide_eq_true hst) ?_
      exact stay (by rw [hR, if_pos (.inr (.inl hst))]) (by intros; kernel_rfl)
    refine br_F (decide (seq ≤ e.s.ack)) (by kernel_rfl) (decide_eq_false hst) ?_
    refine need_k (a2.isSome = true ∧ (0 : Int) ≤ i ∧ (i : Int) < es2.length) (by kernel_rfl) ndt ?_
    refine node_ldk ⟨[], [], [], [l.length, e.c], [e.a]⟩ (fun _ => .pointer (some (((a2.getD ⟨0, 0, none⟩).add (i * 3)).add 2))) [.slice e.a l.length e.c] (by intros; kernel_rfl) (by intros; kernel_rfl) (fun ids w2 hp hf => se_key i e he (n := 0) (by rw [el]; rfl) (rw_cells hf.x.2)) (by kernel_rfl) oneNil ?_
    by_cases h8 : 8 ≤ l.length
    · refine br_T (decide ((l.length : Int) ≥ 8)) (by kernel_rfl) (decide_eq_true (by omega)) ?_
      exact stay (by rw [hR, if_pos (.inr (.inr h8))]) (by intros; kernel_rfl)
    refine br_F (decide ((l.length : Int) ≥ 8)) (by kernel_rfl) (decide_eq_false (by omega)) ?_
    rw [if_neg (by rw [hh2]; rintro (q | q | q) <;> first | cases q | omega)] at hR
    have hjl : j ≤ l.length := by
      have := pos_le (seqsK l) seq
      rw [ej]; unfold seqsK at this ⊢
      rwa [List.length_map] at this
    refine holds_eq eT.symm ?_
    have ldT : ∀ {m m' : Mem} {t : Tree} {L : Stack} {pre : List Nat} {RR : Ending → World → Prop} {ρ : Env} {l2 : LV} {cs : List LV} {hx : HX}, (∀ w2, hx.X w2 → T.X w2) → (∀ ids, l2.den ρ ids = .pointer (some (((a2.getD ⟨0, 0, none⟩).add (i * 3)).add 2))) → (∀ ids, cellsDen (ρ.add ⟨[], [], [], [l.length, e.c], [e.a]⟩) ids cs = [.slice e.a l.length e.c]) → (ρ.add ⟨[], [], [], [l.length, e.c], [e.a]⟩).cnt = m'.c → t.holds ⟨Try.prog, w, fun _ => False, RR⟩ (ρ.add ⟨[], [], [], [l.length, e.c], [e.a]⟩) pre hx L → (Tree.ld true l2 cs m m' t).holds ⟨Try.prog, w, fun _ => False, RR⟩ ρ pre hx L := fun h0 h1 h2 h3 h4 =>
      node_ldk ⟨[], [], [], [l.length, e.c], [e.a]⟩ (fun _ => .pointer (some (((a2.getD ⟨0, 0, none⟩).add (i * 3)).add 2))) [.slice e.a l.length e.c] h1 h2 (fun ids w2 hp hf => se_key i e he (n := 0) (by rw [el]; rfl) (hTt (h0 _ hf.x))) h3 oneNil h4
    refine need_k (a2.isSome = true ∧ (0 : Int) ≤ i ∧ (i : Int) < es2.length) (by kernel_rfl) ndt ?_
    refine ldT (fun _ h => h) (by intros; kernel_rfl) (by intros; kernel_rfl) (by kernel_rfl) ?_
    obtain ⟨nw, enw⟩ : ∃ nw : KpD, nw = ⟨seq, k, re, im⟩ := ⟨_, rfl⟩
    refine loop_i (KpI w T l j nw) (fun vs => l.length - (vs.i.headD 0).toNat) (fun ids w2 hp hf => ⟨T.and (krow (some ⟨idAt ids 3, 0, none⟩) 0 []), ⟨⟨hf.x, krow_nil _ _⟩, fun q hq => hq.elim (fun z => hf.sep q z) (fun z => absurd z (krow_none _ q))⟩, 0, _, 0, Nat.zero_le _, by rw [insP_zero]; exact fun q hq => absurd hq (krow_none _ q), by rw [insP_zero]; kernel_rfl, by rw [insP_zero]⟩) ?_
    rintro vs hx' hcnt ⟨kk, ka, kc, hkl, hap, rfl, rfl⟩
    obtain ⟨M, eM⟩ : ∃ M, M = insP l j nw kk := ⟨_, rfl⟩
    have hMl : M.length ≤ 1001 := by rw [eM]; have := insP_len l j nw kk; omega
    rw [← eM] at hap ⊢
    refine holds_env (ρ' := ⟨[sess, seq, ack, o1, o2, o3, o4, o5, k, re, im, (i : Int), e.s.no, e.s.ack, Rp.k, Rp.re, Rp.im, e.s.ack, (kk : Int)], [Rp.d, decide (j < kk)], [], [es.length, cap, es2.length, c2, l.length, e.c, l.length, e.c, l.length, e.c, M.length, kc], [a, a2, e.a, e.a, e.a, ka]⟩) (by kernel_rfl) ?_
    by_cases hlt : kk < l.length
    · refine br_T (decide ((kk : Int) < (l.length : Int))) (by kernel_rfl) (decide_eq_true (by omega)) ?_
      obtain ⟨x, hx⟩ : ∃ x, l[kk]? = some x := ⟨_, List.getElem?_eq_getElem hlt⟩
      have hxs : (seqsK l)[kk]? = some x.seq := by unfold seqsK; rw [List.getElem?_map, hx]; rfl
      have hke : e.a.isSome = true := hsm2.each e hem (by rw [← el]; intro q; rw [q] at hlt; simp at hlt)
      have ndk : e.a.isSome = true ∧ (0 : Int) ≤ kk ∧ (kk : Int) < l.length := ⟨hke, by omega, by omega⟩
      obtain ⟨M1, eM1⟩ : ∃ M1, M1 = if j = kk then M ++ [nw] else M := ⟨_, rfl⟩
      have hM1l : M1.length ≤ 1002 := by
        rw [eM1]; split
        · rw [List.length_append, List.length_singleton]; omega
        · omega
      have hMs : insP l j nw (kk + 1) = M1 ++ [x] := by rw [insP_step hx, ← eM, eM1]
      refine ⟨KpJ w T M1 [decide (j ≤ kk)], ?_, ?_⟩
      · rcases Nat.lt_trichotomy j kk with q | q | q
        · refine br_F (!(decide (j < kk))) (by kernel_rfl) (by rw [decide_eq_true q]; rfl) ?_
          exact again_V ⟨[], [decide (j < kk)], [], [M.length, kc], [ka]⟩ rfl (by intros; kernel_rfl) (T.and (krow ka kc M)) (fun w2 ids hf => ⟨hf.x, hf.sep⟩) ⟨ka, kc, by rw [eM1, if_neg (by omega)]; exact hap, by rw [eM1, if_neg (by omega), decide_eq_true q, decide_eq_true (by omega)], by rw [eM1, if_neg (by omega)]⟩
        · refine br_T (!(decide (j < kk))) (by kernel_rfl) (by rw [decide_eq_false (by omega)]; rfl) ?_
          refine need_k (a2.isSome = true ∧ (0 : Int) ≤ i ∧ (i : Int) < es2.length) (by kernel_rfl) ndt ?_
          refine ldT (fun _ h => h.1) (by intros; kernel_rfl) (by intros; kernel_rfl) (by kernel_rfl) ?_
          refine need_k (e.a.isSome = true ∧ (0 : Int) ≤ kk ∧ (kk : Int) < l.length) (by kernel_rfl) ndk ?_
          refine node_ldk ⟨[x.seq], [], [], [], []⟩ (fun _ => .pointer (some (((e.a.getD ⟨0, 0, none⟩).add (kk * 4)).add 0))) [.int .i64 x.seq] (by intros; kernel_rfl) (by intros; kernel_rfl) (fun ids w2 hp hf => (flat_part kp_len (hTk hf.x.1) hx (o := 0) [.int .i64 x.seq] (at1 rfl) (by simp)).2 _ (fun q => q)) (by kernel_rfl) oneNil ?_
          have hgt : seq < x.seq := pos_gt hsok.2 hh2 (x := kk) (by rw [← ej]; omega) hxs
          refine br_T (decide (x.seq > seq)) (by kernel_rfl) (decide_eq_true hgt) ?_
          refine node_kpush rfl rfl ka kc M nw 4 (by intros; kernel_rfl) (by intros; kernel_rfl) rfl (by rw [enw]; intros; kernel_rfl) hap (by omega) (by intros; kernel_rfl) (by kernel_rfl) (by kernel_rfl) (by intros; kernel_rfl) ?_
          intro ka' kc' hap'
          exact again_V ⟨[], [true], [], [M.length + 1, kc'], [ka']⟩ rfl (by intros; kernel_rfl) (T.and (krow ka' kc' (M ++ [nw]))) (fun w2 ids hf => ⟨hf.x, hf.sep⟩) ⟨ka', kc', by rw [eM1, if_pos q]; exact hap', by rw [eM1, if_pos q, decide_eq_true (by omega)]; simp, by rw [eM1, if_pos q]⟩
        · refine br_T (!(decide (j < kk))) (by kernel_rfl) (by rw [decide_eq_false (by omega)]; rfl) ?_
          refine need_k (a2.isSome = true ∧ (0 : Int) ≤ i ∧ (i : Int) < es2.length) (by kernel_rfl) ndt ?_
          refine ldT (fun _ h => h.1) (by intros; kernel_rfl) (by intros; kernel_rfl) (by kernel_rfl) ?_
          refine need_k (e.a.isSome = true ∧ (0 : Int) ≤ kk ∧ (kk : Int) < l.length) (by kernel_rfl) ndk ?_
          refine node_ldk ⟨[x.seq], [], [], [], []⟩ (fun _ => .pointer (some (((e.a.getD ⟨0, 0, none⟩).add (kk * 4)).add 0))) [.int .i64 x.seq] (by intros; kernel_rfl) (by intros; kernel_rfl) (fun ids w2 hp hf => (flat_part kp_len (hTk hf.x.1) hx (o := 0) [.int .i64 x.seq] (at1 rfl) (by simp)).2 _ (fun q => q)) (by kernel_rfl) oneNil ?_
          have hgt : x.seq < seq := pos_lt (x := kk) (by rw [← ej]; omega) hxs
          refine br_F (decide (x.seq > seq)) (by kernel_rfl) (decide_eq_false (by omega)) ?_
          exact again_V ⟨[], [decide (j < kk)], [], [M.length, kc], [ka]⟩ rfl (by intros; kernel_rfl) (T.and (krow ka kc M)) (fun w2 ids hf => ⟨hf.x, hf.sep⟩) ⟨ka, kc, by rw [eM1, if_neg (by omega)]; exact hap, by rw [eM1, if_neg (by omega), decide_eq_false (by omega), decide_eq_false (by omega)], by rw [eM1, if_neg (by omega)]⟩
      · rintro vs hx' hcnt2 ⟨ka1, kc1, hap1, rfl, rfl⟩
        refine need_k (a2.isSome = true ∧ (0 : Int) ≤ i ∧ (i : Int) < es2.length) (by kernel_rfl) ndt ?_
        refine ldT (fun _ h => h.1) (by intros; kernel_rfl) (by intros; kernel_rfl) (by kernel_rfl) ?_
        refine need_k (e.a.isSome = true ∧ (0 : Int) ≤ kk ∧ (kk : Int) < l.length) (by kernel_rfl) ndk ?_
        refine node_ldk ⟨[x.seq, x.kind, x.re, x.im], [], [], [], []⟩ (fun _ => .pointer (some (((e.a.getD ⟨0, 0, none⟩).add (kk * 4)).add 0))) x.cells (by intros; kernel_rfl) (by intros; kernel_rfl) (fun ids w2 hp hf => kp_all kk hx (hTk hf.x.1)) (by kernel_rfl) oneNil ?_
        refine node_kpush rfl rfl ka1 kc1 M1 x 4 (by intros; kernel_rfl) (by intros; kernel_rfl) rfl (by intros; kernel_rfl) hap1 (by omega) (by intros; kernel_rfl) (by kernel_rfl) (by kernel_rfl) (by intros; kernel_rfl) ?_
        intro ka' kc' hap'
        have hwk : IntKind.i64.wrap ((kk : Int) + 1) = ((kk + 1 : Nat) : Int) := by rw [wrap_i64 (by omega)]; omega
        refine again_V ⟨[((kk + 1 : Nat) : Int)], [decide (j ≤ kk)], [], [M1.length + 1, kc'], [ka']⟩ rfl (fun ids => Eq.trans (b := ⟨[IntKind.i64.wrap ((kk : Int) + 1)], [decide (j ≤ kk)], [], [M1.length + 1, kc'], [ka']⟩) (by kernel_rfl) (by rw [hwk])) (T.and (krow ka' kc' (M1 ++ [x]))) (fun w2 ids hf => ⟨hf.x, hf.sep⟩) ⟨⟨kk + 1, ka', kc', hlt, by rw [hMs]; exact hap', by rw [hMs]; simp [Nat.lt_succ_iff], by rw [hMs]⟩, ?_⟩
        show l.length - (((kk + 1 : Nat) : Int)).toNat < l.length - ((kk : Int)).toNat
        omega
    refine br_F (decide ((kk : Int) < (l.length : Int))) (by kernel_rfl) (decide_eq_false (by omega)) ?_
    have hke : kk = l.length := by omega
    have hend := insP_end nw hjl
    rw [← hke, ← eM] at hend
    obtain ⟨l2, el2⟩ : ∃ l2, l2 = insAt l j nw := ⟨_, rfl⟩
    rw [← el2] at hend
    refine ⟨KpJ w T l2 [], ?_, ?_⟩
    · by_cases q : j < kk
      · rw [if_pos q] at hend
        refine br_F (!(decide (j < kk))) (by kernel_rfl) (by rw [decide_eq_true q]; rfl) ?_
        exact again_V ⟨[], [], [], [M.length, kc], [ka]⟩ rfl (by intros; kernel_rfl) (T.and (krow ka kc M)) (fun w2 ids hf => ⟨hf.x, hf.sep⟩) ⟨ka, kc, by rw [← hend]; exact hap, by rw [← hend], by rw [← hend]⟩
      · rw [if_neg q] at hend
        refine br_T (!(decide (j < kk))) (by kernel_rfl) (by rw [decide_eq_false q]; rfl) ?_
        refine node_kpush rfl rfl ka kc M nw 4 (by intros; kernel_rfl) (by intros; kernel_rfl) rfl (by rw [enw]; intros; kernel_rfl) hap (by omega) (by intros; kernel_rfl) (by kernel_rfl) (by kernel_rfl) (by intros; kernel_rfl) ?_
        intro ka' kc' hap'
        exact again_V ⟨[], [], [], [M.length + 1, kc'], [ka']⟩ rfl (by intros; kernel_rfl) (T.and (krow ka' kc' (M ++ [nw]))) (fun w2 ids hf => ⟨hf.x, hf.sep⟩) ⟨ka', kc', by rw [← hend]; exact hap', by rw [← hend]; simp, by rw [← hend]⟩
    rintro vs hx' hcnt2 ⟨ka1, kc1, hap1, rfl, rfl⟩
    refine need_k (a2.isSome = true ∧ (0 : Int) ≤ i ∧ (i : Int) < es2.length) (by kernel_rfl) ndt ?_
    obtain ⟨e3, ee3⟩ : ∃ e3 : SE, e3 = ⟨⟨e.s.no, e.s.ack, l2⟩, ka1, kc1⟩ := ⟨_, rfl⟩
    obtain ⟨hdj3, hnew4⟩ := tb_sep (s := ⟨e.s.no, e.s.ack, l2⟩) (a' := ka1) (c' := kc1) he hdj2 hnew3 (fun q h1 h2 z => (hap1 q ⟨h1, h2⟩).2 (by
      rw [eT]
      rcases z with z | z
      · exact .inl (by rw [ksR_split he]; exact .inl z)
      · exact .inr z)) (fun q h1 h2 => (hap1 q ⟨h1, h2⟩).1)
    rw [← ee3] at hdj3 hnew4
    refine holds_sub _ (hx' := ((ksR (es2.eraseIdx i)).and (kRow e3)).and (HX.rw 3 141 a2 es2.length c2 (secells es2))) (fun w2 h => ?_) (fun q hq => ?_) ?_
    · rw [eT] at h
      have h1 := h.1.1
      rw [ksR_split he] at h1
      exact ⟨⟨h1.1, by rw [ee3]; exact h.2⟩, h.1.2⟩
    · rw [eT]
      rcases hq with (hq | hq) | hq
      · exact .inl (.inl (by rw [ksR_split he]; exact .inl hq))
      · exact .inr (by rw [ee3] at hq; exact hq)
      · exact .inl (.inr hq)
    refine node_stores (sz := 3) a2 es2.length c2 (secells es2) [.slice ka1 l2.length kc1] i 2 (.slice ka1 l2.length kc1) (by kernel_rfl) (by intros; kernel_rfl) (by intros; kernel_rfl) rfl (by simp [Value.oneCell']) (by simp; omega) (by simp) (fun q h1 h2 hF => ?_) (fun q h1 h2 => .inl (hnew3 q (.inr ⟨h1, h2⟩))) (by kernel_rfl) (by kernel_rfl) (by kernel_rfl) ?_
    · rcases hF with hF | hF
      · exact hdj2.row q ⟨h1, h2⟩ (by rw [ksR_split he]; exact .inl hF)
      · rw [ee3] at hF; exact (hap1 q hF).2 (by rw [eT]; exact .inr ⟨h1, h2⟩)
    have hst3 : spl (secells es2) (i * 3 + 2) [.slice ka1 l2.length kc1] = secells (es2.set i e3) := flat_spl se_len he (e' := e3) (o := 2) (us := [.slice ka1 l2.length kc1]) (by simp) (by rw [ee3]; rfl)
    rw [hst3]
    refine holds_eq (show _ = tabR a2 c2 (es2.set i e3) from by unfold tabR tRow; rw [ksR_set he, List.length_set]) ?_
    have hl3 : (es2.set i e3).length = es2.length := List.length_set ..
    rw [hR]
    intro ids w2 hp hf
    exact tb_fin hf (by rw [List.map_set, hm2, ee3, el2, enw]) hdj3 hnew4 (by rw [hl3]; kernel_rfl)
end Go.Proofs.Ytbedoemdjlollaa

namespace Go.Proofs.Ytbedoemdjlollaa
open Go.ChangeShapes Go.WideShapes Go.ChangeAt Go.RowKit Go.Syn Go.Eng
set_option linter.unusedVariables false
set_option linter.unusedSimpArgs false
set_option maxRecDepth 100000
def srow (a : Option Addr) (c : Nat) (M : List SE) : HX := HX.rw 3 141 a M.length c (secells M)
theorem srow_snoc (a : Option Addr) (c : Nat) (M : List SE) (x : SE) : HX.rw 3 141 a (M.length + 1) c (secells M ++ x.cells) = srow a c (M ++ [x]) := by
  unfold srow secells
  rw [List.length_append, List.flatMap_append]; simp
theorem se_one1 (e : SE) : ∀ v ∈ e.cells, v.oneCell' = true := fun v hv => by
  unfold SE.cells at hv
  simp only [List.mem_cons, List.not_mem_nil, or_false] at hv
  rcases hv with rfl | rfl | rfl <;> rfl
theorem srow_nil (a : Option Addr) (w : World) : (srow a 0 []).X w := HX.rw_nil _ _ _ _
theorem srow_none (a : Option Addr) (q : Nat) : ¬ (srow a 0 []).F q := fun h => h.1 rfl
section
variable {C : Cfg} {ρ : Env} {pre : List Nat} {rest : HX} {L : Stack} {m m' : Mem} {ty : Nat} {ps : List (Nat × SV)} {t : Tree}
theorem node_spush {so xo : Operand} {ac : Go.Call} {r : SV} {e2 : Nat} {lvs : List LV} (hC : C.P = Try.prog) (hac : ac = { callee := .builtin .append, args := #[so, xo], argTypes := #[52, 52] }) (a : Option Addr) (cap : Nat) (M : List SE) (x : SE) (bn : Nat) (hso : ∀ ids, envOf ρ ids ps so = .slice a M.length cap) (hxo : ∀ ids, envOf ρ ids ps xo = .slice (some ⟨idAt ids bn, 0, none⟩) 1 1)
    (hn : m.hp[bn]? = some (e2, lvs)) (hlv : ∀ ids, cellsDen ρ ids lvs = x.cells) (hap : Apart C.W rest (srow a cap M)) (hl : M.length ≤ 1000000)
    (hr : ∀ a' cap' ids, r.den (ρ.add ⟨[], [], [], [M.length + 1, cap'], [a']⟩) ids = .slice a' (M.length + 1) cap') (hhp : m'.hp = m.hp) (hfit : hpFits m.c m.hp.length m.hp = true) (hc : ∀ a' cap', (ρ.add ⟨[], [], [], [M.length + 1, cap'], [a']⟩).cnt = m'.c)
    (h : ∀ a' cap', Apart C.W rest (srow a' cap' (M ++ [x])) → t.holds C (ρ.add ⟨[], [], [], [M.length + 1, cap'], [a']⟩) pre (rest.and (srow a' cap' (M ++ [x]))) L) :
    (Tree.gen (.call ac) ty ps m (some r) m' t).holds C ρ pre (rest.and (srow a cap M)) L := by
  obtain ⟨P, W, MM, R⟩ := C
  cases hC
  refine node_pushs (z := .agg #[.int .i64 0, .int .i64 0, .slice none 0 0]) (sz := 3) (bytes := 40) hac (by kernel_rfl) info_se rfl (by decide) a M.length cap (secells M) x.cells bn hso hxo hn hlv rfl (se_one1 x) (fun q h1 h2 hF => (hap q ⟨h1, h2⟩).2 hF) (fun q h1 h2 => .inl (hap q ⟨h1, h2⟩).1) (by simp [maxLen]; omega) (by omega) hr hhp hfit hc ?_
  intro a' c' hc' hdis hwh
  rw [srow_snoc]
  refine h a' c' fun q hq => ⟨?_, hdis q hq.2⟩
  rcases hwh with ⟨z1, z2⟩ | ⟨g, z1, z2, z3⟩
  · exact (hap q ⟨z1, by rw [← z2]; exact hq.2⟩).1
  · rw [hq.2] at z1; cases z1; exact z2
end
theorem live_step {A : Int} {l : List KpD} {k : Nat} {x : KpD} (h : l[k]? = some x) : (l.take (k + 1)).filter (live A) = (l.take k).filter (live A) ++ (if live A x then [x] else []) := by
  rw [List.take_add_one, h, List.filter_append]
  congr 1
  simp only [Option.toList]
  rw [List.filter_cons]; split <;> simp
def RaI (W : World) (es : List SE) (j : Nat) (x : SE) (vs : Vals) (hx : HX) : Prop := ∃ (k : Nat) (ka : Option Addr) (kc : Nat), k ≤ es.length ∧ Apart W HX.nil (srow ka kc (insP es j x k)) ∧ vs = ⟨[(k : Int)], [decide (j < k)], [], [(insP es j x k).length, kc], [ka]⟩ ∧ hx = HX.nil.and (srow ka kc (insP es j x k))
def RaJ (W : World) (M : List SE) (b : List Bool) (vs : Vals) (hx : HX) : Prop := ∃ (ka : Option Addr) (kc : Nat), Apart W HX.nil (srow ka kc M) ∧ vs = ⟨[], b, [], [M.length, kc], [ka]⟩ ∧ hx = HX.nil.and (srow ka kc M)
def RaF (W : World) (T : HX) (l : List KpD) (A : Int) (vs : Vals) (hx : HX) : Prop := ∃ (k : Nat) (ka : Option Addr) (kc : Nat), k ≤ l.length ∧ Apart W T (krow ka kc ((l.take k).filter (live A))) ∧ vs = ⟨[(k : Int)], [], [], [((l.take k).filter (live A)).length, kc], [ka]⟩ ∧ hx = T.and (krow ka kc ((l.take k).filter (live A)))
set_option maxHeartbeats 4000000 in
theorem rask_any (a : Option Addr) (cap : Nat) (es : List SE) (sess seq ack o1 o2 o3 o4 o5 : Int) (w : World) (H : TbAt w a es) (hok : TOk (es.map SE.s)) :
    Calls Try.prog 59 #[.slice a es.length cap, cmdC sess seq ack o1 o2 o3 o4 o5] w (TbNew w (askRet (askV (es.map SE.s) sess seq ack).k (askV (es.map SE.s) sess seq ack).re (askV (es.map SE.s) sess seq ack).im (askV (es.map SE.s) sess seq ack).d) (askV (es.map SE.s) sess seq ack).t) := by
  refine calls_at (tab_ok _) Try.func59 rfl tRAsk (ρ := ⟨[sess, seq, ack, o1, o2, o3, o4, o5], [], [], [es.length, cap], [a]⟩) (ids := []) (hx := HX.nil) rfl (Facts.initP rfl oneNil) ?_
  obtain ⟨t, et⟩ : ∃ t, t = es.map SE.s := ⟨_, rfl⟩
  rw [← et] at hok ⊢
  obtain ⟨R, eR⟩ : ∃ R, R = askV t sess seq ack := ⟨_, rfl⟩
  rw [← eR]
  have htl : t.length = es.length := by rw [et, List.length_map]
  have hkk : ∀ e ∈ es, e.s.kept.length ≤ 1000 := fun e he => hok.kept e.s (by rw [et]; exact List.mem_map_of_mem he)
  have hlen := hok.len
  have keep : ∀ {m : Mem} {ρ : Env} {ids : List Nat} {hx : HX} {w2 : World} {R : Ending → World → Prop}, Facts ⟨Try.prog, w, fun _ => False, R⟩ m ρ ids hx w2 → TbAt w2 a es := fun hf => H.keep (fun k hk => hf.chg.block k hk (fun q => q))
  obtain ⟨i, ei⟩ : ∃ i, i = posI (nosT t) sess := ⟨_, rfl⟩
  have hle : i ≤ es.length := by
    have := pos_le (nosT t) sess
    rw [ei]; unfold nosT at this ⊢
    rwa [List.length_map, htl] at this
  obtain ⟨es1, ees1⟩ : ∃ es1, es1 = if hitI (nosT t) sess then es else insAt es i (seNew sess) := ⟨_, rfl⟩
  obtain ⟨T1, eT1⟩ : ∃ T1, T1 = tabS t sess := ⟨_, rfl⟩
  have hm1 : es1.map SE.s = T1 := by
    rw [ees1, eT1]; unfold tabS
    split
    · exact et.symm
    · rw [insAt_map, ← et, ← ei]; rfl
  have hl1 : es1.length = T1.length := by rw [← hm1, List.length_map]
  have hl1b : es1.length ≤ 1001 := by
    rw [ees1]; split
    · omega
    · rw [insAt_len2]; omega
  have hk1 : ∀ e ∈ es1, e.s.kept.length ≤ 1000 := fun e he => by
    rw [ees1] at he
    split at he
    · exact hkk e he
    · rcases insAt_mem.1 he with q | q
      · exact hkk e q
      · rw [q]; exact Nat.zero_le _
  have hat1 : ∀ {w2 : World} {oa : Option Addr}, TbAt w2 a es → Cells w2 oa (secells es1) → TbAt w2 oa es1 := fun h1 h2 => ⟨h2, fun e he => by
    rw [ees1] at he
    split at he
    · exact h1.each e he
    · rcases insAt_mem.1 he with q | q
      · exact h1.each e q
      · rw [q]; exact cl_nil _ _⟩
  have hrT : Rise (nosT T1) := by
    rw [eT1]; unfold tabS
    rcases Bool.eq_false_or_eq_true (hitI (nosT t) sess) with hh | hh
    · rw [if_pos hh]; exact hok.nos
    · rw [if_neg (by rw [hh]; decide)]
      unfold nosT
      rw [insAt_map]
      exact rise_ins hok.nos hh
  refine ⟨fun vs hx => ¬ (hitI (nosT t) sess = false ∧ 16 ≤ t.length) ∧ RaJ w es1 [] vs hx, ?_, ?_⟩
  · refine node_P ⟨[atV t sess], [], [], [], []⟩ #[.slice a es.length cap, .int .i64 sess] (.int .i64 (atV t sess)) (by intros; kernel_rfl) (by intros; kernel_rfl) (by intros; kernel_rfl) (by intros; kernel_rfl) (by intros; kernel_rfl) oneNil (fun ids w2 hp hf => by
      have := rat_any a cap es sess w2 (keep hf) (by rw [← et]; exact hok.nos) (by omega)
      rw [← et] at this; exact this) ?_
    rcases Bool.eq_false_or_eq_true (hitI (nosT t) sess) with hh | hh
    · rw [if_pos hh] at ees1
      have hat : atV t sess = (i : Int) := by unfold atV; rw [if_pos hh, ei]
      refine br_F (decide (atV t sess < 0)) (by kernel_rfl) (by rw [hat]; exact decide_eq_false (by omega)) ?_
      refine node_clones (sz := 3) (z := .agg #[.int .i64 0, .int .i64 0, .slice none 0 0]) rfl Try.underlying52 info_se rfl (by decide) 2 rfl (fun _ => a) es.length cap (secells es) (secells_len _) (fun ids w2 hp hf => (keep hf).row) (se_one _) (by simp only [maxLen]; omega) (by omega) (by intros; kernel_rfl) (by intros; kernel_rfl) (by intros; kernel_rfl) (by kernel_rfl) (by kernel_rfl) (by intros; kernel_rfl) ?_
      intro oa oc hn
      exact again_V ⟨[], [], [], [es.length, oc], [oa]⟩ rfl (by intros; kernel_rfl) (HX.nil.and (srow oa oc es)) (fun w2 ids hf => ⟨hf.x, hf.sep⟩) ⟨fun q => Bool.noConfusion (hh.symm.trans q.1), oa, oc, fun q hq => by rw [ees1] at hq; exact ⟨(hn q hq.1 hq.2).1, fun z => z⟩, by rw [ees1], by rw [ees1]⟩
    · rw [if_neg (by rw [hh]; decide)] at ees1
      have hat : atV t sess = -1 := by unfold atV; rw [if_neg (by rw [hh]; decide)]
      refine br_T (decide (atV t sess < 0)) (by kernel_rfl) (by rw [hat]; rfl) ?_
      by_cases hfull : 16 ≤ es.length
      · refine br_T (decide ((es.length : Int) ≥ 16)) (by kernel_rfl) (decide_eq_true (by omega)) ?_
        have hR : R = ⟨t, 5, 0, 0, true⟩ := by rw [eR]; unfold askV; rw [if_pos ⟨hh, by omega⟩]
        refine node_tb (V := id) (tb := t) (fun _ => #[.slice a es.length cap]) (fun a' c' => ⟨[], [], [], [t.length, c'], [a']⟩) (by intros; kernel_rfl) (fun ids w2 hp hf => by
          rw [et]; exact rcopy_any a cap es w2 (keep hf) (by omega) (fun e he => by have := hkk e he; omega)) (by intros; kernel_rfl) (by kernel_rfl) (by kernel_rfl) (by intros; kernel_rfl) (fun _ _ => oneNil) ?_
        intro a2 c2 es2 hm2 hdj2 hsm2 hnew2
        have hl2 : es2.length = t.length := by rw [← hm2, List.length_map]
        rw [hR]
        intro ids w2 hp hf
        exact tb_fin0 hf hm2 hdj2 (fun k hk => (hnew2 k hk).1) (by rw [hl2]; kernel_rfl)
      · refine br_F (decide ((es.length : Int) ≥ 16)) (by kernel_rfl) (decide_eq_false (by omega)) ?_
        obtain ⟨nw, enw⟩ : ∃ nw, nw = seNew sess := ⟨_, rfl⟩
        refine loop_i (RaI w es i nw) (fun vs => es.length - (vs.i.headD 0).toNat) (fun ids w2 hp hf => ⟨HX.nil.and (srow (some ⟨idAt ids 2, 0, none⟩) 0 []), ⟨⟨trivial, srow_nil _ _⟩, fun q hq => hq.elim (fun z => z.elim) (fun z => absurd z (srow_none _ q))⟩, 0, _, 0, Nat.zero_le _, by rw [insP_zero]; exact fun q hq => absurd hq (srow_none _ q), by rw [insP_zero]; kernel_rfl, by rw [insP_zero]⟩) ?_
        rintro vs hx' hcnt ⟨kk, ka, kc, hkl, hap, rfl, rfl⟩
        obtain ⟨M, eM⟩ : ∃ M, M = insP es i nw kk := ⟨_, rfl⟩
        have hMl : M.length ≤ 1001 := by rw [eM]; have := insP_len es i nw kk; omega
        rw [← eM] at hap hcnt ⊢
        by_cases hlt : kk < es.length
        · refine br_T (decide ((kk : Int) < (es.length : Int))) (by kernel_rfl) (decide_eq_true (by omega)) ?_
          obtain ⟨x, hx⟩ : ∃ x, es[kk]? = some x := ⟨_, List.getElem?_eq_getElem hlt⟩
          have hxs : (nosT t)[kk]? = some x.s.no := by unfold nosT; rw [et, List.getElem?_map, List.getElem?_map, hx]; rfl
          have ndk : a.isSome = true ∧ (0 : Int) ≤ kk ∧ (kk : Int) < es.length := ⟨se_sm H.row hx, by omega, by omega⟩
          obtain ⟨M1, eM1⟩ : ∃ M1, M1 = if i = kk then M ++ [nw] else M := ⟨_, rfl⟩
          have hM1l : M1.length ≤ 1002 := by
            rw [eM1]; split
            · rw [List.length_append, List.length_singleton]; omega
            · omega
          have hMs : insP es i nw (kk + 1) = M1 ++ [x] := by rw [insP_step hx, ← eM, eM1]
          refine ⟨RaJ w M1 [decide (i ≤ kk)], ?_, ?_⟩
          · rcases Nat.lt_trichotomy i kk with q | q | q
            · refine br_F (!(decide (i < kk))) (by kernel_rfl) (by rw [decide_eq_true q]; rfl) ?_
              exact again_V ⟨[], [decide (i < kk)], [], [M.length, kc], [ka]⟩ rfl (by intros; kernel_rfl) (HX.nil.and (srow ka kc M)) (fun w2 ids hf => ⟨hf.x, hf.sep⟩) ⟨ka, kc, by rw [eM1, if_neg (by omega)]; exact hap, by rw [eM1, if_neg (by omega), decide_eq_true q, decide_eq_true (by omega)], by rw [eM1, if_neg (by omega)]⟩
            · refine br_T (!(decide (i < kk))) (by kernel_rfl) (by rw [decide_eq_false (by omega)]; rfl) ?_
              refine need_k (a.isSome = true ∧ (0 : Int) ≤ kk ∧ (kk : Int) < es.length) (by kernel_rfl) ndk ?_
              refine node_ld0 (k := ⟨10, 1, 0, 4, 2⟩) ⟨[x.s.no], [], [], [], []⟩ (.pointer (some (((a.getD ⟨0, 0, none⟩).add (kk * 3)).add 0))) [.int .i64 x.s.no] (by intros; kernel_rfl) (by intros; kernel_rfl) (se_key kk x hx (n := 0) rfl H.row) hcnt (by kernel_rfl) oneNil ?_
              have hgt : sess < x.s.no := pos_gt hok.nos hh (x := kk) (by rw [← ei]; omega) hxs
              refine br_T (decide (x.s.no > sess)) (by kernel_rfl) (decide_eq_true hgt) ?_
              refine node_spush rfl rfl ka kc M nw 3 (by intros; kernel_rfl) (by intros; kernel_rfl) rfl (by rw [enw]; intros; kernel_rfl) hap (by omega) (by intros; kernel_rfl) (by kernel_rfl) (by kernel_rfl) (by intros; kernel_rfl) ?_
              intro ka' kc' hap'
              exact again_V ⟨[], [true], [], [M.length + 1, kc'], [ka']⟩ rfl (by intros; kernel_rfl) (HX.nil.and (srow ka' kc' (M ++ [nw]))) (fun w2 ids hf => ⟨hf.x, hf.sep⟩) ⟨ka', kc', by rw [eM1, if_pos q]; exact hap', by rw [eM1, if_pos q, decide_eq_true (by omega)]; simp, by rw [eM1, if_pos q]⟩
            · refine br_T (!(decide (i < kk))) (by kernel_rfl) (by rw [decide_eq_false (by omega)]; rfl) ?_
              refine need_k (a.isSome = true ∧ (0 : Int) ≤ kk ∧ (kk : Int) < es.length) (by kernel_rfl) ndk ?_
              refine node_ld0 (k := ⟨10, 1, 0, 4, 2⟩) ⟨[x.s.no], [], [], [], []⟩ (.pointer (some (((a.getD ⟨0, 0, none⟩).add (kk * 3)).add 0))) [.int .i64 x.s.no] (by intros; kernel_rfl) (by intros; kernel_rfl) (se_key kk x hx (n := 0) rfl H.row) hcnt (by kernel_rfl) oneNil ?_
              have hgt : x.s.no < sess := pos_lt (x := kk) (by rw [← ei]; omega) hxs
              refine br_F (decide (x.s.no > sess)) (by kernel_rfl) (decide_eq_false (by omega)) ?_
              exact again_V ⟨[], [decide (i < kk)], [], [M.length, kc], [ka]⟩ rfl (by intros; kernel_rfl) (HX.nil.and (srow ka kc M)) (fun w2 ids hf => ⟨hf.x, hf.sep⟩) ⟨ka, kc, by rw [eM1, if_neg (by omega)]; exact hap, by rw [eM1, if_neg (by omega), decide_eq_false (by omega), decide_eq_false (by omega)], by rw [eM1, if_neg (by omega)]⟩
          · rintro vs hx' hcnt2 ⟨ka1, kc1, hap1, rfl, rfl⟩
            refine need_k (a.isSome = true ∧ (0 : Int) ≤ kk ∧ (kk : Int) < es.length) (by kernel_rfl) ndk ?_
            refine node_ld0 (k := ⟨10, 2, 0, 6, 3⟩) ⟨[x.s.no, x.s.ack], [], [], [x.s.kept.length, x.c], [x.a]⟩ (.pointer (some (((a.getD ⟨0, 0, none⟩).add (kk * 3)).add 0))) x.cells (by intros; kernel_rfl) (by intros; kernel_rfl) (se_all kk hx H.row) hcnt2 (by kernel_rfl) oneNil ?_
            refine node_spush rfl rfl ka1 kc1 M1 x 3 (by intros; kernel_rfl) (by intros; kernel_rfl) rfl (by intros; kernel_rfl) hap1 (by omega) (by intros; kernel_rfl) (by kernel_rfl) (by kernel_rfl) (by intros; kernel_rfl) ?_
            intro ka' kc' hap'
            have hwk : IntKind.i64.wrap ((kk : Int) + 1) = ((kk + 1 : Nat) : Int) := by rw [wrap_i64 (by omega)]; omega
            refine again_V ⟨[((kk + 1 : Nat) : Int)], [decide (i ≤ kk)], [], [M1.length + 1, kc'], [ka']⟩ rfl (fun ids => Eq.trans (b := ⟨[IntKind.i64.wrap ((kk : Int) + 1)], [decide (i ≤ kk)], [], [M1.length + 1, kc'], [ka']⟩) (by kernel_rfl) (by rw [hwk])) (HX.nil.and (srow ka' kc' (M1 ++ [x]))) (fun w2 ids hf => ⟨hf.x, hf.sep⟩) ⟨⟨kk + 1, ka', kc', hlt, by rw [hMs]; exact hap', by rw [hMs]; simp [Nat.lt_succ_iff], by rw [hMs]⟩, ?_⟩
            show es.length - (((kk + 1 : Nat) : Int)).toNat < es.length - ((kk : Int)).toNat
            omega
        refine br_F (decide ((kk : Int) < (es.length : Int))) (by kernel_rfl) (decide_eq_false (by omega)) ?_
        have hke : kk = es.length := by omega
        have hend := insP_end nw hle
        rw [← hke, ← eM] at hend
        rw [← enw, ← hend] at ees1
        by_cases q : i < kk
        · rw [if_pos q] at ees1
          refine br_F (!(decide (i < kk))) (by kernel_rfl) (by rw [decide_eq_true q]; rfl) ?_
          exact again_V ⟨[], [], [], [M.length, kc], [ka]⟩ rfl (by intros; kernel_rfl) (HX.nil.and (srow ka kc M)) (fun w2 ids hf => ⟨hf.x, hf.sep⟩) ⟨fun q => hfull (by omega), ka, kc, by rw [ees1]; exact hap, by rw [ees1], by rw [ees1]⟩
        · rw [if_neg q] at ees1
          refine br_T (!(decide (i < kk))) (by kernel_rfl) (by rw [decide_eq_false q]; rfl) ?_
          refine node_spush rfl rfl ka kc M nw 3 (by intros; kernel_rfl) (by intros; kernel_rfl) rfl (by rw [enw]; intros; kernel_rfl) hap (by omega) (by intros; kernel_rfl) (by kernel_rfl) (by kernel_rfl) (by intros; kernel_rfl) ?_
          intro ka' kc' hap'
          exact again_V ⟨[], [], [], [M.length + 1, kc'], [ka']⟩ rfl (by intros; kernel_rfl) (HX.nil.and (srow ka' kc' (M ++ [nw]))) (fun w2 ids hf => ⟨hf.x, hf.sep⟩) ⟨fun q => hfull (by omega), ka', kc', by rw [ees1]; exact hap', by rw [ees1]; simp, by rw [ees1]⟩
  rintro vs hx' hcnt ⟨hgood, oa, oc, hap0, rfl, rfl⟩
  refine node_tb (V := id) (tb := T1) (fun _ => #[.slice oa es1.length oc]) (fun a' c' => ⟨[], [], [], [T1.length, c'], [a']⟩) (by intros; kernel_rfl) (fun ids w2 hp hf => by
    rw [← hm1]; exact rcopy_any oa oc es1 w2 (hat1 (keep hf) (rw_cells hf.x.2)) (by omega) (fun e he => by have := hk1 e he; omega)) (by intros; kernel_rfl) (by kernel_rfl) (by kernel_rfl) (by intros; kernel_rfl) (fun _ _ => oneNil) ?_
  intro a2 c2 es2 hm2 hdj2 hsm2 hnew2
  have hl2 : es2.length = T1.length := by rw [← hm2, List.length_map]
  have hnew3 : ∀ k, (tabR a2 c2 es2).F k → w.heap.size ≤ k := fun k hk => (hnew2 k hk).1
  refine holds_sub _ (hx' := tabR a2 c2 es2) (fun w2 h => h.2) (fun q hq => .inr hq) ?_
  refine holds_env (ρ' := ⟨[sess, seq, ack, o1, o2, o3, o4, o5], [], [], [es.length, cap, es1.length, oc, es2.length, c2], [a, oa, a2]⟩) (by rw [hl2]; kernel_rfl) ?_
  obtain ⟨s, hs, hsno, hs1, hs2⟩ := tabS_at t sess
  rw [← ei, ← eT1] at hs
  rw [← ei] at hs1
  have hp1 : (nosT T1)[i]? = some sess := by unfold nosT; rw [List.getElem?_map, hs]; exact congrArg some hsno
  have hpos : posI (nosT T1) sess = i := posI_of (by have := (List.getElem?_eq_some_iff.1 hp1).1; omega) (fun x y hx hy => hrT x i y sess hx hy hp1) (fun x y hx hy => by
    rcases Nat.lt_or_ge i x with z | z
    · have := hrT i x sess y z hp1 hy; omega
    · have : x = i := by omega
      subst this; rw [hp1] at hy; cases hy; exact Int.le_refl _)
  have hhit : hitI (nosT T1) sess = true := by rw [hit_iff, hpos]; exact hp1
  have hat : atV T1 sess = (i : Int) := by unfold atV; rw [if_pos hhit, hpos]
  refine node_P ⟨[(i : Int)], [], [], [], []⟩ #[.slice a2 es2.length c2, .int .i64 sess] (.int .i64 (i : Int)) (by intros; kernel_rfl) (by intros; kernel_rfl) (by intros; kernel_rfl) (by intros; kernel_rfl) (by intros; kernel_rfl) oneNil (fun ids w2 hp hf => by
    have := rat_any a2 c2 es2 sess w2 (tabR_at hf.x) (by rw [hm2]; exact hrT) (by omega)
    rw [hm2, hat] at this; exact this) ?_
  obtain ⟨e, he, hes⟩ : ∃ e, es2[i]? = some e ∧ e.s = s := by
    have h1 : (es2.map SE.s)[i]? = some s := by rw [hm2]; exact hs
    rw [List.getElem?_map] at h1
    cases h4 : es2[i]? with
    | none => rw [h4] at h1; cases h1
    | some x => rw [h4] at h1; simp only [Option.map_some, Option.some.injEq] at h1; exact ⟨x, rfl, h1⟩
  have hem := List.mem_of_getElem? he
  have hi2 : i < es2.length := (List.getElem?_eq_some_iff.1 he).1
  have hwe : es2 ≠ [] := fun q => by rw [q] at hi2; simp at hi2
  have hsok : s.kept.length ≤ 1000 ∧ Rise (seqsK s.kept) := by
    rcases Bool.eq_false_or_eq_true (hitI (nosT t) sess) with hh | hh
    · have := List.mem_of_getElem? (hs1 hh)
      exact ⟨hok.kept s this, hok.seqs s this⟩
    · rw [hs2 hh]; exact ⟨Nat.zero_le _, fun i j x y _ h => by simp [seqsK] at h⟩
  obtain ⟨l, el⟩ : ∃ l, l = e.s.kept := ⟨_, rfl⟩
  rw [← hes, ← el] at hsok
  obtain ⟨A, eA⟩ : ∃ A, A = max e.s.ack ack := ⟨_, rfl⟩
  obtain ⟨l', el'⟩ : ∃ l', l' = l.filter (live A) := ⟨_, rfl⟩
  have hu : updS ack s = ⟨e.s.no, A, l'⟩ := by rw [el', eA, el, ← hes]; rfl
  have hR : R = askS (T1.set i ⟨e.s.no, A, l'⟩) ⟨e.s.no, A, l'⟩ seq := by
    rw [eR]; unfold askV; rw [if_neg hgood, ← ei, ← eT1, hs, ← hu]
  have ndt : a2.isSome = true ∧ (0 : Int) ≤ (i : Int) ∧ (i : Int) < (es2.length : Int) := ⟨hsm2.tab hwe, by omega, by omega⟩
  refine need_k (a2.isSome = true ∧ (0 : Int) ≤ i ∧ (i : Int) < es2.length) (by kernel_rfl) ndt ?_
  refine node_ldk ⟨[e.s.no, e.s.ack], [], [], [l.length, e.c], [e.a]⟩ (fun _ => .pointer (some (((a2.getD ⟨0, 0, none⟩).add (i * 3)).add 0))) [.int .i64 e.s.no, .int .i64 e.s.ack, .slice e.a l.length e.c] (by intros; kernel_rfl) (by intros; kernel_rfl) (fun ids w2 hp hf => by have := se_all i he (rw_cells hf.x.2); rw [el]; exact this) (by kernel_rfl) oneNil ?_
  obtain ⟨T, eT⟩ : ∃ T, T = tabR a2 c2 es2 := ⟨_, rfl⟩
  have hTk : ∀ {w2 : World}, T.X w2 → Cells w2 e.a (kcells l) := fun h => by
    rw [eT] at h
    have := rw_cells (h.1 e hem)
    rw [← el] at this; exact this
  refine holds_eq eT.symm ?_
  refine ⟨fun vs hx => vs = ⟨[e.s.no, A], [], [], [l.length, e.c], [e.a]⟩ ∧ hx = T, ?_, ?_⟩
  · by_cases hq : e.s.ack < ack
    · refine br_T (decide (ack > e.s.ack)) (by kernel_rfl) (decide_eq_true hq) ?_
      exact again_V ⟨[e.s.no, ack], [], [], [l.length, e.c], [e.a]⟩ rfl (by intros; kernel_rfl) T (fun w2 ids hf => ⟨hf.x, hf.sep⟩) ⟨by rw [eA, Int.max_eq_right (by omega)], rfl⟩
    · refine br_F (decide (ack > e.s.ack)) (by kernel_rfl) (decide_eq_false hq) ?_
      exact again_V ⟨[e.s.no, e.s.ack], [], [], [l.length, e.c], [e.a]⟩ rfl (by intros; kernel_rfl) T (fun w2 ids hf => ⟨hf.x, hf.sep⟩) ⟨by rw [eA, Int.max_eq_left (by omega)], rfl⟩
  rintro vs hx' hcnt2 ⟨rfl, rfl⟩
  refine loop_i (RaF w hx' l A) (fun vs => l.length - (vs.i.headD 0).toNat) (fun ids w2 hp hf => ⟨hx'.and (krow (some ⟨idAt ids 4, 0, none⟩) 0 []), ⟨⟨hf.x, krow_nil _ _⟩, fun q hq => hq.elim (fun z => hf.sep q z) (fun z => absurd z (krow_none _ q))⟩, 0, _, 0, Nat.zero_le _, fun q hq => absurd hq (krow_none _ q), by kernel_rfl, rfl⟩) ?_
  rintro vs hx'' hcnt3 ⟨kk, ka, kc, hkl, hap, rfl, rfl⟩
  obtain ⟨M, eM⟩ : ∃ M, M = (l.take kk).filter (live A) := ⟨_, rfl⟩
  have hMl : M.length ≤ 1000 := by rw [eM]; exact Nat.le_trans (List.length_filter_le _ _) (by rw [List.length_take]; omega)
  rw [← eM] at hap ⊢
  refine holds_env (ρ' := ⟨[sess, seq, ack, o1, o2, o3, o4, o5, (i : Int), e.s.no, e.s.ack, e.s.no, A, (kk : Int)], [], [], [es.length, cap, es1.length, oc, es2.length, c2, l.length, e.c, l.length, e.c, M.length, kc], [a, oa, a2, e.a, e.a, ka]⟩) (by kernel_rfl) ?_
  by_cases hlt : kk < l.length
  · refine br_T (decide ((kk : Int) < (l.length : Int))) (by kernel_rfl) (decide_eq_true (by omega)) ?_
    obtain ⟨x, hx⟩ : ∃ x, l[kk]? = some x := ⟨_, List.getElem?_eq_getElem hlt⟩
    have hke : e.a.isSome = true := hsm2.each e hem (by rw [← el]; intro q; rw [q] at hlt; simp at hlt)
    have ndk : e.a.isSome = true ∧ (0 : Int) ≤ kk ∧ (kk : Int) < l.length := ⟨hke, by omega, by omega⟩
    obtain ⟨M1, eM1⟩ : ∃ M1, M1 = (l.take (kk + 1)).filter (live A) := ⟨_, rfl⟩
    have hM1 : M1 = M ++ (if live A x then [x] else []) := by rw [eM1, live_step hx, ← eM]
    have hwk : IntKind.i64.wrap ((kk : Int) + 1) = ((kk + 1 : Nat) : Int) := by rw [wrap_i64 (by omega)]; omega
    refine ⟨KpJ w hx' M1 [], ?_, ?_⟩
    · refine need_k (e.a.isSome = true ∧ (0 : Int) ≤ kk ∧ (kk : Int) < l.length) (by kernel_rfl) ndk ?_
      refine node_ldk ⟨[x.seq], [], [], [], []⟩ (fun _ => .pointer (some (((e.a.getD ⟨0, 0, none⟩).add (kk * 4)).add 0))) [.int .i64 x.seq] (by intros; kernel_rfl) (by intros; kernel_rfl) (fun ids w2 hp hf => (flat_part kp_len (hTk hf.x.1) hx (o := 0) [.int .i64 x.seq] (at1 rfl) (by simp)).2 _ (fun q => q)) (by kernel_rfl) oneNil ?_
      by_cases hq : A < x.seq
      · refine br_T (decide (x.seq > A)) (by kernel_rfl) (decide_eq_true hq) ?_
        rw [if_pos (show live A x = true from decide_eq_true hq)] at hM1
        refine need_k (e.a.isSome = true ∧ (0 : Int) ≤ kk ∧ (kk : Int) < l.length) (by kernel_rfl) ndk ?_
        refine node_ldk ⟨[x.seq, x.kind, x.re, x.im], [], [], [], []⟩ (fun _ => .pointer (some (((e.a.getD ⟨0, 0, none⟩).add (kk * 4)).add 0))) x.cells (by intros; kernel_rfl) (by intros; kernel_rfl) (fun ids w2 hp hf => kp_all kk hx (hTk hf.x.1)) (by kernel_rfl) oneNil ?_
        refine node_kpush rfl rfl ka kc M x 5 (by intros; kernel_rfl) (by intros; kernel_rfl) rfl (by intros; kernel_rfl) hap (by omega) (by intros; kernel_rfl) (by kernel_rfl) (by kernel_rfl) (by intros; kernel_rfl) ?_
        intro ka' kc' hap'
        exact again_V ⟨[], [], [], [M.length + 1, kc'], [ka']⟩ rfl (by intros; kernel_rfl) (hx'.and (krow ka' kc' (M ++ [x]))) (fun w2 ids hf => ⟨hf.x, hf.sep⟩) ⟨ka', kc', by rw [hM1]; exact hap', by rw [hM1]; simp, by rw [hM1]⟩
      · refine br_F (decide (x.seq > A)) (by kernel_rfl) (decide_eq_false hq) ?_
        rw [if_neg (show ¬ live A x = true from fun z => hq (of_decide_eq_true z)), List.append_nil] at hM1
        exact again_V ⟨[], [], [], [M.length, kc], [ka]⟩ rfl (by intros; kernel_rfl) (hx'.and (krow ka kc M)) (fun w2 ids hf => ⟨hf.x, hf.sep⟩) ⟨ka, kc, by rw [hM1]; exact hap, by rw [hM1], by rw [hM1]⟩
    · rintro vs hx3 hcnt4 ⟨ka1, kc1, hap1, rfl, rfl⟩
      refine again_V ⟨[((kk + 1 : Nat) : Int)], [], [], [M1.length, kc1], [ka1]⟩ rfl (fun ids => Eq.trans (b := ⟨[IntKind.i64.wrap ((kk : Int) + 1)], [], [], [M1.length, kc1], [ka1]⟩) (by kernel_rfl) (by rw [hwk])) (hx'.and (krow ka1 kc1 M1)) (fun w2 ids hf => ⟨hf.x, hf.sep⟩) ⟨⟨kk + 1, ka1, kc1, hlt, by rw [← eM1]; exact hap1, by rw [← eM1], by rw [← eM1]⟩, ?_⟩
      show l.length - (((kk + 1 : Nat) : Int)).toNat < l.length - ((kk : Int)).toNat
      omega
  refine br_F (decide ((kk : Int) < (l.length : Int))) (by kernel_rfl) (decide_eq_false (by omega)) ?_
  have hMl' : M = l' := by rw [eM, el', List.take_of_length_le (by omega)]
  rw [hMl'] at hap ⊢
  have hl1' : l'.length ≤ 1000 := by rw [← hMl']; exact hMl
  have hlr : Rise (seqsK l') := by rw [el']; exact rise_filter hsok.2 _
  refine need_k (a2.isSome = true ∧ (0 : Int) ≤ i ∧ (i : Int) < es2.length) (by kernel_rfl) ndt ?_
  obtain ⟨e3, ee3⟩ : ∃ e3 : SE, e3 = ⟨⟨e.s.no, A, l'⟩, ka, kc⟩ := ⟨_, rfl⟩
  obtain ⟨hdj3, hnew4⟩ := tb_sep (s := ⟨e.s.no, A, l'⟩) (a' := ka) (c' := kc) he hdj2 hnew3 (fun q h1 h2 z => (hap q ⟨h1, h2⟩).2 (by
    rw [eT]
    rcases z with z | z
    · exact .inl (by rw [ksR_split he]; exact .inl z)
    · exact .inr z)) (fun q h1 h2 => (hap q ⟨h1, h2⟩).1)
  rw [← ee3] at hdj3 hnew4
  refine holds_sub _ (hx' := ((ksR (es2.eraseIdx i)).and (kRow e3)).and (HX.rw 3 141 a2 es2.length c2 (secells es2))) (fun w2 h => ?_) (fun q hq => ?_) ?_
  · rw [eT] at h
    have h1 := h.1.1
    rw [ksR_split he] at h1
    exact ⟨⟨h1.1, by rw [ee3]; exact h.2⟩, h.1.2⟩
  · rw [eT]
    rcases hq with (hq | hq) | hq
    · exact .inl (.inl (by rw [ksR_split he]; exact .inl hq))
    · exact .inr (by rw [ee3] at hq; exact hq)
    · exact .inl (.inr hq)
  refine node_stores (sz := 3) a2 es2.length c2 (secells es2) e3.cells i 0 (.agg e3.cells.toArray) (by rw [ee3]; kernel_rfl) (by intros; kernel_rfl) (by rw [ee3]; intros; kernel_rfl) rfl (se_one1 e3) (by simp [SE.cells]; omega) (by simp [SE.cells]) (fun q h1 h2 hF => ?_) (fun q h1 h2 => .inl (hnew3 q (.inr ⟨h1, h2⟩))) (by kernel_rfl) (by kernel_rfl) (by kernel_rfl) ?_
  · rcases hF with hF | hF
    · exact hdj2.row q ⟨h1, h2⟩ (by rw [ksR_split he]; exact .inl hF)
    · rw [ee3] at hF; exact (hap q hF).2 (by rw [eT]; exact .inr ⟨h1, h2⟩)
  have hst3 : spl (secells es2) (i * 3 + 0) e3.cells = secells (es2.set i e3) := flat_spl se_len he (e' := e3) (o := 0) (us := e3.cells) (by simp [SE.cells]) rfl
  rw [hst3]
  refine holds_eq (show _ = tabR a2 c2 (es2.set i e3) from by unfold tabR tRow; rw [ksR_set he, List.length_set]) ?_
  have hl3 : (es2.set i e3).length = es2.length := List.length_set ..
  have hm3 : (es2.set i e3).map SE.s = T1.set i ⟨e.s.no, A, l'⟩ := by rw [List.map_set, hm2, ee3]
  have he3 : (es2.set i e3)[i]? = some e3 := List.getElem?_set_self hi2
  rw [hR]
  unfold askS
  by_cases hst : seq ≤ A
  · refine br_T (decide (seq ≤ A)) (by kernel_rfl) (decide_eq_true hst) ?_
    rw [if_pos hst]
    intro ids w2 hp hf
    exact tb_fin hf hm3 hdj3 hnew4 (by rw [hl3]; kernel_rfl)
  refine br_F (decide (seq ≤ A)) (by kernel_rfl) (decide_eq_false hst) ?_
  rw [if_neg hst]
  obtain ⟨Rp, eRp⟩ : ∃ Rp, Rp = repV l' seq := ⟨_, rfl⟩
  refine node_P ⟨[Rp.k, Rp.re, Rp.im], [Rp.d], [], [], []⟩ #[.agg #[.int .i64 e.s.no, .int .i64 A, .slice ka l'.length kc], .int .i64 seq] (repRet Rp) (by intros; kernel_rfl) (by intros; kernel_rfl) (by kernel_rfl) (by kernel_rfl) (by kernel_rfl) oneNil (fun ids w2 hp hf => eRp ▸ rreply_any e.s.no A ka kc l' seq w2 (by
    have := rw_cells (hf.x.1 e3 (List.mem_of_getElem? he3))
    rw [ee3] at this; exact this) hlr (by omega)) ?_
  unfold repV at eRp
  rcases Bool.eq_false_or_eq_true (hitI (seqsK l') seq) with hh | hh
  · rw [if_pos hh] at eRp
    have h1 := hit_iff.1 hh
    have h3 : (l'.map KpD.seq)[posI (seqsK l') seq]? = some seq := h1
    rw [List.getElem?_map] at h3
    cases h4 : l'[posI (seqsK l') seq]? with
    | none => rw [h4] at h3; cases h3
    | some k =>
    rw [h4] at eRp
    dsimp only at eRp
    rw [if_pos hh]
    dsimp only
    refine br_T Rp.d (by kernel_rfl) (by rw [eRp]) ?_
    rw [eRp]
    intro ids w2 hp hf
    exact tb_fin hf hm3 hdj3 hnew4 (by rw [hl3]; kernel_rfl)
  · rw [if_neg (by rw [hh]; decide)] at eRp ⊢
    refine br_F Rp.d (by kernel_rfl) (by rw [eRp]) ?_
    by_cases h8 : 8 ≤ l'.length
    · refine br_T (decide ((l'.length : Int) ≥ 8)) (by kernel_rfl) (decide_eq_true (by omega)) ?_
      dsimp only
      rw [if_pos h8]
      intro ids w2 hp hf
      exact tb_fin hf hm3 hdj3 hnew4 (by rw [hl3]; kernel_rfl)
    · refine br_F (decide ((l'.length : Int) ≥ 8)) (by kernel_rfl) (decide_eq_false (by omega)) ?_
      dsimp only
      rw [if_neg h8]
      intro ids w2 hp hf
      exact tb_fin hf hm3 hdj3 hnew4 (by rw [hl3]; kernel_rfl)
end Go.Proofs.Ytbedoemdjlollaa

namespace Go.Proofs.Ytbedoemdjlollaa
open Go.ChangeShapes Go.WideShapes Go.ChangeAt Go.RowKit Go.Syn Go.Eng
set_option linter.unusedVariables false
set_option linter.unusedSimpArgs false
set_option maxRecDepth 100000
section
variable {C : Cfg} {ρ : Env} {pre : List Nat} {hx : HX} {L : Stack} {m : Mem}
theorem again_W {key : Nat} {es : Vec} {I : Vals → HX → Prop} (v' : Vals) (hI : lkup key L = some I) (hv : ∀ ids, es.den ρ ids = v') (hx' : HX) (h : ∀ w ids, Facts C m ρ ids hx w → HXok hx' w ids ∧ I v' hx') : (Tree.again key es m).holds C ρ pre hx L :=
  fun ids w hp hf => ⟨hx', (h w ids hf).1, I, hI, by rw [hv]; exact (h w ids hf).2⟩
end
theorem rvalid20_any (I : Im) (a1 : Option Addr) (c1 : Nat) (a2 : Option Addr) (c2 : Nat) (es : List SE) (w : World) (H : ImAt w I a1 a2 es) : Calls Try.prog 57 #[imV I a1 c1 a2 c2] w (PureAt w (.bool (validI I))) := by
  refine calls_at (tab_ok _) Try.func57 rfl tXRValid (ρ := ⟨imI I, [], [], [I.mem.length, c1, I.tb.length, c2], [a1, a2]⟩) (ids := []) (hx := HX.nil) (by kernel_rfl) (Facts.initP rfl oneNil) ?_
  obtain ⟨V, eV⟩ : ∃ V, V = validI I := ⟨_, rfl⟩
  rw [← eV]
  have keep : ∀ {m : Mem} {ρ : Env} {ids : List Nat} {hx : HX} {w2 : World} {R : Ending → World → Prop}, Facts ⟨Try.prog, w, fun _ => False, R⟩ m ρ ids hx w2 → ImAt w2 I a1 a2 es := fun hf => H.keep (fun k hk => hf.chg.block k hk (fun q => q))
  unfold validI at eV
  have hck : decide (checkV I.mem = 0) = setOkB I.mem := by
    rcases Bool.eq_false_or_eq_true (setOkB I.mem) with q | q
    · rw [q, decide_eq_true (check_zero.2 q)]
    · rw [q, decide_eq_false (fun z => by rw [check_zero.1 z] at q; cases q)]
  rw [hck] at eV
  by_cases h1 : 0 ≤ I.ep
  case' neg => exact br_F (decide (I.ep ≥ 0)) (by kernel_rfl) (decide_eq_false h1) (pure_done (by intros; rw [show V = false from by rw [eV]; simp [h1]]; kernel_rfl))
  refine br_T (decide (I.ep ≥ 0)) (by kernel_rfl) (decide_eq_true h1) ?_
  by_cases h2 : I.ep ≤ 1099511627776
  case' neg => exact br_F (decide (I.ep ≤ 1099511627776)) (by kernel_rfl) (decide_eq_false h2) (pure_done (by intros; rw [show V = false from by rw [eV]; simp [h2]]; kernel_rfl))
  refine br_T (decide (I.ep ≤ 1099511627776)) (by kernel_rfl) (decide_eq_true h2) ?_
  by_cases h3 : 0 ≤ I.sl
  case' neg => exact br_F (decide (I.sl ≥ 0)) (by kernel_rfl) (decide_eq_false h3) (pure_done (by intros; rw [show V = false from by rw [eV]; simp [h3]]; kernel_rfl))
  refine br_T (decide (I.sl ≥ 0)) (by kernel_rfl) (decide_eq_true h3) ?_
  by_cases h4 : I.sl ≤ 1099511627776
  case' neg => exact br_F (decide (I.sl ≤ 1099511627776)) (by kernel_rfl) (decide_eq_false h4) (pure_done (by intros; rw [show V = false from by rw [eV]; simp [h4]]; kernel_rfl))
  refine br_T (decide (I.sl ≤ 1099511627776)) (by kernel_rfl) (decide_eq_true h4) ?_
  refine node_P ⟨[], [setOkB I.mem], [], [], []⟩ #[.slice a1 I.mem.length c1] (.bool (setOkB I.mem)) (by intros; kernel_rfl) (by intros; kernel_rfl) (by kernel_rfl) (by kernel_rfl) (by kernel_rfl) oneNil (fun ids w2 hp hf => refRight_any a1 c1 I.mem w2 (keep hf).mem) ?_
  by_cases h5 : setOkB I.mem = true
  case' neg => exact br_F (setOkB I.mem) (by kernel_rfl) (by simpa using h5) (pure_done (by intros; rw [show V = false from by rw [eV]; simp [h5]]; kernel_rfl))
  refine br_T (setOkB I.mem) (by kernel_rfl) h5 ?_
  refine node_P ⟨[], [validL I.regs], [], [], []⟩ #[.agg ((rgs I.regs).map (Value.int .i64)).toArray] (.bool (validL I.regs)) (by intros; kernel_rfl) (by intros; kernel_rfl) (by kernel_rfl) (by kernel_rfl) (by kernel_rfl) oneNil (fun ids w2 hp hf => by have := refValid_any (rgs I.regs) rfl w2; rw [rgs_of H.reg] at this ⊢; exact this) ?_
  by_cases h6 : validL I.regs = true
  case' neg => exact br_F (validL I.regs) (by kernel_rfl) (by simpa using h6) (pure_done (by intros; rw [show V = false from by rw [eV]; simp [h6]]; kernel_rfl))
  refine br_T (validL I.regs) (by kernel_rfl) h6 ?_
  refine node_P ⟨[], [validT I.tb], [], [], []⟩ #[.slice a2 I.tb.length c2] (.bool (validT I.tb)) (by intros; kernel_rfl) (by intros; kernel_rfl) (by kernel_rfl) (by kernel_rfl) (by kernel_rfl) oneNil (fun ids w2 hp hf => by have := rvalid_any a2 c2 es w2 (keep hf).tab; rw [H.tb, H.len] at this; exact this) ?_
  exact pure_done (by intros; rw [show V = validT I.tb from by rw [eV]; simp [h1, h2, h3, h4, h5, h6]]; kernel_rfl)
theorem rcopy20_any (I : Im) (a1 : Option Addr) (c1 : Nat) (a2 : Option Addr) (c2 : Nat) (es : List SE) (w : World) (H : ImAt w I a1 a2 es) (hl : I.mem.length * 8 ≤ 140737488355328) (hl2 : es.length * 40 ≤ 140737488351232) (hk : ∀ e ∈ es, e.s.kept.length * 32 ≤ 140737488351232) : Calls Try.prog 58 #[imV I a1 c1 a2 c2] w (ImNew w id I) := by
  refine calls_at (tab_ok _) Try.func58 rfl tXRCopy (ρ := ⟨imI I, [], [], [I.mem.length, c1, I.tb.length, c2], [a1, a2]⟩) (ids := []) (hx := HX.nil) (by kernel_rfl) (Facts.initP rfl oneNil) ?_
  have keep : ∀ {m : Mem} {ρ : Env} {ids : List Nat} {hx : HX} {w2 : World} {R : Ending → World → Prop}, Facts ⟨Try.prog, w, fun _ => False, R⟩ m ρ ids hx w2 → ImAt w2 I a1 a2 es := fun hf => H.keep (fun k hk => hf.chg.block k hk (fun q => q))
  refine node_clones (sz := 1) (z := .int .i64 0) (bytes := 8) rfl Try.underlying33 info_int1 rfl (by decide) 2 rfl (fun _ => a1) I.mem.length c1 (I.mem.map (Value.int .i64)) (by simp) (fun ids w2 hp hf => (keep hf).mem.cells) (fun u hu => by obtain ⟨x, _, rfl⟩ := List.mem_map.1 hu; rfl) (by simp only [maxLen]; omega) (by omega) (by intros; kernel_rfl) (by intros; kernel_rfl) (by intros; kernel_rfl) (by kernel_rfl) (by kernel_rfl) (by intros; kernel_rfl) ?_
  intro b1 d1 hn1
  refine node_tb (V := id) (tb := I.tb) (fun _ => #[.slice a2 I.tb.length c2]) (fun a' c' => ⟨[], [], [], [I.tb.length, c'], [a']⟩) (by intros; kernel_rfl) (fun ids w2 hp hf => by
    have := rcopy_any a2 c2 es w2 (keep hf).tab hl2 hk
    rw [H.tb, H.len] at this; exact this) (by intros; kernel_rfl) (by kernel_rfl) (by kernel_rfl) (by intros; kernel_rfl) (fun _ _ => oneNil) ?_
  intro b2 d2 es2 hm hdj hsm hn2
  intro ids w2 hp hf
  have hcl := rw_cl hf.x.1.2
  refine ⟨b1, d1, b2, d2, es2, hm, by kernel_rfl, hdj, fun q hq hk => (hn2 q hq).2 (.inr (hcl.2 q hk)), ⟨hcl.1, hf.x.2⟩, ?_, hf.chg.below⟩
  rintro k (hk | hk)
  · exact (hn1 k (hcl.2 k hk).1 (hcl.2 k hk).2).1
  · exact (hn2 k hk).1
def RxJ (W : World) (G : Im) (vs : Vals) (hx : HX) : Prop := ∃ (x : Option Addr) (y : Nat) (x2 : Option Addr) (y2 : Nat) (es : List SE), es.map SE.s = G.tb ∧ Dj x2 y2 es ∧ (∀ q, (tabR x2 y2 es).F q → W.heap.size ≤ q ∧ ¬ (HX.cl x (G.mem.map (Value.int .i64))).F q) ∧ (∀ q, (HX.cl x (G.mem.map (Value.int .i64))).F q → W.heap.size ≤ q) ∧
  vs = ⟨imI G, [], [], [G.mem.length, y, G.tb.length, y2], [x, x2]⟩ ∧ hx = (HX.cl x (G.mem.map (Value.int .i64))).and (tabR x2 y2 es)
set_option maxHeartbeats 4000000 in
theorem rexec_any (I : Im) (a1 : Option Addr) (c1 : Nat) (a2 : Option Addr) (c2 : Nat) (es : List SE) (slot : Int) (v : Vl) (b1 : Option Addr) (d1 : Nat) (b2 : Option Addr) (d2 : Nat) (w : World) (H : ImAt w I a1 a2 es) (HV : VlAt w v b1 b2) (h64 : I64 slot) (hnb : v.ns.length * 8 ≤ 140737488355328) :
    Calls Try.prog 43 #[imV I a1 c1 a2 c2, .int .i64 slot, vlV v b1 d1 b2 d2] w (ExNew w (execV I slot v)) := by
  refine calls_at (tab_ok _) Try.func43 rfl tXRExec (ρ := ⟨imI I ++ [slot, v.k], [], [], [I.mem.length, c1, I.tb.length, c2, v.cs.length, d1, v.ns.length, d2], [a1, a2, b1, b2]⟩) (ids := []) (hx := HX.nil) (by kernel_rfl) (Facts.initP rfl oneNil) ?_
  obtain ⟨R, eR⟩ : ∃ R, R = execV I slot v := ⟨_, rfl⟩
  rw [← eR]
  unfold execV at eR
  have keep : ∀ {m : Mem} {ρ : Env} {ids : List Nat} {hx : HX} {w2 : World} {R : Ending → World → Prop}, Facts ⟨Try.prog, w, fun _ => False, R⟩ m ρ ids hx w2 → ImAt w2 I a1 a2 es := fun hf => H.keep (fun k hk => hf.chg.block k hk (fun q => q))
  have keepW : ∀ {m : Mem} {ρ : Env} {ids : List Nat} {hx : HX} {w2 : World} {R : Ending → World → Prop}, Facts ⟨Try.prog, w, fun _ => False, R⟩ m ρ ids hx w2 → VlAt w2 v b1 b2 := fun hf => HV.fit.at_ ((vlX v b1 b2).loc _ _ HV.X fun k hk => hf.chg.block k (vlX_sep HV.X k hk) (fun q => q))
  refine node_P ⟨[], [validI I], [], [], []⟩ #[imV I a1 c1 a2 c2] (.bool (validI I)) (by intros; kernel_rfl) (by intros; kernel_rfl) (by kernel_rfl) (by kernel_rfl) (by kernel_rfl) oneNil (fun ids w2 hp hf => rvalid20_any I a1 c1 a2 c2 es w2 (keep hf)) ?_
  rcases Bool.eq_false_or_eq_true (validI I) with hv | hv
  case' inr =>
    rw [if_pos hv] at eR
    subst eR
    exact br_T (!validI I) (by kernel_rfl) (by rw [hv]; rfl) (ex_err 44 (by intros; kernel_rfl))
  rw [if_neg (by rw [hv]; decide)] at eR
  have hI := (validI_iff I).1 hv
  refine br_F (!validI I) (by kernel_rfl) (by rw [hv]; rfl) ?_
  have s0 := hI.sl0
  have s1 := hI.sl1
  have e1 := hI.ep1
  have hne : (I.sl != IntKind.i64.wrap (slot - 1)) = !(decide (slot = I.sl + 1)) := by
    unfold I64 at h64
    by_cases hmin : slot = -9223372036854775808
    · rw [hmin, show IntKind.i64.wrap (-9223372036854775808 - 1) = 9223372036854775807 by decide, decide_eq_false (by omega)]
      simp; omega
    · rw [wrap_i64 (by omega)]
      by_cases q : slot = I.sl + 1
      · rw [decide_eq_true q]; simp; omega
      · rw [decide_eq_false q]; simp; omega
  refine ⟨ExJ I slot v, ?_, ?_⟩
  · by_cases h1 : slot = I.sl + 1
    case' neg =>
      rw [if_pos (.inl h1)] at eR
      subst eR
      exact br_T (I.sl != IntKind.i64.wrap (slot - 1)) (by kernel_rfl) (by rw [hne, decide_eq_false h1]; rfl) (ex_err 61 (by intros; kernel_rfl))
    refine br_F (I.sl != IntKind.i64.wrap (slot - 1)) (by kernel_rfl) (by rw [hne, decide_eq_true h1]; rfl) ?_
    by_cases h2 : 1099511627776 < slot
    case' pos =>
      rw [if_pos (.inr (.inl h2))] at eR
      subst eR
      exact br_T (decide (slot > 1099511627776)) (by kernel_rfl) (decide_eq_true h2) (ex_err 61 (by intros; kernel_rfl))
    refine br_F (decide (slot > 1099511627776)) (by kernel_rfl) (decide_eq_false h2) ?_
    by_cases h3 : v.k = 2
    · refine br_T (v.k == 2) (by kernel_rfl) (by simpa using h3) ?_
      by_cases h4 : I.ep = 1099511627776
      · rw [if_pos (.inr (.inr ⟨h3, by omega⟩))] at eR
        subst eR
        exact br_T (I.ep == 1099511627776) (by kernel_rfl) (by simpa using h4) (ex_err 61 (by intros; kernel_rfl))
      · refine br_F (I.ep == 1099511627776) (by kernel_rfl) (by simpa using h4) ?_
        exact again_V ⟨[], [], [], [], []⟩ rfl (by intros; kernel_rfl) HX.nil (fun w2 ids hf => HXok.none _ _) ⟨hI, h1, by omega, fun q => h4 (by omega), rfl, rfl⟩
    · refine br_F (v.k == 2) (by kernel_rfl) (by simpa using h3) ?_
      exact again_V ⟨[], [], [], [], []⟩ rfl (by intros; kernel_rfl) HX.nil (fun w2 ids hf => HXok.none _ _) ⟨hI, h1, by omega, fun q => h3 q.1, rfl, rfl⟩
  rintro vs hx' hcnt ⟨_, h1, h2, h3, rfl, rfl⟩
  refine holds_env (ρ' := ⟨imI I ++ [slot, v.k], [validI I], [], [I.mem.length, c1, I.tb.length, c2, v.cs.length, d1, v.ns.length, d2], [a1, a2, b1, b2]⟩) (by kernel_rfl) ?_
  rw [if_neg (by simp only [not_or]; exact ⟨fun q => q h1, by omega, h3⟩)] at eR
  refine node_P ⟨[valE v], [], [], [], []⟩ #[vlV v b1 d1 b2 d2] (.int .i64 (valE v)) (by intros; kernel_rfl) (by intros; kernel_rfl) (by kernel_rfl) (by kernel_rfl) (by kernel_rfl) oneNil (fun ids w2 hp hf => rchk_any v b1 d1 b2 d2 w2 (keepW hf)) ?_
  by_cases h4 : valE v = 0
  case' neg =>
    rw [if_pos h4] at eR
    subst eR
    exact br_T (valE v != 0) (by kernel_rfl) (by simpa using h4) (ex_err (valE v) (by intros; kernel_rfl))
  rw [if_neg (fun q => q h4)] at eR
  refine br_F (valE v != 0) (by kernel_rfl) (by simpa using h4) ?_
  have hfit := hI.fit
  have hesl : es.length ≤ 16 := by rw [H.len]; exact hfit.2
  refine node_im (V := id) (I := I) (fun _ => #[imV I a1 c1 a2 c2]) (fun x1 y1 x2 y2 => ⟨imI I, [], [], [I.mem.length, y1, I.tb.length, y2], [x1, x2]⟩) (by intros; kernel_rfl) (fun ids w2 hp hf => rcopy20_any I a1 c1 a2 c2 es w2 (keep hf) (by omega) (by omega) (fun e he => by
    have := (hI.tb.each e.s (by rw [← H.tb]; exact List.mem_map_of_mem he)).len; omega)) (by intros; kernel_rfl) (by kernel_rfl) (by kernel_rfl) (by intros; kernel_rfl) (fun _ _ _ _ => oneNil) ?_
  intro x1 y1 x2 y2 es1 hm1 hdj1 hsm1 had1 hn1
  refine holds_eq (show _ = imX I x1 x2 y2 es1 from HX.nil_and _) ?_
  refine holds_env (ρ' := ⟨imI I ++ [slot, v.k, valE v] ++ imI I, [validI I], [], [I.mem.length, c1, I.tb.length, c2, v.cs.length, d1, v.ns.length, d2, I.mem.length, y1, I.tb.length, y2], [a1, a2, b1, b2, x1, x2]⟩) (by kernel_rfl) ?_
  obtain ⟨G, eG⟩ : ∃ G, G = goI I slot v := ⟨_, rfl⟩
  rw [← eG] at eR
  refine ⟨RxJ w G, ?_, ?_⟩
  · by_cases k2 : v.k = 2
    · have hG : G = ⟨I.ep + 1, v.ns, slot, I.regs, I.tb⟩ := by rw [eG]; unfold goI; rw [if_pos k2]
      have hw : IntKind.i64.wrap (I.ep + 1) = I.ep + 1 := by have := hI.ep0; exact wrap_i64 (by omega)
      refine br_T (v.k == 2) (by kernel_rfl) (by simpa using k2) ?_
      refine node_clones (sz := 1) (z := .int .i64 0) (bytes := 8) rfl Try.underlying33 info_int1 rfl (by decide) 3 rfl (fun _ => b2) v.ns.length d2 (v.ns.map (Value.int .i64)) (by simp) (fun ids w2 hp hf => (keepW hf).n.cells) (fun u hu => by obtain ⟨x, _, rfl⟩ := List.mem_map.1 hu; rfl) (by simp only [maxLen]; omega) hnb (by intros; kernel_rfl) (by intros; kernel_rfl) (by intros; kernel_rfl) (by kernel_rfl) (by kernel_rfl) (by intros; kernel_rfl) ?_
      intro z1 u1 hz
      refine again_W ⟨imI G, [], [], [G.mem.length, u1, G.tb.length, y2], [z1, x2]⟩ rfl (fun ids => Eq.trans (b := ⟨imI ⟨IntKind.i64.wrap (I.ep + 1), v.ns, slot, I.regs, I.tb⟩, [], [], [v.ns.length, u1, I.tb.length, y2], [z1, x2]⟩) (by kernel_rfl) (by rw [hw, hG])) ((HX.cl z1 (G.mem.map (Value.int .i64))).and (tabR x2 y2 es1)) (fun w2 ids hf => ?_)
      have hcl := rw_cl hf.x.2
      rw [hG]
      refine ⟨⟨⟨hcl.1, hf.x.1.2⟩, fun j hj => hf.sep j (hj.elim (fun z => .inr (hcl.2 j z)) (fun z => .inl (.inr z)))⟩, z1, u1, x2, y2, es1, hm1, hdj1, fun q hq => ⟨(hn1 q (.inr hq)).1, fun zz => ?_⟩, fun q hq => ?_, rfl, rfl⟩
      · have := hcl.2 q zz
        exact (hz q this.1 this.2).2 (.inr hq)
      · have := hcl.2 q hq
        exact (hz q this.1 this.2).1
    · have hG : G = ⟨I.ep, I.mem, slot, I.regs, I.tb⟩ := by rw [eG]; unfold goI; rw [if_neg k2]
      refine br_F (v.k == 2) (by kernel_rfl) (by simpa using k2) ?_
      exact again_V ⟨imI G, [], [], [G.mem.length, y1, G.tb.length, y2], [x1, x2]⟩ rfl (fun ids => Eq.trans (b := ⟨imI ⟨I.ep, I.mem, slot, I.regs, I.tb⟩, [], [], [I.mem.length, y1, I.tb.length, y2], [x1, x2]⟩) (by kernel_rfl) (by rw [hG])) ((HX.cl x1 (G.mem.map (Value.int .i64))).and (tabR x2 y2 es1)) (fun w2 ids hf => by rw [hG]; exact ⟨hf.x, hf.sep⟩) ⟨x1, y1, x2, y2, es1, by rw [hG]; exact hm1, hdj1, fun q hq => ⟨(hn1 q (.inr hq)).1, by rw [hG]; exact had1 q hq⟩, fun q hq => (hn1 q (.inl (by rw [hG] at hq; exact hq))).1, rfl, rfl⟩
  rintro vs hx' hcnt2 ⟨x, y, x3, y3, es3, hm3, hdj3, hn3, hc3, rfl, rfl⟩
  have hGt : G.tb = I.tb ∧ G.regs = I.regs := by rw [eG]; unfold goI; split <;> exact ⟨rfl, rfl⟩
  have hG : VI G := by
    rw [eG]; unfold goI
    split
    · rename_i k2
      have hm : setOkB v.ns = true := by
        rcases valE_zero h4 with q | q | q
        · omega
        · exact q.2.2
        · omega
      exact ⟨by show 0 ≤ I.ep + 1; have := hI.ep0; omega, by show I.ep + 1 ≤ _; have : ¬ 1099511627776 ≤ I.ep := fun q => h3 ⟨k2, q⟩; omega, by show 0 ≤ slot; omega, h2, hm, hI.regs, hI.tb⟩
    · exact ⟨hI.ep0, hI.ep1, by show 0 ≤ slot; omega, h2, hI.mem, hI.regs, hI.tb⟩
  have hGr : G.regs.length = 16 := by rw [hGt.2]; exact H.reg
  have hall := cs_ok h4
  have hc8 : v.cs.length ≤ 8 := by
    rcases valE_zero h4 with q | q | q
    · rw [q.2.1]; decide
    · rw [q.2.1]; decide
    · exact q.2.1
  have hrow0 : ∀ (oa : Option Addr) q, ¬ (HX.rw 5 64 oa 0 0 (ancells [])).F q := fun oa q hq => absurd rfl hq.1
  refine loop_i (ExI w G v.cs x y) (fun vs => v.cs.length - (vs.i.headD 0).toNat) (fun ids w2 hp hf => ⟨((HX.cl x (G.mem.map (Value.int .i64))).and (HX.rw 5 64 (some ⟨idAt ids 3, 0, none⟩) 0 0 (ancells []))).and (tabR x3 y3 es3), ⟨⟨⟨hf.x.1, HX.rw_nil _ _ _ _⟩, hf.x.2⟩, ?_⟩, 0, x3, y3, es3, some ⟨idAt ids 3, 0, none⟩, 0, Nat.zero_le _, hm3, hdj3, fun q hq => ⟨(hn3 q hq).1, fun z => z.elim (fun z => (hn3 q hq).2 z) (fun z => hrow0 _ q z)⟩, fun q hq => absurd hq (hrow0 _ q), by kernel_rfl, rfl⟩) ?_
  · rintro k ((hk | hk) | hk)
    · exact hf.sep k (.inl hk)
    · exact absurd hk (hrow0 _ k)
    · exact hf.sep k (.inr hk)
  rintro vs hx' hcnt' ⟨k, a3, c3, es4, oa, oc, hk, hm4, hdj4, hn4, ho4, rfl, rfl⟩
  obtain ⟨J, eJ⟩ : ∃ J, J = runAll G (v.cs.take k) := ⟨_, rfl⟩
  rw [← eJ] at hm4 hn4 ho4 hcnt' ⊢
  have hJ := hG.all hGr hall k
  rw [← eJ] at hJ
  have hJk := runAll_keep G (v.cs.take k) (G, [])
  have hJm : J.1.mem = G.mem := by rw [eJ]; exact hJk.1
  have hJl : J.2.length = k := by rw [eJ]; exact (hJk.2.2.2).trans (by simp; omega)
  have hl4 : es4.length = J.1.tb.length := by rw [← hm4, List.length_map]
  by_cases hlt : k < v.cs.length
  case' neg =>
    refine br_F (decide ((k : Int) < (v.cs.length : Int))) (by kernel_rfl) (decide_eq_false (by omega)) ?_
    have hke : v.cs.take k = v.cs := List.take_of_length_le (by omega)
    rw [hke] at eJ
    rw [← eJ] at eR
    subst eR
    intro ids w2 hp hf
    refine ⟨x, y, a3, c3, es4, oa, oc, hm4, ?_, hdj4, ⟨⟨by rw [hJm]; exact hf.x.1.1, hf.x.2⟩, (rw_cells hf.x.1.2)⟩, ?_, hf.chg.below⟩
    · show _ = Ending.returned (Value.tuple #[imV J.1 x y a3 c3, .slice oa J.2.length oc, .int .i64 0])
      unfold imV imC
      rw [hJl, hJm]; kernel_rfl
    · rintro q ((hq | hq) | hq)
      · rw [hJm] at hq
        exact hc3 q hq
      · exact (hn4 q hq).1
      · exact (ho4 q ((rw_cl hf.x.1.2).2 q hq)).1
  refine br_T (decide ((k : Int) < (v.cs.length : Int))) (by kernel_rfl) (decide_eq_true (by omega)) ?_
  obtain ⟨c, hc⟩ : ∃ c, v.cs[k]? = some c := ⟨_, List.getElem?_eq_getElem hlt⟩
  have hce := c_elt HV.c hc
  have hcv := hall c (List.mem_of_getElem? hc)
  refine need_k (b1.isSome = true ∧ (0 : Int) ≤ k ∧ (k : Int) < v.cs.length) (by kernel_rfl) ⟨hce.1, by omega, by omega⟩ ?_
  refine node_ld0 (k := ⟨76, 1, 0, 22, 11⟩) ⟨c.is, [], [], [], []⟩ (.pointer (some (((b1.getD ⟨0, 0, none⟩).add (k * 8)).add 0))) c.cells (by intros; kernel_rfl) (by intros; kernel_rfl) (hce.2 _ (fun q => q)) hcnt' (by kernel_rfl) oneNil ?_
  obtain ⟨Q, eQ⟩ : ∃ Q, Q = runV J.1 c := ⟨_, rfl⟩
  have hQm : Q.i.mem = G.mem := by rw [eQ]; exact (runV_mem J.1 c).1.trans hJm
  have hQe : Q.i.ep = J.1.ep ∧ Q.i.sl = J.1.sl := by rw [eQ]; exact (runV_mem J.1 c).2
  obtain ⟨h1', h2', h3', h4', h5', h6', h7'⟩ := opB_of hcv
  have hat := hJ.1.tb.ask (sess := c.sess) (seq := c.seq) (ack := c.ack) h1' h2' (by omega)
  have eQ0 := eQ
  unfold runV at eQ
  obtain ⟨A, eA⟩ : ∃ A, A = askV J.1.tb c.sess c.seq c.ack := ⟨_, rfl⟩
  rw [← eA] at eQ hat
  obtain ⟨p, ep⟩ : ∃ p, p = applyM J.1.regs c.op := ⟨_, rfl⟩
  rw [← ep] at eQ
  have hpl : p.1.length = 16 := by rw [ep]; exact (applyM_len _ _).trans hJ.2
  have hstep : runAll G (v.cs.take (k + 1)) = (Q.i, J.2 ++ [⟨c.sess, c.seq, Q.k, Q.re, Q.im⟩]) := by rw [runAll_step G hc, ← eJ, eQ0]; rfl
  have hwk : IntKind.i64.wrap ((k : Int) + 1) = ((k + 1 : Nat) : Int) := by rw [wrap_i64 (by omega)]; omega
  refine node_tb (V := askRet A.k A.re A.im A.d) (tb := A.t) (fun _ => #[.slice a3 J.1.tb.length c3, cmdC c.sess c.seq c.ack c.op.kind c.op.reg c.op.tg c.op.re c.op.im]) (fun a' c' => ⟨[A.k, A.re, A.im], [A.d], [], [A.t.length, c'], [a']⟩) (by intros; kernel_rfl) (fun ids w2 hp hf => by
    have := rask_any a3 c3 es4 c.sess c.seq c.ack c.op.kind c.op.reg c.op.tg c.op.re c.op.im w2 (tabR_at hf.x.2) (by rw [hm4]; exact hJ.1.tb.ok)
    rw [hm4, ← eA, hl4] at this
    exact this) (by intros; kernel_rfl) (by kernel_rfl) (by kernel_rfl) (by intros; kernel_rfl) (fun _ _ => oneNil) ?_
  intro a' c' es' hm' hdj' hsm' hn'
  have hl' : es'.length = A.t.length := by rw [← hm', List.length_map]
  -- the end of a round, with the table that is kept and the answer
  have fin : ∀ {m m' : Mem} {ρ : Env} {pre : List Nat} {L : Stack} {t : Tree} {ty : Nat} {ps : List (Nat × SV)} {so xo : Operand} {r : SV} {bn e2 : Nat} {lvs : List LV} {es1 : Vec} {m2 : Mem} (a9 : Option Addr) (c9 : Nat) (es9 : List SE), es9.map SE.s = Q.i.tb → Dj a9 c9 es9 → (∀ q, (tabR a9 c9 es9).F q → w.heap.size ≤ q ∧ ¬ ((HX.cl x (G.mem.map (Value.int .i64))).and (HX.rw 5 64 oa k oc (ancells J.2))).F q) →
      (∀ ids, envOf ρ ids ps so = .slice oa k oc) → (∀ ids, envOf ρ ids ps xo = .slice (some ⟨idAt ids bn, 0, none⟩) 1 1) → m.hp[bn]? = some (e2, lvs) → (∀ ids, cellsDen ρ ids lvs = AnD.cells ⟨c.sess, c.seq, Q.k, Q.re, Q.im⟩) → (∀ a' cap' ids, r.den (ρ.add ⟨[], [], [], [k + 1, cap'], [a']⟩) ids = .slice a' (k + 1) cap') → m'.hp = m.hp → hpFits m.c m.hp.length m.hp = true → (∀ a' cap', (ρ.add ⟨[], [], [], [k + 1, cap'], [a']⟩).cnt = m'.c) →
      lkup 15 L = some (fun vs' hx'' => ExI w G v.cs x y vs' hx'' ∧ v.cs.length - (vs'.i.headD 0).toNat < v.cs.length - ((k : Int)).toNat) → (∀ a' cap' ids, es1.den (ρ.add ⟨[], [], [], [k + 1, cap'], [a']⟩) ids = ⟨IntKind.i64.wrap ((k : Int) + 1) :: imI Q.i, [], [], [k + 1, cap', G.mem.length, y, Q.i.tb.length, c9], [a', x, a9]⟩) →
      (Tree.gen (.call { callee := .builtin .append, args := #[so, xo], argTypes := #[58, 58] }) ty ps m (some r) m' (.again 15 es1 m2)).holds ⟨Try.prog, w, fun _ => False, ExNew w R⟩ ρ pre (((HX.cl x (G.mem.map (Value.int .i64))).and (tabR a9 c9 es9)).and (HX.rw 5 64 oa k oc (ancells J.2))) L := by
    intro m m' ρ pre L t ty ps so xo r bn e2 lvs es1 m2 a9 c9 es9 hm9 hdj9 hn9 z1 z2 z3 z4 z5 z6 z7 z8 z9 z10
    refine node_pushs (z := .agg #[.int .i64 0, .int .i64 0, .int .i64 0, .int .i64 0, .int .i64 0]) (sz := 5) (bytes := 40) rfl (by kernel_rfl) info_ans rfl (by decide) oa k oc (ancells J.2) (AnD.cells ⟨c.sess, c.seq, Q.k, Q.re, Q.im⟩) bn z1 z2 z3 z4 rfl (an_one _) (fun q h1 h2 hF => ?_) (fun q h1 h2 => .inl (ho4 q ⟨h1, h2⟩).1) (by simp [maxLen]; omega) (by omega) z5 z6 z7 z8 ?_
    · rcases hF with hF | hF
      · exact (ho4 q ⟨h1, h2⟩).2 hF
      · exact (hn9 q hF).2 (.inr ⟨h1, h2⟩)
    intro oa' oc' hoc hdis hwh
    rw [ancells_snoc]
    refine again_V ⟨((k + 1 : Nat) : Int) :: imI Q.i, [], [], [k + 1, oc', G.mem.length, y, Q.i.tb.length, c9], [oa', x, a9]⟩ z9 (fun ids => (z10 _ _ ids).trans (by rw [hwk])) (((HX.cl x (G.mem.map (Value.int .i64))).and (HX.rw 5 64 oa' (k + 1) oc' (ancells (J.2 ++ [⟨c.sess, c.seq, Q.k, Q.re, Q.im⟩])))).and (tabR a9 c9 es9)) (fun w2 ids hf => ?_) ⟨⟨k + 1, a9, c9, es9, oa', oc', hlt, by rw [hstep]; exact hm9, hdj9, fun q hq => ⟨(hn9 q hq).1, ?_⟩, fun q hq => ⟨?_, ?_⟩, by rw [hstep], by rw [hstep]⟩, ?_⟩
    · exact ⟨⟨⟨hf.x.1.1, hf.x.2⟩, hf.x.1.2⟩, fun q hq => hf.sep q (hq.elim (fun z => z.elim (fun z => .inl (.inl z)) .inr) (fun z => .inl (.inr z)))⟩
    · rw [hstep]
      rintro (z | z)
      · exact (hn9 q hq).2 (.inl z)
      · exact hdis q z.2 (.inr hq)
    · rw [hstep] at hq
      rcases hwh with ⟨z1, z2⟩ | ⟨g, z1, z2, z3⟩
      · exact (ho4 q ⟨z1, by rw [← z2]; exact hq.2⟩).1
      · rw [hq.2] at z1; cases z1; exact z2
    · rw [hstep] at hq
      exact fun z => hdis q hq.2 (.inl z)
    · show v.cs.length - (((k + 1 : Nat) : Int)).toNat < v.cs.length - ((k : Int)).toNat
      omega
  rcases Bool.eq_false_or_eq_true A.d with hd | hd
  · refine br_F (!A.d) (by kernel_rfl) (by rw [hd]; rfl) ?_
    rw [if_pos hd] at eQ
    have q1 : Q.k = A.k ∧ Q.re = A.re ∧ Q.im = A.im ∧ Q.i.tb = A.t ∧ Q.i.regs = J.1.regs := by rw [eQ]; exact ⟨rfl, rfl, rfl, rfl, rfl⟩
    refine holds_sub _ (hx' := ((HX.cl x (G.mem.map (Value.int .i64))).and (tabR a' c' es')).and (HX.rw 5 64 oa k oc (ancells J.2))) (fun w2 h => ⟨⟨h.1.1.1, h.2⟩, h.1.1.2⟩) (fun q hq => hq.elim (fun z => z.elim (fun z => .inl (.inl (.inl z))) .inr) (fun z => .inl (.inl (.inr z)))) ?_
    refine fin (t := .par (.fail "" 0) (.fail "" 0)) (bn := 6) a' c' es' (by rw [q1.2.2.2.1]; exact hm') hdj' (fun q hq => ⟨(hn' q hq).1, fun z => (hn' q hq).2 (.inl z)⟩) (by intros; kernel_rfl) (by intros; kernel_rfl) rfl (by rw [q1.1, q1.2.1, q1.2.2.1]; intros; kernel_rfl) (by intros; kernel_rfl) (by kernel_rfl) (by kernel_rfl) (by intros; kernel_rfl) rfl (fun a8 c8 ids => Eq.trans (b := ⟨IntKind.i64.wrap ((k : Int) + 1) :: imI ⟨J.1.ep, G.mem, J.1.sl, J.1.regs, A.t⟩, [], [], [k + 1, c8, G.mem.length, y, A.t.length, c'], [a8, x, a']⟩) (by kernel_rfl) (by rw [q1.2.2.2.1]; unfold imI; rw [hQe.1, hQe.2, q1.2.2.2.2]))
  · refine br_T (!A.d) (by kernel_rfl) (by rw [hd]; rfl) ?_
    rw [if_neg (by rw [hd]; decide)] at eQ
    obtain ⟨TK, eTK⟩ : ∃ TK, TK = keepV A.t c.sess c.seq p.2.1 p.2.2.1 p.2.2.2 := ⟨_, rfl⟩
    have q1 : Q.k = p.2.1 ∧ Q.re = p.2.2.1 ∧ Q.im = p.2.2.2 ∧ Q.i.tb = TK ∧ Q.i.regs = p.1 := by rw [eQ, eTK]; exact ⟨rfl, rfl, rfl, rfl, rfl⟩
    refine node_P ⟨rgs p.1 ++ [p.2.1, p.2.2.1, p.2.2.2], [], [], [], []⟩ #[.agg ((rgs J.1.regs).map (Value.int .i64)).toArray, .agg c.op.cells.toArray] (resV p) (by intros; kernel_rfl) (fun ids => Eq.trans (b := resV (rgs p.1, p.2)) (by kernel_rfl) (by unfold resV; rw [rgs_of hpl])) (by kernel_rfl) (by kernel_rfl) (by kernel_rfl) oneNil (fun ids w2 hp hf => by
      have := refApply_any (rgs J.1.regs) rfl c.op w2
      rw [rgs_of hJ.2] at this ⊢
      rw [ep]; exact this) ?_
    refine node_tb (V := id) (tb := TK) (fun _ => #[.slice a' A.t.length c', cmdC c.sess c.seq c.ack c.op.kind c.op.reg c.op.tg c.op.re c.op.im, .agg #[.int .i64 p.2.1, .int .i64 p.2.2.1, .int .i64 p.2.2.2]]) (fun a3 c3 => ⟨[], [], [], [TK.length, c3], [a3]⟩) (by intros; kernel_rfl) (fun ids w2 hp hf => by
      have := rkeep_any a' c' es' c.sess c.seq c.ack c.op.kind c.op.reg c.op.tg c.op.re c.op.im p.2.1 p.2.2.1 p.2.2.2 w2 (tabR_at hf.x.2) (by rw [hm']; exact hat.ok)
      rw [hm', hl', ← eTK] at this
      exact this) (by intros; kernel_rfl) (by kernel_rfl) (by kernel_rfl) (by intros; kernel_rfl) (fun _ _ => oneNil) ?_
    intro a6 c6 es6 hm6 hdj6 hsm6 hn6
    refine holds_sub _ (hx' := ((HX.cl x (G.mem.map (Value.int .i64))).and (tabR a6 c6 es6)).and (HX.rw 5 64 oa k oc (ancells J.2))) (fun w2 h => ⟨⟨h.1.1.1.1, h.2⟩, h.1.1.1.2⟩) (fun q hq => hq.elim (fun z => z.elim (fun z => .inl (.inl (.inl (.inl z)))) .inr) (fun z => .inl (.inl (.inl (.inr z))))) ?_
    refine fin (t := .par (.fail "" 0) (.fail "" 0)) (bn := 8) a6 c6 es6 (by rw [q1.2.2.2.1]; exact hm6) hdj6 (fun q hq => ⟨(hn6 q hq).1, fun z => (hn6 q hq).2 (.inl (.inl z))⟩) (by intros; kernel_rfl) (by intros; kernel_rfl) rfl (by rw [q1.1, q1.2.1, q1.2.2.1]; intros; kernel_rfl) (by intros; kernel_rfl) (by kernel_rfl) (by kernel_rfl) (by intros; kernel_rfl) rfl (fun a8 c8 ids => Eq.trans (b := ⟨IntKind.i64.wrap ((k : Int) + 1) :: imI ⟨J.1.ep, G.mem, J.1.sl, p.1, TK⟩, [], [], [k + 1, c8, G.mem.length, y, TK.length, c6], [a8, x, a6]⟩) (by kernel_rfl) (by rw [q1.2.2.2.1]; unfold imI; rw [hQe.1, hQe.2, q1.2.2.2.2]))
end Go.Proofs.Ytbedoemdjlollaa

namespace Go.Proofs.Ytbedoemdjlollaa
open Go.ChangeShapes Go.WideShapes Go.ChangeAt Go.RowKit Go.Syn Go.Eng
set_option linter.unusedVariables false
set_option linter.unusedSimpArgs false
set_option maxRecDepth 100000
def tbX (a : Option Addr) (es : List SE) : HX := ⟨fun k => (HX.cl a (secells es)).F k ∨ ∃ e ∈ es, (HX.cl e.a (kcells e.s.kept)).F k, fun w => TbAt w a es, fun w w' h he => ⟨(HX.cl a (secells es)).loc w w' h.row fun k hk => he k (.inl hk), fun e hm => (HX.cl e.a (kcells e.s.kept)).loc w w' (h.each e hm) fun k hk => he k (.inr ⟨e, hm, hk⟩)⟩⟩
def imR (I : Im) (a1 a2 : Option Addr) (es : List SE) : HX := (HX.cl a1 (I.mem.map (Value.int .i64))).and (tbX a2 es)
theorem imR_of {I : Im} {a1 a2 : Option Addr} {c2 : Nat} {es : List SE} {w : World} (h : (imX I a1 a2 c2 es).X w) : (imR I a1 a2 es).X w ∧ ∀ k, (imR I a1 a2 es).F k → (imX I a1 a2 c2 es).F k := by
  refine ⟨⟨h.1, tabR_at h.2⟩, ?_⟩
  rintro k (hk | hk | ⟨e, hm, hk⟩)
  · exact .inl hk
  · exact .inr (.inr ((rw_cl h.2.2).2 k hk))
  · exact .inr (.inl ⟨e, hm, (rw_cl (h.2.1 e hm)).2 k hk⟩)
structure ImBig (I : Im) : Prop where
  mem : ∀ x ∈ I.mem, I64 x
  len : I.mem.length * 8 ≤ 140737488351232
  reg : I.regs.length = 16
  tb : I.tb.length * 40 ≤ 140737488351232
  kept : ∀ s ∈ I.tb, s.kept.length * 32 ≤ 140737488351232
theorem imOk.big {I : Im} (h : imOk I) : ImBig I := ⟨h.2.2, by have := h.1.fit.1; omega, h.2.1, by have := h.1.fit.2; omega, fun s hs => by have := (h.1.tb.each s hs).len; omega⟩
theorem ImBig.at_ {I : Im} (h : ImBig I) {a1 a2 : Option Addr} {es : List SE} {w : World} (he : es.map SE.s = I.tb) (hX : (imR I a1 a2 es).X w) : ImAt w I a1 a2 es :=
  ⟨he, Ints.of_cells (by have := h.len; omega) h.mem hX.1, hX.2, h.reg⟩
theorem exec_zero {I : Im} {slot : Int} {v : Vl} (h : (execV I slot v).e = 0) : VI I ∧ slot = I.sl + 1 ∧ slot ≤ 1099511627776 ∧ (v.k = 2 → I.ep < 1099511627776) ∧ valE v = 0 := by
  unfold execV at h
  by_cases h1 : validI I = false
  · rw [if_pos h1] at h; cases h
  rw [if_neg h1] at h
  by_cases h2 : slot ≠ I.sl + 1 ∨ 1099511627776 < slot ∨ (v.k = 2 ∧ 1099511627776 ≤ I.ep)
  · rw [if_pos h2] at h; cases h
  rw [if_neg h2] at h
  simp only [not_or, Classical.not_not] at h2
  by_cases h3 : valE v ≠ 0
  · rw [if_pos h3] at h; exact absurd h h3
  refine ⟨(validI_iff I).1 (by simpa using h1), h2.1, by omega, fun q => ?_, by simpa using h3⟩
  have := h2.2.2
  exact Classical.byContradiction fun z => this ⟨q, by omega⟩
theorem im0_big : ImBig im0 := ⟨fun x h => (by cases h), by decide, rfl, by decide, fun s h => (by cases h)⟩
theorem exec_big {I : Im} (hI : ImBig I) (slot : Int) (v : Vl) (hn : ∀ x ∈ v.ns, I64 x) : ImBig (execV I slot v).i ∧ (execV I slot v).an.length ≤ 8 ∧ ((execV I slot v).e = 0 → imOk (execV I slot v).i) := by
  by_cases h : (execV I slot v).e = 0
  · obtain ⟨h1, h2, h3, h4, h5⟩ := exec_zero h
    have ok := exec_ok (⟨h1, hI.reg, hI.mem⟩ : imOk I) h2 h3 h4 h5 hn
    refine ⟨ok.ok.big, ?_, fun _ => ok.ok⟩
    rw [ok.len]
    rcases valE_zero h5 with q | q | q
    · rw [q.2.1]; decide
    · rw [q.2.1]; decide
    · exact q.2.1
  · have : (execV I slot v).i = im0 ∧ (execV I slot v).an = [] := by
      unfold execV at h ⊢
      split
      · exact ⟨rfl, rfl⟩
      · split
        · exact ⟨rfl, rfl⟩
        · split
          · exact ⟨rfl, rfl⟩
          · rename_i h1 h2 h3
            rw [if_neg h1, if_neg h2, if_neg h3] at h
            exact absurd rfl h
    rw [this.1, this.2]
    exact ⟨im0_big, by decide, fun q => absurd q h⟩
end Go.Proofs.Ytbedoemdjlollaa
