/- Part 16 of the texts of a proof about the given program: what the statement's proof needs of them. -/
import Derived.Test.YtfjiolgdcphjhaaKExecutorStops15
namespace Go.Proofs.Ytfjiolgdcphjhaa
open Go.ChangeShapes Go.WideShapes Go.ChangeAt Go.RowKit Go.Syn Go.Eng
set_option linter.unusedVariables false
set_option linter.unusedSimpArgs false
set_option maxRecDepth 100000
structure Pv where
  v : Vl
  a1 : Option Addr
  c1 : Nat
  a2 : Option Addr
  c2 : Nat
def Pv.cells (p : Pv) : List Value := [.int .i64 p.v.k, .slice p.a1 p.v.cs.length p.c1, .slice p.a2 p.v.ns.length p.c2]
def qcs (xs : List Pv) : List Value := xs.flatMap Pv.cells
theorem qcs_len (p : Pv) : p.cells.length = 3 := rfl
theorem opn_pv {w : World} {d : Dat} (h : d.In Try.prog w 37) : ∃ p : Pv, d.cells = p.cells ∧ VlAt w p.v p.a1 p.a2 ∧ ∀ c ∈ p.v.cs, CmFit c := by
  obtain ⟨v, a1, c1, a2, c2, e, H, _, hc⟩ := opn_vl h
  exact ⟨⟨v, a1, c1, a2, c2⟩, e, H, hc⟩
theorem opn_pvs {w : World} : ∀ (ds : List Dat), (∀ d ∈ ds, d.In Try.prog w 37) → ∃ xs : List Pv, xs.length = ds.length ∧ Dat.cellsAll ds = qcs xs ∧ ∀ p ∈ xs, VlAt w p.v p.a1 p.a2 ∧ ∀ c ∈ p.v.cs, CmFit c
  | [], _ => ⟨[], rfl, rfl, fun o h => by cases h⟩
  | d :: r, h => by
    obtain ⟨o, e, ho⟩ := opn_pv (h d (List.mem_cons_self))
    obtain ⟨os, e1, e2, hos⟩ := opn_pvs r fun x hx => h x (List.mem_cons_of_mem _ hx)
    refine ⟨o :: os, by simp [e1], ?_, fun x hx => ?_⟩
    · show d.cells ++ Dat.cellsAll r = o.cells ++ qcs os
      rw [e, e2]
    · rcases List.mem_cons.1 hx with rfl | hx
      · exact ho
      · exact hos x hx
theorem pv_part {w : World} {a : Option Addr} {xs : List Pv} {p : Pv} (h : Cells w a (qcs xs)) (i o : Nat) (us : List Value) (hi : xs[i]? = some p) (hu : ∀ j u, us[j]? = some u → p.cells[o + j]? = some u) (h0 : us ≠ []) : a.isSome = true ∧ CellsAt w (.pointer (some (((a.getD ⟨0, 0, none⟩).add (i * 3)).add o))) us (fun _ => False) := by
  obtain ⟨h1, h2⟩ := flat_part qcs_len h hi (o := o) us hu h0
  exact ⟨h1, h2 _ id⟩
theorem pv_all {w : World} {a : Option Addr} {xs : List Pv} {p : Pv} (h : Cells w a (qcs xs)) (i : Nat) (hi : xs[i]? = some p) : CellsAt w (.pointer (some (((a.getD ⟨0, 0, none⟩).add (i * 3)).add 0))) p.cells (fun _ => False) :=
  (pv_part h i 0 p.cells hi (fun j u hj => by rw [Nat.zero_add]; exact hj) (by simp [Pv.cells])).2
theorem pv_one {w : World} {a : Option Addr} {xs : List Pv} {p : Pv} (h : Cells w a (qcs xs)) (i o : Nat) (u : Value) (hi : xs[i]? = some p) (hu : p.cells[o]? = some u) : CellsAt w (.pointer (some (((a.getD ⟨0, 0, none⟩).add (i * 3)).add o))) [u] (fun _ => False) :=
  (pv_part h i o [u] hi (at1 hu) (by simp)).2
def imOk (I : Im) : Prop := VI I ∧ I.regs.length = 16 ∧ ∀ x ∈ I.mem, I64 x
theorem imOk.fit {I : Im} (h : imOk I) : ImFit I := ⟨h.2.2, by have := h.1.fit.1; omega, h.2.1⟩
theorem goI_ok {I : Im} (h : imOk I) {slot : Int} {v : Vl} (hs : slot = I.sl + 1) (hs2 : slot ≤ 1099511627776) (he : v.k = 2 → I.ep < 1099511627776) (hz : valE v = 0) (hn : ∀ x ∈ v.ns, I64 x) : imOk (goI I slot v) := by
  have h0 := h.1.sl0
  have e0 := h.1.ep0
  unfold goI
  split
  · rename_i k2
    have hm : setOkB v.ns = true := by
      rcases valE_zero hz with q | q | q
      · omega
      · exact q.2.2
      · omega
    exact ⟨⟨by show 0 ≤ I.ep + 1; omega, by have := he k2; show I.ep + 1 ≤ _; omega, by show 0 ≤ slot; omega, hs2, hm, h.1.regs, h.1.tb⟩, h.2.1, hn⟩
  · exact ⟨⟨e0, h.1.ep1, by show 0 ≤ slot; omega, hs2, h.1.mem, h.1.regs, h.1.tb⟩, h.2.1, h.2.2⟩
theorem runAll_ok {I : Im} (h : imOk I) {cs : List CmD} (hc : ∀ c ∈ cs, cmdV c = 0) : imOk (runAll I cs).1 := by
  obtain ⟨h1, h2⟩ := h.1.all h.2.1 hc cs.length
  rw [List.take_length] at h1 h2
  exact ⟨h1, h2, by have := (runAll_keep I cs (I, [])).1; show ∀ x ∈ (cs.foldl stepV (I, [])).1.mem, I64 x; rw [this]; exact h.2.2⟩
theorem cs_ok {v : Vl} (hz : valE v = 0) : ∀ c ∈ v.cs, cmdV c = 0 := by
  rcases valE_zero hz with q | q | q
  · rw [q.2.1]; intro c hc; cases hc
  · rw [q.2.1]; intro c hc; cases hc
  · exact firstE_all q.2.2.2.2
theorem exec_eq {I : Im} (h : VI I) {slot : Int} {v : Vl} (hs : slot = I.sl + 1) (hs2 : slot ≤ 1099511627776) (he : v.k = 2 → I.ep < 1099511627776) : execV I slot v = if valE v ≠ 0 then ⟨im0, [], valE v⟩ else ⟨(runAll (goI I slot v) v.cs).1, (runAll (goI I slot v) v.cs).2, 0⟩ := by
  unfold execV
  rw [if_neg (by rw [(validI_iff I).2 h]; decide), if_neg]
  rintro (q | q | ⟨q1, q2⟩)
  · exact q hs
  · omega
  · have := he q1; omega
theorem exec_bad {I : Im} (h : VI I) {slot : Int} {v : Vl} (hs : slot = I.sl + 1) (hs2 : slot ≤ 1099511627776) (he : v.k = 2 → I.ep < 1099511627776) (hz : valE v ≠ 0) : execV I slot v = ⟨im0, [], valE v⟩ := by
  rw [exec_eq h hs hs2 he, if_pos hz]
structure ExecOk (I : Im) (slot : Int) (v : Vl) (R : ExR) : Prop where
  e : R.e = 0
  i : R.i = (runAll (goI I slot v) v.cs).1
  an : R.an = (runAll (goI I slot v) v.cs).2
  ok : imOk R.i
  sl : R.i.sl = slot
  mem : R.i.mem = if v.k = 2 then v.ns else I.mem
  ep : R.i.ep = if v.k = 2 then I.ep + 1 else I.ep
  len : R.an.length = v.cs.length
  rest : v.cs = [] → R.i.regs = I.regs ∧ R.i.tb = I.tb
theorem exec_ok {I : Im} (h : imOk I) {slot : Int} {v : Vl} (hs : slot = I.sl + 1) (hs2 : slot ≤ 1099511627776) (he : v.k = 2 → I.ep < 1099511627776) (hz : valE v = 0) (hn : ∀ x ∈ v.ns, I64 x) : ExecOk I slot v (execV I slot v) := by
  rw [exec_eq h.1 hs hs2 he, if_neg (fun q => q hz)]
  have hk := runAll_keep (goI I slot v) v.cs (goI I slot v, [])
  refine ⟨rfl, rfl, rfl, runAll_ok (goI_ok h hs hs2 he hz hn) (cs_ok hz), hk.2.2.1.trans ?_, hk.1.trans ?_, hk.2.1.trans ?_, (hk.2.2.2).trans (by simp), fun hc => ?_⟩
  · show (goI I slot v).sl = slot
    unfold goI; split <;> rfl
  · show (goI I slot v).mem = _
    unfold goI; split <;> rfl
  · show (goI I slot v).ep = _
    unfold goI; split <;> rfl
  · rw [hc]
    show (goI I slot v).regs = _ ∧ (goI I slot v).tb = _
    unfold goI; split <;> exact ⟨rfl, rfl⟩
end Go.Proofs.Ytfjiolgdcphjhaa

namespace Go.Proofs.Ytfjiolgdcphjhaa
open Go.ChangeShapes Go.WideShapes Go.ChangeAt Go.RowKit Go.Syn Go.Eng
set_option linter.unusedVariables false
set_option linter.unusedSimpArgs false
set_option maxRecDepth 100000
def StI20 (n : Nat) (vs : Vals) (hx : HX) : Prop := ∃ (k : Nat) (J : Im) (a1 : Option Addr) (c1 : Nat) (a2 : Option Addr) (c2 : Nat) (es : List SE), k ≤ n ∧ k ≤ 60 ∧ imOk J ∧ J.sl ≤ k ∧ J.ep ≤ k ∧ es.map SE.s = J.tb ∧
  vs = ⟨J.ep :: (k : Int) :: imI J, [], [], [J.mem.length, c1, J.tb.length, c2], [a1, a2]⟩ ∧ hx = imX J a1 a2 c2 es
def hi2 : Im := ⟨0, [1, 2], 0, im0.regs, []⟩
theorem hi2_ok : imOk hi2 := ⟨(validI_iff hi2).1 (by kernel_rfl), rfl, by unfold hi2 I64; decide⟩
set_option maxHeartbeats 4000000 in
theorem stops20_walk (a : Option Addr) (cap : Nat) (xs : List Pv) (w : World) (H : Cells w a (qcs xs)) (hxs : ∀ p ∈ xs, VlAt w p.v p.a1 p.a2 ∧ ∀ c ∈ p.v.cs, CmFit c) : Calls Try.prog 5 #[.slice a xs.length cap] w (PureAt w (.bool true)) := by
  refine calls_at (tab_ok _) Try.func5 rfl tXStops (ρ := ⟨[], [], [], [xs.length, cap], [a]⟩) (ids := []) (hx := HX.nil) rfl (Facts.initP rfl oneNil) ?_
  have keepV : ∀ {m : Mem} {ρ : Env} {ids : List Nat} {hx : HX} {w2 : World} {R : Ending → World → Prop} {p : Pv}, p ∈ xs → Facts ⟨Try.prog, w, fun _ => False, R⟩ m ρ ids hx w2 → VlAt w2 p.v p.a1 p.a2 := fun hp hf => (hxs _ hp).1.fit.at_ ((vlX _ _ _).loc _ _ (hxs _ hp).1.X fun k hk => hf.chg.block k (vlX_sep (hxs _ hp).1.X k hk) (fun q => q))
  refine node_P ⟨[], [true], [], [], []⟩ #[] (.bool true) (by intros; kernel_rfl) (by intros; kernel_rfl) (by kernel_rfl) (by kernel_rfl) (by kernel_rfl) oneNil (fun ids w2 hp hf => head20_any w2) ?_
  refine br_f (by kernel_rfl) ?_
  refine node_im (V := id) (I := hi2) (fun ids => #[.slice (some ⟨idAt ids 0, 0, none⟩) 2 2]) (fun x1 y1 x2 y2 => ⟨imI hi2, [], [], [2, y1, 0, y2], [x1, x2]⟩) (by intros; kernel_rfl) (fun ids w2 hp hf => xfirst_any _ 2 [1, 2] w2 (ints_blk hf 0 3 [.int .i64 (.lit 1), .int .i64 (.lit 2)] [1, 2] rfl (by kernel_rfl) (by decide) (by unfold I64; decide)) (by decide)) (by intros; kernel_rfl) (by kernel_rfl) (by kernel_rfl) (by intros; kernel_rfl) (fun _ _ _ _ => oneNil) ?_
  intro x1 y1 x2 y2 es0 hm0 hdj0 hsm0 had0 hn0
  refine loop_i (StI20 xs.length) (fun vs => xs.length - ((vs.i.tail.headD 0)).toNat) (fun ids w2 hp hf => ⟨imX hi2 x1 x2 y2 es0, ⟨hf.x.2, fun j hj => hf.sep j (.inr hj)⟩, 0, hi2, x1, y1, x2, y2, es0, Nat.zero_le _, by decide, hi2_ok, by decide, by decide, hm0, by kernel_rfl, rfl⟩) ?_
  rintro vs hx' hcnt ⟨k, J, a1, c1, a2, c2, es, hkn, hk60, hJ, hsl, hep, hes, rfl, rfl⟩
  by_cases hlt : k < xs.length
  case' neg => exact br_F (decide ((k : Int) < (xs.length : Int))) (by kernel_rfl) (decide_eq_false (by omega)) (pure_done (by intros; kernel_rfl))
  refine br_T (decide ((k : Int) < (xs.length : Int))) (by kernel_rfl) (decide_eq_true (by omega)) ?_
  by_cases hlt6 : k < 60
  case' neg => exact br_F (decide ((k : Int) < 60)) (by kernel_rfl) (decide_eq_false (by omega)) (pure_done (by intros; kernel_rfl))
  refine br_T (decide ((k : Int) < 60)) (by kernel_rfl) (decide_eq_true (by omega)) ?_
  obtain ⟨p, hp⟩ : ∃ p, xs[k]? = some p := ⟨_, List.getElem?_eq_getElem hlt⟩
  have hpm := List.mem_of_getElem? hp
  have hnd : a.isSome = true ∧ (0 : Int) ≤ k ∧ (k : Int) < xs.length := ⟨(pv_part H k 0 p.cells hp (fun j u hj => by rw [Nat.zero_add]; exact hj) (by simp [Pv.cells])).1, by omega, by omega⟩
  have s0 := hJ.1.sl0
  have e0 := hJ.1.ep0
  have hws : IntKind.i64.wrap (J.sl + 1) = J.sl + 1 := wrap_i64 (by omega)
  have hes2 : es.length ≤ 16 := by rw [es_len hes]; exact hJ.1.fit.2
  obtain ⟨R, eR⟩ : ∃ R, R = execV J (J.sl + 1) p.v := ⟨_, rfl⟩
  have hwk : IntKind.i64.wrap ((k : Int) + 1) = ((k + 1 : Nat) : Int) := by rw [wrap_i64 (by omega)]; omega
  refine need_k (a.isSome = true ∧ (0 : Int) ≤ k ∧ (k : Int) < xs.length) (by kernel_rfl) hnd ?_
  refine par_i ?_ ?_
  all_goals
    refine node_ld0 (k := ⟨38, 1, 0, 10, 5⟩) ⟨[p.v.k], [], [], [p.v.cs.length, p.c1, p.v.ns.length, p.c2], [p.a1, p.a2]⟩ (.pointer (some (((a.getD ⟨0, 0, none⟩).add (k * 3)).add 0))) p.cells (by intros; kernel_rfl) (by intros; kernel_rfl) (pv_all H k hp) hcnt (by kernel_rfl) oneNil ?_
    try refine par_i ?_ ?_
  all_goals
    refine node_vl (V := id) (v := p.v) (fun _ => #[vlV p.v p.a1 p.c1 p.a2 p.c2]) (fun b1 d1 b2 d2 => ⟨[p.v.k], [], [], [p.v.cs.length, d1, p.v.ns.length, d2], [b1, b2]⟩) (by intros; kernel_rfl) (fun ids w2 hp hf => cpvl_any p.v p.a1 p.c1 p.a2 p.c2 w2 (keepV hpm hf)) (by intros; kernel_rfl) (by kernel_rfl) (by kernel_rfl) (by intros; kernel_rfl) (fun _ _ _ _ => oneNil) ?_
    intro b1 d1 b2 d2 hb1
    try refine par_i ?_ ?_
  all_goals
    refine node_ex (R := R) (fun _ => #[imV J a1 c1 a2 c2, .int .i64 (J.sl + 1), vlV p.v b1 d1 b2 d2]) (fun ids => Eq.trans (b := #[imV J a1 c1 a2 c2, .int .i64 (IntKind.i64.wrap (J.sl + 1)), vlV p.v b1 d1 b2 d2]) (by kernel_rfl) (by rw [hws])) (fun ids w2 hp hf => eR ▸ xexec_any J a1 c1 a2 c2 es (J.sl + 1) p.v b1 d1 b2 d2 w2 (hJ.fit.at_ hes hf.x.1) (by omega) hJ.fit.len ((hxs p hpm).1.fit.at_ hf.x.2)) (by intros; kernel_rfl) (by kernel_rfl) (by kernel_rfl) (by intros; kernel_rfl) ?_
    intro g1 h1 g2 h2 es2 oa oc hm2 hdj2 hsm2 hso2 hn2
    have hRe : R.e = valE p.v := by
      by_cases hz : valE p.v = 0
      · rw [hz, eR]; exact (exec_ok hJ rfl (by omega) (fun _ => by omega) hz (hxs p hpm).1.n.fits).e
      · rw [eR, exec_bad hJ.1 rfl (by omega) (fun _ => by omega) hz]
    refine holds_env (ρ' := ⟨imI hi2 ++ (J.ep :: (k : Int) :: imI J) ++ [p.v.k, p.v.k] ++ imI R.i ++ [R.e], [true], [], [xs.length, cap, 2, y1, 0, y2, J.mem.length, c1, J.tb.length, c2, p.v.cs.length, p.c1, p.v.ns.length, p.c2, p.v.cs.length, d1, p.v.ns.length, d2, R.i.mem.length, h1, R.i.tb.length, h2, R.an.length, oc], [a, x1, x2, a1, a2, p.a1, p.a2, b1, b2, g1, g2, oa]⟩) (by kernel_rfl) ?_
    obtain ⟨HXc, eH⟩ : ∃ HXc, HXc = ((imX J a1 a2 c2 es).and (vlX p.v b1 b2)).and (exX R g1 g2 h2 es2 oa) := ⟨_, rfl⟩
    refine holds_eq eH.symm ?_
    refine need_k (a.isSome = true ∧ (0 : Int) ≤ k ∧ (k : Int) < xs.length) (by kernel_rfl) hnd ?_
    refine node_ld0 (k := ⟨59, 1, 0, 24, 12⟩) ⟨[p.v.k], [], [], [p.v.cs.length, p.c1, p.v.ns.length, p.c2], [p.a1, p.a2]⟩ (.pointer (some (((a.getD ⟨0, 0, none⟩).add (k * 3)).add 0))) p.cells (by intros; kernel_rfl) (by intros; kernel_rfl) (pv_all H k hp) ⟨by kernel_rfl, oneNil⟩ (by kernel_rfl) oneNil ?_
    refine node_P ⟨[valE p.v], [], [], [], []⟩ #[vlV p.v p.a1 p.c1 p.a2 p.c2] (.int .i64 (valE p.v)) (by intros; kernel_rfl) (by intros; kernel_rfl) (by kernel_rfl) (by kernel_rfl) (by kernel_rfl) oneNil (fun ids w2 hp hf => rchk_any p.v p.a1 p.c1 p.a2 p.c2 w2 (keepV hpm hf)) ?_
    refine br_F (R.e != valE p.v) (by kernel_rfl) (by rw [hRe]; simp) ?_
    by_cases hz : valE p.v = 0
    case' neg =>
      refine br_T (R.e != 0) (by kernel_rfl) (by rw [hRe]; simpa using hz) ?_
      exact again_V ⟨J.ep :: ((k + 1 : Nat) : Int) :: imI J, [], [], [J.mem.length, c1, J.tb.length, c2], [a1, a2]⟩ rfl (fun ids => Eq.trans (b := ⟨J.ep :: IntKind.i64.wrap ((k : Int) + 1) :: imI J, [], [], [J.mem.length, c1, J.tb.length, c2], [a1, a2]⟩) (by kernel_rfl) (by rw [hwk])) (imX J a1 a2 c2 es) (fun w2 ids hf => by
        rw [eH] at hf
        exact ⟨hf.x.1.1, fun j hj => hf.sep j (.inl (.inl hj))⟩) ⟨⟨k + 1, J, a1, c1, a2, c2, es, hlt, hlt6, hJ, by omega, by omega, hes, rfl, rfl⟩, by
        show xs.length - (((k + 1 : Nat) : Int)).toNat < xs.length - ((k : Int)).toNat
        omega⟩
    refine br_F (R.e != 0) (by kernel_rfl) (by rw [hRe, hz]; rfl) ?_
    have ok := exec_ok hJ rfl (by omega) (fun _ => by omega) hz (hxs p hpm).1.n.fits
    rw [← eR] at ok
    refine ⟨fun vs hx => vs = ⟨[R.i.ep], [], [], [], []⟩ ∧ hx = HXc, ?_, ?_⟩
    · refine need_k (a.isSome = true ∧ (0 : Int) ≤ k ∧ (k : Int) < xs.length) (by kernel_rfl) hnd ?_
      refine node_ld0 (k := ⟨61, 1, 0, 28, 14⟩) ⟨[p.v.k], [], [], [], []⟩ (.pointer (some (((a.getD ⟨0, 0, none⟩).add (k * 3)).add 0))) [.int .i64 p.v.k] (by intros; kernel_rfl) (by intros; kernel_rfl) (pv_one H k 0 _ hp rfl) ⟨by kernel_rfl, oneNil⟩ (by kernel_rfl) oneNil ?_
      by_cases k2 : p.v.k = 2
      · refine br_T (p.v.k == 2) (by kernel_rfl) (by simpa using k2) ?_
        refine need_k (a.isSome = true ∧ (0 : Int) ≤ k ∧ (k : Int) < xs.length) (by kernel_rfl) hnd ?_
        refine node_ld0 (k := ⟨62, 1, 0, 28, 14⟩) ⟨[], [], [], [p.v.ns.length, p.c2], [p.a2]⟩ (.pointer (some (((a.getD ⟨0, 0, none⟩).add (k * 3)).add 2))) [.slice p.a2 p.v.ns.length p.c2] (by intros; kernel_rfl) (by intros; kernel_rfl) (pv_one H k 2 _ hp rfl) ⟨by kernel_rfl, oneNil⟩ (by kernel_rfl) oneNil ?_
        have hmm : R.i.mem = p.v.ns := by rw [ok.mem, if_pos k2]
        refine node_P ⟨[], [decide (R.i.mem = p.v.ns)], [], [], []⟩ #[.slice g1 R.i.mem.length h1, .slice p.a2 p.v.ns.length p.c2] (.bool (decide (R.i.mem = p.v.ns))) (by intros; kernel_rfl) (by intros; kernel_rfl) (by kernel_rfl) (by kernel_rfl) (by kernel_rfl) oneNil (fun ids w2 hp hf => by
          have hv := (keepV hpm hf)
          rw [eH] at hf
          exact intsB_any g1 h1 R.i.mem p.a2 p.c2 p.v.ns w2 (ok.ok.fit.at_ hm2 hf.x.2.1).mem hv.n (by have := ok.ok.1.fit.1; omega)) ?_
        refine br_F (!(decide (R.i.mem = p.v.ns))) (by kernel_rfl) (by rw [hmm]; simp) ?_
        exact again_V ⟨[R.i.ep], [], [], [], []⟩ rfl (fun ids => Eq.trans (b := ⟨[IntKind.i64.wrap (J.ep + 1)], [], [], [], []⟩) (by kernel_rfl) (by rw [wrap_i64 (by omega), ok.ep, if_pos k2])) HXc (fun w2 ids hf => ⟨hf.x, hf.sep⟩) ⟨rfl, rfl⟩
      · refine br_F (p.v.k == 2) (by kernel_rfl) (by simpa using k2) ?_
        have hmm : R.i.mem = J.mem := by rw [ok.mem, if_neg k2]
        refine node_P ⟨[], [decide (R.i.mem = J.mem)], [], [], []⟩ #[.slice g1 R.i.mem.length h1, .slice a1 J.mem.length c1] (.bool (decide (R.i.mem = J.mem))) (by intros; kernel_rfl) (by intros; kernel_rfl) (by kernel_rfl) (by kernel_rfl) (by kernel_rfl) oneNil (fun ids w2 hp hf => by
          rw [eH] at hf
          exact intsB_any g1 h1 R.i.mem a1 c1 J.mem w2 (ok.ok.fit.at_ hm2 hf.x.2.1).mem (hJ.fit.at_ hes hf.x.1.1).mem (by have := ok.ok.1.fit.1; omega)) ?_
        refine br_F (!(decide (R.i.mem = J.mem))) (by kernel_rfl) (by rw [hmm]; simp) ?_
        exact again_V ⟨[R.i.ep], [], [], [], []⟩ rfl (fun ids => Eq.trans (b := ⟨[J.ep], [], [], [], []⟩) (by kernel_rfl) (by rw [ok.ep, if_neg k2])) HXc (fun w2 ids hf => ⟨hf.x, hf.sep⟩) ⟨rfl, rfl⟩
    rintro vs hx' hcnt2 ⟨rfl, rfl⟩
    refine ⟨fun vs hx => vs = ⟨[], [], [], [], []⟩ ∧ hx = hx', ?_, ?_⟩
    · refine need_k (a.isSome = true ∧ (0 : Int) ≤ k ∧ (k : Int) < xs.length) (by kernel_rfl) hnd ?_
      refine node_ld0 (k := ⟨62, 1, 0, 28, 14⟩) ⟨[p.v.k], [], [], [], []⟩ (.pointer (some (((a.getD ⟨0, 0, none⟩).add (k * 3)).add 0))) [.int .i64 p.v.k] (by intros; kernel_rfl) (by intros; kernel_rfl) (pv_one H k 0 _ hp rfl) ⟨by kernel_rfl, oneNil⟩ (by kernel_rfl) oneNil ?_
      by_cases k1 : p.v.k = 1
      · refine br_F (p.v.k != 1) (by kernel_rfl) (by simpa using k1) ?_
        exact again_V ⟨[], [], [], [], []⟩ rfl (by intros; kernel_rfl) hx' (fun w2 ids hf => ⟨hf.x, hf.sep⟩) ⟨rfl, rfl⟩
      · refine br_T (p.v.k != 1) (by kernel_rfl) (by simpa using k1) ?_
        have hcs : p.v.cs = [] := by rcases valE_zero hz with q | q | q <;> first | exact q.2.1 | omega
        have hal : R.an.length = 0 := by rw [ok.len, hcs]; rfl
        obtain ⟨hr1, hr2⟩ := ok.rest hcs
        refine br_F ((R.an.length : Int) != 0) (by kernel_rfl) (by rw [hal]; rfl) ?_
        refine node_P ⟨[], [true], [], [], []⟩ #[imV ⟨J.ep, J.mem, J.sl, R.i.regs, R.i.tb⟩ a1 c1 g2 h2, imV J a1 c1 a2 c2] (.bool true) (by intros; kernel_rfl) (by intros; kernel_rfl) (by kernel_rfl) (by kernel_rfl) (by kernel_rfl) oneNil (fun ids w2 hp hf => by
          rw [eH] at hf
          rw [hr1, hr2]
          have A1 := hJ.fit.at_ hes hf.x.1.1
          have A2 := ok.ok.fit.at_ hm2 hf.x.2.1
          exact rsame20_any J a1 c1 g2 h2 es2 a1 c1 a2 c2 es w2 ⟨by rw [hm2, hr2], A1.mem, A2.tab, hJ.2.1⟩ A1 (by have := hJ.1.fit.1; omega) (by rw [es_len hm2]; have := ok.ok.1.fit.2; omega) (fun e he => by
            have := (ok.ok.1.tb.each e.s (by rw [← hm2]; exact List.mem_map_of_mem he)).len; omega)) ?_
        refine br_F (!true) (by kernel_rfl) rfl ?_
        exact again_V ⟨[], [], [], [], []⟩ rfl (by intros; kernel_rfl) hx' (fun w2 ids hf => ⟨hf.x, hf.sep⟩) ⟨rfl, rfl⟩
    rintro vs hx'' hcnt3 ⟨rfl, rfl⟩
    refine br_F (R.i.ep != R.i.ep) (by kernel_rfl) (by simp) ?_
    refine br_F (R.i.sl != IntKind.i64.wrap (J.sl + 1)) (by kernel_rfl) (by rw [hws, ok.sl]; simp) ?_
    exact again_V ⟨R.i.ep :: ((k + 1 : Nat) : Int) :: imI R.i, [], [], [R.i.mem.length, h1, R.i.tb.length, h2], [g1, g2]⟩ rfl (fun ids => Eq.trans (b := ⟨R.i.ep :: IntKind.i64.wrap ((k : Int) + 1) :: imI R.i, [], [], [R.i.mem.length, h1, R.i.tb.length, h2], [g1, g2]⟩) (by kernel_rfl) (by rw [hwk])) (imX R.i g1 g2 h2 es2) (fun w2 ids hf => by
      rw [eH] at hf
      exact ⟨hf.x.2.1, fun j hj => hf.sep j (.inr (.inl hj))⟩) ⟨⟨k + 1, R.i, g1, h1, g2, h2, es2, hlt, hlt6, ok.ok, by rw [ok.sl]; omega, by rw [ok.ep]; split <;> omega, hm2, rfl, rfl⟩, by
      show xs.length - (((k + 1 : Nat) : Int)).toNat < xs.length - ((k : Int)).toNat
      omega⟩
theorem stops20_args (a : Option Addr) (cap : Nat) (ds : List Dat) (w : World) (hC : Cells w a (Dat.cellsAll ds)) (hds : ∀ d ∈ ds, d.In Try.prog w 37) (hl : ds.length ≤ 9223372036854775807) (hb : ds.length * Try.prog.bytesOf 37 ≤ reachBytes) :
    Calls Try.prog 5 #[.slice a ds.length cap] w fun e w' => e = .returned (.bool true) ∧ Below w.heap.size w w' := by
  obtain ⟨xs, e1, e2, hxs⟩ := opn_pvs ds hds
  rw [e2] at hC
  rw [← e1]
  exact stops20_walk a cap xs w hC hxs
end Go.Proofs.Ytfjiolgdcphjhaa
