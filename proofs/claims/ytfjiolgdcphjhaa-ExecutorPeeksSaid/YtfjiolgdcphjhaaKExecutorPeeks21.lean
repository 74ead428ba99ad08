/- Part 21 of the texts of a proof about the given program: what the statement's proof needs of them. -/
import Derived.Test.YtfjiolgdcphjhaaKExecutorPeeks20
namespace Go.Proofs.Ytfjiolgdcphjhaa
open Go.ChangeShapes Go.WideShapes Go.ChangeAt Go.RowKit Go.Syn Go.Eng
set_option linter.unusedVariables false
set_option linter.unusedSimpArgs false
set_option maxRecDepth 100000
structure PkR where
  k : Int
  re : Int
  im : Int
  ok : Bool
def peekV (I : Im) (c : CmD) : PkR :=
  if validI I = false ∨ cmdV c ≠ 0 ∨ c.op.kind ≠ 1 then ⟨0, 0, 0, false⟩ else
  if (askV I.tb c.sess c.seq c.ack).d then ⟨(askV I.tb c.sess c.seq c.ack).k, (askV I.tb c.sess c.seq c.ack).re, (askV I.tb c.sess c.seq c.ack).im, true⟩
  else ⟨(applyM I.regs c.op).2.1, (applyM I.regs c.op).2.2.1, (applyM I.regs c.op).2.2.2, true⟩
def pkRet (R : PkR) : Value := .tuple #[.agg #[.int .i64 R.k, .int .i64 R.re, .int .i64 R.im], .bool R.ok]
theorem xpeek_any (I : Im) (a1 : Option Addr) (c1 : Nat) (a2 : Option Addr) (c2 : Nat) (es : List SE) (c : CmD) (w : World) (H : ImAt w I a1 a2 es) (hl : es.length ≤ 4611686018427387904) : Calls Try.prog 22 #[imV I a1 c1 a2 c2, .agg c.cells.toArray] w (PureAt w (pkRet (peekV I c))) := by
  refine calls_at (tab_ok _) Try.func22 rfl tXPeek (ρ := ⟨imI I ++ c.is, [], [], [I.mem.length, c1, I.tb.length, c2], [a1, a2]⟩) (ids := []) (hx := HX.nil) (by kernel_rfl) (Facts.initP rfl oneNil) ?_
  obtain ⟨R, eR⟩ : ∃ R, R = peekV I c := ⟨_, rfl⟩
  rw [← eR]
  unfold peekV at eR
  have keep : ∀ {m : Mem} {ρ : Env} {ids : List Nat} {hx : HX} {w2 : World} {R : Ending → World → Prop}, Facts ⟨Try.prog, w, fun _ => False, R⟩ m ρ ids hx w2 → ImAt w2 I a1 a2 es := fun hf => H.keep (fun k hk => hf.chg.block k hk (fun q => q))
  refine node_P ⟨[], [validI I], [], [], []⟩ #[imV I a1 c1 a2 c2] (.bool (validI I)) (by intros; kernel_rfl) (by intros; kernel_rfl) (by kernel_rfl) (by kernel_rfl) (by kernel_rfl) oneNil (fun ids w2 hp hf => xvalid_any I a1 c1 a2 c2 es w2 (keep hf) hl) ?_
  rcases Bool.eq_false_or_eq_true (validI I) with hv | hv
  case' inr =>
    rw [if_pos (.inl hv)] at eR
    subst eR
    exact br_T (!validI I) (by kernel_rfl) (by rw [hv]; rfl) (pure_done (by intros; kernel_rfl))
  refine br_F (!validI I) (by kernel_rfl) (by rw [hv]; rfl) ?_
  have hI := (validI_iff I).1 hv
  refine node_P ⟨[cmdV c], [], [], [], []⟩ #[.agg c.cells.toArray] (.int .i64 (cmdV c)) (by intros; kernel_rfl) (by intros; kernel_rfl) (by kernel_rfl) (by kernel_rfl) (by kernel_rfl) oneNil (fun ids w2 hp hf => cmd_any c w2) ?_
  by_cases hc : cmdV c = 0
  case' neg =>
    rw [if_pos (.inr (.inl hc))] at eR
    subst eR
    exact br_T (cmdV c != 0) (by kernel_rfl) (by simpa using hc) (pure_done (by intros; kernel_rfl))
  refine br_F (cmdV c != 0) (by kernel_rfl) (by rw [hc]; rfl) ?_
  refine node_P ⟨[], [c.op.kind == 1], [], [], []⟩ #[.agg c.op.cells.toArray] (.bool (c.op.kind == 1)) (by intros; kernel_rfl) (by intros; kernel_rfl) (by kernel_rfl) (by kernel_rfl) (by kernel_rfl) oneNil (fun ids w2 hp hf => reads_any c.op w2) ?_
  by_cases hk : c.op.kind = 1
  case' neg =>
    rw [if_pos (.inr (.inr hk))] at eR
    subst eR
    exact br_T (!(c.op.kind == 1)) (by kernel_rfl) (by simpa using hk) (pure_done (by intros; kernel_rfl))
  refine br_F (!(c.op.kind == 1)) (by kernel_rfl) (by simpa using hk) ?_
  rw [if_neg (by rw [hv]; simp [hc, hk])] at eR
  obtain ⟨A, eA⟩ : ∃ A, A = askV I.tb c.sess c.seq c.ack := ⟨_, rfl⟩
  rw [← eA] at eR
  refine node_tb (V := askRet A.k A.re A.im A.d) (tb := A.t) (fun _ => #[.slice a2 I.tb.length c2, cmdC c.sess c.seq c.ack c.op.kind c.op.reg c.op.tg c.op.re c.op.im]) (fun a' c' => ⟨[A.k, A.re, A.im], [A.d], [], [A.t.length, c'], [a']⟩) (by intros; kernel_rfl) (fun ids w2 hp hf => by
    have := task_any a2 c2 es c.sess c.seq c.ack c.op.kind c.op.reg c.op.tg c.op.re c.op.im w2 (keep hf).tab (by rw [H.tb]; exact hI.tb.ok)
    rw [H.tb, ← eA, H.len] at this
    exact this) (by intros; kernel_rfl) (by kernel_rfl) (by kernel_rfl) (by intros; kernel_rfl) (fun _ _ => oneNil) ?_
  intro a' c' es' hm' hdj' hsm' hn'
  rcases Bool.eq_false_or_eq_true A.d with hd | hd
  · refine br_F (!A.d) (by kernel_rfl) (by rw [hd]; rfl) ?_
    rw [if_pos hd] at eR
    subst eR
    exact pure_done (by intros; kernel_rfl)
  · refine br_T (!A.d) (by kernel_rfl) (by rw [hd]; rfl) ?_
    rw [if_neg (by rw [hd]; decide)] at eR
    obtain ⟨p, ep⟩ : ∃ p, p = applyM I.regs c.op := ⟨_, rfl⟩
    rw [← ep] at eR
    have hpl : p.1.length = 16 := by rw [ep]; exact (applyM_len _ _).trans H.reg
    refine node_P ⟨rgs p.1 ++ [p.2.1, p.2.2.1, p.2.2.2], [], [], [], []⟩ #[.agg ((rgs I.regs).map (Value.int .i64)).toArray, .agg c.op.cells.toArray] (resV p) (by intros; kernel_rfl) (fun ids => Eq.trans (b := resV (rgs p.1, p.2)) (by kernel_rfl) (by unfold resV; rw [rgs_of hpl])) (by kernel_rfl) (by kernel_rfl) (by kernel_rfl) oneNil (fun ids w2 hp hf => by
      have := apply_any (rgs I.regs) rfl c.op w2
      rw [rgs_of H.reg] at this ⊢
      rw [ep]; exact this) ?_
    subst eR
    exact pure_done (by intros; kernel_rfl)
theorem peek_run {I : Im} (hI : VI I) {c : CmD} (hc : cmdV c = 0) (hk : c.op.kind = 1) (hs : I.sl < 1099511627776) : (execV I (I.sl + 1) ⟨1, [c], []⟩).e = 0 ∧ (execV I (I.sl + 1) ⟨1, [c], []⟩).an = [⟨c.sess, c.seq, (peekV I c).k, (peekV I c).re, (peekV I c).im⟩] ∧ (peekV I c).ok = true := by
  have hz : valE ⟨1, [c], []⟩ = 0 := by
    unfold valE firstE
    simp [hc, firstE]
  rw [exec_eq hI rfl (by omega) (fun q => by cases q), if_neg (fun q => q hz)]
  have hp : peekV I c = if (askV I.tb c.sess c.seq c.ack).d then ⟨(askV I.tb c.sess c.seq c.ack).k, (askV I.tb c.sess c.seq c.ack).re, (askV I.tb c.sess c.seq c.ack).im, true⟩ else ⟨(applyM I.regs c.op).2.1, (applyM I.regs c.op).2.2.1, (applyM I.regs c.op).2.2.2, true⟩ := by
    unfold peekV
    rw [if_neg (by rw [(validI_iff I).2 hI]; simp [hc, hk])]
  refine ⟨rfl, ?_, ?_⟩
  · show [(⟨c.sess, c.seq, (runV (goI I (I.sl + 1) ⟨1, [c], []⟩) c).k, (runV (goI I (I.sl + 1) ⟨1, [c], []⟩) c).re, (runV (goI I (I.sl + 1) ⟨1, [c], []⟩) c).im⟩ : AnD)] = _
    rw [hp]
    have hg : goI I (I.sl + 1) ⟨1, [c], []⟩ = ⟨I.ep, I.mem, I.sl + 1, I.regs, I.tb⟩ := rfl
    rw [hg]
    unfold runV
    dsimp only
    split <;> rfl
  · rw [hp]; split <;> rfl
def irow (a : Option Addr) (c : Nat) (M : List Int) : HX := HX.rw 1 3 a M.length c (M.map (Value.int .i64))
def ImRow (w : World) (I : Im) (e : Ending) (w' : World) : Prop := ∃ a1 c1 a2 c2 es, es.map SE.s = I.tb ∧ e = .returned (imV I a1 c1 a2 c2) ∧ (∀ q, (tabR a2 c2 es).F q → w.heap.size ≤ q ∧ ¬ (irow a1 c1 I.mem).F q) ∧ (∀ q, (irow a1 c1 I.mem).F q → w.heap.size ≤ q) ∧ ((tabR a2 c2 es).and (irow a1 c1 I.mem)).X w' ∧ Below w.heap.size w w'
theorem rcopy20r_any (I : Im) (a1 : Option Addr) (c1 : Nat) (a2 : Option Addr) (c2 : Nat) (es : List SE) (w : World) (H : ImAt w I a1 a2 es) (B : ImBig I) : Calls Try.prog 10 #[imV I a1 c1 a2 c2] w (ImRow w I) := by
  refine calls_at (tab_ok _) Try.func10 rfl tXRCopy (ρ := ⟨imI I, [], [], [I.mem.length, c1, I.tb.length, c2], [a1, a2]⟩) (ids := []) (hx := HX.nil) (by kernel_rfl) (Facts.initP rfl oneNil) ?_
  have keep : ∀ {m : Mem} {ρ : Env} {ids : List Nat} {hx : HX} {w2 : World} {R : Ending → World → Prop}, Facts ⟨Try.prog, w, fun _ => False, R⟩ m ρ ids hx w2 → ImAt w2 I a1 a2 es := fun hf => H.keep (fun k hk => hf.chg.block k hk (fun q => q))
  have bl := B.len
  refine node_clones (sz := 1) (z := .int .i64 0) (bytes := 8) rfl Try.underlying22 info_int1 rfl (by decide) 2 rfl (fun _ => a1) I.mem.length c1 (I.mem.map (Value.int .i64)) (by simp) (fun ids w2 hp hf => (keep hf).mem.cells) (fun u hu => by obtain ⟨x, _, rfl⟩ := List.mem_map.1 hu; rfl) (by simp only [maxLen]; omega) (by omega) (by intros; kernel_rfl) (by intros; kernel_rfl) (by intros; kernel_rfl) (by kernel_rfl) (by kernel_rfl) (by intros; kernel_rfl) ?_
  intro b1 d1 hn1
  refine node_tb (V := id) (tb := I.tb) (fun _ => #[.slice a2 I.tb.length c2]) (fun a' c' => ⟨[], [], [], [I.tb.length, c'], [a']⟩) (by intros; kernel_rfl) (fun ids w2 hp hf => by
    have := rcopy_any a2 c2 es w2 (keep hf).tab (by rw [H.len]; exact B.tb) (B.kept' H.tb)
    rw [H.tb, H.len] at this; exact this) (by intros; kernel_rfl) (by kernel_rfl) (by kernel_rfl) (by intros; kernel_rfl) (fun _ _ => oneNil) ?_
  intro b2 d2 es2 hm hdj hsm hn2
  intro ids w2 hp hf
  exact ⟨b1, d1, b2, d2, es2, hm, by kernel_rfl, fun q hq => ⟨(hn2 q hq).1, fun z => (hn2 q hq).2 (.inr z)⟩, fun q hq => (hn1 q hq.1 hq.2).1, ⟨hf.x.2, hf.x.1.2⟩, hf.chg.below⟩
section
variable {C : Cfg} {ρ : Env} {pre : List Nat} {hx : HX} {L : Stack} {m m' : Mem} {args : List SV} {r : SV} {t : Tree}
theorem node_imr {f : Nat} {I : Im} (AS : List Nat → Array Value) (hargs : ∀ ids, (args.map (SV.den ρ ids)).toArray = AS ids) (hcall : ∀ ids w, pre <+: ids → Facts C m ρ ids hx w → Calls C.P f (AS ids) w (ImRow w I))
    (hr : ∀ a1 c1 a2 c2 ids, r.den (ρ.add ⟨imI I, [], [], [I.mem.length, c1, I.tb.length, c2], [a1, a2]⟩) ids = imV I a1 c1 a2 c2) (hhp : m'.hp = m.hp) (hfit : hpFits m.c m.hp.length m.hp = true) (hc : ∀ a1 c1 a2 c2, (ρ.add ⟨imI I, [], [], [I.mem.length, c1, I.tb.length, c2], [a1, a2]⟩).cnt = m'.c)
    (h : ∀ a1 c1 a2 c2 es, es.map SE.s = I.tb → (I.mem ≠ [] → a1.isSome = true) → (∀ q, (tabR a2 c2 es).F q → C.W.heap.size ≤ q ∧ ¬ hx.F q ∧ ¬ (irow a1 c1 I.mem).F q) → (∀ q, (irow a1 c1 I.mem).F q → C.W.heap.size ≤ q ∧ ¬ hx.F q) → t.holds C (ρ.add ⟨imI I, [], [], [I.mem.length, c1, I.tb.length, c2], [a1, a2]⟩) pre (hx.and ((tabR a2 c2 es).and (irow a1 c1 I.mem))) L) : (Tree.call f args m r m' t).holds C ρ pre hx L := by
  refine node_out AS (fun u hy => ∃ a1 c1 a2 c2 es, es.map SE.s = I.tb ∧ (I.mem ≠ [] → a1.isSome = true) ∧ (∀ q, (tabR a2 c2 es).F q → ¬ (irow a1 c1 I.mem).F q) ∧ u = ⟨imI I, [], [], [I.mem.length, c1, I.tb.length, c2], [a1, a2]⟩ ∧ hy = (tabR a2 c2 es).and (irow a1 c1 I.mem)) hargs (fun ids w hp hf => ?_) hhp hfit ?_ ?_
  · refine (hcall ids w hp hf).mono ?_
    rintro e w' ⟨a1, c1, a2, c2, es, h1, rfl, h2, h3, hX, hb⟩
    exact ⟨_, _, ⟨a1, c1, a2, c2, es, h1, fun q => rw_sm hX.2 (fun z => q (List.map_eq_nil_iff.1 z)), fun q hq => (h2 q hq).2, rfl, rfl⟩, by rw [hr], hX, fun k hk => hk.elim (fun z => ⟨(h2 k z).1, tabR_lt hX.1 k z⟩) (fun z => ⟨h3 k z, rw_ltx hX.2 z.1 z.2⟩), hb⟩
  · rintro u hy ⟨a1, c1, a2, c2, es, _, _, _, rfl, rfl⟩
    exact ⟨hc _ _ _ _, oneNil⟩
  · rintro u hy ⟨a1, c1, a2, c2, es, q1, q2, q3, rfl, rfl⟩ hfr
    exact h a1 c1 a2 c2 es q1 q2 (fun q hq => ⟨(hfr q (.inl hq)).1, (hfr q (.inl hq)).2, q3 q hq⟩) (fun q hq => hfr q (.inr hq))
end
def hk1 : Im := ⟨0, [1], 0, im0.regs, []⟩
def hkc : CmD := ⟨1, 1, 0, ⟨1, 0, 0, 0, 0⟩⟩
theorem hk1_fit : ImFit hk1 := ⟨(by unfold hk1 I64; decide), by decide, rfl⟩
theorem hk1_peek : peekV hk1 hkc = ⟨1, 0, 0, true⟩ := by kernel_rfl
def PkI (REST : HX) (a : Option Addr) (c n : Nat) (vs : Vals) (hx : HX) : Prop := ∃ (k : Nat) (ys : List Int), k ≤ n ∧ ys.length = n ∧ vs = ⟨[(k : Int)], [], [], [], []⟩ ∧ hx = REST.and (HX.rw 1 3 a n c (ys.map (Value.int .i64)))
set_option maxHeartbeats 4000000 in
theorem peeks20_walk (I : Im) (a1 : Option Addr) (c1 : Nat) (a2 : Option Addr) (c2 : Nat) (es0 : List SE) (c : CmD) (w : World) (H0 : ImAt w I a1 a2 es0) (B : ImBig I) (hcf : CmFit c) : Calls Try.prog 6 #[imV I a1 c1 a2 c2, .agg c.cells.toArray] w (PureAt w (.bool true)) := by
  refine calls_at (tab_ok _) Try.func6 rfl tXPeeks (ρ := ⟨imI I ++ c.is, [], [], [I.mem.length, c1, I.tb.length, c2], [a1, a2]⟩) (ids := []) (hx := HX.nil) (by kernel_rfl) (Facts.initP rfl oneNil) ?_
  have keep0 : ∀ {m : Mem} {ρ : Env} {ids : List Nat} {hx : HX} {w2 : World} {R : Ending → World → Prop}, Facts ⟨Try.prog, w, fun _ => False, R⟩ m ρ ids hx w2 → ImAt w2 I a1 a2 es0 := fun hf => H0.keep (fun k hk => hf.chg.block k hk (fun q => q))
  have btb := B.tb
  have bl := B.len
  have hl0 := H0.len
  refine node_P ⟨[], [true], [], [], []⟩ #[] (.bool true) (by intros; kernel_rfl) (by intros; kernel_rfl) (by kernel_rfl) (by kernel_rfl) (by kernel_rfl) oneNil (fun ids w2 hp hf => head20_any w2) ?_
  refine br_f (by kernel_rfl) ?_
  refine node_im (V := id) (I := hk1) (fun ids => #[.slice (some ⟨idAt ids 2, 0, none⟩) 1 1]) (fun x1 y1 x2 y2 => ⟨imI hk1, [], [], [1, y1, 0, y2], [x1, x2]⟩) (by intros; kernel_rfl) (fun ids w2 hp hf => xfirst_any _ 1 [1] w2 (ints_blk hf 2 3 [.int .i64 (.lit 1)] [1] rfl (by kernel_rfl) (by decide) (by unfold I64; decide)) (by decide)) (by intros; kernel_rfl) (by kernel_rfl) (by kernel_rfl) (by intros; kernel_rfl) (fun _ _ _ _ => oneNil) ?_
  intro x1 y1 x2 y2 fs hfs hdjf hsmf hadf hnf
  refine node_P ⟨[1, 0, 0], [true], [], [], []⟩ #[imV hk1 x1 y1 x2 y2, .agg hkc.cells.toArray] (pkRet ⟨1, 0, 0, true⟩) (by intros; kernel_rfl) (by intros; kernel_rfl) (by kernel_rfl) (by kernel_rfl) (by kernel_rfl) oneNil (fun ids w2 hp hf => hk1_peek ▸ xpeek_any hk1 x1 y1 x2 y2 fs hkc w2 (hk1_fit.at_ hfs hf.x.2) (by rw [es_len hfs]; decide)) ?_
  refine br_f (by kernel_rfl) ?_
  refine br_f (by kernel_rfl) ?_
  refine node_imr (I := I) (fun _ => #[imV I a1 c1 a2 c2]) (by intros; kernel_rfl) (fun ids w2 hp hf => rcopy20r_any I a1 c1 a2 c2 es0 w2 (keep0 hf) B) (by intros; kernel_rfl) (by kernel_rfl) (by kernel_rfl) (by intros; kernel_rfl) ?_
  intro p1 q1 p2 q2 es hes hps htb hrw
  have hesl : es.length = I.tb.length := by rw [← hes, List.length_map]
  have atO : ∀ {w2 : World} , ((tabR p2 q2 es).and (irow p1 q1 I.mem)).X w2 → ImAt w2 I p1 p2 es := fun h => ⟨hes, Ints.of_cells (by omega) B.mem (rw_cells h.2), tabR_at h.1, B.reg⟩
  obtain ⟨Q, eQ⟩ : ∃ Q, Q = peekV I c := ⟨_, rfl⟩
  refine node_P ⟨[Q.k, Q.re, Q.im], [Q.ok], [], [], []⟩ #[imV I p1 q1 p2 q2, .agg c.cells.toArray] (pkRet Q) (by intros; kernel_rfl) (by intros; kernel_rfl) (by kernel_rfl) (by kernel_rfl) (by kernel_rfl) oneNil (fun ids w2 hp hf => eQ ▸ xpeek_any I p1 q1 p2 q2 es c w2 (atO hf.x.2) (by omega)) ?_
  refine node_P ⟨[], [true], [], [], []⟩ #[imV I p1 q1 p2 q2, imV I a1 c1 a2 c2] (.bool true) (by intros; kernel_rfl) (by intros; kernel_rfl) (by kernel_rfl) (by kernel_rfl) (by kernel_rfl) oneNil (fun ids w2 hp hf => rsame20_any I p1 q1 p2 q2 es a1 c1 a2 c2 es0 w2 (atO hf.x.2) (keep0 hf) (by omega) (by omega) (fun e he => by have := B.kept' hes e he; omega)) ?_
  refine br_f (by kernel_rfl) ?_
  refine node_P ⟨[], [validI I], [], [], []⟩ #[imV I a1 c1 a2 c2] (.bool (validI I)) (by intros; kernel_rfl) (by intros; kernel_rfl) (by kernel_rfl) (by kernel_rfl) (by kernel_rfl) oneNil (fun ids w2 hp hf => rvalid20_any I a1 c1 a2 c2 es0 w2 (keep0 hf)) ?_
  have no : ∀ {L : Stack} {pre : List Nat} {ρ : Env} {hx : HX} {m : Mem} {t : Tree}, Q = ⟨0, 0, 0, false⟩ → (BE.not (.var 2)).den ρ = !Q.ok → (∀ ids, (SV.lf (.bool (.and (.cmp .eql (.var 65) (.lit 0)) (.and (.cmp .eql (.var 66) (.lit 0)) (.cmp .eql (.var 67) (.lit 0)))))).den ρ ids = .bool ((Q.k == 0) && ((Q.re == 0) && (Q.im == 0)))) → (Tree.br (.not (.var 2)) (.done (.lf (.bool (.and (.cmp .eql (.var 65) (.lit 0)) (.and (.cmp .eql (.var 66) (.lit 0)) (.cmp .eql (.var 67) (.lit 0)))))) m) t).holds ⟨Try.prog, w, fun _ => False, PureAt w (.bool true)⟩ ρ pre hx L := fun hQ h1 h2 =>
    br_T (!Q.ok) h1 (by rw [hQ]; rfl) (pure_done (fun ids => (h2 ids).trans (by rw [hQ]; rfl)))
  rcases Bool.eq_false_or_eq_true (validI I) with hv | hv
  case' inr => exact br_T (!validI I) (by kernel_rfl) (by rw [hv]; rfl) (no (by rw [eQ]; unfold peekV; rw [if_pos (.inl hv)]) (by kernel_rfl) (by intros; kernel_rfl))
  refine br_F (!validI I) (by kernel_rfl) (by rw [hv]; rfl) ?_
  have hI := (validI_iff I).1 hv
  refine node_P ⟨[cmdV c], [], [], [], []⟩ #[.agg c.cells.toArray] (.int .i64 (cmdV c)) (by intros; kernel_rfl) (by intros; kernel_rfl) (by kernel_rfl) (by kernel_rfl) (by kernel_rfl) oneNil (fun ids w2 hp hf => rcmd_any c w2) ?_
  by_cases hc : cmdV c = 0
  case' neg => exact br_T (cmdV c != 0) (by kernel_rfl) (by simpa using hc) (no (by rw [eQ]; unfold peekV; rw [if_pos (.inr (.inl hc))]) (by kernel_rfl) (by intros; kernel_rfl))
  refine br_F (cmdV c != 0) (by kernel_rfl) (by rw [hc]; rfl) ?_
  by_cases hk : c.op.kind = 1
  case' neg => exact br_T (c.op.kind != 1) (by kernel_rfl) (by simpa using hk) (no (by rw [eQ]; unfold peekV; rw [if_pos (.inr (.inr hk))]) (by kernel_rfl) (by intros; kernel_rfl))
  refine br_F (c.op.kind != 1) (by kernel_rfl) (by simpa using hk) ?_
  have s0 := hI.sl0
  have hqok : Q.ok = true := by
    rw [eQ]; unfold peekV
    rw [if_neg (by rw [hv]; simp [hc, hk])]
    split <;> rfl
  by_cases hsl : 1099511627776 ≤ I.sl
  · refine br_T (decide (I.sl ≥ 1099511627776)) (by kernel_rfl) (decide_eq_true hsl) ?_
    exact pure_done (fun ids => Eq.trans (b := .bool Q.ok) (by kernel_rfl) (by rw [hqok]))
  refine br_F (decide (I.sl ≥ 1099511627776)) (by kernel_rfl) (decide_eq_false hsl) ?_
  have hws : IntKind.i64.wrap (I.sl + 1) = I.sl + 1 := wrap_i64 (by omega)
  obtain ⟨R, eR⟩ : ∃ R, R = execV I (I.sl + 1) ⟨1, [c], []⟩ := ⟨_, rfl⟩
  obtain ⟨r1, r2, _⟩ := peek_run hI hc hk (by omega)
  rw [← eR] at r1 r2
  rw [← eQ] at r2
  refine holds_env (ρ' := ⟨imI I ++ c.is ++ imI hk1 ++ [1, 0, 0] ++ imI I ++ [Q.k, Q.re, Q.im] ++ [cmdV c], [true, true, Q.ok, true, validI I], [], [I.mem.length, c1, I.tb.length, c2, 1, y1, 0, y2, I.mem.length, q1, I.tb.length, q2], [a1, a2, x1, x2, p1, p2]⟩) (by kernel_rfl) ?_
  refine node_ex (R := R) (fun ids => #[imV I a1 c1 a2 c2, .int .i64 (I.sl + 1), vlV ⟨1, [c], []⟩ (some ⟨idAt ids 6, 0, none⟩) 1 none 0]) (fun ids => Eq.trans (b := #[imV I a1 c1 a2 c2, .int .i64 (IntKind.i64.wrap (I.sl + 1)), vlV ⟨1, [c], []⟩ (some ⟨idAt ids 6, 0, none⟩) 1 none 0]) (by kernel_rfl) (by rw [hws])) (fun ids w2 hp hf => eR ▸ rexec_any I a1 c1 a2 c2 es0 (I.sl + 1) ⟨1, [c], []⟩ (some ⟨idAt ids 6, 0, none⟩) 1 none 0 w2 (keep0 hf) ⟨blk_cells (ty := 52) ((hf.blkAt 6 rfl).trans (by kernel_rfl)), Ints.nil, by simp, by simp⟩ (by unfold I64; omega) (by simp)) (by intros; kernel_rfl) (by kernel_rfl) (by kernel_rfl) (by intros; kernel_rfl) ?_
  intro g1 h1 g2 h2 es2 oa oc hm2 hdj2 hsm2 hso2 hn2
  refine node_im (V := id) (I := I) (fun ids => #[imV I p1 q1 p2 q2]) (fun x1 y1 x2 y2 => ⟨imI I, [], [], [I.mem.length, y1, I.tb.length, y2], [x1, x2]⟩) (by intros; kernel_rfl) (fun ids w2 hp hf => xclone_any I p1 q1 p2 q2 es w2 (atO hf.x.1.2) (by omega) (by have := hI.fit.2; omega) (fun e he => by have := (hI.tb.each e.s (by rw [← hes]; exact List.mem_map_of_mem he)).len; omega)) (by intros; kernel_rfl) (by kernel_rfl) (by kernel_rfl) (by intros; kernel_rfl) (fun _ _ _ _ => oneNil) ?_
  intro m1 n1 m2 n2 es3 hm3 hdj3 hsm3 had3 hn3
  obtain ⟨REST, eREST⟩ : ∃ REST, REST = (((imX hk1 x1 x2 y2 fs).and (tabR p2 q2 es)).and (exX R g1 g2 h2 es2 oa)).and (imX I m1 m2 n2 es3) := ⟨_, rfl⟩
  refine holds_sub _ (hx' := REST.and (irow p1 q1 I.mem)) (fun w2 h => ?_) (fun q hq => ?_) ?_
  · rw [eREST]
    exact ⟨⟨⟨⟨h.1.1.1.2, h.1.1.2.1⟩, h.1.2⟩, h.2⟩, h.1.1.2.2⟩
  · rw [eREST] at hq
    rcases hq with (((hq | hq) | hq) | hq) | hq
    · exact .inl (.inl (.inl (.inr hq)))
    · exact .inl (.inl (.inr (.inl hq)))
    · exact .inl (.inr hq)
    · exact .inr hq
    · exact .inl (.inl (.inr (.inr hq)))
  have hdis : ∀ q, (irow p1 q1 I.mem).F q → ¬ REST.F q := fun q hq z => by
    rw [eREST] at z
    rcases z with ((z | z) | z) | z
    · exact (hrw q hq).2 (.inr z)
    · exact (htb q z).2.2 hq
    · exact (hn2 q z).2 (.inr (.inr hq))
    · exact (hn3 q z).2 (.inl (.inr (.inr hq)))
  refine loop_i (PkI REST p1 q1 I.mem.length) (fun vs => I.mem.length - (vs.i.headD 0).toNat) (fun ids w2 hp hf => ⟨_, ⟨hf.x, hf.sep⟩, 0, I.mem, Nat.zero_le _, rfl, by kernel_rfl, rfl⟩) ?_
  rintro vs hx' hcnt ⟨k, ys, hkn, hyl, rfl, rfl⟩
  refine holds_env (ρ' := ⟨imI I ++ c.is ++ imI hk1 ++ [1, 0, 0] ++ imI I ++ [Q.k, Q.re, Q.im] ++ [cmdV c] ++ imI R.i ++ [R.e] ++ imI I ++ [(k : Int)], [true, true, Q.ok, true, validI I], [], [I.mem.length, c1, I.tb.length, c2, 1, y1, 0, y2, I.mem.length, q1, I.tb.length, q2, R.i.mem.length, h1, R.i.tb.length, h2, R.an.length, oc, I.mem.length, n1, I.tb.length, n2], [a1, a2, x1, x2, p1, p2, g1, g2, oa, m1, m2]⟩) (by kernel_rfl) ?_
  by_cases hlt : k < I.mem.length
  · refine br_T (decide ((k : Int) < (I.mem.length : Int))) (by kernel_rfl) (decide_eq_true (by omega)) ?_
    refine need_k (p1.isSome = true ∧ (0 : Int) ≤ k ∧ (k : Int) < I.mem.length) (by kernel_rfl) ⟨hps (fun q => by rw [q] at hlt; simp at hlt), by omega, by omega⟩ ?_
    refine node_stores (sz := 1) p1 I.mem.length q1 (ys.map (Value.int .i64)) [.int .i64 (-1)] k 0 (.int .i64 (-1)) (by kernel_rfl) (by intros; kernel_rfl) (by intros; kernel_rfl) rfl (by simp [Value.oneCell']) (by simp; omega) (by simp) (fun q h1 h2 => hdis q ⟨h1, h2⟩) (fun q h1 h2 => .inl (hrw q ⟨h1, h2⟩).1) (by kernel_rfl) (by kernel_rfl) (by kernel_rfl) ?_
    have hsp : spl (ys.map (Value.int .i64)) (k * 1 + 0) [.int .i64 (-1)] = (ys.set k (-1)).map (Value.int .i64) := by
      have := set_spl (cur := ys.map (Value.int .i64)) (o := k * 1 + 0) (v := .int .i64 (-1)) (r := []) (by simp; omega)
      rw [← this, spl_nil, List.map_set]; simp
    rw [hsp]
    have hwk : IntKind.i64.wrap ((k : Int) + 1) = ((k + 1 : Nat) : Int) := by rw [wrap_i64 (by omega)]; omega
    refine again_V ⟨[((k + 1 : Nat) : Int)], [], [], [], []⟩ rfl (fun ids => Eq.trans (b := ⟨[IntKind.i64.wrap ((k : Int) + 1)], [], [], [], []⟩) (by kernel_rfl) (by rw [hwk])) _ (fun w2 ids hf => ⟨hf.x, hf.sep⟩) ⟨⟨k + 1, ys.set k (-1), hlt, by simp [hyl], rfl, rfl⟩, ?_⟩
    show I.mem.length - (((k + 1 : Nat) : Int)).toNat < I.mem.length - ((k : Int)).toNat
    omega
  refine br_F (decide ((k : Int) < (I.mem.length : Int))) (by kernel_rfl) (decide_eq_false (by omega)) ?_
  refine br_T (R.e == 0) (by kernel_rfl) (by rw [r1]; rfl) ?_
  refine br_T Q.ok (by kernel_rfl) hqok ?_
  have hal : R.an.length = 1 := by rw [r2]; rfl
  refine need_k (oa.isSome = true ∧ (0 : Int) ≤ 0 ∧ (0 : Int) < R.an.length) (by kernel_rfl) ⟨hso2 (by rw [r2]; simp), by omega, by omega⟩ ?_
  refine node_ldk ⟨[Q.k, Q.re, Q.im], [], [], [], []⟩ (fun _ => .pointer (some (((oa.getD ⟨0, 0, none⟩).add (0 * 5)).add 2))) [.int .i64 Q.k, .int .i64 Q.re, .int .i64 Q.im] (by intros; kernel_rfl) (by intros; kernel_rfl) (fun ids w2 hp hf => by
    have h := hf.x.1
    rw [eREST] at h
    have h2 := h.1.2.2
    rw [r2] at h2
    exact (flat_part an_len h2 (i := 0) rfl (o := 2) [.int .i64 Q.k, .int .i64 Q.re, .int .i64 Q.im] (fun j u hj => by unfold AnD.cells; rw [Nat.add_comm, List.getElem?_cons_succ, List.getElem?_cons_succ]; exact hj) (by simp)).2 _ (fun q => q)) (by kernel_rfl) oneNil ?_
  refine br_T ((Q.k == Q.k) && ((Q.re == Q.re) && (Q.im == Q.im))) (by kernel_rfl) (by simp) ?_
  refine node_P ⟨[], [true], [], [], []⟩ #[imV I m1 n1 m2 n2, imV I a1 c1 a2 c2] (.bool true) (by intros; kernel_rfl) (by intros; kernel_rfl) (by kernel_rfl) (by kernel_rfl) (by kernel_rfl) oneNil (fun ids w2 hp hf => by
    have h := hf.x.1
    rw [eREST] at h
    exact rsame20_any I m1 n1 m2 n2 es3 a1 c1 a2 c2 es0 w2 (B.at_ hm3 (imR_of h.2).1) (keep0 hf) (by omega) (by rw [es_len hm3]; omega) (fun e he => by have := B.kept' hm3 e he; omega)) ?_
  exact pure_done (by intros; kernel_rfl)
theorem im_arg2 {d : Dat} {I : Im} {a1 : Option Addr} {c1 : Nat} {a2 : Option Addr} {c2 : Nat} (h : d.cells = imC I a1 c1 a2 c2) : Value.agg d.cells.toArray = imV I a1 c1 a2 c2 := by rw [h]; rfl
theorem peeks20_args (x y : Dat) (w : World) (hx : x.In Try.prog w 28) (hy : y.In Try.prog w 52) :
    Calls Try.prog 6 #[.agg x.cells.toArray, .agg y.cells.toArray] w fun e w' => e = .returned (.bool true) ∧ Below w.heap.size w w' := by
  obtain ⟨I, a1, c1, a2, c2, es, hc, hat, hbig, _⟩ := opn_im hx
  obtain ⟨c, rfl, hcf⟩ := opn_cmd hy
  rw [im_arg2 hc]
  exact peeks20_walk I a1 c1 a2 c2 es c w hat hbig hcf
end Go.Proofs.Ytfjiolgdcphjhaa
