/- The walk of the law ClientRuns. -/
import Derived.Test.YtedmjckelghpiaaCliWell
namespace Go.Proofs.Ytedmjckelghpiaa
open Go.ChangeShapes Go.WideShapes Go.ChangeAt Go.RowKit Go.Syn Go.Eng
set_option linter.unusedVariables false
set_option linter.unusedSimpArgs false
def CmdD.vals (c : CmdD) : List Int := [c.sess, c.seq, c.ack, c.op.kind, c.op.reg, c.op.tg, c.op.re, c.op.im]
def rAskVs (c : RefD) (o : OpD) : Vals := ⟨(rAsk c o).1.vals ++ CmdD.vals (rAsk c o).2.1 ++ [(rAsk c o).2.2], [(rAsk c o).1.isOpen], [], [], []⟩
def refOf (c : CliD) (op : OpD) : RefD := ⟨c.no, c.seq, c.isOpen, op, c.sent⟩
section
variable {W : World} {M : Nat → Prop} {R : Ending → World → Prop} {ρ : Env} {pre : List Nat} {hx : HX} {L : Stack} {m m' : Mem} {args : List SV} {r : SV} {t : Tree}
theorem node_rAsk (c : RefD) (o : OpD) (hargs : ∀ ids, (args.map (SV.den ρ ids)).toArray = #[.agg c.cells.toArray, .agg o.cells.toArray]) (hr : ∀ ids, r.den (ρ.add (rAskVs c o)) ids = .tuple #[.agg (rAsk c o).1.cells.toArray, .agg (rAsk c o).2.1.cells.toArray, .int .i64 (rAsk c o).2.2])
    (hhp : m'.hp = m.hp) (hfit : hpFits m.c m.hp.length m.hp = true) (hc : (ρ.add (rAskVs c o)).cnt = m'.c) (hs : 0 ≤ c.seq ∧ c.seq ≤ 1099511627776)
    (h : t.holds ⟨Try.prog, W, M, R⟩ (ρ.add (rAskVs c o)) pre hx L) : (Tree.call 12 args m r m' t).holds ⟨Try.prog, W, M, R⟩ ρ pre hx L := by
  refine node_pure _ hhp hfit hc oneNil (fun ids w hp hf => ?_) h
  rw [hargs, hr]
  exact rAsk_any c o w hs
theorem node_rCmd (c : RefD) (hargs : ∀ ids, (args.map (SV.den ρ ids)).toArray = #[.agg c.cells.toArray]) (hr : ∀ ids, r.den (ρ.add ⟨CmdD.vals (rCmd c), [], [], [], []⟩) ids = .agg (rCmd c).cells.toArray)
    (hhp : m'.hp = m.hp) (hfit : hpFits m.c m.hp.length m.hp = true) (hc : (ρ.add ⟨CmdD.vals (rCmd c), [], [], [], []⟩).cnt = m'.c) (hs : 0 ≤ c.seq ∧ c.seq ≤ 1099511627776)
    (h : t.holds ⟨Try.prog, W, M, R⟩ (ρ.add ⟨CmdD.vals (rCmd c), [], [], [], []⟩) pre hx L) : (Tree.call 13 args m r m' t).holds ⟨Try.prog, W, M, R⟩ ρ pre hx L := by
  refine node_pure _ hhp hfit hc oneNil (fun ids w hp hf => ?_) h
  rw [hargs, hr]
  exact rCmd_any c w hs
theorem node_rGot (c : RefD) (a : AnsD) (hargs : ∀ ids, (args.map (SV.den ρ ids)).toArray = #[.agg c.cells.toArray, .agg a.cells.toArray]) (hr : ∀ ids, r.den (ρ.add ⟨[], [rGot c a], [], [], []⟩) ids = .bool (rGot c a))
    (hhp : m'.hp = m.hp) (hfit : hpFits m.c m.hp.length m.hp = true) (hc : (ρ.add ⟨[], [rGot c a], [], [], []⟩).cnt = m'.c)
    (h : t.holds ⟨Try.prog, W, M, R⟩ (ρ.add ⟨[], [rGot c a], [], [], []⟩) pre hx L) : (Tree.call 14 args m r m' t).holds ⟨Try.prog, W, M, R⟩ ρ pre hx L := by
  refine node_pure _ hhp hfit hc oneNil (fun ids w hp hf => ?_) h
  rw [hargs, hr]
  exact rGot_any c a w
end
/-- The client and the reference, side by side behind k steps. -/
structure Side (no : Int) (k : Nat) (c : CliD) (op : OpD) : Prop where
  no_ : c.no = no
  s0 : 0 ≤ c.seq
  s1 : c.seq ≤ k
  t0 : 0 ≤ c.sent
  t1 : c.sent ≤ k
  cmd : c.isOpen = true → c.cmd = ⟨c.no, c.seq, c.seq - 1, op⟩
def sideVs (c : CliD) (op : OpD) : List Int := c.vals ++ (refOf c op).vals
def RunsI (no : Int) (n : Nat) (vs : Vals) (hx : HX) : Prop :=
  ∃ (c : CliD) (op : OpD) (k : Nat), k ≤ n ∧ k ≤ 80 ∧ Side no k c op ∧ vs = ⟨[(k : Int)] ++ sideVs c op, [c.isOpen, c.isOpen], [], [], []⟩ ∧ hx = HX.nil
def RunsJ (no : Int) (k : Nat) (vs : Vals) (hx : HX) : Prop :=
  ∃ (c : CliD) (op : OpD), Side no k c op ∧ vs = ⟨sideVs c op, [c.isOpen, c.isOpen], [], [], []⟩ ∧ hx = HX.nil
theorem rAsk_ok {c : CliD} {op o : OpD} (h : askE c o = 0) : rAsk (refOf c op) o = (⟨c.no, c.seq + 1, true, o, 0⟩, ⟨c.no, c.seq + 1, c.seq, o⟩, 0) := by
  obtain ⟨h1, h2, h3⟩ := askE_zero h
  have hn : ¬ (c.seq = 1099511627776) := by omega
  simp [rAsk, refOf, h3, h1, hn]
theorem rAsk_no {c : CliD} {op o : OpD} (h : askE c o ≠ 0) (hs : c.seq ≤ 1099511627776) : rAsk (refOf c op) o = (refOf c op, cmd0, askE c o) := by
  unfold askE at h ⊢
  simp only [rAsk, refOf]
  by_cases h1 : opB o = false
  · rw [if_pos h1, if_pos h1]
  · rw [if_neg h1] at h
    rw [if_neg h1, if_neg h1]
    show (if c.isOpen = true ∨ c.seq = 1099511627776 then _ else _) = _
    by_cases h2 : c.isOpen = true ∨ 1099511627776 ≤ c.seq
    · rw [if_pos h2, if_pos (show c.isOpen = true ∨ c.seq = 1099511627776 from h2.imp_right fun e => by omega)]
    · rw [if_neg h2] at h; omega
theorem rAskVs_ok {c : CliD} {op o : OpD} (h : askE c o = 0) : rAskVs (refOf c op) o = ⟨[c.no, c.seq + 1, o.kind, o.reg, o.tg, o.re, o.im, 0, c.no, c.seq + 1, c.seq, o.kind, o.reg, o.tg, o.re, o.im, 0], [true], [], [], []⟩ := by
  simp only [rAskVs, rAsk_ok h]; rfl
theorem rAskVs_no {c : CliD} {op o : OpD} (h : askE c o ≠ 0) (hs : c.seq ≤ 1099511627776) : rAskVs (refOf c op) o = ⟨(refOf c op).vals ++ [0, 0, 0, 0, 0, 0, 0, 0, askE c o], [c.isOpen], [], [], []⟩ := by
  simp only [rAskVs, rAsk_no h hs]; rfl
theorem rGot_eq {c : CliD} {op : OpD} (a : AnsD) : rGot (refOf c op) a = gotB c a := rfl
theorem againVs_o {c : CliD} (h : c.isOpen = true) : againVs c = ⟨[c.no, c.seq] ++ CmdD.vals c.cmd ++ [c.sent + 1] ++ CmdD.vals c.cmd, [true, true], [], [], []⟩ := by
  simp only [againVs, againV, againC, h, if_true]; simp [CliD.vals, CmdD.vals, h]
theorem againVs_c {c : CliD} (h : c.isOpen = false) : againVs c = ⟨[c.no, c.seq] ++ CmdD.vals c.cmd ++ [c.sent] ++ [0, 0, 0, 0, 0, 0, 0, 0], [false, false], [], [], []⟩ := by
  simp only [againVs, againV, againC, h]; simp [CliD.vals, CmdD.vals, h, cmd0, op0]
theorem openVs_o {c : CliD} (h : c.isOpen = true) : openVs c = ⟨[c.no, c.seq] ++ CmdD.vals c.cmd ++ [c.sent] ++ CmdD.vals c.cmd ++ [c.sent], [true, true], [], [], []⟩ := by
  simp only [openVs, openN, againC, h, if_true]; simp [CliD.vals, CmdD.vals, h]
theorem openVs_c {c : CliD} (h : c.isOpen = false) : openVs c = ⟨[c.no, c.seq] ++ CmdD.vals c.cmd ++ [c.sent] ++ [0, 0, 0, 0, 0, 0, 0, 0, 0], [false, false], [], [], []⟩ := by
  simp only [openVs, openN, againC, h]; simp [CliD.vals, CmdD.vals, h, cmd0, op0]

set_option maxHeartbeats 4000000 in
set_option maxRecDepth 100000 in
theorem runs_walk (no : Int) (a : Option Addr) (cap : Nat) (os : List StepD) (w : World) (hno : 1 ≤ no ∧ no ≤ 1073741824) (hC : Cells w a (Dat.cellsAll (os.map StepD.dat))) (hl : os.length ≤ 9223372036854775807) :
    Calls Try.prog 4 #[.int .i64 no, .slice a os.length cap] w (PureAt w (.bool true)) := by
  refine calls_at (tab_ok _) Try.func4 rfl tCR (ρ := ⟨[no], [], [], [os.length, cap], [a]⟩) (ids := []) rfl (Facts.initP rfl oneNil) ?_
  refine node_head rfl rfl rfl rfl rfl ?_
  refine br_f rfl ?_
  refine node_newCli no (fun _ => rfl) hno rfl (fun _ => rfl) rfl rfl rfl ?_
  refine br_t (show decide (no ≥ 1) = true by simpa using hno.1) (br_f (show (!decide (no ≤ 1073741824)) = false by simpa using hno.2) ?_)
  refine ⟨RunsI no os.length, fun vs => os.length - (vs.i.headD 0).toNat, fun ids w hp hf => ⟨HX.nil, HXok.none _ _, newCli no, op0, 0, by omega, by omega, ⟨rfl, by simp [newCli], by simp [newCli], by simp [newCli], by simp [newCli], by simp [newCli]⟩, rfl, rfl⟩, ?_⟩
  rintro vs hx' hcnt ⟨c, op, k, hk1, hk2, ⟨rfl, h0, h1, h2, h3, h4⟩, rfl, rfl⟩
  have hwk : IntKind.i64.wrap ((k : Int) + 1) = ((k + 1 : Nat) : Int) := by rw [wrap_i64 (by omega)]; omega
  by_cases hk : k < os.length
  · refine br_t (show decide ((k : Int) < (os.length : Int)) = true by simpa using hk) ?_
    by_cases hk80 : k < 80
    · refine br_t (show decide ((k : Int) < 80) = true by simp; omega) ?_
      obtain ⟨s, hs⟩ : ∃ s, os[k]? = some s := ⟨_, List.getElem?_eq_getElem hk⟩
      obtain ⟨hsome, hcell⟩ := cells_elt hC StepD.len (by decide) hs
      refine need_i ⟨hsome, (show (0 : Int) ≤ k by omega), (show (k : Int) < os.length by omega)⟩ ?_
      refine ⟨⟨[s.k, s.o.kind, s.o.reg, s.o.tg, s.o.re, s.o.im, s.a.sess, s.a.seq, s.a.kind, s.a.re, s.a.im], [], [], [], []⟩, fun ids => hcell _ (fun e => e), ⟨rfl, oneNil⟩, ?_⟩
      refine ⟨RunsJ c.no (k + 1), ?_, ?_⟩
      · have back : ∀ (c' : CliD) (op' : OpD), Side c.no (k + 1) c' op' → ∀ vs, vs = ⟨sideVs c' op', [c'.isOpen, c'.isOpen], [], [], []⟩ → ∀ (w : World) (ids : List Nat) (L : Stack), ∃ hx', HXok hx' w ids ∧ ∃ I, lkup 34 ((34, RunsJ c.no (k + 1)) :: L) = some I ∧ I vs hx' := by
          rintro c' op' hS vs rfl w ids L
          exact ⟨HX.nil, HXok.none _ _, _, rfl, c', op', hS, rfl, rfl⟩
        by_cases k0 : s.k = 0
        · refine br_t (show (s.k == 0) = true by simpa using k0) ?_
          refine node_rAsk (refOf c op) s.o (fun _ => rfl) (fun _ => rfl) rfl rfl rfl (by simp only [refOf]; omega) ?_
          by_cases he : askE c s.o = 0
          · rw [rAskVs_ok he]
            refine node_ask 0 c s.o (fun _ => rfl) rfl (fun _ => rfl) rfl (fun _ => rfl) (fun _ => rfl) rfl rfl (by omega) ?_
            rw [askVs_ok he]
            refine br_f ?_ (br_f rfl ?_)
            · simp [SV.den, LV.den, IE.den, BE.den, NE.den, AE.den, compDen, cellsDen, ifn, cfn, Env.add, List.map_cons, List.map_nil, List.getD_cons_zero, List.getD_cons_succ, List.cons_append, List.nil_append, List.append_nil, sideVs, CliD.vals, RefD.vals]
            · intro ids w hp hf
              refine back ⟨c.no, c.seq + 1, true, ⟨c.no, c.seq + 1, c.seq, s.o⟩, 0⟩ s.o ⟨rfl, by simp only; omega, by simp only; omega, by simp only; omega, by simp only; omega, fun _ => ?_⟩ _ ?_ _ _ _
              · simp only [CmdD.mk.injEq, and_true, true_and]; omega
              · simp [Vec.den, Env.add, IE.den, BE.den, ifn, sideVs, CliD.vals, CmdD.vals, RefD.vals, refOf]
          · rw [rAskVs_no he (by omega)]
            refine node_ask 0 c s.o (fun _ => rfl) rfl (fun _ => rfl) rfl (fun _ => rfl) (fun _ => rfl) rfl rfl (by omega) ?_
            rw [askVs_no he]
            refine br_f ?_ (br_f (show (askE c s.o != askE c s.o) = false by simp) ?_)
            · simp [SV.den, LV.den, IE.den, BE.den, NE.den, AE.den, compDen, cellsDen, ifn, cfn, Env.add, List.map_cons, List.map_nil, List.getD_cons_zero, List.getD_cons_succ, List.cons_append, List.nil_append, List.append_nil, sideVs, CliD.vals, RefD.vals, refOf]
            · intro ids w hp hf
              refine back c op ⟨rfl, h0, by omega, h2, by omega, h4⟩ _ ?_ _ _ _
              simp [Vec.den, Env.add, IE.den, BE.den, ifn, sideVs, CliD.vals, CmdD.vals, RefD.vals, refOf]
        · refine br_f (show (s.k == 0) = false by simpa using k0) ?_
          by_cases k1 : s.k = 1
          · refine br_t (show (s.k == 1) = true by simpa using k1) ?_
            refine node_again 0 c (fun _ => rfl) rfl (fun _ => rfl) rfl (fun _ => rfl) (fun _ => rfl) rfl rfl (by omega) ?_
            have hws : IntKind.i64.wrap (c.sent + 1) = c.sent + 1 := wrap_i64 (by omega)
            rcases Bool.eq_false_or_eq_true c.isOpen with ho | ho
            · rw [againVs_o ho]
              refine br_f (show (!(true == c.isOpen)) = false by rw [ho]; rfl) (br_t rfl ?_)
              refine node_rCmd (refOf c op) (fun _ => rfl) (fun _ => rfl) rfl rfl rfl (by simp only [refOf]; omega) ?_
              have e1 : c.cmd = rCmd (refOf c op) := h4 ho
              refine br_f ?_ ?_
              · rw [e1]; simp [SV.den, LV.den, IE.den, BE.den, NE.den, AE.den, compDen, cellsDen, ifn, cfn, Env.add, List.map_cons, List.map_nil, List.getD_cons_zero, List.getD_cons_succ, List.cons_append, List.nil_append, List.append_nil, CmdD.vals, CliD.vals, sideVs, RefD.vals]
              · intro ids w hp hf
                refine back ⟨c.no, c.seq, c.isOpen, c.cmd, c.sent + 1⟩ op ⟨rfl, h0, by simp only; omega, by simp only; omega, by simp only; omega, h4⟩ _ ?_ _ _ _
                simp [Vec.den, Env.add, IE.den, BE.den, ifn, sideVs, CliD.vals, CmdD.vals, RefD.vals, refOf, ho, hws]
            · rw [againVs_c ho]
              refine br_f (show (!(false == c.isOpen)) = false by rw [ho]; rfl) (br_f rfl (br_f rfl ?_))
              intro ids w hp hf
              refine back c op ⟨rfl, h0, by omega, h2, by omega, h4⟩ _ ?_ _ _ _
              simp [Vec.den, Env.add, IE.den, BE.den, ifn, sideVs, CliD.vals, CmdD.vals, RefD.vals, refOf, ho]
          · refine br_f (show (s.k == 1) = false by simpa using k1) ?_
            by_cases k2 : s.k = 2
            · refine br_t (show (s.k == 2) = true by simpa using k2) ?_
              refine node_rGot (refOf c op) s.a (fun _ => rfl) (fun _ => rfl) rfl rfl rfl ?_
              rw [rGot_eq]
              refine node_got 0 c s.a (fun _ => rfl) rfl (fun _ => rfl) rfl (fun _ => rfl) (fun _ => rfl) rfl rfl ?_
              rcases Bool.eq_false_or_eq_true (gotB c s.a) with hB | hB
              · obtain ⟨ho, _, _, _, _⟩ := gotB_yes hB
                rw [gotVs_yes hB, hB]
                refine br_f rfl (br_t (show c.isOpen = true from ho) ?_)
                intro ids w hp hf
                refine back ⟨c.no, c.seq, false, c.cmd, c.sent⟩ op ⟨rfl, h0, by simp only; omega, h2, by simp only; omega, fun e => by simp at e⟩ _ ?_ _ _ _
                simp [Vec.den, Env.add, IE.den, BE.den, ifn, sideVs, CliD.vals, CmdD.vals, RefD.vals, refOf, ho]
              · rw [gotVs_no hB, hB]
                refine br_f rfl ?_
                rcases Bool.eq_false_or_eq_true c.isOpen with ho | ho
                · refine br_t (show c.isOpen = true from ho) ?_
                  intro ids w hp hf
                  refine back c op ⟨rfl, h0, by omega, h2, by omega, h4⟩ _ ?_ _ _ _
                  simp [Vec.den, Env.add, IE.den, BE.den, ifn, sideVs, CliD.vals, CmdD.vals, RefD.vals, refOf, ho]
                · refine br_f (show c.isOpen = false from ho) ?_
                  intro ids w hp hf
                  refine back c op ⟨rfl, h0, by omega, h2, by omega, h4⟩ _ ?_ _ _ _
                  simp [Vec.den, Env.add, IE.den, BE.den, ifn, sideVs, CliD.vals, CmdD.vals, RefD.vals, refOf, ho]
            · refine br_f (show (s.k == 2) = false by simpa using k2) ?_
              intro ids w hp hf
              refine back c op ⟨rfl, h0, by omega, h2, by omega, h4⟩ _ ?_ _ _ _
              simp [Vec.den, Env.add, IE.den, BE.den, ifn, sideVs, CliD.vals, CmdD.vals, RefD.vals, refOf]
      · rintro vs hx' hcnt ⟨c', op', ⟨h6, g0, g1, g2, g3, g4⟩, rfl, rfl⟩
        refine node_open 0 c' (fun _ => rfl) rfl (fun _ => rfl) rfl (fun _ => rfl) (fun _ => rfl) rfl rfl ?_
        rcases Bool.eq_false_or_eq_true c'.isOpen with ho | ho
        ·
          rw [openVs_o ho]
          refine br_f (show (!(true == c'.isOpen)) = false by rw [ho]; rfl) (br_t rfl ?_)
          refine node_rCmd (refOf c' op') (fun _ => rfl) (fun _ => rfl) rfl rfl rfl (by simp only [refOf]; omega) ?_
          have e1 : c'.cmd = rCmd (refOf c' op') := g4 ho
          refine br_f ?_ (br_f (show (c'.sent != c'.sent) = false by simp) ?_)
          · rw [e1]; simp [SV.den, LV.den, IE.den, BE.den, NE.den, AE.den, compDen, cellsDen, ifn, cfn, Env.add, List.map_cons, List.map_nil, List.getD_cons_zero, List.getD_cons_succ, List.cons_append, List.nil_append, List.append_nil, CmdD.vals, CliD.vals, sideVs, RefD.vals]
          · intro ids w hp hf
            refine ⟨HX.nil, HXok.none _ _, _, rfl, ⟨c', op', k + 1, by omega, by omega, ⟨h6, g0, g1, g2, g3, g4⟩, ?_, rfl⟩, ?_⟩
            · simp [Vec.den, Env.add, IE.den, BE.den, ifn, sideVs, CliD.vals, CmdD.vals, RefD.vals, refOf, hwk, ho]
            · show os.length - (IntKind.i64.wrap ((k : Int) + 1)).toNat < os.length - ((k : Int)).toNat
              rw [hwk]; omega
        ·
          rw [openVs_c ho]
          refine br_f (show (!(false == c'.isOpen)) = false by rw [ho]; rfl) (br_f rfl (br_f rfl (br_f rfl ?_)))
          intro ids w hp hf
          refine ⟨HX.nil, HXok.none _ _, _, rfl, ⟨c', op', k + 1, by omega, by omega, ⟨h6, g0, g1, g2, g3, g4⟩, ?_, rfl⟩, ?_⟩
          · simp [Vec.den, Env.add, IE.den, BE.den, ifn, sideVs, CliD.vals, CmdD.vals, RefD.vals, refOf, hwk, ho]
          · show os.length - (IntKind.i64.wrap ((k : Int) + 1)).toNat < os.length - ((k : Int)).toNat
            rw [hwk]; omega
    · refine br_f (show decide ((k : Int) < 80) = false by simp; omega) (pure_done ?_)
      intro ids; rfl
  · refine br_f (show decide ((k : Int) < (os.length : Int)) = false by simpa using hk) (pure_done ?_)
    intro ids; rfl
set_option maxHeartbeats 4000000 in
set_option maxRecDepth 100000 in
theorem runs_walk0 (no : Int) (a : Option Addr) (cap : Nat) (n : Nat) (w : World) (hno : ¬ (1 ≤ no ∧ no ≤ 1073741824)) :
    Calls Try.prog 4 #[.int .i64 no, .slice a n cap] w (PureAt w (.bool true)) := by
  refine calls_at (tab_ok _) Try.func4 rfl tCR0 (ρ := ⟨[no], [], [], [n, cap], [a]⟩) (ids := []) rfl (Facts.initP rfl oneNil) ?_
  refine node_head rfl rfl rfl rfl rfl ?_
  refine br_f rfl ?_
  refine node_pure Vals.nil rfl rfl rfl oneNil (fun ids w hp hf => new_none no w hno) ?_
  by_cases h : no ≥ 1
  · refine br_t (show decide (no ≥ 1) = true by simpa using h) (br_f (show decide (no ≤ 1073741824) = false by simp; omega) ?_)
    refine node_pure ⟨[0, 0, 0, 0, 0, 0, 0, 0, 1], [], [], [], []⟩ rfl rfl rfl oneNil (fun ids w hp hf => ask_nil get0 w) ?_
    refine node_pure ⟨[0, 0, 0, 0, 0, 0, 0, 0], [false], [], [], []⟩ rfl rfl rfl oneNil (fun ids w hp hf => again_nil w) ?_
    refine node_pure ⟨[0, 0, 0, 0, 0, 0, 0, 0, 0], [false], [], [], []⟩ rfl rfl rfl oneNil (fun ids w hp hf => open_nil w) ?_
    refine br_t rfl (br_t rfl (br_t rfl ?_))
    refine node_pure ⟨[], [false], [], [], []⟩ rfl rfl rfl oneNil (fun ids w hp hf => got_nil ⟨0, 0, 0, 0, 0⟩ w) (pure_done ?_)
    intro ids; rfl
  · refine br_f (show decide (no ≥ 1) = false by simpa using h) ?_
    refine node_pure ⟨[0, 0, 0, 0, 0, 0, 0, 0, 1], [], [], [], []⟩ rfl rfl rfl oneNil (fun ids w hp hf => ask_nil get0 w) ?_
    refine node_pure ⟨[0, 0, 0, 0, 0, 0, 0, 0], [false], [], [], []⟩ rfl rfl rfl oneNil (fun ids w hp hf => again_nil w) ?_
    refine node_pure ⟨[0, 0, 0, 0, 0, 0, 0, 0, 0], [false], [], [], []⟩ rfl rfl rfl oneNil (fun ids w hp hf => open_nil w) ?_
    refine br_t rfl (br_t rfl (br_t rfl ?_))
    refine node_pure ⟨[], [false], [], [], []⟩ rfl rfl rfl oneNil (fun ids w hp hf => got_nil ⟨0, 0, 0, 0, 0⟩ w) (pure_done ?_)
    intro ids; rfl
theorem runs_args (no : Int) (a : Option Addr) (cap : Nat) (ds : List Dat) (w : World) (i1 : I64 no) (hC : Cells w a (Dat.cellsAll ds)) (hds : ∀ d ∈ ds, d.In Try.prog w 33) (hl : ds.length ≤ 9223372036854775807) (hb : ds.length * Try.prog.bytesOf 33 ≤ reachBytes) :
    Calls Try.prog 4 #[.int .i64 no, .slice a ds.length cap] w fun e w' => e = .returned (.bool true) ∧ Below w.heap.size w w' := by
  obtain ⟨os, rfl, _⟩ := list_map_of StepD.dat (fun _ => True) ds (fun d hd => open_step (hds d hd))
  rw [List.length_map] at hl ⊢
  by_cases hno : 1 ≤ no ∧ no ≤ 1073741824
  · exact runs_walk no a cap os w hno hC hl
  · exact runs_walk0 no a cap _ w hno
end Go.Proofs.Ytedmjckelghpiaa
