/- Part 20 of the texts of a proof about the given program: what the statement's proof needs of them. -/
import Derived.Test.YtfjiolgdcphjhaaKExecutorCodes19
namespace Go.Proofs.Ytfjiolgdcphjhaa
open Go.ChangeShapes Go.WideShapes Go.ChangeAt Go.RowKit Go.Syn Go.Eng
set_option linter.unusedVariables false
set_option linter.unusedSimpArgs false
set_option maxRecDepth 100000
structure Im where
  ep : Int
  mem : List Int
  sl : Int
  regs : List Int
  tb : List SsD
def rg (r : List Int) (i : Nat) : Int := r.getD i 0
def rgs (r : List Int) : List Int := [rg r 0, rg r 1, rg r 2, rg r 3, rg r 4, rg r 5, rg r 6, rg r 7, rg r 8, rg r 9, rg r 10, rg r 11, rg r 12, rg r 13, rg r 14, rg r 15]
theorem rgs_of {r : List Int} (h : r.length = 16) : rgs r = r := by
  obtain ⟨a0, a1, a2, a3, a4, a5, a6, a7, a8, a9, a10, a11, a12, a13, a14, a15, rfl⟩ := list16 r h
  rfl
def imC (I : Im) (a1 : Option Addr) (c1 : Nat) (a2 : Option Addr) (c2 : Nat) : List Value :=
  [.int .i64 I.ep, .slice a1 I.mem.length c1, .int .i64 I.sl, .int .i64 (rg I.regs 0), .int .i64 (rg I.regs 1), .int .i64 (rg I.regs 2), .int .i64 (rg I.regs 3), .int .i64 (rg I.regs 4), .int .i64 (rg I.regs 5), .int .i64 (rg I.regs 6), .int .i64 (rg I.regs 7), .int .i64 (rg I.regs 8), .int .i64 (rg I.regs 9), .int .i64 (rg I.regs 10), .int .i64 (rg I.regs 11), .int .i64 (rg I.regs 12), .int .i64 (rg I.regs 13), .int .i64 (rg I.regs 14), .int .i64 (rg I.regs 15), .slice a2 I.tb.length c2]
def imV (I : Im) (a1 : Option Addr) (c1 : Nat) (a2 : Option Addr) (c2 : Nat) : Value := .agg (imC I a1 c1 a2 c2).toArray
def imI (I : Im) : List Int := [I.ep, I.sl, rg I.regs 0, rg I.regs 1, rg I.regs 2, rg I.regs 3, rg I.regs 4, rg I.regs 5, rg I.regs 6, rg I.regs 7, rg I.regs 8, rg I.regs 9, rg I.regs 10, rg I.regs 11, rg I.regs 12, rg I.regs 13, rg I.regs 14, rg I.regs 15]
def im0 : Im := ⟨0, [], 0, [0, 0, 0, 0, 0, 0, 0, 0, 0, 0, 0, 0, 0, 0, 0, 0], []⟩
structure ImAt (w : World) (I : Im) (a1 a2 : Option Addr) (es : List SE) : Prop where
  tb : es.map SE.s = I.tb
  mem : Ints w a1 I.mem
  tab : TbAt w a2 es
  reg : I.regs.length = 16
theorem ImAt.keep {w w' : World} {I : Im} {a1 a2 : Option Addr} {es : List SE} (h : ImAt w I a1 a2 es) (hb : ∀ k, k < w.heap.size → w'.heap[k]? = w.heap[k]?) : ImAt w' I a1 a2 es :=
  ⟨h.tb, Ints.loc h.mem (fun hne => hb _ (by have := cl_sep h.mem.cells (blk a1) ⟨by simpa using hne, rfl⟩; exact this)), h.tab.keep hb, h.reg⟩
theorem ImAt.len {w : World} {I : Im} {a1 a2 : Option Addr} {es : List SE} (h : ImAt w I a1 a2 es) : es.length = I.tb.length := by rw [← h.tb, List.length_map]
def validI (I : Im) : Bool := decide (0 ≤ I.ep) && decide (I.ep ≤ 1099511627776) && decide (0 ≤ I.sl) && decide (I.sl ≤ 1099511627776) && decide (checkV I.mem = 0) && validL I.regs && validT I.tb
structure VI (I : Im) : Prop where
  ep0 : 0 ≤ I.ep
  ep1 : I.ep ≤ 1099511627776
  sl0 : 0 ≤ I.sl
  sl1 : I.sl ≤ 1099511627776
  mem : setOkB I.mem = true
  regs : validL I.regs = true
  tb : VT I.tb
theorem check_zero {xs : List Int} : checkV xs = 0 ↔ setOkB xs = true := by
  unfold checkV; split <;> simp_all
theorem validI_iff (I : Im) : validI I = true ↔ VI I := by
  unfold validI
  simp only [Bool.and_eq_true, decide_eq_true_eq, check_zero, validT_iff]
  exact ⟨fun ⟨⟨⟨⟨⟨⟨a, b⟩, c⟩, d⟩, e⟩, f⟩, g⟩ => ⟨a, b, c, d, e, f, g⟩, fun h => ⟨⟨⟨⟨⟨⟨h.ep0, h.ep1⟩, h.sl0⟩, h.sl1⟩, h.mem⟩, h.regs⟩, h.tb⟩⟩
structure AnD where
  sess : Int
  seq : Int
  k : Int
  re : Int
  im : Int
def AnD.cells (a : AnD) : List Value := [.int .i64 a.sess, .int .i64 a.seq, .int .i64 a.k, .int .i64 a.re, .int .i64 a.im]
def ancells (l : List AnD) : List Value := l.flatMap AnD.cells
theorem an_len (a : AnD) : a.cells.length = 5 := rfl
theorem ancells_snoc (l : List AnD) (a : AnD) : ancells l ++ a.cells = ancells (l ++ [a]) := by unfold ancells; rw [List.flatMap_append]; simp
theorem an_one (a : AnD) : ∀ v ∈ a.cells, v.oneCell' = true := fun v hv => by
  unfold AnD.cells at hv
  simp only [List.mem_cons, List.not_mem_nil, or_false] at hv
  rcases hv with rfl | rfl | rfl | rfl | rfl <;> rfl
theorem info_ans : (Try.prog.info? 56).map (fun i => (i.zero, i.size, i.bytes)) = some (some (.agg #[.int .i64 0, .int .i64 0, .int .i64 0, .int .i64 0, .int .i64 0]), 5, 40) := by kernel_rfl
structure RunR where
  i : Im
  k : Int
  re : Int
  im : Int
def runV (I : Im) (c : CmD) : RunR :=
  if (askV I.tb c.sess c.seq c.ack).d then ⟨⟨I.ep, I.mem, I.sl, I.regs, (askV I.tb c.sess c.seq c.ack).t⟩, (askV I.tb c.sess c.seq c.ack).k, (askV I.tb c.sess c.seq c.ack).re, (askV I.tb c.sess c.seq c.ack).im⟩
  else ⟨⟨I.ep, I.mem, I.sl, (applyM I.regs c.op).1, keepV (askV I.tb c.sess c.seq c.ack).t c.sess c.seq (applyM I.regs c.op).2.1 (applyM I.regs c.op).2.2.1 (applyM I.regs c.op).2.2.2⟩, (applyM I.regs c.op).2.1, (applyM I.regs c.op).2.2.1, (applyM I.regs c.op).2.2.2⟩
theorem runV_mem (I : Im) (c : CmD) : (runV I c).i.mem = I.mem ∧ (runV I c).i.ep = I.ep ∧ (runV I c).i.sl = I.sl := by unfold runV; split <;> exact ⟨rfl, rfl, rfl⟩
theorem runV_len {I : Im} (c : CmD) (h : I.regs.length = 16) : (runV I c).i.regs.length = 16 := by
  unfold runV; split
  · exact h
  · exact (applyM_len _ _).trans h
def stepV (p : Im × List AnD) (c : CmD) : Im × List AnD := ((runV p.1 c).i, p.2 ++ [⟨c.sess, c.seq, (runV p.1 c).k, (runV p.1 c).re, (runV p.1 c).im⟩])
def runAll (I : Im) (cs : List CmD) : Im × List AnD := cs.foldl stepV (I, [])
theorem runAll_step (I : Im) {cs : List CmD} {k : Nat} {c : CmD} (h : cs[k]? = some c) : runAll I (cs.take (k + 1)) = stepV (runAll I (cs.take k)) c := by
  unfold runAll
  rw [List.take_add_one, h, List.foldl_append]; rfl
theorem runAll_keep (I : Im) (cs : List CmD) : ∀ p : Im × List AnD, (cs.foldl stepV p).1.mem = p.1.mem ∧ (cs.foldl stepV p).1.ep = p.1.ep ∧ (cs.foldl stepV p).1.sl = p.1.sl ∧ (cs.foldl stepV p).2.length = p.2.length + cs.length := by
  induction cs with
  | nil => intro p; exact ⟨rfl, rfl, rfl, rfl⟩
  | cons c r ih =>
    intro p
    obtain ⟨h1, h2, h3, h4⟩ := ih (stepV p c)
    obtain ⟨g1, g2, g3⟩ := runV_mem p.1 c
    refine ⟨h1.trans g1, h2.trans g2, h3.trans g3, ?_⟩
    rw [List.foldl_cons, h4]
    simp only [stepV, List.length_append, List.length_cons, List.length_nil]; omega
theorem opB_of {c : CmD} (h : cmdV c = 0) : 1 ≤ c.sess ∧ c.sess ≤ 1073741824 ∧ 1 ≤ c.seq ∧ c.seq ≤ 1099511627776 ∧ 0 ≤ c.ack ∧ c.ack < c.seq ∧ opB c.op = true := by
  unfold cmdV at h
  split at h
  · cases h
  · split at h
    · exact ⟨by omega, by omega, by omega, by omega, by omega, by omega, by assumption⟩
    · cases h
theorem applyM_valid {xs : List Int} (hx : xs.length = 16) (h : validL xs = true) (o : OpD) : validL (applyM xs o).1 = true := by
  unfold applyM
  split
  · rename_i hc
    simp only [Bool.and_eq_true] at hc
    obtain ⟨_, r12, _⟩ := (opB_iff _).1 hc.2
    split
    · exact h
    · split
      · rename_i hf
        refine valid_put ?_ _ hf
        split
        · exact valid_put h _ (valid_reg h _ (by omega))
        · exact h
      · exact h
  · exact h
theorem apply_kind {xs : List Int} {o : OpD} (h : validL xs = true) (h2 : opB o = true) : 1 ≤ (applyM xs o).2.1 ∧ (applyM xs o).2.1 ≤ 3 := by
  unfold applyM
  rw [if_pos (by rw [h, h2]; rfl)]
  split
  · exact ⟨by show (1 : Int) ≤ _; simp, by simp⟩
  · split
    · exact ⟨by show (1 : Int) ≤ _; simp, by simp⟩
    · exact ⟨by show (1 : Int) ≤ _; simp, by simp⟩
theorem VI.run {I : Im} (h : VI I) (hr : I.regs.length = 16) {c : CmD} (hc : cmdV c = 0) : VI (runV I c).i := by
  obtain ⟨c1, c2, c3, c4, c5, c6, c7⟩ := opB_of hc
  have ht := h.tb.ask (sess := c.sess) (seq := c.seq) (ack := c.ack) c1 c2 (by omega)
  unfold runV
  split
  · exact ⟨h.ep0, h.ep1, h.sl0, h.sl1, h.mem, h.regs, ht⟩
  · obtain ⟨k1, k2⟩ := apply_kind h.regs c7
    exact ⟨h.ep0, h.ep1, h.sl0, h.sl1, h.mem, applyM_valid hr h.regs _, ht.keep c4 k1 k2⟩
theorem firstE_all : ∀ {cs : List CmD}, firstE cs = 0 → ∀ c ∈ cs, cmdV c = 0
  | [], _, c, hc => by cases hc
  | d :: r, h, c, hc => by
    unfold firstE at h
    split at h
    · exact absurd h (by assumption)
    · rename_i hd
      rcases List.mem_cons.1 hc with rfl | hc
      · exact Classical.byContradiction hd
      · exact firstE_all h c hc
theorem VI.all {I : Im} (h : VI I) (hr : I.regs.length = 16) {cs : List CmD} (hc : ∀ c ∈ cs, cmdV c = 0) : ∀ k, VI (runAll I (cs.take k)).1 ∧ (runAll I (cs.take k)).1.regs.length = 16 := fun k => by
  induction k with
  | zero => exact ⟨h, hr⟩
  | succ k ih =>
    rcases Nat.lt_or_ge k cs.length with q | q
    · have e := List.getElem?_eq_getElem q
      rw [runAll_step I e]
      exact ⟨ih.1.run ih.2 (hc _ (List.mem_of_getElem? e)), runV_len _ ih.2⟩
    · rw [List.take_of_length_le (by omega)]; rw [List.take_of_length_le (by omega)] at ih; exact ih
structure ExR where
  i : Im
  an : List AnD
  e : Int
def goI (I : Im) (slot : Int) (v : Vl) : Im := if v.k = 2 then ⟨I.ep + 1, v.ns, slot, I.regs, I.tb⟩ else ⟨I.ep, I.mem, slot, I.regs, I.tb⟩
def execV (I : Im) (slot : Int) (v : Vl) : ExR :=
  if validI I = false then ⟨im0, [], 44⟩ else
  if slot ≠ I.sl + 1 ∨ 1099511627776 < slot ∨ (v.k = 2 ∧ 1099511627776 ≤ I.ep) then ⟨im0, [], 61⟩ else
  if valE v ≠ 0 then ⟨im0, [], valE v⟩ else ⟨(runAll (goI I slot v) v.cs).1, (runAll (goI I slot v) v.cs).2, 0⟩
end Go.Proofs.Ytfjiolgdcphjhaa

namespace Go.Proofs.Ytfjiolgdcphjhaa
open Go.ChangeShapes Go.WideShapes Go.ChangeAt Go.RowKit Go.Syn Go.Eng
set_option linter.unusedVariables false
set_option linter.unusedSimpArgs false
set_option maxRecDepth 100000
def imX (I : Im) (a1 a2 : Option Addr) (c2 : Nat) (es : List SE) : HX := (HX.cl a1 (I.mem.map (Value.int .i64))).and (tabR a2 c2 es)
def ImNew (w : World) (V : Value → Value) (I : Im) (e : Ending) (w' : World) : Prop := ∃ a1 c1 a2 c2 es, es.map SE.s = I.tb ∧ e = .returned (V (imV I a1 c1 a2 c2)) ∧ Dj a2 c2 es ∧ (∀ q, (tabR a2 c2 es).F q → ¬ (HX.cl a1 (I.mem.map (Value.int .i64))).F q) ∧ (imX I a1 a2 c2 es).X w' ∧ (∀ k, (imX I a1 a2 c2 es).F k → w.heap.size ≤ k) ∧ Below w.heap.size w w'
theorem imX_lt {I : Im} {a1 a2 : Option Addr} {c2 : Nat} {es : List SE} {w : World} (h : (imX I a1 a2 c2 es).X w) : ∀ k, (imX I a1 a2 c2 es).F k → k < w.heap.size := fun k hk => hk.elim (cl_sep h.1 k) (tabR_lt h.2 k)
structure ImFit (I : Im) : Prop where
  mem : ∀ x ∈ I.mem, I64 x
  len : I.mem.length ≤ 17592186044416
  reg : I.regs.length = 16
theorem ImFit.at_ {I : Im} (h : ImFit I) {a1 a2 : Option Addr} {c2 : Nat} {es : List SE} {w : World} (he : es.map SE.s = I.tb) (hX : (imX I a1 a2 c2 es).X w) : ImAt w I a1 a2 es :=
  ⟨he, Ints.of_cells (by have := h.len; omega) h.mem hX.1, tabR_at hX.2, h.reg⟩
theorem cl_nil (w : World) (a : Option Addr) : (HX.cl a []).X w := fun h => absurd h (Nat.lt_irrefl 0)
section
variable {C : Cfg} {ρ : Env} {pre : List Nat} {hx : HX} {L : Stack} {m m' : Mem} {args : List SV} {r : SV} {t : Tree}
theorem node_im {f : Nat} {V : Value → Value} {I : Im} (AS : List Nat → Array Value) (vs : Option Addr → Nat → Option Addr → Nat → Vals) (hargs : ∀ ids, (args.map (SV.den ρ ids)).toArray = AS ids) (hcall : ∀ ids w, pre <+: ids → Facts C m ρ ids hx w → Calls C.P f (AS ids) w (ImNew w V I))
    (hr : ∀ a1 c1 a2 c2 ids, r.den (ρ.add (vs a1 c1 a2 c2)) ids = V (imV I a1 c1 a2 c2)) (hhp : m'.hp = m.hp) (hfit : hpFits m.c m.hp.length m.hp = true) (hc : ∀ a1 c1 a2 c2, (ρ.add (vs a1 c1 a2 c2)).cnt = m'.c) (h1 : ∀ a1 c1 a2 c2 v, v ∈ (vs a1 c1 a2 c2).v → v.oneCell' = true)
    (h : ∀ a1 c1 a2 c2 es, es.map SE.s = I.tb → Dj a2 c2 es → Sm a2 es → (∀ q, (tabR a2 c2 es).F q → ¬ (HX.cl a1 (I.mem.map (Value.int .i64))).F q) → (∀ k, (imX I a1 a2 c2 es).F k → C.W.heap.size ≤ k ∧ ¬ hx.F k) → t.holds C (ρ.add (vs a1 c1 a2 c2)) pre (hx.and (imX I a1 a2 c2 es)) L) : (Tree.call f args m r m' t).holds C ρ pre hx L := by
  refine node_out AS (fun u hy => ∃ a1 c1 a2 c2 es, es.map SE.s = I.tb ∧ Dj a2 c2 es ∧ Sm a2 es ∧ (∀ q, (tabR a2 c2 es).F q → ¬ (HX.cl a1 (I.mem.map (Value.int .i64))).F q) ∧ u = vs a1 c1 a2 c2 ∧ hy = imX I a1 a2 c2 es) hargs (fun ids w hp hf => ?_) hhp hfit ?_ ?_
  · refine (hcall ids w hp hf).mono ?_
    rintro e w' ⟨a1, c1, a2, c2, es, h1, rfl, h2, hd, hX, hge, hb⟩
    exact ⟨_, _, ⟨a1, c1, a2, c2, es, h1, h2, ⟨fun q => rw_sm hX.2.2 (sec_ne q), fun e he q => rw_sm (hX.2.1 e he) (kc_ne q)⟩, hd, rfl, rfl⟩, by rw [hr], hX, fun k hk => ⟨hge k hk, imX_lt hX k hk⟩, hb⟩
  · rintro u hy ⟨a1, c1, a2, c2, es, _, _, _, _, rfl, rfl⟩
    exact ⟨hc _ _ _ _, h1 _ _ _ _⟩
  · rintro u hy ⟨a1, c1, a2, c2, es, q1, q2, q3, q4, rfl, rfl⟩ hfr
    exact h a1 c1 a2 c2 es q1 q2 q3 q4 hfr
end
theorem xfirst_any (a : Option Addr) (cap : Nat) (xs : List Int) (w : World) (H : Ints w a xs) (hl : xs.length ≤ 17592186044416) : Calls Try.prog 18 #[.slice a xs.length cap] w (ImNew w id ⟨0, xs, 0, im0.regs, []⟩) := by
  refine calls_at (tab_ok _) Try.func18 rfl tXFirst (ρ := ⟨[], [], [], [xs.length, cap], [a]⟩) (ids := []) (hx := HX.nil) rfl (Facts.initP rfl oneNil) ?_
  refine node_cl (n := xs.length) (xs := xs.map (Value.int .i64)) (fun _ => #[.slice a xs.length cap]) (fun a' c' => ⟨[], [], [], [xs.length, c'], [a']⟩) (by intros; kernel_rfl) (fun ids w2 hp hf => scloneN_any a cap xs w2 (cl_stay H.cells (fun k hk => hf.chg.block k hk (fun q => q))) hl) (by intros; kernel_rfl) (by kernel_rfl) (by kernel_rfl) (by intros; kernel_rfl) (fun _ _ => oneNil) ?_
  intro a1 c1 hn
  intro ids w2 hp hf
  refine ⟨a1, c1, none, 0, [], rfl, by kernel_rfl, ⟨fun i j e e' _ h => by simp at h, fun e he => (by cases he)⟩, (fun q hq => by
    rcases hq with ⟨e, he, _⟩ | hq
    · cases he
    · exact absurd rfl hq.1), ⟨hf.x.2, ⟨fun e he => (by cases he), HX.rw_nil _ _ _ _⟩⟩, ?_, hf.chg.below⟩
  rintro k (hk | ⟨e, he, _⟩ | hk)
  · exact (hn k hk).1
  · cases he
  · exact absurd rfl hk.1
theorem xvalid_any (I : Im) (a1 : Option Addr) (c1 : Nat) (a2 : Option Addr) (c2 : Nat) (es : List SE) (w : World) (H : ImAt w I a1 a2 es) (hl : es.length ≤ 4611686018427387904) : Calls Try.prog 16 #[imV I a1 c1 a2 c2] w (PureAt w (.bool (validI I))) := by
  refine calls_at (tab_ok _) Try.func16 rfl tXValid (ρ := ⟨imI I, [], [], [I.mem.length, c1, I.tb.length, c2], [a1, a2]⟩) (ids := []) (hx := HX.nil) (by kernel_rfl) (Facts.initP rfl oneNil) ?_
  obtain ⟨V, eV⟩ : ∃ V, V = validI I := ⟨_, rfl⟩
  rw [← eV]
  have keep : ∀ {m : Mem} {ρ : Env} {ids : List Nat} {hx : HX} {w2 : World} {R : Ending → World → Prop}, Facts ⟨Try.prog, w, fun _ => False, R⟩ m ρ ids hx w2 → ImAt w2 I a1 a2 es := fun hf => H.keep (fun k hk => hf.chg.block k hk (fun q => q))
  unfold validI at eV
  by_cases h1 : 0 ≤ I.ep
  case' neg => exact br_F (decide (I.ep ≥ 0)) (by kernel_rfl) (decide_eq_false h1) (pure_done (by intros; rw [show V = false from by rw [eV]; simp [h1]]; kernel_rfl))
  refine br_T (decide (I.ep ≥ 0)) (by kernel_rfl) (decide_eq_true h1) ?_
  by_cases h2 : I.ep ≤ 1099511627776
  case' neg => exact br_F (decide (I.ep ≤ 1099511627776)) (by kernel_rfl) (decide_eq_false h2) (pure_done (by intros; rw [show V = false from by rw [eV]; simp [h2]]; kernel_rfl))
  refine br_T (decide (I.ep ≤ 1099511627776)) (by kernel_rfl) (decide_eq_true h2) ?_
  by_cases h3 : 0 ≤ I.sl
  case' neg => exact br_F (decide (I.sl ≥ 0)) (by kernel_rfl) (decide_eq_false h3) (pure_done (by intros; rw [show V = false from by rw [eV]; simp [h3]]; kernel_rfl))
  refine br_T (decide (I.sl ≥ 0)) (by kernel_rfl) (decide_eq_true h3) ?_
  by_cases h4 : I.sl ≤ 1099511627776
  case' neg => exact br_F (decide (I.sl ≤ 1099511627776)) (by kernel_rfl) (decide_eq_false h4) (pure_done (by intros; rw [show V = false from by rw [eV]; simp [h4]]; kernel_rfl))
  refine br_T (decide (I.sl ≤ 1099511627776)) (by kernel_rfl) (decide_eq_true h4) ?_
  refine node_P ⟨[checkV I.mem], [], [], [], []⟩ #[.slice a1 I.mem.length c1] (.int .i64 (checkV I.mem)) (by intros; kernel_rfl) (by intros; kernel_rfl) (by kernel_rfl) (by kernel_rfl) (by kernel_rfl) oneNil (fun ids w2 hp hf => (check_any a1 c1 I.mem w2 (keep hf).mem).mono fun e w3 h => ⟨h.1, h.2 ▸ Below.refl _ _⟩) ?_
  by_cases h5 : checkV I.mem = 0
  case' neg => exact br_F (checkV I.mem == 0) (by kernel_rfl) (by simpa using h5) (pure_done (by intros; rw [show V = false from by rw [eV]; simp [h5]]; kernel_rfl))
  refine br_T (checkV I.mem == 0) (by kernel_rfl) (by simpa using h5) ?_
  refine node_P ⟨[], [validL I.regs], [], [], []⟩ #[.agg ((rgs I.regs).map (Value.int .i64)).toArray] (.bool (validL I.regs)) (by intros; kernel_rfl) (by intros; kernel_rfl) (by kernel_rfl) (by kernel_rfl) (by kernel_rfl) oneNil (fun ids w2 hp hf => by have := valid_any (rgs I.regs) rfl w2; rw [rgs_of H.reg] at this ⊢; exact this) ?_
  by_cases h6 : validL I.regs = true
  case' neg => exact br_F (validL I.regs) (by kernel_rfl) (by simpa using h6) (pure_done (by intros; rw [show V = false from by rw [eV]; simp [h6]]; kernel_rfl))
  refine br_T (validL I.regs) (by kernel_rfl) h6 ?_
  refine node_P ⟨[], [validT I.tb], [], [], []⟩ #[.slice a2 I.tb.length c2] (.bool (validT I.tb)) (by intros; kernel_rfl) (by intros; kernel_rfl) (by kernel_rfl) (by kernel_rfl) (by kernel_rfl) oneNil (fun ids w2 hp hf => by have := tvalid_any a2 c2 es w2 (keep hf).tab hl; rw [H.tb, H.len] at this; exact this) ?_
  exact pure_done (by intros; rw [show V = validT I.tb from by rw [eV]; simp [h1, h2, h3, h4, h5, h6]]; kernel_rfl)
theorem VI.fit {I : Im} (h : VI I) : I.mem.length ≤ 7 ∧ I.tb.length ≤ 16 := ⟨by
  have := setOkB_iff.1 h.mem; exact this.2.1, h.tb.len⟩
theorem xclone_any (I : Im) (a1 : Option Addr) (c1 : Nat) (a2 : Option Addr) (c2 : Nat) (es : List SE) (w : World) (H : ImAt w I a1 a2 es) (hl : I.mem.length ≤ 17592186044416) (hl2 : es.length ≤ 1000000) (hk : ∀ e ∈ es, e.s.kept.length ≤ 1000000) : Calls Try.prog 24 #[imV I a1 c1 a2 c2] w (ImNew w id I) := by
  refine calls_at (tab_ok _) Try.func24 rfl tXClone (ρ := ⟨imI I, [], [], [I.mem.length, c1, I.tb.length, c2], [a1, a2]⟩) (ids := []) (hx := HX.nil) (by kernel_rfl) (Facts.initP rfl oneNil) ?_
  have keep : ∀ {m : Mem} {ρ : Env} {ids : List Nat} {hx : HX} {w2 : World} {R : Ending → World → Prop}, Facts ⟨Try.prog, w, fun _ => False, R⟩ m ρ ids hx w2 → ImAt w2 I a1 a2 es := fun hf => H.keep (fun k hk => hf.chg.block k hk (fun q => q))
  refine node_cl (n := I.mem.length) (xs := I.mem.map (Value.int .i64)) (fun _ => #[.slice a1 I.mem.length c1]) (fun a' c' => ⟨[], [], [], [I.mem.length, c'], [a']⟩) (by intros; kernel_rfl) (fun ids w2 hp hf => scloneN_any a1 c1 I.mem w2 (keep hf).mem.cells hl) (by intros; kernel_rfl) (by kernel_rfl) (by kernel_rfl) (by intros; kernel_rfl) (fun _ _ => oneNil) ?_
  intro b1 d1 hn1
  refine node_tb (V := id) (tb := I.tb) (fun _ => #[.slice a2 I.tb.length c2]) (fun a' c' => ⟨[], [], [], [I.tb.length, c'], [a']⟩) (by intros; kernel_rfl) (fun ids w2 hp hf => by
    have := tclone_any a2 c2 es w2 (keep hf).tab hl2 hk
    rw [H.tb, H.len] at this; exact this) (by intros; kernel_rfl) (by kernel_rfl) (by kernel_rfl) (by intros; kernel_rfl) (fun _ _ => oneNil) ?_
  intro b2 d2 es2 hm hdj hsm hn2
  intro ids w2 hp hf
  refine ⟨b1, d1, b2, d2, es2, hm, by kernel_rfl, hdj, fun q hq hk => (hn2 q hq).2 (.inr hk), ⟨hf.x.1.2, hf.x.2⟩, ?_, hf.chg.below⟩
  rintro k (hk | hk)
  · exact (hn1 k hk).1
  · exact (hn2 k hk).1
end Go.Proofs.Ytfjiolgdcphjhaa

namespace Go.Proofs.Ytfjiolgdcphjhaa
open Go.ChangeShapes Go.WideShapes Go.ChangeAt Go.RowKit Go.Syn Go.Eng
set_option linter.unusedVariables false
set_option linter.unusedSimpArgs false
set_option maxRecDepth 100000
def RunNew (w : World) (b : Nat) (I : Im) (a1 : Option Addr) (c1 : Nat) (V : Value) (e : Ending) (w' : World) : Prop := ∃ a2 c2 es, es.map SE.s = I.tb ∧ e = .returned V ∧ Blk w' b (imC I a1 c1 a2 c2) 28 ∧ Dj a2 c2 es ∧ (tabR a2 c2 es).X w' ∧ (∀ k, (tabR a2 c2 es).F k → w.heap.size ≤ k) ∧ w.grownBy w' (some b)
def resC (R : RunR) : Value := .agg #[.int .i64 R.k, .int .i64 R.re, .int .i64 R.im]
theorem xrun_any (b : Nat) (I : Im) (a1 : Option Addr) (c1 : Nat) (a2 : Option Addr) (c2 : Nat) (es : List SE) (c : CmD) (w : World) (hb : Blk w b (imC I a1 c1 a2 c2) 28) (H : TbAt w a2 es) (hes : es.map SE.s = I.tb) (hv : VT I.tb) (hr : I.regs.length = 16) (hc : cmdV c = 0) :
    Calls Try.prog 39 #[.pointer (some ⟨b, 0, none⟩), .agg c.cells.toArray] w (RunNew w b (runV I c).i a1 c1 (resC (runV I c))) := by
  refine calls_at (tab_ok _) Try.func39 rfl tXRun (ρ := ⟨imI I ++ c.is, [], [], [I.mem.length, c1, I.tb.length, c2], [a1, a2]⟩) (ids := [b]) (hx := HX.nil) (by kernel_rfl) (Facts.init1 rfl oneNil hb (by kernel_rfl)) ?_
  have hlen : es.length = I.tb.length := by rw [← hes, List.length_map]
  obtain ⟨h1, h2, h3, h4, h5, h6, h7⟩ := opB_of hc
  have hat := hv.ask (sess := c.sess) (seq := c.seq) (ack := c.ack) h1 h2 (by omega)
  obtain ⟨Q, eQ⟩ : ∃ Q, Q = runV I c := ⟨_, rfl⟩
  rw [← eQ]
  unfold runV at eQ
  obtain ⟨A, eA⟩ : ∃ A, A = askV I.tb c.sess c.seq c.ack := ⟨_, rfl⟩
  rw [← eA] at eQ hat
  obtain ⟨p, ep⟩ : ∃ p, p = applyM I.regs c.op := ⟨_, rfl⟩
  rw [← ep] at eQ
  have hpl : p.1.length = 16 := by rw [ep]; exact (applyM_len _ _).trans hr
  refine par_i ?_ ?_
  all_goals
    refine node_tb (V := askRet A.k A.re A.im A.d) (tb := A.t) (fun _ => #[.slice a2 I.tb.length c2, cmdC c.sess c.seq c.ack c.op.kind c.op.reg c.op.tg c.op.re c.op.im]) (fun a' c' => ⟨[A.k, A.re, A.im], [A.d], [], [A.t.length, c'], [a']⟩) (by intros; kernel_rfl) (fun ids w2 hp hf => by
      have hbb : w2.heap[b]? = w.heap[b]? := by
        have := hf.blkAt 0 rfl
        rw [idAt0 hp] at this
        exact this.trans (Eq.trans (by kernel_rfl) hb.symm)
      have := task_any a2 c2 es c.sess c.seq c.ack c.op.kind c.op.reg c.op.tg c.op.re c.op.im w2 (H.keep (fun k hk => by
        by_cases q : k = b
        · rw [q]; exact hbb
        · exact hf.chg.block k hk q)) (by rw [hes]; exact hv.ok)
      rw [hes, ← eA, hlen] at this
      exact this) (by intros; kernel_rfl) (by kernel_rfl) (by kernel_rfl) (by intros; kernel_rfl) (fun _ _ => oneNil) ?_
    intro a' c' es' hm' hdj' hsm' hn'
    have hl' : es'.length = A.t.length := by rw [← hm', List.length_map]
    rcases Bool.eq_false_or_eq_true A.d with hd | hd
    · refine br_F (!A.d) (by kernel_rfl) (by rw [hd]; rfl) ?_
      rw [if_pos hd] at eQ
      intro ids w2 hp hf
      have hblk := hf.blkAt 0 rfl
      rw [idAt0 hp] at hblk
      subst eQ
      exact ⟨a', c', es', hm', by kernel_rfl, hblk.trans (by kernel_rfl), hdj', hf.x.2, fun k hk => (hn' k hk).1, hf.chg.grown⟩
    · refine br_T (!A.d) (by kernel_rfl) (by rw [hd]; rfl) ?_
      rw [if_neg (by rw [hd]; decide)] at eQ
      refine node_P ⟨rgs p.1 ++ [p.2.1, p.2.2.1, p.2.2.2], [], [], [], []⟩ #[.agg ((rgs I.regs).map (Value.int .i64)).toArray, .agg c.op.cells.toArray] (resV p) (by intros; kernel_rfl) (fun ids => Eq.trans (b := resV (rgs p.1, p.2)) (by kernel_rfl) (by unfold resV; rw [rgs_of hpl])) (by kernel_rfl) (by kernel_rfl) (by kernel_rfl) oneNil (fun ids w2 hp hf => by
        have := apply_any (rgs I.regs) rfl c.op w2
        rw [rgs_of hr] at this ⊢
        rw [ep]; exact this) ?_
      refine node_tb (V := id) (tb := keepV A.t c.sess c.seq p.2.1 p.2.2.1 p.2.2.2) (fun _ => #[.slice a' A.t.length c', cmdC c.sess c.seq c.ack c.op.kind c.op.reg c.op.tg c.op.re c.op.im, .agg #[.int .i64 p.2.1, .int .i64 p.2.2.1, .int .i64 p.2.2.2]]) (fun a3 c3 => ⟨[], [], [], [(keepV A.t c.sess c.seq p.2.1 p.2.2.1 p.2.2.2).length, c3], [a3]⟩) (by intros; kernel_rfl) (fun ids w2 hp hf => by
        have := tkeep_any a' c' es' c.sess c.seq c.ack c.op.kind c.op.reg c.op.tg c.op.re c.op.im p.2.1 p.2.2.1 p.2.2.2 w2 (tabR_at hf.x.2) (by rw [hm']; exact hat.ok)
        rw [hm', hl'] at this
        exact this) (by intros; kernel_rfl) (by kernel_rfl) (by kernel_rfl) (by intros; kernel_rfl) (fun _ _ => oneNil) ?_
      intro a3 c3 es3 hm3 hdj3 hsm3 hn3
      intro ids w2 hp hf
      have hblk := hf.blkAt 0 rfl
      rw [idAt0 hp] at hblk
      subst eQ
      exact ⟨a3, c3, es3, hm3, by kernel_rfl, hblk.trans (by kernel_rfl), hdj3, hf.x.2, fun k hk => (hn3 k hk).1, hf.chg.grown⟩
end Go.Proofs.Ytfjiolgdcphjhaa

namespace Go.Proofs.Ytfjiolgdcphjhaa
open Go.ChangeShapes Go.WideShapes Go.ChangeAt Go.RowKit Go.Syn Go.Eng
set_option linter.unusedVariables false
set_option linter.unusedSimpArgs false
set_option maxRecDepth 100000
def exX (R : ExR) (a1 a2 : Option Addr) (c2 : Nat) (es : List SE) (oa : Option Addr) : HX := (imX R.i a1 a2 c2 es).and (HX.cl oa (ancells R.an))
def exRet (R : ExR) (a1 : Option Addr) (c1 : Nat) (a2 : Option Addr) (c2 : Nat) (oa : Option Addr) (oc : Nat) : Value := .tuple #[imV R.i a1 c1 a2 c2, .slice oa R.an.length oc, .int .i64 R.e]
def ExNew (w : World) (R : ExR) (e : Ending) (w' : World) : Prop := ∃ a1 c1 a2 c2 es oa oc, es.map SE.s = R.i.tb ∧ e = .returned (exRet R a1 c1 a2 c2 oa oc) ∧ Dj a2 c2 es ∧ (exX R a1 a2 c2 es oa).X w' ∧ (∀ k, (exX R a1 a2 c2 es oa).F k → w.heap.size ≤ k) ∧ Below w.heap.size w w'
theorem exX_lt {R : ExR} {a1 a2 : Option Addr} {c2 : Nat} {es : List SE} {oa : Option Addr} {w : World} (h : (exX R a1 a2 c2 es oa).X w) : ∀ k, (exX R a1 a2 c2 es oa).F k → k < w.heap.size := fun k hk => hk.elim (imX_lt h.1 k) (cl_sep h.2 k)
theorem dj_nil (a : Option Addr) (c : Nat) : Dj a c [] := ⟨fun i j e e' _ h => by simp at h, fun e he => (by cases he)⟩
theorem ex_err {W : World} {ρ : Env} {pre : List Nat} {hx : HX} {L : Stack} {v : SV} {m : Mem} (x : Int) (hv : ∀ ids, v.den ρ ids = exRet ⟨im0, [], x⟩ none 0 none 0 none 0) : (Tree.done v m).holds ⟨Try.prog, W, fun _ => False, ExNew W ⟨im0, [], x⟩⟩ ρ pre hx L := fun ids w2 hp hf => by
  refine ⟨none, 0, none, 0, [], none, 0, rfl, by rw [hv ids], dj_nil _ _, ⟨⟨cl_nil _ _, ⟨fun e he => (by cases he), HX.rw_nil _ _ _ _⟩⟩, cl_nil _ _⟩, ?_, hf.chg.below⟩
  rintro k ((hk | ⟨e, he, _⟩ | hk) | hk)
  · exact absurd rfl hk.1
  · cases he
  · exact absurd rfl hk.1
  · exact absurd rfl hk.1
theorem an_sm {l : List AnD} {i : Nat} {x : AnD} {a : Option Addr} {w : World} (H : Cells w a (ancells l)) (h : l[i]? = some x) : a.isSome = true :=
  (flat_part an_len H h (o := 0) x.cells (fun j u hj => by rw [Nat.zero_add]; exact hj) (by simp [AnD.cells])).1
theorem an_all {l : List AnD} {x : AnD} (i : Nat) (h : l[i]? = some x) {a : Option Addr} {w : World} (H : Cells w a (ancells l)) : CellsAt w (.pointer (some (((a.getD ⟨0, 0, none⟩).add (i * 5)).add 0))) x.cells (fun _ => False) :=
  (flat_part an_len H h (o := 0) x.cells (fun j u hj => by rw [Nat.zero_add]; exact hj) (by simp [AnD.cells])).2 _ (fun q => q)
section
variable {C : Cfg} {ρ : Env} {pre : List Nat} {hx : HX} {L : Stack} {m m' : Mem} {args : List SV} {r : SV} {t : Tree}
theorem node_ex {f : Nat} {R : ExR} (AS : List Nat → Array Value) (hargs : ∀ ids, (args.map (SV.den ρ ids)).toArray = AS ids) (hcall : ∀ ids w, pre <+: ids → Facts C m ρ ids hx w → Calls C.P f (AS ids) w (ExNew w R))
    (hr : ∀ a1 c1 a2 c2 oa oc ids, r.den (ρ.add ⟨imI R.i ++ [R.e], [], [], [R.i.mem.length, c1, R.i.tb.length, c2, R.an.length, oc], [a1, a2, oa]⟩) ids = exRet R a1 c1 a2 c2 oa oc) (hhp : m'.hp = m.hp) (hfit : hpFits m.c m.hp.length m.hp = true)
    (hc : ∀ a1 c1 a2 c2 oa oc, (ρ.add ⟨imI R.i ++ [R.e], [], [], [R.i.mem.length, c1, R.i.tb.length, c2, R.an.length, oc], [a1, a2, oa]⟩).cnt = m'.c)
    (h : ∀ a1 c1 a2 c2 es oa oc, es.map SE.s = R.i.tb → Dj a2 c2 es → Sm a2 es → (R.an ≠ [] → oa.isSome = true) → (∀ k, (exX R a1 a2 c2 es oa).F k → C.W.heap.size ≤ k ∧ ¬ hx.F k) → t.holds C (ρ.add ⟨imI R.i ++ [R.e], [], [], [R.i.mem.length, c1, R.i.tb.length, c2, R.an.length, oc], [a1, a2, oa]⟩) pre (hx.and (exX R a1 a2 c2 es oa)) L) : (Tree.call f args m r m' t).holds C ρ pre hx L := by
  refine node_out AS (fun u hy => ∃ a1 c1 a2 c2 es oa oc, es.map SE.s = R.i.tb ∧ Dj a2 c2 es ∧ Sm a2 es ∧ (R.an ≠ [] → oa.isSome = true) ∧ u = ⟨imI R.i ++ [R.e], [], [], [R.i.mem.length, c1, R.i.tb.length, c2, R.an.length, oc], [a1, a2, oa]⟩ ∧ hy = exX R a1 a2 c2 es oa) hargs (fun ids w hp hf => ?_) hhp hfit ?_ ?_
  · refine (hcall ids w hp hf).mono ?_
    rintro e w' ⟨a1, c1, a2, c2, es, oa, oc, h1, rfl, h2, hX, hge, hb⟩
    exact ⟨_, _, ⟨a1, c1, a2, c2, es, oa, oc, h1, h2, ⟨fun q => rw_sm hX.1.2.2 (sec_ne q), fun e he q => rw_sm (hX.1.2.1 e he) (kc_ne q)⟩, fun q => (by
      cases hq : R.an with
      | nil => exact absurd hq q
      | cons x l => exact an_sm (i := 0) (x := x) hX.2 (by rw [hq]; rfl)), rfl, rfl⟩, by rw [hr], hX, fun k hk => ⟨hge k hk, exX_lt hX k hk⟩, hb⟩
  · rintro u hy ⟨a1, c1, a2, c2, es, oa, oc, _, _, _, _, rfl, rfl⟩
    exact ⟨hc _ _ _ _ _ _, oneNil⟩
  · rintro u hy ⟨a1, c1, a2, c2, es, oa, oc, q1, q2, q3, q4, rfl, rfl⟩ hfr
    exact h a1 c1 a2 c2 es oa oc q1 q2 q3 q4 hfr
end
theorem valE_zero {v : Vl} (h : valE v = 0) : (v.k = 0 ∧ v.cs = [] ∧ v.ns = []) ∨ (v.k = 2 ∧ v.cs = [] ∧ setOkB v.ns = true) ∨ (v.k = 1 ∧ v.cs.length ≤ 8 ∧ v.cs ≠ [] ∧ v.ns = [] ∧ firstE v.cs = 0) := by
  unfold valE at h
  split at h
  · rename_i h0
    by_cases q : v.cs ≠ [] ∨ v.ns ≠ []
    · rw [if_pos q] at h; cases h
    · simp only [not_or, Classical.not_not] at q
      exact .inl ⟨h0, q.1, q.2⟩
  · split at h
    · rename_i h2
      by_cases q : v.cs ≠ []
      · rw [if_pos q] at h; cases h
      · rw [if_neg q] at h
        simp only [Classical.not_not] at q
        exact .inr (.inl ⟨h2, q, check_zero.1 h⟩)
    · split at h
      · rename_i h1
        by_cases q : v.cs = [] ∨ 8 < v.cs.length ∨ v.ns ≠ []
        · rw [if_pos q] at h; cases h
        · rw [if_neg q] at h
          simp only [not_or, Classical.not_not] at q
          exact .inr (.inr ⟨h1, by omega, q.1, q.2.2, h⟩)
      · cases h
def ExJ (I : Im) (slot : Int) (v : Vl) (vs : Vals) (hx : HX) : Prop := VI I ∧ slot = I.sl + 1 ∧ slot ≤ 1099511627776 ∧ ¬ (v.k = 2 ∧ 1099511627776 ≤ I.ep) ∧ vs = ⟨[], [], [], [], []⟩ ∧ hx = HX.nil
def ExI (W : World) (G : Im) (cs : List CmD) (b1 : Option Addr) (d1 : Nat) (vs : Vals) (hx : HX) : Prop := ∃ (k : Nat) (a2 : Option Addr) (c2 : Nat) (es : List SE) (oa : Option Addr) (oc : Nat), k ≤ cs.length ∧ es.map SE.s = (runAll G (cs.take k)).1.tb ∧ Dj a2 c2 es ∧
  (∀ q, (tabR a2 c2 es).F q → W.heap.size ≤ q ∧ ¬ ((HX.cl b1 (G.mem.map (Value.int .i64))).and (HX.rw 5 56 oa k oc (ancells (runAll G (cs.take k)).2))).F q) ∧ (∀ q, (HX.rw 5 56 oa k oc (ancells (runAll G (cs.take k)).2)).F q → W.heap.size ≤ q ∧ ¬ (HX.cl b1 (G.mem.map (Value.int .i64))).F q) ∧
  vs = ⟨(k : Int) :: imI (runAll G (cs.take k)).1, [], [], [k, oc, G.mem.length, d1, (runAll G (cs.take k)).1.tb.length, c2], [oa, b1, a2]⟩ ∧ hx = ((HX.cl b1 (G.mem.map (Value.int .i64))).and (HX.rw 5 56 oa k oc (ancells (runAll G (cs.take k)).2))).and (tabR a2 c2 es)
set_option maxHeartbeats 2000000 in
theorem xexec_any (I : Im) (a1 : Option Addr) (c1 : Nat) (a2 : Option Addr) (c2 : Nat) (es : List SE) (slot : Int) (v : Vl) (b1 : Option Addr) (d1 : Nat) (b2 : Option Addr) (d2 : Nat) (w : World) (H : ImAt w I a1 a2 es) (hl : es.length ≤ 4611686018427387904) (hm : I.mem.length ≤ 17592186044416) (HV : VlAt w v b1 b2) :
    Calls Try.prog 12 #[imV I a1 c1 a2 c2, .int .i64 slot, vlV v b1 d1 b2 d2] w (ExNew w (execV I slot v)) := by
  refine calls_at (tab_ok _) Try.func12 rfl tXExec (ρ := ⟨imI I ++ [slot, v.k], [], [], [I.mem.length, c1, I.tb.length, c2, v.cs.length, d1, v.ns.length, d2], [a1, a2, b1, b2]⟩) (ids := []) (hx := HX.nil) (by kernel_rfl) (Facts.initP rfl oneNil) ?_
  obtain ⟨R, eR⟩ : ∃ R, R = execV I slot v := ⟨_, rfl⟩
  rw [← eR]
  unfold execV at eR
  have keep : ∀ {m : Mem} {ρ : Env} {ids : List Nat} {hx : HX} {w2 : World} {R : Ending → World → Prop}, Facts ⟨Try.prog, w, fun _ => False, R⟩ m ρ ids hx w2 → ImAt w2 I a1 a2 es := fun hf => H.keep (fun k hk => hf.chg.block k hk (fun q => q))
  have keepV : ∀ {m : Mem} {ρ : Env} {ids : List Nat} {hx : HX} {w2 : World} {R : Ending → World → Prop}, Facts ⟨Try.prog, w, fun _ => False, R⟩ m ρ ids hx w2 → VlAt w2 v b1 b2 := fun hf => HV.fit.at_ ((vlX v b1 b2).loc _ _ HV.X fun k hk => hf.chg.block k (vlX_sep HV.X k hk) (fun q => q))
  refine ⟨ExJ I slot v, ?_, ?_⟩
  · refine node_P ⟨[], [validI I], [], [], []⟩ #[imV I a1 c1 a2 c2] (.bool (validI I)) (by intros; kernel_rfl) (by intros; kernel_rfl) (by kernel_rfl) (by kernel_rfl) (by kernel_rfl) oneNil (fun ids w2 hp hf => xvalid_any I a1 c1 a2 c2 es w2 (keep hf) hl) ?_
    rcases Bool.eq_false_or_eq_true (validI I) with hv | hv
    case' inr =>
      rw [if_pos hv] at eR
      subst eR
      exact br_T (!validI I) (by kernel_rfl) (by rw [hv]; rfl) (ex_err 44 (by intros; kernel_rfl))
    rw [if_neg (by rw [hv]; decide)] at eR
    have hI := (validI_iff I).1 hv
    refine br_F (!validI I) (by kernel_rfl) (by rw [hv]; rfl) ?_
    have hw : IntKind.i64.wrap (I.sl + 1) = I.sl + 1 := by have := hI.sl0; have := hI.sl1; exact wrap_i64 (by omega)
    by_cases h1 : slot = I.sl + 1
    case' neg =>
      rw [if_pos (.inl h1)] at eR
      subst eR
      exact br_T (slot != IntKind.i64.wrap (I.sl + 1)) (by kernel_rfl) (by rw [hw]; simpa using h1) (ex_err 61 (by intros; kernel_rfl))
    refine br_F (slot != IntKind.i64.wrap (I.sl + 1)) (by kernel_rfl) (by rw [hw]; simpa using h1) ?_
    by_cases h2 : 1099511627776 < slot
    case' pos =>
      rw [if_pos (.inr (.inl h2))] at eR
      subst eR
      exact br_T (decide (slot > 1099511627776)) (by kernel_rfl) (decide_eq_true h2) (ex_err 61 (by intros; kernel_rfl))
    refine br_F (decide (slot > 1099511627776)) (by kernel_rfl) (decide_eq_false h2) ?_
    by_cases h3 : v.k = 2
    · refine br_T (v.k == 2) (by kernel_rfl) (by simpa using h3) ?_
      by_cases h4 : 1099511627776 ≤ I.ep
      · rw [if_pos (.inr (.inr ⟨h3, h4⟩))] at eR
        subst eR
        exact br_T (decide (I.ep ≥ 1099511627776)) (by kernel_rfl) (decide_eq_true h4) (ex_err 61 (by intros; kernel_rfl))
      · refine br_F (decide (I.ep ≥ 1099511627776)) (by kernel_rfl) (decide_eq_false h4) ?_
        exact again_V ⟨[], [], [], [], []⟩ rfl (by intros; kernel_rfl) HX.nil (fun w2 ids hf => HXok.none _ _) ⟨hI, h1, by omega, fun q => h4 q.2, rfl, rfl⟩
    · refine br_F (v.k == 2) (by kernel_rfl) (by simpa using h3) ?_
      exact again_V ⟨[], [], [], [], []⟩ rfl (by intros; kernel_rfl) HX.nil (fun w2 ids hf => HXok.none _ _) ⟨hI, h1, by omega, fun q => h3 q.1, rfl, rfl⟩
  rintro vs hx' hcnt ⟨hI, h1, h2, h3, rfl, rfl⟩
  refine holds_env (ρ' := ⟨imI I ++ [slot, v.k], [], [], [I.mem.length, c1, I.tb.length, c2, v.cs.length, d1, v.ns.length, d2], [a1, a2, b1, b2]⟩) (by kernel_rfl) ?_
  rw [if_neg (by rw [(validI_iff I).2 hI]; decide), if_neg (by simp only [not_or]; exact ⟨fun q => q h1, by omega, h3⟩)] at eR
  refine node_P ⟨[valE v], [], [], [], []⟩ #[vlV v b1 d1 b2 d2] (.int .i64 (valE v)) (by intros; kernel_rfl) (by intros; kernel_rfl) (by kernel_rfl) (by kernel_rfl) (by kernel_rfl) oneNil (fun ids w2 hp hf => vchk_any v b1 d1 b2 d2 w2 (keepV hf)) ?_
  by_cases h4 : valE v = 0
  case' neg =>
    rw [if_pos h4] at eR
    subst eR
    exact br_T (valE v != 0) (by kernel_rfl) (by simpa using h4) (ex_err (valE v) (by intros; kernel_rfl))
  rw [if_neg (fun q => q h4)] at eR
  refine br_F (valE v != 0) (by kernel_rfl) (by simpa using h4) ?_
  have hfit := hI.fit
  refine node_im (V := id) (I := I) (fun _ => #[imV I a1 c1 a2 c2]) (fun x1 y1 x2 y2 => ⟨imI I, [], [], [I.mem.length, y1, I.tb.length, y2], [x1, x2]⟩) (by intros; kernel_rfl) (fun ids w2 hp hf => xclone_any I a1 c1 a2 c2 es w2 (keep hf) hm (by rw [H.len]; omega) (fun e he => by
    have := (hI.tb.each e.s (by rw [← H.tb]; exact List.mem_map_of_mem he)).len; omega)) (by intros; kernel_rfl) (by kernel_rfl) (by kernel_rfl) (by intros; kernel_rfl) (fun _ _ _ _ => oneNil) ?_
  intro x1 y1 x2 y2 es1 hm1 hdj1 hsm1 had1 hn1
  refine holds_eq (show _ = imX I x1 x2 y2 es1 from HX.nil_and _) ?_
  refine holds_env (ρ' := ⟨imI I ++ [slot, v.k, valE v] ++ imI I, [], [], [I.mem.length, c1, I.tb.length, c2, v.cs.length, d1, v.ns.length, d2, I.mem.length, y1, I.tb.length, y2], [a1, a2, b1, b2, x1, x2]⟩) (by kernel_rfl) ?_
  by_cases k2 : v.k = 2
  · refine br_T (v.k == 2) (by kernel_rfl) (by simpa using k2) ?_
    have hcs : v.cs = [] := by rcases valE_zero h4 with q | q | q <;> first | exact q.2.1 | omega
    have hns : setOkB v.ns = true := by
      rcases valE_zero h4 with q | q | q
      · omega
      · exact q.2.2
      · omega
    refine node_cl (n := v.ns.length) (xs := v.ns.map (Value.int .i64)) (fun _ => #[.slice b2 v.ns.length d2]) (fun a' c' => ⟨[], [], [], [v.ns.length, c'], [a']⟩) (by intros; kernel_rfl) (fun ids w2 hp hf => scloneN_any b2 d2 v.ns w2 (keepV hf).n.cells (keepV hf).l2) (by intros; kernel_rfl) (by kernel_rfl) (by kernel_rfl) (by intros; kernel_rfl) (fun _ _ => oneNil) ?_
    intro z1 u1 hz
    have hw : IntKind.i64.wrap (I.ep + 1) = I.ep + 1 := by have := hI.ep0; have := hI.ep1; exact wrap_i64 (by omega)
    rw [hcs] at eR
    intro ids w2 hp hf
    refine ⟨z1, u1, x2, y2, es1, none, 0, by rw [eR]; unfold goI; rw [if_pos k2]; exact hm1, ?_, hdj1, ?_, ?_, hf.chg.below⟩
    · rw [eR]; unfold goI; rw [if_pos k2]
      show _ = Ending.returned (exRet ⟨⟨I.ep + 1, v.ns, slot, I.regs, I.tb⟩, [], 0⟩ _ _ _ _ _ _)
      rw [← hw]; kernel_rfl
    · rw [eR]; unfold goI; rw [if_pos k2]
      exact ⟨⟨hf.x.2, hf.x.1.2⟩, cl_nil _ _⟩
    · rw [eR]; unfold goI; rw [if_pos k2]
      rintro k ((hk | hk) | hk)
      · exact (hz k hk).1
      · exact (hn1 k (.inr hk)).1
      · exact absurd rfl hk.1
  refine br_F (v.k == 2) (by kernel_rfl) (by simpa using k2) ?_
  obtain ⟨G, eG⟩ : ∃ G : Im, G = ⟨I.ep, I.mem, slot, I.regs, I.tb⟩ := ⟨_, rfl⟩
  have hgo : goI I slot v = G := by unfold goI; rw [if_neg k2, eG]
  rw [hgo] at eR
  have hG : VI G := by rw [eG]; exact ⟨hI.ep0, hI.ep1, by have := hI.sl0; show 0 ≤ slot; omega, h2, hI.mem, hI.regs, hI.tb⟩
  have hGr : G.regs.length = 16 := by rw [eG]; exact H.reg
  have hGm : G.mem = I.mem := by rw [eG]
  by_cases k1 : v.k = 1
  case' neg =>
    refine br_F (v.k == 1) (by kernel_rfl) (by simpa using k1) ?_
    have hcs : v.cs = [] := by rcases valE_zero h4 with q | q | q <;> first | exact q.2.1 | omega
    rw [hcs] at eR
    intro ids w2 hp hf
    subst eR
    refine ⟨x1, y1, x2, y2, es1, none, 0, by rw [eG]; exact hm1, by rw [eG]; kernel_rfl, hdj1, by rw [eG]; exact ⟨hf.x, cl_nil _ _⟩, ?_, hf.chg.below⟩
    rw [eG]
    rintro k (hk | hk)
    · exact (hn1 k hk).1
    · exact absurd rfl hk.1
  refine br_T (v.k == 1) (by kernel_rfl) (by simpa using k1) ?_
  obtain ⟨hc8, hcz⟩ : v.cs.length ≤ 8 ∧ firstE v.cs = 0 := by
    rcases valE_zero h4 with q | q | q
    · omega
    · omega
    · exact ⟨q.2.1, q.2.2.2.2⟩
  have hall := firstE_all hcz
  have hrow0 : ∀ q, ¬ (HX.rw 5 56 none 0 0 (ancells [])).F q := fun q hq => absurd rfl hq.1
  refine loop_i (ExI w G v.cs x1 y1) (fun vs => v.cs.length - (vs.i.headD 0).toNat) (fun ids w2 hp hf => ⟨((HX.cl x1 (G.mem.map (Value.int .i64))).and (HX.rw 5 56 none 0 0 (ancells []))).and (tabR x2 y2 es1), ⟨⟨⟨by rw [hGm]; exact hf.x.1, HX.rw_nil _ _ _ _⟩, hf.x.2⟩, ?_⟩, 0, x2, y2, es1, none, 0, Nat.zero_le _, by rw [eG]; exact hm1, hdj1, fun q hq => ⟨(hn1 q (.inr hq)).1, fun z => z.elim (fun z => had1 q hq (by rw [← hGm]; exact z)) (fun z => hrow0 q z)⟩, fun q hq => absurd hq (hrow0 q), by rw [eG]; kernel_rfl, by kernel_rfl⟩) ?_
  · rintro k ((hk | hk) | hk)
    · exact hf.sep k (.inl (by rw [← hGm]; exact hk))
    · exact absurd hk (hrow0 k)
    · exact hf.sep k (.inr hk)
  rintro vs hx' hcnt' ⟨k, a3, c3, es3, oa, oc, hk, hm3, hdj3, hn3, ho3, rfl, rfl⟩
  obtain ⟨J, eJ⟩ : ∃ J, J = runAll G (v.cs.take k) := ⟨_, rfl⟩
  rw [← eJ] at hm3 hn3 ho3 hcnt' ⊢
  have hJ := hG.all hGr hall k
  rw [← eJ] at hJ
  have hJk := runAll_keep G (v.cs.take k) (G, [])
  have hJm : J.1.mem = G.mem := by rw [eJ]; exact hJk.1
  have hJl : J.2.length = k := by rw [eJ]; exact (hJk.2.2.2).trans (by simp; omega)
  have hn3' : es3.length = J.1.tb.length := by rw [← hm3, List.length_map]
  by_cases hlt : k < v.cs.length
  case' neg =>
    refine br_F (decide ((k : Int) < (v.cs.length : Int))) (by kernel_rfl) (decide_eq_false (by omega)) ?_
    have hke : v.cs.take k = v.cs := List.take_of_length_le (by omega)
    rw [hke] at eJ
    rw [← eJ] at eR
    subst eR
    intro ids w2 hp hf
    refine ⟨x1, y1, a3, c3, es3, oa, oc, hm3, ?_, hdj3, ⟨⟨by rw [hJm]; exact hf.x.1.1, hf.x.2⟩, (rw_cells hf.x.1.2)⟩, ?_, hf.chg.below⟩
    · show _ = Ending.returned (Value.tuple #[imV J.1 x1 y1 a3 c3, .slice oa J.2.length oc, .int .i64 0])
      unfold imV imC
      rw [hJl, hJm]; kernel_rfl
    · rintro q ((hq | hq) | hq)
      · rw [hJm] at hq
        exact (hn1 q (.inl (by rw [← hGm]; exact hq))).1
      · exact (hn3 q hq).1
      · exact (ho3 q ((rw_cl hf.x.1.2).2 q hq)).1
  refine br_T (decide ((k : Int) < (v.cs.length : Int))) (by kernel_rfl) (decide_eq_true (by omega)) ?_
  obtain ⟨c, hc⟩ : ∃ c, v.cs[k]? = some c := ⟨_, List.getElem?_eq_getElem hlt⟩
  have hce := c_elt HV.c hc
  refine need_k (b1.isSome = true ∧ (0 : Int) ≤ k ∧ (k : Int) < v.cs.length) (by kernel_rfl) ⟨hce.1, by omega, by omega⟩ ?_
  refine node_ld0 (k := ⟨58, 0, 0, 18, 9⟩) ⟨c.is, [], [], [], []⟩ (.pointer (some (((b1.getD ⟨0, 0, none⟩).add (k * 8)).add 0))) c.cells (by intros; kernel_rfl) (by intros; kernel_rfl) (hce.2 _ (fun q => q)) hcnt' (by kernel_rfl) oneNil ?_
  obtain ⟨Q, eQ⟩ : ∃ Q, Q = runV J.1 c := ⟨_, rfl⟩
  have hQm : Q.i.mem = G.mem := by rw [eQ]; exact (runV_mem J.1 c).1.trans hJm
  refine node_touch (rest := (HX.cl x1 (G.mem.map (Value.int .i64))).and (HX.rw 5 56 oa k oc (ancells J.2))) (h0 := tabR a3 c3 es3) (fun ids => #[.pointer (some ⟨idAt ids 0, 0, none⟩), .agg c.cells.toArray]) (fun vs h' => ∃ a4 c4 es4, es4.map SE.s = Q.i.tb ∧ Dj a4 c4 es4 ∧ (∀ q, (tabR a4 c4 es4).F q → w.heap.size ≤ q) ∧ vs = ⟨imI Q.i ++ [Q.k, Q.re, Q.im], [], [], [G.mem.length, y1, Q.i.tb.length, c4], [x1, a4]⟩ ∧ h' = tabR a4 c4 es4) rfl rfl (by intros; kernel_rfl) (fun ids w2 hp hf => ?_) (fun q hq => ⟨(hn3 q hq).2, .inl (hn3 q hq).1⟩) (by kernel_rfl) ?_ ?_
  · have hb0 := hf.blkAt 0 rfl
    have := xrun_any (idAt ids 0) J.1 x1 y1 a3 c3 es3 c w2 (hb0.trans (Eq.trans (b := some (.cells (imC ⟨J.1.ep, G.mem, J.1.sl, J.1.regs, J.1.tb⟩ x1 y1 a3 c3).toArray 28 (0, 0))) (by kernel_rfl) (by unfold imC; rw [hJm]))) (tabR_at hf.x.2) hm3 hJ.1.tb hJ.2 (hall c (List.mem_of_getElem? hc))
    rw [← eQ] at this
    refine this.mono ?_
    rintro e w3 ⟨a4, c4, es4, q1, rfl, q2, q3, q4, q5, q6⟩
    refine ⟨_, _, ⟨a4, c4, es4, q1, q3, fun q hq => Nat.le_trans hf.chg.size (q5 q hq), rfl, rfl⟩, by kernel_rfl, q2.trans (Eq.trans (b := some (.cells (imC ⟨Q.i.ep, G.mem, Q.i.sl, Q.i.regs, Q.i.tb⟩ x1 y1 a4 c4).toArray 28 (0, 0))) (by unfold imC; rw [hQm]) (by kernel_rfl)), q4, fun q hq => ⟨.inr (q5 q hq), tabR_lt q4 q hq⟩, chg_of_grown (.inl rfl) q6⟩
  · rintro vs h' ⟨a4, c4, es4, _, _, _, rfl, rfl⟩
    exact ⟨by kernel_rfl, oneNil⟩
  rintro vs h' ⟨a4, c4, es4, hm4, hdj4, hn4, rfl, rfl⟩ hap4
  refine holds_eq (HX.and_right_comm _ _ _) ?_
  refine node_pushs (z := .agg #[.int .i64 0, .int .i64 0, .int .i64 0, .int .i64 0, .int .i64 0]) (sz := 5) (bytes := 40) rfl (by kernel_rfl) info_ans rfl (by decide) oa k oc (ancells J.2) (AnD.cells ⟨c.sess, c.seq, Q.k, Q.re, Q.im⟩) 4 (by intros; kernel_rfl) (by intros; kernel_rfl) rfl (by intros; kernel_rfl) rfl (an_one _) (fun q h1 h2 hF => ?_) (fun q h1 h2 => .inl (ho3 q ⟨h1, h2⟩).1) (by simp [maxLen]; omega) (by omega) (by intros; kernel_rfl) (by kernel_rfl) (by kernel_rfl) (by intros; kernel_rfl) ?_
  · rcases hF with hF | hF
    · exact (ho3 q ⟨h1, h2⟩).2 hF
    · exact (hap4 q hF).1 (.inr ⟨h1, h2⟩)
  intro oa' oc' hoc hdis hwh
  have hstep : runAll G (v.cs.take (k + 1)) = (Q.i, J.2 ++ [⟨c.sess, c.seq, Q.k, Q.re, Q.im⟩]) := by rw [runAll_step G hc, ← eJ, eQ]; rfl
  have hwk : IntKind.i64.wrap ((k : Int) + 1) = ((k + 1 : Nat) : Int) := by rw [wrap_i64 (by omega)]; omega
  rw [ancells_snoc]
  refine again_V ⟨((k + 1 : Nat) : Int) :: imI Q.i, [], [], [k + 1, oc', G.mem.length, y1, Q.i.tb.length, c4], [oa', x1, a4]⟩ rfl (fun ids => Eq.trans (b := ⟨IntKind.i64.wrap ((k : Int) + 1) :: imI Q.i, [], [], [k + 1, oc', G.mem.length, y1, Q.i.tb.length, c4], [oa', x1, a4]⟩) (by kernel_rfl) (by rw [hwk])) (((HX.cl x1 (G.mem.map (Value.int .i64))).and (HX.rw 5 56 oa' (k + 1) oc' (ancells (J.2 ++ [⟨c.sess, c.seq, Q.k, Q.re, Q.im⟩])))).and (tabR a4 c4 es4)) (fun w2 ids hf => ?_) ⟨⟨k + 1, a4, c4, es4, oa', oc', hlt, by rw [hstep]; exact hm4, hdj4, fun q hq => ⟨hn4 q hq, ?_⟩, fun q hq => ⟨?_, ?_⟩, by rw [hstep], by rw [hstep]⟩, ?_⟩
  · exact ⟨⟨⟨hf.x.1.1, hf.x.2⟩, hf.x.1.2⟩, fun q hq => hf.sep q (hq.elim (fun z => z.elim (fun z => .inl (.inl z)) .inr) (fun z => .inl (.inr z)))⟩
  · rw [hstep]
    rintro (z | z)
    · exact (hap4 q hq).1 (.inl z)
    · exact hdis q z.2 (.inr hq)
  · rw [hstep] at hq
    rcases hwh with ⟨z1, z2⟩ | ⟨g, z1, z2, z3⟩
    · exact (ho3 q ⟨z1, by rw [← z2]; exact hq.2⟩).1
    · rw [hq.2] at z1; cases z1; exact z2
  · rw [hstep] at hq
    exact fun z => hdis q hq.2 (.inl z)
  · show v.cs.length - (((k + 1 : Nat) : Int)).toNat < v.cs.length - ((k : Int)).toNat
    omega
end Go.Proofs.Ytfjiolgdcphjhaa

namespace Go.Proofs.Ytfjiolgdcphjhaa
open Go.ChangeShapes Go.WideShapes Go.ChangeAt Go.RowKit Go.Syn Go.Eng
set_option linter.unusedVariables false
set_option linter.unusedSimpArgs false
set_option maxRecDepth 100000
def regEq (r s : List Int) : Bool :=
  ((rg r 0 == rg s 0) && (rg r 1 == rg s 1)) && (((rg r 2 == rg s 2) && (rg r 3 == rg s 3)) && (((rg r 4 == rg s 4) && (rg r 5 == rg s 5)) && (((rg r 6 == rg s 6) && (rg r 7 == rg s 7)) && (((rg r 8 == rg s 8) && (rg r 9 == rg s 9)) && (((rg r 10 == rg s 10) && (rg r 11 == rg s 11)) && (((rg r 12 == rg s 12) && (rg r 13 == rg s 13)) && ((rg r 14 == rg s 14) && (rg r 15 == rg s 15))))))))
theorem regEq_refl (r : List Int) : regEq r r = true := by unfold regEq; simp
theorem rsame20_any (I : Im) (a1 : Option Addr) (c1 : Nat) (a2 : Option Addr) (c2 : Nat) (es : List SE) (b1 : Option Addr) (d1 : Nat) (b2 : Option Addr) (d2 : Nat) (fs : List SE) (w : World) (H : ImAt w I a1 a2 es) (H2 : ImAt w I b1 b2 fs) (hm : I.mem.length ≤ 140737488355328) (hl : es.length ≤ 4611686018427387904) (hkl : ∀ e ∈ es, e.s.kept.length ≤ 4611686018427387904) :
    Calls Try.prog 14 #[imV I a1 c1 a2 c2, imV I b1 d1 b2 d2] w (PureAt w (.bool true)) := by
  refine calls_at (tab_ok _) Try.func14 rfl tXRSame (ρ := ⟨imI I ++ imI I, [], [], [I.mem.length, c1, I.tb.length, c2, I.mem.length, d1, I.tb.length, d2], [a1, a2, b1, b2]⟩) (ids := []) (hx := HX.nil) (by kernel_rfl) (Facts.initP rfl oneNil) ?_
  refine br_T (I.ep == I.ep) (by kernel_rfl) (by simp) ?_
  refine br_T (I.sl == I.sl) (by kernel_rfl) (by simp) ?_
  refine node_P ⟨[], [decide (I.mem = I.mem)], [], [], []⟩ #[.slice a1 I.mem.length c1, .slice b1 I.mem.length d1] (.bool (decide (I.mem = I.mem))) (by intros; kernel_rfl) (by intros; kernel_rfl) (by kernel_rfl) (by kernel_rfl) (by kernel_rfl) oneNil (fun ids w2 hp hf => intsB_any a1 c1 I.mem b1 d1 I.mem w2 (H.keep (fun k hk => hf.chg.block k hk (fun q => q))).mem (H2.keep (fun k hk => hf.chg.block k hk (fun q => q))).mem hm) ?_
  refine br_T (decide (I.mem = I.mem)) (by kernel_rfl) (by simp) ?_
  refine br_T (regEq I.regs I.regs) (by kernel_rfl) (regEq_refl _) ?_
  refine node_P ⟨[], [true], [], [], []⟩ #[.slice a2 I.tb.length c2, .slice b2 I.tb.length d2] (.bool true) (by intros; kernel_rfl) (by intros; kernel_rfl) (by kernel_rfl) (by kernel_rfl) (by kernel_rfl) oneNil (fun ids w2 hp hf => by
    have K1 := H.keep (fun k hk => hf.chg.block k hk (fun q => q))
    have K2 := H2.keep (fun k hk => hf.chg.block k hk (fun q => q))
    have := rsame_any a2 c2 es b2 d2 fs w2 K1.tab K2.tab (by rw [K1.tb, K2.tb]) hl hkl
    rw [K1.len, K2.len] at this; exact this) ?_
  exact pure_done (by intros; kernel_rfl)
def hv1 : Vl := ⟨1, [⟨9, 1, 0, ⟨2, 0, 0, 2, 1⟩⟩], []⟩
def hv3 : Vl := ⟨2, [], [2, 4]⟩
def hi0 : Im := ⟨0, [1, 2, 3], 0, im0.regs, []⟩
def hr1 : ExR := ⟨⟨0, [1, 2, 3], 1, [2, 1, 0, 0, 0, 0, 0, 0, 0, 0, 0, 0, 0, 0, 0, 0], [⟨9, 0, [⟨1, 1, 2, 1⟩]⟩]⟩, [⟨9, 1, 1, 2, 1⟩], 0⟩
def hr2 : ExR := ⟨⟨0, [1, 2, 3], 2, [2, 1, 0, 0, 0, 0, 0, 0, 0, 0, 0, 0, 0, 0, 0, 0], [⟨9, 0, [⟨1, 1, 2, 1⟩]⟩]⟩, [⟨9, 1, 1, 2, 1⟩], 0⟩
def hr3 : ExR := ⟨⟨1, [2, 4], 3, [2, 1, 0, 0, 0, 0, 0, 0, 0, 0, 0, 0, 0, 0, 0, 0], [⟨9, 0, [⟨1, 1, 2, 1⟩]⟩]⟩, [], 0⟩
theorem hr1_eq : execV hi0 1 hv1 = hr1 := by kernel_rfl
theorem hr2_eq : execV hr1.i 2 hv1 = hr2 := by kernel_rfl
theorem hr3_eq : execV hr2.i 3 hv3 = hr3 := by kernel_rfl
end Go.Proofs.Ytfjiolgdcphjhaa

namespace Go.Proofs.Ytfjiolgdcphjhaa
open Go.ChangeShapes Go.WideShapes Go.ChangeAt Go.RowKit Go.Syn Go.Eng
set_option linter.unusedVariables false
set_option linter.unusedSimpArgs false
set_option maxRecDepth 100000
theorem xone_any (w : World) : Calls Try.prog 32 #[] w (VlNew w id hv1) := by
  refine calls_at (tab_ok _) Try.func32 rfl tXOne (ρ := ⟨[], [], [], [], []⟩) (ids := []) (hx := HX.nil) rfl (Facts.initP rfl oneNil) ?_
  intro ids w2 hp hf
  refine ⟨some ⟨idAt ids 1, 0, none⟩, 1, none, 0, by kernel_rfl, ⟨blk_cells (ty := 52) ((hf.blkAt 1 rfl).trans (by kernel_rfl)), cl_nil _ _⟩, ?_, hf.chg.below⟩
  rintro k (hk | hk)
  · have : k = idAt ids 1 := hk.2
    rw [this]
    exact (hf.own _ (idAt_mem (by rw [hf.len]; decide))).resolve_right (fun e => e)
  · exact absurd rfl hk.1
theorem hv1_fit : VlFit hv1 := ⟨(by unfold hv1; intro n hn; cases hn), by decide, by decide⟩
theorem hi0_fit : ImFit hi0 := ⟨(by unfold hi0 I64; decide), by decide, rfl⟩
theorem hr1_fit : ImFit hr1.i := ⟨(by unfold hr1 I64; decide), by decide, rfl⟩
theorem hr2_fit : ImFit hr2.i := ⟨(by unfold hr2 I64; decide), by decide, rfl⟩
theorem es_len {es : List SE} {t : List SsD} (h : es.map SE.s = t) : es.length = t.length := by rw [← h, List.length_map]
set_option maxHeartbeats 2000000 in
theorem head20_any (w : World) : Calls Try.prog 9 #[] w (PureAt w (.bool true)) := by
  refine calls_at (tab_ok _) Try.func9 rfl tXHead (ρ := ⟨[], [], [], [], []⟩) (ids := []) (hx := HX.nil) rfl (Facts.initP rfl oneNil) ?_
  refine node_im (V := id) (I := hi0) (fun ids => #[.slice (some ⟨idAt ids 0, 0, none⟩) 3 3]) (fun x1 y1 x2 y2 => ⟨imI hi0, [], [], [3, y1, 0, y2], [x1, x2]⟩) (by intros; kernel_rfl) (fun ids w2 hp hf => xfirst_any _ 3 [1, 2, 3] w2 (ints_blk hf 0 3 [.int .i64 (.lit 1), .int .i64 (.lit 2), .int .i64 (.lit 3)] [1, 2, 3] rfl (by kernel_rfl) (by decide) (by unfold I64; decide)) (by decide)) (by intros; kernel_rfl) (by kernel_rfl) (by kernel_rfl) (by intros; kernel_rfl) (fun _ _ _ _ => oneNil) ?_
  intro x1 y1 x2 y2 es0 hm0 hdj0 hsm0 had0 hn0
  refine node_vl (V := id) (v := hv1) (fun _ => #[]) (fun b1 d1 b2 d2 => ⟨[1], [], [], [1, d1, 0, d2], [b1, b2]⟩) (by intros; kernel_rfl) (fun ids w2 hp hf => xone_any w2) (by intros; kernel_rfl) (by kernel_rfl) (by kernel_rfl) (by intros; kernel_rfl) (fun _ _ _ _ => oneNil) ?_
  intro b1 d1 b2 d2 hb1
  refine node_ex (R := hr1) (fun _ => #[imV hi0 x1 y1 x2 y2, .int .i64 1, vlV hv1 b1 d1 b2 d2]) (by intros; kernel_rfl) (fun ids w2 hp hf => hr1_eq ▸ xexec_any hi0 x1 y1 x2 y2 es0 1 hv1 b1 d1 b2 d2 w2 (hi0_fit.at_ hm0 hf.x.1.2) (by rw [es_len hm0]; decide) (by decide) (hv1_fit.at_ hf.x.2)) (by intros; kernel_rfl) (by kernel_rfl) (by kernel_rfl) (by intros; kernel_rfl) ?_
  intro p1 q1 p2 q2 es1 oa1 oc1 hm1 hdj1 hsm1 hso1 hn1
  refine par_i ?_ ?_
  all_goals
    refine node_vl (V := id) (v := hv1) (fun _ => #[]) (fun b1 d1 b2 d2 => ⟨[1], [], [], [1, d1, 0, d2], [b1, b2]⟩) (by intros; kernel_rfl) (fun ids w2 hp hf => xone_any w2) (by intros; kernel_rfl) (by kernel_rfl) (by kernel_rfl) (by intros; kernel_rfl) (fun _ _ _ _ => oneNil) ?_
    intro e1 f1 e2 f2 he1
    try refine par_i ?_ ?_
  all_goals
    refine node_ex (R := hr2) (fun _ => #[imV hr1.i p1 q1 p2 q2, .int .i64 2, vlV hv1 e1 f1 e2 f2]) (by intros; kernel_rfl) (fun ids w2 hp hf => hr2_eq ▸ xexec_any hr1.i p1 q1 p2 q2 es1 2 hv1 e1 f1 e2 f2 w2 (hr1_fit.at_ hm1 hf.x.1.2.1) (by rw [es_len hm1]; decide) (by decide) (hv1_fit.at_ hf.x.2)) (by intros; kernel_rfl) (by kernel_rfl) (by kernel_rfl) (by intros; kernel_rfl) ?_
    intro g1 h1 g2 h2 es2 oa2 oc2 hm2 hdj2 hsm2 hso2 hn2
    refine node_ex (R := hr3) (fun ids => #[imV hr2.i g1 h1 g2 h2, .int .i64 3, vlV hv3 none 0 (some ⟨idAt ids 3, 0, none⟩) 2]) (by intros; kernel_rfl) (fun ids w2 hp hf => hr3_eq ▸ xexec_any hr2.i g1 h1 g2 h2 es2 3 hv3 none 0 (some ⟨idAt ids 3, 0, none⟩) 2 w2 (hr2_fit.at_ hm2 hf.x.2.1) (by rw [es_len hm2]; decide) (by decide) ⟨cl_nil _ _, ints_blk hf 3 3 [.int .i64 (.lit 2), .int .i64 (.lit 4)] [2, 4] rfl (by kernel_rfl) (by decide) (by unfold I64; decide), by decide, by decide⟩) (by intros; kernel_rfl) (by kernel_rfl) (by kernel_rfl) (by intros; kernel_rfl) ?_
    intro k1 l1 k2 l2 es3 oa3 oc3 hm3 hdj3 hsm3 hso3 hn3
    refine br_t (by kernel_rfl) ?_
    refine br_t (by kernel_rfl) ?_
    refine br_t (by kernel_rfl) ?_
    refine br_t (by kernel_rfl) ?_
    refine need_k (oa1.isSome = true ∧ (0 : Int) ≤ 0 ∧ (0 : Int) < 1) (by kernel_rfl) ⟨hso1 (by unfold hr1; simp), by decide, by decide⟩ ?_
    refine node_ldk ⟨[9, 1, 1, 2, 1], [], [], [], []⟩ (fun _ => .pointer (some (((oa1.getD ⟨0, 0, none⟩).add (0 * 5)).add 0))) (AnD.cells ⟨9, 1, 1, 2, 1⟩) (by intros; kernel_rfl) (by intros; kernel_rfl) (fun ids w2 hp hf => an_all (l := hr1.an) 0 rfl hf.x.1.1.1.2.2) (by kernel_rfl) oneNil ?_
    refine br_t (by kernel_rfl) ?_
    refine br_t (by kernel_rfl) ?_
    refine need_k (oa2.isSome = true ∧ (0 : Int) ≤ 0 ∧ (0 : Int) < 1) (by kernel_rfl) ⟨hso2 (by unfold hr2; simp), by decide, by decide⟩ ?_
    refine node_ldk ⟨[9, 1, 1, 2, 1], [], [], [], []⟩ (fun _ => .pointer (some (((oa2.getD ⟨0, 0, none⟩).add (0 * 5)).add 0))) (AnD.cells ⟨9, 1, 1, 2, 1⟩) (by intros; kernel_rfl) (by intros; kernel_rfl) (fun ids w2 hp hf => an_all (l := hr2.an) 0 rfl hf.x.1.2.2) (by kernel_rfl) oneNil ?_
    refine br_t (by kernel_rfl) ?_
    refine br_t (by kernel_rfl) ?_
    refine br_t (by kernel_rfl) ?_
    refine node_PI ⟨[], [true], [], [], []⟩ (fun ids => #[.slice k1 2 l1, .slice (some ⟨idAt ids 6, 0, none⟩) 2 2]) (.bool true) (by intros; kernel_rfl) (by intros; kernel_rfl) (by kernel_rfl) (by kernel_rfl) (by kernel_rfl) oneNil (fun ids w2 hp hf => intsB_any k1 l1 [2, 4] (some ⟨idAt ids 6, 0, none⟩) 2 [2, 4] w2 (Ints.of_cells (by decide) (by unfold I64; decide) hf.x.2.1.1) (ints_blk hf 6 3 [.int .i64 (.lit 2), .int .i64 (.lit 4)] [2, 4] rfl (by kernel_rfl) (by decide) (by unfold I64; decide)) (by decide)) ?_
    refine br_t (by kernel_rfl) ?_
    exact pure_done (by intros; kernel_rfl)
end Go.Proofs.Ytfjiolgdcphjhaa

namespace Go.Proofs.Ytfjiolgdcphjhaa
open Go.ChangeShapes Go.WideShapes Go.ChangeAt Go.RowKit Go.Syn Go.Eng
set_option linter.unusedVariables false
set_option linter.unusedSimpArgs false
set_option maxRecDepth 100000
structure Pv where
  v : Vl
  a1 : Option Addr
  c1 : Nat
  a2 : Option Addr
  c2 : Nat
def Pv.cells (p : Pv) : List Value := [.int .i64 p.v.k, .slice p.a1 p.v.cs.length p.c1, .slice p.a2 p.v.ns.length p.c2]
def imOk (I : Im) : Prop := VI I ∧ I.regs.length = 16 ∧ ∀ x ∈ I.mem, I64 x
theorem imOk.fit {I : Im} (h : imOk I) : ImFit I := ⟨h.2.2, by have := h.1.fit.1; omega, h.2.1⟩
structure ExecOk (I : Im) (slot : Int) (v : Vl) (R : ExR) : Prop where
  e : R.e = 0
  i : R.i = (runAll (goI I slot v) v.cs).1
  an : R.an = (runAll (goI I slot v) v.cs).2
  ok : imOk R.i
  sl : R.i.sl = slot
  mem : R.i.mem = if v.k = 2 then v.ns else I.mem
  ep : R.i.ep = if v.k = 2 then I.ep + 1 else I.ep
  len : R.an.length = v.cs.length
  rest : v.cs = [] → R.i.regs = I.regs ∧ R.i.tb = I.tb
end Go.Proofs.Ytfjiolgdcphjhaa

namespace Go.Proofs.Ytfjiolgdcphjhaa
open Go.ChangeShapes Go.WideShapes Go.ChangeAt Go.RowKit Go.Syn Go.Eng
set_option linter.unusedVariables false
set_option linter.unusedSimpArgs false
set_option maxRecDepth 100000
def krow (a : Option Addr) (c : Nat) (M : List KpD) : HX := HX.rw 4 116 a M.length c (kcells M)
theorem krow_snoc (a : Option Addr) (c : Nat) (M : List KpD) (x : KpD) : HX.rw 4 116 a (M.length + 1) c (kcells M ++ x.cells) = krow a c (M ++ [x]) := by
  unfold krow kcells
  rw [List.length_append, List.flatMap_append]; simp
def Apart (W : World) (T : HX) (h : HX) : Prop := ∀ q, h.F q → W.heap.size ≤ q ∧ ¬ T.F q
theorem kp_one1 (k : KpD) : ∀ v ∈ k.cells, v.oneCell' = true := fun v hv => by
  unfold KpD.cells at hv
  simp only [List.mem_cons, List.not_mem_nil, or_false] at hv
  rcases hv with rfl | rfl | rfl | rfl <;> rfl
section
variable {C : Cfg} {ρ : Env} {pre : List Nat} {rest : HX} {L : Stack} {m m' : Mem} {ty : Nat} {ps : List (Nat × SV)} {t : Tree}
theorem node_kpush {so xo : Operand} {ac : Go.Call} {r : SV} {e2 : Nat} {lvs : List LV} (hC : C.P = Try.prog) (hac : ac = { callee := .builtin .append, args := #[so, xo], argTypes := #[112, 112] }) (a : Option Addr) (cap : Nat) (M : List KpD) (x : KpD) (bn : Nat) (hso : ∀ ids, envOf ρ ids ps so = .slice a M.length cap) (hxo : ∀ ids, envOf ρ ids ps xo = .slice (some ⟨idAt ids bn, 0, none⟩) 1 1)
    (hn : m.hp[bn]? = some (e2, lvs)) (hlv : ∀ ids, cellsDen ρ ids lvs = x.cells) (hap : Apart C.W rest (krow a cap M)) (hl : M.length ≤ 1000000)
    (hr : ∀ a' cap' ids, r.den (ρ.add ⟨[], [], [], [M.length + 1, cap'], [a']⟩) ids = .slice a' (M.length + 1) cap') (hhp : m'.hp = m.hp) (hfit : hpFits m.c m.hp.length m.hp = true) (hc : ∀ a' cap', (ρ.add ⟨[], [], [], [M.length + 1, cap'], [a']⟩).cnt = m'.c)
    (h : ∀ a' cap', Apart C.W rest (krow a' cap' (M ++ [x])) → t.holds C (ρ.add ⟨[], [], [], [M.length + 1, cap'], [a']⟩) pre (rest.and (krow a' cap' (M ++ [x]))) L) :
    (Tree.gen (.call ac) ty ps m (some r) m' t).holds C ρ pre (rest.and (krow a cap M)) L := by
  obtain ⟨P, W, MM, R⟩ := C
  cases hC
  refine node_pushs (z := .agg #[.int .i64 0, .int .i64 0, .int .i64 0, .int .i64 0]) (sz := 4) (bytes := 32) hac (by kernel_rfl) info_kp rfl (by decide) a M.length cap (kcells M) x.cells bn hso hxo hn hlv rfl (kp_one1 x) (fun q h1 h2 hF => (hap q ⟨h1, h2⟩).2 hF) (fun q h1 h2 => .inl (hap q ⟨h1, h2⟩).1) (by simp [maxLen]; omega) (by omega) hr hhp hfit hc ?_
  intro a' c' hc' hdis hwh
  rw [krow_snoc]
  refine h a' c' fun q hq => ⟨?_, hdis q hq.2⟩
  rcases hwh with ⟨z1, z2⟩ | ⟨g, z1, z2, z3⟩
  · exact (hap q ⟨z1, by rw [← z2]; exact hq.2⟩).1
  · rw [hq.2] at z1; cases z1; exact z2
end
structure RepR where
  k : Int
  re : Int
  im : Int
  d : Bool
end Go.Proofs.Ytfjiolgdcphjhaa

namespace Go.Proofs.Ytfjiolgdcphjhaa
open Go.ChangeShapes Go.WideShapes Go.ChangeAt Go.RowKit Go.Syn Go.Eng
set_option linter.unusedVariables false
set_option linter.unusedSimpArgs false
set_option maxRecDepth 100000
theorem krow_nil (a : Option Addr) (w : World) : (krow a 0 []).X w := HX.rw_nil _ _ _ _
theorem krow_none (a : Option Addr) (q : Nat) : ¬ (krow a 0 []).F q := fun h => h.1 rfl
end Go.Proofs.Ytfjiolgdcphjhaa

namespace Go.Proofs.Ytfjiolgdcphjhaa
open Go.ChangeShapes Go.WideShapes Go.ChangeAt Go.RowKit Go.Syn Go.Eng
set_option linter.unusedVariables false
set_option linter.unusedSimpArgs false
set_option maxRecDepth 100000
def srow (a : Option Addr) (c : Nat) (M : List SE) : HX := HX.rw 3 114 a M.length c (secells M)
theorem srow_snoc (a : Option Addr) (c : Nat) (M : List SE) (x : SE) : HX.rw 3 114 a (M.length + 1) c (secells M ++ x.cells) = srow a c (M ++ [x]) := by
  unfold srow secells
  rw [List.length_append, List.flatMap_append]; simp
theorem se_one1 (e : SE) : ∀ v ∈ e.cells, v.oneCell' = true := fun v hv => by
  unfold SE.cells at hv
  simp only [List.mem_cons, List.not_mem_nil, or_false] at hv
  rcases hv with rfl | rfl | rfl <;> rfl
theorem srow_nil (a : Option Addr) (w : World) : (srow a 0 []).X w := HX.rw_nil _ _ _ _
theorem srow_none (a : Option Addr) (q : Nat) : ¬ (srow a 0 []).F q := fun h => h.1 rfl
section
variable {C : Cfg} {ρ : Env} {pre : List Nat} {rest : HX} {L : Stack} {m m' : Mem} {ty : Nat} {ps : List (Nat × SV)} {t : Tree}
theorem node_spush {so xo : Operand} {ac : Go.Call} {r : SV} {e2 : Nat} {lvs : List LV} (hC : C.P = Try.prog) (hac : ac = { callee := .builtin .append, args := #[so, xo], argTypes := #[26, 26] }) (a : Option Addr) (cap : Nat) (M : List SE) (x : SE) (bn : Nat) (hso : ∀ ids, envOf ρ ids ps so = .slice a M.length cap) (hxo : ∀ ids, envOf ρ ids ps xo = .slice (some ⟨idAt ids bn, 0, none⟩) 1 1)
    (hn : m.hp[bn]? = some (e2, lvs)) (hlv : ∀ ids, cellsDen ρ ids lvs = x.cells) (hap : Apart C.W rest (srow a cap M)) (hl : M.length ≤ 1000000)
    (hr : ∀ a' cap' ids, r.den (ρ.add ⟨[], [], [], [M.length + 1, cap'], [a']⟩) ids = .slice a' (M.length + 1) cap') (hhp : m'.hp = m.hp) (hfit : hpFits m.c m.hp.length m.hp = true) (hc : ∀ a' cap', (ρ.add ⟨[], [], [], [M.length + 1, cap'], [a']⟩).cnt = m'.c)
    (h : ∀ a' cap', Apart C.W rest (srow a' cap' (M ++ [x])) → t.holds C (ρ.add ⟨[], [], [], [M.length + 1, cap'], [a']⟩) pre (rest.and (srow a' cap' (M ++ [x]))) L) :
    (Tree.gen (.call ac) ty ps m (some r) m' t).holds C ρ pre (rest.and (srow a cap M)) L := by
  obtain ⟨P, W, MM, R⟩ := C
  cases hC
  refine node_pushs (z := .agg #[.int .i64 0, .int .i64 0, .slice none 0 0]) (sz := 3) (bytes := 40) hac (by kernel_rfl) info_se rfl (by decide) a M.length cap (secells M) x.cells bn hso hxo hn hlv rfl (se_one1 x) (fun q h1 h2 hF => (hap q ⟨h1, h2⟩).2 hF) (fun q h1 h2 => .inl (hap q ⟨h1, h2⟩).1) (by simp [maxLen]; omega) (by omega) hr hhp hfit hc ?_
  intro a' c' hc' hdis hwh
  rw [srow_snoc]
  refine h a' c' fun q hq => ⟨?_, hdis q hq.2⟩
  rcases hwh with ⟨z1, z2⟩ | ⟨g, z1, z2, z3⟩
  · exact (hap q ⟨z1, by rw [← z2]; exact hq.2⟩).1
  · rw [hq.2] at z1; cases z1; exact z2
end
end Go.Proofs.Ytfjiolgdcphjhaa

namespace Go.Proofs.Ytfjiolgdcphjhaa
open Go.ChangeShapes Go.WideShapes Go.ChangeAt Go.RowKit Go.Syn Go.Eng
set_option linter.unusedVariables false
set_option linter.unusedSimpArgs false
set_option maxRecDepth 100000
section
variable {C : Cfg} {ρ : Env} {pre : List Nat} {hx : HX} {L : Stack} {m : Mem}
end
theorem rvalid20_any (I : Im) (a1 : Option Addr) (c1 : Nat) (a2 : Option Addr) (c2 : Nat) (es : List SE) (w : World) (H : ImAt w I a1 a2 es) : Calls Try.prog 17 #[imV I a1 c1 a2 c2] w (PureAt w (.bool (validI I))) := by
  refine calls_at (tab_ok _) Try.func17 rfl tXRValid (ρ := ⟨imI I, [], [], [I.mem.length, c1, I.tb.length, c2], [a1, a2]⟩) (ids := []) (hx := HX.nil) (by kernel_rfl) (Facts.initP rfl oneNil) ?_
  obtain ⟨V, eV⟩ : ∃ V, V = validI I := ⟨_, rfl⟩
  rw [← eV]
  have keep : ∀ {m : Mem} {ρ : Env} {ids : List Nat} {hx : HX} {w2 : World} {R : Ending → World → Prop}, Facts ⟨Try.prog, w, fun _ => False, R⟩ m ρ ids hx w2 → ImAt w2 I a1 a2 es := fun hf => H.keep (fun k hk => hf.chg.block k hk (fun q => q))
  unfold validI at eV
  have hck : decide (checkV I.mem = 0) = setOkB I.mem := by
    rcases Bool.eq_false_or_eq_true (setOkB I.mem) with q | q
    · rw [q, decide_eq_true (check_zero.2 q)]
    · rw [q, decide_eq_false (fun z => by rw [check_zero.1 z] at q; cases q)]
  rw [hck] at eV
  by_cases h1 : 0 ≤ I.ep
  case' neg => exact br_F (decide (I.ep ≥ 0)) (by kernel_rfl) (decide_eq_false h1) (pure_done (by intros; rw [show V = false from by rw [eV]; simp [h1]]; kernel_rfl))
  refine br_T (decide (I.ep ≥ 0)) (by kernel_rfl) (decide_eq_true h1) ?_
  by_cases h2 : I.ep ≤ 1099511627776
  case' neg => exact br_F (decide (I.ep ≤ 1099511627776)) (by kernel_rfl) (decide_eq_false h2) (pure_done (by intros; rw [show V = false from by rw [eV]; simp [h2]]; kernel_rfl))
  refine br_T (decide (I.ep ≤ 1099511627776)) (by kernel_rfl) (decide_eq_true h2) ?_
  by_cases h3 : 0 ≤ I.sl
  case' neg => exact br_F (decide (I.sl ≥ 0)) (by kernel_rfl) (decide_eq_false h3) (pure_done (by intros; rw [show V = false from by rw [eV]; simp [h3]]; kernel_rfl))
  refine br_T (decide (I.sl ≥ 0)) (by kernel_rfl) (decide_eq_true h3) ?_
  by_cases h4 : I.sl ≤ 1099511627776
  case' neg => exact br_F (decide (I.sl ≤ 1099511627776)) (by kernel_rfl) (decide_eq_false h4) (pure_done (by intros; rw [show V = false from by rw [eV]; simp [h4]]; kernel_rfl))
  refine br_T (decide (I.sl ≤ 1099511627776)) (by kernel_rfl) (decide_eq_true h4) ?_
  refine node_P ⟨[], [setOkB I.mem], [], [], []⟩ #[.slice a1 I.mem.length c1] (.bool (setOkB I.mem)) (by intros; kernel_rfl) (by intros; kernel_rfl) (by kernel_rfl) (by kernel_rfl) (by kernel_rfl) oneNil (fun ids w2 hp hf => refRight_any a1 c1 I.mem w2 (keep hf).mem) ?_
  by_cases h5 : setOkB I.mem = true
  case' neg => exact br_F (setOkB I.mem) (by kernel_rfl) (by simpa using h5) (pure_done (by intros; rw [show V = false from by rw [eV]; simp [h5]]; kernel_rfl))
  refine br_T (setOkB I.mem) (by kernel_rfl) h5 ?_
  refine node_P ⟨[], [validL I.regs], [], [], []⟩ #[.agg ((rgs I.regs).map (Value.int .i64)).toArray] (.bool (validL I.regs)) (by intros; kernel_rfl) (by intros; kernel_rfl) (by kernel_rfl) (by kernel_rfl) (by kernel_rfl) oneNil (fun ids w2 hp hf => by have := refValid_any (rgs I.regs) rfl w2; rw [rgs_of H.reg] at this ⊢; exact this) ?_
  by_cases h6 : validL I.regs = true
  case' neg => exact br_F (validL I.regs) (by kernel_rfl) (by simpa using h6) (pure_done (by intros; rw [show V = false from by rw [eV]; simp [h6]]; kernel_rfl))
  refine br_T (validL I.regs) (by kernel_rfl) h6 ?_
  refine node_P ⟨[], [validT I.tb], [], [], []⟩ #[.slice a2 I.tb.length c2] (.bool (validT I.tb)) (by intros; kernel_rfl) (by intros; kernel_rfl) (by kernel_rfl) (by kernel_rfl) (by kernel_rfl) oneNil (fun ids w2 hp hf => by have := rvalid_any a2 c2 es w2 (keep hf).tab; rw [H.tb, H.len] at this; exact this) ?_
  exact pure_done (by intros; rw [show V = validT I.tb from by rw [eV]; simp [h1, h2, h3, h4, h5, h6]]; kernel_rfl)
theorem rcopy20_any (I : Im) (a1 : Option Addr) (c1 : Nat) (a2 : Option Addr) (c2 : Nat) (es : List SE) (w : World) (H : ImAt w I a1 a2 es) (hl : I.mem.length * 8 ≤ 140737488355328) (hl2 : es.length * 40 ≤ 140737488351232) (hk : ∀ e ∈ es, e.s.kept.length * 32 ≤ 140737488351232) : Calls Try.prog 10 #[imV I a1 c1 a2 c2] w (ImNew w id I) := by
  refine calls_at (tab_ok _) Try.func10 rfl tXRCopy (ρ := ⟨imI I, [], [], [I.mem.length, c1, I.tb.length, c2], [a1, a2]⟩) (ids := []) (hx := HX.nil) (by kernel_rfl) (Facts.initP rfl oneNil) ?_
  have keep : ∀ {m : Mem} {ρ : Env} {ids : List Nat} {hx : HX} {w2 : World} {R : Ending → World → Prop}, Facts ⟨Try.prog, w, fun _ => False, R⟩ m ρ ids hx w2 → ImAt w2 I a1 a2 es := fun hf => H.keep (fun k hk => hf.chg.block k hk (fun q => q))
  refine node_clones (sz := 1) (z := .int .i64 0) (bytes := 8) rfl Try.underlying22 info_int1 rfl (by decide) 2 rfl (fun _ => a1) I.mem.length c1 (I.mem.map (Value.int .i64)) (by simp) (fun ids w2 hp hf => (keep hf).mem.cells) (fun u hu => by obtain ⟨x, _, rfl⟩ := List.mem_map.1 hu; rfl) (by simp only [maxLen]; omega) (by omega) (by intros; kernel_rfl) (by intros; kernel_rfl) (by intros; kernel_rfl) (by kernel_rfl) (by kernel_rfl) (by intros; kernel_rfl) ?_
  intro b1 d1 hn1
  refine node_tb (V := id) (tb := I.tb) (fun _ => #[.slice a2 I.tb.length c2]) (fun a' c' => ⟨[], [], [], [I.tb.length, c'], [a']⟩) (by intros; kernel_rfl) (fun ids w2 hp hf => by
    have := rcopy_any a2 c2 es w2 (keep hf).tab hl2 hk
    rw [H.tb, H.len] at this; exact this) (by intros; kernel_rfl) (by kernel_rfl) (by kernel_rfl) (by intros; kernel_rfl) (fun _ _ => oneNil) ?_
  intro b2 d2 es2 hm hdj hsm hn2
  intro ids w2 hp hf
  have hcl := rw_cl hf.x.1.2
  refine ⟨b1, d1, b2, d2, es2, hm, by kernel_rfl, hdj, fun q hq hk => (hn2 q hq).2 (.inr (hcl.2 q hk)), ⟨hcl.1, hf.x.2⟩, ?_, hf.chg.below⟩
  rintro k (hk | hk)
  · exact (hn1 k (hcl.2 k hk).1 (hcl.2 k hk).2).1
  · exact (hn2 k hk).1
end Go.Proofs.Ytfjiolgdcphjhaa

namespace Go.Proofs.Ytfjiolgdcphjhaa
open Go.ChangeShapes Go.WideShapes Go.ChangeAt Go.RowKit Go.Syn Go.Eng
set_option linter.unusedVariables false
set_option linter.unusedSimpArgs false
set_option maxRecDepth 100000
def tbX (a : Option Addr) (es : List SE) : HX := ⟨fun k => (HX.cl a (secells es)).F k ∨ ∃ e ∈ es, (HX.cl e.a (kcells e.s.kept)).F k, fun w => TbAt w a es, fun w w' h he => ⟨(HX.cl a (secells es)).loc w w' h.row fun k hk => he k (.inl hk), fun e hm => (HX.cl e.a (kcells e.s.kept)).loc w w' (h.each e hm) fun k hk => he k (.inr ⟨e, hm, hk⟩)⟩⟩
def imR (I : Im) (a1 a2 : Option Addr) (es : List SE) : HX := (HX.cl a1 (I.mem.map (Value.int .i64))).and (tbX a2 es)
theorem imR_of {I : Im} {a1 a2 : Option Addr} {c2 : Nat} {es : List SE} {w : World} (h : (imX I a1 a2 c2 es).X w) : (imR I a1 a2 es).X w ∧ ∀ k, (imR I a1 a2 es).F k → (imX I a1 a2 c2 es).F k := by
  refine ⟨⟨h.1, tabR_at h.2⟩, ?_⟩
  rintro k (hk | hk | ⟨e, hm, hk⟩)
  · exact .inl hk
  · exact .inr (.inr ((rw_cl h.2.2).2 k hk))
  · exact .inr (.inl ⟨e, hm, (rw_cl (h.2.1 e hm)).2 k hk⟩)
structure ImBig (I : Im) : Prop where
  mem : ∀ x ∈ I.mem, I64 x
  len : I.mem.length * 8 ≤ 140737488351232
  reg : I.regs.length = 16
  tb : I.tb.length * 40 ≤ 140737488351232
  kept : ∀ s ∈ I.tb, s.kept.length * 32 ≤ 140737488351232
theorem imOk.big {I : Im} (h : imOk I) : ImBig I := ⟨h.2.2, by have := h.1.fit.1; omega, h.2.1, by have := h.1.fit.2; omega, fun s hs => by have := (h.1.tb.each s hs).len; omega⟩
theorem ImBig.at_ {I : Im} (h : ImBig I) {a1 a2 : Option Addr} {es : List SE} {w : World} (he : es.map SE.s = I.tb) (hX : (imR I a1 a2 es).X w) : ImAt w I a1 a2 es :=
  ⟨he, Ints.of_cells (by have := h.len; omega) h.mem hX.1, hX.2, h.reg⟩
theorem ImBig.kept' {I : Im} (h : ImBig I) {es : List SE} (he : es.map SE.s = I.tb) : ∀ e ∈ es, e.s.kept.length * 32 ≤ 140737488351232 := fun e hm => h.kept e.s (by rw [← he]; exact List.mem_map_of_mem hm)
theorem im0_big : ImBig im0 := ⟨fun x h => (by cases h), by decide, rfl, by decide, fun s h => (by cases h)⟩
def kpDat (k : KpD) : Dat := .parts [.int .i64 k.seq, .parts [.int .i64 k.kind, .int .i64 k.re, .int .i64 k.im]]
def seDat (e : SE) : Dat := .parts [.int .i64 e.s.no, .int .i64 e.s.ack, .sl e.a e.s.kept.length e.c (e.s.kept.map kpDat)]
theorem kp_cells : ∀ l : List KpD, Dat.cellsAll (l.map kpDat) = kcells l
  | [] => rfl
  | c :: r => by
    show Dat.cellsAll (kpDat c :: r.map kpDat) = c.cells ++ kcells r
    rw [← kp_cells r]; rfl
theorem sedat_cells : ∀ l : List SE, Dat.cellsAll (l.map seDat) = secells l
  | [] => rfl
  | c :: r => by
    show Dat.cellsAll (seDat c :: r.map seDat) = c.cells ++ secells r
    rw [← sedat_cells r]; rfl
theorem opn_i {w : World} {d : Dat} (h : d.In Try.prog w 3) : ∃ k : Int, d = .int .i64 k := by
  obtain ⟨k, rfl, hk⟩ := in_int Try.underlying3 h
  exact ⟨k, rfl⟩
def rgDat (p : Int × Int) : Dat := .parts [.int .i64 p.1, .int .i64 p.2]
theorem opn_rg {w : World} {d : Dat} (h : d.In Try.prog w 24) : ∃ p : Int × Int, d = rgDat p ∧ True := by
  obtain ⟨ds, rfl, g⟩ := in_struct Try.underlying24 h
  obtain ⟨d0, r0, rfl, h0, g0⟩ := inEach_cons g
  obtain ⟨d1, r1, rfl, h1, g1⟩ := inEach_cons g0
  obtain rfl := inEach_nil g1
  obtain ⟨x0, rfl⟩ := opn_i h0
  obtain ⟨x1, rfl⟩ := opn_i h1
  exact ⟨(x0, x1), rfl, trivial⟩
theorem list8 {α : Type} : ∀ (l : List α), l.length = 8 → ∃ a b c d e f g h, l = [a, b, c, d, e, f, g, h]
  | [a, b, c, d, e, f, g, h], _ => ⟨a, b, c, d, e, f, g, h, rfl⟩
end Go.Proofs.Ytfjiolgdcphjhaa

namespace Go.Proofs.Ytfjiolgdcphjhaa
open Go.ChangeShapes Go.WideShapes Go.ChangeAt Go.RowKit Go.Syn Go.Eng
set_option linter.unusedVariables false
set_option linter.unusedSimpArgs false
set_option maxRecDepth 100000
def kpN (k : KpD) : List Int := [k.seq, k.kind, k.re, k.im]
def sesN (s : SsD) : List Int := [s.no, s.ack, (s.kept.length : Int)] ++ s.kept.flatMap kpN
def numsI (I : Im) : List Int := [I.ep, I.sl, (I.mem.length : Int)] ++ I.mem ++ rgs I.regs ++ [(I.tb.length : Int)] ++ I.tb.flatMap sesN
def intsL (l : List Int) : List Int := l.flatMap fun i => numB (foldN i)
theorem intsL_app (l m : List Int) : intsL l ++ intsL m = intsL (l ++ m) := by unfold intsL; rw [List.flatMap_append]
theorem intsL_len : ∀ {l : List Int}, (∀ x ∈ l, I64 x) → (intsL l).length ≤ 9 * l.length
  | [], _ => by simp [intsL]
  | x :: l, h => by
    have h1 := intsL_len (l := l) fun y hy => h y (List.mem_cons_of_mem _ hy)
    have h2 := numI_len (h x List.mem_cons_self)
    unfold intsL at h1 ⊢
    rw [List.flatMap_cons, List.length_append, List.length_cons]; omega
theorem kpN_flat_len (l : List KpD) : (l.flatMap kpN).length = 4 * l.length := by
  induction l with
  | nil => rfl
  | cons x l ih => rw [List.flatMap_cons, List.length_append, ih, List.length_cons]; show 4 + _ = _; omega
theorem sesN_len (s : SsD) : (sesN s).length = 3 + 4 * s.kept.length := by
  unfold sesN
  rw [List.length_append, kpN_flat_len]; rfl
theorem sesN_flat_len : ∀ {t : List SsD}, (∀ s ∈ t, s.kept.length ≤ 8) → (t.flatMap sesN).length ≤ 35 * t.length
  | [], _ => by simp
  | s :: t, h => by
    have h1 := sesN_flat_len (t := t) fun y hy => h y (List.mem_cons_of_mem _ hy)
    have h2 := h s List.mem_cons_self
    rw [List.flatMap_cons, List.length_append, sesN_len, List.length_cons]; omega
theorem nums_len {I : Im} (h : VI I) : (numsI I).length ≤ 600 := by
  have h1 := h.fit
  have h2 := sesN_flat_len (t := I.tb) fun s hs => (h.tb.each s hs).len
  unfold numsI
  simp only [List.length_append, List.length_cons, List.length_nil]
  have : (rgs I.regs).length = 16 := rfl
  omega
def NFit (I : Im) : Prop := ∀ x ∈ numsI I, I64 x
theorem Facts.init2 {P : Program} {w : World} {R : Ending → World → Prop} {ρ : Env} {c : Cnt} {hx : HX} {M : Nat → Prop} {b0 b1 t0 t1 : Nat} {c0 c1 : List LV} {u0 u1 : List Value} (hc : ρ.cnt = c) (h1 : ∀ v, v ∈ ρ.v → v.oneCell' = true) (h0b : Blk w b0 u0 t0) (h1b : Blk w b1 u1 t1) (e0 : cellsDen ρ [b0, b1] c0 = u0) (e1 : cellsDen ρ [b0, b1] c1 = u1) (hne : b0 ≠ b1)
    (hM0 : M b0) (hM1 : M b1) (hX : hx.X w) (hsep : ∀ k, hx.F k → k < w.heap.size ∧ k ≠ b0 ∧ k ≠ b1) : Facts ⟨P, w, M, R⟩ ⟨[(t0, c0), (t1, c1)], c⟩ ρ [b0, b1] hx w := by
  subst e0; subst e1
  refine ⟨rfl, by simp [hne], fun n ty cs hn => ?_, fun id hid => .inr ?_, Chg.refl _ _, hX, fun b hb => ⟨(hsep b hb).1, by simp only [List.mem_cons, List.not_mem_nil, or_false, not_or]; exact (hsep b hb).2⟩, ⟨hc, h1⟩⟩
  · match n, hn with
    | 0, hn => simp only [List.getElem?_cons_zero, Option.some.injEq, Prod.mk.injEq] at hn; obtain ⟨rfl, rfl⟩ := hn; exact h0b
    | 1, hn => simp only [List.getElem?_cons_succ, List.getElem?_cons_zero, Option.some.injEq, Prod.mk.injEq] at hn; obtain ⟨rfl, rfl⟩ := hn; exact h1b
    | n + 2, hn => simp at hn
  · simp only [List.mem_cons, List.not_mem_nil, or_false] at hid
    rcases hid with rfl | rfl
    · exact hM0
    · exact hM1
def E1I (W : World) (a : Option Addr) (cap : Nat) (b0 : List Int) (xs : List Int) (vs : Vals) (hx : HX) : Prop := ∃ (k : Nat) (a' : Option Addr) (cap' : Nat), k ≤ xs.length ∧ Fr W a cap a' cap' ∧
  vs = ⟨[(k : Int)], [], [], [(b0 ++ intsL (xs.take k)).length, cap'], [a']⟩ ∧ hx = HX.nil.and (frow a' cap' (b0 ++ intsL (xs.take k)))
set_option maxHeartbeats 1000000 in
theorem xenc1_any (nb tb : Nat) (a : Option Addr) (cap : Nat) (bs : List Int) (sa : Option Addr) (sc : Nat) (xs : List Int) (w : World) (H : WAt w nb a cap bs) (HT : Blk w tb [.pointer (some ⟨nb, 0, none⟩)] 108) (hne : nb ≠ tb) (htr : ∀ k, cap ≠ 0 → abk a = some k → k ≠ tb) (HX_ : Ints w sa xs) (hl : bs.length + 9 * xs.length ≤ 140737488350000) (hxl : xs.length ≤ 1000000)
    (hd : xs ≠ [] → blk sa ≠ nb ∧ blk sa ≠ tb ∧ ¬ (cap ≠ 0 ∧ abk a = some (blk sa))) : Calls Try.prog 58 #[.slice sa xs.length sc, .pointer (some ⟨tb, 0, none⟩)] w (WR w nb a cap (bs ++ intsL xs) (.tuple #[])) := by
  obtain ⟨M, eM⟩ : ∃ M : Nat → Prop, M = fun x => x = tb ∨ (x = nb ∨ (cap ≠ 0 ∧ abk a = some x)) := ⟨_, rfl⟩
  have hsepr : ∀ k, (frow a cap bs).F k → k < w.heap.size ∧ k ≠ nb ∧ k ≠ tb := fun k hk => ⟨(H.sep k hk).1, (H.sep k hk).2, htr k hk.1 hk.2⟩
  refine calls_at (tab_ok _) Try.func58 rfl tXEnc1 (ρ := ⟨[], [], [], [xs.length, sc, bs.length, cap], [sa, a]⟩) (ids := [nb, tb]) (hx := HX.nil.and (frow a cap bs)) (M := M) (by kernel_rfl) (Facts.init2 rfl oneNil H.blk HT (by kernel_rfl) (by kernel_rfl) hne (by rw [eM]; exact .inr (.inl rfl)) (by rw [eM]; exact .inl rfl) ⟨trivial, H.mem⟩ (fun k hk => hk.elim (fun q => q.elim) (hsepr k))) ?_
  refine loop_i (E1I w a cap bs xs) (fun vs => xs.length - (vs.i.headD 0).toNat) (fun ids w2 hp hf => ⟨_, ⟨hf.x, hf.sep⟩, 0, a, cap, Nat.zero_le _, fun k h1 h2 => .inl ⟨h1, h2⟩, by rw [show bs ++ intsL (xs.take 0) = bs by simp [intsL]]; kernel_rfl, by rw [show bs ++ intsL (xs.take 0) = bs by simp [intsL]]⟩) ?_
  rintro vs hx' hcnt ⟨k, a', cap', hk, hfr, rfl, rfl⟩
  obtain ⟨B, eB⟩ : ∃ B, B = bs ++ intsL (xs.take k) := ⟨_, rfl⟩
  rw [← eB] at hcnt ⊢
  by_cases hlt : k < xs.length
  case' neg =>
    refine br_F (decide ((k : Int) < (xs.length : Int))) (by kernel_rfl) (decide_eq_false (by omega)) ?_
    intro ids w2 hp hf
    have e0 : idAt ids 0 = nb := idAt0 (List.IsPrefix.trans ⟨[tb], rfl⟩ hp)
    have e1 : idAt ids 1 = tb := by
      obtain ⟨s, rfl⟩ := hp
      rfl
    have hb0 := hf.blkAt 0 rfl
    have hb1 := hf.blkAt 1 rfl
    rw [e0] at hb0
    rw [e1] at hb1
    rw [List.take_of_length_le (by omega)] at eB
    refine ⟨a', cap', by kernel_rfl, ?_, ?_, ?_, hfr⟩
    · rw [← eB]; exact hb0.trans (by kernel_rfl)
    · rw [← eB]; exact hf.x.2
    · have hch := hf.chg
      rw [eM] at hch
      have : w2.heap[tb]? = w.heap[tb]? := hb1.trans (Eq.trans (b := some (.cells #[.pointer (some ⟨idAt ids 0, 0, none⟩)] 108 (0, 0))) (by kernel_rfl) (by rw [e0]; exact HT.symm))
      exact Chg.but hch this
  refine br_T (decide ((k : Int) < (xs.length : Int))) (by kernel_rfl) (decide_eq_true (by omega)) ?_
  obtain ⟨x, hx⟩ : ∃ x, xs[k]? = some x := ⟨_, List.getElem?_eq_getElem hlt⟩
  have hxm := List.mem_of_getElem? hx
  have hel := ints_elt HX_ hx
  have hxne : xs ≠ [] := fun q => by rw [q] at hlt; simp at hlt
  obtain ⟨d1, d2, d3⟩ := hd hxne
  refine need_k (sa.isSome = true ∧ (0 : Int) ≤ k ∧ (k : Int) < xs.length) (by kernel_rfl) ⟨hel.1, by omega, by omega⟩ ?_
  refine node_ld0 (k := ⟨1, 0, 0, 6, 3⟩) ⟨[x], [], [], [], []⟩ (.pointer (some (((sa.getD ⟨0, 0, none⟩).add (k * 1)).add 0))) [.int .i64 x] (by intros; kernel_rfl) (by intros; kernel_rfl) (hel.2 _ (by
    rw [eM, getD_blk hel.1]
    rintro (q | q | q)
    · exact d2 q
    · exact d1 q
    · exact d3 q)) hcnt (by kernel_rfl) oneNil ?_
  have hBl : B.length ≤ bs.length + 9 * k := by
    rw [eB, List.length_append]
    have := intsL_len (l := xs.take k) fun y hy => HX_.fits y (List.mem_of_mem_take hy)
    rw [List.length_take] at this; omega
  have hxi : I64 x := HX_.fits x hxm
  have hM : ∀ q, cap' ≠ 0 → abk a' = some q → w.heap.size ≤ q ∨ M q := fun q h1 h2 => (hfr q h1 h2).elim (fun z => .inr (by rw [eM]; exact .inr (.inr z))) .inl
  have hnx : B ++ numB (foldN x) = bs ++ intsL (xs.take (k + 1)) := by
    rw [eB, List.append_assoc, List.take_add_one, hx]
    congr 1
    unfold intsL
    rw [List.flatMap_append]
    simp
  refine node_wr (cs' := [.sl 3 (.var 6) (.var 7)]) 0 (fun a3 c3 => ⟨[], [], [], [(B ++ numB (foldN x)).length, c3], [a3]⟩) (fun ids => .pointer (some ⟨idAt ids 0, 0, none⟩)) (fun ids => #[.pointer (some ⟨idAt ids 0, 0, none⟩), .int .i64 x]) rfl rfl (by intros; kernel_rfl) hM (fun q _ _ z => z) (by intros; kernel_rfl) (fun ids w2 hp hf hw => wint_any (idAt ids 0) a' cap' B x hxi w2 hw (by omega)) (by kernel_rfl) (by intros; kernel_rfl) (by intros; kernel_rfl) (by kernel_rfl) (by intros; kernel_rfl) (fun _ _ => oneNil) ?_
  intro a3 c3 hfr3 hor3
  have hwk : IntKind.i64.wrap ((k : Int) + 1) = ((k + 1 : Nat) : Int) := by rw [wrap_i64 (by omega)]; omega
  refine again_V ⟨[((k + 1 : Nat) : Int)], [], [], [(B ++ numB (foldN x)).length, c3], [a3]⟩ rfl (fun ids => Eq.trans (b := ⟨[IntKind.i64.wrap ((k : Int) + 1)], [], [], [(B ++ numB (foldN x)).length, c3], [a3]⟩) (by kernel_rfl) (by rw [hwk])) _ (fun w2 ids hf => ⟨hf.x, hf.sep⟩) ⟨⟨k + 1, a3, c3, hlt, hfr.trans hor3, by rw [hnx], by rw [hnx]⟩, ?_⟩
  show xs.length - (((k + 1 : Nat) : Int)).toNat < xs.length - ((k : Int)).toNat
  omega
section
variable {W : World} {RR : Ending → World → Prop} {ρ : Env} {pre : List Nat} {L : Stack} {m m' : Mem} {args : List SV} {r : SV} {t : Tree}
theorem node_list {a : Option Addr} {cap : Nat} (NL xs : List Int) (sa : List Nat → Option Addr) (sc : Nat) (cs1 cs' : List LV) (hn1 : m.hp[1]? = some (151, cs1)) (hcs1 : ∀ ids, cellsDen ρ ids cs1 = [.slice a (intsL NL).length cap]) (hn2 : m.hp[2]? = some (108, [.ptr 1 0])) (hap : Apart W HX.nil (frow a cap (intsL NL)))
    (hargs : ∀ ids, (args.map (SV.den ρ ids)).toArray = #[.slice (sa ids) xs.length sc, .pointer (some ⟨idAt ids 2, 0, none⟩)])
    (hsa : ∀ ids w, pre <+: ids → Facts ⟨Try.prog, W, fun _ => False, RR⟩ m ρ ids (HX.nil.and (frow a cap (intsL NL))) w → Ints w (sa ids) xs ∧ (xs ≠ [] → blk (sa ids) ≠ idAt ids 1 ∧ blk (sa ids) ≠ idAt ids 2 ∧ ¬ (cap ≠ 0 ∧ abk a = some (blk (sa ids)))))
    (hLf : ∀ x ∈ NL, I64 x) (hl : NL.length + xs.length ≤ 1000)
    (hhp : m'.hp = m.hp.set 1 (151, cs')) (hcs' : ∀ a' cap' ids, cellsDen (ρ.add ⟨[], [], [], [(intsL (NL ++ xs)).length, cap'], [a']⟩) ids cs' = [.slice a' (intsL (NL ++ xs)).length cap']) (hr : r = .tup []) (hfit : hpFits m.c m.hp.length m.hp = true) (hc : ∀ a' cap', (ρ.add ⟨[], [], [], [(intsL (NL ++ xs)).length, cap'], [a']⟩).cnt = m'.c)
    (h : ∀ a' cap', Apart W HX.nil (frow a' cap' (intsL (NL ++ xs))) → t.holds ⟨Try.prog, W, fun _ => False, RR⟩ (ρ.add ⟨[], [], [], [(intsL (NL ++ xs)).length, cap'], [a']⟩) pre (HX.nil.and (frow a' cap' (intsL (NL ++ xs)))) L) :
    (Tree.call 58 args m r m' t).holds ⟨Try.prog, W, fun _ => False, RR⟩ ρ pre (HX.nil.and (frow a cap (intsL NL))) L := by
  subst hr
  have hlen2 : 2 < m.hp.length := by
    rcases Nat.lt_or_ge 2 m.hp.length with q | q
    · exact q
    · rw [List.getElem?_eq_none q] at hn2; cases hn2
  refine node_wr (cs' := cs') 1 (fun a3 c3 => ⟨[], [], [], [(intsL (NL ++ xs)).length, c3], [a3]⟩) (fun ids => .tuple #[]) (fun ids => #[.slice (sa ids) xs.length sc, .pointer (some ⟨idAt ids 2, 0, none⟩)]) rfl hn1 hcs1 (fun q h1 h2 => .inl (hap q ⟨h1, h2⟩).1) (fun q _ _ z => z) hargs (fun ids w2 hp hf hw => ?_) hhp hcs' (fun _ _ _ => rfl) hfit hc (fun _ _ => oneNil) ?_
  · obtain ⟨k1, k2⟩ := hsa ids w2 hp hf
    have hb2 := hf.blkAt 2 hn2
    have := xenc1_any (idAt ids 1) (idAt ids 2) a cap (intsL NL) (sa ids) sc xs w2 hw hb2 (fun e => by
      have := idAt_inj hf.nod (by rw [hf.len]; omega) (by rw [hf.len]; omega) e
      omega) (fun q h1 h2 e => (hf.sep q (.inr ⟨h1, h2⟩)).2 (by rw [e]; exact idAt_mem (by rw [hf.len]; omega))) k1 (by have := intsL_len hLf; omega) (by omega) k2
    rw [intsL_app] at this
    exact this
  · intro a3 c3 h1 h2
    exact h a3 c3 fun q hq => ⟨(h1 q hq.1 hq.2).1.resolve_right (fun z => z), fun z => z⟩
end
def eNI (W : World) (NL : List Int) (t : List SsD) (vs : Vals) (hx : HX) : Prop := ∃ (k : Nat) (a : Option Addr) (cap : Nat), k ≤ t.length ∧ Apart W HX.nil (frow a cap (intsL (NL ++ (t.take k).flatMap sesN))) ∧ vs = ⟨[(k : Int)], [], [], [(intsL (NL ++ (t.take k).flatMap sesN)).length, cap], [a]⟩ ∧ hx = HX.nil.and (frow a cap (intsL (NL ++ (t.take k).flatMap sesN)))
def eKI (W : World) (NL : List Int) (l : List KpD) (vs : Vals) (hx : HX) : Prop := ∃ (k : Nat) (a : Option Addr) (cap : Nat), k ≤ l.length ∧ Apart W HX.nil (frow a cap (intsL (NL ++ (l.take k).flatMap kpN))) ∧ vs = ⟨[(k : Int)], [], [], [(intsL (NL ++ (l.take k).flatMap kpN)).length, cap], [a]⟩ ∧ hx = HX.nil.and (frow a cap (intsL (NL ++ (l.take k).flatMap kpN)))
theorem flat_take {α : Type} (f : α → List Int) {l : List α} {k : Nat} {x : α} (h : l[k]? = some x) : (l.take (k + 1)).flatMap f = (l.take k).flatMap f ++ f x := by
  rw [List.take_add_one, h, List.flatMap_append]; simp
def encB (I : Im) : List Int := if validI I then intsL (numsI I) else []
def encX (I : Im) : Int := if validI I then 0 else 44
theorem lit_ints {P : Program} {W w : World} {M : Nat → Prop} {R : Ending → World → Prop} {m : Mem} {ρ : Env} {ids : List Nat} {a : Option Addr} {cap : Nat} {bs xs : List Int} {ty : Nat} {cs : List LV} (hf : Facts ⟨P, W, M, R⟩ m ρ ids (HX.nil.and (frow a cap bs)) w) (n : Nat) (hn3 : 2 < n) (h : m.hp[n]? = some (ty, cs)) (hc : cellsDen ρ ids cs = xs.map (Value.int .i64)) (hl : xs.length ≤ 1000) (hx : ∀ x ∈ xs, I64 x) :
    Ints w (some ⟨idAt ids n, 0, none⟩) xs ∧ (xs ≠ [] → blk (some ⟨idAt ids n, 0, none⟩) ≠ idAt ids 1 ∧ blk (some ⟨idAt ids n, 0, none⟩) ≠ idAt ids 2 ∧ ¬ (cap ≠ 0 ∧ abk a = some (blk (some ⟨idAt ids n, 0, none⟩)))) := by
  have hlt : n < m.hp.length := by
    rcases Nat.lt_or_ge n m.hp.length with q | q
    · exact q
    · rw [List.getElem?_eq_none q] at h; cases h
  refine ⟨ints_blk hf n ty cs xs h hc hl hx, fun _ => ⟨fun e => ?_, fun e => ?_, fun e => ?_⟩⟩
  · have := idAt_inj hf.nod (by rw [hf.len]; omega) (by rw [hf.len]; omega) (show idAt ids n = idAt ids 1 from e); omega
  · have := idAt_inj hf.nod (by rw [hf.len]; omega) (by rw [hf.len]; omega) (show idAt ids n = idAt ids 2 from e); omega
  · exact (hf.sep _ (.inr ⟨e.1, e.2⟩)).2 (idAt_mem (by rw [hf.len]; exact hlt))
set_option maxHeartbeats 8000000 in
theorem xencode_any (I : Im) (a1 : Option Addr) (c1 : Nat) (a2 : Option Addr) (c2 : Nat) (es : List SE) (w : World) (H : ImAt w I a1 a2 es) (hl : es.length ≤ 4611686018427387904) (hN : NFit I) : Calls Try.prog 25 #[imV I a1 c1 a2 c2] w (NewO w (fun v => .tuple #[v, .int .i64 (encX I)]) (encB I)) := by
  refine calls_at (tab_ok _) Try.func25 rfl tXEnc (ρ := ⟨imI I, [], [], [I.mem.length, c1, I.tb.length, c2], [a1, a2]⟩) (ids := []) (hx := HX.nil) (by kernel_rfl) (Facts.initP rfl oneNil) ?_
  have keep : ∀ {m : Mem} {ρ : Env} {ids : List Nat} {hx : HX} {w2 : World} {R : Ending → World → Prop}, Facts ⟨Try.prog, w, fun _ => False, R⟩ m ρ ids hx w2 → ImAt w2 I a1 a2 es := fun hf => H.keep (fun k hk => hf.chg.block k hk (fun q => q))
  refine node_P ⟨[], [validI I], [], [], []⟩ #[imV I a1 c1 a2 c2] (.bool (validI I)) (by intros; kernel_rfl) (by intros; kernel_rfl) (by kernel_rfl) (by kernel_rfl) (by kernel_rfl) oneNil (fun ids w2 hp hf => xvalid_any I a1 c1 a2 c2 es w2 (keep hf) hl) ?_
  unfold encX encB
  rcases Bool.eq_false_or_eq_true (validI I) with hv | hv
  case' inr =>
    rw [if_neg (by rw [hv]; decide), if_neg (by rw [hv]; decide)]
    refine br_T (!validI I) (by kernel_rfl) (by rw [hv]; rfl) ?_
    intro ids w2 hp hf
    exact ⟨none, 0, by kernel_rfl, HX.rw_nil _ _ _ _, fun k h => absurd rfl h, hf.chg.below⟩
  rw [if_pos hv, if_pos hv]
  have hI := (validI_iff I).1 hv
  refine br_F (!validI I) (by kernel_rfl) (by rw [hv]; rfl) ?_
  have hnl := nums_len hI
  obtain ⟨A0, eA0⟩ : ∃ A0, A0 = [I.ep, I.sl, (I.mem.length : Int)] := ⟨_, rfl⟩
  have hsub : ∀ {l : List Int}, (∀ x ∈ l, x ∈ numsI I) → ∀ x ∈ l, I64 x := fun h x hx => hN x (h x hx)
  refine node_newB 151 ⟨[], [], [], [], []⟩ (cs' := [.nilsl]) (us' := [.slice none 0 0]) (fun w2 => wnew_any w2) (by intros; kernel_rfl) (by kernel_rfl) (by intros; kernel_rfl) (by kernel_rfl) (by kernel_rfl) (by kernel_rfl) oneNil ?_
  have i64nil : ∀ x ∈ ([] : List Int), I64 x := fun x h => (by cases h)
  have app64 : ∀ {l m : List Int}, (∀ x ∈ l, I64 x) → (∀ x ∈ m, I64 x) → ∀ x ∈ l ++ m, I64 x := fun h1 h2 x hx => (List.mem_append.1 hx).elim (h1 x) (h2 x)
  have hA0 : ∀ x ∈ A0, I64 x := hsub (fun x hx => by rw [eA0] at hx; unfold numsI; simp only [List.mem_append]; exact .inl (.inl (.inl (.inl hx))))
  have hmem : ∀ x ∈ I.mem, I64 x := hsub (fun x hx => by unfold numsI; simp only [List.mem_append]; exact .inl (.inl (.inl (.inr hx))))
  have hreg : ∀ x ∈ rgs I.regs, I64 x := hsub (fun x hx => by unfold numsI; simp only [List.mem_append]; exact .inl (.inl (.inr hx)))
  have htl : ∀ x ∈ [(I.tb.length : Int)], I64 x := hsub (fun x hx => by unfold numsI; simp only [List.mem_append]; exact .inl (.inr hx))
  have hses : ∀ x ∈ I.tb.flatMap sesN, I64 x := hsub (fun x hx => by unfold numsI; simp only [List.mem_append]; exact .inr hx)
  have hml := hI.fit.1
  have lA0 : A0.length = 3 := by rw [eA0]; rfl
  have frow0 : Apart w HX.nil (frow none 0 (intsL [])) := fun q hq => absurd rfl hq.1
  refine holds_eq (show HX.nil = HX.nil.and (frow none 0 (intsL [])) from (frow_none _).symm) ?_
  have memk : ∀ {m : Mem} {ρ : Env} {ids : List Nat} {w2 : World} {R : Ending → World → Prop} {a : Option Addr} {cap : Nat} {bs : List Int}, Facts ⟨Try.prog, w, fun _ => False, R⟩ m ρ ids (HX.nil.and (frow a cap bs)) w2 → Apart w HX.nil (frow a cap bs) → 2 < m.hp.length → Ints w2 a1 I.mem ∧ (I.mem ≠ [] → blk a1 ≠ idAt ids 1 ∧ blk a1 ≠ idAt ids 2 ∧ ¬ (cap ≠ 0 ∧ abk a = some (blk a1))) := fun hf hap hlt => ⟨(keep hf).mem, fun hne => by
    have hlt2 := cl_sep H.mem.cells (blk a1) ⟨by simpa using hne, rfl⟩
    refine ⟨fun e => ?_, fun e => ?_, fun e => ?_⟩
    · have : w.heap.size ≤ idAt _ 1 := (hf.own _ (idAt_mem (n := 1) (by rw [hf.len]; omega))).resolve_right (fun z => z)
      omega
    · have : w.heap.size ≤ idAt _ 2 := (hf.own _ (idAt_mem (n := 2) (by rw [hf.len]; omega))).resolve_right (fun z => z)
      omega
    · have := (hap (blk a1) ⟨e.1, e.2⟩).1
      omega⟩
  refine node_list [] A0 (fun ids => some ⟨idAt ids 3, 0, none⟩) 3 [.nilsl] [.sl 2 (.var 4) (.var 5)] rfl (by intros; kernel_rfl) rfl frow0 (by rw [eA0]; intros; kernel_rfl) (fun ids w2 hp hf => lit_ints hf 3 (by decide) rfl (by rw [eA0]; kernel_rfl) (by omega) hA0) i64nil (by simp; omega) (by kernel_rfl) (by intros; kernel_rfl) rfl (by kernel_rfl) (by intros; kernel_rfl) ?_
  intro p0 q0 ap0
  rw [List.nil_append] at ap0 ⊢
  refine node_list A0 I.mem (fun ids => a1) c1 [.sl 2 (.var 4) (.var 5)] [.sl 3 (.var 6) (.var 7)] rfl (by intros; kernel_rfl) rfl ap0 (by intros; kernel_rfl) (fun ids w2 hp hf => memk hf ap0 (by decide)) hA0 (by omega) (by kernel_rfl) (by intros; kernel_rfl) rfl (by kernel_rfl) (by intros; kernel_rfl) ?_
  intro p1 q1 ap1
  obtain ⟨A1, eA1⟩ : ∃ A1, A1 = A0 ++ I.mem := ⟨_, rfl⟩
  have hA1 : ∀ x ∈ A1, I64 x := by rw [eA1]; exact app64 hA0 hmem
  have lA1 : A1.length ≤ 10 := by rw [eA1, List.length_append]; omega
  rw [← eA1] at ap1 ⊢
  have hB0 : ∀ x ∈ [rg I.regs 0, rg I.regs 1], I64 x := fun x hx => hreg x (by unfold rgs; simp only [List.mem_cons, List.not_mem_nil, or_false] at hx ⊢; rcases hx with rfl | rfl <;> simp)
  refine node_list A1 [rg I.regs 0, rg I.regs 1] (fun ids => some ⟨idAt ids 5, 0, none⟩) 2 [.sl 3 (.var 6) (.var 7)] [.sl 4 (.var 8) (.var 9)] rfl (by intros; kernel_rfl) rfl ap1 (by intros; kernel_rfl) (fun ids w2 hp hf => lit_ints hf 5 (by decide) rfl (by kernel_rfl) (by simp) hB0) hA1 (by rw [show [rg I.regs 0, rg I.regs 1].length = 2 from rfl]; omega) (by kernel_rfl) (by intros; kernel_rfl) rfl (by kernel_rfl) (by intros; kernel_rfl) ?_
  intro p2 q2 ap2
  obtain ⟨A2, eA2⟩ : ∃ A2, A2 = A1 ++ [rg I.regs 0, rg I.regs 1] := ⟨_, rfl⟩
  have hA2 : ∀ x ∈ A2, I64 x := by rw [eA2]; exact app64 hA1 hB0
  have lA2 : A2.length ≤ 12 := by rw [eA2, List.length_append, show [rg I.regs 0, rg I.regs 1].length = 2 from rfl]; omega
  rw [← eA2] at ap2 ⊢
  have hB1 : ∀ x ∈ [rg I.regs 2, rg I.regs 3], I64 x := fun x hx => hreg x (by unfold rgs; simp only [List.mem_cons, List.not_mem_nil, or_false] at hx ⊢; rcases hx with rfl | rfl <;> simp)
  refine node_list A2 [rg I.regs 2, rg I.regs 3] (fun ids => some ⟨idAt ids 7, 0, none⟩) 2 [.sl 4 (.var 8) (.var 9)] [.sl 5 (.var 10) (.var 11)] rfl (by intros; kernel_rfl) rfl ap2 (by intros; kernel_rfl) (fun ids w2 hp hf => lit_ints hf 7 (by decide) rfl (by kernel_rfl) (by simp) hB1) hA2 (by rw [show [rg I.regs 2, rg I.regs 3].length = 2 from rfl]; omega) (by kernel_rfl) (by intros; kernel_rfl) rfl (by kernel_rfl) (by intros; kernel_rfl) ?_
  intro p3 q3 ap3
  obtain ⟨A3, eA3⟩ : ∃ A3, A3 = A2 ++ [rg I.regs 2, rg I.regs 3] := ⟨_, rfl⟩
  have hA3 : ∀ x ∈ A3, I64 x := by rw [eA3]; exact app64 hA2 hB1
  have lA3 : A3.length ≤ 14 := by rw [eA3, List.length_append, show [rg I.regs 2, rg I.regs 3].length = 2 from rfl]; omega
  rw [← eA3] at ap3 ⊢
  refine holds_env (ρ' := ⟨imI I, [validI I], [], [I.mem.length, c1, I.tb.length, c2, (intsL A0).length, q0, (intsL A1).length, q1, (intsL A2).length, q2, (intsL A3).length, q3], [a1, a2, p0, p1, p2, p3]⟩) (by kernel_rfl) ?_
  have hB2 : ∀ x ∈ [rg I.regs 4, rg I.regs 5], I64 x := fun x hx => hreg x (by unfold rgs; simp only [List.mem_cons, List.not_mem_nil, or_false] at hx ⊢; rcases hx with rfl | rfl <;> simp)
  refine node_list A3 [rg I.regs 4, rg I.regs 5] (fun ids => some ⟨idAt ids 9, 0, none⟩) 2 [.sl 5 (.var 10) (.var 11)] [.sl 6 (.var 12) (.var 13)] rfl (by intros; kernel_rfl) rfl ap3 (by intros; kernel_rfl) (fun ids w2 hp hf => lit_ints hf 9 (by decide) rfl (by kernel_rfl) (by simp) hB2) hA3 (by rw [show [rg I.regs 4, rg I.regs 5].length = 2 from rfl]; omega) (by kernel_rfl) (by intros; kernel_rfl) rfl (by kernel_rfl) (by intros; kernel_rfl) ?_
  intro p4 q4 ap4
  obtain ⟨A4, eA4⟩ : ∃ A4, A4 = A3 ++ [rg I.regs 4, rg I.regs 5] := ⟨_, rfl⟩
  have hA4 : ∀ x ∈ A4, I64 x := by rw [eA4]; exact app64 hA3 hB2
  have lA4 : A4.length ≤ 16 := by rw [eA4, List.length_append, show [rg I.regs 4, rg I.regs 5].length = 2 from rfl]; omega
  rw [← eA4] at ap4 ⊢
  have hB3 : ∀ x ∈ [rg I.regs 6, rg I.regs 7], I64 x := fun x hx => hreg x (by unfold rgs; simp only [List.mem_cons, List.not_mem_nil, or_false] at hx ⊢; rcases hx with rfl | rfl <;> simp)
  refine node_list A4 [rg I.regs 6, rg I.regs 7] (fun ids => some ⟨idAt ids 11, 0, none⟩) 2 [.sl 6 (.var 12) (.var 13)] [.sl 7 (.var 14) (.var 15)] rfl (by intros; kernel_rfl) rfl ap4 (by intros; kernel_rfl) (fun ids w2 hp hf => lit_ints hf 11 (by decide) rfl (by kernel_rfl) (by simp) hB3) hA4 (by rw [show [rg I.regs 6, rg I.regs 7].length = 2 from rfl]; omega) (by kernel_rfl) (by intros; kernel_rfl) rfl (by kernel_rfl) (by intros; kernel_rfl) ?_
  intro p5 q5 ap5
  obtain ⟨A5, eA5⟩ : ∃ A5, A5 = A4 ++ [rg I.regs 6, rg I.regs 7] := ⟨_, rfl⟩
  have hA5 : ∀ x ∈ A5, I64 x := by rw [eA5]; exact app64 hA4 hB3
  have lA5 : A5.length ≤ 18 := by rw [eA5, List.length_append, show [rg I.regs 6, rg I.regs 7].length = 2 from rfl]; omega
  rw [← eA5] at ap5 ⊢
  have hB4 : ∀ x ∈ [rg I.regs 8, rg I.regs 9], I64 x := fun x hx => hreg x (by unfold rgs; simp only [List.mem_cons, List.not_mem_nil, or_false] at hx ⊢; rcases hx with rfl | rfl <;> simp)
  refine node_list A5 [rg I.regs 8, rg I.regs 9] (fun ids => some ⟨idAt ids 13, 0, none⟩) 2 [.sl 7 (.var 14) (.var 15)] [.sl 8 (.var 16) (.var 17)] rfl (by intros; kernel_rfl) rfl ap5 (by intros; kernel_rfl) (fun ids w2 hp hf => lit_ints hf 13 (by decide) rfl (by kernel_rfl) (by simp) hB4) hA5 (by rw [show [rg I.regs 8, rg I.regs 9].length = 2 from rfl]; omega) (by kernel_rfl) (by intros; kernel_rfl) rfl (by kernel_rfl) (by intros; kernel_rfl) ?_
  intro p6 q6 ap6
  obtain ⟨A6, eA6⟩ : ∃ A6, A6 = A5 ++ [rg I.regs 8, rg I.regs 9] := ⟨_, rfl⟩
  have hA6 : ∀ x ∈ A6, I64 x := by rw [eA6]; exact app64 hA5 hB4
  have lA6 : A6.length ≤ 20 := by rw [eA6, List.length_append, show [rg I.regs 8, rg I.regs 9].length = 2 from rfl]; omega
  rw [← eA6] at ap6 ⊢
  refine holds_env (ρ' := ⟨imI I, [validI I], [], [I.mem.length, c1, I.tb.length, c2, (intsL A0).length, q0, (intsL A1).length, q1, (intsL A2).length, q2, (intsL A3).length, q3, (intsL A4).length, q4, (intsL A5).length, q5, (intsL A6).length, q6], [a1, a2, p0, p1, p2, p3, p4, p5, p6]⟩) (by kernel_rfl) ?_
  have hB5 : ∀ x ∈ [rg I.regs 10, rg I.regs 11], I64 x := fun x hx => hreg x (by unfold rgs; simp only [List.mem_cons, List.not_mem_nil, or_false] at hx ⊢; rcases hx with rfl | rfl <;> simp)
  refine node_list A6 [rg I.regs 10, rg I.regs 11] (fun ids => some ⟨idAt ids 15, 0, none⟩) 2 [.sl 8 (.var 16) (.var 17)] [.sl 9 (.var 18) (.var 19)] rfl (by intros; kernel_rfl) rfl ap6 (by intros; kernel_rfl) (fun ids w2 hp hf => lit_ints hf 15 (by decide) rfl (by kernel_rfl) (by simp) hB5) hA6 (by rw [show [rg I.regs 10, rg I.regs 11].length = 2 from rfl]; omega) (by kernel_rfl) (by intros; kernel_rfl) rfl (by kernel_rfl) (by intros; kernel_rfl) ?_
  intro p7 q7 ap7
  obtain ⟨A7, eA7⟩ : ∃ A7, A7 = A6 ++ [rg I.regs 10, rg I.regs 11] := ⟨_, rfl⟩
  have hA7 : ∀ x ∈ A7, I64 x := by rw [eA7]; exact app64 hA6 hB5
  have lA7 : A7.length ≤ 22 := by rw [eA7, List.length_append, show [rg I.regs 10, rg I.regs 11].length = 2 from rfl]; omega
  rw [← eA7] at ap7 ⊢
  have hB6 : ∀ x ∈ [rg I.regs 12, rg I.regs 13], I64 x := fun x hx => hreg x (by unfold rgs; simp only [List.mem_cons, List.not_mem_nil, or_false] at hx ⊢; rcases hx with rfl | rfl <;> simp)
  refine node_list A7 [rg I.regs 12, rg I.regs 13] (fun ids => some ⟨idAt ids 17, 0, none⟩) 2 [.sl 9 (.var 18) (.var 19)] [.sl 10 (.var 20) (.var 21)] rfl (by intros; kernel_rfl) rfl ap7 (by intros; kernel_rfl) (fun ids w2 hp hf => lit_ints hf 17 (by decide) rfl (by kernel_rfl) (by simp) hB6) hA7 (by rw [show [rg I.regs 12, rg I.regs 13].length = 2 from rfl]; omega) (by kernel_rfl) (by intros; kernel_rfl) rfl (by kernel_rfl) (by intros; kernel_rfl) ?_
  intro p8 q8 ap8
  obtain ⟨A8, eA8⟩ : ∃ A8, A8 = A7 ++ [rg I.regs 12, rg I.regs 13] := ⟨_, rfl⟩
  have hA8 : ∀ x ∈ A8, I64 x := by rw [eA8]; exact app64 hA7 hB6
  have lA8 : A8.length ≤ 24 := by rw [eA8, List.length_append, show [rg I.regs 12, rg I.regs 13].length = 2 from rfl]; omega
  rw [← eA8] at ap8 ⊢
  have hB7 : ∀ x ∈ [rg I.regs 14, rg I.regs 15], I64 x := fun x hx => hreg x (by unfold rgs; simp only [List.mem_cons, List.not_mem_nil, or_false] at hx ⊢; rcases hx with rfl | rfl <;> simp)
  refine node_list A8 [rg I.regs 14, rg I.regs 15] (fun ids => some ⟨idAt ids 19, 0, none⟩) 2 [.sl 10 (.var 20) (.var 21)] [.sl 11 (.var 22) (.var 23)] rfl (by intros; kernel_rfl) rfl ap8 (by intros; kernel_rfl) (fun ids w2 hp hf => lit_ints hf 19 (by decide) rfl (by kernel_rfl) (by simp) hB7) hA8 (by rw [show [rg I.regs 14, rg I.regs 15].length = 2 from rfl]; omega) (by kernel_rfl) (by intros; kernel_rfl) rfl (by kernel_rfl) (by intros; kernel_rfl) ?_
  intro p9 q9 ap9
  obtain ⟨A9, eA9⟩ : ∃ A9, A9 = A8 ++ [rg I.regs 14, rg I.regs 15] := ⟨_, rfl⟩
  have hA9 : ∀ x ∈ A9, I64 x := by rw [eA9]; exact app64 hA8 hB7
  have lA9 : A9.length ≤ 26 := by rw [eA9, List.length_append, show [rg I.regs 14, rg I.regs 15].length = 2 from rfl]; omega
  rw [← eA9] at ap9 ⊢
  refine holds_env (ρ' := ⟨imI I, [validI I], [], [I.mem.length, c1, I.tb.length, c2, (intsL A0).length, q0, (intsL A1).length, q1, (intsL A2).length, q2, (intsL A3).length, q3, (intsL A4).length, q4, (intsL A5).length, q5, (intsL A6).length, q6, (intsL A7).length, q7, (intsL A8).length, q8, (intsL A9).length, q9], [a1, a2, p0, p1, p2, p3, p4, p5, p6, p7, p8, p9]⟩) (by kernel_rfl) ?_
  refine node_list A9 [(I.tb.length : Int)] (fun ids => some ⟨idAt ids 20, 0, none⟩) 1 [.sl 11 (.var 22) (.var 23)] [.sl 12 (.var 24) (.var 25)] rfl (by intros; kernel_rfl) rfl ap9 (by intros; kernel_rfl) (fun ids w2 hp hf => lit_ints hf 20 (by decide) rfl (by kernel_rfl) (by simp) htl) hA9 (by rw [show [(I.tb.length : Int)].length = 1 from rfl]; omega) (by kernel_rfl) (by intros; kernel_rfl) rfl (by kernel_rfl) (by intros; kernel_rfl) ?_
  intro p10 q10 ap10
  obtain ⟨B, eB⟩ : ∃ B, B = A9 ++ [(I.tb.length : Int)] := ⟨_, rfl⟩
  have hB : ∀ x ∈ B, I64 x := by rw [eB]; exact app64 hA9 htl
  rw [← eB] at ap10 ⊢
  have hnums : numsI I = B ++ I.tb.flatMap sesN := by rw [eB, eA9, eA8, eA7, eA6, eA5, eA4, eA3, eA2, eA1, eA0]; unfold numsI rgs; simp only [List.append_assoc, List.cons_append, List.nil_append]
  refine loop_i (eNI w B I.tb) (fun vs => I.tb.length - (vs.i.headD 0).toNat) (fun ids w2 hp hf => ⟨_, ⟨hf.x, hf.sep⟩, 0, p10, q10, Nat.zero_le _, by rw [List.take_zero, List.flatMap_nil, List.append_nil]; exact ap10, by rw [List.take_zero, List.flatMap_nil, List.append_nil]; kernel_rfl, by rw [List.take_zero, List.flatMap_nil, List.append_nil]⟩) ?_
  rintro vs hx' hcnt ⟨k, pa, pc, hk, hap, rfl, rfl⟩
  obtain ⟨D, eD⟩ : ∃ D, D = B ++ (I.tb.take k).flatMap sesN := ⟨_, rfl⟩
  rw [← eD] at hap hcnt ⊢
  have hD : ∀ x ∈ D, I64 x := by
    rw [eD]; refine app64 hB (fun x hx => hses x ?_)
    obtain ⟨y, h1, h2⟩ := List.mem_flatMap.1 hx
    exact List.mem_flatMap.2 ⟨y, List.mem_of_mem_take h1, h2⟩
  have lB : B.length ≤ 27 := by rw [eB, List.length_append, show [(I.tb.length : Int)].length = 1 from rfl]; omega
  have hkl : ∀ n, ((I.tb.take n).flatMap sesN).length ≤ 35 * 16 := fun n => by
    have := sesN_flat_len (t := I.tb.take n) fun s hs => (hI.tb.each s (List.mem_of_mem_take hs)).len
    have h2 := hI.fit.2
    rw [List.length_take] at this; omega
  have lD : D.length ≤ 600 := by rw [eD, List.length_append]; have := hkl k; omega
  refine holds_env (ρ' := ⟨imI I ++ [(k : Int)], [validI I], [], [I.mem.length, c1, I.tb.length, c2, (intsL A0).length, q0, (intsL A1).length, q1, (intsL A2).length, q2, (intsL A3).length, q3, (intsL A4).length, q4, (intsL A5).length, q5, (intsL A6).length, q6, (intsL A7).length, q7, (intsL A8).length, q8, (intsL A9).length, q9, (intsL B).length, q10, (intsL D).length, pc], [a1, a2, p0, p1, p2, p3, p4, p5, p6, p7, p8, p9, p10, pa]⟩) (by kernel_rfl) ?_
  have hesl : es.length = I.tb.length := H.len
  by_cases hlt : k < I.tb.length
  case' neg =>
    refine br_F (decide ((k : Int) < (I.tb.length : Int))) (by kernel_rfl) (decide_eq_false (by omega)) ?_
    have hfin : D = numsI I := by rw [hnums, eD, List.take_of_length_le (by omega)]
    have hnl2 := intsL_len hD
    refine node_newi (V := id) (bs := intsL D) (fun ids => #[.pointer (some ⟨idAt ids 1, 0, none⟩)]) (fun a' c' => ⟨[], [], [], [(intsL D).length, c'], [a']⟩) (by intros; kernel_rfl) (fun ids w2 hp hf => wbytes_any (idAt ids 1) pa pc (intsL D) w2 (w_at 1 hf rfl (by intros; kernel_rfl)) (by omega)) (by intros; kernel_rfl) (by kernel_rfl) (by kernel_rfl) (by intros; kernel_rfl) (fun _ _ => oneNil) ?_
    intro z1 u1 hz1 hz2
    rw [← hfin]
    intro ids w2 hp hf
    exact ⟨z1, u1, by kernel_rfl, hf.x.2, fun q h1 h2 => (hz2 q h1 h2).1, hf.chg.below⟩
  refine br_T (decide ((k : Int) < (I.tb.length : Int))) (by kernel_rfl) (decide_eq_true (by omega)) ?_
  obtain ⟨e, he⟩ : ∃ e, es[k]? = some e := ⟨_, List.getElem?_eq_getElem (by omega)⟩
  have hes : I.tb[k]? = some e.s := by rw [← H.tb, List.getElem?_map, he]; rfl
  have hem := List.mem_of_getElem? he
  have hsm := List.mem_of_getElem? hes
  have hk8 := (hI.tb.each e.s hsm).len
  refine need_k (a2.isSome = true ∧ (0 : Int) ≤ k ∧ (k : Int) < I.tb.length) (by kernel_rfl) ⟨se_sm H.tab.row he, by omega, by omega⟩ ?_
  refine node_ld0 (k := ⟨19, 1, 0, 28, 14⟩) ⟨[e.s.no, e.s.ack], [], [], [e.s.kept.length, e.c], [e.a]⟩ (.pointer (some (((a2.getD ⟨0, 0, none⟩).add (k * 3)).add 0))) e.cells (by intros; kernel_rfl) (by intros; kernel_rfl) (se_all k he H.tab.row) ⟨by kernel_rfl, oneNil⟩ (by kernel_rfl) oneNil ?_
  have hs64 : ∀ x ∈ sesN e.s, I64 x := fun x hx => hses x (List.mem_flatMap.2 ⟨_, hsm, hx⟩)
  have hC0 : ∀ x ∈ [e.s.no, e.s.ack, (e.s.kept.length : Int)], I64 x := fun x hx => hs64 x (List.mem_append_left _ hx)
  refine node_list D [e.s.no, e.s.ack, (e.s.kept.length : Int)] (fun ids => some ⟨idAt ids 22, 0, none⟩) 3 [.sl 13 (.var 26) (.var 27)] [.sl 15 (.var 30) (.var 31)] rfl (by intros; kernel_rfl) rfl hap (by intros; kernel_rfl) (fun ids w2 hp hf => lit_ints hf 22 (by decide) rfl (by kernel_rfl) (by simp) hC0) hD (by rw [show [e.s.no, e.s.ack, (e.s.kept.length : Int)].length = 3 from rfl]; omega) (by kernel_rfl) (by intros; kernel_rfl) rfl (by kernel_rfl) (by intros; kernel_rfl) ?_
  intro p2' q2' ap2'
  obtain ⟨E, eE⟩ : ∃ E, E = D ++ [e.s.no, e.s.ack, (e.s.kept.length : Int)] := ⟨_, rfl⟩
  have hE : ∀ x ∈ E, I64 x := by rw [eE]; exact app64 hD hC0
  have lE : E.length ≤ 603 := by rw [eE, List.length_append, show [e.s.no, e.s.ack, (e.s.kept.length : Int)].length = 3 from rfl]; omega
  rw [← eE] at ap2' ⊢
  obtain ⟨l, el⟩ : ∃ l, l = e.s.kept := ⟨_, rfl⟩
  have hCl : Cells w e.a (kcells l) := by rw [el]; exact H.tab.each e hem
  refine loop_i (eKI w E l) (fun vs => l.length - (vs.i.headD 0).toNat) (fun ids w2 hp hf => ⟨_, ⟨hf.x, hf.sep⟩, 0, p2', q2', Nat.zero_le _, by rw [List.take_zero, List.flatMap_nil, List.append_nil]; exact ap2', by rw [List.take_zero, List.flatMap_nil, List.append_nil]; kernel_rfl, by rw [List.take_zero, List.flatMap_nil, List.append_nil]⟩) ?_
  rintro vs hx' hcnt2 ⟨j, pa2, pc2, hj, hap2, rfl, rfl⟩
  obtain ⟨G, eG⟩ : ∃ G, G = E ++ (l.take j).flatMap kpN := ⟨_, rfl⟩
  rw [← eG] at hap2 hcnt2 ⊢
  have hkf : ∀ x ∈ l.flatMap kpN, I64 x := fun x hx => hs64 x (List.mem_append_right _ (by rw [← el]; exact hx))
  have hG : ∀ x ∈ G, I64 x := by
    rw [eG]; refine app64 hE (fun x hx => hkf x ?_)
    obtain ⟨y, h1, h2⟩ := List.mem_flatMap.1 hx
    exact List.mem_flatMap.2 ⟨y, List.mem_of_mem_take h1, h2⟩
  have lG : G.length ≤ 640 := by
    rw [eG, List.length_append, kpN_flat_len, List.length_take]
    rw [← el] at hk8; omega
  refine holds_env (ρ' := ⟨imI I ++ [(k : Int), e.s.no, e.s.ack, (j : Int)], [validI I], [], [I.mem.length, c1, I.tb.length, c2, (intsL A0).length, q0, (intsL A1).length, q1, (intsL A2).length, q2, (intsL A3).length, q3, (intsL A4).length, q4, (intsL A5).length, q5, (intsL A6).length, q6, (intsL A7).length, q7, (intsL A8).length, q8, (intsL A9).length, q9, (intsL B).length, q10, (intsL D).length, pc, l.length, e.c, (intsL E).length, q2', (intsL G).length, pc2], [a1, a2, p0, p1, p2, p3, p4, p5, p6, p7, p8, p9, p10, pa, e.a, p2', pa2]⟩) (by rw [el]; kernel_rfl) ?_
  by_cases hltj : j < l.length
  case' neg =>
    refine br_F (decide ((j : Int) < (l.length : Int))) (by kernel_rfl) (decide_eq_false (by omega)) ?_
    have hwk : IntKind.i64.wrap ((k : Int) + 1) = ((k + 1 : Nat) : Int) := by rw [wrap_i64 (by have := hI.fit.2; omega)]; omega
    have hGn : G = B ++ (I.tb.take (k + 1)).flatMap sesN := by
      rw [flat_take sesN hes, ← List.append_assoc, ← eD, eG, eE, List.take_of_length_le (by omega), el]
      unfold sesN
      simp only [List.append_assoc]
    refine again_V ⟨[((k + 1 : Nat) : Int)], [], [], [(intsL G).length, pc2], [pa2]⟩ rfl (fun ids => Eq.trans (b := ⟨[IntKind.i64.wrap ((k : Int) + 1)], [], [], [(intsL G).length, pc2], [pa2]⟩) (by kernel_rfl) (by rw [hwk])) _ (fun w2 ids hf => ⟨hf.x, hf.sep⟩) ⟨⟨k + 1, pa2, pc2, hlt, by rw [← hGn]; exact hap2, by rw [← hGn], by rw [← hGn]⟩, ?_⟩
    show I.tb.length - (((k + 1 : Nat) : Int)).toNat < I.tb.length - ((k : Int)).toNat
    omega
  refine br_T (decide ((j : Int) < (l.length : Int))) (by kernel_rfl) (decide_eq_true (by omega)) ?_
  obtain ⟨x, hx⟩ : ∃ x, l[j]? = some x := ⟨_, List.getElem?_eq_getElem hltj⟩
  have hx64 : ∀ y ∈ kpN x, I64 y := fun y hy => hkf y (List.mem_flatMap.2 ⟨_, List.mem_of_getElem? hx, hy⟩)
  refine need_k (e.a.isSome = true ∧ (0 : Int) ≤ j ∧ (j : Int) < l.length) (by kernel_rfl) ⟨kp_sm hCl hx, by omega, by omega⟩ ?_
  refine node_ld0 (k := ⟨22, 1, 0, 34, 17⟩) ⟨kpN x, [], [], [], []⟩ (.pointer (some (((e.a.getD ⟨0, 0, none⟩).add (j * 4)).add 0))) x.cells (by intros; kernel_rfl) (by intros; kernel_rfl) (kp_all j hx hCl) ⟨by kernel_rfl, oneNil⟩ (by kernel_rfl) oneNil ?_
  refine node_list G (kpN x) (fun ids => some ⟨idAt ids 24, 0, none⟩) 4 [.sl 16 (.var 32) (.var 33)] [.sl 17 (.var 34) (.var 35)] rfl (by intros; kernel_rfl) rfl hap2 (by intros; kernel_rfl) (fun ids w2 hp hf => lit_ints hf 24 (by decide) rfl (by kernel_rfl) (by simp [kpN]) hx64) hG (by rw [show (kpN x).length = 4 from rfl]; omega) (by kernel_rfl) (by intros; kernel_rfl) rfl (by kernel_rfl) (by intros; kernel_rfl) ?_
  intro p3' q3' ap3'
  have hGn : G ++ kpN x = E ++ (l.take (j + 1)).flatMap kpN := by rw [flat_take kpN hx, ← List.append_assoc, ← eG]
  have hwj : IntKind.i64.wrap ((j : Int) + 1) = ((j + 1 : Nat) : Int) := by rw [wrap_i64 (by rw [← el] at hk8; omega)]; omega
  refine again_V ⟨[((j + 1 : Nat) : Int)], [], [], [(intsL (G ++ kpN x)).length, q3'], [p3']⟩ rfl (fun ids => Eq.trans (b := ⟨[IntKind.i64.wrap ((j : Int) + 1)], [], [], [(intsL (G ++ kpN x)).length, q3'], [p3']⟩) (by kernel_rfl) (by rw [hwj])) _ (fun w2 ids hf => ⟨hf.x, hf.sep⟩) ⟨⟨j + 1, p3', q3', hltj, by rw [← hGn]; exact ap3', by rw [← hGn], by rw [← hGn]⟩, ?_⟩
  show l.length - (((j + 1 : Nat) : Int)).toNat < l.length - ((j : Int)).toNat
  omega
end Go.Proofs.Ytfjiolgdcphjhaa
