/- Part 20 of the texts of a proof about the given program: what the statement's proof needs of them. -/
import Derived.Test.YtbedoemdjlollaaKJudgeTime19
namespace Go.Proofs.Ytbedoemdjlollaa
open Go.ChangeShapes Go.WideShapes Go.ChangeAt Go.RowKit Go.Syn Go.Eng
set_option linter.unusedVariables false
set_option linter.unusedSimpArgs false
set_option maxRecDepth 100000
structure Im where
  ep : Int
  mem : List Int
  sl : Int
  regs : List Int
  tb : List SsD
def rg (r : List Int) (i : Nat) : Int := r.getD i 0
def rgs (r : List Int) : List Int := [rg r 0, rg r 1, rg r 2, rg r 3, rg r 4, rg r 5, rg r 6, rg r 7, rg r 8, rg r 9, rg r 10, rg r 11, rg r 12, rg r 13, rg r 14, rg r 15]
theorem rgs_of {r : List Int} (h : r.length = 16) : rgs r = r := by
  obtain ⟨a0, a1, a2, a3, a4, a5, a6, a7, a8, a9, a10, a11, a12, a13, a14, a15, rfl⟩ := list16 r h
  rfl
def imC (I : Im) (a1 : Option Addr) (c1 : Nat) (a2 : Option Addr) (c2 : Nat) : List Value :=
  [.int .i64 I.ep, .slice a1 I.mem.length c1, .int .i64 I.sl, .int .i64 (rg I.regs 0), .int .i64 (rg I.regs 1), .int .i64 (rg I.regs 2), .int .i64 (rg I.regs 3), .int .i64 (rg I.regs 4), .int .i64 (rg I.regs 5), .int .i64 (rg I.regs 6), .int .i64 (rg I.regs 7), .int .i64 (rg I.regs 8), .int .i64 (rg I.regs 9), .int .i64 (rg I.regs 10), .int .i64 (rg I.regs 11), .int .i64 (rg I.regs 12), .int .i64 (rg I.regs 13), .int .i64 (rg I.regs 14), .int .i64 (rg I.regs 15), .slice a2 I.tb.length c2]
def imV (I : Im) (a1 : Option Addr) (c1 : Nat) (a2 : Option Addr) (c2 : Nat) : Value := .agg (imC I a1 c1 a2 c2).toArray
def imI (I : Im) : List Int := [I.ep, I.sl, rg I.regs 0, rg I.regs 1, rg I.regs 2, rg I.regs 3, rg I.regs 4, rg I.regs 5, rg I.regs 6, rg I.regs 7, rg I.regs 8, rg I.regs 9, rg I.regs 10, rg I.regs 11, rg I.regs 12, rg I.regs 13, rg I.regs 14, rg I.regs 15]
def im0 : Im := ⟨0, [], 0, [0, 0, 0, 0, 0, 0, 0, 0, 0, 0, 0, 0, 0, 0, 0, 0], []⟩
structure ImAt (w : World) (I : Im) (a1 a2 : Option Addr) (es : List SE) : Prop where
  tb : es.map SE.s = I.tb
  mem : Ints w a1 I.mem
  tab : TbAt w a2 es
  reg : I.regs.length = 16
theorem ImAt.keep {w w' : World} {I : Im} {a1 a2 : Option Addr} {es : List SE} (h : ImAt w I a1 a2 es) (hb : ∀ k, k < w.heap.size → w'.heap[k]? = w.heap[k]?) : ImAt w' I a1 a2 es :=
  ⟨h.tb, Ints.loc h.mem (fun hne => hb _ (by have := cl_sep h.mem.cells (blk a1) ⟨by simpa using hne, rfl⟩; exact this)), h.tab.keep hb, h.reg⟩
theorem ImAt.len {w : World} {I : Im} {a1 a2 : Option Addr} {es : List SE} (h : ImAt w I a1 a2 es) : es.length = I.tb.length := by rw [← h.tb, List.length_map]
def validI (I : Im) : Bool := decide (0 ≤ I.ep) && decide (I.ep ≤ 1099511627776) && decide (0 ≤ I.sl) && decide (I.sl ≤ 1099511627776) && decide (checkV I.mem = 0) && validL I.regs && validT I.tb
structure VI (I : Im) : Prop where
  ep0 : 0 ≤ I.ep
  ep1 : I.ep ≤ 1099511627776
  sl0 : 0 ≤ I.sl
  sl1 : I.sl ≤ 1099511627776
  mem : setOkB I.mem = true
  regs : validL I.regs = true
  tb : VT I.tb
theorem check_zero {xs : List Int} : checkV xs = 0 ↔ setOkB xs = true := by
  unfold checkV; split <;> simp_all
theorem validI_iff (I : Im) : validI I = true ↔ VI I := by
  unfold validI
  simp only [Bool.and_eq_true, decide_eq_true_eq, check_zero, validT_iff]
  exact ⟨fun ⟨⟨⟨⟨⟨⟨a, b⟩, c⟩, d⟩, e⟩, f⟩, g⟩ => ⟨a, b, c, d, e, f, g⟩, fun h => ⟨⟨⟨⟨⟨⟨h.ep0, h.ep1⟩, h.sl0⟩, h.sl1⟩, h.mem⟩, h.regs⟩, h.tb⟩⟩
structure AnD where
  sess : Int
  seq : Int
  k : Int
  re : Int
  im : Int
def AnD.cells (a : AnD) : List Value := [.int .i64 a.sess, .int .i64 a.seq, .int .i64 a.k, .int .i64 a.re, .int .i64 a.im]
def ancells (l : List AnD) : List Value := l.flatMap AnD.cells
theorem an_len (a : AnD) : a.cells.length = 5 := rfl
theorem ancells_snoc (l : List AnD) (a : AnD) : ancells l ++ a.cells = ancells (l ++ [a]) := by unfold ancells; rw [List.flatMap_append]; simp
theorem an_one (a : AnD) : ∀ v ∈ a.cells, v.oneCell' = true := fun v hv => by
  unfold AnD.cells at hv
  simp only [List.mem_cons, List.not_mem_nil, or_false] at hv
  rcases hv with rfl | rfl | rfl | rfl | rfl <;> rfl
theorem info_ans : (Try.prog.info? 64).map (fun i => (i.zero, i.size, i.bytes)) = some (some (.agg #[.int .i64 0, .int .i64 0, .int .i64 0, .int .i64 0, .int .i64 0]), 5, 40) := by kernel_rfl
structure RunR where
  i : Im
  k : Int
  re : Int
  im : Int
def runV (I : Im) (c : CmD) : RunR :=
  if (askV I.tb c.sess c.seq c.ack).d then ⟨⟨I.ep, I.mem, I.sl, I.regs, (askV I.tb c.sess c.seq c.ack).t⟩, (askV I.tb c.sess c.seq c.ack).k, (askV I.tb c.sess c.seq c.ack).re, (askV I.tb c.sess c.seq c.ack).im⟩
  else ⟨⟨I.ep, I.mem, I.sl, (applyM I.regs c.op).1, keepV (askV I.tb c.sess c.seq c.ack).t c.sess c.seq (applyM I.regs c.op).2.1 (applyM I.regs c.op).2.2.1 (applyM I.regs c.op).2.2.2⟩, (applyM I.regs c.op).2.1, (applyM I.regs c.op).2.2.1, (applyM I.regs c.op).2.2.2⟩
theorem runV_mem (I : Im) (c : CmD) : (runV I c).i.mem = I.mem ∧ (runV I c).i.ep = I.ep ∧ (runV I c).i.sl = I.sl := by unfold runV; split <;> exact ⟨rfl, rfl, rfl⟩
theorem runV_len {I : Im} (c : CmD) (h : I.regs.length = 16) : (runV I c).i.regs.length = 16 := by
  unfold runV; split
  · exact h
  · exact (applyM_len _ _).trans h
def stepV (p : Im × List AnD) (c : CmD) : Im × List AnD := ((runV p.1 c).i, p.2 ++ [⟨c.sess, c.seq, (runV p.1 c).k, (runV p.1 c).re, (runV p.1 c).im⟩])
def runAll (I : Im) (cs : List CmD) : Im × List AnD := cs.foldl stepV (I, [])
theorem runAll_step (I : Im) {cs : List CmD} {k : Nat} {c : CmD} (h : cs[k]? = some c) : runAll I (cs.take (k + 1)) = stepV (runAll I (cs.take k)) c := by
  unfold runAll
  rw [List.take_add_one, h, List.foldl_append]; rfl
theorem runAll_keep (I : Im) (cs : List CmD) : ∀ p : Im × List AnD, (cs.foldl stepV p).1.mem = p.1.mem ∧ (cs.foldl stepV p).1.ep = p.1.ep ∧ (cs.foldl stepV p).1.sl = p.1.sl ∧ (cs.foldl stepV p).2.length = p.2.length + cs.length := by
  induction cs with
  | nil => intro p; exact ⟨rfl, rfl, rfl, rfl⟩
  | cons c r ih =>
    intro p
    obtain ⟨h1, h2, h3, h4⟩ := ih (stepV p c)
    obtain ⟨g1, g2, g3⟩ := runV_mem p.1 c
    refine ⟨h1.trans g1, h2.trans g2, h3.trans g3, ?_⟩
    rw [List.foldl_cons, h4]
    simp only [stepV, List.length_append, List.length_cons, List.length_nil]; omega
theorem opB_of {c : CmD} (h : cmdV c = 0) : 1 ≤ c.sess ∧ c.sess ≤ 1073741824 ∧ 1 ≤ c.seq ∧ c.seq ≤ 1099511627776 ∧ 0 ≤ c.ack ∧ c.ack < c.seq ∧ opB c.op = true := by
  unfold cmdV at h
  split at h
  · cases h
  · split at h
    · exact ⟨by omega, by omega, by omega, by omega, by omega, by omega, by assumption⟩
    · cases h
theorem applyM_valid {xs : List Int} (hx : xs.length = 16) (h : validL xs = true) (o : OpD) : validL (applyM xs o).1 = true := by
  unfold applyM
  split
  · rename_i hc
    simp only [Bool.and_eq_true] at hc
    obtain ⟨_, r12, _⟩ := (opB_iff _).1 hc.2
    split
    · exact h
    · split
      · rename_i hf
        refine valid_put ?_ _ hf
        split
        · exact valid_put h _ (valid_reg h _ (by omega))
        · exact h
      · exact h
  · exact h
theorem apply_kind {xs : List Int} {o : OpD} (h : validL xs = true) (h2 : opB o = true) : 1 ≤ (applyM xs o).2.1 ∧ (applyM xs o).2.1 ≤ 3 := by
  unfold applyM
  rw [if_pos (by rw [h, h2]; rfl)]
  split
  · exact ⟨by show (1 : Int) ≤ _; simp, by simp⟩
  · split
    · exact ⟨by show (1 : Int) ≤ _; simp, by simp⟩
    · exact ⟨by show (1 : Int) ≤ _; simp, by simp⟩
theorem VI.run {I : Im} (h : VI I) (hr : I.regs.length = 16) {c : CmD} (hc : cmdV c = 0) : VI (runV I c).i := by
  obtain ⟨c1, c2, c3, c4, c5, c6, c7⟩ := opB_of hc
  have ht := h.tb.ask (sess := c.sess) (seq := c.seq) (ack := c.ack) c1 c2 (by omega)
  unfold runV
  split
  · exact ⟨h.ep0, h.ep1, h.sl0, h.sl1, h.mem, h.regs, ht⟩
  · obtain ⟨k1, k2⟩ := apply_kind h.regs c7
    exact ⟨h.ep0, h.ep1, h.sl0, h.sl1, h.mem, applyM_valid hr h.regs _, ht.keep c4 k1 k2⟩
theorem firstE_all : ∀ {cs : List CmD}, firstE cs = 0 → ∀ c ∈ cs, cmdV c = 0
  | [], _, c, hc => by cases hc
  | d :: r, h, c, hc => by
    unfold firstE at h
    split at h
    · exact absurd h (by assumption)
    · rename_i hd
      rcases List.mem_cons.1 hc with rfl | hc
      · exact Classical.byContradiction hd
      · exact firstE_all h c hc
theorem VI.all {I : Im} (h : VI I) (hr : I.regs.length = 16) {cs : List CmD} (hc : ∀ c ∈ cs, cmdV c = 0) : ∀ k, VI (runAll I (cs.take k)).1 ∧ (runAll I (cs.take k)).1.regs.length = 16 := fun k => by
  induction k with
  | zero => exact ⟨h, hr⟩
  | succ k ih =>
    rcases Nat.lt_or_ge k cs.length with q | q
    · have e := List.getElem?_eq_getElem q
      rw [runAll_step I e]
      exact ⟨ih.1.run ih.2 (hc _ (List.mem_of_getElem? e)), runV_len _ ih.2⟩
    · rw [List.take_of_length_le (by omega)]; rw [List.take_of_length_le (by omega)] at ih; exact ih
structure ExR where
  i : Im
  an : List AnD
  e : Int
def goI (I : Im) (slot : Int) (v : Vl) : Im := if v.k = 2 then ⟨I.ep + 1, v.ns, slot, I.regs, I.tb⟩ else ⟨I.ep, I.mem, slot, I.regs, I.tb⟩
def execV (I : Im) (slot : Int) (v : Vl) : ExR :=
  if validI I = false then ⟨im0, [], 44⟩ else
  if slot ≠ I.sl + 1 ∨ 1099511627776 < slot ∨ (v.k = 2 ∧ 1099511627776 ≤ I.ep) then ⟨im0, [], 61⟩ else
  if valE v ≠ 0 then ⟨im0, [], valE v⟩ else ⟨(runAll (goI I slot v) v.cs).1, (runAll (goI I slot v) v.cs).2, 0⟩
end Go.Proofs.Ytbedoemdjlollaa

namespace Go.Proofs.Ytbedoemdjlollaa
open Go.ChangeShapes Go.WideShapes Go.ChangeAt Go.RowKit Go.Syn Go.Eng
set_option linter.unusedVariables false
set_option linter.unusedSimpArgs false
set_option maxRecDepth 100000
def imX (I : Im) (a1 a2 : Option Addr) (c2 : Nat) (es : List SE) : HX := (HX.cl a1 (I.mem.map (Value.int .i64))).and (tabR a2 c2 es)
def ImNew (w : World) (V : Value → Value) (I : Im) (e : Ending) (w' : World) : Prop := ∃ a1 c1 a2 c2 es, es.map SE.s = I.tb ∧ e = .returned (V (imV I a1 c1 a2 c2)) ∧ Dj a2 c2 es ∧ (∀ q, (tabR a2 c2 es).F q → ¬ (HX.cl a1 (I.mem.map (Value.int .i64))).F q) ∧ (imX I a1 a2 c2 es).X w' ∧ (∀ k, (imX I a1 a2 c2 es).F k → w.heap.size ≤ k) ∧ Below w.heap.size w w'
theorem imX_lt {I : Im} {a1 a2 : Option Addr} {c2 : Nat} {es : List SE} {w : World} (h : (imX I a1 a2 c2 es).X w) : ∀ k, (imX I a1 a2 c2 es).F k → k < w.heap.size := fun k hk => hk.elim (cl_sep h.1 k) (tabR_lt h.2 k)
structure ImFit (I : Im) : Prop where
  mem : ∀ x ∈ I.mem, I64 x
  len : I.mem.length ≤ 17592186044416
  reg : I.regs.length = 16
theorem ImFit.at_ {I : Im} (h : ImFit I) {a1 a2 : Option Addr} {c2 : Nat} {es : List SE} {w : World} (he : es.map SE.s = I.tb) (hX : (imX I a1 a2 c2 es).X w) : ImAt w I a1 a2 es :=
  ⟨he, Ints.of_cells (by have := h.len; omega) h.mem hX.1, tabR_at hX.2, h.reg⟩
theorem cl_nil (w : World) (a : Option Addr) : (HX.cl a []).X w := fun h => absurd h (Nat.lt_irrefl 0)
section
variable {C : Cfg} {ρ : Env} {pre : List Nat} {hx : HX} {L : Stack} {m m' : Mem} {args : List SV} {r : SV} {t : Tree}
theorem node_im {f : Nat} {V : Value → Value} {I : Im} (AS : List Nat → Array Value) (vs : Option Addr → Nat → Option Addr → Nat → Vals) (hargs : ∀ ids, (args.map (SV.den ρ ids)).toArray = AS ids) (hcall : ∀ ids w, pre <+: ids → Facts C m ρ ids hx w → Calls C.P f (AS ids) w (ImNew w V I))
    (hr : ∀ a1 c1 a2 c2 ids, r.den (ρ.add (vs a1 c1 a2 c2)) ids = V (imV I a1 c1 a2 c2)) (hhp : m'.hp = m.hp) (hfit : hpFits m.c m.hp.length m.hp = true) (hc : ∀ a1 c1 a2 c2, (ρ.add (vs a1 c1 a2 c2)).cnt = m'.c) (h1 : ∀ a1 c1 a2 c2 v, v ∈ (vs a1 c1 a2 c2).v → v.oneCell' = true)
    (h : ∀ a1 c1 a2 c2 es, es.map SE.s = I.tb → Dj a2 c2 es → Sm a2 es → (∀ q, (tabR a2 c2 es).F q → ¬ (HX.cl a1 (I.mem.map (Value.int .i64))).F q) → (∀ k, (imX I a1 a2 c2 es).F k → C.W.heap.size ≤ k ∧ ¬ hx.F k) → t.holds C (ρ.add (vs a1 c1 a2 c2)) pre (hx.and (imX I a1 a2 c2 es)) L) : (Tree.call f args m r m' t).holds C ρ pre hx L := by
  refine node_out AS (fun u hy => ∃ a1 c1 a2 c2 es, es.map SE.s = I.tb ∧ Dj a2 c2 es ∧ Sm a2 es ∧ (∀ q, (tabR a2 c2 es).F q → ¬ (HX.cl a1 (I.mem.map (Value.int .i64))).F q) ∧ u = vs a1 c1 a2 c2 ∧ hy = imX I a1 a2 c2 es) hargs (fun ids w hp hf => ?_) hhp hfit ?_ ?_
  · refine (hcall ids w hp hf).mono ?_
    rintro e w' ⟨a1, c1, a2, c2, es, h1, rfl, h2, hd, hX, hge, hb⟩
    exact ⟨_, _, ⟨a1, c1, a2, c2, es, h1, h2, ⟨fun q => rw_sm hX.2.2 (sec_ne q), fun e he q => rw_sm (hX.2.1 e he) (kc_ne q)⟩, hd, rfl, rfl⟩, by rw [hr], hX, fun k hk => ⟨hge k hk, imX_lt hX k hk⟩, hb⟩
  · rintro u hy ⟨a1, c1, a2, c2, es, _, _, _, _, rfl, rfl⟩
    exact ⟨hc _ _ _ _, h1 _ _ _ _⟩
  · rintro u hy ⟨a1, c1, a2, c2, es, q1, q2, q3, q4, rfl, rfl⟩ hfr
    exact h a1 c1 a2 c2 es q1 q2 q3 q4 hfr
end
theorem xfirst_any (a : Option Addr) (cap : Nat) (xs : List Int) (w : World) (H : Ints w a xs) (hl : xs.length ≤ 17592186044416) : Calls Try.prog 15 #[.slice a xs.length cap] w (ImNew w id ⟨0, xs, 0, im0.regs, []⟩) := by
  refine calls_at (tab_ok _) Try.func15 rfl tXFirst (ρ := ⟨[], [], [], [xs.length, cap], [a]⟩) (ids := []) (hx := HX.nil) rfl (Facts.initP rfl oneNil) ?_
  refine node_cl (n := xs.length) (xs := xs.map (Value.int .i64)) (fun _ => #[.slice a xs.length cap]) (fun a' c' => ⟨[], [], [], [xs.length, c'], [a']⟩) (by intros; kernel_rfl) (fun ids w2 hp hf => scloneN_any a cap xs w2 (cl_stay H.cells (fun k hk => hf.chg.block k hk (fun q => q))) hl) (by intros; kernel_rfl) (by kernel_rfl) (by kernel_rfl) (by intros; kernel_rfl) (fun _ _ => oneNil) ?_
  intro a1 c1 hn
  intro ids w2 hp hf
  refine ⟨a1, c1, none, 0, [], rfl, by kernel_rfl, ⟨fun i j e e' _ h => by simp at h, fun e he => (by cases he)⟩, (fun q hq => by
    rcases hq with ⟨e, he, _⟩ | hq
    · cases he
    · exact absurd rfl hq.1), ⟨hf.x.2, ⟨fun e he => (by cases he), HX.rw_nil _ _ _ _⟩⟩, ?_, hf.chg.below⟩
  rintro k (hk | ⟨e, he, _⟩ | hk)
  · exact (hn k hk).1
  · cases he
  · exact absurd rfl hk.1
theorem xvalid_any (I : Im) (a1 : Option Addr) (c1 : Nat) (a2 : Option Addr) (c2 : Nat) (es : List SE) (w : World) (H : ImAt w I a1 a2 es) (hl : es.length ≤ 4611686018427387904) : Calls Try.prog 34 #[imV I a1 c1 a2 c2] w (PureAt w (.bool (validI I))) := by
  refine calls_at (tab_ok _) Try.func34 rfl tXValid (ρ := ⟨imI I, [], [], [I.mem.length, c1, I.tb.length, c2], [a1, a2]⟩) (ids := []) (hx := HX.nil) (by kernel_rfl) (Facts.initP rfl oneNil) ?_
  obtain ⟨V, eV⟩ : ∃ V, V = validI I := ⟨_, rfl⟩
  rw [← eV]
  have keep : ∀ {m : Mem} {ρ : Env} {ids : List Nat} {hx : HX} {w2 : World} {R : Ending → World → Prop}, Facts ⟨Try.prog, w, fun _ => False, R⟩ m ρ ids hx w2 → ImAt w2 I a1 a2 es := fun hf => H.keep (fun k hk => hf.chg.block k hk (fun q => q))
  unfold validI at eV
  by_cases h1 : 0 ≤ I.ep
  case' neg => exact br_F (decide (I.ep ≥ 0)) (by kernel_rfl) (decide_eq_false h1) (pure_done (by intros; rw [show V = false from by rw [eV]; simp [h1]]; kernel_rfl))
  refine br_T (decide (I.ep ≥ 0)) (by kernel_rfl) (decide_eq_true h1) ?_
  by_cases h2 : I.ep ≤ 1099511627776
  case' neg => exact br_F (decide (I.ep ≤ 1099511627776)) (by kernel_rfl) (decide_eq_false h2) (pure_done (by intros; rw [show V = false from by rw [eV]; simp [h2]]; kernel_rfl))
  refine br_T (decide (I.ep ≤ 1099511627776)) (by kernel_rfl) (decide_eq_true h2) ?_
  by_cases h3 : 0 ≤ I.sl
  case' neg => exact br_F (decide (I.sl ≥ 0)) (by kernel_rfl) (decide_eq_false h3) (pure_done (by intros; rw [show V = false from by rw [eV]; simp [h3]]; kernel_rfl))
  refine br_T (decide (I.sl ≥ 0)) (by kernel_rfl) (decide_eq_true h3) ?_
  by_cases h4 : I.sl ≤ 1099511627776
  case' neg => exact br_F (decide (I.sl ≤ 1099511627776)) (by kernel_rfl) (decide_eq_false h4) (pure_done (by intros; rw [show V = false from by rw [eV]; simp [h4]]; kernel_rfl))
  refine br_T (decide (I.sl ≤ 1099511627776)) (by kernel_rfl) (decide_eq_true h4) ?_
  refine node_P ⟨[checkV I.mem], [], [], [], []⟩ #[.slice a1 I.mem.length c1] (.int .i64 (checkV I.mem)) (by intros; kernel_rfl) (by intros; kernel_rfl) (by kernel_rfl) (by kernel_rfl) (by kernel_rfl) oneNil (fun ids w2 hp hf => (check_any a1 c1 I.mem w2 (keep hf).mem).mono fun e w3 h => ⟨h.1, h.2 ▸ Below.refl _ _⟩) ?_
  by_cases h5 : checkV I.mem = 0
  case' neg => exact br_F (checkV I.mem == 0) (by kernel_rfl) (by simpa using h5) (pure_done (by intros; rw [show V = false from by rw [eV]; simp [h5]]; kernel_rfl))
  refine br_T (checkV I.mem == 0) (by kernel_rfl) (by simpa using h5) ?_
  refine node_P ⟨[], [validL I.regs], [], [], []⟩ #[.agg ((rgs I.regs).map (Value.int .i64)).toArray] (.bool (validL I.regs)) (by intros; kernel_rfl) (by intros; kernel_rfl) (by kernel_rfl) (by kernel_rfl) (by kernel_rfl) oneNil (fun ids w2 hp hf => by have := valid_any (rgs I.regs) rfl w2; rw [rgs_of H.reg] at this ⊢; exact this) ?_
  by_cases h6 : validL I.regs = true
  case' neg => exact br_F (validL I.regs) (by kernel_rfl) (by simpa using h6) (pure_done (by intros; rw [show V = false from by rw [eV]; simp [h6]]; kernel_rfl))
  refine br_T (validL I.regs) (by kernel_rfl) h6 ?_
  refine node_P ⟨[], [validT I.tb], [], [], []⟩ #[.slice a2 I.tb.length c2] (.bool (validT I.tb)) (by intros; kernel_rfl) (by intros; kernel_rfl) (by kernel_rfl) (by kernel_rfl) (by kernel_rfl) oneNil (fun ids w2 hp hf => by have := tvalid_any a2 c2 es w2 (keep hf).tab hl; rw [H.tb, H.len] at this; exact this) ?_
  exact pure_done (by intros; rw [show V = validT I.tb from by rw [eV]; simp [h1, h2, h3, h4, h5, h6]]; kernel_rfl)
theorem VI.fit {I : Im} (h : VI I) : I.mem.length ≤ 7 ∧ I.tb.length ≤ 16 := ⟨by
  have := setOkB_iff.1 h.mem; exact this.2.1, h.tb.len⟩
theorem xclone_any (I : Im) (a1 : Option Addr) (c1 : Nat) (a2 : Option Addr) (c2 : Nat) (es : List SE) (w : World) (H : ImAt w I a1 a2 es) (hl : I.mem.length ≤ 17592186044416) (hl2 : es.length ≤ 1000000) (hk : ∀ e ∈ es, e.s.kept.length ≤ 1000000) : Calls Try.prog 35 #[imV I a1 c1 a2 c2] w (ImNew w id I) := by
  refine calls_at (tab_ok _) Try.func35 rfl tXClone (ρ := ⟨imI I, [], [], [I.mem.length, c1, I.tb.length, c2], [a1, a2]⟩) (ids := []) (hx := HX.nil) (by kernel_rfl) (Facts.initP rfl oneNil) ?_
  have keep : ∀ {m : Mem} {ρ : Env} {ids : List Nat} {hx : HX} {w2 : World} {R : Ending → World → Prop}, Facts ⟨Try.prog, w, fun _ => False, R⟩ m ρ ids hx w2 → ImAt w2 I a1 a2 es := fun hf => H.keep (fun k hk => hf.chg.block k hk (fun q => q))
  refine node_cl (n := I.mem.length) (xs := I.mem.map (Value.int .i64)) (fun _ => #[.slice a1 I.mem.length c1]) (fun a' c' => ⟨[], [], [], [I.mem.length, c'], [a']⟩) (by intros; kernel_rfl) (fun ids w2 hp hf => scloneN_any a1 c1 I.mem w2 (keep hf).mem.cells hl) (by intros; kernel_rfl) (by kernel_rfl) (by kernel_rfl) (by intros; kernel_rfl) (fun _ _ => oneNil) ?_
  intro b1 d1 hn1
  refine node_tb (V := id) (tb := I.tb) (fun _ => #[.slice a2 I.tb.length c2]) (fun a' c' => ⟨[], [], [], [I.tb.length, c'], [a']⟩) (by intros; kernel_rfl) (fun ids w2 hp hf => by
    have := tclone_any a2 c2 es w2 (keep hf).tab hl2 hk
    rw [H.tb, H.len] at this; exact this) (by intros; kernel_rfl) (by kernel_rfl) (by kernel_rfl) (by intros; kernel_rfl) (fun _ _ => oneNil) ?_
  intro b2 d2 es2 hm hdj hsm hn2
  intro ids w2 hp hf
  refine ⟨b1, d1, b2, d2, es2, hm, by kernel_rfl, hdj, fun q hq hk => (hn2 q hq).2 (.inr hk), ⟨hf.x.1.2, hf.x.2⟩, ?_, hf.chg.below⟩
  rintro k (hk | hk)
  · exact (hn1 k hk).1
  · exact (hn2 k hk).1
end Go.Proofs.Ytbedoemdjlollaa

namespace Go.Proofs.Ytbedoemdjlollaa
open Go.ChangeShapes Go.WideShapes Go.ChangeAt Go.RowKit Go.Syn Go.Eng
set_option linter.unusedVariables false
set_option linter.unusedSimpArgs false
set_option maxRecDepth 100000
def RunNew (w : World) (b : Nat) (I : Im) (a1 : Option Addr) (c1 : Nat) (V : Value) (e : Ending) (w' : World) : Prop := ∃ a2 c2 es, es.map SE.s = I.tb ∧ e = .returned V ∧ Blk w' b (imC I a1 c1 a2 c2) 54 ∧ Dj a2 c2 es ∧ (tabR a2 c2 es).X w' ∧ (∀ k, (tabR a2 c2 es).F k → w.heap.size ≤ k) ∧ w.grownBy w' (some b)
def resC (R : RunR) : Value := .agg #[.int .i64 R.k, .int .i64 R.re, .int .i64 R.im]
theorem xrun_any (b : Nat) (I : Im) (a1 : Option Addr) (c1 : Nat) (a2 : Option Addr) (c2 : Nat) (es : List SE) (c : CmD) (w : World) (hb : Blk w b (imC I a1 c1 a2 c2) 54) (H : TbAt w a2 es) (hes : es.map SE.s = I.tb) (hv : VT I.tb) (hr : I.regs.length = 16) (hc : cmdV c = 0) :
    Calls Try.prog 36 #[.pointer (some ⟨b, 0, none⟩), .agg c.cells.toArray] w (RunNew w b (runV I c).i a1 c1 (resC (runV I c))) := by
  refine calls_at (tab_ok _) Try.func36 rfl tXRun (ρ := ⟨imI I ++ c.is, [], [], [I.mem.length, c1, I.tb.length, c2], [a1, a2]⟩) (ids := [b]) (hx := HX.nil) (by kernel_rfl) (Facts.init1 rfl oneNil hb (by kernel_rfl)) ?_
  have hlen : es.length = I.tb.length := by rw [← hes, List.length_map]
  obtain ⟨h1, h2, h3, h4, h5, h6, h7⟩ := opB_of hc
  have hat := hv.ask (sess := c.sess) (seq := c.seq) (ack := c.ack) h1 h2 (by omega)
  obtain ⟨Q, eQ⟩ : ∃ Q, Q = runV I c := ⟨_, rfl⟩
  rw [← eQ]
  unfold runV at eQ
  obtain ⟨A, eA⟩ : ∃ A, A = askV I.tb c.sess c.seq c.ack := ⟨_, rfl⟩
  rw [← eA] at eQ hat
  obtain ⟨p, ep⟩ : ∃ p, p = applyM I.regs c.op := ⟨_, rfl⟩
  rw [← ep] at eQ
  have hpl : p.1.length = 16 := by rw [ep]; exact (applyM_len _ _).trans hr
  refine par_i ?_ ?_
  all_goals
    refine node_tb (V := askRet A.k A.re A.im A.d) (tb := A.t) (fun _ => #[.slice a2 I.tb.length c2, cmdC c.sess c.seq c.ack c.op.kind c.op.reg c.op.tg c.op.re c.op.im]) (fun a' c' => ⟨[A.k, A.re, A.im], [A.d], [], [A.t.length, c'], [a']⟩) (by intros; kernel_rfl) (fun ids w2 hp hf => by
      have hbb : w2.heap[b]? = w.heap[b]? := by
        have := hf.blkAt 0 rfl
        rw [idAt0 hp] at this
        exact this.trans (Eq.trans (by kernel_rfl) hb.symm)
      have := task_any a2 c2 es c.sess c.seq c.ack c.op.kind c.op.reg c.op.tg c.op.re c.op.im w2 (H.keep (fun k hk => by
        by_cases q : k = b
        · rw [q]; exact hbb
        · exact hf.chg.block k hk q)) (by rw [hes]; exact hv.ok)
      rw [hes, ← eA, hlen] at this
      exact this) (by intros; kernel_rfl) (by kernel_rfl) (by kernel_rfl) (by intros; kernel_rfl) (fun _ _ => oneNil) ?_
    intro a' c' es' hm' hdj' hsm' hn'
    have hl' : es'.length = A.t.length := by rw [← hm', List.length_map]
    rcases Bool.eq_false_or_eq_true A.d with hd | hd
    · refine br_F (!A.d) (by kernel_rfl) (by rw [hd]; rfl) ?_
      rw [if_pos hd] at eQ
      intro ids w2 hp hf
      have hblk := hf.blkAt 0 rfl
      rw [idAt0 hp] at hblk
      subst eQ
      exact ⟨a', c', es', hm', by kernel_rfl, hblk.trans (by kernel_rfl), hdj', hf.x.2, fun k hk => (hn' k hk).1, hf.chg.grown⟩
    · refine br_T (!A.d) (by kernel_rfl) (by rw [hd]; rfl) ?_
      rw [if_neg (by rw [hd]; decide)] at eQ
      refine node_P ⟨rgs p.1 ++ [p.2.1, p.2.2.1, p.2.2.2], [], [], [], []⟩ #[.agg ((rgs I.regs).map (Value.int .i64)).toArray, .agg c.op.cells.toArray] (resV p) (by intros; kernel_rfl) (fun ids => Eq.trans (b := resV (rgs p.1, p.2)) (by kernel_rfl) (by unfold resV; rw [rgs_of hpl])) (by kernel_rfl) (by kernel_rfl) (by kernel_rfl) oneNil (fun ids w2 hp hf => by
        have := apply_any (rgs I.regs) rfl c.op w2
        rw [rgs_of hr] at this ⊢
        rw [ep]; exact this) ?_
      refine node_tb (V := id) (tb := keepV A.t c.sess c.seq p.2.1 p.2.2.1 p.2.2.2) (fun _ => #[.slice a' A.t.length c', cmdC c.sess c.seq c.ack c.op.kind c.op.reg c.op.tg c.op.re c.op.im, .agg #[.int .i64 p.2.1, .int .i64 p.2.2.1, .int .i64 p.2.2.2]]) (fun a3 c3 => ⟨[], [], [], [(keepV A.t c.sess c.seq p.2.1 p.2.2.1 p.2.2.2).length, c3], [a3]⟩) (by intros; kernel_rfl) (fun ids w2 hp hf => by
        have := tkeep_any a' c' es' c.sess c.seq c.ack c.op.kind c.op.reg c.op.tg c.op.re c.op.im p.2.1 p.2.2.1 p.2.2.2 w2 (tabR_at hf.x.2) (by rw [hm']; exact hat.ok)
        rw [hm', hl'] at this
        exact this) (by intros; kernel_rfl) (by kernel_rfl) (by kernel_rfl) (by intros; kernel_rfl) (fun _ _ => oneNil) ?_
      intro a3 c3 es3 hm3 hdj3 hsm3 hn3
      intro ids w2 hp hf
      have hblk := hf.blkAt 0 rfl
      rw [idAt0 hp] at hblk
      subst eQ
      exact ⟨a3, c3, es3, hm3, by kernel_rfl, hblk.trans (by kernel_rfl), hdj3, hf.x.2, fun k hk => (hn3 k hk).1, hf.chg.grown⟩
end Go.Proofs.Ytbedoemdjlollaa

namespace Go.Proofs.Ytbedoemdjlollaa
open Go.ChangeShapes Go.WideShapes Go.ChangeAt Go.RowKit Go.Syn Go.Eng
set_option linter.unusedVariables false
set_option linter.unusedSimpArgs false
set_option maxRecDepth 100000
def exX (R : ExR) (a1 a2 : Option Addr) (c2 : Nat) (es : List SE) (oa : Option Addr) : HX := (imX R.i a1 a2 c2 es).and (HX.cl oa (ancells R.an))
def exRet (R : ExR) (a1 : Option Addr) (c1 : Nat) (a2 : Option Addr) (c2 : Nat) (oa : Option Addr) (oc : Nat) : Value := .tuple #[imV R.i a1 c1 a2 c2, .slice oa R.an.length oc, .int .i64 R.e]
def ExNew (w : World) (R : ExR) (e : Ending) (w' : World) : Prop := ∃ a1 c1 a2 c2 es oa oc, es.map SE.s = R.i.tb ∧ e = .returned (exRet R a1 c1 a2 c2 oa oc) ∧ Dj a2 c2 es ∧ (exX R a1 a2 c2 es oa).X w' ∧ (∀ k, (exX R a1 a2 c2 es oa).F k → w.heap.size ≤ k) ∧ Below w.heap.size w w'
theorem exX_lt {R : ExR} {a1 a2 : Option Addr} {c2 : Nat} {es : List SE} {oa : Option Addr} {w : World} (h : (exX R a1 a2 c2 es oa).X w) : ∀ k, (exX R a1 a2 c2 es oa).F k → k < w.heap.size := fun k hk => hk.elim (imX_lt h.1 k) (cl_sep h.2 k)
theorem dj_nil (a : Option Addr) (c : Nat) : Dj a c [] := ⟨fun i j e e' _ h => by simp at h, fun e he => (by cases he)⟩
theorem ex_err {W : World} {ρ : Env} {pre : List Nat} {hx : HX} {L : Stack} {v : SV} {m : Mem} (x : Int) (hv : ∀ ids, v.den ρ ids = exRet ⟨im0, [], x⟩ none 0 none 0 none 0) : (Tree.done v m).holds ⟨Try.prog, W, fun _ => False, ExNew W ⟨im0, [], x⟩⟩ ρ pre hx L := fun ids w2 hp hf => by
  refine ⟨none, 0, none, 0, [], none, 0, rfl, by rw [hv ids], dj_nil _ _, ⟨⟨cl_nil _ _, ⟨fun e he => (by cases he), HX.rw_nil _ _ _ _⟩⟩, cl_nil _ _⟩, ?_, hf.chg.below⟩
  rintro k ((hk | ⟨e, he, _⟩ | hk) | hk)
  · exact absurd rfl hk.1
  · cases he
  · exact absurd rfl hk.1
  · exact absurd rfl hk.1
theorem an_sm {l : List AnD} {i : Nat} {x : AnD} {a : Option Addr} {w : World} (H : Cells w a (ancells l)) (h : l[i]? = some x) : a.isSome = true :=
  (flat_part an_len H h (o := 0) x.cells (fun j u hj => by rw [Nat.zero_add]; exact hj) (by simp [AnD.cells])).1
section
variable {C : Cfg} {ρ : Env} {pre : List Nat} {hx : HX} {L : Stack} {m m' : Mem} {args : List SV} {r : SV} {t : Tree}
theorem node_ex {f : Nat} {R : ExR} (AS : List Nat → Array Value) (hargs : ∀ ids, (args.map (SV.den ρ ids)).toArray = AS ids) (hcall : ∀ ids w, pre <+: ids → Facts C m ρ ids hx w → Calls C.P f (AS ids) w (ExNew w R))
    (hr : ∀ a1 c1 a2 c2 oa oc ids, r.den (ρ.add ⟨imI R.i ++ [R.e], [], [], [R.i.mem.length, c1, R.i.tb.length, c2, R.an.length, oc], [a1, a2, oa]⟩) ids = exRet R a1 c1 a2 c2 oa oc) (hhp : m'.hp = m.hp) (hfit : hpFits m.c m.hp.length m.hp = true)
    (hc : ∀ a1 c1 a2 c2 oa oc, (ρ.add ⟨imI R.i ++ [R.e], [], [], [R.i.mem.length, c1, R.i.tb.length, c2, R.an.length, oc], [a1, a2, oa]⟩).cnt = m'.c)
    (h : ∀ a1 c1 a2 c2 es oa oc, es.map SE.s = R.i.tb → Dj a2 c2 es → Sm a2 es → (R.an ≠ [] → oa.isSome = true) → (∀ k, (exX R a1 a2 c2 es oa).F k → C.W.heap.size ≤ k ∧ ¬ hx.F k) → t.holds C (ρ.add ⟨imI R.i ++ [R.e], [], [], [R.i.mem.length, c1, R.i.tb.length, c2, R.an.length, oc], [a1, a2, oa]⟩) pre (hx.and (exX R a1 a2 c2 es oa)) L) : (Tree.call f args m r m' t).holds C ρ pre hx L := by
  refine node_out AS (fun u hy => ∃ a1 c1 a2 c2 es oa oc, es.map SE.s = R.i.tb ∧ Dj a2 c2 es ∧ Sm a2 es ∧ (R.an ≠ [] → oa.isSome = true) ∧ u = ⟨imI R.i ++ [R.e], [], [], [R.i.mem.length, c1, R.i.tb.length, c2, R.an.length, oc], [a1, a2, oa]⟩ ∧ hy = exX R a1 a2 c2 es oa) hargs (fun ids w hp hf => ?_) hhp hfit ?_ ?_
  · refine (hcall ids w hp hf).mono ?_
    rintro e w' ⟨a1, c1, a2, c2, es, oa, oc, h1, rfl, h2, hX, hge, hb⟩
    exact ⟨_, _, ⟨a1, c1, a2, c2, es, oa, oc, h1, h2, ⟨fun q => rw_sm hX.1.2.2 (sec_ne q), fun e he q => rw_sm (hX.1.2.1 e he) (kc_ne q)⟩, fun q => (by
      cases hq : R.an with
      | nil => exact absurd hq q
      | cons x l => exact an_sm (i := 0) (x := x) hX.2 (by rw [hq]; rfl)), rfl, rfl⟩, by rw [hr], hX, fun k hk => ⟨hge k hk, exX_lt hX k hk⟩, hb⟩
  · rintro u hy ⟨a1, c1, a2, c2, es, oa, oc, _, _, _, _, rfl, rfl⟩
    exact ⟨hc _ _ _ _ _ _, oneNil⟩
  · rintro u hy ⟨a1, c1, a2, c2, es, oa, oc, q1, q2, q3, q4, rfl, rfl⟩ hfr
    exact h a1 c1 a2 c2 es oa oc q1 q2 q3 q4 hfr
end
theorem valE_zero {v : Vl} (h : valE v = 0) : (v.k = 0 ∧ v.cs = [] ∧ v.ns = []) ∨ (v.k = 2 ∧ v.cs = [] ∧ setOkB v.ns = true) ∨ (v.k = 1 ∧ v.cs.length ≤ 8 ∧ v.cs ≠ [] ∧ v.ns = [] ∧ firstE v.cs = 0) := by
  unfold valE at h
  split at h
  · rename_i h0
    by_cases q : v.cs ≠ [] ∨ v.ns ≠ []
    · rw [if_pos q] at h; cases h
    · simp only [not_or, Classical.not_not] at q
      exact .inl ⟨h0, q.1, q.2⟩
  · split at h
    · rename_i h2
      by_cases q : v.cs ≠ []
      · rw [if_pos q] at h; cases h
      · rw [if_neg q] at h
        simp only [Classical.not_not] at q
        exact .inr (.inl ⟨h2, q, check_zero.1 h⟩)
    · split at h
      · rename_i h1
        by_cases q : v.cs = [] ∨ 8 < v.cs.length ∨ v.ns ≠ []
        · rw [if_pos q] at h; cases h
        · rw [if_neg q] at h
          simp only [not_or, Classical.not_not] at q
          exact .inr (.inr ⟨h1, by omega, q.1, q.2.2, h⟩)
      · cases h
def ExJ (I : Im) (slot : Int) (v : Vl) (vs : Vals) (hx : HX) : Prop := VI I ∧ slot = I.sl + 1 ∧ slot ≤ 1099511627776 ∧ ¬ (v.k = 2 ∧ 1099511627776 ≤ I.ep) ∧ vs = ⟨[], [], [], [], []⟩ ∧ hx = HX.nil
def ExI (W : World) (G : Im) (cs : List CmD) (b1 : Option Addr) (d1 : Nat) (vs : Vals) (hx : HX) : Prop := ∃ (k : Nat) (a2 : Option Addr) (c2 : Nat) (es : List SE) (oa : Option Addr) (oc : Nat), k ≤ cs.length ∧ es.map SE.s = (runAll G (cs.take k)).1.tb ∧ Dj a2 c2 es ∧
  (∀ q, (tabR a2 c2 es).F q → W.heap.size ≤ q ∧ ¬ ((HX.cl b1 (G.mem.map (Value.int .i64))).and (HX.rw 5 64 oa k oc (ancells (runAll G (cs.take k)).2))).F q) ∧ (∀ q, (HX.rw 5 64 oa k oc (ancells (runAll G (cs.take k)).2)).F q → W.heap.size ≤ q ∧ ¬ (HX.cl b1 (G.mem.map (Value.int .i64))).F q) ∧
  vs = ⟨(k : Int) :: imI (runAll G (cs.take k)).1, [], [], [k, oc, G.mem.length, d1, (runAll G (cs.take k)).1.tb.length, c2], [oa, b1, a2]⟩ ∧ hx = ((HX.cl b1 (G.mem.map (Value.int .i64))).and (HX.rw 5 64 oa k oc (ancells (runAll G (cs.take k)).2))).and (tabR a2 c2 es)
set_option maxHeartbeats 2000000 in
theorem xexec_any (I : Im) (a1 : Option Addr) (c1 : Nat) (a2 : Option Addr) (c2 : Nat) (es : List SE) (slot : Int) (v : Vl) (b1 : Option Addr) (d1 : Nat) (b2 : Option Addr) (d2 : Nat) (w : World) (H : ImAt w I a1 a2 es) (hl : es.length ≤ 4611686018427387904) (hm : I.mem.length ≤ 17592186044416) (HV : VlAt w v b1 b2) :
    Calls Try.prog 17 #[imV I a1 c1 a2 c2, .int .i64 slot, vlV v b1 d1 b2 d2] w (ExNew w (execV I slot v)) := by
  refine calls_at (tab_ok _) Try.func17 rfl tXExec (ρ := ⟨imI I ++ [slot, v.k], [], [], [I.mem.length, c1, I.tb.length, c2, v.cs.length, d1, v.ns.length, d2], [a1, a2, b1, b2]⟩) (ids := []) (hx := HX.nil) (by kernel_rfl) (Facts.initP rfl oneNil) ?_
  obtain ⟨R, eR⟩ : ∃ R, R = execV I slot v := ⟨_, rfl⟩
  rw [← eR]
  unfold execV at eR
  have keep : ∀ {m : Mem} {ρ : Env} {ids : List Nat} {hx : HX} {w2 : World} {R : Ending → World → Prop}, Facts ⟨Try.prog, w, fun _ => False, R⟩ m ρ ids hx w2 → ImAt w2 I a1 a2 es := fun hf => H.keep (fun k hk => hf.chg.block k hk (fun q => q))
  have keepV : ∀ {m : Mem} {ρ : Env} {ids : List Nat} {hx : HX} {w2 : World} {R : Ending → World → Prop}, Facts ⟨Try.prog, w, fun _ => False, R⟩ m ρ ids hx w2 → VlAt w2 v b1 b2 := fun hf => HV.fit.at_ ((vlX v b1 b2).loc _ _ HV.X fun k hk => hf.chg.block k (vlX_sep HV.X k hk) (fun q => q))
  refine ⟨ExJ I slot v, ?_, ?_⟩
  · refine node_P ⟨[], [validI I], [], [], []⟩ #[imV I a1 c1 a2 c2] (.bool (validI I)) (by intros; kernel_rfl) (by intros; kernel_rfl) (by kernel_rfl) (by kernel_rfl) (by kernel_rfl) oneNil (fun ids w2 hp hf => xvalid_any I a1 c1 a2 c2 es w2 (keep hf) hl) ?_
    rcases Bool.eq_false_or_eq_true (validI I) with hv | hv
    case' inr =>
      rw [if_pos hv] at eR
      subst eR
      exact br_T (!validI I) (by kernel_rfl) (by rw [hv]; rfl) (ex_err 44 (by intros; kernel_rfl))
    rw [if_neg (by rw [hv]; decide)] at eR
    have hI := (validI_iff I).1 hv
    refine br_F (!validI I) (by kernel_rfl) (by rw [hv]; rfl) ?_
    have hw : IntKind.i64.wrap (I.sl + 1) = I.sl + 1 := by have := hI.sl0; have := hI.sl1; exact wrap_i64 (by omega)
    by_cases h1 : slot = I.sl + 1
    case' neg =>
      rw [if_pos (.inl h1)] at eR
      subst eR
      exact br_T (slot != IntKind.i64.wrap (I.sl + 1)) (by kernel_rfl) (by rw [hw]; simpa using h1) (ex_err 61 (by intros; kernel_rfl))
    refine br_F (slot != IntKind.i64.wrap (I.sl + 1)) (by kernel_rfl) (by rw [hw]; simpa using h1) ?_
    by_cases h2 : 1099511627776 < slot
    case' pos =>
      rw [if_pos (.inr (.inl h2))] at eR
      subst eR
      exact br_T (decide (slot > 1099511627776)) (by kernel_rfl) (decide_eq_true h2) (ex_err 61 (by intros; kernel_rfl))
    refine br_F (decide (slot > 1099511627776)) (by kernel_rfl) (decide_eq_false h2) ?_
    by_cases h3 : v.k = 2
    · refine br_T (v.k == 2) (by kernel_rfl) (by simpa using h3) ?_
      by_cases h4 : 1099511627776 ≤ I.ep
      · rw [if_pos (.inr (.inr ⟨h3, h4⟩))] at eR
        subst eR
        exact br_T (decide (I.ep ≥ 1099511627776)) (by kernel_rfl) (decide_eq_true h4) (ex_err 61 (by intros; kernel_rfl))
      · refine br_F (decide (I.ep ≥ 1099511627776)) (by kernel_rfl) (decide_eq_false h4) ?_
        exact again_V ⟨[], [], [], [], []⟩ rfl (by intros; kernel_rfl) HX.nil (fun w2 ids hf => HXok.none _ _) ⟨hI, h1, by omega, fun q => h4 q.2, rfl, rfl⟩
    · refine br_F (v.k == 2) (by kernel_rfl) (by simpa using h3) ?_
      exact again_V ⟨[], [], [], [], []⟩ rfl (by intros; kernel_rfl) HX.nil (fun w2 ids hf => HXok.none _ _) ⟨hI, h1, by omega, fun q => h3 q.1, rfl, rfl⟩
  rintro vs hx' hcnt ⟨hI, h1, h2, h3, rfl, rfl⟩
  refine holds_env (ρ' := ⟨imI I ++ [slot, v.k], [], [], [I.mem.length, c1, I.tb.length, c2, v.cs.length, d1, v.ns.length, d2], [a1, a2, b1, b2]⟩) (by kernel_rfl) ?_
  rw [if_neg (by rw [(validI_iff I).2 hI]; decide), if_neg (by simp only [not_or]; exact ⟨fun q => q h1, by omega, h3⟩)] at eR
  refine node_P ⟨[valE v], [], [], [], []⟩ #[vlV v b1 d1 b2 d2] (.int .i64 (valE v)) (by intros; kernel_rfl) (by intros; kernel_rfl) (by kernel_rfl) (by kernel_rfl) (by kernel_rfl) oneNil (fun ids w2 hp hf => vchk_any v b1 d1 b2 d2 w2 (keepV hf)) ?_
  by_cases h4 : valE v = 0
  case' neg =>
    rw [if_pos h4] at eR
    subst eR
    exact br_T (valE v != 0) (by kernel_rfl) (by simpa using h4) (ex_err (valE v) (by intros; kernel_rfl))
  rw [if_neg (fun q => q h4)] at eR
  refine br_F (valE v != 0) (by kernel_rfl) (by simpa using h4) ?_
  have hfit := hI.fit
  refine node_im (V := id) (I := I) (fun _ => #[imV I a1 c1 a2 c2]) (fun x1 y1 x2 y2 => ⟨imI I, [], [], [I.mem.length, y1, I.tb.length, y2], [x1, x2]⟩) (by intros; kernel_rfl) (fun ids w2 hp hf => xclone_any I a1 c1 a2 c2 es w2 (keep hf) hm (by rw [H.len]; omega) (fun e he => by
    have := (hI.tb.each e.s (by rw [← H.tb]; exact List.mem_map_of_mem he)).len; omega)) (by intros; kernel_rfl) (by kernel_rfl) (by kernel_rfl) (by intros; kernel_rfl) (fun _ _ _ _ => oneNil) ?_
  intro x1 y1 x2 y2 es1 hm1 hdj1 hsm1 had1 hn1
  refine holds_eq (show _ = imX I x1 x2 y2 es1 from HX.nil_and _) ?_
  refine holds_env (ρ' := ⟨imI I ++ [slot, v.k, valE v] ++ imI I, [], [], [I.mem.length, c1, I.tb.length, c2, v.cs.length, d1, v.ns.length, d2, I.mem.length, y1, I.tb.length, y2], [a1, a2, b1, b2, x1, x2]⟩) (by kernel_rfl) ?_
  by_cases k2 : v.k = 2
  · refine br_T (v.k == 2) (by kernel_rfl) (by simpa using k2) ?_
    have hcs : v.cs = [] := by rcases valE_zero h4 with q | q | q <;> first | exact q.2.1 | omega
    have hns : setOkB v.ns = true := by
      rcases valE_zero h4 with q | q | q
      · omega
      · exact q.2.2
      · omega
    refine node_cl (n := v.ns.length) (xs := v.ns.map (Value.int .i64)) (fun _ => #[.slice b2 v.ns.length d2]) (fun a' c' => ⟨[], [], [], [v.ns.length, c'], [a']⟩) (by intros; kernel_rfl) (fun ids w2 hp hf => scloneN_any b2 d2 v.ns w2 (keepV hf).n.cells (keepV hf).l2) (by intros; kernel_rfl) (by kernel_rfl) (by kernel_rfl) (by intros; kernel_rfl) (fun _ _ => oneNil) ?_
    intro z1 u1 hz
    have hw : IntKind.i64.wrap (I.ep + 1) = I.ep + 1 := by have := hI.ep0; have := hI.ep1; exact wrap_i64 (by omega)
    rw [hcs] at eR
    intro ids w2 hp hf
    refine ⟨z1, u1, x2, y2, es1, none, 0, by rw [eR]; unfold goI; rw [if_pos k2]; exact hm1, ?_, hdj1, ?_, ?_, hf.chg.below⟩
    · rw [eR]; unfold goI; rw [if_pos k2]
      show _ = Ending.returned (exRet ⟨⟨I.ep + 1, v.ns, slot, I.regs, I.tb⟩, [], 0⟩ _ _ _ _ _ _)
      rw [← hw]; kernel_rfl
    · rw [eR]; unfold goI; rw [if_pos k2]
      exact ⟨⟨hf.x.2, hf.x.1.2⟩, cl_nil _ _⟩
    · rw [eR]; unfold goI; rw [if_pos k2]
      rintro k ((hk | hk) | hk)
      · exact (hz k hk).1
      · exact (hn1 k (.inr hk)).1
      · exact absurd rfl hk.1
  refine br_F (v.k == 2) (by kernel_rfl) (by simpa using k2) ?_
  obtain ⟨G, eG⟩ : ∃ G : Im, G = ⟨I.ep, I.mem, slot, I.regs, I.tb⟩ := ⟨_, rfl⟩
  have hgo : goI I slot v = G := by unfold goI; rw [if_neg k2, eG]
  rw [hgo] at eR
  have hG : VI G := by rw [eG]; exact ⟨hI.ep0, hI.ep1, by have := hI.sl0; show 0 ≤ slot; omega, h2, hI.mem, hI.regs, hI.tb⟩
  have hGr : G.regs.length = 16 := by rw [eG]; exact H.reg
  have hGm : G.mem = I.mem := by rw [eG]
  by_cases k1 : v.k = 1
  case' neg =>
    refine br_F (v.k == 1) (by kernel_rfl) (by simpa using k1) ?_
    have hcs : v.cs = [] := by rcases valE_zero h4 with q | q | q <;> first | exact q.2.1 | omega
    rw [hcs] at eR
    intro ids w2 hp hf
    subst eR
    refine ⟨x1, y1, x2, y2, es1, none, 0, by rw [eG]; exact hm1, by rw [eG]; kernel_rfl, hdj1, by rw [eG]; exact ⟨hf.x, cl_nil _ _⟩, ?_, hf.chg.below⟩
    rw [eG]
    rintro k (hk | hk)
    · exact (hn1 k hk).1
    · exact absurd rfl hk.1
  refine br_T (v.k == 1) (by kernel_rfl) (by simpa using k1) ?_
  obtain ⟨hc8, hcz⟩ : v.cs.length ≤ 8 ∧ firstE v.cs = 0 := by
    rcases valE_zero h4 with q | q | q
    · omega
    · omega
    · exact ⟨q.2.1, q.2.2.2.2⟩
  have hall := firstE_all hcz
  have hrow0 : ∀ q, ¬ (HX.rw 5 64 none 0 0 (ancells [])).F q := fun q hq => absurd rfl hq.1
  refine loop_i (ExI w G v.cs x1 y1) (fun vs => v.cs.length - (vs.i.headD 0).toNat) (fun ids w2 hp hf => ⟨((HX.cl x1 (G.mem.map (Value.int .i64))).and (HX.rw 5 64 none 0 0 (ancells []))).and (tabR x2 y2 es1), ⟨⟨⟨by rw [hGm]; exact hf.x.1, HX.rw_nil _ _ _ _⟩, hf.x.2⟩, ?_⟩, 0, x2, y2, es1, none, 0, Nat.zero_le _, by rw [eG]; exact hm1, hdj1, fun q hq => ⟨(hn1 q (.inr hq)).1, fun z => z.elim (fun z => had1 q hq (by rw [← hGm]; exact z)) (fun z => hrow0 q z)⟩, fun q hq => absurd hq (hrow0 q), by rw [eG]; kernel_rfl, by kernel_rfl⟩) ?_
  · rintro k ((hk | hk) | hk)
    · exact hf.sep k (.inl (by rw [← hGm]; exact hk))
    · exact absurd hk (hrow0 k)
    · exact hf.sep k (.inr hk)
  rintro vs hx' hcnt' ⟨k, a3, c3, es3, oa, oc, hk, hm3, hdj3, hn3, ho3, rfl, rfl⟩
  obtain ⟨J, eJ⟩ : ∃ J, J = runAll G (v.cs.take k) := ⟨_, rfl⟩
  rw [← eJ] at hm3 hn3 ho3 hcnt' ⊢
  have hJ := hG.all hGr hall k
  rw [← eJ] at hJ
  have hJk := runAll_keep G (v.cs.take k) (G, [])
  have hJm : J.1.mem = G.mem := by rw [eJ]; exact hJk.1
  have hJl : J.2.length = k := by rw [eJ]; exact (hJk.2.2.2).trans (by simp; omega)
  have hn3' : es3.length = J.1.tb.length := by rw [← hm3, List.length_map]
  by_cases hlt : k < v.cs.length
  case' neg =>
    refine br_F (decide ((k : Int) < (v.cs.length : Int))) (by kernel_rfl) (decide_eq_false (by omega)) ?_
    have hke : v.cs.take k = v.cs := List.take_of_length_le (by omega)
    rw [hke] at eJ
    rw [← eJ] at eR
    subst eR
    intro ids w2 hp hf
    refine ⟨x1, y1, a3, c3, es3, oa, oc, hm3, ?_, hdj3, ⟨⟨by rw [hJm]; exact hf.x.1.1, hf.x.2⟩, (rw_cells hf.x.1.2)⟩, ?_, hf.chg.below⟩
    · show _ = Ending.returned (Value.tuple #[imV J.1 x1 y1 a3 c3, .slice oa J.2.length oc, .int .i64 0])
      unfold imV imC
      rw [hJl, hJm]; kernel_rfl
    · rintro q ((hq | hq) | hq)
      · rw [hJm] at hq
        exact (hn1 q (.inl (by rw [← hGm]; exact hq))).1
      · exact (hn3 q hq).1
      · exact (ho3 q ((rw_cl hf.x.1.2).2 q hq)).1
  refine br_T (decide ((k : Int) < (v.cs.length : Int))) (by kernel_rfl) (decide_eq_true (by omega)) ?_
  obtain ⟨c, hc⟩ : ∃ c, v.cs[k]? = some c := ⟨_, List.getElem?_eq_getElem hlt⟩
  have hce := c_elt HV.c hc
  refine need_k (b1.isSome = true ∧ (0 : Int) ≤ k ∧ (k : Int) < v.cs.length) (by kernel_rfl) ⟨hce.1, by omega, by omega⟩ ?_
  refine node_ld0 (k := ⟨58, 0, 0, 18, 9⟩) ⟨c.is, [], [], [], []⟩ (.pointer (some (((b1.getD ⟨0, 0, none⟩).add (k * 8)).add 0))) c.cells (by intros; kernel_rfl) (by intros; kernel_rfl) (hce.2 _ (fun q => q)) hcnt' (by kernel_rfl) oneNil ?_
  obtain ⟨Q, eQ⟩ : ∃ Q, Q = runV J.1 c := ⟨_, rfl⟩
  have hQm : Q.i.mem = G.mem := by rw [eQ]; exact (runV_mem J.1 c).1.trans hJm
  refine node_touch (rest := (HX.cl x1 (G.mem.map (Value.int .i64))).and (HX.rw 5 64 oa k oc (ancells J.2))) (h0 := tabR a3 c3 es3) (fun ids => #[.pointer (some ⟨idAt ids 0, 0, none⟩), .agg c.cells.toArray]) (fun vs h' => ∃ a4 c4 es4, es4.map SE.s = Q.i.tb ∧ Dj a4 c4 es4 ∧ (∀ q, (tabR a4 c4 es4).F q → w.heap.size ≤ q) ∧ vs = ⟨imI Q.i ++ [Q.k, Q.re, Q.im], [], [], [G.mem.length, y1, Q.i.tb.length, c4], [x1, a4]⟩ ∧ h' = tabR a4 c4 es4) rfl rfl (by intros; kernel_rfl) (fun ids w2 hp hf => ?_) (fun q hq => ⟨(hn3 q hq).2, .inl (hn3 q hq).1⟩) (by kernel_rfl) ?_ ?_
  · have hb0 := hf.blkAt 0 rfl
    have := xrun_any (idAt ids 0) J.1 x1 y1 a3 c3 es3 c w2 (hb0.trans (Eq.trans (b := some (.cells (imC ⟨J.1.ep, G.mem, J.1.sl, J.1.regs, J.1.tb⟩ x1 y1 a3 c3).toArray 54 (0, 0))) (by kernel_rfl) (by unfold imC; rw [hJm]))) (tabR_at hf.x.2) hm3 hJ.1.tb hJ.2 (hall c (List.mem_of_getElem? hc))
    rw [← eQ] at this
    refine this.mono ?_
    rintro e w3 ⟨a4, c4, es4, q1, rfl, q2, q3, q4, q5, q6⟩
    refine ⟨_, _, ⟨a4, c4, es4, q1, q3, fun q hq => Nat.le_trans hf.chg.size (q5 q hq), rfl, rfl⟩, by kernel_rfl, q2.trans (Eq.trans (b := some (.cells (imC ⟨Q.i.ep, G.mem, Q.i.sl, Q.i.regs, Q.i.tb⟩ x1 y1 a4 c4).toArray 54 (0, 0))) (by unfold imC; rw [hQm]) (by kernel_rfl)), q4, fun q hq => ⟨.inr (q5 q hq), tabR_lt q4 q hq⟩, chg_of_grown (.inl rfl) q6⟩
  · rintro vs h' ⟨a4, c4, es4, _, _, _, rfl, rfl⟩
    exact ⟨by kernel_rfl, oneNil⟩
  rintro vs h' ⟨a4, c4, es4, hm4, hdj4, hn4, rfl, rfl⟩ hap4
  refine holds_eq (HX.and_right_comm _ _ _) ?_
  refine node_pushs (z := .agg #[.int .i64 0, .int .i64 0, .int .i64 0, .int .i64 0, .int .i64 0]) (sz := 5) (bytes := 40) rfl (by kernel_rfl) info_ans rfl (by decide) oa k oc (ancells J.2) (AnD.cells ⟨c.sess, c.seq, Q.k, Q.re, Q.im⟩) 4 (by intros; kernel_rfl) (by intros; kernel_rfl) rfl (by intros; kernel_rfl) rfl (an_one _) (fun q h1 h2 hF => ?_) (fun q h1 h2 => .inl (ho3 q ⟨h1, h2⟩).1) (by simp [maxLen]; omega) (by omega) (by intros; kernel_rfl) (by kernel_rfl) (by kernel_rfl) (by intros; kernel_rfl) ?_
  · rcases hF with hF | hF
    · exact (ho3 q ⟨h1, h2⟩).2 hF
    · exact (hap4 q hF).1 (.inr ⟨h1, h2⟩)
  intro oa' oc' hoc hdis hwh
  have hstep : runAll G (v.cs.take (k + 1)) = (Q.i, J.2 ++ [⟨c.sess, c.seq, Q.k, Q.re, Q.im⟩]) := by rw [runAll_step G hc, ← eJ, eQ]; rfl
  have hwk : IntKind.i64.wrap ((k : Int) + 1) = ((k + 1 : Nat) : Int) := by rw [wrap_i64 (by omega)]; omega
  rw [ancells_snoc]
  refine again_V ⟨((k + 1 : Nat) : Int) :: imI Q.i, [], [], [k + 1, oc', G.mem.length, y1, Q.i.tb.length, c4], [oa', x1, a4]⟩ rfl (fun ids => Eq.trans (b := ⟨IntKind.i64.wrap ((k : Int) + 1) :: imI Q.i, [], [], [k + 1, oc', G.mem.length, y1, Q.i.tb.length, c4], [oa', x1, a4]⟩) (by kernel_rfl) (by rw [hwk])) (((HX.cl x1 (G.mem.map (Value.int .i64))).and (HX.rw 5 64 oa' (k + 1) oc' (ancells (J.2 ++ [⟨c.sess, c.seq, Q.k, Q.re, Q.im⟩])))).and (tabR a4 c4 es4)) (fun w2 ids hf => ?_) ⟨⟨k + 1, a4, c4, es4, oa', oc', hlt, by rw [hstep]; exact hm4, hdj4, fun q hq => ⟨hn4 q hq, ?_⟩, fun q hq => ⟨?_, ?_⟩, by rw [hstep], by rw [hstep]⟩, ?_⟩
  · exact ⟨⟨⟨hf.x.1.1, hf.x.2⟩, hf.x.1.2⟩, fun q hq => hf.sep q (hq.elim (fun z => z.elim (fun z => .inl (.inl z)) .inr) (fun z => .inl (.inr z)))⟩
  · rw [hstep]
    rintro (z | z)
    · exact (hap4 q hq).1 (.inl z)
    · exact hdis q z.2 (.inr hq)
  · rw [hstep] at hq
    rcases hwh with ⟨z1, z2⟩ | ⟨g, z1, z2, z3⟩
    · exact (ho3 q ⟨z1, by rw [← z2]; exact hq.2⟩).1
    · rw [hq.2] at z1; cases z1; exact z2
  · rw [hstep] at hq
    exact fun z => hdis q hq.2 (.inl z)
  · show v.cs.length - (((k + 1 : Nat) : Int)).toNat < v.cs.length - ((k : Int)).toNat
    omega
end Go.Proofs.Ytbedoemdjlollaa

namespace Go.Proofs.Ytbedoemdjlollaa
open Go.ChangeShapes Go.WideShapes Go.ChangeAt Go.RowKit Go.Syn Go.Eng
set_option linter.unusedVariables false
set_option linter.unusedSimpArgs false
set_option maxRecDepth 100000
def hi0 : Im := ⟨0, [1, 2, 3], 0, im0.regs, []⟩
def hr2 : ExR := ⟨⟨0, [1, 2, 3], 2, [2, 1, 0, 0, 0, 0, 0, 0, 0, 0, 0, 0, 0, 0, 0, 0], [⟨9, 0, [⟨1, 1, 2, 1⟩]⟩]⟩, [⟨9, 1, 1, 2, 1⟩], 0⟩
def hr3 : ExR := ⟨⟨1, [2, 4], 3, [2, 1, 0, 0, 0, 0, 0, 0, 0, 0, 0, 0, 0, 0, 0, 0], [⟨9, 0, [⟨1, 1, 2, 1⟩]⟩]⟩, [], 0⟩
end Go.Proofs.Ytbedoemdjlollaa

namespace Go.Proofs.Ytbedoemdjlollaa
open Go.ChangeShapes Go.WideShapes Go.ChangeAt Go.RowKit Go.Syn Go.Eng
set_option linter.unusedVariables false
set_option linter.unusedSimpArgs false
set_option maxRecDepth 100000
end Go.Proofs.Ytbedoemdjlollaa

namespace Go.Proofs.Ytbedoemdjlollaa
open Go.ChangeShapes Go.WideShapes Go.ChangeAt Go.RowKit Go.Syn Go.Eng
set_option linter.unusedVariables false
set_option linter.unusedSimpArgs false
set_option maxRecDepth 100000
structure Pv where
  v : Vl
  a1 : Option Addr
  c1 : Nat
  a2 : Option Addr
  c2 : Nat
def Pv.cells (p : Pv) : List Value := [.int .i64 p.v.k, .slice p.a1 p.v.cs.length p.c1, .slice p.a2 p.v.ns.length p.c2]
def imOk (I : Im) : Prop := VI I ∧ I.regs.length = 16 ∧ ∀ x ∈ I.mem, I64 x
theorem imOk.fit {I : Im} (h : imOk I) : ImFit I := ⟨h.2.2, by have := h.1.fit.1; omega, h.2.1⟩
theorem goI_ok {I : Im} (h : imOk I) {slot : Int} {v : Vl} (hs : slot = I.sl + 1) (hs2 : slot ≤ 1099511627776) (he : v.k = 2 → I.ep < 1099511627776) (hz : valE v = 0) (hn : ∀ x ∈ v.ns, I64 x) : imOk (goI I slot v) := by
  have h0 := h.1.sl0
  have e0 := h.1.ep0
  unfold goI
  split
  · rename_i k2
    have hm : setOkB v.ns = true := by
      rcases valE_zero hz with q | q | q
      · omega
      · exact q.2.2
      · omega
    exact ⟨⟨by show 0 ≤ I.ep + 1; omega, by have := he k2; show I.ep + 1 ≤ _; omega, by show 0 ≤ slot; omega, hs2, hm, h.1.regs, h.1.tb⟩, h.2.1, hn⟩
  · exact ⟨⟨e0, h.1.ep1, by show 0 ≤ slot; omega, hs2, h.1.mem, h.1.regs, h.1.tb⟩, h.2.1, h.2.2⟩
theorem runAll_ok {I : Im} (h : imOk I) {cs : List CmD} (hc : ∀ c ∈ cs, cmdV c = 0) : imOk (runAll I cs).1 := by
  obtain ⟨h1, h2⟩ := h.1.all h.2.1 hc cs.length
  rw [List.take_length] at h1 h2
  exact ⟨h1, h2, by have := (runAll_keep I cs (I, [])).1; show ∀ x ∈ (cs.foldl stepV (I, [])).1.mem, I64 x; rw [this]; exact h.2.2⟩
theorem cs_ok {v : Vl} (hz : valE v = 0) : ∀ c ∈ v.cs, cmdV c = 0 := by
  rcases valE_zero hz with q | q | q
  · rw [q.2.1]; intro c hc; cases hc
  · rw [q.2.1]; intro c hc; cases hc
  · exact firstE_all q.2.2.2.2
theorem exec_eq {I : Im} (h : VI I) {slot : Int} {v : Vl} (hs : slot = I.sl + 1) (hs2 : slot ≤ 1099511627776) (he : v.k = 2 → I.ep < 1099511627776) : execV I slot v = if valE v ≠ 0 then ⟨im0, [], valE v⟩ else ⟨(runAll (goI I slot v) v.cs).1, (runAll (goI I slot v) v.cs).2, 0⟩ := by
  unfold execV
  rw [if_neg (by rw [(validI_iff I).2 h]; decide), if_neg]
  rintro (q | q | ⟨q1, q2⟩)
  · exact q hs
  · omega
  · have := he q1; omega
structure ExecOk (I : Im) (slot : Int) (v : Vl) (R : ExR) : Prop where
  e : R.e = 0
  i : R.i = (runAll (goI I slot v) v.cs).1
  an : R.an = (runAll (goI I slot v) v.cs).2
  ok : imOk R.i
  sl : R.i.sl = slot
  mem : R.i.mem = if v.k = 2 then v.ns else I.mem
  ep : R.i.ep = if v.k = 2 then I.ep + 1 else I.ep
  len : R.an.length = v.cs.length
  rest : v.cs = [] → R.i.regs = I.regs ∧ R.i.tb = I.tb
theorem exec_ok {I : Im} (h : imOk I) {slot : Int} {v : Vl} (hs : slot = I.sl + 1) (hs2 : slot ≤ 1099511627776) (he : v.k = 2 → I.ep < 1099511627776) (hz : valE v = 0) (hn : ∀ x ∈ v.ns, I64 x) : ExecOk I slot v (execV I slot v) := by
  rw [exec_eq h.1 hs hs2 he, if_neg (fun q => q hz)]
  have hk := runAll_keep (goI I slot v) v.cs (goI I slot v, [])
  refine ⟨rfl, rfl, rfl, runAll_ok (goI_ok h hs hs2 he hz hn) (cs_ok hz), hk.2.2.1.trans ?_, hk.1.trans ?_, hk.2.1.trans ?_, (hk.2.2.2).trans (by simp), fun hc => ?_⟩
  · show (goI I slot v).sl = slot
    unfold goI; split <;> rfl
  · show (goI I slot v).mem = _
    unfold goI; split <;> rfl
  · show (goI I slot v).ep = _
    unfold goI; split <;> rfl
  · rw [hc]
    show (goI I slot v).regs = _ ∧ (goI I slot v).tb = _
    unfold goI; split <;> exact ⟨rfl, rfl⟩
end Go.Proofs.Ytbedoemdjlollaa

namespace Go.Proofs.Ytbedoemdjlollaa
open Go.ChangeShapes Go.WideShapes Go.ChangeAt Go.RowKit Go.Syn Go.Eng
set_option linter.unusedVariables false
set_option linter.unusedSimpArgs false
set_option maxRecDepth 100000
section
variable {C : Cfg} {ρ : Env} {pre : List Nat} {rest : HX} {L : Stack} {m m' : Mem} {ty : Nat} {ps : List (Nat × SV)} {t : Tree}
end
structure RepR where
  k : Int
  re : Int
  im : Int
  d : Bool
end Go.Proofs.Ytbedoemdjlollaa

namespace Go.Proofs.Ytbedoemdjlollaa
open Go.ChangeShapes Go.WideShapes Go.ChangeAt Go.RowKit Go.Syn Go.Eng
set_option linter.unusedVariables false
set_option linter.unusedSimpArgs false
set_option maxRecDepth 100000
end Go.Proofs.Ytbedoemdjlollaa

namespace Go.Proofs.Ytbedoemdjlollaa
open Go.ChangeShapes Go.WideShapes Go.ChangeAt Go.RowKit Go.Syn Go.Eng
set_option linter.unusedVariables false
set_option linter.unusedSimpArgs false
set_option maxRecDepth 100000
section
variable {C : Cfg} {ρ : Env} {pre : List Nat} {rest : HX} {L : Stack} {m m' : Mem} {ty : Nat} {ps : List (Nat × SV)} {t : Tree}
end
end Go.Proofs.Ytbedoemdjlollaa

namespace Go.Proofs.Ytbedoemdjlollaa
open Go.ChangeShapes Go.WideShapes Go.ChangeAt Go.RowKit Go.Syn Go.Eng
set_option linter.unusedVariables false
set_option linter.unusedSimpArgs false
set_option maxRecDepth 100000
section
variable {C : Cfg} {ρ : Env} {pre : List Nat} {hx : HX} {L : Stack} {m : Mem}
theorem again_W {key : Nat} {es : Vec} {I : Vals → HX → Prop} (v' : Vals) (hI : lkup key L = some I) (hv : ∀ ids, es.den ρ ids = v') (hx' : HX) (h : ∀ w ids, Facts C m ρ ids hx w → HXok hx' w ids ∧ I v' hx') : (Tree.again key es m).holds C ρ pre hx L :=
  fun ids w hp hf => ⟨hx', (h w ids hf).1, I, hI, by rw [hv]; exact (h w ids hf).2⟩
end
end Go.Proofs.Ytbedoemdjlollaa

namespace Go.Proofs.Ytbedoemdjlollaa
open Go.ChangeShapes Go.WideShapes Go.ChangeAt Go.RowKit Go.Syn Go.Eng
set_option linter.unusedVariables false
set_option linter.unusedSimpArgs false
set_option maxRecDepth 100000
def tbX (a : Option Addr) (es : List SE) : HX := ⟨fun k => (HX.cl a (secells es)).F k ∨ ∃ e ∈ es, (HX.cl e.a (kcells e.s.kept)).F k, fun w => TbAt w a es, fun w w' h he => ⟨(HX.cl a (secells es)).loc w w' h.row fun k hk => he k (.inl hk), fun e hm => (HX.cl e.a (kcells e.s.kept)).loc w w' (h.each e hm) fun k hk => he k (.inr ⟨e, hm, hk⟩)⟩⟩
def imR (I : Im) (a1 a2 : Option Addr) (es : List SE) : HX := (HX.cl a1 (I.mem.map (Value.int .i64))).and (tbX a2 es)
theorem imR_of {I : Im} {a1 a2 : Option Addr} {c2 : Nat} {es : List SE} {w : World} (h : (imX I a1 a2 c2 es).X w) : (imR I a1 a2 es).X w ∧ ∀ k, (imR I a1 a2 es).F k → (imX I a1 a2 c2 es).F k := by
  refine ⟨⟨h.1, tabR_at h.2⟩, ?_⟩
  rintro k (hk | hk | ⟨e, hm, hk⟩)
  · exact .inl hk
  · exact .inr (.inr ((rw_cl h.2.2).2 k hk))
  · exact .inr (.inl ⟨e, hm, (rw_cl (h.2.1 e hm)).2 k hk⟩)
structure ImBig (I : Im) : Prop where
  mem : ∀ x ∈ I.mem, I64 x
  len : I.mem.length * 8 ≤ 140737488351232
  reg : I.regs.length = 16
  tb : I.tb.length * 40 ≤ 140737488351232
  kept : ∀ s ∈ I.tb, s.kept.length * 32 ≤ 140737488351232
theorem imOk.big {I : Im} (h : imOk I) : ImBig I := ⟨h.2.2, by have := h.1.fit.1; omega, h.2.1, by have := h.1.fit.2; omega, fun s hs => by have := (h.1.tb.each s hs).len; omega⟩
theorem ImBig.at_ {I : Im} (h : ImBig I) {a1 a2 : Option Addr} {es : List SE} {w : World} (he : es.map SE.s = I.tb) (hX : (imR I a1 a2 es).X w) : ImAt w I a1 a2 es :=
  ⟨he, Ints.of_cells (by have := h.len; omega) h.mem hX.1, hX.2, h.reg⟩
theorem exec_zero {I : Im} {slot : Int} {v : Vl} (h : (execV I slot v).e = 0) : VI I ∧ slot = I.sl + 1 ∧ slot ≤ 1099511627776 ∧ (v.k = 2 → I.ep < 1099511627776) ∧ valE v = 0 := by
  unfold execV at h
  by_cases h1 : validI I = false
  · rw [if_pos h1] at h; cases h
  rw [if_neg h1] at h
  by_cases h2 : slot ≠ I.sl + 1 ∨ 1099511627776 < slot ∨ (v.k = 2 ∧ 1099511627776 ≤ I.ep)
  · rw [if_pos h2] at h; cases h
  rw [if_neg h2] at h
  simp only [not_or, Classical.not_not] at h2
  by_cases h3 : valE v ≠ 0
  · rw [if_pos h3] at h; exact absurd h h3
  refine ⟨(validI_iff I).1 (by simpa using h1), h2.1, by omega, fun q => ?_, by simpa using h3⟩
  have := h2.2.2
  exact Classical.byContradiction fun z => this ⟨q, by omega⟩
theorem im0_big : ImBig im0 := ⟨fun x h => (by cases h), by decide, rfl, by decide, fun s h => (by cases h)⟩
theorem exec_big {I : Im} (hI : ImBig I) (slot : Int) (v : Vl) (hn : ∀ x ∈ v.ns, I64 x) : ImBig (execV I slot v).i ∧ (execV I slot v).an.length ≤ 8 ∧ ((execV I slot v).e = 0 → imOk (execV I slot v).i) := by
  by_cases h : (execV I slot v).e = 0
  · obtain ⟨h1, h2, h3, h4, h5⟩ := exec_zero h
    have ok := exec_ok (⟨h1, hI.reg, hI.mem⟩ : imOk I) h2 h3 h4 h5 hn
    refine ⟨ok.ok.big, ?_, fun _ => ok.ok⟩
    rw [ok.len]
    rcases valE_zero h5 with q | q | q
    · rw [q.2.1]; decide
    · rw [q.2.1]; decide
    · exact q.2.1
  · have : (execV I slot v).i = im0 ∧ (execV I slot v).an = [] := by
      unfold execV at h ⊢
      split
      · exact ⟨rfl, rfl⟩
      · split
        · exact ⟨rfl, rfl⟩
        · split
          · exact ⟨rfl, rfl⟩
          · rename_i h1 h2 h3
            rw [if_neg h1, if_neg h2, if_neg h3] at h
            exact absurd rfl h
    rw [this.1, this.2]
    exact ⟨im0_big, by decide, fun q => absurd q h⟩
end Go.Proofs.Ytbedoemdjlollaa

namespace Go.Eng
open Go.RowKit Go.Syn
set_option linter.unusedVariables false
section
variable {P : Program} {W w w' : World} {M : Nat → Prop} {R : Ending → World → Prop} {C : Cfg} {ρ : Env} {pre ids : List Nat} {hx : HX} {L : Stack} {m m' : Mem} {t f : Tree} {b : BE}
theorem br_D {p : Prop} [Decidable p] (e : b.den ρ = decide p) (ht : p → t.holds C ρ pre hx L) (hf : ¬ p → f.holds C ρ pre hx L) : (Tree.br b t f).holds C ρ pre hx L :=
  br_i (fun h => ht (of_decide_eq_true (e ▸ h))) (fun h => hf (of_decide_eq_false (e ▸ h)))
theorem br_B (c : Bool) (e : b.den ρ = c) (ht : c = true → t.holds C ρ pre hx L) (hf : c = false → f.holds C ρ pre hx L) : (Tree.br b t f).holds C ρ pre hx L :=
  br_i (fun h => ht (e ▸ h)) (fun h => hf (e ▸ h))
end
instance : Std.Associative HX.and := ⟨HX.and_assoc⟩
instance : Std.Commutative HX.and := ⟨HX.and_comm⟩
end Go.Eng
namespace Go.Proofs.Ytbedoemdjlollaa
open Go.ChangeShapes Go.WideShapes Go.ChangeAt Go.RowKit Go.Syn Go.Eng
set_option linter.unusedVariables false
set_option linter.unusedSimpArgs false
set_option maxRecDepth 100000
structure Vo (α : Type) where
  s : Int
  r : Int
  n : Int
  v : α
def Vo.map {α β : Type} (f : α → β) (x : Vo α) : Vo β := ⟨x.s, x.r, x.n, f x.v⟩
def Pv.val (p : Pv) : Value := vlV p.v p.a1 p.c1 p.a2 p.c2
def Pv.hx (p : Pv) : HX := vlX p.v p.a1 p.a2
def vz : Vl := ⟨0, [], []⟩
def pz : Pv := ⟨vz, none, 0, none, 0⟩
theorem vz_fit : VlFit vz := ⟨(fun n h => by cases h), by decide, by decide⟩
def voC (x : Vo Pv) : List Value := [.int .i64 x.s, .int .i64 x.r, .int .i64 x.n, .int .i64 x.v.v.k, .slice x.v.a1 x.v.v.cs.length x.v.c1, .slice x.v.a2 x.v.v.ns.length x.v.c2]
def vocs (xs : List (Vo Pv)) : List Value := xs.flatMap voC
theorem voc_len (x : Vo Pv) : (voC x).length = 6 := rfl
def voX (a : Option Addr) (xs : List (Vo Pv)) : HX := (HX.cl a (vocs xs)).and (HX.all (xs.map fun x => x.v.hx))
def vlsOf (xs : List (Vo Pv)) : List (Vo Vl) := xs.map (Vo.map Pv.v)
section
variable {w : World} {a : Option Addr} {xs : List (Vo Pv)}
theorem voX_sep (h : (voX a xs).X w) : ∀ k, (voX a xs).F k → k < w.heap.size := fun k hk => by
  rcases hk with hk | ⟨y, hy, hk⟩
  · exact cl_sep h.1 k hk
  · obtain ⟨x, hx, rfl⟩ := List.mem_map.1 hy
    exact vlX_sep (h.2 _ hy) k hk
theorem voX_at (h : (voX a xs).X w) (hf : ∀ x ∈ xs, VlFit x.v.v) {x : Vo Pv} (hx : x ∈ xs) : VlAt w x.v.v x.v.a1 x.v.a2 := (hf x hx).at_ (h.2 _ (List.mem_map.2 ⟨x, hx, rfl⟩))
end
def pvR (p : Pv) : HX := (crow p.a1 p.v.cs.length p.c1 p.v.cs).and (nrow p.a2 p.v.ns.length p.c2 p.v.ns)
def vrow (a : Option Addr) (c : Nat) (vs : List (Vo Pv)) : HX := HX.rw 6 39 a vs.length c (vocs vs)
def voAll (vs : List (Vo Pv)) : HX := HX.all (vs.map fun x => pvR x.v)
theorem voC_one (x : Vo Pv) : ∀ v ∈ voC x, v.oneCell' = true := fun v hv => by
  simp only [voC, List.mem_cons, List.not_mem_nil, or_false] at hv
  rcases hv with rfl | rfl | rfl | rfl | rfl | rfl <;> rfl
theorem vocs_snoc (xs : List (Vo Pv)) (x : Vo Pv) : vocs xs ++ voC x = vocs (xs ++ [x]) := by unfold vocs; rw [List.flatMap_append]; simp
theorem info_vote : (Try.prog.info? 39).map (fun i => (i.zero, i.size, i.bytes)) = some (some (.agg #[.int .i64 0, .int .i64 0, .int .i64 0, .int .i64 0, .slice none 0 0, .slice none 0 0]), 6, 80) := by kernel_rfl
theorem all_snocV (xs : List HX) (x : HX) : HX.all (xs ++ [x]) = (HX.all xs).and x := HX.ext (by
    funext k
    refine propext ⟨fun ⟨y, hy, hk⟩ => ?_, fun h => ?_⟩
    · rcases List.mem_append.1 hy with hy | hy
      · exact .inl ⟨y, hy, hk⟩
      · rw [List.mem_singleton.1 hy] at hk; exact .inr hk
    · rcases h with ⟨y, hy, hk⟩ | hk
      · exact ⟨y, List.mem_append_left _ hy, hk⟩
      · exact ⟨x, List.mem_append_right _ (List.mem_singleton.2 rfl), hk⟩) (by
    funext w
    refine propext ⟨fun h => ⟨fun y hy => h y (List.mem_append_left _ hy), h x (List.mem_append_right _ (List.mem_singleton.2 rfl))⟩, fun h y hy => ?_⟩
    rcases List.mem_append.1 hy with hy | hy
    · exact h.1 y hy
    · rw [List.mem_singleton.1 hy]; exact h.2)
theorem voAll_snoc (xs : List (Vo Pv)) (x : Vo Pv) : voAll (xs ++ [x]) = (voAll xs).and (pvR x.v) := by unfold voAll; rw [List.map_append]; exact all_snocV _ _
def OwnR (W : World) (B : HX) (X : HX) : Prop := ∀ k, X.F k → W.heap.size ≤ k ∧ ¬ B.F k
section
variable {C : Cfg} {ρ : Env} {pre : List Nat} {hx : HX} {L : Stack} {m m' : Mem} {t : Tree}
end
section
variable {w : World} {a : Option Addr} {xs : List (Vo Pv)}
theorem vo_part (h : (voX a xs).X w) {i : Nat} {x : Vo Pv} (hi : xs[i]? = some x) (o : Nat) (us : List Value) (hu : ∀ j u, us[j]? = some u → (voC x)[o + j]? = some u) (h0 : us ≠ []) : a.isSome = true ∧ CellsAt w (.pointer (some (((a.getD ⟨0, 0, none⟩).add (i * 6)).add o))) us (fun _ => False) := by
  obtain ⟨h1, h2⟩ := flat_part voc_len h.1 hi (o := o) us hu h0
  exact ⟨h1, h2 _ id⟩
end
theorem vlsOf_len (xs : List (Vo Pv)) : (vlsOf xs).length = xs.length := List.length_map _
section
variable {C : Cfg} {ρ : Env} {pre : List Nat} {hx : HX} {L : Stack} {m m' : Mem} {args : List SV} {r : SV} {t : Tree}
end
section
variable {w : World} {ys : List (Vo Pv)} {b : Option Addr} {d : Nat}
theorem vox_of (h : ((voAll ys).and (vrow b d ys)).X w) : (voX b ys).X w := ⟨rw_cells h.2, fun y hy => by
  obtain ⟨x, hx, rfl⟩ := List.mem_map.1 hy
  have := h.1 _ (List.mem_map.2 ⟨x, hx, rfl⟩)
  exact ⟨rw_cells this.1, rw_cells this.2⟩⟩
end
section
variable {C : Cfg} {ρ : Env} {pre : List Nat} {hx : HX} {L : Stack} {m m' : Mem} {args : List SV} {r : SV} {t : Tree}
end
end Go.Proofs.Ytbedoemdjlollaa

namespace Go.Proofs.Ytbedoemdjlollaa
open Go.ChangeShapes Go.WideShapes Go.ChangeAt Go.RowKit Go.Syn Go.Eng
set_option linter.unusedVariables false
set_option linter.unusedSimpArgs false
set_option maxRecDepth 100000
def VlRowV (w : World) (V : Value → Value) (v : Vl) (e : Ending) (w' : World) : Prop := ∃ a1 c1 a2 c2, e = .returned (V (vlV v a1 c1 a2 c2)) ∧ (crow a1 v.cs.length c1 v.cs).X w' ∧ (nrow a2 v.ns.length c2 v.ns).X w' ∧ (∀ k, (crow a1 v.cs.length c1 v.cs).F k → w.heap.size ≤ k) ∧ (∀ k, (nrow a2 v.ns.length c2 v.ns).F k → w.heap.size ≤ k ∧ ¬ (crow a1 v.cs.length c1 v.cs).F k) ∧ Below w.heap.size w w'
theorem crow_lt {a : Option Addr} {n c : Nat} {cs : List CmD} {w : World} (h : (crow a n c cs).X w) : ∀ k, (crow a n c cs).F k → k < w.heap.size := fun k hk => rw_blt h hk.1 hk.2
theorem nrow_lt {a : Option Addr} {n c : Nat} {ns : List Int} {w : World} (h : (nrow a n c ns).X w) : ∀ k, (nrow a n c ns).F k → k < w.heap.size := fun k hk => rw_blt h hk.1 hk.2
section
variable {C : Cfg} {ρ : Env} {pre : List Nat} {hx : HX} {L : Stack} {m m' : Mem} {args : List SV} {r : SV} {t : Tree}
theorem node_vrow {f : Nat} {V : Value → Value} {v : Vl} (AS : List Nat → Array Value) (vs : Option Addr → Nat → Option Addr → Nat → Vals) (hargs : ∀ ids, (args.map (SV.den ρ ids)).toArray = AS ids) (hcall : ∀ ids w, pre <+: ids → Facts C m ρ ids hx w → Calls C.P f (AS ids) w (VlRowV w V v))
    (hr : ∀ a1 c1 a2 c2 ids, r.den (ρ.add (vs a1 c1 a2 c2)) ids = V (vlV v a1 c1 a2 c2)) (hhp : m'.hp = m.hp) (hfit : hpFits m.c m.hp.length m.hp = true) (hc : ∀ a1 c1 a2 c2, (ρ.add (vs a1 c1 a2 c2)).cnt = m'.c) (h1 : ∀ a1 c1 a2 c2 v, v ∈ (vs a1 c1 a2 c2).v → v.oneCell' = true)
    (h : ∀ a1 c1 a2 c2, (∀ k, (crow a1 v.cs.length c1 v.cs).F k → C.W.heap.size ≤ k ∧ ¬ hx.F k) → (∀ k, (nrow a2 v.ns.length c2 v.ns).F k → C.W.heap.size ≤ k ∧ ¬ hx.F k ∧ ¬ (crow a1 v.cs.length c1 v.cs).F k) → t.holds C (ρ.add (vs a1 c1 a2 c2)) pre (hx.and ((crow a1 v.cs.length c1 v.cs).and (nrow a2 v.ns.length c2 v.ns))) L) : (Tree.call f args m r m' t).holds C ρ pre hx L := by
  refine node_out AS (fun u hy => ∃ a1 c1 a2 c2, u = vs a1 c1 a2 c2 ∧ hy = (crow a1 v.cs.length c1 v.cs).and (nrow a2 v.ns.length c2 v.ns) ∧ ∀ k, (nrow a2 v.ns.length c2 v.ns).F k → ¬ (crow a1 v.cs.length c1 v.cs).F k) hargs (fun ids w hp hf => ?_) hhp hfit ?_ ?_
  · refine (hcall ids w hp hf).mono ?_
    rintro e w' ⟨a1, c1, a2, c2, rfl, hX1, hX2, g1, g2, hb⟩
    exact ⟨_, _, ⟨a1, c1, a2, c2, rfl, rfl, fun k hk => (g2 k hk).2⟩, by rw [hr], ⟨hX1, hX2⟩, fun k hk => hk.elim (fun q => ⟨g1 k q, crow_lt hX1 k q⟩) (fun q => ⟨(g2 k q).1, nrow_lt hX2 k q⟩), hb⟩
  · rintro u hy ⟨a1, c1, a2, c2, rfl, rfl, _⟩
    exact ⟨hc _ _ _ _, h1 _ _ _ _⟩
  · rintro u hy ⟨a1, c1, a2, c2, rfl, rfl, g⟩ hfr
    exact h a1 c1 a2 c2 (fun k hk => hfr k (.inl hk)) fun k hk => ⟨(hfr k (.inr hk)).1, (hfr k (.inr hk)).2, g k hk⟩
end
theorem scloneC_row (a : Option Addr) (cap : Nat) (cs : List CmD) (w : World) (H : Cells w a (ccells cs)) (hl : cs.length ≤ 2199023255552) : Calls Try.prog 42 #[.slice a cs.length cap] w (RwNew w id 8 43 cs.length (ccells cs)) := by
  refine calls_at (tab_ok _) Try.func42 rfl tSCloneC (ρ := ⟨[], [], [], [cs.length, cap], [a]⟩) (ids := []) (hx := HX.cl a (ccells cs)) rfl (Facts.initq rfl oneNil H (cl_sep H)) ?_
  by_cases h : a.isNone = true
  · refine br_t h ?_
    obtain rfl : a = none := by simpa using h
    have e := none_nil H
    have e2 : cs = [] := Classical.byContradiction fun q => ccells_ne q e
    subst e2
    intro ids w2 hp hf
    exact ⟨none, 0, rfl, HX.rw_nil _ _ _ _, fun k hk => absurd rfl hk, hf.chg.below⟩
  · refine br_f (show a.isNone = false by cases a with | none => exact absurd rfl h | some x => rfl) ?_
    refine node_clones (sz := 8) (xs := ccells cs) rfl Try.underlying32 info_cmd rfl (by decide) 0 rfl (fun _ => a) cs.length cap (ccells_len _) (fun ids w2 hp hf => hf.x) (ccells_one cs) (by unfold maxLen; omega) (by omega) (fun _ => rfl) (fun _ => rfl) (fun _ _ _ => rfl) rfl rfl (fun _ _ => rfl) ?_
    intro a' c' hfr ids w2 hp hf
    exact ⟨a', c', rfl, hf.x.2, fun k h1 h2 => (hfr k h1 h2).1, hf.chg.below⟩
theorem scloneN_row (a : Option Addr) (cap : Nat) (ns : List Int) (w : World) (H : Cells w a (ns.map (Value.int .i64))) (hl : ns.length ≤ 17592186044416) : Calls Try.prog 32 #[.slice a ns.length cap] w (RwNew w id 1 3 ns.length (ns.map (Value.int .i64))) := by
  refine calls_at (tab_ok _) Try.func32 rfl tSCloneN (ρ := ⟨[], [], [], [ns.length, cap], [a]⟩) (ids := []) (hx := HX.cl a (ns.map (Value.int .i64))) rfl (Facts.initq rfl oneNil H (cl_sep H)) ?_
  by_cases h : a.isNone = true
  · refine br_t h ?_
    obtain rfl : a = none := by simpa using h
    have e := none_nil H
    have e2 : ns = [] := by simpa using e
    subst e2
    intro ids w2 hp hf
    exact ⟨none, 0, rfl, HX.rw_nil _ _ _ _, fun k hk => absurd rfl hk, hf.chg.below⟩
  · refine br_f (show a.isNone = false by cases a with | none => exact absurd rfl h | some x => rfl) ?_
    refine node_clones (sz := 1) (xs := ns.map (Value.int .i64)) rfl Try.underlying33 info_int1 rfl (by decide) 0 rfl (fun _ => a) ns.length cap (by rw [List.length_map, Nat.mul_one]) (fun ids w2 hp hf => hf.x) (fun x hx => by obtain ⟨n, _, rfl⟩ := List.mem_map.1 hx; rfl) (by unfold maxLen; omega) (by omega) (fun _ => rfl) (fun _ => rfl) (fun _ _ _ => rfl) rfl rfl (fun _ _ => rfl) ?_
    intro a' c' hfr ids w2 hp hf
    exact ⟨a', c', rfl, hf.x.2, fun k h1 h2 => (hfr k h1 h2).1, hf.chg.below⟩
theorem vclone_row (v : Vl) (a1 : Option Addr) (c1 : Nat) (a2 : Option Addr) (c2 : Nat) (w : World) (H : VlAt w v a1 a2) : Calls Try.prog 26 #[vlV v a1 c1 a2 c2] w (VlRowV w id v) := by
  refine calls_at (tab_ok _) Try.func26 rfl tVClone (ρ := ⟨[v.k], [], [], [v.cs.length, c1, v.ns.length, c2], [a1, a2]⟩) (ids := []) (hx := vlX v a1 a2) rfl (Facts.initq rfl oneNil H.X (vlX_sep H.X)) ?_
  refine par_i (par_i ?_ ?_) ?_
  all_goals
    refine node_rwn (V := id) (sz := 8) (e := 43) (n := v.cs.length) (xs := ccells v.cs) (fun _ => #[.slice a1 v.cs.length c1]) (fun a' c' => ⟨[], [], [], [v.cs.length, c'], [a']⟩) (by intros; kernel_rfl) (fun ids w2 hp hf => scloneC_row a1 c1 v.cs w2 hf.x.1 H.l1) (by intros; kernel_rfl) (by intros; kernel_rfl) (by intros; kernel_rfl) (by intros; kernel_rfl) (fun _ _ => oneNil) ?_
    intro b1 d1 _ hf1
    refine node_rwn (V := id) (sz := 1) (e := 3) (n := v.ns.length) (xs := v.ns.map (Value.int .i64)) (fun _ => #[.slice a2 v.ns.length c2]) (fun a' c' => ⟨[], [], [], [v.ns.length, c'], [a']⟩) (by intros; kernel_rfl) (fun ids w2 hp hf => scloneN_row a2 c2 v.ns w2 hf.x.1.2 H.l2) (by intros; kernel_rfl) (by intros; kernel_rfl) (by intros; kernel_rfl) (by intros; kernel_rfl) (fun _ _ => oneNil) ?_
    intro b2 d2 _ hf2 ids w2 hp hf
    exact ⟨b1, d1, b2, d2, rfl, hf.x.1.2, hf.x.2, fun k hk => (hf1 k hk.1 hk.2).1, fun k hk => ⟨(hf2 k hk.1 hk.2).1, fun q => (hf2 k hk.1 hk.2).2 (.inr q)⟩, hf.chg.below⟩
structure Tl where
  a : Option Addr
  c : Nat
  xs : List (Vo Pv)
def tlC (t : Tl) : List Value := [.slice t.a t.xs.length t.c]
def tlX (a : Option Addr) (ts : List Tl) : HX := HX.all (HX.cl a (ts.flatMap tlC) :: ts.map fun t => voX t.a t.xs)
structure TlOk (t : Tl) : Prop where
  s : ∀ x ∈ t.xs, I64 x.s
  f : ∀ x ∈ t.xs, VlFit x.v.v
  l : t.xs.length * 80 ≤ 140737488355328
section
variable {w : World} {a b : Option Addr} {ts : List Tl} {t : Tl} {ys : List (Vo Pv)} {d : Nat}
theorem tl_vo (h : (tlX a ts).X w) (ht : t ∈ ts) : (voX t.a t.xs).X w := h _ (List.mem_cons_of_mem _ (List.mem_map.2 ⟨t, ht, rfl⟩))
theorem tl_part (h : (tlX a ts).X w) {i : Nat} (hi : ts[i]? = some t) : a.isSome = true ∧ CellsAt w (.pointer (some (((a.getD ⟨0, 0, none⟩).add (i * 1)).add 0))) (tlC t) (fun _ => False) := by
  obtain ⟨h1, h2⟩ := flat_part (f := tlC) (fun _ => rfl) (h _ (.head _)) hi (o := 0) (tlC t) (fun j u hj => by rw [Nat.zero_add]; exact hj) (by simp [tlC])
  exact ⟨h1, h2 _ id⟩
end
theorem zero_val (w : World) : (zeroValue 35).run Try.prog w = .ok (vlV vz none 0 none 0) w := by kernel_rfl
end Go.Proofs.Ytbedoemdjlollaa

namespace Go.Proofs.Ytbedoemdjlollaa
open Go Go.ChangeShapes Go.WideShapes Go.ChangeAt Go.RowKit Go.Syn Go.Eng
set_option linter.unusedVariables false
set_option linter.unusedSimpArgs false
set_option maxRecDepth 100000
def outV (m : List (Int × Vl)) (n : Nat) : List (Vo Vl) := (List.range n).map fun i => ⟨((i + 1 : Nat) : Int), 0, 0, (mlk m ((i + 1 : Nat) : Int)).getD vz⟩
theorem outV_succ (m : List (Int × Vl)) (n : Nat) : outV m (n + 1) = outV m n ++ [⟨((n + 1 : Nat) : Int), 0, 0, (mlk m ((n + 1 : Nat) : Int)).getD vz⟩] := by
  unfold outV
  rw [List.range_succ, List.map_append]; rfl
noncomputable def mgV : List (Int × Vl) → Int → List (Vo Vl) → List (Vo Vl) × Int
  | m, top, [] => if top ≠ (m.length : Int) then ([], 41) else (outV m m.length, 0)
  | m, top, v :: r => if v.s < 1 ∨ valE v.v ≠ 0 then ([], 1) else if (mlk m v.s).isSome = true ∧ vlSame ((mlk m v.s).getD vz) v.v = false then ([], 63) else mgV (mput m v.s v.v) (max top v.s) r
noncomputable def mergeV (vs : List (Vo Vl)) : List (Vo Vl) × Int := mgV [] 0 vs
def MgNew (w : World) (R : List (Vo Vl) × Int) (e : Ending) (w' : World) : Prop := ∃ (b : Option Addr) (d : Nat) (ys : List (Vo Pv)), e = .returned (.tuple #[.slice b ys.length d, .int .i64 R.2]) ∧ vlsOf ys = R.1 ∧ ((voAll ys).and (vrow b d ys)).X w' ∧ (∀ k, ((voAll ys).and (vrow b d ys)).F k → w.heap.size ≤ k ∧ k < w'.heap.size) ∧ Below w.heap.size w w'
theorem mg_nil {w : World} {c : Int} {v : SV} {m : Mem} {ρ : Env} {hx : HX} {S : Stack} (hv : ∀ ids, v.den ρ ids = .tuple #[.slice none 0 0, .int .i64 c]) : (Tree.done v m).holds ⟨Try.prog, w, fun _ => False, MgNew w ([], c)⟩ ρ [] hx S := fun ids w2 hp hf =>
  ⟨none, 0, [], by rw [hv ids]; rfl, rfl, ⟨(fun x hx => by cases hx), HX.rw_nil _ _ _ _⟩, fun k hk => hk.elim (fun ⟨x, hx, _⟩ => by cases hx) fun q => absurd rfl q.1, hf.chg.below⟩
structure MpOk (W : World) (mp : List (Int × Pv)) : Prop where
  each : ∀ p ∈ mp, VlFit p.2.v ∧ p.2.hx.X W
def mpGet (mp : List (Int × Pv)) (k : Int) : Pv := (mlk mp k).getD pz
theorem mp_at {W : World} {mp : List (Int × Pv)} (h : MpOk W mp) (k : Int) : VlFit (mpGet mp k).v ∧ (mpGet mp k).hx.X W := by
  unfold mpGet
  cases hm : mlk mp k with
  | none => exact ⟨vz_fit, cl_nil _ _, cl_nil _ _⟩
  | some p => exact h.each (k, p) (mlk_mem hm)
theorem mp_val (mp : List (Int × Pv)) (k : Int) : (mlk (mmap Pv.val mp) k).getD (vlV vz none 0 none 0) = (mpGet mp k).val := by
  rw [mlk_map]; unfold mpGet
  cases mlk mp k <;> rfl
theorem mp_v (mp : List (Int × Pv)) (k : Int) : (mlk (mmap Pv.v mp) k).getD vz = (mpGet mp k).v := by
  rw [mlk_map]; unfold mpGet
  cases mlk mp k <;> rfl
theorem mp_some (mp : List (Int × Pv)) (k : Int) : (mlk (mmap Pv.val mp) k).isSome = (mlk (mmap Pv.v mp) k).isSome := by rw [mlk_map, mlk_map]; cases mlk mp k <;> rfl
theorem MpOk.put {W : World} {mp : List (Int × Pv)} (h : MpOk W mp) (k : Int) {p : Pv} (hp : VlFit p.v ∧ p.hx.X W) : MpOk W (mput mp k p) := ⟨fun q hq => by
  rcases mput_mem hq with rfl | ⟨hq, _⟩
  · exact hp
  · exact h.each q hq⟩
def MgI (W : World) (bm : Nat) (rest : List (Vo Pv)) (N : Nat) (T : List (Vo Vl) × Int) (mp : List (Int × Pv)) (top : Int) : Prop := MpOk W mp ∧ mp.length + rest.length ≤ N ∧ (0 ≤ top) ∧ mgV (mmap Pv.v mp) top (vlsOf rest) = T
theorem vls_app (xs ys : List (Vo Pv)) : vlsOf (xs ++ ys) = vlsOf xs ++ vlsOf ys := by unfold vlsOf; rw [List.map_append]
def tlAll (ts : List Tl) : List (Vo Pv) := ts.flatMap Tl.xs
set_option maxHeartbeats 4000000 in
theorem jmerge_any (a : Option Addr) (cp : Nat) (ts : List Tl) (w : World) (H0 : (tlX a ts).X w) (hts : ∀ t ∈ ts, TlOk t) (hlen : ts.length ≤ 4611686018427387904) (hN : (tlAll ts).length ≤ 1048576) :
    Calls Try.prog 11 #[.slice a ts.length cp] w (MgNew w (mergeV (vlsOf (tlAll ts)))) := by
  refine calls_at (tab_ok _) Try.func11 rfl tJMerge (ρ := ⟨[], [], [], [ts.length, cp], [a]⟩) (ids := []) (hx := HX.nil) rfl (Facts.initP rfl oneNil) ?_
  obtain ⟨T, eT⟩ : ∃ T, T = mergeV (vlsOf (tlAll ts)) := ⟨_, rfl⟩
  rw [← eT]
  obtain ⟨N, eN⟩ : ∃ N, N = (tlAll ts).length := ⟨_, rfl⟩
  rw [← eN] at hN
  have keepP : ∀ {m : Mem} {ρ : Env} {ids : List Nat} {hx : HX} {w2 : World} {R : Ending → World → Prop} {p : Pv}, VlFit p.v ∧ p.hx.X w → Facts ⟨Try.prog, w, fun _ => False, R⟩ m ρ ids hx w2 → VlAt w2 p.v p.a1 p.a2 := fun hp hf => hp.1.at_ ((vlX _ _ _).loc _ _ hp.2 fun k hk => hf.chg.block k (vlX_sep hp.2 k hk) (fun q => q))
  refine node_vmake (by intros; kernel_rfl) (by kernel_rfl) (by kernel_rfl) (by intros; kernel_rfl) ?_
  intro bm hbm1 hbm2
  refine ⟨fun vs hx n => ∃ (i : Nat) (mp : List (Int × Pv)) (top : Int), n = ts.length - i ∧ i ≤ ts.length ∧ MgI w bm (tlAll (ts.drop i)) N T mp top ∧ vs = ⟨[(i : Int), top], [], [], [], []⟩ ∧ HX.nil.and (HX.vmap bm (mmap Pv.val mp)) = hx, fun ids w2 hp hf => ⟨_, ts.length, ⟨hf.x, hf.sep⟩, 0, [], 0, rfl, Nat.zero_le _, ⟨⟨fun p hp => by cases hp⟩, by rw [eN]; exact Nat.le_of_eq (Nat.zero_add _), Int.le_refl _, eT.symm⟩, by kernel_rfl, rfl⟩, ?_⟩
  rintro vs hx' n hcnt ⟨i, mp, top, rfl, hi, ⟨hmp, hml, htop, hT⟩, rfl, rfl⟩
  refine holds_env (ρ' := ⟨[(i : Int), top], [], [.map (some bm)], [ts.length, cp], [a]⟩) (by kernel_rfl) ?_
  have hwi : IntKind.i64.wrap ((i : Int) + 1) = ((i + 1 : Nat) : Int) := by rw [wrap_i64 (by omega)]; omega
  refine br_D (p := (i : Int) < (ts.length : Int)) (by kernel_rfl) (fun hlt => ?B) (fun hlt => ?E)
  case' B =>
    have hlt : i < ts.length := by omega
    obtain ⟨t, ht⟩ : ∃ t, ts[i]? = some t := ⟨_, List.getElem?_eq_getElem hlt⟩
    have htm := List.mem_of_getElem? ht
    have hok := hts t htm
    have htx := tl_vo H0 htm
    have hd : tlAll (ts.drop i) = t.xs ++ tlAll (ts.drop (i + 1)) := by
      obtain ⟨q, e⟩ := List.getElem?_eq_some_iff.1 ht
      rw [List.drop_eq_getElem_cons q, e]; rfl
    obtain ⟨s1, g1⟩ := tl_part H0 ht
    refine need_k (a.isSome = true ∧ (0 : Int) ≤ (i : Int) ∧ (i : Int) < (ts.length : Int)) (by kernel_rfl) ⟨s1, by omega, by omega⟩ ?_
    refine node_ld0 (k := ⟨2, 0, 1, 2, 1⟩) ⟨[], [], [], [t.xs.length, t.c], [t.a]⟩ (.pointer (some (((a.getD ⟨0, 0, none⟩).add (i * 1)).add 0))) (tlC t) (by intros; kernel_rfl) (by intros; kernel_rfl) g1 ⟨by kernel_rfl, (fun v hv => by simp only [List.mem_cons, List.not_mem_nil, or_false] at hv; subst hv; rfl)⟩ (by kernel_rfl) oneNil ?_
    rw [hd] at hml hT
    have hlx : t.xs.length * 80 ≤ 140737488355328 := hok.l
    refine ⟨fun vs hx n => ∃ (j : Nat) (mp : List (Int × Pv)) (top : Int), n = t.xs.length - j ∧ j ≤ t.xs.length ∧ MgI w bm (t.xs.drop j ++ tlAll (ts.drop (i + 1))) N T mp top ∧ vs = ⟨[(j : Int), top], [], [], [], []⟩ ∧ HX.nil.and (HX.vmap bm (mmap Pv.val mp)) = hx, fun ids w2 hp hf => ⟨_, t.xs.length, ⟨hf.x, hf.sep⟩, 0, mp, top, rfl, Nat.zero_le _, ⟨hmp, hml, htop, hT⟩, by kernel_rfl, rfl⟩, ?_⟩
    clear hml hT htop hmp
    rintro vs hx' n hcnt2 ⟨j, mp2, top2, rfl, hj, ⟨hmp, hml, htop, hT⟩, rfl, rfl⟩
    refine holds_env (ρ' := ⟨[(i : Int), top, (j : Int), top2], [], [.map (some bm)], [ts.length, cp, t.xs.length, t.c], [a, t.a]⟩) (by kernel_rfl) ?_
    refine br_D (p := (j : Int) < (t.xs.length : Int)) (by kernel_rfl) (fun hjl => ?B2) (fun hjl => ?E2)
    case E2 =>
      rw [List.drop_eq_nil_of_le (by omega), List.nil_append] at hml hT
      exact again_V ⟨[IntKind.i64.wrap ((i : Int) + 1), top2], [], [], [], []⟩ rfl (by intros; kernel_rfl) _ (fun w2 ids hf => ⟨hf.x, hf.sep⟩) ⟨ts.length - (i + 1), by omega, i + 1, mp2, top2, rfl, by omega, ⟨hmp, hml, htop, hT⟩, by rw [hwi], rfl⟩
    have hjl : j < t.xs.length := by omega
    have hwj : IntKind.i64.wrap ((j : Int) + 1) = ((j + 1 : Nat) : Int) := by rw [wrap_i64 (by omega)]; omega
    obtain ⟨x, hx⟩ : ∃ x, t.xs[j]? = some x := ⟨_, List.getElem?_eq_getElem hjl⟩
    have hxm := List.mem_of_getElem? hx
    have hxv : VlFit x.v.v ∧ x.v.hx.X w := ⟨hok.f x hxm, htx.2 _ (List.mem_map.2 ⟨x, hxm, rfl⟩)⟩
    have hd2 : t.xs.drop j ++ tlAll (ts.drop (i + 1)) = x :: (t.xs.drop (j + 1) ++ tlAll (ts.drop (i + 1))) := by
      obtain ⟨q, e⟩ := List.getElem?_eq_some_iff.1 hx
      rw [List.drop_eq_getElem_cons q, e]; rfl
    rw [hd2] at hml hT
    obtain ⟨Y, eY⟩ : ∃ Y, Y = t.xs.drop (j + 1) ++ tlAll (ts.drop (i + 1)) := ⟨_, rfl⟩
    rw [← eY, List.length_cons] at hml
    have hT2 : T = if x.s < 1 ∨ valE x.v.v ≠ 0 then ([], 1) else if (mlk (mmap Pv.v mp2) x.s).isSome = true ∧ vlSame (mpGet mp2 x.s).v x.v.v = false then ([], 63) else mgV (mput (mmap Pv.v mp2) x.s x.v.v) (max top2 x.s) (vlsOf Y) := by
      rw [← mp_v, ← hT, eY]; rfl
    obtain ⟨s2, g2⟩ := vo_part htx hx 0 (voC x) (fun j u hj => by rw [Nat.zero_add]; exact hj) (by simp [voC])
    refine need_k (t.a.isSome = true ∧ (0 : Int) ≤ (j : Int) ∧ (j : Int) < (t.xs.length : Int)) (by kernel_rfl) ⟨s2, by omega, by omega⟩ ?_
    refine node_ld0 (k := ⟨4, 0, 1, 4, 2⟩) ⟨[x.s, x.r, x.n, x.v.v.k], [], [], [x.v.v.cs.length, x.v.c1, x.v.v.ns.length, x.v.c2], [x.v.a1, x.v.a2]⟩ (.pointer (some (((t.a.getD ⟨0, 0, none⟩).add (j * 6)).add 0))) (voC x) (by intros; kernel_rfl) (by intros; kernel_rfl) g2 ⟨by kernel_rfl, (fun v hv => by simp only [List.mem_cons, List.not_mem_nil, or_false] at hv; subst hv; rfl)⟩ (by kernel_rfl) oneNil ?_
    obtain ⟨o, eo⟩ : ∃ o, o = mpGet mp2 x.s := ⟨_, rfl⟩
    obtain ⟨ob, eob⟩ : ∃ ob, ob = (mlk (mmap Pv.v mp2) x.s).isSome := ⟨_, rfl⟩
    rw [← eo, ← eob] at hT2
    have hov : VlFit o.v ∧ o.hx.X w := by rw [eo]; exact mp_at hmp x.s
    refine node_vlook (kt := 3) (et := 35) (z := vlV vz none 0 none 0) ⟨[o.v.k], [ob], [], [o.v.cs.length, o.c1, o.v.ns.length, o.c2], [o.a1, o.a2]⟩ bm (mmap Pv.val mp2) x.s (fun w2 h => h.2) (by intros; kernel_rfl) (by intros; kernel_rfl) (by kernel_rfl) Try.underlying3 zero_val (fun ids => by rw [vlk_is, mp_val, mp_some, ← eo, ← eob]; kernel_rfl) (by kernel_rfl) (by kernel_rfl) (by kernel_rfl) oneNil ?_
    refine br_D (p := x.s < 1) (by kernel_rfl) (fun h1 => by rw [hT2, if_pos (.inl h1)]; exact mg_nil (by intros; kernel_rfl)) (fun h1 => ?_)
    refine node_P ⟨[valE x.v.v], [], [], [], []⟩ #[x.v.val] (.int .i64 (valE x.v.v)) (by intros; kernel_rfl) (by intros; kernel_rfl) (by kernel_rfl) (by kernel_rfl) (by kernel_rfl) oneNil (fun ids w2 hp hf => vchk_any _ _ _ _ _ w2 (keepP hxv hf)) ?_
    refine br_B (valE x.v.v != 0) (by kernel_rfl) (fun h2 => by rw [hT2, if_pos (.inr (by simpa using h2))]; exact mg_nil (by intros; kernel_rfl)) (fun h2 => ?_)
    have h2 : valE x.v.v = 0 := by simpa using h2
    rw [if_neg (by simp only [not_or]; exact ⟨h1, fun q => q h2⟩)] at hT2
    have hm3 : mput (mmap Pv.val mp2) x.s x.v.val = mmap Pv.val (mput mp2 x.s x.v) := mput_map _ _ _ _
    have hmx : max top2 x.s = max top2 x.s := rfl
    have hl3 : (mput mp2 x.s x.v).length + Y.length ≤ N := by rw [mput_len]; split <;> omega
    refine br_B ob (by kernel_rfl) (fun h3 => ?K1) (fun h3 => ?K2)
    case' K1 =>
      refine node_P ⟨[], [vlSame o.v x.v.v], [], [], []⟩ #[o.val, x.v.val] (.bool (vlSame o.v x.v.v)) (by intros; kernel_rfl) (by intros; kernel_rfl) (by kernel_rfl) (by kernel_rfl) (by kernel_rfl) oneNil (fun ids w2 hp hf => vsame_any _ _ _ _ _ _ _ _ _ _ w2 (keepP hov hf) (keepP hxv hf)) ?_
      refine br_B (!(vlSame o.v x.v.v)) (by kernel_rfl) (fun h4 => by rw [hT2, if_pos ⟨h3, by simpa using h4⟩]; exact mg_nil (by intros; kernel_rfl)) (fun h4 => ?_)
      have hT3 : T = mgV (mput (mmap Pv.v mp2) x.s x.v.v) (max top2 x.s) (vlsOf Y) := by rw [hT2, if_neg (fun q => by rw [q.2] at h4; cases h4)]
    case' K2 =>
      have hT3 : T = mgV (mput (mmap Pv.v mp2) x.s x.v.v) (max top2 x.s) (vlsOf Y) := by rw [hT2, if_neg (fun q => by rw [h3] at q; exact absurd q.1 (by decide))]
    all_goals
      rw [mput_map] at hT3
      refine node_vput (kt := 3) (et := 35) bm (mmap Pv.val mp2) x.s x.v.val (.inl hbm1) (fun q => q) (by intros; kernel_rfl) (by intros; kernel_rfl) (by intros; kernel_rfl) (by kernel_rfl) Try.underlying3 (by kernel_rfl) (by kernel_rfl) (by kernel_rfl) ?_
      refine holds_eq (show _ = HX.nil.and (HX.vmap bm (mmap Pv.val (mput mp2 x.s x.v))) by rw [vput_is, hm3]) ?_
      exact again_V ⟨[IntKind.i64.wrap ((j : Int) + 1), max top2 x.s], [], [], [], []⟩ rfl (by intros; kernel_rfl) _ (fun w2 ids hf => ⟨hf.x, hf.sep⟩) ⟨t.xs.length - (j + 1), by omega, j + 1, mput mp2 x.s x.v, max top2 x.s, rfl, by omega, ⟨hmp.put x.s hxv, by rw [← eY]; exact hl3, by omega, by rw [← eY]; exact hT3.symm⟩, by rw [hwj], rfl⟩
  case E =>
    rw [List.drop_eq_nil_of_le (by omega)] at hml hT
    have hml : mp.length ≤ N := hml
    have hlm : (mmap Pv.val mp).length = mp.length := by unfold mmap; exact List.length_map _
    have hlv : (mmap Pv.v mp).length = mp.length := by unfold mmap; exact List.length_map _
    have hT2 : T = if top ≠ (mp.length : Int) then ([], 41) else (outV (mmap Pv.v mp) mp.length, 0) := by rw [← hT, ← hlv]; rfl
    refine node_vlen (mt := 74) (kt := 3) (et := 35) ⟨[(mp.length : Int)], [], [], [], []⟩ rfl bm (mmap Pv.val mp) (fun w2 h => h.2) (by intros; kernel_rfl) (by kernel_rfl) (fun ids => by rw [hlm]; kernel_rfl) (by rw [hlm]; omega) (by kernel_rfl) (by kernel_rfl) (by kernel_rfl) oneNil ?_
    refine br_B (top != (mp.length : Int)) (by kernel_rfl) (fun h1 => by rw [hT2, if_pos (by simpa using h1)]; exact mg_nil (by intros; kernel_rfl)) (fun h1 => ?_)
    have h1 : top = (mp.length : Int) := by simpa using h1
    rw [if_neg (fun q => q h1)] at hT2
    obtain ⟨B, eB⟩ : ∃ B, B = HX.nil.and (HX.vmap bm (mmap Pv.val mp)) := ⟨_, rfl⟩
    have hBm : ∀ {w2 : World}, B.X w2 → VMap w2 bm (mmap Pv.val mp) := fun h => by rw [eB] at h; exact h.2
    rw [← eB]
    refine ⟨fun vs hx n => ∃ (b : Option Addr) (d : Nat) (ys : List (Vo Pv)), n = mp.length - ys.length ∧ ys.length ≤ mp.length ∧ vlsOf ys = outV (mmap Pv.v mp) ys.length ∧ OwnR w B (voAll ys) ∧ OwnR w (B.and (voAll ys)) (vrow b d ys) ∧ vs = ⟨[((ys.length + 1 : Nat) : Int)], [], [], [ys.length, d], [b]⟩ ∧ (B.and (voAll ys)).and (vrow b d ys) = hx, fun ids w2 hp hf => ⟨(B.and (voAll [])).and (vrow none 0 []), mp.length, ⟨⟨⟨hf.x, (fun x hx => by cases hx)⟩, HX.rw_nil _ _ _ _⟩, fun k hk => hk.elim (fun q => q.elim (fun q => hf.sep k q) fun ⟨x, hx, _⟩ => by cases hx) fun q => absurd rfl q.1⟩, none, 0, [], rfl, Nat.zero_le _, rfl, (fun k ⟨x, hx, _⟩ => by cases hx), (fun k hk => absurd rfl hk.1), by kernel_rfl, rfl⟩, ?_⟩
    rintro vs hx' n hcnt2 ⟨b, d, ys, rfl, hyl, hv, ownv, ownr, rfl, rfl⟩
    refine holds_env (ρ' := ⟨[(i : Int), top, (mp.length : Int), ((ys.length + 1 : Nat) : Int)], [], [.map (some bm)], [ts.length, cp, ys.length, d], [a, b]⟩) (by kernel_rfl) ?_
    refine br_D (p := ((ys.length + 1 : Nat) : Int) ≤ top) (by kernel_rfl) (fun hle => ?_) (fun hle => ?_)
    rotate_left
    · have hye : ys.length = mp.length := by omega
      rw [hT2]
      intro ids w2 hp hf2
      exact ⟨b, d, ys, by kernel_rfl, by rw [hv, hye], ⟨hf2.x.1.2, hf2.x.2⟩, fun j hj => ⟨hj.elim (fun q => (ownv j q).1) (fun q => (ownr j q).1), (hf2.sep j (hj.elim (fun q => .inl (.inr q)) .inr)).1⟩, hf2.chg.below⟩
    obtain ⟨o, eo⟩ : ∃ o, o = mpGet mp ((ys.length + 1 : Nat) : Int) := ⟨_, rfl⟩
    have hov : VlFit o.v ∧ o.hx.X w := by rw [eo]; exact mp_at hmp _
    refine node_vlook1 (kt := 3) (et := 35) (z := vlV vz none 0 none 0) ⟨[o.v.k], [], [], [o.v.cs.length, o.c1, o.v.ns.length, o.c2], [o.a1, o.a2]⟩ bm (mmap Pv.val mp) ((ys.length + 1 : Nat) : Int) (fun w2 h => hBm h.1.1) (by intros; kernel_rfl) (by intros; kernel_rfl) (by kernel_rfl) Try.underlying3 zero_val (fun ids => by rw [vlk_is, mp_val, ← eo]; kernel_rfl) (by kernel_rfl) (by kernel_rfl) (by kernel_rfl) oneNil ?_
    refine node_vrow (V := id) (v := o.v) (fun _ => #[o.val]) (fun b1 d1 b2 d2 => ⟨[o.v.k], [], [], [o.v.cs.length, d1, o.v.ns.length, d2], [b1, b2]⟩) (by intros; kernel_rfl) (fun ids w2 hp hf => vclone_row _ _ _ _ _ w2 (keepP hov hf)) (by intros; kernel_rfl) (by kernel_rfl) (by kernel_rfl) (by intros; kernel_rfl) (fun _ _ _ _ => oneNil) ?_
    intro b1 d1 b2 d2 hfr1 hfr2
    obtain ⟨z, ez⟩ : ∃ z : Vo Pv, z = ⟨((ys.length + 1 : Nat) : Int), 0, 0, ⟨o.v, b1, d1, b2, d2⟩⟩ := ⟨_, rfl⟩
    have hv' : vlsOf (ys ++ [z]) = outV (mmap Pv.v mp) (ys.length + 1) := by
      rw [outV_succ, vls_app, hv, mp_v, ← eo, ez]; rfl
    have fq : ∀ j, (pvR z.v).F j → w.heap.size ≤ j ∧ ¬ ((B.and (voAll ys)).and (vrow b d ys)).F j := fun j hj => by
      rw [ez] at hj
      exact hj.elim (fun q => hfr1 j q) (fun q => ⟨(hfr2 j q).1, (hfr2 j q).2.1⟩)
    have ezr : (crow b1 o.v.cs.length d1 o.v.cs).and (nrow b2 o.v.ns.length d2 o.v.ns) = pvR z.v := by rw [ez]; rfl
    rw [ezr]
    refine holds_eq (HX.and_right_comm _ _ _) ?_
    have epc : (B.and (voAll ys)).and (pvR z.v) = B.and (voAll (ys ++ [z])) := by rw [voAll_snoc, HX.and_assoc]
    refine holds_eq (congrArg (fun y => y.and (vrow b d ys)) epc) ?_
    have ownv' : OwnR w B (voAll (ys ++ [z])) := fun j hj => by
      rw [voAll_snoc] at hj
      rcases hj with hj | hj
      · exact ownv j hj
      · exact ⟨(fq j hj).1, fun y => (fq j hj).2 (.inl (.inl y))⟩
    have hdis : ∀ j, d ≠ 0 → abk b = some j → ¬ (B.and (voAll (ys ++ [z]))).F j := fun j q1 q2 y => by
      rcases y with y | y
      · exact (ownr j ⟨q1, q2⟩).2 (.inl y)
      · rw [voAll_snoc] at y
        rcases y with y | y
        · exact (ownr j ⟨q1, q2⟩).2 (.inr y)
        · exact (fq j y).2 (.inr ⟨q1, q2⟩)
    have hwk : IntKind.i64.wrap (((ys.length + 1 : Nat) : Int) + 1) = ((ys.length + 1 + 1 : Nat) : Int) := by rw [wrap_i64 (by omega)]; omega
    refine node_pushs (e := 39) (sz := 6) rfl Try.underlying24 info_vote rfl (by decide) b ys.length d (vocs ys) (voC z) 0 (by intros; kernel_rfl) (by intros; kernel_rfl) rfl (fun ids => by rw [ez]; kernel_rfl) rfl (voC_one z) hdis (fun j q1 q2 => .inl (ownr j ⟨q1, q2⟩).1) (by unfold maxLen; omega) (by omega) (by intros; kernel_rfl) (by kernel_rfl) (by kernel_rfl) (by intros; kernel_rfl) ?_
    intro b' d' hc' hr' hor'
    have hlz : (ys ++ [z]).length = ys.length + 1 := by simp
    have erow : HX.rw 6 39 b' (ys.length + 1) d' (vocs ys ++ voC z) = vrow b' d' (ys ++ [z]) := by unfold vrow; rw [vocs_snoc, hlz]
    refine holds_eq (congrArg _ erow) ?_
    refine again_V ⟨[IntKind.i64.wrap (((ys.length + 1 : Nat) : Int) + 1)], [], [], [ys.length + 1, d'], [b']⟩ rfl (by intros; kernel_rfl) _ (fun w2 ids hf => ⟨hf.x, hf.sep⟩) ⟨mp.length - (ys.length + 1), by omega, b', d', ys ++ [z], by rw [hlz], by omega, by rw [hlz]; exact hv', ownv', fun j hj => ⟨?_, hr' j hj.2⟩, by rw [hwk, hlz], rfl⟩
    rcases hor' with ⟨r1, r2⟩ | ⟨g, r1, r2, _⟩
    · exact (ownr j ⟨r1, by rw [← r2]; exact hj.2⟩).1
    · have := hj.2
      rw [r1] at this; cases this; exact r2
end Go.Proofs.Ytbedoemdjlollaa

namespace Go.Proofs.Ytbedoemdjlollaa
open Go.ChangeShapes Go.WideShapes Go.ChangeAt Go.RowKit Go.Syn Go.Eng
set_option linter.unusedVariables false
set_option linter.unusedSimpArgs false
set_option maxRecDepth 100000
structure Pc where
  c : CmD
  k : Int
  re : Int
  im : Int
  regs : List Int
def Pc.key (p : Pc) : Ky := (p.c.sess, p.c.seq)
def Pc.res (p : Pc) : Int × Int × Int := (p.k, p.re, p.im)
def z16 : List Int := [0, 0, 0, 0, 0, 0, 0, 0, 0, 0, 0, 0, 0, 0, 0, 0]
def rgA (ps : List Pc) : Nat → List Int
  | 0 => z16
  | q + 1 => ((ps[q]?).map Pc.regs).getD z16
def rsA (ps : List Pc) : Nat → Int × Int × Int
  | 0 => (0, 0, 0)
  | q + 1 => ((ps[q]?).map Pc.res).getD (0, 0, 0)
def findP (x : Ky) : List Pc → Nat
  | [] => 0
  | p :: r => if p.key = x then 1 else if findP x r = 0 then 0 else findP x r + 1
def addP (ps : List Pc) (z : CmD × AnD) : List Pc := if findP (z.1.sess, z.1.seq) ps ≠ 0 ∨ 3 < z.2.k then ps else ps ++ [⟨z.1, z.2.k, z.2.re, z.2.im, (applyM (rgA ps ps.length) z.1.op).1⟩]
def addAll (ps : List Pc) (l : List (CmD × AnD)) : List Pc := l.foldl addP ps
def playV : Im → List Pc → List (Vo Vl) → List Pc × Int
  | _, ps, [] => (ps, 0)
  | I, ps, x :: r => if (execV I x.s x.v).e ≠ 0 then (ps, (execV I x.s x.v).e) else playV (execV I x.s x.v).i (addAll ps (x.v.cs.zip (execV I x.s x.v).an)) r
def firstI (xs : List Int) : Im := ⟨0, xs, 0, im0.regs, []⟩
theorem rgA_s {ps : List Pc} {q : Nat} {p : Pc} (h : ps[q]? = some p) : rgA ps (q + 1) = p.regs := by
  show ((ps[q]?).map Pc.regs).getD z16 = _
  rw [h]; rfl
theorem rgA_n {ps : List Pc} {q : Nat} (h : ps[q]? = none) : rgA ps (q + 1) = z16 := by
  show ((ps[q]?).map Pc.regs).getD z16 = _
  rw [h]; rfl
theorem rsA_s {ps : List Pc} {q : Nat} {p : Pc} (h : ps[q]? = some p) : rsA ps (q + 1) = p.res := by
  show ((ps[q]?).map Pc.res).getD (0, 0, 0) = _
  rw [h]; rfl
theorem findP_le (x : Ky) : ∀ ps : List Pc, findP x ps ≤ ps.length
  | [] => Nat.le_refl _
  | p :: r => by
    have := findP_le x r
    unfold findP
    split
    · simp
    · split
      · omega
      · simp; omega
theorem findP_get (x : Ky) : ∀ {ps : List Pc} {i : Nat}, findP x ps = i + 1 → ∃ p, ps[i]? = some p ∧ p.key = x
  | [], i, h => by simp [findP] at h
  | p :: r, i, h => by
    unfold findP at h
    split at h
    · rename_i e
      have : i = 0 := by omega
      subst this
      exact ⟨p, rfl, e⟩
    · split at h
      · omega
      · obtain ⟨j, hj⟩ : ∃ j, findP x r = j + 1 := ⟨findP x r - 1, by omega⟩
        obtain ⟨q, h1, h2⟩ := findP_get x hj
        have : i = j + 1 := by omega
        subst this
        exact ⟨q, by simpa using h1, h2⟩
def rsC (r : Int × Int × Int) : Value := .agg #[.int .i64 r.1, .int .i64 r.2.1, .int .i64 r.2.2]
def atM (ps : List Pc) : List (Ky × Value) := ps.mapIdx fun i p => (p.key, .int .i64 ((i + 1 : Nat) : Int))
def resM (ps : List Pc) : List (Ky × Value) := ps.map fun p => (p.key, rsC p.res)
theorem klk_cons (p : Ky × Value) (m : List (Ky × Value)) (x : Ky) : klk (p :: m) x = if p.1 = x then some p.2 else klk m x := by
  unfold klk
  rw [List.find?_cons]
  by_cases h : p.1 = x
  · simp [h]
  · rw [if_neg h, show (p.1 == x) = false by simpa using h]
theorem klk_idx (x : Ky) : ∀ (ps : List Pc) (f : Nat → Pc → Value), klk (ps.mapIdx fun i p => (p.key, f i p)) x = match findP x ps with | 0 => none | i + 1 => (ps[i]?).map (f i)
  | [], f => rfl
  | p :: r, f => by
    rw [List.mapIdx_cons, klk_cons]
    unfold findP
    by_cases h : p.key = x
    · rw [if_pos h, if_pos h]; rfl
    · rw [if_neg h, if_neg h, klk_idx x r fun i p => f (i + 1) p]
      cases hf : findP x r with
      | zero => rfl
      | succ i => simp
theorem klk_at (x : Ky) (ps : List Pc) : klk (atM ps) x = if findP x ps = 0 then none else some (.int .i64 (findP x ps : Int)) := by
  unfold atM
  rw [klk_idx x ps fun i _ => .int .i64 ((i + 1 : Nat) : Int)]
  cases h : findP x ps with
  | zero => rfl
  | succ i =>
    obtain ⟨p, h1, _⟩ := findP_get x h
    show Option.map _ ps[i]? = _
    rw [h1]; rfl
theorem resM_idx (ps : List Pc) : resM ps = ps.mapIdx fun _ p => (p.key, rsC p.res) := by
  unfold resM
  induction ps with
  | nil => rfl
  | cons p r ih => rw [List.map_cons, List.mapIdx_cons, ih]
theorem klk_res (x : Ky) (ps : List Pc) : klk (resM ps) x = if findP x ps = 0 then none else some (rsC (rsA ps (findP x ps))) := by
  rw [resM_idx, klk_idx x ps fun _ p => rsC p.res]
  cases h : findP x ps with
  | zero => rfl
  | succ i =>
    obtain ⟨p, h1, _⟩ := findP_get x h
    show Option.map _ ps[i]? = _
    rw [h1]
    show some (rsC p.res) = some (rsC (rsA ps (i + 1)))
    rw [rsA_s h1]
theorem klk_res0 (x : Ky) (ps : List Pc) : (klk (resM ps) x).getD (rsC (0, 0, 0)) = rsC (rsA ps (findP x ps)) := by
  rw [klk_res]
  by_cases h : findP x ps = 0
  · rw [if_pos h, h]; rfl
  · rw [if_neg h]; rfl
theorem klk_at0 (x : Ky) (ps : List Pc) : (klk (atM ps) x).getD (.int .i64 0) = .int .i64 (findP x ps : Int) := by
  rw [klk_at]
  by_cases h : findP x ps = 0
  · rw [if_pos h, h]; rfl
  · rw [if_neg h]; rfl
theorem klk_at1 (x : Ky) (ps : List Pc) : (klk (atM ps) x).isSome = decide (findP x ps ≠ 0) := by
  rw [klk_at]
  by_cases h : findP x ps = 0
  · rw [if_pos h]; simp [h]
  · rw [if_neg h]; simp [h]
theorem at_put {x : Ky} {ps : List Pc} {p : Pc} (h : findP x ps = 0) (hp : p.key = x) : kput (atM ps) x (.int .i64 ((ps.length + 1 : Nat) : Int)) = atM (ps ++ [p]) := by
  unfold kput
  rw [klk_at, if_pos h]
  unfold atM
  rw [List.mapIdx_append]
  simp [hp]
theorem res_put {x : Ky} {ps : List Pc} {p : Pc} (h : findP x ps = 0) (hp : p.key = x) : kput (resM ps) x (rsC p.res) = resM (ps ++ [p]) := by
  unfold kput
  rw [klk_res, if_pos h]
  unfold resM
  rw [List.map_append]
  simp [hp]
def stF (r : List Int) : List Value := (rgs r).map (Value.int .i64)
theorem stF_len (r : List Int) : (stF r).length = 16 := rfl
def stL (ps : List Pc) : List (List Int) := z16 :: ps.map Pc.regs
def stC (ps : List Pc) : List Value := (stL ps).flatMap stF
theorem stL_len (ps : List Pc) : (stL ps).length = ps.length + 1 := by unfold stL; simp
theorem stC_len (ps : List Pc) : (stC ps).length = (ps.length + 1) * 16 := by unfold stC; rw [flat_len stF_len, stL_len]
theorem stL_get {ps : List Pc} {q : Nat} (h : q ≤ ps.length) : (stL ps)[q]? = some (rgA ps q) := by
  cases q with
  | zero => rfl
  | succ q =>
    obtain ⟨p, hp⟩ : ∃ p, ps[q]? = some p := ⟨_, List.getElem?_eq_getElem (by omega)⟩
    show (ps.map Pc.regs)[q]? = some (((ps[q]?).map Pc.regs).getD z16)
    rw [List.getElem?_map, hp]; rfl
theorem stC_snoc (ps : List Pc) (p : Pc) : stC ps ++ stF p.regs = stC (ps ++ [p]) := by
  unfold stC stL
  rw [List.map_append, List.flatMap_cons, List.flatMap_cons, List.flatMap_append]
  simp
def PsOk (ps : List Pc) : Prop := ∀ p ∈ ps, p.regs.length = 16
theorem rgA_len {ps : List Pc} (h : PsOk ps) (q : Nat) : (rgA ps q).length = 16 := by
  cases q with
  | zero => rfl
  | succ q =>
    cases hq : ps[q]? with
    | none => rw [rgA_n hq]; rfl
    | some p => rw [rgA_s hq]; exact h p (List.mem_of_getElem? hq)
theorem addP_ok {ps : List Pc} (h : PsOk ps) (z : CmD × AnD) : PsOk (addP ps z) := by
  unfold addP
  split
  · exact h
  · intro p hp
    rcases List.mem_append.1 hp with hp | hp
    · exact h p hp
    · rw [List.mem_singleton.1 hp]
      exact (applyM_len _ _).trans (rgA_len h _)
theorem addP_len (ps : List Pc) (z : CmD × AnD) : (addP ps z).length ≤ ps.length + 1 := by
  unfold addP
  split
  · omega
  · simp
theorem addAll_step (ps : List Pc) {l : List (CmD × AnD)} {j : Nat} {z : CmD × AnD} (h : l[j]? = some z) : addAll ps (l.drop j) = addAll (addP ps z) (l.drop (j + 1)) := by
  obtain ⟨hj, e⟩ := List.getElem?_eq_some_iff.1 h
  rw [List.drop_eq_getElem_cons hj, e]; rfl
theorem addAll_ok {ps : List Pc} (h : PsOk ps) (l : List (CmD × AnD)) : PsOk (addAll ps l) := by
  induction l generalizing ps with
  | nil => exact h
  | cons z r ih => exact ih (addP_ok h z)
theorem addAll_len (ps : List Pc) (l : List (CmD × AnD)) : (addAll ps l).length ≤ ps.length + l.length := by
  induction l generalizing ps with
  | nil => exact Nat.le_refl _
  | cons z r ih =>
    have h1 := ih (addP ps z)
    have h2 := addP_len ps z
    show (addAll (addP ps z) r).length ≤ _
    rw [List.length_cons]; omega
theorem exec_an {I : Im} {slot : Int} {v : Vl} (h : (execV I slot v).e = 0) : (execV I slot v).an.length = v.cs.length := by
  obtain ⟨h1, h2, h3, h4, h5⟩ := exec_zero h
  unfold execV
  rw [if_neg (by rw [(validI_iff I).2 h1]; decide), if_neg (by simp only [not_or]; exact ⟨fun q => q h2, by omega, fun q => by have := h4 q.1; omega⟩), if_neg (fun q => q h5)]
  show (v.cs.foldl stepV (goI I slot v, [])).2.length = _
  have := (runAll_keep (goI I slot v) v.cs (goI I slot v, [])).2.2.2
  simpa using this
end Go.Proofs.Ytbedoemdjlollaa

namespace Go.Proofs.Ytbedoemdjlollaa
open Go Go.ChangeShapes Go.WideShapes Go.ChangeAt Go.RowKit Go.Syn Go.Eng
set_option linter.unusedVariables false
set_option linter.unusedSimpArgs false
set_option maxRecDepth 100000
theorem kyOk : KyOk Try.prog 91 := ⟨Go.deep_law (m := 2) (by omega) (by kernel_rfl) (by kernel_rfl) (by kernel_rfl), fun k hk => by
  have h1 : (Lit.int .i64 k.1).wf = true := by
    have := hk.1
    simp only [Lit.wf, IntKind.min, IntKind.max, IntKind.signed, IntKind.bits, decide_eq_true_eq, Bool.and_eq_true]
    simp; omega
  have h2 : (Lit.int .i64 k.2).wf = true := by
    have := hk.2
    simp only [Lit.wf, IntKind.min, IntKind.max, IntKind.signed, IntKind.bits, decide_eq_true_eq, Bool.and_eq_true]
    simp; omega
  refine ⟨.string (keyBytes [.int .i64 k.1, .int .i64 k.2]), ?_⟩
  obtain ⟨m, hm⟩ : ∃ m, Try.prog.types.size = m + 1 := ⟨Try.prog.types.size - 1, by kernel_rfl⟩
  have hkt : Try.prog.keyType 91 = true := by kernel_rfl
  have hc : Try.prog.cellsOf 91 = 2 := by kernel_rfl
  have hc3 : Try.prog.cellsOf 3 = 1 := by kernel_rfl
  unfold keyOf
  simp only [Try.underlying91]
  rw [if_pos (by simp [hkt, Value.formed, Try.underlying91, hc, kyV]), hm]
  unfold Program.keyLits
  simp only [Try.underlying91, kyV, Value.cells]
  rw [if_pos (by rw [hc]; exact ⟨rfl, by kernel_rfl⟩)]
  simp [Program.keyLits, Try.underlying3, hc3, h1, h2]⟩
def mdX (sa : Option Addr) (sc b1 b2 : Nat) (ps : List Pc) : HX := ((HX.rw 16 93 sa (ps.length + 1) sc (stC ps)).and (HX.kmap b1 (atM ps))).and (HX.kmap b2 (resM ps))
def mdV (sa : Option Addr) (sc b1 b2 : Nat) (ps : List Pc) : Value := .agg #[.slice sa (ps.length + 1) sc, .map (some b1), .map (some b2)]
def PlNew (w : World) (R : List Pc × Int) (e : Ending) (w' : World) : Prop := ∃ (sa : Option Addr) (sc b1 b2 : Nat), e = .returned (.tuple #[mdV sa sc b1 b2 R.1, .int .i64 R.2]) ∧ (mdX sa sc b1 b2 R.1).X w' ∧ (∀ k, (mdX sa sc b1 b2 R.1).F k → w.heap.size ≤ k ∧ k < w'.heap.size) ∧ Below w.heap.size w w'
structure MdOwn (W : World) (Z : HX) (sa : Option Addr) (sc b1 b2 : Nat) : Prop where
  row : ∀ k, sc ≠ 0 → abk sa = some k → W.heap.size ≤ k ∧ k ≠ b1 ∧ k ≠ b2 ∧ ¬ Z.F k
  o1 : W.heap.size ≤ b1 ∧ ¬ Z.F b1
  o2 : W.heap.size ≤ b2 ∧ ¬ Z.F b2
  ne : b1 ≠ b2
theorem MdOwn.mono {W : World} {Z Z' : HX} {sa : Option Addr} {sc b1 b2 : Nat} (h : MdOwn W Z sa sc b1 b2) (hZ : ∀ k, Z'.F k → Z.F k ∨ (W.heap.size ≤ k ∧ ¬ (k = b1 ∨ k = b2 ∨ (sc ≠ 0 ∧ abk sa = some k)))) : MdOwn W Z' sa sc b1 b2 :=
  ⟨fun k h1 h2 => ⟨(h.row k h1 h2).1, (h.row k h1 h2).2.1, (h.row k h1 h2).2.2.1, fun q => (hZ k q).elim (h.row k h1 h2).2.2.2 fun q => q.2 (.inr (.inr ⟨h1, h2⟩))⟩, ⟨h.o1.1, fun q => (hZ _ q).elim h.o1.2 fun q => q.2 (.inl rfl)⟩, ⟨h.o2.1, fun q => (hZ _ q).elim h.o2.2 fun q => q.2 (.inr (.inl rfl))⟩, h.ne⟩
theorem MdOwn.F {W : World} {Z : HX} {sa : Option Addr} {sc b1 b2 : Nat} {ps : List Pc} (h : MdOwn W Z sa sc b1 b2) : ∀ k, (mdX sa sc b1 b2 ps).F k → W.heap.size ≤ k := by
  rintro k ((hk | hk) | hk)
  · exact (h.row k hk.1 hk.2).1
  · have hk : k = b1 := hk
    rw [hk]; exact h.o1.1
  · have hk : k = b2 := hk
    rw [hk]; exact h.o2.1
theorem info_sta : (Try.prog.info? 93).map (fun i => (i.zero, i.size, i.bytes)) = some (some (.agg #[.int .i64 0, .int .i64 0, .int .i64 0, .int .i64 0, .int .i64 0, .int .i64 0, .int .i64 0, .int .i64 0, .int .i64 0, .int .i64 0, .int .i64 0, .int .i64 0, .int .i64 0, .int .i64 0, .int .i64 0, .int .i64 0]), 16, 128) := by kernel_rfl
theorem lit_sta (r : List Int) (w : World) : (Instr.buildSlice 83 1 #[(0, .agg (stF r).toArray)]).run Try.prog w = .ok (.slice (some ⟨w.heap.size, 0, none⟩) 1 1) (w.alloc (.cells (stF r).toArray 93)) := by kernel_rfl
theorem st_elt {ps : List Pc} {sa : Option Addr} {w : World} (h : Cells w sa (stC ps)) {q : Nat} (hq : q ≤ ps.length) : sa.isSome = true ∧ CellsAt w (.pointer (some (((sa.getD ⟨0, 0, none⟩).add (q * 16)).add 0))) (stF (rgA ps q)) (fun _ => False) := by
  obtain ⟨h1, h2⟩ := flat_part stF_len h (stL_get hq) (o := 0) (stF (rgA ps q)) (fun j u hj => by rw [Nat.zero_add]; exact hj) (by simp [stF, rgs])
  exact ⟨h1, h2 _ id⟩
theorem st_some {sa : Option Addr} {sc n e : Nat} {ps : List Pc} {w : World} (h : (HX.rw 16 e sa n sc (stC ps)).X w) : sa.isSome = true := row_isS h (fun q => by have := stC_len ps; rw [q] at this; simp at this)
def JqI (W : World) (Z : HX) (n b1 b2 P0 : Nat) (l : List (CmD × AnD)) (T : List Pc) (vs : Vals) (hx : HX) (m : Nat) : Prop := ∃ (j : Nat) (ps : List Pc) (sa : Option Addr) (sc : Nat), m = n - j ∧ j ≤ n ∧ PsOk ps ∧ ps.length ≤ P0 + j ∧ addAll ps (l.drop j) = T ∧ MdOwn W Z sa sc b1 b2 ∧ sa.isSome = true ∧
  vs = ⟨[(j : Int)], [], [.map (some b1), .map (some b2)], [ps.length + 1, sc], [sa]⟩ ∧ Z.and (mdX sa sc b1 b2 ps) = hx
set_option maxHeartbeats 1000000 in
theorem jtail {w : World} {I0 I : Im} {R : ExR} {k j cx ch y1 y2 sc0 c1 c2 r1 r2 oc sc b1 b2 d1 d2 P0 : Nat} {xs : List Int} {hs : List (Vo Pv)} {ps0 ps : List Pc} {x : Vo Pv} {ax ah la x1 x2 sa0 a1 a2 q1 q2 oa sa : Option Addr} {c : CmD} {a : AnD} {Q : List Pc × Int} {Z : HX} {T : List Pc} {S : Stack} {fa : Int} {fb : Bool} {l : List (CmD × AnD)} (p : List Int × Int × Int × Int) (ep : p = applyM (rgA ps ps.length) c.op) (hlen : ps.length + 1 ≤ 100000000) (hf : findP (c.sess, c.seq) ps = 0) (hk3 : ¬ 3 < a.k) (hps : PsOk ps) (hl : l[j]? = some (c, a)) (hP0 : ps.length ≤ P0 + j) (hj : j < x.v.v.cs.length) (hj2 : x.v.v.cs.length ≤ 8) (hT : addAll ps (l.drop j) = T) (hown : MdOwn w Z sa sc b1 b2) (hky : KyFit (c.sess, c.seq))
    (hS : lkup 15 S = some (fun vs hx => ∃ n', n' < x.v.v.cs.length - j ∧ JqI w Z x.v.v.cs.length b1 b2 P0 l T vs hx n')) :
    Tree.holds ⟨Try.prog, w, fun _ => False, PlNew w Q⟩ tJPlayt4 ⟨imI I0 ++ [(k : Int)] ++ imI I ++ [x.s, x.r, x.n, x.v.v.k] ++ imI R.i ++ [R.e] ++ [(j : Int)] ++ c.is ++ [fa, a.k, a.re, a.im] ++ rgs (rgA ps ps.length) ++ rgs p.1 ++ [p.2.1, p.2.2.1, p.2.2.2], [fb], [.map (some d1), .map (some d2), .map (some b1), .map (some b2), .map (some b1), .map (some b2)], [xs.length, cx, hs.length, ch, 1, 1, I0.mem.length, y1, I0.tb.length, y2, ps0.length + 1, sc0, I.mem.length, c1, I.tb.length, c2, x.v.v.cs.length, x.v.c1, x.v.v.ns.length, x.v.c2, R.i.mem.length, r1, R.i.tb.length, r2, R.an.length, oc, ps.length + 1, sc], [ax, ah, la, x1, x2, sa0, a1, a2, x.v.a1, x.v.a2, q1, q2, oa, sa]⟩ [] (Z.and (mdX sa sc b1 b2 ps)) S ∧
    Tree.holds ⟨Try.prog, w, fun _ => False, PlNew w Q⟩ tJPlayt5 ⟨imI I0 ++ [(k : Int)] ++ imI I ++ [x.s, x.r, x.n, x.v.v.k] ++ imI R.i ++ [R.e] ++ [(j : Int)] ++ c.is ++ [fa, a.k, a.re, a.im] ++ rgs (rgA ps ps.length) ++ rgs p.1 ++ [p.2.1, p.2.2.1, p.2.2.2], [fb], [.map (some d1), .map (some d2), .map (some b1), .map (some b2), .map (some b1), .map (some b2)], [xs.length, cx, hs.length, ch, 1, 1, I0.mem.length, y1, I0.tb.length, y2, ps0.length + 1, sc0, I.mem.length, c1, I.tb.length, c2, x.v.v.cs.length, x.v.c1, x.v.v.ns.length, x.v.c2, R.i.mem.length, r1, R.i.tb.length, r2, R.an.length, oc, ps.length + 1, sc], [ax, ah, la, x1, x2, sa0, a1, a2, x.v.a1, x.v.a2, q1, q2, oa, sa]⟩ [] (Z.and (mdX sa sc b1 b2 ps)) S := by
  obtain ⟨z, ez⟩ : ∃ z : Pc, z = ⟨c, a.k, a.re, a.im, p.1⟩ := ⟨_, rfl⟩
  have hz : addP ps (c, a) = ps ++ [z] := by
    unfold addP
    rw [if_neg (by simp only [not_or, ne_eq, Classical.not_not]; exact ⟨hf, hk3⟩), ez, ep]
  have hzk : z.key = (c.sess, c.seq) := by rw [ez]; rfl
  have hzr : z.regs = p.1 := by rw [ez]
  have hzc : rsC z.res = .agg #[.int .i64 a.k, .int .i64 a.re, .int .i64 a.im] := by rw [ez]; rfl
  have hT2 : addAll (ps ++ [z]) (l.drop (j + 1)) = T := by rw [← hz, ← hT]; exact (addAll_step ps hl).symm
  have hps2 : PsOk (ps ++ [z]) := by rw [← hz]; exact addP_ok hps _
  have hrow := hown.row
  have hn1 := hown.o1
  have hn2 := hown.o2
  have hl2 : (ps ++ [z]).length = ps.length + 1 := by simp
  constructor
  all_goals
    refine node_lit (t := 83) (e := 93) (len := 1) (sz := 16) (stF p.1) #[(0, .agg (stF p.1).toArray)] (by intros; kernel_rfl) (fun w => lit_sta p.1 w) rfl (by unfold maxLen; decide) (by intros; kernel_rfl) (by kernel_rfl) (by kernel_rfl) (by intros; kernel_rfl) ?_
    intro lb hlb
    refine node_appends (e := 93) (sz := 16) (bytes := 128) (rest := (Z.and (HX.kmap b1 (atM ps))).and (HX.kmap b2 (resM ps))) rfl (by kernel_rfl) info_sta rfl (by decide) sa (ps.length + 1) sc (stC ps) (fun _ => lb) 1 1 (stF p.1) rfl (fun ids w2 hp hf => hf.x.1.2.1.1) (fun ids w2 hp hf => rw_cells hf.x.2) (fun u hu => by obtain ⟨y, _, rfl⟩ := List.mem_map.1 hu; rfl) (fun w2 hx => ⟨⟨⟨hx.1.1, hx.1.2.1.2⟩, hx.1.2.2⟩, fun q hq => hq.elim (fun z => z.elim (fun z => .inl (.inl z)) fun z => .inl (.inr (.inl (.inr z)))) fun z => .inl (.inr (.inr z))⟩) (fun q h1 h2 => .inl (.inr (.inl (.inl ⟨h1, h2⟩)))) (fun q h1 h2 hF => hF.elim (fun z => z.elim (hrow q h1 h2).2.2.2 (hrow q h1 h2).2.1) (hrow q h1 h2).2.2.1) (fun q h1 h2 => .inl (hrow q h1 h2).1) (by unfold maxLen; omega) (by omega) (by intros; kernel_rfl) (by intros; kernel_rfl) (by intros; kernel_rfl) (by kernel_rfl) (by kernel_rfl) (by intros; kernel_rfl) ?_
    intro sb sd _ hdis hwh
    have hrow2 : ∀ q, sd ≠ 0 → abk sb = some q → w.heap.size ≤ q ∧ q ≠ b1 ∧ q ≠ b2 ∧ ¬ Z.F q := fun q h1 h2 => ⟨by
      rcases hwh q h1 h2 with ⟨g1, g2⟩ | g
      · exact (hrow q g1 g2).1
      · exact g.1, fun g => hdis q h1 h2 (.inl (.inr g)), fun g => hdis q h1 h2 (.inr g), fun g => hdis q h1 h2 (.inl (.inl g))⟩
    have e1 : (((Z.and (HX.kmap b1 (atM ps))).and (HX.kmap b2 (resM ps))).and (HX.rw 16 93 sb (ps.length + 1 + 1) sd (stC ps ++ stF p.1))) = ((Z.and (HX.kmap b2 (resM ps))).and (HX.rw 16 93 sb (ps.length + 1 + 1) sd (stC ps ++ stF p.1))).and (HX.kmap b1 (atM ps)) := by ac_rfl
    refine holds_eq e1 ?_
    have hw1 : IntKind.i64.wrap (((ps.length + 1 + 1 : Nat) : Int) - 1) = ((ps.length + 1 : Nat) : Int) := by rw [wrap_i64 (by omega)]; omega
    refine node_kput (kt := 91) (et := 3) b1 (atM ps) (c.sess, c.seq) (.int .i64 ((ps.length + 1 : Nat) : Int)) kyOk hky (.inl hn1.1) (fun hF => hF.elim (fun z => z.elim hn1.2 (fun z => hown.ne z)) (fun z => (hrow2 b1 z.1 z.2).2.1 rfl)) (by intros; kernel_rfl) (by intros; kernel_rfl) (fun ids => Eq.trans (b := .int .i64 (IntKind.i64.wrap (((ps.length + 1 + 1 : Nat) : Int) - 1))) (by kernel_rfl) (by rw [hw1])) (by kernel_rfl) (by kernel_rfl) (by kernel_rfl) (by kernel_rfl) ?_
    rw [at_put hf hzk]
    have e2 : (((Z.and (HX.kmap b2 (resM ps))).and (HX.rw 16 93 sb (ps.length + 1 + 1) sd (stC ps ++ stF p.1))).and (HX.kmap b1 (atM (ps ++ [z])))) = ((Z.and (HX.rw 16 93 sb (ps.length + 1 + 1) sd (stC ps ++ stF p.1))).and (HX.kmap b1 (atM (ps ++ [z])))).and (HX.kmap b2 (resM ps)) := by ac_rfl
    refine holds_eq e2 ?_
    refine node_kput (kt := 91) (et := 62) b2 (resM ps) (c.sess, c.seq) (rsC z.res) kyOk hky (.inl hn2.1) (fun hF => hF.elim (fun z => z.elim hn2.2 (fun z => (hrow2 b2 z.1 z.2).2.2.1 rfl)) (fun z => hown.ne z.symm)) (by intros; kernel_rfl) (by intros; kernel_rfl) (fun ids => by rw [hzc]; kernel_rfl) (by kernel_rfl) (by kernel_rfl) (by kernel_rfl) (by kernel_rfl) ?_
    rw [res_put hf hzk]
    have e3 : ((Z.and (HX.rw 16 93 sb (ps.length + 1 + 1) sd (stC ps ++ stF p.1))).and (HX.kmap b1 (atM (ps ++ [z])))).and (HX.kmap b2 (resM (ps ++ [z]))) = Z.and (mdX sb sd b1 b2 (ps ++ [z])) := by
      unfold mdX
      rw [← hzr, stC_snoc, hl2]
      ac_rfl
    refine holds_eq e3 ?_
    have hwk : IntKind.i64.wrap ((j : Int) + 1) = ((j + 1 : Nat) : Int) := by rw [wrap_i64 (by omega)]; omega
    exact again_W ⟨[IntKind.i64.wrap ((j : Int) + 1)], [], [.map (some b1), .map (some b2)], [ps.length + 1 + 1, sd], [sb]⟩ hS (by intros; kernel_rfl) _ (fun w2 ids hf => ⟨⟨hf.x, hf.sep⟩, x.v.v.cs.length - (j + 1), by omega, j + 1, ps ++ [z], sb, sd, rfl, by omega, hps2, by rw [hl2]; omega, hT2, ⟨hrow2, hn1, hn2, hown.ne⟩, st_some hf.x.2.1.1, by rw [hwk, hl2], rfl⟩)
end Go.Proofs.Ytbedoemdjlollaa

namespace Go.Proofs.Ytbedoemdjlollaa
open Go Go.ChangeShapes Go.WideShapes Go.ChangeAt Go.RowKit Go.Syn Go.Eng
set_option linter.unusedVariables false
set_option linter.unusedSimpArgs false
set_option maxRecDepth 100000
def JpI (W : World) (hs : List (Vo Pv)) (b1 b2 : Nat) (T : List Pc × Int) (vs : Vals) (hx : HX) (m : Nat) : Prop := ∃ (k : Nat) (I : Im) (a1 : Option Addr) (c1 : Nat) (a2 : Option Addr) (c2 : Nat) (es : List SE) (ps : List Pc) (sa : Option Addr) (sc : Nat), m = hs.length - k ∧ k ≤ hs.length ∧ ImBig I ∧ es.map SE.s = I.tb ∧ PsOk ps ∧ ps.length ≤ 8 * k ∧ playV I ps (vlsOf (hs.drop k)) = T ∧ MdOwn W (imR I a1 a2 es) sa sc b1 b2 ∧ sa.isSome = true ∧
  vs = ⟨(k : Int) :: imI I, [], [.map (some b1), .map (some b2)], [ps.length + 1, sc, I.mem.length, c1, I.tb.length, c2], [sa, a1, a2]⟩ ∧ (imR I a1 a2 es).and (mdX sa sc b1 b2 ps) = hx
theorem firstI_big {xs : List Int} (hI : ∀ x ∈ xs, I64 x) (hl : xs.length * 8 ≤ 140737488351232) : ImBig (firstI xs) := ⟨hI, hl, rfl, (by show (0 : Nat) * 40 ≤ _; decide), fun s hs => by cases hs⟩
theorem drop_vo {hs : List (Vo Pv)} {k : Nat} {x : Vo Pv} (h : hs[k]? = some x) : vlsOf (hs.drop k) = Vo.map Pv.v x :: vlsOf (hs.drop (k + 1)) := by
  obtain ⟨hk, e⟩ := List.getElem?_eq_some_iff.1 h
  rw [List.drop_eq_getElem_cons hk, e]; rfl
theorem pl_done {w : World} {Z : HX} {sa : Option Addr} {sc b1 b2 : Nat} {ps : List Pc} {e : Int} {v : SV} {m : Mem} {ρ : Env} {S : Stack} (hown : MdOwn w Z sa sc b1 b2) (hv : ∀ ids, v.den ρ ids = .tuple #[mdV sa sc b1 b2 ps, .int .i64 e]) : (Tree.done v m).holds ⟨Try.prog, w, fun _ => False, PlNew w (ps, e)⟩ ρ [] (Z.and (mdX sa sc b1 b2 ps)) S := fun ids w2 hp hf =>
  ⟨sa, sc, b1, b2, by rw [hv ids], hf.x.2, fun k hk => ⟨hown.F k hk, (hf.sep k (.inr hk)).1⟩, hf.chg.below⟩
set_option maxHeartbeats 4000000 in
theorem play_any (ax : Option Addr) (cx : Nat) (xs : List Int) (ah : Option Addr) (ch : Nat) (hs : List (Vo Pv)) (w : World) (HX0 : Ints w ax xs) (hxl : xs.length * 8 ≤ 140737488351232) (HH : (voX ah hs).X w) (hfit : ∀ x ∈ hs, VlFit x.v.v) (hl : hs.length ≤ 1048576) :
    Calls Try.prog 30 #[.slice ax xs.length cx, .slice ah hs.length ch] w (PlNew w (playV (firstI xs) [] (vlsOf hs))) := by
  refine calls_at (tab_ok _) Try.func30 rfl tJPlay (ρ := ⟨[], [], [], [xs.length, cx, hs.length, ch], [ax, ah]⟩) (ids := []) (hx := HX.nil) rfl (Facts.initP rfl oneNil) ?_
  obtain ⟨T, eT⟩ : ∃ T, T = playV (firstI xs) [] (vlsOf hs) := ⟨_, rfl⟩
  rw [← eT]
  have keepV : ∀ {m : Mem} {ρ : Env} {ids : List Nat} {hx : HX} {w2 : World} {R : Ending → World → Prop} {x : Vo Pv}, x ∈ hs → Facts ⟨Try.prog, w, fun _ => False, R⟩ m ρ ids hx w2 → VlAt w2 x.v.v x.v.a1 x.v.a2 := fun hx hf => (hfit _ hx).at_ ((vlX _ _ _).loc _ _ (voX_at HH hfit hx).X fun k hk => hf.chg.block k (vlX_sep (voX_at HH hfit hx).X k hk) (fun q => q))
  refine node_lit (t := 83) (e := 93) (len := 1) (sz := 16) (stC []) #[(0, .agg (stF z16).toArray)] (by intros; kernel_rfl) (fun w => lit_sta z16 w) rfl (by unfold maxLen; decide) (by intros; kernel_rfl) (by kernel_rfl) (by kernel_rfl) (by intros; kernel_rfl) ?_
  intro la hla
  refine node_kmake (by intros; kernel_rfl) (by kernel_rfl) (by kernel_rfl) (by intros; kernel_rfl) ?_
  intro d1 ho1 hd1
  refine node_kmake (by intros; kernel_rfl) (by kernel_rfl) (by kernel_rfl) (by intros; kernel_rfl) ?_
  intro d2 ho2 hd2
  obtain ⟨I0, eI0⟩ : ∃ I, I = firstI xs := ⟨_, rfl⟩
  have hI0m : I0.mem = xs := by rw [eI0]; rfl
  have hI0t : I0.tb = [] := by rw [eI0]; rfl
  have hI0b : ImBig I0 := by rw [eI0]; exact firstI_big HX0.fits hxl
  refine node_im (V := id) (I := I0) (fun _ => #[.slice ax xs.length cx]) (fun x1 y1 x2 y2 => ⟨imI I0, [], [], [I0.mem.length, y1, I0.tb.length, y2], [x1, x2]⟩) (by intros; kernel_rfl) (fun ids w2 hp hf => by
    rw [eI0]
    exact xfirst_any ax cx xs w2 (Ints.of_cells (by omega) HX0.fits (cl_stay HX0.cells fun k hk => hf.chg.block k hk (fun q => q))) (by omega)) (by intros; kernel_rfl) (by kernel_rfl) (by kernel_rfl) (by intros; kernel_rfl) (fun _ _ _ _ => oneNil) ?_
  intro x1 y1 x2 y2 es0 hm0 hdj0 hsm0 had0 hn0
  have hown0 : MdOwn w (imX I0 x1 x2 y2 es0) la 1 d1 d2 := ⟨fun k h1 h2 => ⟨(hla k h1 h2).1, fun q => hd1 (.inr ⟨h1, by rw [h2, q]⟩), fun q => hd2 (.inl (.inr ⟨h1, by rw [h2, q]⟩)), fun q => (hn0 k q).2 (.inl (.inl (.inr ⟨h1, h2⟩)))⟩, ⟨ho1, fun q => (hn0 _ q).2 (.inl (.inr rfl))⟩, ⟨ho2, fun q => (hn0 _ q).2 (.inr rfl)⟩, fun q => hd2 (.inr q.symm)⟩
  refine ⟨JpI w hs d1 d2 T, fun ids w2 hp hf => ⟨(imR I0 x1 x2 es0).and (mdX la 1 d1 d2 []), hs.length, ⟨⟨(imR_of hf.x.2).1, ⟨⟨hf.x.1.1.1.2, hf.x.1.1.2⟩, hf.x.1.2⟩⟩, fun k hk => hf.sep k (hk.elim (fun z => .inr ((imR_of hf.x.2).2 k z)) (fun z => .inl (z.elim (fun z => z.elim (fun z => .inl (.inl (.inr z))) (fun z => .inl (.inr z))) .inr)))⟩, 0, I0, x1, y1, x2, y2, es0, [], la, 1, rfl, Nat.zero_le _, hI0b, hm0, (fun p hp => by cases hp), Nat.zero_le _, by rw [eT, eI0]; rfl, hown0.mono (fun k hk => .inl ((imR_of hf.x.2).2 k hk)), row_isS hf.x.1.1.1.2 (by simp [stC, stL, stF, rgs]), by kernel_rfl, rfl⟩, ?_⟩
  rintro vs hx' n hcnt ⟨k, I, a1, c1, a2, c2, es, ps, sa, sc, rfl, hk, hB, hes, hps, hpl, hT, hown, hsa, rfl, rfl⟩
  have hesl : es.length = I.tb.length := by rw [← hes, List.length_map]
  have btb := hB.tb
  have bmem := hB.len
  refine holds_env (ρ' := ⟨imI I0 ++ [(k : Int)] ++ imI I, [], [.map (some d1), .map (some d2), .map (some d1), .map (some d2)], [xs.length, cx, hs.length, ch, 1, 1, I0.mem.length, y1, I0.tb.length, y2, ps.length + 1, sc, I.mem.length, c1, I.tb.length, c2], [ax, ah, la, x1, x2, sa, a1, a2]⟩) (by kernel_rfl) ?_
  refine br_D (p := (k : Int) < (hs.length : Int)) (by kernel_rfl) (fun hlt => ?B) (fun hlt => ?E)
  case E =>
    have hke : k = hs.length := by omega
    have hT2 : T = (ps, 0) := by rw [← hT, hke, List.drop_length]; rfl
    rw [hT2]
    exact pl_done hown (by intros; kernel_rfl)
  have hlt : k < hs.length := by omega
  obtain ⟨x, hx⟩ : ∃ b, hs[k]? = some b := ⟨_, List.getElem?_eq_getElem hlt⟩
  have hxm := List.mem_of_getElem? hx
  have hxv := hfit x hxm
  obtain ⟨s1, g1⟩ := vo_part HH hx 0 (voC x) (fun j u hj => by rw [Nat.zero_add]; exact hj) (by simp [voC])
  have one4 : ∀ v, v ∈ ([.map (some d1), .map (some d2), .map (some d1), .map (some d2)] : List Value) → v.oneCell' = true := fun v hv => by
    simp only [List.mem_cons, List.not_mem_nil, or_false] at hv
    rcases hv with rfl | rfl | rfl | rfl <;> rfl
  have one6 : ∀ v, v ∈ ([.map (some d1), .map (some d2), .map (some d1), .map (some d2)] ++ [.map (some d1), .map (some d2)] : List Value) → v.oneCell' = true := fun v hv => by
    simp only [List.mem_append, List.mem_cons, List.not_mem_nil, or_false] at hv
    rcases hv with (rfl | rfl | rfl | rfl) | rfl | rfl <;> rfl
  refine need_k (ah.isSome = true ∧ (0 : Int) ≤ (k : Int) ∧ (k : Int) < (hs.length : Int)) (by kernel_rfl) ⟨s1, by omega, by omega⟩ ?_
  refine node_ld0 (k := ⟨37, 0, 4, 16, 8⟩) ⟨[x.s, x.r, x.n, x.v.v.k], [], [], [x.v.v.cs.length, x.v.c1, x.v.v.ns.length, x.v.c2], [x.v.a1, x.v.a2]⟩ (.pointer (some (((ah.getD ⟨0, 0, none⟩).add (k * 6)).add 0))) (voC x) (by intros; kernel_rfl) (by intros; kernel_rfl) g1 ⟨by kernel_rfl, one4⟩ (by kernel_rfl) oneNil ?_
  obtain ⟨R, eR⟩ : ∃ R, R = execV I x.s x.v.v := ⟨_, rfl⟩
  have hstep : T = if R.e ≠ 0 then (ps, R.e) else playV R.i (addAll ps (x.v.v.cs.zip R.an)) (vlsOf (hs.drop (k + 1))) := by rw [← hT, drop_vo hx, eR]; rfl
  obtain ⟨bR, bRa, bRo⟩ := exec_big hB x.s x.v.v hxv.n
  rw [← eR] at bR bRa bRo
  have hz0 : R.e = 0 → valE x.v.v = 0 ∧ R.an.length = x.v.v.cs.length := fun h => ⟨(exec_zero (by rw [← eR]; exact h)).2.2.2.2, by rw [eR]; exact exec_an (by rw [← eR]; exact h)⟩
  have hwk : IntKind.i64.wrap ((k : Int) + 1) = ((k + 1 : Nat) : Int) := by rw [wrap_i64 (by omega)]; omega
  refine br_B (x.v.v.k != 1) (by kernel_rfl) (fun hkd => ?_) (fun hkd => ?_)
  all_goals
    refine node_ex (R := R) (fun _ => #[imV I a1 c1 a2 c2, .int .i64 x.s, x.v.val]) (by intros; kernel_rfl) (fun ids w2 hp hf => eR ▸ xexec_any I a1 c1 a2 c2 es x.s x.v.v x.v.a1 x.v.c1 x.v.a2 x.v.c2 w2 (hB.at_ hes hf.x.1) (by omega) (by omega) (keepV hxm hf)) (by intros; kernel_rfl) (by kernel_rfl) (by kernel_rfl) (by intros; kernel_rfl) ?_
    intro q1 r1 q2 r2 es2 oa oc hm2 hdj2 hsm2 hso2 hn2
    refine holds_eq (HX.and_right_comm _ _ _) ?_
    have hown2 : MdOwn w ((imR I a1 a2 es).and (exX R q1 q2 r2 es2 oa)) sa sc d1 d2 := hown.mono fun j hj => hj.elim .inl fun z => .inr ⟨(hn2 j z).1, fun q => (hn2 j z).2 (.inr (q.elim (fun q => .inl (.inr q)) fun q => q.elim .inr fun q => .inl (.inl q)))⟩
    have hZ : ∀ {w2 : World}, ((imR I a1 a2 es).and (exX R q1 q2 r2 es2 oa)).X w2 → (imR R.i q1 q2 es2).X w2 ∧ ∀ j, (imR R.i q1 q2 es2).F j → ((imR I a1 a2 es).and (exX R q1 q2 r2 es2 oa)).F j := fun h => ⟨(imR_of h.2.1).1, fun j hj => .inr (.inl ((imR_of h.2.1).2 j hj))⟩
    obtain ⟨Z, eZ⟩ : ∃ Z, Z = (imR I a1 a2 es).and (exX R q1 q2 r2 es2 oa) := ⟨_, rfl⟩
    have hZo : ∀ {w2 : World}, Z.X w2 → Cells w2 oa (ancells R.an) := fun h => by rw [eZ] at h; exact h.2.2
    rw [← eZ] at hown2 hZ ⊢
    refine holds_env (ρ' := ⟨imI I0 ++ [(k : Int)] ++ imI I ++ [x.s, x.r, x.n, x.v.v.k] ++ imI R.i ++ [R.e], [], [.map (some d1), .map (some d2), .map (some d1), .map (some d2)], [xs.length, cx, hs.length, ch, 1, 1, I0.mem.length, y1, I0.tb.length, y2, ps.length + 1, sc, I.mem.length, c1, I.tb.length, c2] ++ [x.v.v.cs.length, x.v.c1, x.v.v.ns.length, x.v.c2, R.i.mem.length, r1, R.i.tb.length, r2, R.an.length, oc], [ax, ah, la, x1, x2, sa, a1, a2] ++ [x.v.a1, x.v.a2, q1, q2, oa]⟩) (by kernel_rfl) ?_
    refine br_B (R.e != 0) (by kernel_rfl) (fun he => ?_) (fun he => ?_)
    · rw [if_pos (by simpa using he)] at hstep
      rw [hstep]
      exact pl_done hown2 (by intros; kernel_rfl)
    have he : R.e = 0 := by simpa using he
    obtain ⟨hv0, hal⟩ := hz0 he
    rw [if_neg (fun q => q he)] at hstep
  · have hcs : x.v.v.cs = [] := by
      rcases valE_zero hv0 with q | q | q
      · exact q.2.1
      · exact q.2.1
      · rw [q.1] at hkd; simp at hkd
    rw [hcs] at hstep
    exact again_W ⟨IntKind.i64.wrap ((k : Int) + 1) :: imI R.i, [], [.map (some d1), .map (some d2)], [ps.length + 1, sc, R.i.mem.length, r1, R.i.tb.length, r2], [sa, q1, q2]⟩ rfl (by intros; kernel_rfl) ((imR R.i q1 q2 es2).and (mdX sa sc d1 d2 ps)) (fun w2 ids hf => ⟨⟨⟨(hZ hf.x.1).1, hf.x.2⟩, fun j hj => hf.sep j (hj.elim (fun z => .inl ((hZ hf.x.1).2 j z)) .inr)⟩, hs.length - (k + 1), by omega, k + 1, R.i, q1, r1, q2, r2, es2, ps, sa, sc, rfl, by omega, bR, hm2, hps, by omega, hstep.symm, hown2.mono (fun j hj => .inl ((hZ hf.x.1).2 j hj)), hsa, by rw [hwk], rfl⟩)
  have hc8 : x.v.v.cs.length ≤ 8 := by
    rcases valE_zero hv0 with q | q | q
    · rw [q.2.1]; decide
    · rw [q.2.1]; decide
    · exact q.2.1
  obtain ⟨l, el⟩ : ∃ l, l = x.v.v.cs.zip R.an := ⟨_, rfl⟩
  have hll : l.length = x.v.v.cs.length := by rw [el, List.length_zip, hal, Nat.min_self]
  rw [← el] at hstep
  refine ⟨JqI w Z x.v.v.cs.length d1 d2 ps.length l (addAll ps l), fun ids w2 hp hf => ⟨_, x.v.v.cs.length, ⟨hf.x, hf.sep⟩, 0, ps, sa, sc, rfl, Nat.zero_le _, hps, Nat.le_refl _, rfl, hown2, hsa, by kernel_rfl, rfl⟩, ?_⟩
  rintro vs hx' n2 hcnt2 ⟨j, ps2, sb, sd, rfl, hj, hps2, hpl2, hT2, hown3, hsb, rfl, rfl⟩
  refine holds_env (ρ' := ⟨imI I0 ++ [(k : Int)] ++ imI I ++ [x.s, x.r, x.n, x.v.v.k] ++ imI R.i ++ [R.e] ++ [(j : Int)], [], [.map (some d1), .map (some d2), .map (some d1), .map (some d2)] ++ [.map (some d1), .map (some d2)], [xs.length, cx, hs.length, ch, 1, 1, I0.mem.length, y1, I0.tb.length, y2, ps.length + 1, sc, I.mem.length, c1, I.tb.length, c2] ++ [x.v.v.cs.length, x.v.c1, x.v.v.ns.length, x.v.c2, R.i.mem.length, r1, R.i.tb.length, r2, R.an.length, oc] ++ [ps2.length + 1, sd], [ax, ah, la, x1, x2, sa, a1, a2] ++ [x.v.a1, x.v.a2, q1, q2, oa] ++ [sb]⟩) (by kernel_rfl) ?_
  have hwj : IntKind.i64.wrap ((j : Int) + 1) = ((j + 1 : Nat) : Int) := by rw [wrap_i64 (by omega)]; omega
  refine br_D (p := (j : Int) < (x.v.v.cs.length : Int)) (by kernel_rfl) (fun hjl => ?B2) (fun hjl => ?E2)
  case E2 =>
    have hje : j = l.length := by omega
    have hT3 : ps2 = addAll ps l := by rw [← hT2, hje, List.drop_length]; rfl
    rw [← hT3] at hstep
    exact again_W ⟨IntKind.i64.wrap ((k : Int) + 1) :: imI R.i, [], [.map (some d1), .map (some d2)], [ps2.length + 1, sd, R.i.mem.length, r1, R.i.tb.length, r2], [sb, q1, q2]⟩ rfl (by intros; kernel_rfl) ((imR R.i q1 q2 es2).and (mdX sb sd d1 d2 ps2)) (fun w2 ids hf => ⟨⟨⟨(hZ hf.x.1).1, hf.x.2⟩, fun j hj => hf.sep j (hj.elim (fun z => .inl ((hZ hf.x.1).2 j z)) .inr)⟩, hs.length - (k + 1), by omega, k + 1, R.i, q1, r1, q2, r2, es2, ps2, sb, sd, rfl, by omega, bR, hm2, hps2, by omega, hstep.symm, hown3.mono (fun j hj => .inl ((hZ hf.x.1).2 j hj)), hsb, by rw [hwk], rfl⟩)
  have hjl : j < x.v.v.cs.length := by omega
  obtain ⟨c, hc⟩ : ∃ c, x.v.v.cs[j]? = some c := ⟨_, List.getElem?_eq_getElem hjl⟩
  obtain ⟨a, ha⟩ : ∃ a, R.an[j]? = some a := ⟨_, List.getElem?_eq_getElem (by omega)⟩
  have hlj : l[j]? = some (c, a) := by rw [el]; exact List.getElem?_zip_eq_some.2 ⟨hc, ha⟩
  have hce := c_elt (voX_at HH hfit hxm).c hc
  have hcv := opB_of (cs_ok hv0 c (List.mem_of_getElem? hc))
  have hky : KyFit (c.sess, c.seq) := ⟨⟨by show _ ≤ c.sess; omega, by show c.sess ≤ _; omega⟩, by show _ ≤ c.seq; omega, by show c.seq ≤ _; omega⟩
  refine need_k (x.v.a1.isSome = true ∧ (0 : Int) ≤ (j : Int) ∧ (j : Int) < (x.v.v.cs.length : Int)) (by kernel_rfl) ⟨hce.1, by omega, by omega⟩ ?_
  refine node_ld0 (k := ⟨61, 0, 6, 28, 14⟩) ⟨c.is, [], [], [], []⟩ (.pointer (some (((x.v.a1.getD ⟨0, 0, none⟩).add (j * 8)).add 0))) c.cells (by intros; kernel_rfl) (by intros; kernel_rfl) (hce.2 _ (fun q => q)) ⟨by kernel_rfl, one6⟩ (by kernel_rfl) oneNil ?_
  refine node_klook (kt := 91) (et := 3) (z := .int .i64 0) ⟨[(findP (c.sess, c.seq) ps2 : Int)], [decide (findP (c.sess, c.seq) ps2 ≠ 0)], [], [], []⟩ d1 (atM ps2) (c.sess, c.seq) kyOk hky (fun w2 hX => hX.2.1.2) (by intros; kernel_rfl) (by intros; kernel_rfl) (by kernel_rfl) (fun w2 => by kernel_rfl) (fun ids => by rw [klk_at0, klk_at1]; kernel_rfl) (by kernel_rfl) (by kernel_rfl) (by kernel_rfl) oneNil ?_
  refine need_k (oa.isSome = true ∧ (0 : Int) ≤ (j : Int) ∧ (j : Int) < (R.an.length : Int)) (by kernel_rfl) ⟨hso2 (fun q => by rw [q] at ha; simp at ha), by omega, by omega⟩ ?_
  refine node_ldk ⟨[a.k, a.re, a.im], [], [], [], []⟩ (fun _ => .pointer (some (((oa.getD ⟨0, 0, none⟩).add (j * 5)).add 2))) [.int .i64 a.k, .int .i64 a.re, .int .i64 a.im] (by intros; kernel_rfl) (by intros; kernel_rfl) (fun ids w2 hp hf => (flat_part an_len (hZo hf.x.1) ha (o := 2) [.int .i64 a.k, .int .i64 a.re, .int .i64 a.im] (fun j u hj => by rcases j with _ | _ | _ | j; exact hj; exact hj; exact hj; cases hj) (by simp)).2 _ (fun q => q)) (by kernel_rfl) oneNil ?_
  have skip : addP ps2 (c, a) = ps2 → addAll ps2 (l.drop (j + 1)) = addAll ps l := fun h => by rw [← hT2, addAll_step ps2 hlj, h]
  refine br_B (decide (findP (c.sess, c.seq) ps2 ≠ 0)) (by kernel_rfl) (fun hf => ?R1) (fun hf => ?R2)
  case R1 =>
    have hf : findP (c.sess, c.seq) ps2 ≠ 0 := by simpa using hf
    exact again_V ⟨[IntKind.i64.wrap ((j : Int) + 1)], [], [.map (some d1), .map (some d2)], [ps2.length + 1, sd], [sb]⟩ rfl (by intros; kernel_rfl) _ (fun w2 ids hf => ⟨hf.x, hf.sep⟩) ⟨x.v.v.cs.length - (j + 1), by omega, j + 1, ps2, sb, sd, rfl, by omega, hps2, by omega, skip (by unfold addP; rw [if_pos (.inl hf)]), hown3, hsb, by rw [hwj], rfl⟩
  have hf0 : findP (c.sess, c.seq) ps2 = 0 := by simpa using hf
  refine br_D (p := a.k > 3) (by kernel_rfl) (fun hk3 => ?R3) (fun hk3 => ?R4)
  case R3 =>
    exact again_V ⟨[IntKind.i64.wrap ((j : Int) + 1)], [], [.map (some d1), .map (some d2)], [ps2.length + 1, sd], [sb]⟩ rfl (by intros; kernel_rfl) _ (fun w2 ids hf => ⟨hf.x, hf.sep⟩) ⟨x.v.v.cs.length - (j + 1), by omega, j + 1, ps2, sb, sd, rfl, by omega, hps2, by omega, skip (by unfold addP; rw [if_pos (.inr hk3)]), hown3, hsb, by rw [hwj], rfl⟩
  have hw1 : IntKind.i64.wrap (((ps2.length + 1 : Nat) : Int) - 1) = ((ps2.length : Nat) : Int) := by rw [wrap_i64 (by omega)]; omega
  obtain ⟨p, ep⟩ : ∃ p, p = applyM (rgA ps2 ps2.length) c.op := ⟨_, rfl⟩
  have hrl := rgA_len hps2 ps2.length
  have hpl : p.1.length = 16 := by rw [ep]; exact (applyM_len _ _).trans hrl
  have hrr : (stF (rgA ps2 ps2.length)) = (rgA ps2 ps2.length).map (Value.int .i64) := by unfold stF; rw [rgs_of hrl]
  refine need_k (sb.isSome = true ∧ (0 : Int) ≤ IntKind.i64.wrap (((ps2.length + 1 : Nat) : Int) - 1) ∧ IntKind.i64.wrap (((ps2.length + 1 : Nat) : Int) - 1) < ((ps2.length + 1 : Nat) : Int)) (by kernel_rfl) ⟨hsb, by rw [hw1]; omega, by rw [hw1]; omega⟩ ?_
  have hap : ∀ w2, Calls Try.prog 31 #[.agg (stF (rgA ps2 ps2.length)).toArray, .agg c.op.cells.toArray] w2 (PureAt w2 (resV p)) := fun w2 => by rw [ep, hrr]; exact apply_any _ hrl c.op w2
  repeat' refine par_i ?_ ?_
  all_goals
    refine node_ldk ⟨rgs (rgA ps2 ps2.length), [], [], [], []⟩ (fun _ => .pointer (some (((sb.getD ⟨0, 0, none⟩).add ((IntKind.i64.wrap (((ps2.length + 1 : Nat) : Int) - 1)).toNat * 16)).add 0))) (stF (rgA ps2 ps2.length)) (by intros; kernel_rfl) (by intros; kernel_rfl) (fun ids w2 hp hf => by rw [hw1]; exact (st_elt (rw_cells hf.x.2.1.1) (Nat.le_refl _)).2) (by kernel_rfl) oneNil ?_
    repeat' refine par_i ?_ ?_
  all_goals
    refine node_P ⟨rgs p.1 ++ [p.2.1, p.2.2.1, p.2.2.2], [], [], [], []⟩ #[.agg (stF (rgA ps2 ps2.length)).toArray, .agg c.op.cells.toArray] (resV p) (by intros; kernel_rfl) (fun ids => Eq.trans (b := resV (rgs p.1, p.2)) (by kernel_rfl) (by unfold resV; rw [rgs_of hpl])) (by kernel_rfl) (by kernel_rfl) (by kernel_rfl) oneNil (fun ids w2 hp hf => hap w2) ?_
    repeat' refine par_i ?_ ?_
  all_goals
    refine holds_env (ρ' := ⟨imI I0 ++ [(k : Int)] ++ imI I ++ [x.s, x.r, x.n, x.v.v.k] ++ imI R.i ++ [R.e] ++ [(j : Int)] ++ c.is ++ [(findP (c.sess, c.seq) ps2 : Int), a.k, a.re, a.im] ++ rgs (rgA ps2 ps2.length) ++ rgs p.1 ++ [p.2.1, p.2.2.1, p.2.2.2], [decide (findP (c.sess, c.seq) ps2 ≠ 0)], [.map (some d1), .map (some d2), .map (some d1), .map (some d2)] ++ [.map (some d1), .map (some d2)], [xs.length, cx, hs.length, ch, 1, 1, I0.mem.length, y1, I0.tb.length, y2, ps.length + 1, sc, I.mem.length, c1, I.tb.length, c2] ++ [x.v.v.cs.length, x.v.c1, x.v.v.ns.length, x.v.c2, R.i.mem.length, r1, R.i.tb.length, r2, R.an.length, oc] ++ [ps2.length + 1, sd], [ax, ah, la, x1, x2, sa, a1, a2] ++ [x.v.a1, x.v.a2, q1, q2, oa] ++ [sb]⟩) (by kernel_rfl) ?_
    first | exact (jtail p ep (by omega) hf0 hk3 hps2 hlj hpl2 hjl hc8 hT2 hown3 hky rfl).1 | exact (jtail p ep (by omega) hf0 hk3 hps2 hlj hpl2 hjl hc8 hT2 hown3 hky rfl).2
end Go.Proofs.Ytbedoemdjlollaa
