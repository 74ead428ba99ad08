/- The law SessionOnce. -/
import Derived.Test.YthgkgllllomeeaaSeO
import Derived.Test.YthgkgllllomeeaaSeX
import Derived.Test.YthgkgllllomeeaaSeV
namespace Go.Proofs.Ythgkgllllomeeaa
open Go.ChangeShapes Go.WideShapes Go.ChangeAt Go.RowKit Go.Syn Go.Eng
set_option linter.unusedVariables false
set_option linter.unusedSimpArgs false
set_option maxRecDepth 100000
theorem info_cm : (Try.prog.info? 29).map (fun i => (i.zero, i.size, i.bytes)) = some (some (.agg #[.int .i64 0, .int .i64 0, .int .i64 0, .int .i64 0, .int .i64 0, .int .i64 0, .int .i64 0, .int .i64 0]), 8, 64) := by kernel_rfl
theorem abk_some {a : Option Addr} : a.isSome = true ↔ ∃ k, abk a = some k := by
  cases a with
  | none => exact ⟨fun h => Bool.noConfusion h, fun ⟨k, h⟩ => (by cases h)⟩
  | some x => exact ⟨fun _ => ⟨_, rfl⟩, fun _ => rfl⟩
theorem ccells_one (cs : List CmD) : ∀ v ∈ ccells cs, v.oneCell' = true := fun v hv => by
  obtain ⟨k, _, h⟩ := List.mem_flatMap.1 hv
  simp only [CmD.cells, List.mem_cons, List.not_mem_nil, or_false] at h
  rcases h with rfl | rfl | rfl | rfl | rfl | rfl | rfl | rfl <;> rfl
theorem cmd_zero {c : CmD} (h : cmdV c = 0) : 1 ≤ c.sess ∧ c.sess ≤ 1073741824 ∧ c.ack ≤ 1099511627776 ∧ c.seq ≤ 1099511627776 := by
  unfold cmdV at h
  split at h
  · cases h
  · omega
def ranR (a : Option Addr) (c : Nat) (ran : List CmD) : HX := HX.rw 8 29 a ran.length c (ccells ran)
structure RunOk (W : World) (a1 : Option Addr) (c1 : Nat) (es : List SE) (a2 : Option Addr) (c2 : Nat) (ran : List CmD) (i : Nat) : Prop where
  inv : OInv (es.map SE.s) ran
  len : ran.length ≤ i
  dis : ∀ k, c2 ≠ 0 → abk a2 = some k → ¬ (tabR a1 c1 es).F k ∧ W.heap.size ≤ k
  sm : ran ≠ [] → a2.isSome = true
  sm2 : c2 ≠ 0 → a2.isSome = true
def OnI (W : World) (n : Nat) (vs : Vals) (hx : HX) : Prop := ∃ (i : Nat) (a1 : Option Addr) (c1 : Nat) (es : List SE) (a2 : Option Addr) (c2 : Nat) (ran : List CmD), i ≤ n ∧ i ≤ 80 ∧ RunOk W a1 c1 es a2 c2 ran i ∧ vs = ⟨[(i : Int)], [], [], [es.length, c1, ran.length, c2], [a1, a2]⟩ ∧ hx = (tabR a1 c1 es).and (ranR a2 c2 ran)
def JnI (W : World) (i : Nat) (vs : Vals) (hx : HX) : Prop := ∃ (a1 : Option Addr) (c1 : Nat) (es : List SE) (a2 : Option Addr) (c2 : Nat) (ran : List CmD), RunOk W a1 c1 es a2 c2 ran i ∧ vs = ⟨[], [], [], [es.length, c1, ran.length, c2], [a1, a2]⟩ ∧ hx = (tabR a1 c1 es).and (ranR a2 c2 ran)
def FiI (ran : List CmD) (c : CmD) (hx0 : HX) (vs : Vals) (hx : HX) : Prop := ∃ (j : Nat) (f : Int), j ≤ ran.length ∧ ((f = -1 ∧ ∀ (x : Nat) (y : CmD), x < j → ran[x]? = some y → ¬ sameC y c) ∨ ∃ (x : Nat) (y : CmD), f = (x : Int) ∧ x < j ∧ ran[x]? = some y ∧ sameC y c) ∧ vs = ⟨[(j : Int), f], [], [], [], []⟩ ∧ hx = hx0
set_option maxHeartbeats 4000000 in
theorem once_walk (a : Option Addr) (cap : Nat) (cs : List CmD) (w : World) (H : Cells w a (ccells cs)) : Calls Try.prog 3 #[.slice a cs.length cap] w (PureAt w (.bool true)) := by
  refine calls_at (tab_ok _) Try.func3 rfl tOnce (ρ := ⟨[], [], [], [cs.length, cap], [a]⟩) (ids := []) (hx := HX.nil) rfl (Facts.initP rfl oneNil) ?_
  refine node_P ⟨[], [true], [], [], []⟩ #[] (.bool true) (by intros; kernel_rfl) (by intros; kernel_rfl) (by intros; kernel_rfl) (by intros; kernel_rfl) (by intros; kernel_rfl) oneNil (fun ids w2 hp hf => head_any w2) ?_
  refine br_f (by kernel_rfl) ?_
  refine loop_i (OnI w cs.length) (fun vs => 100 - (vs.i.headD 0).toNat) (fun ids w2 hp hf => ⟨(tabR (some ⟨idAt ids 0, 0, none⟩) 0 []).and (ranR (some ⟨idAt ids 1, 0, none⟩) 0 []), ⟨⟨(tab0 _ w2 ids).1, HX.rw_nil _ _ _ _⟩, fun j hj => hj.elim (fun q => (tab0 _ w2 ids).2 j q) (fun q => absurd rfl q.1)⟩, 0, _, 0, [], _, 0, [], Nat.zero_le _, Nat.zero_le _, ⟨OInv.nil, Nat.zero_le _, fun k h => absurd rfl h, fun h => absurd rfl h, fun h => absurd rfl h⟩, by kernel_rfl, rfl⟩) ?_
  rintro vs hx' hcnt ⟨i, a1, c1, es, a2, c2, ran, hi, hi80, hok, rfl, rfl⟩
  refine holds_env (ρ' := ⟨[(i : Int)], [true], [], [cs.length, cap, es.length, c1, ran.length, c2], [a, a1, a2]⟩) (by kernel_rfl) ?_
  have hvt := hok.inv.vt
  have hes : es.length ≤ 16 := by have := hvt.len; rw [List.length_map] at this; exact this
  have stop : ∀ {m : Mem} {L : Stack}, (Tree.done (.lf (.bool (.cmp .leq (.nat 2) (.lit 16)))) m).holds ⟨Try.prog, w, fun _ => False, PureAt w (.bool true)⟩ ⟨[(i : Int)], [true], [], [cs.length, cap, es.length, c1, ran.length, c2], [a, a1, a2]⟩ [] ((tabR a1 c1 es).and (ranR a2 c2 ran)) L := fun {m L} =>
    out_done (fun _ => id) (fun ids => Eq.trans (b := .bool (decide ((es.length : Int) ≤ 16))) (by kernel_rfl) (by rw [decide_eq_true (by omega)]))
  by_cases hlt : i < cs.length
  rotate_left
  · exact br_F (decide ((i : Int) < (cs.length : Int))) (by kernel_rfl) (decide_eq_false (by omega)) stop
  refine br_T (decide ((i : Int) < (cs.length : Int))) (by kernel_rfl) (decide_eq_true (by omega)) ?_
  by_cases h80 : i < 80
  rotate_left
  · exact br_F (decide ((i : Int) < 80)) (by kernel_rfl) (decide_eq_false (by omega)) stop
  refine br_T (decide ((i : Int) < 80)) (by kernel_rfl) (decide_eq_true (by omega)) ?_
  obtain ⟨c, hc⟩ : ∃ c, cs[i]? = some c := ⟨_, List.getElem?_eq_getElem hlt⟩
  obtain ⟨s1, q1⟩ := c_elt H hc
  refine need_k (a.isSome = true ∧ (0 : Int) ≤ i ∧ (i : Int) < cs.length) (by kernel_rfl) ⟨s1, by omega, by omega⟩ ?_
  refine node_ld0 (k := ⟨1, 1, 0, 6, 3⟩) ⟨[c.sess, c.seq, c.ack, c.op.kind, c.op.reg, c.op.tg, c.op.re, c.op.im], [], [], [], []⟩ (.pointer (some (((a.getD ⟨0, 0, none⟩).add (i * 8)).add 0))) c.cells (by intros; kernel_rfl) (by intros; kernel_rfl) (q1 _ (fun q => q)) ⟨rfl, oneNil⟩ (by kernel_rfl) oneNil ?_
  refine node_P ⟨[cmdV c], [], [], [], []⟩ #[.agg c.cells.toArray] (.int .i64 (cmdV c)) (by intros; kernel_rfl) (by intros; kernel_rfl) (by intros; kernel_rfl) (by intros; kernel_rfl) (by intros; kernel_rfl) oneNil (fun ids w2 hp hf => rcmd_any c w2) ?_
  have hwi : IntKind.i64.wrap ((i : Int) + 1) = ((i + 1 : Nat) : Int) := by rw [wrap_i64 (by omega)]; omega
  have hmu : 100 - (((i + 1 : Nat) : Int)).toNat < 100 - ((i : Int)).toNat := by omega
  by_cases hz : cmdV c = 0
  rotate_left
  · refine br_T (cmdV c != 0) (by kernel_rfl) (by simpa using hz) ?_
    exact again_V ⟨[((i + 1 : Nat) : Int)], [], [], [es.length, c1, ran.length, c2], [a1, a2]⟩ rfl (fun ids => Eq.trans (b := ⟨[IntKind.i64.wrap ((i : Int) + 1)], [], [], [es.length, c1, ran.length, c2], [a1, a2]⟩) (by kernel_rfl) (by rw [hwi])) _ (fun w2 ids hf => ⟨hf.x, hf.sep⟩) ⟨⟨i + 1, a1, c1, es, a2, c2, ran, by omega, by omega, ⟨hok.inv, Nat.le_succ_of_le hok.len, hok.dis, hok.sm, hok.sm2⟩, rfl, rfl⟩, hmu⟩
  refine br_F (cmdV c != 0) (by kernel_rfl) (by rw [hz]; rfl) ?_
  obtain ⟨b1, b2, b3, b4⟩ := cmd_zero hz
  obtain ⟨o1, o2, o3⟩ := once_ask hok.inv c b1 b2 b3 b4
  obtain ⟨R, eR⟩ : ∃ R, R = askV (es.map SE.s) c.sess c.seq c.ack := ⟨_, rfl⟩
  rw [← eR] at o1 o2 o3
  refine node_ask (fun _ => a1) es.length c1 es c.sess c.seq c.ack c.op.kind c.op.reg c.op.tg c.op.re c.op.im R (by intros; kernel_rfl) rfl (fun ids w2 hp hf => tabR_at hf.x.1) hvt.ok eR.symm (by intros; kernel_rfl) (by kernel_rfl) (by kernel_rfl) (by intros; kernel_rfl) ?_
  intro a3 c3 es3 hm3 _ _ hnew3
  have hI3 : OInv (es3.map SE.s) ran := by rw [hm3]; exact o1
  obtain ⟨hx0, ehx⟩ : ∃ h : HX, h = ((tabR a1 c1 es).and (ranR a2 c2 ran)).and (tabR a3 c3 es3) := ⟨_, rfl⟩
  rw [← ehx]
  refine loop_i (FiI ran c hx0) (fun vs => ran.length - (vs.i.headD 0).toNat) (fun ids w2 hp hf => ⟨hx0, ⟨hf.x, hf.sep⟩, 0, -1, Nat.zero_le _, .inl ⟨rfl, fun x y h => absurd h (Nat.not_lt_zero _)⟩, by kernel_rfl, rfl⟩) ?_
  rintro vs hx' hcnt2 ⟨j, f, hj, hf0, rfl, rfl⟩
  refine holds_env (ρ' := ⟨[(i : Int), c.sess, c.seq, c.ack, c.op.kind, c.op.reg, c.op.tg, c.op.re, c.op.im, cmdV c, R.k, R.re, R.im, (j : Int), f], [true, R.d], [], [cs.length, cap, es.length, c1, ran.length, c2, es3.length, c3], [a, a1, a2, a3]⟩) (by kernel_rfl) ?_
  by_cases hlt2 : j < ran.length
  · refine br_T (decide ((j : Int) < (ran.length : Int))) (by kernel_rfl) (decide_eq_true (by omega)) ?_
    obtain ⟨x, hx⟩ : ∃ x, ran[j]? = some x := ⟨_, List.getElem?_eq_getElem hlt2⟩
    have hne : ran ≠ [] := fun q => by rw [q] at hlt2; simp at hlt2
    refine need_k (a2.isSome = true ∧ (0 : Int) ≤ j ∧ (j : Int) < ran.length) (by kernel_rfl) ⟨hok.sm hne, by omega, by omega⟩ ?_
    refine node_ldk ⟨[x.sess, x.seq, x.ack, x.op.kind, x.op.reg, x.op.tg, x.op.re, x.op.im], [], [], [], []⟩ (fun _ => .pointer (some (((a2.getD ⟨0, 0, none⟩).add (j * 8)).add 0))) x.cells (by intros; kernel_rfl) (by intros; kernel_rfl) (fun ids w2 hp hf => (c_elt (rw_cells (by have := hf.x; rw [ehx] at this; exact this.1.2)) hx).2 _ (fun q => q)) (by kernel_rfl) oneNil ?_
    have hwj : IntKind.i64.wrap ((j : Int) + 1) = ((j + 1 : Nat) : Int) := by
      have := hok.len
      rw [wrap_i64 (by omega)]; omega
    have hmu2 : ran.length - (((j + 1 : Nat) : Int)).toNat < ran.length - ((j : Int)).toNat := by omega
    have skip : ¬ sameC x c → FiI ran c hx' ⟨[((j + 1 : Nat) : Int), f], [], [], [], []⟩ hx' := fun hns => ⟨j + 1, f, by omega, hf0.imp (fun ⟨h1, h2⟩ => ⟨h1, fun z y hz hy => by
      rcases Nat.lt_or_ge z j with q | q
      · exact h2 z y q hy
      · have : z = j := by omega
        subst this; rw [hx] at hy; cases hy; exact hns⟩) (fun ⟨z, y, h1, h2, h3⟩ => ⟨z, y, h1, by omega, h3⟩), rfl, rfl⟩
    by_cases e1 : x.sess = c.sess
    · refine br_T (x.sess == c.sess) (by kernel_rfl) (by simpa using e1) ?_
      by_cases e2 : x.seq = c.seq
      · refine br_T (x.seq == c.seq) (by kernel_rfl) (by simpa using e2) ?_
        exact again_V ⟨[((j + 1 : Nat) : Int), (j : Int)], [], [], [], []⟩ rfl (fun ids => Eq.trans (b := ⟨[IntKind.i64.wrap ((j : Int) + 1), (j : Int)], [], [], [], []⟩) (by kernel_rfl) (by rw [hwj])) _ (fun w2 ids hf => ⟨hf.x, hf.sep⟩) ⟨⟨j + 1, (j : Int), by omega, .inr ⟨j, x, rfl, by omega, hx, e1, e2⟩, rfl, rfl⟩, hmu2⟩
      · refine br_F (x.seq == c.seq) (by kernel_rfl) (by simpa using e2) ?_
        exact again_V ⟨[((j + 1 : Nat) : Int), f], [], [], [], []⟩ rfl (fun ids => Eq.trans (b := ⟨[IntKind.i64.wrap ((j : Int) + 1), f], [], [], [], []⟩) (by kernel_rfl) (by rw [hwj])) _ (fun w2 ids hf => ⟨hf.x, hf.sep⟩) ⟨skip (fun q => e2 q.2), hmu2⟩
    · refine br_F (x.sess == c.sess) (by kernel_rfl) (by simpa using e1) ?_
      exact again_V ⟨[((j + 1 : Nat) : Int), f], [], [], [], []⟩ rfl (fun ids => Eq.trans (b := ⟨[IntKind.i64.wrap ((j : Int) + 1), f], [], [], [], []⟩) (by kernel_rfl) (by rw [hwj])) _ (fun w2 ids hf => ⟨hf.x, hf.sep⟩) ⟨skip (fun q => e1 q.1), hmu2⟩
  refine br_F (decide ((j : Int) < (ran.length : Int))) (by kernel_rfl) (decide_eq_false (by omega)) ?_
  obtain rfl : j = ran.length := by omega
  have hf1 : (f = -1 ∧ ∀ (x : Nat) (y : CmD), ran[x]? = some y → ¬ sameC y c) ∨ ∃ (x : Nat) (y : CmD), f = (x : Int) ∧ ran[x]? = some y ∧ sameC y c := hf0.imp (fun ⟨h1, h2⟩ => ⟨h1, fun x y hy => h2 x y (List.getElem?_eq_some_iff.1 hy).1 hy⟩) (fun ⟨x, y, h1, _, h2⟩ => ⟨x, y, h1, h2⟩)
  have hdis3 : ∀ k, c2 ≠ 0 → abk a2 = some k → ¬ (tabR a3 c3 es3).F k := fun k h1 h2 h3 => (hnew3 k h3).2 (.inr ⟨h1, h2⟩)
  have hJ0 : JnI w (i + 1) ⟨[], [], [], [es3.length, c3, ran.length, c2], [a3, a2]⟩ ((tabR a3 c3 es3).and (ranR a2 c2 ran)) := ⟨a3, c3, es3, a2, c2, ran, ⟨hI3, Nat.le_succ_of_le hok.len, fun k h1 h2 => ⟨hdis3 k h1 h2, (hok.dis k h1 h2).2⟩, hok.sm, hok.sm2⟩, rfl, rfl⟩
  have hH0 : ∀ {m : Mem} {ρ : Env} {C : Cfg} (w2 : World) (ids : List Nat), Facts C m ρ ids hx' w2 → HXok ((tabR a3 c3 es3).and (ranR a2 c2 ran)) w2 ids := fun w2 ids hf => by
    rw [ehx] at hf
    exact ⟨⟨hf.x.2, hf.x.1.2⟩, fun k hk => hf.sep k (hk.elim .inr (fun q => .inl (.inr q)))⟩
  refine ⟨JnI w (i + 1), ?_, ?_⟩
  · rcases Bool.eq_false_or_eq_true R.d with hd | hd
    · refine br_F (!R.d) (by kernel_rfl) (by rw [hd]; rfl) ?_
      obtain ⟨k1, k2⟩ := o2 hd
      by_cases hk : R.k = 1
      · refine br_T (R.k == 1) (by kernel_rfl) (by simpa using hk) ?_
        obtain ⟨x, y, hy, hsm, hre⟩ := k1 hk
        have hf2 : f = (x : Int) := by
          rcases hf1 with ⟨_, h2⟩ | ⟨x', y', h1, h2, h3⟩
          · exact absurd hsm (h2 x y hy)
          · rw [h1, hok.inv.c x' x y' y h2 hy ⟨h3.1.trans hsm.1.symm, h3.2.trans hsm.2.symm⟩]
        have hxl := (List.getElem?_eq_some_iff.1 hy).1
        have hl := hok.len
        refine br_F (decide (f < 0)) (by kernel_rfl) (decide_eq_false (by omega)) ?_
        refine br_F (R.re != IntKind.i64.wrap (f + 1)) (by kernel_rfl) (by rw [wrap_i64 (by omega), hre, hf2]; simp) ?_
        refine br_T (decide (f ≥ 0)) (by kernel_rfl) (decide_eq_true (by omega)) ?_
        refine br_F (R.k != 1) (by kernel_rfl) (by rw [hk]; rfl) ?_
        exact again_V ⟨[], [], [], [es3.length, c3, ran.length, c2], [a3, a2]⟩ rfl (by intros; kernel_rfl) _ hH0 hJ0
      · refine br_F (R.k == 1) (by kernel_rfl) (by simpa using hk) ?_
        rcases hf1 with ⟨h1, h2⟩ | ⟨x, y, h1, h2, h3⟩
        · refine br_F (decide (f ≥ 0)) (by kernel_rfl) (decide_eq_false (by omega)) ?_
          exact again_V ⟨[], [], [], [es3.length, c3, ran.length, c2], [a3, a2]⟩ rfl (by intros; kernel_rfl) _ hH0 hJ0
        · refine br_T (decide (f ≥ 0)) (by kernel_rfl) (decide_eq_true (by omega)) ?_
          refine br_T (R.k != 1) (by kernel_rfl) (by simpa using hk) ?_
          have h4 : R.k = 4 := by
            rcases Classical.em (R.k = 4) with q | q
            · exact q
            · exact absurd h3 (k2 hk q x y h2)
          refine br_F (R.k != 4) (by kernel_rfl) (by rw [h4]; rfl) ?_
          exact again_V ⟨[], [], [], [es3.length, c3, ran.length, c2], [a3, a2]⟩ rfl (by intros; kernel_rfl) _ hH0 hJ0
    · refine br_T (!R.d) (by kernel_rfl) (by rw [hd]; rfl) ?_
      obtain ⟨k1, k2⟩ := o3 hd
      have hf2 : f = -1 := by
        rcases hf1 with ⟨h1, _⟩ | ⟨x, y, _, h2, h3⟩
        · exact h1
        · exact absurd h3 (k1 x y h2)
      refine br_F (decide (f ≥ 0)) (by kernel_rfl) (decide_eq_false (by omega)) ?_
      have hl := hok.len
      refine holds_eq (show _ = ((tabR a1 c1 es).and (tabR a3 c3 es3)).and (HX.rw 8 29 a2 ran.length c2 (ccells ran)) from by rw [ehx, HX.and_right_comm]; rfl) ?_
      refine node_pushs (sz := 8) (z := .agg #[.int .i64 0, .int .i64 0, .int .i64 0, .int .i64 0, .int .i64 0, .int .i64 0, .int .i64 0, .int .i64 0]) rfl Try.underlying22 info_cm rfl (by decide) a2 ran.length c2 (ccells ran) c.cells 4 (by intros; kernel_rfl) (by intros; kernel_rfl) rfl (by intros; kernel_rfl) rfl (fun v hv => ccells_one [c] v (by simpa [ccells] using hv)) (fun k h1 h2 hF => hF.elim (hok.dis k h1 h2).1 (hdis3 k h1 h2)) (fun k h1 h2 => .inl (hok.dis k h1 h2).2) (by simp only [maxLen]; omega) (by omega) (by intros; kernel_rfl) (by kernel_rfl) (by kernel_rfl) (by intros; kernel_rfl) ?_
      intro a5 c5 hc5 hdis5 hwh5
      have hcc : ccells ran ++ c.cells = ccells (ran ++ [c]) := by unfold ccells; rw [List.flatMap_append, List.flatMap_cons, List.flatMap_nil, List.append_nil]
      have hsm5 : a5.isSome = true := by
        rcases hwh5 with ⟨q1, q2⟩ | ⟨g, q1, _⟩
        · obtain ⟨k, hk⟩ := abk_some.1 (hok.sm2 q1)
          exact abk_some.2 ⟨k, by rw [q2]; exact hk⟩
        · exact abk_some.2 ⟨g, q1⟩
      have hge5 : ∀ k, abk a5 = some k → w.heap.size ≤ k := fun k hk => by
        rcases hwh5 with ⟨q1, q2⟩ | ⟨g, q1, q2, _⟩
        · exact (hok.dis k q1 (by rw [← q2]; exact hk)).2
        · rw [q1] at hk; cases hk; exact q2
      refine node_keep (fun _ => a3) es3.length c3 es3 c.sess c.seq c.ack c.op.kind c.op.reg c.op.tg c.op.re c.op.im 1 ((ran.length + 1 : Nat) : Int) 0 (keepV R.t c.sess c.seq 1 ((ran.length + 1 : Nat) : Int) 0) (by intros; kernel_rfl) rfl (fun ids w2 hp hf => tabR_at hf.x.1.2) hI3.vt.ok (by rw [hm3]) (by intros; kernel_rfl) (by kernel_rfl) (by kernel_rfl) (by intros; kernel_rfl) ?_
      intro a6 c6 es6 hm6 _ _ hnew6
      have hrl : (ran ++ [c]).length = ran.length + 1 := by rw [List.length_append]; rfl
      refine again_V ⟨[], [], [], [es6.length, c6, (ran ++ [c]).length, c5], [a6, a5]⟩ rfl (fun ids => Eq.trans (b := ⟨[], [], [], [es6.length, c6, ran.length + 1, c5], [a6, a5]⟩) (by kernel_rfl) (by rw [hrl])) ((tabR a6 c6 es6).and (ranR a5 c5 (ran ++ [c]))) (fun w2 ids hf => ⟨⟨hf.x.2, ?_⟩, fun k hk => hf.sep k ?_⟩) ⟨a6, c6, es6, a5, c5, ran ++ [c], ⟨by rw [hm6]; exact k2, by rw [hrl]; omega, fun k h1 h2 => ⟨fun h3 => (hnew6 k h3).2 (.inr ⟨h1, h2⟩), hge5 k h2⟩, fun _ => hsm5, fun _ => hsm5⟩, rfl, rfl⟩
      · have := hf.x.1.2
        unfold ranR; rw [hrl, ← hcc]; exact this
      · rcases hk with hk | hk
        · exact .inr hk
        · exact .inl (.inr hk)
  rintro vs hx' hcnt3 ⟨a6, c6, es6, a5, c5, ran2, hok2, rfl, rfl⟩
  have hes6 : es6.length ≤ 16 := by have := hok2.inv.vt.len; rw [List.length_map] at this; exact this
  refine node_valid (fun _ => a6) es6.length c6 es6 true (by intros; kernel_rfl) rfl (fun ids w2 hp hf => tabR_at hf.x.1) (by omega) ((validT_iff _).2 hok2.inv.vt) (by intros; kernel_rfl) (by kernel_rfl) (by kernel_rfl) (by kernel_rfl) ?_
  refine br_f (by kernel_rfl) ?_
  exact again_V ⟨[((i + 1 : Nat) : Int)], [], [], [es6.length, c6, ran2.length, c5], [a6, a5]⟩ rfl (fun ids => Eq.trans (b := ⟨[IntKind.i64.wrap ((i : Int) + 1)], [], [], [es6.length, c6, ran2.length, c5], [a6, a5]⟩) (by kernel_rfl) (by rw [hwi])) _ (fun w2 ids hf => ⟨hf.x, hf.sep⟩) ⟨⟨i + 1, a6, c6, es6, a5, c5, ran2, by omega, by omega, hok2, rfl, rfl⟩, hmu⟩
theorem once_args (a : Option Addr) (cap : Nat) (ds : List Dat) (w : World) (HO : Cells w a (Dat.cellsAll ds)) (hds : ∀ d ∈ ds, d.In Try.prog w 29) (_ : ds.length ≤ 9223372036854775807) (_ : ds.length * Try.prog.bytesOf 29 ≤ reachBytes) :
    Calls Try.prog 3 #[.slice a ds.length cap] w (PureAt w (.bool true)) := by
  obtain ⟨cs, rfl, _⟩ := list_map_of cmDat CmFit ds fun d hd => opn_cmd (hds d hd)
  rw [List.length_map]
  rw [dat_cells] at HO
  exact once_walk a cap cs w HO
end Go.Proofs.Ythgkgllllomeeaa
