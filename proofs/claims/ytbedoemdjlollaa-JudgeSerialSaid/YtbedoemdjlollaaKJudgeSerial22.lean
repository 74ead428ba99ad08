/- Part 22 of the texts of a proof about the given program: what the statement's proof needs of them. -/
import Derived.Test.YtbedoemdjlollaaKJudgeSerial21
namespace Go.Proofs.Ytbedoemdjlollaa
open Go Go.ChangeShapes Go.WideShapes Go.ChangeAt Go.RowKit Go.Syn Go.Eng
set_option linter.unusedVariables false
set_option linter.unusedSimpArgs false
set_option maxRecDepth 100000
def upd (f : Nat → Int) (n : Nat) (v : Int) (x : Nat) : Int := if x = n then v else f x
def four (f : Nat → Int) : List Value := [.int .i64 (f 0), .int .i64 (f 1), .int .i64 (f 2), .int .i64 (f 3)]
theorem spl4 (f : Nat → Int) (v : Int) : ∀ {N : Nat}, N ≤ 3 → spl (four f) N [.int .i64 v] = four (upd f N v)
  | 0, _ => rfl
  | 1, _ => rfl
  | 2, _ => rfl
  | 3, _ => rfl
  | n + 4, h => by omega
theorem get4 (f : Nat → Int) : ∀ {N : Nat}, N ≤ 3 → (four f)[N]? = some (.int .i64 (f N))
  | 0, _ => rfl
  | 1, _ => rfl
  | 2, _ => rfl
  | 3, _ => rfl
  | n + 4, h => by omega
theorem g4 (f : Nat → Int) {K : Nat} (hK : K ≤ 3) (j : Nat) (u : Value) (hj : [Value.int .i64 (f K)][j]? = some u) : (four f)[0 + K * 1 + j]? = some u := by
  cases j with
  | zero =>
    simp only [List.getElem?_cons_zero, Option.some.injEq] at hj
    subst hj
    rw [show 0 + K * 1 + 0 = K by omega]
    exact get4 f hK
  | succ j => cases hj
theorem upd_back (f : Nat → Int) (J : Nat) (x : Int) : upd (upd f J x) J (f J) = f := funext fun y => by
  unfold upd
  by_cases h : y = J
  · rw [if_pos h, h]
  · rw [if_neg h, if_neg h]
structure SePl (f : Nat → Int) (k : Nat) (L : List It) (tb : List SsD) : Prop where
  fr : Fr (fun x => 1 ≤ x ∧ x ≤ 4) (fun x => f (x - 1).toNat) tb
  f0 : ∀ j, 0 ≤ f j ∧ f j ≤ (k : Int)
  keyed : Keyed L
  le : ∀ z ∈ L, 1 ≤ z.1.sess ∧ z.1.sess ≤ 4 ∧ 1 ≤ z.1.seq ∧ z.1.seq ≤ f (z.1.sess - 1).toNat
theorem SePl.more {f : Nat → Int} {k : Nat} {L : List It} {tb : List SsD} (h : SePl f k L tb) : SePl f (k + 1) L tb := ⟨h.fr, fun j => ⟨(h.f0 j).1, by have := (h.f0 j).2; omega⟩, h.keyed, h.le⟩
theorem SePl.step {f : Nat → Int} {k : Nat} {L : List It} {tb tb' : List SsD} (h : SePl f k L tb) {J : Nat} (hJ : J ≤ 3) {c : CmD} {a : AnD} (hs : c.sess = (J : Int) + 1) (hq : c.seq = f J + 1) (htb : ∀ Q' : Int → Int, (∀ x, x ≠ c.sess → f (x - 1).toNat ≤ Q' x) → c.seq ≤ Q' c.sess → Fr (fun x => 1 ≤ x ∧ x ≤ 4) Q' tb') : SePl (upd f J (f J + 1)) (k + 1) (L ++ [(c, a)]) tb' := by
  have eJ : (c.sess - 1).toNat = J := by omega
  have mono : ∀ j, f j ≤ upd f J (f J + 1) j := fun j => by
    unfold upd
    by_cases q : j = J
    · rw [if_pos q, q]; omega
    · rw [if_neg q]; exact Int.le_refl _
  have hne : ∀ z ∈ L, itKey z ≠ itKey (c, a) := fun z hz e => by
    obtain ⟨z1, z2, _, z3⟩ := h.le z hz
    have e1 : z.1.sess = c.sess := congrArg Prod.fst e
    have e2 : z.1.seq = c.seq := congrArg Prod.snd e
    rw [e1, eJ] at z3
    omega
  refine ⟨htb _ (fun x _ => mono _) ?_, fun j => ?_, keyed_snoc h.keyed hne, fun z hz => ?_⟩
  · show c.seq ≤ upd f J (f J + 1) (c.sess - 1).toNat
    rw [eJ]; unfold upd; rw [if_pos rfl]; omega
  · have := h.f0 j
    have := (h.f0 J)
    unfold upd
    by_cases q : j = J
    · rw [if_pos q]; omega
    · rw [if_neg q]; omega
  · rcases List.mem_append.1 hz with hz | hz
    · obtain ⟨z1, z2, z4, z3⟩ := h.le z hz
      exact ⟨z1, z2, z4, Int.le_trans z3 (mono _)⟩
    · rw [List.mem_singleton.1 hz]
      have := (h.f0 J)
      refine ⟨by show 1 ≤ c.sess; omega, by show c.sess ≤ 4; omega, by show 1 ≤ c.seq; omega, ?_⟩
      show c.seq ≤ upd f J (f J + 1) (c.sess - 1).toNat
      rw [eJ]; unfold upd; rw [if_pos rfl]; omega
theorem evs_keys {L : List It} (h : ∀ z ∈ L, KyFit (itKey z)) : ∀ e ∈ evsOf L, KyFit e.key := fun e he => by
  obtain ⟨z, hz, q⟩ := List.mem_flatMap.1 he
  simp only [List.mem_cons, List.not_mem_nil, or_false] at q
  rcases q with rfl | rfl
  · exact h z hz
  · exact h z hz
theorem lit_12 (w : World) : (Instr.buildSlice 33 2 #[(0, .int .i64 1), (1, .int .i64 2)]).run Try.prog w = .ok (.slice (some ⟨w.heap.size, 0, none⟩) 2 2) (w.alloc (.cells ([.int .i64 1, .int .i64 2] : List Value).toArray 3)) := by kernel_rfl
theorem lit_vo0 (w : World) : (Instr.buildSlice 24 0 #[]).run Try.prog w = .ok (.slice (some ⟨w.heap.size, 0, none⟩) 0 0) (w.alloc (.cells ([] : List Value).toArray 39)) := by kernel_rfl
theorem lit_ev0 (w : World) : (Instr.buildSlice 45 0 #[]).run Try.prog w = .ok (.slice (some ⟨w.heap.size, 0, none⟩) 0 0) (w.alloc (.cells ([] : List Value).toArray 66)) := by kernel_rfl
theorem lit_cmd (c : CmD) (w : World) : (Instr.buildSlice 32 1 #[(0, .agg c.cells.toArray)]).run Try.prog w = .ok (.slice (some ⟨w.heap.size, 0, none⟩) 1 1) (w.alloc (.cells (ccells [c]).toArray 43)) := by kernel_rfl
theorem lit_vote (z : Vo Pv) (w : World) : (Instr.buildSlice 24 1 #[(0, .agg (voC z).toArray)]).run Try.prog w = .ok (.slice (some ⟨w.heap.size, 0, none⟩) 1 1) (w.alloc (.cells (voC z).toArray 39)) := by kernel_rfl
theorem lit_ev2 (x y : Ev) (w : World) : (Instr.buildSlice 45 2 #[(0, .agg x.cells.toArray), (1, .agg y.cells.toArray)]).run Try.prog w = .ok (.slice (some ⟨w.heap.size, 0, none⟩) 2 2) (w.alloc (.cells (evcs [x, y]).toArray 66)) := by kernel_rfl
theorem bt_fit (c : CmD) : VlFit (bt c) := ⟨(fun n h => by cases h), (by show 1 ≤ _; omega), (by show 0 ≤ _; omega)⟩
def erow (a : Option Addr) (c : Nat) (es : List Ev) : HX := HX.rw 12 66 a es.length c (evcs es)
theorem evcs_snoc2 (es : List Ev) (x y : Ev) : evcs es ++ evcs [x, y] = evcs (es ++ [x, y]) := by unfold evcs; rw [List.flatMap_append]
def SerI (W : World) (vs : Vals) (hx : HX) (n : Nat) : Prop := ∃ (k : Nat) (told : Int) (f : Nat → Int) (I : Im) (hs : List (Vo Pv)) (L : List It) (evs : List Ev) (a1 : Option Addr) (c1 : Nat) (a2 : Option Addr) (c2 : Nat) (es : List SE) (ah : Option Addr) (ch : Nat) (ae : Option Addr) (ce : Nat), n = 40 - k ∧ k ≤ 40 ∧ SI [1, 2] I (vlsOf hs) L ∧ SePl f k L I.tb ∧ evs = evsOf L ∧ es.map SE.s = I.tb ∧ (∀ x ∈ hs, I64 x.s ∧ VlFit x.v.v) ∧ hs.length ≤ k ∧
  OwnR W ((imX I a1 a2 c2 es).and (voAll hs)) (vrow ah ch hs) ∧ OwnR W (((imX I a1 a2 c2 es).and (voAll hs)).and (vrow ah ch hs)) (erow ae ce evs) ∧
  vs = ⟨(k : Int) :: told :: (imI I ++ [f 0, f 1, f 2, f 3]), [], [], [hs.length, ch, evs.length, ce, I.mem.length, c1, I.tb.length, c2], [ah, ae, a1, a2]⟩ ∧ (((imX I a1 a2 c2 es).and (voAll hs)).and (vrow ah ch hs)).and (erow ae ce evs) = hx
set_option maxHeartbeats 8000000 in
theorem serial_walk (a : Option Addr) (cp : Nat) (cs : List CmD) (turned : Int) (w : World) (H : Cells w a (ccells cs)) :
    Calls Try.prog 5 #[.slice a cs.length cp, .int .i64 turned] w (PureAt w (.bool true)) := by
  refine calls_at (tab_ok _) Try.func5 rfl tLSerial (ρ := ⟨[turned], [], [], [cs.length, cp], [a]⟩) (ids := []) (hx := HX.nil) rfl (Facts.initP rfl oneNil) ?_
  refine node_P ⟨[], [true], [], [], []⟩ #[] (.bool true) (by intros; kernel_rfl) (by intros; kernel_rfl) (by kernel_rfl) (by kernel_rfl) (by kernel_rfl) oneNil (fun ids w2 hp hf => head25_any w2) ?_
  refine br_f (by kernel_rfl) ?_
  have i12 : ∀ {w2 : World} {b : Option Addr}, Cells w2 b [.int .i64 1, .int .i64 2] → Ints w2 b [1, 2] := fun h => Ints.of_cells (xs := [1, 2]) (by decide) (by unfold I64; decide) h
  refine node_lit (t := 33) (e := 3) (len := 2) (sz := 1) [.int .i64 1, .int .i64 2] #[(0, .int .i64 1), (1, .int .i64 2)] (by intros; kernel_rfl) (fun w => lit_12 w) rfl (by unfold maxLen; decide) (by intros; kernel_rfl) (by kernel_rfl) (by kernel_rfl) (by intros; kernel_rfl) ?_
  intro la hla
  refine node_im (V := id) (I := firstI [1, 2]) (fun ids => #[.slice la 2 2]) (fun x1 y1 x2 y2 => ⟨imI (firstI [1, 2]), [], [], [2, y1, 0, y2], [x1, x2]⟩) (by intros; kernel_rfl) (fun ids w2 hp hf => xfirst_any la 2 [1, 2] w2 (i12 (rw_cells hf.x.2)) (by decide)) (by intros; kernel_rfl) (by kernel_rfl) (by kernel_rfl) (by intros; kernel_rfl) (fun _ _ _ _ => oneNil) ?_
  intro x1 y1 x2 y2 es0 hm0 hdj0 hsm0 had0 hn0
  refine node_lit (t := 24) (e := 39) (len := 0) (sz := 6) [] #[] (by intros; kernel_rfl) (fun w => lit_vo0 w) rfl (by unfold maxLen; decide) (by intros; kernel_rfl) (by kernel_rfl) (by kernel_rfl) (by intros; kernel_rfl) ?_
  intro lb hlb
  refine node_lit (t := 45) (e := 66) (len := 0) (sz := 12) [] #[] (by intros; kernel_rfl) (fun w => lit_ev0 w) rfl (by unfold maxLen; decide) (by intros; kernel_rfl) (by kernel_rfl) (by kernel_rfl) (by intros; kernel_rfl) ?_
  intro lc hlc
  refine ⟨SerI w, fun ids w2 hp hf => ⟨(((imX (firstI [1, 2]) x1 x2 y2 es0).and (voAll [])).and (vrow lb 0 [])).and (erow lc 0 []), 40, ⟨⟨⟨⟨hf.x.1.1.2, fun x hx => by cases hx⟩, HX.rw_nil _ _ _ _⟩, HX.rw_nil _ _ _ _⟩, fun j hj => by
    rcases hj with ((hj | ⟨x, hx, _⟩) | hj) | hj
    · exact hf.sep j (.inl (.inl (.inr hj)))
    · cases hx
    · exact absurd rfl hj.1
    · exact absurd rfl hj.1⟩, 0, 0, (fun _ => 0), firstI [1, 2], [], [], [], x1, y1, x2, y2, es0, lb, 0, lc, 0, rfl, by omega, SI.nil (by decide) (by unfold I64; decide), ⟨⟨(fun s hs => by cases hs), (fun s hs => by cases hs), (fun s hs => by cases hs)⟩, (fun j => ⟨Int.le_refl _, by simp⟩), List.nodup_nil, (fun z hz => by cases hz)⟩, rfl, hm0, (fun x hx => by cases hx), Nat.le_refl _, (fun q hq => absurd rfl hq.1), (fun q hq => absurd rfl hq.1), by kernel_rfl, rfl⟩, ?_⟩
  rintro vs hx' n hcnt ⟨k, told, f, I, hs, L, evs, a1, c1, a2, c2, es, ah, ch, ae, ce, rfl, hk, hSI, hPl, hevs, hes, hfit, hhl, ownV, ownE, rfl, rfl⟩
  have hvl := vlsOf_len hs
  have hLl := hSI.len
  have hsl := hSI.sl
  have hel : evs.length ≤ 80 := by rw [hevs, evsOf_len]; omega
  have hkys : ∀ e ∈ evs, KyFit e.key := by
    rw [hevs]
    refine evs_keys fun z hz => ?_
    obtain ⟨z1, z2, z3, z4⟩ := hPl.le z hz
    have := (hPl.f0 (z.1.sess - 1).toNat).2
    exact ⟨⟨by show _ ≤ z.1.sess; omega, by show z.1.sess ≤ _; omega⟩, by show _ ≤ z.1.seq; omega, by show z.1.seq ≤ _; omega⟩
  refine holds_env (ρ' := ⟨turned :: (imI (firstI [1, 2]) ++ ((k : Int) :: told :: (imI I ++ [f 0, f 1, f 2, f 3]))), [true], [], [cs.length, cp, 2, 2, 2, y1, 0, y2, 0, 0, 0, 0] ++ [hs.length, ch, evs.length, ce, I.mem.length, c1, I.tb.length, c2], [a, la, x1, x2, lb, lc] ++ [ah, ae, a1, a2]⟩) (by kernel_rfl) ?_
  refine br_D (p := (k : Int) < (cs.length : Int)) (by kernel_rfl) (fun hlt => ?B) (fun hlt => ?E)
  case' B => refine br_D (p := (k : Int) < 40) (by kernel_rfl) (fun h40 => ?B2) (fun h40 => ?E2)
  case' E =>
    refine node_lit (t := 33) (e := 3) (len := 2) (sz := 1) [.int .i64 1, .int .i64 2] #[(0, .int .i64 1), (1, .int .i64 2)] (by intros; kernel_rfl) (fun w => lit_12 w) rfl (by unfold maxLen; decide) (by intros; kernel_rfl) (by kernel_rfl) (by kernel_rfl) (by intros; kernel_rfl) ?_
    intro ld hld
  case' E2 =>
    refine node_lit (t := 33) (e := 3) (len := 2) (sz := 1) [.int .i64 1, .int .i64 2] #[(0, .int .i64 1), (1, .int .i64 2)] (by intros; kernel_rfl) (fun w => lit_12 w) rfl (by unfold maxLen; decide) (by intros; kernel_rfl) (by kernel_rfl) (by kernel_rfl) (by intros; kernel_rfl) ?_
    intro ld hld
  case' E | E2 =>
    refine node_vonew hs (fun _ => #[.slice ah hs.length ch]) (by intros; kernel_rfl) (fun ids w2 hp hf2 => copied_any ah ch hs w2 (vox_of ⟨hf2.x.1.1.1.2, hf2.x.1.1.2⟩) (fun x hx => (hfit x hx).2) (by omega)) (by intros; kernel_rfl) (by kernel_rfl) (by kernel_rfl) (by intros; kernel_rfl) ?_
    intro b2 d2 ys hv hfr
    refine node_PI ⟨[0], [], [], [], []⟩ (fun _ => #[.slice ld 2 2, .slice b2 ys.length d2, .slice ae evs.length ce, .bool false]) (.int .i64 0) (by intros; kernel_rfl) (by intros; kernel_rfl) (by kernel_rfl) (by kernel_rfl) (by kernel_rfl) oneNil (fun ids w2 hp hf => ?_) (pure_done (by intros; kernel_rfl))
    have hyl : ys.length = hs.length := by rw [← vlsOf_len ys, hv, vlsOf_len]
    have := jcheck_any ld 2 [1, 2] b2 d2 ys ae ce evs false w2 (i12 (rw_cells hf.x.1.2)) (by decide) (vox_of hf.x.2) (fun x hx => (vls_fit hv hfit x hx).2) (by omega) (rw_cells hf.x.1.1.2) hkys (by omega)
    rw [hv, hSI.check, hevs] at this
    have h0 := chk_right (L := L) (M := []) (by rw [List.append_nil]; exact hPl.keyed) false
    rw [List.append_nil] at h0
    rw [h0, ← hevs] at this
    exact this
  have hlt : k < cs.length := by omega
  have hk40 : k < 40 := by omega
  obtain ⟨c, hc⟩ : ∃ c, cs[k]? = some c := ⟨_, List.getElem?_eq_getElem hlt⟩
  have hce := c_elt H hc
  have oneT : ∀ v, v ∈ ([] : List Value) → v.oneCell' = true := oneNil
  refine need_k (a.isSome = true ∧ (0 : Int) ≤ (k : Int) ∧ (k : Int) < (cs.length : Int)) (by kernel_rfl) ⟨hce.1, by omega, by omega⟩ ?_
  refine node_ld0 (k := ⟨43, 1, 0, 20, 10⟩) ⟨c.is, [], [], [], []⟩ (.pointer (some (((a.getD ⟨0, 0, none⟩).add (k * 8)).add 0))) c.cells (by intros; kernel_rfl) (by intros; kernel_rfl) (hce.2 _ (fun q => q)) ⟨by kernel_rfl, oneNil⟩ (by kernel_rfl) oneNil ?_
  have hand : ifn .and .i64 c.sess 3 = c.sess % 4 := i64_mask c.sess 2 (by decide)
  obtain ⟨J, eJ0, hJ⟩ : ∃ J : Nat, c.sess % 4 = (J : Int) ∧ J ≤ 3 := ⟨(c.sess % 4).toNat, by omega, by omega⟩
  have hS : IntKind.i64.wrap (1 + ifn .and .i64 c.sess 3) = (J : Int) + 1 := by rw [hand, eJ0, wrap_i64 (by omega)]; omega
  obtain ⟨ix, eix⟩ : ∃ ix, ix = IntKind.i64.wrap (IntKind.i64.wrap (1 + ifn .and .i64 c.sess 3) - 1) := ⟨_, rfl⟩
  have eI : ix = (J : Int) := by rw [eix, hS, wrap_i64 (by omega)]; omega
  have bI : 0 ≤ IntKind.i64.wrap (IntKind.i64.wrap (1 + ifn .and .i64 c.sess 3) - 1) ∧ IntKind.i64.wrap (IntKind.i64.wrap (1 + ifn .and .i64 c.sess 3) - 1) < 4 := by rw [← eix, eI]; omega
  have eI2 : IntKind.i64.wrap (IntKind.i64.wrap (1 + ifn .and .i64 c.sess 3) - 1) = (J : Int) := by rw [← eix, eI]
  have pJ : ∀ (ids : List Nat) (k : Nat), Value.pointer (some ⟨idAt ids k, 0 + (IntKind.i64.wrap (IntKind.i64.wrap (1 + ifn .and .i64 c.sess 3) - 1)).toNat * 1, none⟩) = .pointer (some ⟨idAt ids k, J, none⟩) := fun ids k => by rw [eI2]; simp
  have hfJ := hPl.f0 J
  have hwf : IntKind.i64.wrap (f J + 1) = f J + 1 := wrap_i64 (by omega)
  obtain ⟨g, eg⟩ : ∃ g, g = upd f J (f J + 1) := ⟨_, rfl⟩
  have hgJ : g J = f J + 1 := by rw [eg]; unfold upd; rw [if_pos rfl]
  have hback : upd g J (f J) = f := by rw [eg]; exact upd_back f J _
  have hA : IntKind.i64.wrap (g J - 1) = f J := by rw [hgJ, wrap_i64 (by omega)]; omega
  have hwk : IntKind.i64.wrap ((k : Int) + 1) = ((k + 1 : Nat) : Int) := by rw [wrap_i64 (by omega)]; omega
  refine need_k (0 ≤ IntKind.i64.wrap (IntKind.i64.wrap (1 + ifn .and .i64 c.sess 3) - 1) ∧ IntKind.i64.wrap (IntKind.i64.wrap (1 + ifn .and .i64 c.sess 3) - 1) < 4) (by kernel_rfl) bI ?_
  refine node_ldp ⟨[f J], [], [], [], []⟩ J (us := four f) rfl (Eq.trans (b := IntKind.i64.wrap (IntKind.i64.wrap (1 + ifn .and .i64 c.sess 3) - 1)) (by kernel_rfl) eI2) (by intros; kernel_rfl) (fun ids j u hj => g4 f hJ j u (Eq.trans (by kernel_rfl) hj)) (by kernel_rfl) oneNil ?_
  refine need_k (0 ≤ IntKind.i64.wrap (IntKind.i64.wrap (1 + ifn .and .i64 c.sess 3) - 1) ∧ IntKind.i64.wrap (IntKind.i64.wrap (1 + ifn .and .i64 c.sess 3) - 1) < 4) (by kernel_rfl) bI ?_
  refine node_stp (n := 1) (o := J) ⟨[g 0, g 1, g 2, g 3], [], [], [], []⟩ (us := four f) (us' := [.int .i64 (f J + 1)]) (v := .int .i64 (f J + 1)) rfl (by intros; kernel_rfl) (by kernel_rfl) (fun ids => Eq.trans (by kernel_rfl) (pJ ids 1)) (fun ids => by rw [← hwf]; kernel_rfl) rfl (fun v hv => by simp only [List.mem_singleton] at hv; subst hv; rfl) (by show 0 < 1; omega) (by show J + 1 ≤ 4; omega) rfl (fun ids => by rw [spl4 f _ hJ, ← eg]; kernel_rfl) (by kernel_rfl) (by kernel_rfl) oneNil ?_
  refine need_k (0 ≤ IntKind.i64.wrap (IntKind.i64.wrap (1 + ifn .and .i64 c.sess 3) - 1) ∧ IntKind.i64.wrap (IntKind.i64.wrap (1 + ifn .and .i64 c.sess 3) - 1) < 4) (by kernel_rfl) bI ?_
  refine node_ldp ⟨[g J], [], [], [], []⟩ J (us := four g) rfl (Eq.trans (b := IntKind.i64.wrap (IntKind.i64.wrap (1 + ifn .and .i64 c.sess 3) - 1)) (by kernel_rfl) eI2) (by intros; kernel_rfl) (fun ids j u hj => g4 g hJ j u (Eq.trans (by kernel_rfl) hj)) (by kernel_rfl) oneNil ?_
  obtain ⟨d, ed⟩ : ∃ d : CmD, d = ⟨(J : Int) + 1, g J, f J, c.op⟩ := ⟨_, rfl⟩
  have hd : ∀ F : CmD → Value, F ⟨IntKind.i64.wrap (1 + ifn .and .i64 c.sess 3), g J, IntKind.i64.wrap (g J - 1), c.op⟩ = F d := fun F => by rw [hS, hA, ed]
  refine node_P ⟨[cmdV d], [], [], [], []⟩ #[.agg d.cells.toArray] (.int .i64 (cmdV d)) (fun ids => Eq.trans (b := #[.agg (CmD.cells ⟨IntKind.i64.wrap (1 + ifn .and .i64 c.sess 3), g J, IntKind.i64.wrap (g J - 1), c.op⟩).toArray]) (by kernel_rfl) (by rw [hS, hA, ed])) (by intros; kernel_rfl) (by kernel_rfl) (by kernel_rfl) (by kernel_rfl) oneNil (fun ids w2 hp hf => rcmd_any d w2) ?_
  refine holds_env (ρ' := ⟨turned :: (imI (firstI [1, 2]) ++ ((k : Int) :: told :: (imI I ++ [f 0, f 1, f 2, f 3])) ++ c.is ++ [f J, g 0, g 1, g 2, g 3, g J, cmdV d]), [true], [], [cs.length, cp, 2, 2, 2, y1, 0, y2, 0, 0, 0, 0] ++ [hs.length, ch, evs.length, ce, I.mem.length, c1, I.tb.length, c2], [a, la, x1, x2, lb, lc] ++ [ah, ae, a1, a2]⟩) (by kernel_rfl) ?_
  refine br_B (cmdV d != 0) (by kernel_rfl) (fun hcv => ?_) (fun hcv => ?_)
  · refine need_k (0 ≤ IntKind.i64.wrap (IntKind.i64.wrap (1 + ifn .and .i64 c.sess 3) - 1) ∧ IntKind.i64.wrap (IntKind.i64.wrap (1 + ifn .and .i64 c.sess 3) - 1) < 4) (by kernel_rfl) bI ?_
    refine node_ldp ⟨[g J], [], [], [], []⟩ J (us := four g) rfl (Eq.trans (b := IntKind.i64.wrap (IntKind.i64.wrap (1 + ifn .and .i64 c.sess 3) - 1)) (by kernel_rfl) eI2) (by intros; kernel_rfl) (fun ids j u hj => g4 g hJ j u (Eq.trans (by kernel_rfl) hj)) (by kernel_rfl) oneNil ?_
    refine need_k (0 ≤ IntKind.i64.wrap (IntKind.i64.wrap (1 + ifn .and .i64 c.sess 3) - 1) ∧ IntKind.i64.wrap (IntKind.i64.wrap (1 + ifn .and .i64 c.sess 3) - 1) < 4) (by kernel_rfl) bI ?_
    refine node_stp (n := 1) (o := J) ⟨[f 0, f 1, f 2, f 3], [], [], [], []⟩ (us := four g) (us' := [.int .i64 (f J)]) (v := .int .i64 (f J)) rfl (by intros; kernel_rfl) (by kernel_rfl) (fun ids => Eq.trans (by kernel_rfl) (pJ ids 1)) (fun ids => Eq.trans (b := .int .i64 (IntKind.i64.wrap (g J - 1))) (by kernel_rfl) (by rw [hA])) rfl (fun v hv => by simp only [List.mem_singleton] at hv; subst hv; rfl) (by show 0 < 1; omega) (by show J + 1 ≤ 4; omega) rfl (fun ids => by rw [spl4 g _ hJ, hback]; kernel_rfl) (by kernel_rfl) (by kernel_rfl) oneNil ?_
    exact again_V ⟨IntKind.i64.wrap ((k : Int) + 1) :: told :: (imI I ++ [f 0, f 1, f 2, f 3]), [], [], [hs.length, ch, evs.length, ce, I.mem.length, c1, I.tb.length, c2], [ah, ae, a1, a2]⟩ rfl (by intros; kernel_rfl) _ (fun w2 ids hf => ⟨hf.x, hf.sep⟩) ⟨40 - (k + 1), by omega, k + 1, told, f, I, hs, L, evs, a1, c1, a2, c2, es, ah, ch, ae, ce, rfl, by omega, hSI, hPl.more, hevs, hes, hfit, by omega, ownV, ownE, by rw [hwk], rfl⟩
  have hcv : cmdV d = 0 := by simpa using hcv
  have htl : I.tb.length ≤ 4 := nos_few hSI.ok.1.tb.nos (fun s hs => hPl.fr.no s hs)
  have hds : d.sess = (J : Int) + 1 := by rw [ed]
  have hdq : d.seq = f J + 1 := by rw [ed, ← hgJ]
  have hda : d.ack = f J := by rw [ed]
  have eJ2 : (d.sess - 1).toNat = J := by omega
  obtain ⟨ok, aa, haa, hk1, hk3, _, htb⟩ := exec_one hSI.ok hcv (by omega) hPl.fr (by omega) ⟨by omega, by omega⟩ (by show 0 ≤ f (d.sess - 1).toNat; rw [eJ2]; omega) (by show f (d.sess - 1).toNat ≤ d.ack; rw [eJ2, hda]; exact Int.le_refl _)
  have hSI2 := hSI.step ok haa
  have hPl2 := hPl.step hJ hds hdq (a := aa) (fun Q' q1 q2 => (htb Q' q1 q2).1)
  rw [← eg] at hPl2
  obtain ⟨R, eR⟩ : ∃ R, R = execV I (I.sl + 1) (bt d) := ⟨_, rfl⟩
  rw [← eR] at ok haa hSI2 hPl2
  have hws : IntKind.i64.wrap (I.sl + 1) = I.sl + 1 := wrap_i64 (by omega)
  have hes2 : es.length ≤ 16 := by rw [es_len hes]; omega
  refine node_lit (t := 32) (e := 43) (len := 1) (sz := 8) (ccells [d]) #[(0, .agg d.cells.toArray)] (fun ids => Eq.trans (b := #[(0, .agg (CmD.cells ⟨IntKind.i64.wrap (1 + ifn .and .i64 c.sess 3), g J, IntKind.i64.wrap (g J - 1), c.op⟩).toArray)]) (by kernel_rfl) (by rw [hS, hA, ed])) (fun w => lit_cmd d w) rfl (by unfold maxLen; decide) (by intros; kernel_rfl) (by kernel_rfl) (by kernel_rfl) (by intros; kernel_rfl) ?_
  intro lk hlk
  refine holds_sub _ (hx' := ((((imX I a1 a2 c2 es).and (voAll hs)).and (vrow ah ch hs)).and (erow ae ce evs)).and (pvR ⟨bt d, lk, 1, none, 0⟩)) (fun w2 h => ⟨h.1, h.2, HX.rw_nil _ _ _ _⟩) (fun q hq => hq.elim .inl (fun q => q.elim .inr (fun q => absurd rfl q.1))) ?_
  have hpv : ∀ q, (pvR ⟨bt d, lk, 1, none, 0⟩).F q → w.heap.size ≤ q ∧ ¬ ((((imX I a1 a2 c2 es).and (voAll hs)).and (vrow ah ch hs)).and (erow ae ce evs)).F q := fun q hq => by
    rcases hq with hq | hq
    · exact hlk q hq.1 hq.2
    · exact absurd rfl hq.1
  refine node_ex (R := R) (fun _ => #[imV I a1 c1 a2 c2, .int .i64 (I.sl + 1), vlV (bt d) lk 1 none 0]) (fun ids => Eq.trans (b := #[imV I a1 c1 a2 c2, .int .i64 (IntKind.i64.wrap (I.sl + 1)), vlV (bt d) lk 1 none 0]) (by kernel_rfl) (by rw [hws])) (fun ids w2 hp hf => eR ▸ xexec_any I a1 c1 a2 c2 es (I.sl + 1) (bt d) lk 1 none 0 w2 (hSI.ok.fit.at_ hes hf.x.1.1.1.1) (by omega) hSI.ok.fit.len ((bt_fit d).at_ ⟨rw_cells hf.x.2.1, cl_nil _ _⟩)) (by intros; kernel_rfl) (by kernel_rfl) (by kernel_rfl) (by intros; kernel_rfl) ?_
  intro g1 h1 g2 h2 es2 oa oc hm2 hdj2 hsm2 hso2 hn2
  have hal : R.an.length = 1 := by rw [haa]; rfl
  have hoa : oa.isSome = true := hso2 (by rw [haa]; exact List.cons_ne_nil _ _)
  have hget : R.an[0]? = some aa := by rw [haa]; rfl
  refine br_F (R.e != 0) (by kernel_rfl) (by rw [ok.e]; rfl) ?_
  refine br_F ((R.an.length : Int) != 1) (by kernel_rfl) (by rw [hal]; rfl) ?_
  refine holds_env (ρ' := ⟨turned :: (imI (firstI [1, 2]) ++ ((k : Int) :: told :: (imI I ++ [f 0, f 1, f 2, f 3])) ++ c.is ++ [f J, g 0, g 1, g 2, g 3, g J, cmdV d] ++ (imI R.i ++ [R.e])), [true], [], [cs.length, cp, 2, 2, 2, y1, 0, y2, 0, 0, 0, 0] ++ [hs.length, ch, evs.length, ce, I.mem.length, c1, I.tb.length, c2] ++ [1, 1, R.i.mem.length, h1, R.i.tb.length, h2, R.an.length, oc], [a, la, x1, x2, lb, lc] ++ [ah, ae, a1, a2] ++ [lk, g1, g2, oa]⟩) (by kernel_rfl) ?_
  obtain ⟨P1, eP1⟩ : ∃ X, X = imX I a1 a2 c2 es := ⟨_, rfl⟩
  obtain ⟨EX, eEX⟩ : ∃ X, X = exX R g1 g2 h2 es2 oa := ⟨_, rfl⟩
  obtain ⟨z, ez⟩ : ∃ z : Vo Pv, z = ⟨I.sl + 1, 0, 0, ⟨bt d, lk, 1, none, 0⟩⟩ := ⟨_, rfl⟩
  have ezv : pvR ⟨bt d, lk, 1, none, 0⟩ = pvR z.v := by rw [ez]
  rw [ezv] at hpv hn2 ⊢
  rw [← eP1] at hpv ownV ownE hn2 ⊢
  rw [← eEX] at hn2 ⊢
  have exC : ∀ {w2 : World}, EX.X w2 → Cells w2 oa (ancells R.an) := fun h => by rw [eEX] at h; exact h.2
  have hvl2 : vlsOf (hs ++ [z]) = vlsOf hs ++ [⟨I.sl + 1, 0, 0, bt d⟩] := by unfold vlsOf; rw [List.map_append, ez]; rfl
  refine node_lit (t := 24) (e := 39) (len := 1) (sz := 6) (voC z) #[(0, .agg (voC z).toArray)] (fun ids => Eq.trans (b := #[(0, .agg (voC ⟨R.i.sl, 0, 0, ⟨bt d, lk, 1, none, 0⟩⟩).toArray)]) (by kernel_rfl) (by rw [ok.sl, ez])) (fun w => lit_vote z w) rfl (by unfold maxLen; decide) (by intros; kernel_rfl) (by kernel_rfl) (by kernel_rfl) (by intros; kernel_rfl) ?_
  intro lv hlv
  refine node_appends (e := 39) (sz := 6) (bytes := 80) (rest := (EX.and ((voAll hs).and (pvR z.v))).and (erow ae ce evs)) rfl Try.underlying24 info_vote rfl (by decide) ah hs.length ch (vocs hs) (fun _ => lv) 1 1 (voC z) rfl (fun ids w2 hp hf => hf.x.1.1.1.1.2) (fun ids w2 hp hf => rw_cells hf.x.2) (voC_one z) (fun w2 h => ⟨⟨⟨h.1.2, h.1.1.1.1.1.2, h.1.1.2⟩, h.1.1.1.2⟩, fun q hq => by
      rcases hq with (q1 | q2 | q3) | q4
      · exact .inl (.inr q1)
      · exact .inl (.inl (.inl (.inl (.inl (.inr q2)))))
      · exact .inl (.inl (.inr q3))
      · exact .inl (.inl (.inl (.inr q4)))⟩) (fun q i1 i2 => .inl (.inl (.inl (.inl (.inr ⟨i1, i2⟩))))) (fun q i1 i2 hq => by
      rcases hq with (q1 | q2 | q3) | q4
      · exact (hn2 q q1).2 (.inl (.inl (.inr ⟨i1, i2⟩)))
      · exact (ownV q ⟨i1, i2⟩).2 (.inr q2)
      · exact (hpv q q3).2 (.inl (.inr ⟨i1, i2⟩))
      · exact (ownE q q4).2 (.inr ⟨i1, i2⟩)) (fun q i1 i2 => .inl (ownV q ⟨i1, i2⟩).1) (by unfold maxLen; omega) (by omega) (by intros; kernel_rfl) (by intros; kernel_rfl) (by intros; kernel_rfl) (by kernel_rfl) (by kernel_rfl) (by intros; kernel_rfl) ?_
  intro ah2 ch2 _ hdA hwA
  have erA : HX.rw 6 39 ah2 (hs.length + 1) ch2 (vocs hs ++ voC z) = vrow ah2 ch2 (hs ++ [z]) := by unfold vrow; rw [vocs_snoc, List.length_append]; rfl
  refine holds_eq (congrArg _ erA) ?_
  have hA3 : ∀ q, (vrow ah2 ch2 (hs ++ [z])).F q → w.heap.size ≤ q := fun q hq => by
    rcases hwA q hq.1 hq.2 with ⟨y1, y2⟩ | y
    · exact (ownV q ⟨y1, y2⟩).1
    · exact y.1
  refine need_k (oa.isSome = true ∧ (0 : Int) ≤ 0 ∧ (0 : Int) < (R.an.length : Int)) (by kernel_rfl) ⟨hoa, by omega, by omega⟩ ?_
  refine node_ldk ⟨[aa.k, aa.re, aa.im], [], [], [], []⟩ (fun _ => .pointer (some (((oa.getD ⟨0, 0, none⟩).add (0 * 5)).add 2))) [.int .i64 aa.k, .int .i64 aa.re, .int .i64 aa.im] (by intros; kernel_rfl) (by intros; kernel_rfl) (fun ids w2 hp hf => (flat_part an_len (exC hf.x.1.1.1) hget (o := 2) [.int .i64 aa.k, .int .i64 aa.re, .int .i64 aa.im] (fun j u hj => by rcases j with _ | _ | _ | j; exact hj; exact hj; exact hj; cases hj) (by simp)).2 _ (fun q => q)) (by kernel_rfl) oneNil ?_
  obtain ⟨HJ, eHJ⟩ : ∃ X, X = ((EX.and ((voAll hs).and (pvR z.v))).and (erow ae ce evs)).and (vrow ah2 ch2 (hs ++ [z])) := ⟨_, rfl⟩
  rw [← eHJ]
  refine ⟨fun vs hx => ∃ r : Int, (r = aa.re ∨ (c.op.kind = 2 ∧ r = IntKind.i64.wrap (aa.re + 1))) ∧ vs = ⟨[aa.k, r, aa.im], [], [], [], []⟩ ∧ HJ = hx, ?_, ?_⟩
  · have nop : ∀ {m : Mem} {ρ : Env} {es : Vec} {S : Stack}, (∀ ids, es.den ρ ids = ⟨[aa.k, aa.re, aa.im], [], [], [], []⟩) → lkup 27 S = some (fun vs hx => ∃ r : Int, (r = aa.re ∨ (c.op.kind = 2 ∧ r = IntKind.i64.wrap (aa.re + 1))) ∧ vs = ⟨[aa.k, r, aa.im], [], [], [], []⟩ ∧ HJ = hx) → (Tree.again 27 es m).holds ⟨Try.prog, w, fun _ => False, PureAt w (.bool true)⟩ ρ [] HJ S := fun h1 h2 => again_V ⟨[aa.k, aa.re, aa.im], [], [], [], []⟩ h2 h1 _ (fun w2 ids hf => ⟨hf.x, hf.sep⟩) ⟨aa.re, .inl rfl, rfl, rfl⟩
    refine br_D (p := told = turned) (by kernel_rfl) (fun _ => ?_) (fun _ => nop (by intros; kernel_rfl) rfl)
    refine br_D (p := c.op.kind = 2) (by kernel_rfl) (fun h2 => ?_) (fun _ => nop (by intros; kernel_rfl) rfl)
    exact again_V ⟨[aa.k, IntKind.i64.wrap (aa.re + 1), aa.im], [], [], [], []⟩ rfl (by intros; kernel_rfl) _ (fun w2 ids hf => ⟨hf.x, hf.sep⟩) ⟨_, .inr ⟨h2, rfl⟩, rfl, rfl⟩
  rintro vs hx hcnt3 ⟨r, hr, rfl, rfl⟩
  rw [eHJ]
  have hek : ∀ F : CmD → Value, F ⟨IntKind.i64.wrap (1 + ifn .and .i64 c.sess 3), g J, f J, c.op⟩ = F d := fun F => by rw [hS, ed]
  refine node_lit (t := 45) (e := 66) (len := 2) (sz := 12) (evcs [evA d, evB d (aa.k, r, aa.im)]) #[(0, .agg (evA d).cells.toArray), (1, .agg (evB d (aa.k, r, aa.im)).cells.toArray)] (fun ids => Eq.trans (b := #[(0, .agg (evA ⟨IntKind.i64.wrap (1 + ifn .and .i64 c.sess 3), g J, f J, c.op⟩).cells.toArray), (1, .agg (evB ⟨IntKind.i64.wrap (1 + ifn .and .i64 c.sess 3), g J, f J, c.op⟩ (aa.k, r, aa.im)).cells.toArray)]) (by kernel_rfl) (by rw [hS, ed])) (fun w => lit_ev2 _ _ w) rfl (by unfold maxLen; decide) (by intros; kernel_rfl) (by kernel_rfl) (by kernel_rfl) (by intros; kernel_rfl) ?_
  intro le hle
  refine node_appends (e := 66) (sz := 12) (bytes := 96) (rest := (EX.and ((voAll hs).and (pvR z.v))).and (vrow ah2 ch2 (hs ++ [z]))) rfl (by kernel_rfl) info_ev rfl (by decide) ae evs.length ce (evcs evs) (fun _ => le) 2 2 (evcs [evA d, evB d (aa.k, r, aa.im)]) rfl (fun ids w2 hp hf => hf.x.1.1.2) (fun ids w2 hp hf => rw_cells hf.x.2) (ev_one _) (fun w2 h => ⟨⟨h.1.1.1, h.1.2⟩, fun q hq => by
      rcases hq with q1 | q2
      · exact .inl (.inl (.inl q1))
      · exact .inl (.inr q2)⟩) (fun q i1 i2 => .inl (.inl (.inr ⟨i1, i2⟩))) (fun q i1 i2 hq => by
      rcases hq with (q1 | q2 | q3) | q4
      · exact (hn2 q q1).2 (.inl (.inr ⟨i1, i2⟩))
      · exact (ownE q ⟨i1, i2⟩).2 (.inl (.inr q2))
      · exact (hpv q q3).2 (.inr ⟨i1, i2⟩)
      · exact hdA q q4.1 q4.2 (.inr ⟨i1, i2⟩)) (fun q i1 i2 => .inl (ownE q ⟨i1, i2⟩).1) (by unfold maxLen; omega) (by omega) (by intros; kernel_rfl) (by intros; kernel_rfl) (by intros; kernel_rfl) (by kernel_rfl) (by kernel_rfl) (by intros; kernel_rfl) ?_
  intro ae2 ce2 _ hdE hwE
  have erE : HX.rw 12 66 ae2 (evs.length + 2) ce2 (evcs evs ++ evcs [evA d, evB d (aa.k, r, aa.im)]) = erow ae2 ce2 (evs ++ [evA d, evB d (aa.k, r, aa.im)]) := by unfold erow; rw [evcs_snoc2, List.length_append]; rfl
  refine holds_eq (congrArg _ erE) ?_
  have hE3 : ∀ q, (erow ae2 ce2 (evs ++ [evA d, evB d (aa.k, r, aa.im)])).F q → w.heap.size ≤ q := fun q hq => by
    rcases hwE q hq.1 hq.2 with ⟨y1, y2⟩ | y
    · exact (ownE q ⟨y1, y2⟩).1
    · exact y.1
  refine need_k (oa.isSome = true ∧ (0 : Int) ≤ 0 ∧ (0 : Int) < (R.an.length : Int)) (by kernel_rfl) ⟨hoa, by omega, by omega⟩ ?_
  refine node_ldk ⟨[aa.k, aa.re, aa.im], [], [], [], []⟩ (fun _ => .pointer (some (((oa.getD ⟨0, 0, none⟩).add (0 * 5)).add 2))) [.int .i64 aa.k, .int .i64 aa.re, .int .i64 aa.im] (by intros; kernel_rfl) (by intros; kernel_rfl) (fun ids w2 hp hf => (flat_part an_len (exC hf.x.1.1.1) hget (o := 2) [.int .i64 aa.k, .int .i64 aa.re, .int .i64 aa.im] (fun j u hj => by rcases j with _ | _ | _ | j; exact hj; exact hj; exact hj; cases hj) (by simp)).2 _ (fun q => q)) (by kernel_rfl) oneNil ?_
  have hfit2 : ∀ x ∈ hs ++ [z], I64 x.s ∧ VlFit x.v.v := fun x hx => by
    rcases List.mem_append.1 hx with hx | hx
    · exact hfit x hx
    · rw [List.mem_singleton.1 hx, ez]
      exact ⟨by unfold I64; show _ ≤ I.sl + 1 ∧ I.sl + 1 ≤ _; omega, bt_fit d⟩
  have hkd : KyFit (itKey (d, aa)) := ⟨⟨by show _ ≤ d.sess; omega, by show d.sess ≤ _; omega⟩, by show _ ≤ d.seq; omega, by show d.seq ≤ _; omega⟩
  have hl1 : (hs ++ [z]).length = hs.length + 1 := by rw [List.length_append]; rfl
  have hl2 : (evs ++ [evA d, evB d (aa.k, r, aa.im)]).length = evs.length + 2 := by rw [List.length_append]; rfl
  have epv : (voAll hs).and (pvR z.v) = voAll (hs ++ [z]) := (voAll_snoc hs z).symm
  rw [epv] at hdA hdE ⊢
  refine br_B (!((aa.k == aa.k) && ((r == aa.re) && (aa.im == aa.im)))) (by kernel_rfl) (fun hne => ?_) (fun hne => ?_)
  · have hre : r ≠ aa.re := fun q => by rw [q] at hne; simp at hne
    have h2 : c.op.kind = 2 := by
      rcases hr with q | q
      · exact absurd q hre
      · exact q.1
    refine node_lit (t := 33) (e := 3) (len := 2) (sz := 1) [.int .i64 1, .int .i64 2] #[(0, .int .i64 1), (1, .int .i64 2)] (by intros; kernel_rfl) (fun w => lit_12 w) rfl (by unfold maxLen; decide) (by intros; kernel_rfl) (by kernel_rfl) (by kernel_rfl) (by intros; kernel_rfl) ?_
    intro ld hld
    refine node_vonew (hs ++ [z]) (fun _ => #[.slice ah2 (hs.length + 1) ch2]) (by intros; kernel_rfl) (fun ids w2 hp hf2 => by rw [← hl1]; exact copied_any ah2 ch2 (hs ++ [z]) w2 (vox_of ⟨hf2.x.1.1.1.2, hf2.x.1.1.2⟩) (fun x hx => (hfit2 x hx).2) (by omega)) (by intros; kernel_rfl) (by kernel_rfl) (by kernel_rfl) (by intros; kernel_rfl) ?_
    intro b2 d2 ys hv hfr
    refine node_PI ⟨[63], [], [], [], []⟩ (fun _ => #[.slice ld 2 2, .slice b2 ys.length d2, .slice ae2 (evs.length + 2) ce2, .bool false]) (.int .i64 63) (by intros; kernel_rfl) (by intros; kernel_rfl) (by kernel_rfl) (by kernel_rfl) (by kernel_rfl) oneNil (fun ids w2 hp hf => ?_) (pure_done (by intros; kernel_rfl))
    have hyl : ys.length = hs.length + 1 := by rw [← vlsOf_len ys, hv, vlsOf_len, hl1]
    have hky2 : ∀ e ∈ evs ++ [evA d, evB d (aa.k, r, aa.im)], KyFit e.key := fun e he => by
      rcases List.mem_append.1 he with he | he
      · exact hkys e he
      · simp only [List.mem_cons, List.not_mem_nil, or_false] at he
        rcases he with rfl | rfl
        · exact hkd
        · exact hkd
    have := jcheck_any ld 2 [1, 2] b2 d2 ys ae2 ce2 (evs ++ [evA d, evB d (aa.k, r, aa.im)]) false w2 (i12 (rw_cells hf.x.1.2)) (by decide) (vox_of hf.x.2) (fun x hx => (vls_fit hv hfit2 x hx).2) (by omega) (rw_cells hf.x.1.1.2) hky2 (by omega)
    rw [hv, hvl2, hSI2.check, hl2] at this
    have h0 := chk_wrong (L := L) (M := []) (z := (d, aa)) (r := (aa.k, r, aa.im)) (by rw [List.append_nil]; exact hPl2.keyed) hk3 hk3 (fun q => hre (congrArg (fun y => y.2.1) q)) (by show d.op.kind ≠ 1; rw [ed]; show c.op.kind ≠ 1; omega)
    rw [List.append_nil, ← hevs] at h0
    rw [h0] at this
    exact this
  · have hre : r = aa.re := by
      by_cases q : r = aa.re
      · exact q
      · exact absurd hne (by simp [q])
    have hev2 : evs ++ [evA d, evB d (aa.k, r, aa.im)] = evsOf (L ++ [(d, aa)]) := by rw [evsOf_snoc, hevs, hre]; rfl
    refine again_V ⟨IntKind.i64.wrap ((k : Int) + 1) :: IntKind.i64.wrap (told + 1) :: (imI R.i ++ [g 0, g 1, g 2, g 3]), [], [], [hs.length + 1, ch2, evs.length + 2, ce2, R.i.mem.length, h1, R.i.tb.length, h2], [ah2, ae2, g1, g2]⟩ rfl (by intros; kernel_rfl) ((((imX R.i g1 g2 h2 es2).and (voAll (hs ++ [z]))).and (vrow ah2 ch2 (hs ++ [z]))).and (erow ae2 ce2 (evs ++ [evA d, evB d (aa.k, r, aa.im)]))) (fun w2 ids hf => by
      rw [eEX] at hf
      exact ⟨⟨⟨⟨hf.x.1.1.1.1, hf.x.1.1.2⟩, hf.x.1.2⟩, hf.x.2⟩, fun j hj => hf.sep j (by
        rcases hj with ((y | y) | y) | y
        · exact .inl (.inl (.inl (.inl y)))
        · exact .inl (.inl (.inr y))
        · exact .inl (.inr y)
        · exact .inr y)⟩) ⟨40 - (k + 1), by omega, k + 1, _, g, R.i, hs ++ [z], L ++ [(d, aa)], evs ++ [evA d, evB d (aa.k, r, aa.im)], g1, h1, g2, h2, es2, ah2, ch2, ae2, ce2, rfl, by omega, by rw [hvl2]; exact hSI2, hPl2, hev2, hm2, hfit2, by omega, fun q hq => ⟨hA3 q hq, fun y => hdA q hq.1 hq.2 (.inl (by
          rcases y with y | y
          · rw [eEX]; exact .inl (.inl y)
          · exact .inr y))⟩, fun q hq => ⟨hE3 q hq, fun y => hdE q hq.1 hq.2 (by
          rcases y with (y | y) | y
          · rw [eEX]; exact .inl (.inl (.inl y))
          · exact .inl (.inr y)
          · exact .inr y)⟩, by rw [hwk, hl1, hl2], rfl⟩
theorem serial_args (a : Option Addr) (cap : Nat) (ds : List Dat) (turned : Int) (w : World) (hC : Cells w a (Dat.cellsAll ds)) (hds : ∀ d ∈ ds, d.In Try.prog w 43) (hl : ds.length ≤ 9223372036854775807) (hb : ds.length * Try.prog.bytesOf 43 ≤ reachBytes) (ht : I64 turned) :
    Calls Try.prog 5 #[.slice a ds.length cap, .int .i64 turned] w (PureAt w (.bool true)) := by
  obtain ⟨cs, rfl, hcs⟩ := list_map_of cmDat CmFit ds (fun d hd => opn_cmd (hds d hd))
  rw [dat_cells] at hC
  rw [List.length_map]
  exact serial_walk a cap cs turned w hC
end Go.Proofs.Ytbedoemdjlollaa
