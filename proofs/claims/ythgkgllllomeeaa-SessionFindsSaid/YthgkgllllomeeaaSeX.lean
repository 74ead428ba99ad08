/- The law SessionFull. -/
import Derived.Test.YthgkgllllomeeaaSeH
import Derived.Test.YthgkgllllomeeaaMask
namespace Go.Proofs.Ythgkgllllomeeaa
open Go.ChangeShapes Go.WideShapes Go.ChangeAt Go.RowKit Go.Syn Go.Eng
set_option linter.unusedVariables false
set_option linter.unusedSimpArgs false
set_option maxRecDepth 100000
/-! ### The plain law -/
def fullT : Nat → List SsD
  | 0 => []
  | k + 1 => keepV (askV (fullT k) (((k + 1 : Nat)) : Int) 1 0).t (((k + 1 : Nat)) : Int) 1 2 0 0
def fullC (k : Nat) : Bool := (askV (fullT k) (((k + 1 : Nat)) : Int) 1 0).d == decide (16 ≤ k) && (!(askV (fullT k) (((k + 1 : Nat)) : Int) 1 0).d || decide ((askV (fullT k) (((k + 1 : Nat)) : Int) 1 0).k = 5)) && decide ((fullT k).length = min k 16)
theorem full_all : (List.range 32).all fullC = true := by kernel_rfl
theorem full_at {k : Nat} (h : k < 32) : (askV (fullT k) (((k + 1 : Nat)) : Int) 1 0).d = decide (16 ≤ k) ∧ ((askV (fullT k) (((k + 1 : Nat)) : Int) 1 0).d = true → (askV (fullT k) (((k + 1 : Nat)) : Int) 1 0).k = 5) ∧ (fullT k).length = min k 16 := by
  have := List.all_eq_true.1 full_all k (List.mem_range.2 h)
  unfold fullC at this
  rw [Bool.and_eq_true, Bool.and_eq_true] at this
  refine ⟨eq_of_beq this.1.1, fun q => ?_, of_decide_eq_true this.2⟩
  have h2 := this.1.2
  rw [q] at h2
  exact of_decide_eq_true h2
theorem full_vt : ∀ k, k ≤ 1000 → VT (fullT k) ∧ VT (askV (fullT k) (((k + 1 : Nat)) : Int) 1 0).t := by
  intro k
  induction k with
  | zero => intro _; exact ⟨VT.nil, VT.nil.ask (by decide) (by decide) (by decide)⟩
  | succ k ih =>
    intro h
    have h1 : VT (fullT (k + 1)) := (ih (by omega)).2.keep (by decide) (by decide) (by decide)
    exact ⟨h1, h1.ask (by omega) (by omega) (by decide)⟩
def gS0 : SsD := ⟨1, 0, [⟨1, 2, 0, 0⟩]⟩
def fullH (k : Nat) : Bool := match fullT k with | [] => decide (k = 0) | s :: _ => decide (s.no = 1) && decide (s.ack = 0) && (match s.kept with | [x] => decide (x.seq = 1) && decide (x.kind = 2) && decide (x.re = 0) && decide (x.im = 0) | _ => false)
theorem full_hall : (List.range 32).all fullH = true := by kernel_rfl
theorem full_head {k : Nat} (h : k < 32) (h0 : k ≠ 0) : ∃ r, fullT k = gS0 :: r := by
  have := List.all_eq_true.1 full_hall k (List.mem_range.2 h)
  unfold fullH at this
  cases e : fullT k with
  | nil => rw [e] at this; exact absurd (of_decide_eq_true this) h0
  | cons s r =>
    rw [e] at this
    dsimp only at this
    rw [Bool.and_eq_true, Bool.and_eq_true] at this
    obtain ⟨⟨h1, h2⟩, h3⟩ := this
    obtain ⟨no, ack, kept⟩ := s
    cases kept with
    | nil => cases h3
    | cons x y =>
      cases y with
      | cons _ _ => cases h3
      | nil =>
        dsimp only at h3
        rw [Bool.and_eq_true, Bool.and_eq_true, Bool.and_eq_true] at h3
        obtain ⟨⟨⟨h4, h5⟩, h6⟩, h7⟩ := h3
        obtain ⟨a, b, c, d⟩ := x
        have := of_decide_eq_true h1; have := of_decide_eq_true h2; have := of_decide_eq_true h4; have := of_decide_eq_true h5; have := of_decide_eq_true h6; have := of_decide_eq_true h7
        dsimp only at *
        subst_vars
        exact ⟨r, rfl⟩
theorem pos_head (s : SsD) (r : List SsD) : posI (nosT (s :: r)) s.no = 0 ∧ hitI (nosT (s :: r)) s.no = true := by
  have h : posI (nosT (s :: r)) s.no = 0 := by
    unfold posI
    show ((s.no :: nosT r).takeWhile _).length = 0
    rw [List.takeWhile_cons, if_neg (by simp)]; rfl
  exact ⟨h, by rw [hit_iff, h]; rfl⟩
theorem ask_head (s : SsD) (r : List SsD) (seq ack : Int) : askV (s :: r) s.no seq ack = askS (updS ack s :: r) (updS ack s) seq := by
  obtain ⟨h1, h2⟩ := pos_head s r
  unfold askV
  rw [if_neg (by rw [h2]; rintro ⟨q, _⟩; cases q)]
  have : tabS (s :: r) s.no = s :: r := by unfold tabS; rw [if_pos h2]
  rw [this, h1]; rfl
def keepS (s : SsD) (seq k re im : Int) : SsD := if hitI (seqsK s.kept) seq = true ∨ seq ≤ s.ack ∨ 8 ≤ s.kept.length then s else ⟨s.no, s.ack, insAt s.kept (posI (seqsK s.kept) seq) ⟨seq, k, re, im⟩⟩
theorem keep_head (s : SsD) (r : List SsD) (seq k re im : Int) : keepV (s :: r) s.no seq k re im = keepS s seq k re im :: r := by
  obtain ⟨h1, h2⟩ := pos_head s r
  unfold keepV keepS
  rw [if_neg (by rw [h2]; decide), h1]
  show (if _ then s :: r else _ :: r) = _
  split <;> rfl
theorem askS_dk (t : List SsD) (s : SsD) (seq : Int) : (askS t s seq).d = (askS [] s seq).d ∧ (askS t s seq).k = (askS [] s seq).k := by
  unfold askS
  split
  · exact ⟨rfl, rfl⟩
  · split
    · split <;> exact ⟨rfl, rfl⟩
    · split <;> exact ⟨rfl, rfl⟩
theorem askS_eta (t : List SsD) (s : SsD) (seq : Int) : (askS t s seq).t = t := askS_t t s seq
def gS : Nat → SsD
  | 0 => gS0
  | j + 1 => keepS (updS 0 (gS j)) (((j + 2 : Nat)) : Int) 2 0 0
def gC (j : Nat) : Bool := (askS [] (updS 0 (gS j)) (((j + 2 : Nat)) : Int)).d == decide (8 ≤ j + 1) && (!(askS [] (updS 0 (gS j)) (((j + 2 : Nat)) : Int)).d || decide ((askS [] (updS 0 (gS j)) (((j + 2 : Nat)) : Int)).k = 6)) && decide ((gS j).no = 1) && decide ((gS j).kept.length = min (j + 1) 8) && !(askS [] (updS 1 (gS j)) 20).d
theorem g_all : (List.range 16).all gC = true := by kernel_rfl
theorem g_at {j : Nat} (h : j < 16) : (askS [] (updS 0 (gS j)) (((j + 2 : Nat)) : Int)).d = decide (8 ≤ j + 1) ∧ ((askS [] (updS 0 (gS j)) (((j + 2 : Nat)) : Int)).d = true → (askS [] (updS 0 (gS j)) (((j + 2 : Nat)) : Int)).k = 6) ∧ (gS j).no = 1 ∧ (gS j).kept.length = min (j + 1) 8 ∧ (askS [] (updS 1 (gS j)) 20).d = false := by
  have := List.all_eq_true.1 g_all j (List.mem_range.2 h)
  unfold gC at this
  rw [Bool.and_eq_true, Bool.and_eq_true, Bool.and_eq_true, Bool.and_eq_true] at this
  refine ⟨eq_of_beq this.1.1.1.1, fun q => ?_, of_decide_eq_true this.1.1.2, of_decide_eq_true this.1.2, by simpa using this.2⟩
  have h2 := this.1.1.1.2
  rw [q] at h2
  exact of_decide_eq_true h2
theorem g_step {j : Nat} (h : j < 16) (r : List SsD) : askV (gS j :: r) 1 (((j + 2 : Nat)) : Int) 0 = askS (updS 0 (gS j) :: r) (updS 0 (gS j)) (((j + 2 : Nat)) : Int) ∧ keepV (updS 0 (gS j) :: r) 1 (((j + 2 : Nat)) : Int) 2 0 0 = gS (j + 1) :: r := by
  have hn := (g_at h).2.2.1
  refine ⟨by have := ask_head (gS j) r (((j + 2 : Nat)) : Int) 0; rw [hn] at this; exact this, ?_⟩
  have := keep_head (updS 0 (gS j)) r (((j + 2 : Nat)) : Int) 2 0 0
  rw [show (updS 0 (gS j)).no = 1 from hn] at this
  exact this
/-! ### The walk -/
def F1I (n : Nat) (vs : Vals) (hx : HX) : Prop := ∃ (k : Nat) (a : Option Addr) (c : Nat) (es : List SE), k ≤ n ∧ es.map SE.s = fullT k ∧ vs = ⟨[((k + 1 : Nat) : Int)], [], [], [es.length, c], [a]⟩ ∧ hx = tabR a c es
def F2I (K : Nat) (r : List SsD) (vs : Vals) (hx : HX) : Prop := ∃ (j : Nat) (a : Option Addr) (c : Nat) (es : List SE), (j = 0 ∨ j + 1 ≤ K) ∧ es.map SE.s = gS j :: r ∧ vs = ⟨[((j + 2 : Nat) : Int)], [], [], [es.length, c], [a]⟩ ∧ hx = tabR a c es
theorem tab0 (a : Option Addr) (w : World) (ids : List Nat) : HXok (tabR a 0 []) w ids := ⟨⟨fun e he => by simp at he, HX.rw_nil _ _ _ _⟩, fun b hb => by
  rcases hb with ⟨e, he, _⟩ | ⟨h, _⟩
  · simp at he
  · exact absurd rfl h⟩
theorem hx_last {C : Cfg} {m : Mem} {ρ : Env} {ids : List Nat} {w : World} {hx h2 : HX} (hf : Facts C m ρ ids (hx.and h2) w) : HXok h2 w ids := ⟨hf.x.2, fun j hj => hf.sep j (.inr hj)⟩
set_option maxHeartbeats 4000000 in
theorem full_args (x y : Int) (w : World) (_ : I64 x) (_ : I64 y) : Calls Try.prog 5 #[.int .i64 x, .int .i64 y] w (PureAt w (.bool true)) := by
  refine calls_at (tab_ok _) Try.func5 rfl tFull (ρ := ⟨[x, y], [], [], [], []⟩) (ids := []) (hx := HX.nil) rfl (Facts.initP rfl oneNil) ?_
  have hx31 : 0 ≤ ifn .and .i64 x 31 ∧ ifn .and .i64 x 31 ≤ 31 := and_small (x := x) (n := 31) (by decide)
  have hy15 : 0 ≤ ifn .and .i64 y 15 ∧ ifn .and .i64 y 15 ≤ 15 := and_small (x := y) (n := 15) (by decide)
  obtain ⟨n, en⟩ : ∃ n : Nat, ifn .and .i64 x 31 = (n : Int) := ⟨(ifn .and .i64 x 31).toNat, by omega⟩
  obtain ⟨q, eq⟩ : ∃ q : Nat, ifn .and .i64 y 15 = (q : Int) := ⟨(ifn .and .i64 y 15).toNat, by omega⟩
  have hn : n ≤ 31 := by omega
  have hq : q ≤ 15 := by omega
  refine node_P ⟨[], [true], [], [], []⟩ #[] (.bool true) (by intros; kernel_rfl) (by intros; kernel_rfl) (by intros; kernel_rfl) (by intros; kernel_rfl) (by intros; kernel_rfl) oneNil (fun ids w2 hp hf => head_any w2) ?_
  refine br_f (by kernel_rfl) ?_
  refine loop_i (F1I n) (fun vs => 40 - (vs.i.headD 0).toNat) (fun ids w2 hp hf => ⟨tabR (some ⟨idAt ids 0, 0, none⟩) 0 [], tab0 _ _ _, 0, _, 0, [], Nat.zero_le _, rfl, by kernel_rfl, rfl⟩) ?_
  rintro vs hx' hcnt ⟨k, a, c, es, hk, hm, rfl, rfl⟩
  refine holds_env (ρ' := ⟨[x, y, ((k + 1 : Nat) : Int)], [true], [], [es.length, c], [a]⟩) (by kernel_rfl) ?_
  obtain ⟨hv1, hv2⟩ := full_vt k (by omega)
  obtain ⟨f1, f2, f3⟩ := full_at (show k < 32 by omega)
  have hes : es.length = min k 16 := by rw [← f3, ← hm, List.length_map]
  by_cases hlt : k < n
  · refine br_T (decide (((k + 1 : Nat) : Int) ≤ ifn .and .i64 x 31)) (by kernel_rfl) (decide_eq_true (by rw [en]; omega)) ?_
    refine node_cmd ((k + 1 : Nat) : Int) 1 0 (by intros; kernel_rfl) (by intros; kernel_rfl) (by kernel_rfl) (by kernel_rfl) (by kernel_rfl) ?_
    obtain ⟨R, eR⟩ : ∃ R, R = askV (fullT k) ((k + 1 : Nat) : Int) 1 0 := ⟨_, rfl⟩
    rw [← eR] at f1 f2 hv2
    refine node_ask (fun _ => a) es.length c es ((k + 1 : Nat) : Int) 1 0 1 0 0 0 0 R (by intros; kernel_rfl) rfl (fun ids w2 hp hf => tabR_at hf.x) (by rw [hm]; exact hv1.ok) (by rw [hm, eR]) (by intros; kernel_rfl) (by kernel_rfl) (by kernel_rfl) (by intros; kernel_rfl) ?_
    intro a1 c1 e1 hm1 _ _ _
    refine br_F (!(R.d == decide (((k + 1 : Nat) : Int) > 16))) (by kernel_rfl) (by rw [show R.d = decide (((k + 1 : Nat) : Int) > 16) by rw [f1]; exact decide_eq_decide.2 (by omega)]; simp) ?_
    have hwk : IntKind.i64.wrap (((k + 1 : Nat) : Int) + 1) = ((k + 1 + 1 : Nat) : Int) := by rw [wrap_i64 (by omega)]; omega
    have hkv : keepV (e1.map SE.s) ((k + 1 : Nat) : Int) 1 2 0 0 = fullT (k + 1) := by rw [hm1, eR]; rfl
    rcases Bool.eq_false_or_eq_true R.d with hd | hd
    · refine br_T R.d (by kernel_rfl) hd ?_
      refine br_F (R.k != 5) (by kernel_rfl) (by rw [f2 hd]; rfl) ?_
      refine node_cmd ((k + 1 : Nat) : Int) 1 0 (by intros; kernel_rfl) (by intros; kernel_rfl) (by kernel_rfl) (by kernel_rfl) (by kernel_rfl) ?_
      refine node_keep (fun _ => a1) e1.length c1 e1 ((k + 1 : Nat) : Int) 1 0 1 0 0 0 0 2 0 0 (fullT (k + 1)) (by intros; kernel_rfl) rfl (fun ids w2 hp hf => tabR_at hf.x.2) (by rw [hm1]; exact hv2.ok) hkv (by intros; kernel_rfl) (by kernel_rfl) (by kernel_rfl) (by intros; kernel_rfl) ?_
      intro a2 c2 e2 hm2 _ _ _
      exact again_V ⟨[((k + 1 + 1 : Nat) : Int)], [], [], [e2.length, c2], [a2]⟩ rfl (fun ids => Eq.trans (b := ⟨[IntKind.i64.wrap (((k + 1 : Nat) : Int) + 1)], [], [], [e2.length, c2], [a2]⟩) (by kernel_rfl) (by rw [hwk])) _ (fun w2 ids hf => hx_last hf) ⟨⟨k + 1, a2, c2, e2, by omega, hm2, rfl, rfl⟩, by
        show 40 - ((k + 1 + 1 : Nat) : Int).toNat < 40 - ((k + 1 : Nat) : Int).toNat
        omega⟩
    · refine br_F R.d (by kernel_rfl) hd ?_
      refine node_cmd ((k + 1 : Nat) : Int) 1 0 (by intros; kernel_rfl) (by intros; kernel_rfl) (by kernel_rfl) (by kernel_rfl) (by kernel_rfl) ?_
      refine node_keep (fun _ => a1) e1.length c1 e1 ((k + 1 : Nat) : Int) 1 0 1 0 0 0 0 2 0 0 (fullT (k + 1)) (by intros; kernel_rfl) rfl (fun ids w2 hp hf => tabR_at hf.x.2) (by rw [hm1]; exact hv2.ok) hkv (by intros; kernel_rfl) (by kernel_rfl) (by kernel_rfl) (by intros; kernel_rfl) ?_
      intro a2 c2 e2 hm2 _ _ _
      exact again_V ⟨[((k + 1 + 1 : Nat) : Int)], [], [], [e2.length, c2], [a2]⟩ rfl (fun ids => Eq.trans (b := ⟨[IntKind.i64.wrap (((k + 1 : Nat) : Int) + 1)], [], [], [e2.length, c2], [a2]⟩) (by kernel_rfl) (by rw [hwk])) _ (fun w2 ids hf => hx_last hf) ⟨⟨k + 1, a2, c2, e2, by omega, hm2, rfl, rfl⟩, by
        show 40 - ((k + 1 + 1 : Nat) : Int).toNat < 40 - ((k + 1 : Nat) : Int).toNat
        omega⟩
  obtain rfl : k = n := by omega
  refine br_F (decide (((k + 1 : Nat) : Int) ≤ ifn .and .i64 x 31)) (by kernel_rfl) (decide_eq_false (by rw [en]; omega)) ?_
  by_cases h0 : k = 0
  · refine br_T (ifn .and .i64 x 31 == 0) (by kernel_rfl) (by rw [en, h0]; rfl) ?_
    refine br_T (ifn .and .i64 x 31 == 0) (by kernel_rfl) (by rw [en, h0]; rfl) ?_
    refine node_valid (fun _ => a) es.length c es true (by intros; kernel_rfl) rfl (fun ids w2 hp hf => tabR_at hf.x) (by omega) (by rw [hm]; exact (validT_iff _).2 hv1) (by intros; kernel_rfl) (by kernel_rfl) (by kernel_rfl) (by kernel_rfl) ?_
    exact out_done (fun _ => id) (by intros; kernel_rfl)
  refine br_F (ifn .and .i64 x 31 == 0) (by kernel_rfl) (by rw [en]; exact beq_eq_false_iff_ne.2 (by omega)) ?_
  refine node_valid (fun _ => a) es.length c es true (by intros; kernel_rfl) rfl (fun ids w2 hp hf => tabR_at hf.x) (by omega) (by rw [hm]; exact (validT_iff _).2 hv1) (by intros; kernel_rfl) (by kernel_rfl) (by kernel_rfl) (by kernel_rfl) ?_
  refine br_f (by kernel_rfl) ?_
  refine br_F ((es.length : Int) != min (ifn .and .i64 x 31) 16) (by kernel_rfl) (by rw [en, hes]; simp; omega) ?_
  obtain ⟨r, hr⟩ := full_head (show k < 32 by omega) h0
  refine loop_i (F2I q r) (fun vs => 40 - (vs.i.headD 0).toNat) (fun ids w2 hp hf => ⟨tabR a c es, ⟨hf.x, hf.sep⟩, 0, a, c, es, .inl rfl, hm.trans hr, by kernel_rfl, rfl⟩) ?_
  rintro vs hx' hcnt2 ⟨j, b, d, fs, hj, hm2, rfl, rfl⟩
  refine holds_env (ρ' := ⟨[x, y, ((k + 1 : Nat) : Int), ((j + 2 : Nat) : Int)], [true, true], [], [es.length, c, fs.length, d], [a, b]⟩) (by kernel_rfl) ?_
  have hj16 : j < 16 := by omega
  obtain ⟨g1, g2, g3, g4, g5⟩ := g_at hj16
  obtain ⟨s1, s2⟩ := g_step hj16 r
  have hvj : ∀ i, i ≤ j → i < 16 → VT (gS i :: r) := fun i => by
    induction i with
    | zero => intro _ _; have := hv1; rw [hr] at this; exact this
    | succ i ih =>
      intro h1 h2
      have h3 := ih (by omega) (by omega)
      obtain ⟨s1, s2⟩ := g_step (show i < 16 by omega) r
      have h4 := h3.ask (sess := 1) (seq := ((i + 2 : Nat) : Int)) (ack := 0) (by decide) (by decide) (by decide)
      rw [s1, askS_t] at h4
      have h5 := h4.keep (sess := 1) (seq := ((i + 2 : Nat) : Int)) (k := 2) (re := 0) (im := 0) (by omega) (by decide) (by decide)
      rw [s2] at h5; exact h5
  have hvt := hvj j (Nat.le_refl _) hj16
  have hfs : fs.length ≤ 16 := by
    have := hvt.len
    rw [← hm2, List.length_map] at this; exact this
  by_cases hlt2 : j + 2 ≤ q
  · refine br_T (decide (((j + 2 : Nat) : Int) ≤ ifn .and .i64 y 15)) (by kernel_rfl) (decide_eq_true (by rw [eq]; omega)) ?_
    refine node_cmd 1 ((j + 2 : Nat) : Int) 0 (by intros; kernel_rfl) (by intros; kernel_rfl) (by kernel_rfl) (by kernel_rfl) (by kernel_rfl) ?_
    obtain ⟨R, eR⟩ : ∃ R, R = askV (gS j :: r) 1 ((j + 2 : Nat) : Int) 0 := ⟨_, rfl⟩
    have hRt : R.t = updS 0 (gS j) :: r := by rw [eR, s1, askS_t]
    have hRd : R.d = decide (8 ≤ j + 1) := by rw [eR, s1, (askS_dk _ _ _).1, g1]
    have hRk : R.d = true → R.k = 6 := fun z => by
      rw [eR, s1, (askS_dk _ _ _).2]
      rw [eR, s1, (askS_dk _ _ _).1] at z
      exact g2 z
    have hv2 : VT R.t := by rw [eR]; exact hvt.ask (by decide) (by decide) (by decide)
    refine node_ask (fun _ => b) fs.length d fs 1 ((j + 2 : Nat) : Int) 0 1 0 0 0 0 R (by intros; kernel_rfl) rfl (fun ids w2 hp hf => tabR_at hf.x) (by rw [hm2]; exact hvt.ok) (by rw [hm2, eR]) (by intros; kernel_rfl) (by kernel_rfl) (by kernel_rfl) (by intros; kernel_rfl) ?_
    intro a1 c1 e1 hm1 _ _ _
    refine br_F (!(R.d == decide (((j + 2 : Nat) : Int) > 8))) (by kernel_rfl) (by rw [show R.d = decide (((j + 2 : Nat) : Int) > 8) by rw [hRd]; exact decide_eq_decide.2 (by omega)]; simp) ?_
    have hwk : IntKind.i64.wrap (((j + 2 : Nat) : Int) + 1) = ((j + 1 + 2 : Nat) : Int) := by rw [wrap_i64 (by omega)]; omega
    have hkv : keepV (e1.map SE.s) 1 ((j + 2 : Nat) : Int) 2 0 0 = gS (j + 1) :: r := by rw [hm1, hRt, s2]
    rcases Bool.eq_false_or_eq_true R.d with hd | hd
    · refine br_T R.d (by kernel_rfl) hd ?_
      refine br_F (R.k != 6) (by kernel_rfl) (by rw [hRk hd]; rfl) ?_
      refine node_cmd 1 ((j + 2 : Nat) : Int) 0 (by intros; kernel_rfl) (by intros; kernel_rfl) (by kernel_rfl) (by kernel_rfl) (by kernel_rfl) ?_
      refine node_keep (fun _ => a1) e1.length c1 e1 1 ((j + 2 : Nat) : Int) 0 1 0 0 0 0 2 0 0 (gS (j + 1) :: r) (by intros; kernel_rfl) rfl (fun ids w2 hp hf => tabR_at hf.x.2) (by rw [hm1]; exact hv2.ok) hkv (by intros; kernel_rfl) (by kernel_rfl) (by kernel_rfl) (by intros; kernel_rfl) ?_
      intro a2 c2 e2 hm3 _ _ _
      exact again_V ⟨[((j + 1 + 2 : Nat) : Int)], [], [], [e2.length, c2], [a2]⟩ rfl (fun ids => Eq.trans (b := ⟨[IntKind.i64.wrap (((j + 2 : Nat) : Int) + 1)], [], [], [e2.length, c2], [a2]⟩) (by kernel_rfl) (by rw [hwk])) _ (fun w2 ids hf => hx_last hf) ⟨⟨j + 1, a2, c2, e2, .inr (by omega), hm3, rfl, rfl⟩, by
        show 40 - ((j + 1 + 2 : Nat) : Int).toNat < 40 - ((j + 2 : Nat) : Int).toNat
        omega⟩
    · refine br_F R.d (by kernel_rfl) hd ?_
      refine node_cmd 1 ((j + 2 : Nat) : Int) 0 (by intros; kernel_rfl) (by intros; kernel_rfl) (by kernel_rfl) (by kernel_rfl) (by kernel_rfl) ?_
      refine node_keep (fun _ => a1) e1.length c1 e1 1 ((j + 2 : Nat) : Int) 0 1 0 0 0 0 2 0 0 (gS (j + 1) :: r) (by intros; kernel_rfl) rfl (fun ids w2 hp hf => tabR_at hf.x.2) (by rw [hm1]; exact hv2.ok) hkv (by intros; kernel_rfl) (by kernel_rfl) (by kernel_rfl) (by intros; kernel_rfl) ?_
      intro a2 c2 e2 hm3 _ _ _
      exact again_V ⟨[((j + 1 + 2 : Nat) : Int)], [], [], [e2.length, c2], [a2]⟩ rfl (fun ids => Eq.trans (b := ⟨[IntKind.i64.wrap (((j + 2 : Nat) : Int) + 1)], [], [], [e2.length, c2], [a2]⟩) (by kernel_rfl) (by rw [hwk])) _ (fun w2 ids hf => hx_last hf) ⟨⟨j + 1, a2, c2, e2, .inr (by omega), hm3, rfl, rfl⟩, by
        show 40 - ((j + 1 + 2 : Nat) : Int).toNat < 40 - ((j + 2 : Nat) : Int).toNat
        omega⟩
  refine br_F (decide (((j + 2 : Nat) : Int) ≤ ifn .and .i64 y 15)) (by kernel_rfl) (decide_eq_false (by rw [eq]; omega)) ?_
  refine node_cmd 1 20 1 (by intros; kernel_rfl) (by intros; kernel_rfl) (by kernel_rfl) (by kernel_rfl) (by kernel_rfl) ?_
  obtain ⟨R, eR⟩ : ∃ R, R = askV (gS j :: r) 1 20 1 := ⟨_, rfl⟩
  have hRd : R.d = false := by
    have := ask_head (gS j) r 20 1
    rw [g3] at this
    rw [eR, this, (askS_dk _ _ _).1, g5]
  refine node_ask (fun _ => b) fs.length d fs 1 20 1 1 0 0 0 0 R (by intros; kernel_rfl) rfl (fun ids w2 hp hf => tabR_at hf.x) (by rw [hm2]; exact hvt.ok) (by rw [hm2, eR]) (by intros; kernel_rfl) (by kernel_rfl) (by kernel_rfl) (by intros; kernel_rfl) ?_
  intro a1 c1 e1 hm1 _ _ _
  obtain ⟨p1, p2⟩ := pos_head (gS j) r
  rw [g3] at p1 p2
  refine node_rwn (V := fun v => .tuple #[.agg #[.int .i64 (gS j).no, .int .i64 (gS j).ack, v], .bool true]) (sz := 4) (e := 48) (n := (gS j).kept.length) (xs := kcells (gS j).kept) (fun _ => #[.slice b fs.length d, .int .i64 1]) (fun a' c' => ⟨[(gS j).no, (gS j).ack], [true], [], [(gS j).kept.length, c'], [a']⟩) (by intros; kernel_rfl) (fun ids w2 hp hf => tfind_yes b d fs 1 w2 (tabR_at hf.x.1) (by rw [hm2]; exact hvt.ok) (by rw [hm2]; exact p2) (by rw [hm2, p1]; rfl)) (by intros; kernel_rfl) (by kernel_rfl) (by kernel_rfl) (by intros; kernel_rfl) (fun _ _ => oneNil) ?_
  intro a3 c3 _ _
  refine br_T (!R.d) (by kernel_rfl) (by rw [hRd]; rfl) (br_t (by kernel_rfl) ?_)
  refine out_done (fun _ => id) (fun ids => Eq.trans (b := .bool (((gS j).kept.length : Int) == max 1 (min (ifn .and .i64 y 15) 8))) (by kernel_rfl) ?_)
  rw [g4, eq]
  congr 1
  rw [beq_iff_eq]
  omega
end Go.Proofs.Ythgkgllllomeeaa
