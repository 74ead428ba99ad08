/- LeaseSafe: the walk. -/
import Derived.Test.YtnpjigeljhlomaaLsW
namespace Go.Proofs.Ytnpjigeljhlomaa
open Go.ChangeShapes Go.WideShapes Go.ChangeAt Go.RowKit Go.Syn Go.Eng
set_option linter.unusedVariables false
set_option linter.unusedSimpArgs false
set_option maxRecDepth 100000
theorem info_pt : (Try.prog.info? 25).map (fun i => (i.zero, i.size, i.bytes)) = some (some (.pointer none), 1, 8) := by kernel_rfl
theorem info_i : (Try.prog.info? 3).map (fun i => (i.zero, i.size, i.bytes)) = some (some (.int .i64 0), 1, 8) := by kernel_rfl
def lsX (row : HX) (ps : List Nat) (ah : Option Addr) (bm : Nat) (gs : List GrD) (mm : List (Int × Int)) : HX := (row.and (holdHX ah [1, 2, 3] bm mm)).and (gsX ps gs)
def LsI (a3 : Option Addr) (rho len hold : Int) (row : HX) (ps : List Nat) (ah : Option Addr) (bm : Nat) (vs : Vals) (hx : HX) : Prop := ∃ (k : Nat) (N0 N1 N2 N3 : Int) (gone : Bool) (gs : List GrD) (mm : List (Int × Int)), (k ≤ 100 ∧ a3.isSome = true) ∧
  vs = ⟨[(k : Int), N0, N1, N2, N3], [gone], [], [], []⟩ ∧ hx = lsX row ps ah bm gs mm ∧ LsS rho len hold k N0 N1 N2 N3 gs mm
def LsJ (rho len hold : Int) (row : HX) (ps : List Nat) (ah : Option Addr) (bm : Nat) (k : Nat) (vs : Vals) (hx : HX) : Prop := ∃ (N0 N1 N2 N3 : Int) (gone : Bool) (gs : List GrD) (mm : List (Int × Int)),
  vs = ⟨[N0, N1, N2, N3], [gone], [], [], []⟩ ∧ hx = lsX row ps ah bm gs mm ∧ LsS rho len hold k N0 N1 N2 N3 gs mm
def LsG (rho len hold : Int) (row : HX) (ps : List Nat) (ah : Option Addr) (bm : Nat) (k : Nat) (N0 N1 N2 N3 : Int) (vs : Vals) (hx : HX) : Prop := ∃ (gs : List GrD) (mm : List (Int × Int)),
  vs = ⟨[], [], [], [], []⟩ ∧ hx = lsX row ps ah bm gs mm ∧ LsS rho len hold k N0 N1 N2 N3 gs mm
def LsF (W : World) (rho len hold : Int) (row : HX) (ps : List Nat) (ah : Option Addr) (bm : Nat) (k : Nat) (N0 N1 N2 N3 : Int) (mm : List (Int × Int)) (vs : Vals) (hx : HX) : Prop := ∃ (j : Nat) (fs : List Int) (af : Option Addr) (cf : Nat) (gs : List GrD),
  1 ≤ j ∧ j ≤ 4 ∧ fs.length < j ∧ (∀ x ∈ fs, I64 x ∧ ∀ a, (x, a) ∈ mm → a + hold ≤ N0) ∧ (∀ i, cf ≠ 0 → abk af = some i → W.heap.size ≤ i ∧ ¬ (lsX row ps ah bm gs mm).F i) ∧
  vs = ⟨[(j : Int)], [], [], [fs.length, cf], [af]⟩ ∧ hx = (lsX row ps ah bm gs mm).and (HX.rw 1 3 af fs.length cf (fs.map (Value.int .i64))) ∧ LsS rho len hold k N0 N1 N2 N3 gs mm
theorem keeps_p (t x r : Int) (w : World) : Calls Try.prog 23 #[.int .i64 t, .int .i64 x, .int .i64 r] w (PureAt w (.bool (keepsB t x r))) := (keeps_any t x r w).mono fun e w' h => ⟨h.1, h.2 ▸ Below.refl _ _⟩
theorem onep {b : Nat} : ∀ v, v ∈ ([.pointer (some ⟨b, 0, none⟩)] : List Value) → v.oneCell' = true := fun v hv => by simp only [List.mem_singleton] at hv; subst hv; rfl
set_option maxHeartbeats 4000000 in
theorem lsafe_walk (len0 rho0 : Int) (a : Option Addr) (cap : Nat) (pcs : List PcD) (w : World) (HP : Cells w a (pccells pcs)) (hpl : pcs.length ≤ 9223372036854775807) :
    Calls Try.prog 6 #[.int .i64 len0, .int .i64 rho0, .slice a pcs.length cap] w (PureAt w (.bool true)) := by
  refine calls_at (tab_ok _) Try.func6 rfl tLSafe (ρ := ⟨[len0, rho0], [], [], [pcs.length, cap], [a]⟩) (ids := []) (hx := HX.nil) rfl (Facts.initP rfl oneNil) ?_
  obtain ⟨len, elen⟩ : ∃ x, x = ifn .and .i64 len0 63 := ⟨_, rfl⟩
  obtain ⟨rho, erho⟩ : ∃ x, x = ifn .and .i64 rho0 255 := ⟨_, rfl⟩
  have hl : 0 ≤ len ∧ len ≤ 63 := by rw [elen]; exact and_small (n := 63) (by decide)
  have hr : 0 ≤ rho ∧ rho ≤ 255 := by rw [erho]; exact and_small (n := 255) (by decide)
  obtain ⟨hold, ehold⟩ : ∃ x, x = holdV len rho := ⟨_, rfl⟩
  have hh := hold_le hl hr ehold
  refine node_pure ⟨[], [true], [], [], []⟩ rfl rfl rfl oneNil (fun ids w2 hp hf => lhead_any w2) ?_
  refine br_f rfl ?_
  refine node_hnew (ms := [1, 2, 3]) (fun ids => some ⟨idAt ids 2, 0, none⟩) 3 len rho (fun ids w hp hf => Ints.of_block [1, 2, 3] (by decide) (fun x hx => i64s (by simp at hx; omega)) (hf.blk 2 _ _ rfl)) (by decide) (fun _ => by rw [elen, erho]; kernel_rfl) rfl (by intros; kernel_rfl) (by kernel_rfl) (by kernel_rfl) (by intros; kernel_rfl) ?_
  rw [← ehold]
  intro ah ch bm hbm hnb hab
  obtain ⟨g0, eg0⟩ : ∃ g, g = newGr len 0 false := ⟨_, rfl⟩
  refine node_gnew (g := g0) #[.int .i64 len, .int .i64 0, .bool false] (fun _ => by rw [elen]; kernel_rfl) (fun w => by rw [eg0]; exact newGr_any len 0 false w) (by intros; kernel_rfl) (by kernel_rfl) (by kernel_rfl) (by intros; kernel_rfl) ?_
  intro b1 hb1 hn1
  refine node_pre (sz := 1) (bytes := 8) (e := 25) (z := .pointer none) (bn := 4) (k := 0) rfl Try.underlying53 info_pt rfl (by decide) [] (fun ids => some ⟨idAt ids 5, 0, none⟩) 1 1 [.pointer (some ⟨b1, 0, none⟩)] rfl (by intros; kernel_rfl) rfl rfl (by decide) (fun ids w hp hf => blk_cells (hf.blk 5 _ _ rfl)) (by decide) (by decide) (by intros; kernel_rfl) (by intros; kernel_rfl) (by intros; kernel_rfl) (by kernel_rfl) (by kernel_rfl) (by intros; kernel_rfl) ?_
  intro a1 c1 hr1
  refine node_gnew (g := g0) #[.int .i64 len, .int .i64 0, .bool false] (fun _ => by rw [elen]; kernel_rfl) (fun w => by rw [eg0]; exact newGr_any len 0 false w) (by intros; kernel_rfl) (by kernel_rfl) (by kernel_rfl) (by intros; kernel_rfl) ?_
  intro b2 hb2 hn2
  rw [HX.and_right_comm _ (HX.rw 1 25 a1 (0 + 1) c1 _) (gsX [b2] [g0])]
  refine node_pushs (sz := 1) (bytes := 8) (z := .pointer none) (vs := [.pointer (some ⟨b2, 0, none⟩)]) rfl Try.underlying53 info_pt rfl (by decide) a1 (0 + 1) c1 _ 6 (by intros; kernel_rfl) (by intros; kernel_rfl) rfl (by intros; kernel_rfl) rfl onep (fun k h1 h2 q => q.elim (fun q => (hr1 k h1 h2).2 q) (fun q => hn2 (.inr ⟨h1, by rw [h2]; exact congrArg some (List.mem_singleton.1 q)⟩))) (fun k h1 h2 => .inl (hr1 k h1 h2).1) (by decide) (by decide) (by intros; kernel_rfl) (by kernel_rfl) (by kernel_rfl) (by intros; kernel_rfl) ?_
  intro a2 c2 hc2 hr2 hor2
  have hf2 : ∀ k, abk a2 = some k → w.heap.size ≤ k := fun k h => by
    rcases hor2 with ⟨q1, q2⟩ | ⟨g, q1, q2, _⟩
    · exact (hr1 k q1 (q2 ▸ h)).1
    · rw [q1] at h; cases h; exact q2
  refine node_gnew (g := g0) #[.int .i64 len, .int .i64 0, .bool false] (fun _ => by rw [elen]; kernel_rfl) (fun w => by rw [eg0]; exact newGr_any len 0 false w) (by intros; kernel_rfl) (by kernel_rfl) (by kernel_rfl) (by intros; kernel_rfl) ?_
  intro b3 hb3 hn3
  rw [HX.and_right_comm _ (HX.rw 1 25 a2 (0 + 1 + 1) c2 _) (gsX [b3] [g0])]
  refine node_pushs (sz := 1) (bytes := 8) (z := .pointer none) (vs := [.pointer (some ⟨b3, 0, none⟩)]) rfl Try.underlying53 info_pt rfl (by decide) a2 (0 + 1 + 1) c2 _ 7 (by intros; kernel_rfl) (by intros; kernel_rfl) rfl (by intros; kernel_rfl) rfl onep (fun k h1 h2 q => q.elim (fun q => hr2 k h2 q) (fun q => hn3 (.inr ⟨h1, by rw [h2]; exact congrArg some (List.mem_singleton.1 q)⟩))) (fun k h1 h2 => .inl (hf2 k h2)) (by decide) (by decide) (by intros; kernel_rfl) (by kernel_rfl) (by kernel_rfl) (by intros; kernel_rfl) ?_
  intro a3 c3 hc3 hr3 hor3
  obtain ⟨row, erow⟩ : ∃ x, x = HX.nil.and (HX.rw 1 25 a3 3 c3 (pcells [b1, b2, b3])) := ⟨_, rfl⟩
  have m1 : ∀ k, k ∈ [b1, b2, b3] → w.heap.size ≤ k ∧ ¬ (holdHX ah [1, 2, 3] bm []).F k ∧ ¬ row.F k := fun k hk => by
    simp only [List.mem_cons, List.not_mem_nil, or_false] at hk
    have r3 : ∀ k, row.F k → ¬ ((((HX.nil.and (holdHX ah [1, 2, 3] bm [])).and (gsX [b1] [g0])).and (gsX [b2] [g0])).and (gsX [b3] [g0])).F k := fun k hk => by
      rw [erow] at hk
      rcases hk with hk | hk
      · exact hk.elim
      · exact hr3 k hk.2
    rcases hk with rfl | rfl | rfl
    · exact ⟨hb1, fun q => hn1 (.inr q), fun q => r3 _ q (.inl (.inl (.inr (List.mem_singleton.2 rfl))))⟩
    · exact ⟨hb2, fun q => hn2 (.inl (.inl (.inr q))), fun q => r3 _ q (.inl (.inr (List.mem_singleton.2 rfl)))⟩
    · exact ⟨hb3, fun q => hn3 (.inl (.inl (.inl (.inr q)))), fun q => r3 _ q (.inr (List.mem_singleton.2 rfl))⟩
  have hrb : ¬ row.F bm := fun hk => by
    rw [erow] at hk
    rcases hk with hk | hk
    · exact hk.elim
    · exact hr3 bm hk.2 (.inl (.inl (.inl (.inr (.inr rfl)))))
  have hnd : [b1, b2, b3].Nodup := by
    have n12 : b1 ≠ b2 := fun e => hn2 (.inl (.inr (List.mem_singleton.2 e.symm)))
    have n13 : b1 ≠ b3 := fun e => hn3 (.inl (.inl (.inr (List.mem_singleton.2 e.symm))))
    have n23 : b2 ≠ b3 := fun e => hn3 (.inl (.inr (List.mem_singleton.2 e.symm)))
    simp [n12, n13, n23]
  have hrc : ∀ {w2 : World}, row.X w2 → Cells w2 a3 (pcells [b1, b2, b3]) := fun h => by rw [erow] at h; exact rw_cells h.2
  refine loop_i (LsI a3 rho len hold row [b1, b2, b3] ah bm) (fun vs => 200 - (vs.i.headD 0).toNat) (fun ids w2 hp hf => ⟨lsX row [b1, b2, b3] ah bm [g0, g0, g0] [], ⟨⟨⟨?_, ?_⟩, ?_⟩, ?_⟩, 0, 0, 0, 0, 0, false, [g0, g0, g0], [], ⟨by omega, ?_⟩, rfl, rfl, ?_⟩) ?_
  · rw [erow]; exact ⟨trivial, hf.x.2⟩
  · exact hf.x.1.1.1.1.2
  · intro i b g hb hg
    have hg' : g = g0 := by
      have := List.mem_of_getElem? hg
      simp at this; exact this
    subst hg'
    match i, hb with
    | 0, hb => cases hb; exact hf.x.1.1.1.2 0 _ _ rfl rfl
    | 1, hb => cases hb; exact hf.x.1.1.2 0 _ _ rfl rfl
    | 2, hb => cases hb; exact hf.x.1.2 0 _ _ rfl rfl
  · intro k hk
    rcases hk with (hk | hk) | hk
    · rw [erow] at hk; exact hf.sep k (.inr (hk.elim (fun q => q.elim) id))
    · exact hf.sep k (.inl (.inl (.inl (.inl (.inr hk)))))
    · have hk' : k ∈ [b1, b2, b3] := hk
      simp only [List.mem_cons, List.not_mem_nil, or_false] at hk'
      rcases hk' with rfl | rfl | rfl
      · exact hf.sep _ (.inl (.inl (.inl (.inr (List.mem_singleton.2 rfl)))))
      · exact hf.sep _ (.inl (.inl (.inr (List.mem_singleton.2 rfl))))
      · exact hf.sep _ (.inl (.inr (List.mem_singleton.2 rfl)))
  · obtain ⟨g, cur, e, _⟩ := rw_open hf.x.2 hc3
    rw [e]; rfl
  · refine ⟨fun x hx => by simp at hx; omega, rfl, (fun p hp => by cases hp), Nat.le_refl _, fun i g hg => ?_⟩
    have hg' : g = g0 := by
      have := List.mem_of_getElem? hg
      simp at this; exact this
    have hi : i < 3 := by
      rcases Nat.lt_or_ge i 3 with q | q
      · exact q
      · rw [List.getElem?_eq_none q] at hg; cases hg
    rw [hg', eg0]
    refine ⟨?_, Int.le_refl _, (show (0 : Int) ≤ 1000000 by decide), ?_⟩
    · show max 0 (min len 1048576) = len
      omega
    · match i, hi with
      | 0, _ => exact ⟨0, rfl, fun a ha => by cases ha⟩
      | 1, _ => exact ⟨0, rfl, fun a ha => by cases ha⟩
      | 2, _ => exact ⟨0, rfl, fun a ha => by cases ha⟩
  rintro vs hx' hcnt ⟨k, N0, N1, N2, N3, gone, gs, mm, ⟨hk, hsm⟩, rfl, rfl, hS⟩
  refine holds_env (ρ' := ⟨[len0, rho0, hold, (k : Int), N0, N1, N2, N3], [true, gone], [.map (some bm), .pointer (some ⟨b1, 0, none⟩), .pointer (some ⟨b2, 0, none⟩), .pointer (some ⟨b3, 0, none⟩)], [pcs.length, cap, 3, ch, 1, c1, 2, c2, 3, c3], [a, ah, a1, a2, a3]⟩) (by kernel_rfl) ?_
  have hone : ∀ v, v ∈ [Value.map (some bm), .pointer (some ⟨b1, 0, none⟩), .pointer (some ⟨b2, 0, none⟩), .pointer (some ⟨b3, 0, none⟩)] → v.oneCell' = true := fun v hv => by
    simp only [List.mem_cons, List.not_mem_nil, or_false] at hv
    rcases hv with rfl | rfl | rfl | rfl <;> rfl
  by_cases hlt : k < pcs.length
  case neg => exact br_F (decide ((k : Int) < (pcs.length : Int))) (by kernel_rfl) (decide_eq_false (by omega)) (pure_done (by intros; kernel_rfl))
  refine br_T (decide ((k : Int) < (pcs.length : Int))) (by kernel_rfl) (decide_eq_true (by omega)) ?_
  by_cases hlt2 : k < 100
  case neg => exact br_F (decide ((k : Int) < 100)) (by kernel_rfl) (decide_eq_false (by omega)) (pure_done (by intros; kernel_rfl))
  refine br_T (decide ((k : Int) < 100)) (by kernel_rfl) (decide_eq_true (by omega)) ?_
  have hwk : IntKind.i64.wrap ((k : Int) + 1) = ((k + 1 : Nat) : Int) := by rw [wrap_i64 (by omega)]; omega
  refine ⟨LsJ rho len hold row [b1, b2, b3] ah bm (k + 1), ?_, ?_⟩
  case refine_2 =>
    rintro vs hx' hcnt2 ⟨M0, M1, M2, M3, gn, gs2, mm2, rfl, rfl, hS2⟩
    refine again_V ⟨[((k + 1 : Nat) : Int), M0, M1, M2, M3], [gn], [], [], []⟩ rfl (fun ids => Eq.trans (b := ⟨[IntKind.i64.wrap ((k : Int) + 1), M0, M1, M2, M3], [gn], [], [], []⟩) (by kernel_rfl) (by rw [hwk])) _ (fun w2 ids hf => ⟨hf.x, hf.sep⟩) ⟨⟨k + 1, M0, M1, M2, M3, gn, gs2, mm2, ⟨by omega, hsm⟩, rfl, rfl, hS2⟩, ?_⟩
    show 200 - (((k + 1 : Nat) : Int)).toNat < 200 - ((k : Int)).toNat
    omega
  obtain ⟨p, hpk⟩ : ∃ p, pcs[k]? = some p := ⟨_, List.getElem?_eq_getElem hlt⟩
  obtain ⟨s1, q1⟩ := pc_elt HP hpk
  refine need_k (a.isSome = true ∧ (0 : Int) ≤ k ∧ (k : Int) < pcs.length) (by kernel_rfl) ⟨s1, by omega, by omega⟩ ?_
  refine node_ld0 (k := ⟨8, 2, 4, 10, 5⟩) ⟨[p.time, p.t0, p.t1, p.t2, p.t3, p.ask, p.tg], [p.lost], [], [], []⟩ (.pointer (some (((a.getD ⟨0, 0, none⟩).add (k * 8)).add 0))) p.cells (by intros; kernel_rfl) (by intros; kernel_rfl) (q1 _ (fun q => q)) ⟨rfl, hone⟩ (by kernel_rfl) oneNil ?_
  by_cases z1 : p.time < 0
  · exact br_T (decide (p.time < 0)) (by kernel_rfl) (decide_eq_true z1) (pure_done (by intros; kernel_rfl))
  refine br_F (decide (p.time < 0)) (by kernel_rfl) (decide_eq_false z1) ?_
  by_cases z2 : p.time > 1000
  · exact br_T (decide (p.time > 1000)) (by kernel_rfl) (decide_eq_true z2) (pure_done (by intros; kernel_rfl))
  refine br_F (decide (p.time > 1000)) (by kernel_rfl) (decide_eq_false z2) ?_
  refine node_P ⟨[], [keepsB p.time p.t0 rho], [], [], []⟩ #[.int .i64 p.time, .int .i64 p.t0, .int .i64 rho] (.bool (keepsB p.time p.t0 rho)) (fun _ => by rw [erho]; kernel_rfl) (by intros; kernel_rfl) (by intros; kernel_rfl) (by intros; kernel_rfl) (by intros; kernel_rfl) oneNil (fun ids w2 hp hf => keeps_p _ _ _ w2) ?_
  by_cases y0 : keepsB p.time p.t0 rho = true
  case neg => exact br_T (!(keepsB p.time p.t0 rho)) (by kernel_rfl) (by simpa using y0) (pure_done (by intros; kernel_rfl))
  refine br_F (!(keepsB p.time p.t0 rho)) (by kernel_rfl) (by rw [y0]; rfl) ?_
  refine br_F (decide (p.time < 0)) (by kernel_rfl) (decide_eq_false z1) (br_F (decide (p.time > 1000)) (by kernel_rfl) (decide_eq_false z2) ?_)
  refine node_P ⟨[], [keepsB p.time p.t1 rho], [], [], []⟩ #[.int .i64 p.time, .int .i64 p.t1, .int .i64 rho] (.bool (keepsB p.time p.t1 rho)) (fun _ => by rw [erho]; kernel_rfl) (by intros; kernel_rfl) (by intros; kernel_rfl) (by intros; kernel_rfl) (by intros; kernel_rfl) oneNil (fun ids w2 hp hf => keeps_p _ _ _ w2) ?_
  by_cases y1 : keepsB p.time p.t1 rho = true
  case neg => exact br_T (!(keepsB p.time p.t1 rho)) (by kernel_rfl) (by simpa using y1) (pure_done (by intros; kernel_rfl))
  refine br_F (!(keepsB p.time p.t1 rho)) (by kernel_rfl) (by rw [y1]; rfl) ?_
  refine br_F (decide (p.time < 0)) (by kernel_rfl) (decide_eq_false z1) (br_F (decide (p.time > 1000)) (by kernel_rfl) (decide_eq_false z2) ?_)
  refine node_P ⟨[], [keepsB p.time p.t2 rho], [], [], []⟩ #[.int .i64 p.time, .int .i64 p.t2, .int .i64 rho] (.bool (keepsB p.time p.t2 rho)) (fun _ => by rw [erho]; kernel_rfl) (by intros; kernel_rfl) (by intros; kernel_rfl) (by intros; kernel_rfl) (by intros; kernel_rfl) oneNil (fun ids w2 hp hf => keeps_p _ _ _ w2) ?_
  by_cases y2 : keepsB p.time p.t2 rho = true
  case neg => exact br_T (!(keepsB p.time p.t2 rho)) (by kernel_rfl) (by simpa using y2) (pure_done (by intros; kernel_rfl))
  refine br_F (!(keepsB p.time p.t2 rho)) (by kernel_rfl) (by rw [y2]; rfl) ?_
  refine br_F (decide (p.time < 0)) (by kernel_rfl) (decide_eq_false z1) (br_F (decide (p.time > 1000)) (by kernel_rfl) (decide_eq_false z2) ?_)
  refine node_P ⟨[], [keepsB p.time p.t3 rho], [], [], []⟩ #[.int .i64 p.time, .int .i64 p.t3, .int .i64 rho] (.bool (keepsB p.time p.t3 rho)) (fun _ => by rw [erho]; kernel_rfl) (by intros; kernel_rfl) (by intros; kernel_rfl) (by intros; kernel_rfl) (by intros; kernel_rfl) oneNil (fun ids w2 hp hf => keeps_p _ _ _ w2) ?_
  by_cases y3 : keepsB p.time p.t3 rho = true
  case neg => exact br_T (!(keepsB p.time p.t3 rho)) (by kernel_rfl) (by simpa using y3) (pure_done (by intros; kernel_rfl))
  refine br_F (!(keepsB p.time p.t3 rho)) (by kernel_rfl) (by rw [y3]; rfl) ?_
  have hS1 := hS.pace hr.2 (by omega) y0 y1 y2 y3
  obtain ⟨M0, eM0⟩ : ∃ x, x = N0 + p.t0 := ⟨_, rfl⟩
  obtain ⟨M1, eM1⟩ : ∃ x, x = N1 + p.t1 := ⟨_, rfl⟩
  obtain ⟨M2, eM2⟩ : ∃ x, x = N2 + p.t2 := ⟨_, rfl⟩
  obtain ⟨M3, eM3⟩ : ∃ x, x = N3 + p.t3 := ⟨_, rfl⟩
  rw [← eM0, ← eM1, ← eM2, ← eM3] at hS1
  have i0 := hS1.b M0 (by simp)
  have i1 := hS1.b M1 (by simp)
  have i2 := hS1.b M2 (by simp)
  have i3 := hS1.b M3 (by simp)
  have wM0 : IntKind.i64.wrap (N0 + p.t0) = M0 := by rw [← eM0, wrap_i64 (by omega)]
  have wM1 : IntKind.i64.wrap (N1 + p.t1) = M1 := by rw [← eM1, wrap_i64 (by omega)]
  have wM2 : IntKind.i64.wrap (N2 + p.t2) = M2 := by rw [← eM2, wrap_i64 (by omega)]
  have wM3 : IntKind.i64.wrap (N3 + p.t3) = M3 := by rw [← eM3, wrap_i64 (by omega)]
  have i64m : ∀ {x : Int}, 0 ≤ x ∧ x ≤ 2000 * ((k + 1 : Nat) : Int) → I64 x := fun h => by unfold I64; omega
  refine holds_env (ρ' := ⟨[len0, rho0, hold, (k : Int), N0, N1, N2, N3, p.time, p.t0, p.t1, p.t2, p.t3, p.ask, p.tg], [true, gone, p.lost, keepsB p.time p.t0 rho, keepsB p.time p.t1 rho, keepsB p.time p.t2 rho, keepsB p.time p.t3 rho], [.map (some bm), .pointer (some ⟨b1, 0, none⟩), .pointer (some ⟨b2, 0, none⟩), .pointer (some ⟨b3, 0, none⟩)], [pcs.length, cap, 3, ch, 1, c1, 2, c2, 3, c3], [a, ah, a1, a2, a3]⟩) (by kernel_rfl) ?_
  refine ⟨LsG rho len hold row [b1, b2, b3] ah bm (k + 1) M0 M1 M2 M3, ?_, ?_⟩
  · have leave : LsG rho len hold row [b1, b2, b3] ah bm (k + 1) M0 M1 M2 M3 ⟨[], [], [], [], []⟩ (lsX row [b1, b2, b3] ah bm gs mm) := ⟨gs, mm, rfl, rfl, hS1⟩
    obtain ⟨n, en⟩ : ∃ x, x = ifn .and .i64 p.ask 3 := ⟨_, rfl⟩
    have hn : 0 ≤ n ∧ n ≤ 3 := by rw [en]; exact and_small (n := 3) (by decide)
    by_cases hn0 : n > 0
    case neg => exact br_F (decide (n > 0)) (by rw [en]; kernel_rfl) (decide_eq_false hn0) (again_V ⟨[], [], [], [], []⟩ rfl (by intros; kernel_rfl) _ (fun w2 ids hf => ⟨hf.x, hf.sep⟩) leave)
    refine br_T (decide (n > 0)) (by rw [en]; kernel_rfl) (decide_eq_true hn0) ?_
    by_cases hgn : gone = true
    · exact br_F (!gone) (by kernel_rfl) (by rw [hgn]; rfl) (again_V ⟨[], [], [], [], []⟩ rfl (by intros; kernel_rfl) _ (fun w2 ids hf => ⟨hf.x, hf.sep⟩) leave)
    refine br_T (!gone) (by kernel_rfl) (by simpa using hgn) ?_
    obtain ⟨i, hi⟩ : ∃ i : Nat, n = ((i + 1 : Nat) : Int) := ⟨(n - 1).toNat, by omega⟩
    have hi3 : i < 3 := by omega
    obtain ⟨b, hb⟩ : ∃ b, [b1, b2, b3][i]? = some b := ⟨_, List.getElem?_eq_getElem hi3⟩
    obtain ⟨g, hg⟩ : ∃ g, gs[i]? = some g := ⟨_, List.getElem?_eq_getElem (by rw [hS1.gl]; exact hi3)⟩
    obtain ⟨g1, g2, g3, N, g4, g5⟩ := hS1.g i g hg
    have hgo : g.ok := ⟨by omega, by omega, ⟨by omega, by omega⟩⟩
    have hN : 0 ≤ N ∧ N ≤ 2000 * ((k + 1 : Nat) : Int) := hS1.b N (List.mem_cons_of_mem _ (List.mem_of_getElem? g4))
    have hsub : IntKind.i64.wrap (n - 1) = (i : Int) := by rw [hi, wrap_i64 (by omega)]; omega
    refine need_k (a3.isSome = true ∧ 0 ≤ IntKind.i64.wrap (ifn .and .i64 p.ask 3 - 1) ∧ IntKind.i64.wrap (ifn .and .i64 p.ask 3 - 1) < 3) (by kernel_rfl) ⟨hsm, by rw [← en, hsub]; omega, by rw [← en, hsub]; omega⟩ ?_
    refine need_k (0 ≤ ifn .and .i64 p.ask 3 ∧ ifn .and .i64 p.ask 3 < 4) (by kernel_rfl) (by rw [← en]; omega) ?_
    obtain ⟨VP, eVP⟩ : ∃ V : Value, V = .pointer (some (((a3.getD ⟨0, 0, none⟩).add ((IntKind.i64.wrap (ifn .and .i64 p.ask 3 - 1)).toNat * 1)).add 0)) := ⟨_, rfl⟩
    have hld : ∀ {m : Mem} {ρ : Env} {ids : List Nat} {w2 : World} {R : Ending → World → Prop}, Facts ⟨Try.prog, w, fun _ => False, R⟩ m ρ ids (lsX row [b1, b2, b3] ah bm gs mm) w2 → CellsAt w2 VP [.pointer (some ⟨b, 0, none⟩)] (fun _ => False) := fun hf => by
      rw [eVP, ← en, hsub]
      exact (p_elt (hrc hf.x.1.1) hb).2 _ (fun q => q)
    have hpx : ∀ (j : Nat) u, [Value.int .i64 N][j]? = some u → [Value.int .i64 M0, .int .i64 M1, .int .i64 M2, .int .i64 M3][0 + (i + 1) * 1 + j]? = some u := fun j u hj => by
      cases j with
      | succ j => simp at hj
      | zero =>
        simp only [List.getElem?_cons_zero, Option.some.injEq] at hj
        subst hj
        match i, g4 with
        | 0, g4 => cases g4; rfl
        | 1, g4 => cases g4; rfl
        | 2, g4 => cases g4; rfl
    have hwM : [Value.int .i64 (IntKind.i64.wrap (N0 + p.t0)), .int .i64 (IntKind.i64.wrap (N1 + p.t1)), .int .i64 (IntKind.i64.wrap (N2 + p.t2)), .int .i64 (IntKind.i64.wrap (N3 + p.t3))] = [Value.int .i64 M0, .int .i64 M1, .int .i64 M2, .int .i64 M3] := by rw [wM0, wM1, wM2, wM3]
    refine par_i (node_ldk ⟨[], [], [.pointer (some ⟨b, 0, none⟩)], [], []⟩ (fun _ => VP) [.pointer (some ⟨b, 0, none⟩)] (by rw [eVP]; intros; kernel_rfl) (by intros; kernel_rfl) (fun ids w2 hp hf => hld hf) (by kernel_rfl) onep (node_ldp (i := i + 1) (us := [Value.int .i64 M0, .int .i64 M1, .int .i64 M2, .int .i64 M3]) ⟨[N], [], [], [], []⟩ rfl (by rw [← hi, en]; kernel_rfl) (fun ids => Eq.trans (b := [Value.int .i64 (IntKind.i64.wrap (N0 + p.t0)), .int .i64 (IntKind.i64.wrap (N1 + p.t1)), .int .i64 (IntKind.i64.wrap (N2 + p.t2)), .int .i64 (IntKind.i64.wrap (N3 + p.t3))]) (by kernel_rfl) hwM) (fun ids j u hj => hpx j u hj) (by kernel_rfl) oneNil ?_)) (node_ldp (i := i + 1) (us := [Value.int .i64 M0, .int .i64 M1, .int .i64 M2, .int .i64 M3]) ⟨[N], [], [], [], []⟩ rfl (by rw [← hi, en]; kernel_rfl) (fun ids => Eq.trans (b := [Value.int .i64 (IntKind.i64.wrap (N0 + p.t0)), .int .i64 (IntKind.i64.wrap (N1 + p.t1)), .int .i64 (IntKind.i64.wrap (N2 + p.t2)), .int .i64 (IntKind.i64.wrap (N3 + p.t3))]) (by kernel_rfl) hwM) (fun ids j u hj => hpx j u hj) (by kernel_rfl) oneNil (node_ldk ⟨[], [], [.pointer (some ⟨b, 0, none⟩)], [], []⟩ (fun _ => VP) [.pointer (some ⟨b, 0, none⟩)] (by rw [eVP]; intros; kernel_rfl) (by intros; kernel_rfl) (fun ids w2 hp hf => hld hf) (by kernel_rfl) onep ?_))
    all_goals
      refine node_gs i (g := g) (g' := grantV g 1 1 N) (V := .bool (grantB g 1 1 N)) #[.pointer (some ⟨b, 0, none⟩), .agg #[.int .i64 1, .int .i64 1], .int .i64 N] ⟨[], [grantB g 1 1 N], [], [], []⟩ hb hg hnd (fun k hk q => q.elim (m1 k hk).2.2 (m1 k hk).2.1) (fun k hk => (m1 k hk).1) (by intros; kernel_rfl) (fun w2 hB => grant_any b g 1 1 N w2 hgo (i64m hN) hB) (by intros; kernel_rfl) (by kernel_rfl) (by kernel_rfl) (by kernel_rfl) oneNil ?_
      have hgl : (grantV g 1 1 N).length = len := by rw [grantV_len]; exact g1
      have hgs : 0 ≤ (grantV g 1 1 N).since ∧ (grantV g 1 1 N).since ≤ 1000000 := by
        unfold grantV
        split
        · show 0 ≤ N ∧ N ≤ 1000000
          omega
        · exact barsV_since ⟨g2, g3⟩ ⟨hN.1, by omega⟩
      have hset : LsS rho len hold (k + 1) M0 M1 M2 M3 (gs.set i (grantV g 1 1 N)) mm := hS1.set i hgl hgs hS1.mb hS1.ml (fun j N g _ h => h) ⟨N, g4, g5.grant hl hr ehold g1⟩
      by_cases hgb : grantB g 1 1 N = true
      case neg => exact br_F (grantB g 1 1 N) (by kernel_rfl) (by simpa using hgb) (again_V ⟨[], [], [], [], []⟩ rfl (by intros; kernel_rfl) _ (fun w2 ids hf => ⟨hf.x, hf.sep⟩) ⟨_, mm, rfl, rfl, hset⟩)
      refine br_T (grantB g 1 1 N) (by kernel_rfl) hgb ?_
      by_cases hlo : p.lost = true
      · exact br_F (!p.lost) (by kernel_rfl) (by rw [hlo]; rfl) (again_V ⟨[], [], [], [], []⟩ rfl (by intros; kernel_rfl) _ (fun w2 ids hf => ⟨hf.x, hf.sep⟩) ⟨_, mm, rfl, rfl, hset⟩)
      refine br_T (!p.lost) (by kernel_rfl) (by simpa using hlo) ?_
      refine holds_eq (HX.and_right_comm _ _ _) ?_
      refine node_hgranted (cap := ch) (ms := [1, 2, 3]) (mm := mm) (hold := hold) 3 n M0 (fun ids => Eq.trans (b := #[.pointer (some ⟨idAt ids 3, 0, none⟩), .int .i64 (ifn .and .i64 p.ask 3), .int .i64 (IntKind.i64.wrap (N0 + p.t0))]) (by kernel_rfl) (by rw [← en, wM0])) rfl (by intros; kernel_rfl) hab (fun q => q.elim hrb (fun q => (m1 bm q).2.1 (.inr rfl))) (.inl hbm) (by intros; kernel_rfl) (by kernel_rfl) (by kernel_rfl) (by kernel_rfl) ?_
      refine holds_eq (HX.and_right_comm _ _ _) ?_
      refine again_V ⟨[], [], [], [], []⟩ rfl (by intros; kernel_rfl) _ (fun w2 ids hf => ⟨hf.x, hf.sep⟩) ⟨gs.set i (grantV g 1 1 N), hgrantV [1, 2, 3] mm n M0, rfl, rfl, ?_⟩
      refine hS1.set i hgl hgs (fun q hq => ?_) ?_ (fun j N g hj h => h.other (fun q => hj (by omega))) ⟨N, g4, by rw [hi]; exact g5.told hr hgb⟩
      · obtain ⟨q1, q2⟩ := q
        rcases hgrant_mem hq with ⟨rfl, rfl⟩ | hq
        · refine ⟨hn.1, hn.2, i0.1, ?_⟩
          omega
        · exact hS1.mb _ hq
      · have := hgrantV_len [1, 2, 3] mm n M0
        have := hS.ml
        omega
  rintro vs hx' hcnt2 ⟨gs2, mm2, rfl, rfl, hS2⟩
  refine holds_env (ρ' := ⟨[len0, rho0, hold, (k : Int), N0, N1, N2, N3, p.time, p.t0, p.t1, p.t2, p.t3, p.ask, p.tg], [true, gone, p.lost, keepsB p.time p.t0 rho, keepsB p.time p.t1 rho, keepsB p.time p.t2 rho, keepsB p.time p.t3 rho], [.map (some bm), .pointer (some ⟨b1, 0, none⟩), .pointer (some ⟨b2, 0, none⟩), .pointer (some ⟨b3, 0, none⟩)], [pcs.length, cap, 3, ch, 1, c1, 2, c2, 3, c3], [a, ah, a1, a2, a3]⟩) (by kernel_rfl) ?_
  have hstd : ∀ {x : Int} {N : Int} {g : GrD} (gs : List GrD) (i : Nat), LsS rho len hold (k + 1) M0 M1 M2 M3 gs mm2 → gs[i]? = some g → x = ((i + 1 : Nat) : Int) → [M1, M2, M3][i]? = some N → barsB g 2 2 N = false → ∀ a, (x, a) ∈ mm2 → a + hold ≤ M0 := fun gs i hS hg hx hN hb a ha => by
    obtain ⟨g1, g2, g3, N', g4, g5⟩ := hS.g i _ hg
    rw [hN] at g4
    cases g4
    by_cases hd : a + hold ≤ M0
    · exact hd
    · have := (g5.live hl hr ehold g1 (hx ▸ ha) (by omega)).2.1
      rw [hb] at this; cases this
  refine loop_i (LsF w rho len hold row [b1, b2, b3] ah bm (k + 1) M0 M1 M2 M3 mm2) (fun vs => 10 - (vs.i.headD 0).toNat) (fun ids w2 hp hf => ⟨(lsX row [b1, b2, b3] ah bm gs2 mm2).and (HX.rw 1 3 (some ⟨idAt ids 10, 0, none⟩) 0 0 []), ⟨⟨hf.x, HX.rw_nil _ _ _ _⟩, fun j hj => hj.elim (hf.sep j) (fun q => absurd rfl q.1)⟩, 1, [], some ⟨idAt ids 10, 0, none⟩, 0, gs2, Nat.le_refl _, by omega, by simp, (fun x hx => by cases hx), fun i h => absurd rfl h, rfl, rfl, hS2⟩) ?_
  rintro vs hx' hcnt3 ⟨j, fs, af, cf, gs, hj1, hj4, hfl, hfs, hfr, rfl, rfl, hS3⟩
  by_cases hj3 : j ≤ 3
  · refine br_T (decide ((j : Int) ≤ 3)) (by kernel_rfl) (decide_eq_true (by omega)) ?_
    obtain ⟨i, rfl⟩ : ∃ i : Nat, j = i + 1 := ⟨j - 1, by omega⟩
    have hi3 : i < 3 := by omega
    have hwj : IntKind.i64.wrap (((i + 1 : Nat) : Int) + 1) = ((i + 1 + 1 : Nat) : Int) := by rw [wrap_i64 (by omega)]; omega
    have hsub : IntKind.i64.wrap (((i + 1 : Nat) : Int) - 1) = (i : Int) := by rw [wrap_i64 (by omega)]; omega
    obtain ⟨b, hb⟩ : ∃ b, [b1, b2, b3][i]? = some b := ⟨_, List.getElem?_eq_getElem hi3⟩
    obtain ⟨g, hg⟩ : ∃ g, gs[i]? = some g := ⟨_, List.getElem?_eq_getElem (by rw [hS3.gl]; exact hi3)⟩
    obtain ⟨g1, g2, g3, N, g4, g5⟩ := hS3.g i g hg
    have hgo : g.ok := ⟨by omega, by omega, ⟨by omega, by omega⟩⟩
    have hN : 0 ≤ N ∧ N ≤ 2000 * ((k + 1 : Nat) : Int) := hS3.b N (List.mem_cons_of_mem _ (List.mem_of_getElem? g4))
    refine need_k (a3.isSome = true ∧ 0 ≤ IntKind.i64.wrap (((i + 1 : Nat) : Int) - 1) ∧ IntKind.i64.wrap (((i + 1 : Nat) : Int) - 1) < 3) (by kernel_rfl) ⟨hsm, by rw [hsub]; omega, by rw [hsub]; omega⟩ ?_
    refine need_k (0 ≤ ((i + 1 : Nat) : Int) ∧ ((i + 1 : Nat) : Int) < 4) (by kernel_rfl) (by omega) ?_
    obtain ⟨VP, eVP⟩ : ∃ V : Value, V = .pointer (some (((a3.getD ⟨0, 0, none⟩).add ((IntKind.i64.wrap (((i + 1 : Nat) : Int) - 1)).toNat * 1)).add 0)) := ⟨_, rfl⟩
    have hld : ∀ {m : Mem} {ρ : Env} {ids : List Nat} {w2 : World} {R : Ending → World → Prop} {fx : HX}, Facts ⟨Try.prog, w, fun _ => False, R⟩ m ρ ids ((lsX row [b1, b2, b3] ah bm gs mm2).and fx) w2 → CellsAt w2 VP [.pointer (some ⟨b, 0, none⟩)] (fun _ => False) := fun hf => by
      rw [eVP, hsub]
      exact (p_elt (hrc hf.x.1.1.1) hb).2 _ (fun q => q)
    have hpx : ∀ (j : Nat) u, [Value.int .i64 N][j]? = some u → [Value.int .i64 M0, .int .i64 M1, .int .i64 M2, .int .i64 M3][0 + (i + 1) * 1 + j]? = some u := fun j u hj => by
      cases j with
      | succ j => simp at hj
      | zero =>
        simp only [List.getElem?_cons_zero, Option.some.injEq] at hj
        subst hj
        match i, g4 with
        | 0, g4 => cases g4; rfl
        | 1, g4 => cases g4; rfl
        | 2, g4 => cases g4; rfl
    have hwM : [Value.int .i64 (IntKind.i64.wrap (N0 + p.t0)), .int .i64 (IntKind.i64.wrap (N1 + p.t1)), .int .i64 (IntKind.i64.wrap (N2 + p.t2)), .int .i64 (IntKind.i64.wrap (N3 + p.t3))] = [Value.int .i64 M0, .int .i64 M1, .int .i64 M2, .int .i64 M3] := by rw [wM0, wM1, wM2, wM3]
    have hgl : (barsV g N).length = len := by rw [barsV_len]; exact g1
    have hgs : 0 ≤ (barsV g N).since ∧ (barsV g N).since ≤ 1000000 := barsV_since ⟨g2, g3⟩ ⟨hN.1, by omega⟩
    have hset : LsS rho len hold (k + 1) M0 M1 M2 M3 (gs.set i (barsV g N)) mm2 := hS3.set i hgl hgs hS3.mb hS3.ml (fun j N g _ h => h) ⟨N, g4, g5.bars hl hr ehold g1⟩
    refine par_i (node_ldk ⟨[], [], [.pointer (some ⟨b, 0, none⟩)], [], []⟩ (fun _ => VP) [.pointer (some ⟨b, 0, none⟩)] (by rw [eVP]; intros; kernel_rfl) (by intros; kernel_rfl) (fun ids w2 hp hf => hld hf) (by kernel_rfl) onep (node_ldp (i := i + 1) (us := [Value.int .i64 M0, .int .i64 M1, .int .i64 M2, .int .i64 M3]) ⟨[N], [], [], [], []⟩ rfl (by kernel_rfl) (fun ids => Eq.trans (b := [Value.int .i64 (IntKind.i64.wrap (N0 + p.t0)), .int .i64 (IntKind.i64.wrap (N1 + p.t1)), .int .i64 (IntKind.i64.wrap (N2 + p.t2)), .int .i64 (IntKind.i64.wrap (N3 + p.t3))]) (by kernel_rfl) hwM) (fun ids j u hj => hpx j u hj) (by kernel_rfl) oneNil ?_)) (node_ldp (i := i + 1) (us := [Value.int .i64 M0, .int .i64 M1, .int .i64 M2, .int .i64 M3]) ⟨[N], [], [], [], []⟩ rfl (by kernel_rfl) (fun ids => Eq.trans (b := [Value.int .i64 (IntKind.i64.wrap (N0 + p.t0)), .int .i64 (IntKind.i64.wrap (N1 + p.t1)), .int .i64 (IntKind.i64.wrap (N2 + p.t2)), .int .i64 (IntKind.i64.wrap (N3 + p.t3))]) (by kernel_rfl) hwM) (fun ids j u hj => hpx j u hj) (by kernel_rfl) oneNil (node_ldk ⟨[], [], [.pointer (some ⟨b, 0, none⟩)], [], []⟩ (fun _ => VP) [.pointer (some ⟨b, 0, none⟩)] (by rw [eVP]; intros; kernel_rfl) (by intros; kernel_rfl) (fun ids w2 hp hf => hld hf) (by kernel_rfl) onep ?_))
    all_goals
      refine holds_eq (show _ = ((row.and (holdHX ah [1, 2, 3] bm mm2)).and (HX.rw 1 3 af fs.length cf (fs.map (Value.int .i64)))).and (gsX [b1, b2, b3] gs) from HX.and_right_comm _ _ _) ?_
      refine node_gs i (g := g) (g' := barsV g N) (V := .bool (barsB g 2 2 N)) #[.pointer (some ⟨b, 0, none⟩), .agg #[.int .i64 2, .int .i64 2], .int .i64 N] ⟨[], [barsB g 2 2 N], [], [], []⟩ hb hg hnd (fun k hk q => q.elim (fun q => q.elim (m1 k hk).2.2 (m1 k hk).2.1) (fun q => (hfr k q.1 q.2).2 (.inr hk))) (fun k hk => (m1 k hk).1) (by intros; kernel_rfl) (fun w2 hB => bars_any b g 2 2 N w2 hgo (i64m hN) hB) (by intros; kernel_rfl) (by kernel_rfl) (by kernel_rfl) (by kernel_rfl) oneNil ?_
      refine holds_eq (HX.and_right_comm _ _ _) ?_
      by_cases hbb : barsB g 2 2 N = true
      · refine br_F (!(barsB g 2 2 N)) (by kernel_rfl) (by rw [hbb]; rfl) ?_
        refine again_V ⟨[((i + 1 + 1 : Nat) : Int)], [], [], [fs.length, cf], [af]⟩ rfl (fun ids => Eq.trans (b := ⟨[IntKind.i64.wrap (((i + 1 : Nat) : Int) + 1)], [], [], [fs.length, cf], [af]⟩) (by kernel_rfl) (by rw [hwj])) _ (fun w2 ids hf => ⟨hf.x, hf.sep⟩) ⟨⟨i + 1 + 1, fs, af, cf, gs.set i (barsV g N), by omega, by omega, by omega, hfs, hfr, rfl, rfl, hset⟩, ?_⟩
        show 10 - (((i + 1 + 1 : Nat) : Int)).toNat < 10 - (((i + 1 : Nat) : Int)).toNat
        omega
      · refine br_T (!(barsB g 2 2 N)) (by kernel_rfl) (by simpa using hbb) ?_
        refine node_pushs (sz := 1) (bytes := 8) (z := .int .i64 0) (vs := [.int .i64 ((i + 1 : Nat) : Int)]) rfl Try.underlying41 info_i rfl (by decide) af fs.length cf _ 11 (by intros; kernel_rfl) (by intros; kernel_rfl) rfl (by intros; kernel_rfl) rfl (by simp [Value.oneCell']) (fun k h1 h2 => (hfr k h1 h2).2) (fun k h1 h2 => .inl (hfr k h1 h2).1) (by unfold maxLen; omega) (by omega) (by intros; kernel_rfl) (by kernel_rfl) (by kernel_rfl) (by intros; kernel_rfl) ?_
        intro af' cf' hcf' hd' hor'
        have hrow : fs.map (Value.int .i64) ++ [Value.int .i64 ((i + 1 : Nat) : Int)] = (fs ++ [((i + 1 : Nat) : Int)]).map (Value.int .i64) := by rw [List.map_append]; rfl
        have hlen : fs.length + 1 = (fs ++ [((i + 1 : Nat) : Int)]).length := by rw [List.length_append]; rfl
        refine again_V ⟨[((i + 1 + 1 : Nat) : Int)], [], [], [(fs ++ [((i + 1 : Nat) : Int)]).length, cf'], [af']⟩ rfl (fun ids => Eq.trans (b := ⟨[IntKind.i64.wrap (((i + 1 : Nat) : Int) + 1)], [], [], [fs.length + 1, cf'], [af']⟩) (by kernel_rfl) (by rw [hwj, hlen])) _ (fun w2 ids hf => ⟨hf.x, hf.sep⟩) ⟨⟨i + 1 + 1, fs ++ [((i + 1 : Nat) : Int)], af', cf', _, by omega, by omega, by rw [List.length_append, List.length_singleton]; omega, fun x hx => ?_, fun q h1 h2 => ⟨?_, hd' q h2⟩, rfl, by rw [hrow, hlen]; rfl, hset⟩, ?_⟩
        · rcases List.mem_append.1 hx with hx | hx
          · exact hfs x hx
          · have hx' := List.mem_singleton.1 hx
            subst hx'
            exact ⟨by unfold I64; omega, hstd gs i hS3 hg rfl g4 (by simpa using hbb)⟩
        · rcases hor' with ⟨z1, z2⟩ | ⟨g, z1, z2, _⟩
          · exact (hfr q z1 (z2 ▸ h2)).1
          · rw [z1] at h2; cases h2; exact z2
        · show 10 - (((i + 1 + 1 : Nat) : Int)).toNat < 10 - (((i + 1 : Nat) : Int)).toNat
          omega
  refine br_F (decide ((j : Int) ≤ 3)) (by kernel_rfl) (decide_eq_false (by omega)) ?_
  have hlk : k + 1 ≤ 1000 := by omega
  have hmI : ∀ p ∈ mm2, I64 p.1 ∧ I64 p.2 := fun p hp => by
    have := hS3.mb p hp
    unfold I64; omega
  refine holds_eq (show _ = ((row.and (gsX [b1, b2, b3] gs)).and (HX.rw 1 3 af fs.length cf (fs.map (Value.int .i64)))).and (holdHX ah [1, 2, 3] bm mm2) from by unfold lsX; rw [HX.and_right_comm row, HX.and_right_comm (row.and (gsX [b1, b2, b3] gs))]) ?_
  refine node_hvalid (cap := ch) (ms := [1, 2, 3]) (mm := mm2) (hold := hold) 3 M0 (fun ids => Eq.trans (b := #[.pointer (some ⟨idAt ids 3, 0, none⟩), .int .i64 (IntKind.i64.wrap (N0 + p.t0))]) (by kernel_rfl) (by rw [wM0])) rfl (by intros; kernel_rfl) hab ⟨hh.1, by omega⟩ (i64m (hS3.b M0 (by simp))) hmI (Nat.le_trans hS3.ml hlk) (by intros; kernel_rfl) (by kernel_rfl) (by kernel_rfl) (by kernel_rfl) ?_
  refine holds_eq (show _ = (lsX row [b1, b2, b3] ah bm gs mm2).and (HX.rw 1 3 af fs.length cf (fs.map (Value.int .i64))) from by unfold lsX; rw [HX.and_right_comm (row.and (gsX [b1, b2, b3] gs)), HX.and_right_comm row]) ?_
  have gone_on : ∀ {m : Mem} {ρ : Env} {es : Vec} {L : Stack} {fx : HX} (gn : Bool), lkup 17 L = some (LsJ rho len hold row [b1, b2, b3] ah bm (k + 1)) → (∀ ids, es.den ρ ids = ⟨[IntKind.i64.wrap (N0 + p.t0), IntKind.i64.wrap (N1 + p.t1), IntKind.i64.wrap (N2 + p.t2), IntKind.i64.wrap (N3 + p.t3)], [gn], [], [], []⟩) → (Tree.again 17 es m).holds ⟨Try.prog, w, fun _ => False, PureAt w (.bool true)⟩ ρ [] ((lsX row [b1, b2, b3] ah bm gs mm2).and fx) L := fun gn hL hv => again_V ⟨[M0, M1, M2, M3], [gn], [], [], []⟩ hL (fun ids => (hv ids).trans (by rw [wM0, wM1, wM2, wM3])) (lsX row [b1, b2, b3] ah bm gs mm2) (fun w2 ids hf => ⟨hf.x.1, fun j hj => hf.sep j (.inl hj)⟩) ⟨M0, M1, M2, M3, gn, gs, mm2, rfl, rfl, hS3⟩
  obtain ⟨va, eva⟩ : ∃ x, x = enoughB [1, 2, 3] (standL mm2 hold M0) := ⟨_, rfl⟩
  obtain ⟨en, een⟩ : ∃ x, x = enoughB [1, 2, 3] fs := ⟨_, rfl⟩
  have hno : va = true → en = true → False := fun h1 h2 => three (A := standL mm2 hold M0) (B := fs) (fun x hx hy => by
    obtain ⟨a, ha, hb⟩ := stand_mem hx
    have := (hfs x hy).2 a ha
    omega) ⟨eva ▸ h1, een ▸ h2⟩
  have rest : ∀ {ρ : Env} {L : Stack} {ea eb : Vec} {ma mb mc : Mem} {ec : Vec} {e1 e2 : BE}, (Tree.again 17 ea ma).holds ⟨Try.prog, w, fun _ => False, PureAt w (.bool true)⟩ ρ [] ((lsX row [b1, b2, b3] ah bm gs mm2).and (HX.rw 1 3 af fs.length cf (fs.map (Value.int .i64)))) L → (Tree.again 17 eb mb).holds ⟨Try.prog, w, fun _ => False, PureAt w (.bool true)⟩ ρ [] ((lsX row [b1, b2, b3] ah bm gs mm2).and (HX.rw 1 3 af fs.length cf (fs.map (Value.int .i64)))) L → (Tree.again 17 ec mc).holds ⟨Try.prog, w, fun _ => False, PureAt w (.bool true)⟩ ρ [] ((lsX row [b1, b2, b3] ah bm gs mm2).and (HX.rw 1 3 af fs.length cf (fs.map (Value.int .i64)))) L → (Tree.br e1 (Tree.br e2 (Tree.again 17 ea ma) (Tree.again 17 eb mb)) (Tree.again 17 ec mc)).holds ⟨Try.prog, w, fun _ => False, PureAt w (.bool true)⟩ ρ [] ((lsX row [b1, b2, b3] ah bm gs mm2).and (HX.rw 1 3 af fs.length cf (fs.map (Value.int .i64)))) L := fun h1 h2 h3 => br_i (fun _ => br_i (fun _ => h1) (fun _ => h2)) (fun _ => h3)
  by_cases hva : va = true
  · refine br_T va (by rw [eva]; kernel_rfl) hva ?_
    refine node_PI ⟨[], [en], [], [], []⟩ (fun ids => #[.slice (some ⟨idAt ids 11, 0, none⟩) 3 3, .slice af fs.length cf]) (.bool en) (by intros; kernel_rfl) (by intros; kernel_rfl) (by kernel_rfl) (by kernel_rfl) (by kernel_rfl) oneNil (fun ids w2 hp hf => ?_) ?_
    · rw [een]
      exact (refEnough_any (some ⟨idAt ids 11, 0, none⟩) 3 [1, 2, 3] af cf fs w2 (Ints.of_block [1, 2, 3] (by decide) (fun x hx => i64s (by simp at hx; omega)) (hf.blk 11 _ _ rfl)) (Ints.of_cells (by omega) (fun x hx => (hfs x hx).1) (rw_cells hf.x.2)) (by decide)).mono fun e w' h => ⟨h.1, h.2 ▸ Below.refl _ _⟩
    by_cases hen : en = true
    · exact (hno hva hen).elim
    refine br_F en (by kernel_rfl) (by simpa using hen) ?_
    exact rest (gone_on true rfl (by intros; kernel_rfl)) (gone_on gone rfl (by intros; kernel_rfl)) (gone_on gone rfl (by intros; kernel_rfl))
  · refine br_F va (by rw [eva]; kernel_rfl) (by simpa using hva) ?_
    exact rest (gone_on true rfl (by intros; kernel_rfl)) (gone_on gone rfl (by intros; kernel_rfl)) (gone_on gone rfl (by intros; kernel_rfl))
theorem opn_pace {w : World} {d : Dat} (h : d.In Try.prog w 56) : ∃ p : PcD, d.cells = p.cells := by
  obtain ⟨ds, rfl, g⟩ := in_struct Try.underlying56 h
  obtain ⟨d0, r0, rfl, h0, g0⟩ := inEach_cons g
  obtain ⟨d1, r1, rfl, h1, g1⟩ := inEach_cons g0
  obtain ⟨d2, r2, rfl, h2, g2⟩ := inEach_cons g1
  obtain ⟨d3, r3, rfl, h3, g3⟩ := inEach_cons g2
  obtain ⟨d4, r4, rfl, h4, g4⟩ := inEach_cons g3
  obtain rfl := inEach_nil g4
  obtain ⟨t, rfl, _⟩ := in_int Try.underlying3 h0
  obtain ⟨es, rfl, hl, hE⟩ := in_array Try.underlying54 h1
  obtain ⟨k, rfl, _⟩ := in_int Try.underlying3 h2
  obtain ⟨b, rfl⟩ := in_bool Try.underlying4 h3
  obtain ⟨z, rfl, _⟩ := in_int Try.underlying3 h4
  match es, hl with
  | [x0, x1, x2, x3], _ =>
    obtain ⟨t0, rfl, _⟩ := in_int Try.underlying3 (hE x0 (by simp))
    obtain ⟨t1, rfl, _⟩ := in_int Try.underlying3 (hE x1 (by simp))
    obtain ⟨t2, rfl, _⟩ := in_int Try.underlying3 (hE x2 (by simp))
    obtain ⟨t3, rfl, _⟩ := in_int Try.underlying3 (hE x3 (by simp))
    exact ⟨⟨t, t0, t1, t2, t3, k, b, z⟩, rfl⟩
theorem opn_paces {w : World} : ∀ (ds : List Dat), (∀ d ∈ ds, d.In Try.prog w 56) → ∃ ps : List PcD, ps.length = ds.length ∧ Dat.cellsAll ds = pccells ps
  | [], _ => ⟨[], rfl, rfl⟩
  | d :: r, h => by
    obtain ⟨p, e⟩ := opn_pace (h d (by simp))
    obtain ⟨ps, l, c⟩ := opn_paces r (fun x hx => h x (by simp [hx]))
    refine ⟨p :: ps, by rw [List.length_cons, List.length_cons, l], ?_⟩
    show d.cells ++ Dat.cellsAll r = _
    rw [e, c]; rfl
theorem safe_args (len rho : Int) (a : Option Addr) (cap : Nat) (ds : List Dat) (w : World) (_ : I64 len) (_ : I64 rho) (hC : Cells w a (Dat.cellsAll ds)) (hds : ∀ d ∈ ds, d.In Try.prog w 56) (hl : ds.length ≤ 9223372036854775807) (_ : ds.length * Try.prog.bytesOf 56 ≤ reachBytes) : Calls Try.prog 6 #[.int .i64 len, .int .i64 rho, .slice a ds.length cap] w (PureAt w (.bool true)) := by
  obtain ⟨ps, l1, e1⟩ := opn_paces ds hds
  rw [← l1]
  exact lsafe_walk len rho a cap ps w (e1 ▸ hC) (by omega)
end Go.Proofs.Ytnpjigeljhlomaa
