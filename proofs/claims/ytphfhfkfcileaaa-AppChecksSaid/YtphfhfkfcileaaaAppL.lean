/- The walks of layer 4's laws. -/
import Derived.Test.YtphfhfkfcileaaaApl
import Derived.Test.YtphfhfkfcileaaaAppLT
import Derived.Test.YtphfhfkfcileaaaDat
import Derived.Test.YtphfhfkfcileaaaEng17
namespace Go.Proofs.Ytphfhfkfcileaaa
open Go.ChangeShapes Go.WideShapes Go.ChangeAt Go.RowKit Go.Syn Go.Eng
set_option linter.unusedVariables false
set_option linter.unusedSimpArgs false
set_option maxRecDepth 10000
def eqB : List Int → List Int → Bool
  | [a, b], [c, d] => (a == c) && (b == d)
  | a :: b :: r, c :: d :: s => ((a == c) && (b == d)) && eqB r s
  | _, _ => true
theorem eqB_self : ∀ xs : List Int, eqB xs xs = true
  | [] => rfl
  | [_] => rfl
  | [a, b] => by simp [eqB]
  | a :: b :: c :: r => by
    have := eqB_self (c :: r)
    cases r with
    | nil => simp [eqB]
    | cons d r => simp [eqB, this]
def zeros : List Int := [0, 0, 0, 0, 0, 0, 0, 0, 0, 0, 0, 0, 0, 0, 0, 0]
def OpD.dat (o : OpD) : Dat := .parts [.int .i64 o.kind, .int .i64 o.reg, .int .i64 o.tg, .int .i64 o.re, .int .i64 o.im]
theorem OpD.len (s : OpD) : (OpD.dat s).cells.length = 5 := rfl
theorem open_opd {w : World} {d : Dat} (h : d.In Try.prog w 29) : ∃ s : OpD, d = OpD.dat s ∧ True := by
  obtain ⟨ds, rfl, g⟩ := in_struct Try.underlying29 h
  obtain ⟨d0, r0, rfl, h0, f1⟩ := inEach_cons g
  obtain ⟨d1, r1, rfl, h1, f2⟩ := inEach_cons f1
  obtain ⟨d2, r2, rfl, h2, f3⟩ := inEach_cons f2
  obtain ⟨d3, r3, rfl, h3, f4⟩ := inEach_cons f3
  obtain ⟨d4, r4, rfl, h4, f5⟩ := inEach_cons f4
  obtain rfl := inEach_nil f5
  obtain ⟨k0, rfl, _⟩ := in_int Try.underlying3 h0
  obtain ⟨k1, rfl, _⟩ := in_int Try.underlying3 h1
  obtain ⟨k2, rfl, _⟩ := in_int Try.underlying3 h2
  obtain ⟨k3, rfl, _⟩ := in_int Try.underlying3 h3
  obtain ⟨k4, rfl, _⟩ := in_int Try.underlying3 h4
  exact ⟨⟨k0, k1, k2, k3, k4⟩, rfl, trivial⟩
theorem open_reg {w : World} {d : Dat} (h : d.In Try.prog w 23) : ∃ p : Int × Int, d = .parts [.int .i64 p.1, .int .i64 p.2] ∧ True := by
  obtain ⟨ds, rfl, g⟩ := in_struct Try.underlying23 h
  obtain ⟨d0, r0, rfl, h0, f1⟩ := inEach_cons g
  obtain ⟨d1, r1, rfl, h1, f2⟩ := inEach_cons f1
  obtain rfl := inEach_nil f2
  obtain ⟨k0, rfl, _⟩ := in_int Try.underlying3 h0
  obtain ⟨k1, rfl, _⟩ := in_int Try.underlying3 h1
  exact ⟨(k0, k1), rfl, trivial⟩
theorem regs_cells : ∀ (ps : List (Int × Int)), ∃ xs : List Int, xs.length = 2 * ps.length ∧ Dat.cellsAll (ps.map fun p => Dat.parts [.int .i64 p.1, .int .i64 p.2]) = xs.map (Value.int .i64)
  | [] => ⟨[], rfl, rfl⟩
  | p :: r => by
    obtain ⟨xs, h1, h2⟩ := regs_cells r
    exact ⟨p.1 :: p.2 :: xs, by simp only [List.length_cons, h1]; omega, by simp only [List.map_cons, Dat.cellsAll, h2, Dat.cells]; rfl⟩
theorem open_regs {w : World} {d : Dat} (h : d.In Try.prog w 24) : ∃ xs : List Int, xs.length = 16 ∧ d.cells = xs.map (Value.int .i64) := by
  obtain ⟨ds, rfl, hl, g⟩ := in_array Try.underlying24 h
  obtain ⟨ps, rfl, _⟩ := list_map_of (fun p : Int × Int => Dat.parts [.int .i64 p.1, .int .i64 p.2]) (fun _ => True) ds (fun d hd => open_reg (g d hd))
  obtain ⟨xs, h1, h2⟩ := regs_cells ps
  refine ⟨xs, ?_, ?_⟩
  · rw [List.length_map] at hl; omega
  · rw [← h2]; rfl
theorem list_form (xs : List Int) (o : OpD) (hx : xs.length = 16) : ∃ t0 t1 t2 t3 t4 t5 t6 t7 t8 t9 t10 t11 t12 t13 t14 t15 r0 r1 r2, applyM xs o = ([t0, t1, t2, t3, t4, t5, t6, t7, t8, t9, t10, t11, t12, t13, t14, t15], r0, r1, r2) := by
  have := applyM_len xs o
  rw [hx] at this
  obtain ⟨t0, t1, t2, t3, t4, t5, t6, t7, t8, t9, t10, t11, t12, t13, t14, t15, h⟩ := list16 _ this
  exact ⟨t0, t1, t2, t3, t4, t5, t6, t7, t8, t9, t10, t11, t12, t13, t14, t15, (applyM xs o).2.1, (applyM xs o).2.2.1, (applyM xs o).2.2.2, by rw [← h]⟩

theorem head_any (w : World) : Calls Try.prog 9 #[] w (PureAt w (.bool true)) := by
  refine calls_at (tab_ok _) Try.func9 rfl tHead (ρ := ⟨[], [], [], [], []⟩) (ids := []) rfl (Facts.initP rfl oneNil) ?_
  have h1 : applyM [0, 0, 0, 0, 0, 0, 0, 0, 0, 0, 0, 0, 0, 0, 0, 0] ⟨2, 2, 0, 3, 4⟩ = ([0, 0, 0, 0, 3, 4, 0, 0, 0, 0, 0, 0, 0, 0, 0, 0], 1, 3, 4) := by decide
  have h2 : applyM [0, 0, 0, 0, 3, 4, 0, 0, 0, 0, 0, 0, 0, 0, 0, 0] ⟨5, 2, 1, 0, 0⟩ = ([0, 0, 0, 0, -4, 3, 0, 0, 0, 0, 0, 0, 0, 0, 0, 0], 1, -4, 3) := by decide
  refine node_val (V := resV ([0, 0, 0, 0, 3, 4, 0, 0, 0, 0, 0, 0, 0, 0, 0, 0], 1, 3, 4)) ⟨[0, 0, 0, 0, 3, 4, 0, 0, 0, 0, 0, 0, 0, 0, 0, 0, 1, 3, 4], [], [], [], []⟩ (fun w => by rw [← h1]; exact apply_any [0, 0, 0, 0, 0, 0, 0, 0, 0, 0, 0, 0, 0, 0, 0, 0] rfl ⟨2, 2, 0, 3, 4⟩ w) (by intros; kernel_rfl) (by intros; kernel_rfl) rfl rfl rfl oneNil ?_
  refine node_val (V := resV ([0, 0, 0, 0, -4, 3, 0, 0, 0, 0, 0, 0, 0, 0, 0, 0], 1, -4, 3)) ⟨[0, 0, 0, 0, -4, 3, 0, 0, 0, 0, 0, 0, 0, 0, 0, 0, 1, -4, 3], [], [], [], []⟩ (fun w => by rw [← h2]; exact apply_any [0, 0, 0, 0, 3, 4, 0, 0, 0, 0, 0, 0, 0, 0, 0, 0] rfl ⟨5, 2, 1, 0, 0⟩ w) (by intros; kernel_rfl) (by intros; kernel_rfl) rfl rfl rfl oneNil ?_
  exact br_t rfl (br_t rfl (pure_done fun _ => rfl))
theorem checks_walk (xs : List Int) (hx : xs.length = 16) (o : OpD) (w : World) : Calls Try.prog 7 #[.agg (xs.map (Value.int .i64)).toArray, .agg o.cells.toArray] w (PureAt w (.bool true)) := by
  obtain ⟨a0, a1, a2, a3, a4, a5, a6, a7, a8, a9, a10, a11, a12, a13, a14, a15, rfl⟩ := list16 xs hx
  obtain ⟨kind, reg, tg, re, im⟩ := o
  refine calls_at (tab_ok _) Try.func7 rfl tChecks (ρ := ⟨[a0, a1, a2, a3, a4, a5, a6, a7, a8, a9, a10, a11, a12, a13, a14, a15, kind, reg, tg, re, im], [], [], [], []⟩) (ids := []) rfl (Facts.initP rfl oneNil) ?_
  refine node_val ⟨[], [true], [], [], []⟩ (fun w => head_any w) (by intros; kernel_rfl) (by intros; kernel_rfl) rfl rfl rfl oneNil ?_
  refine br_f rfl ?_
  refine node_val ⟨[if opB ⟨kind, reg, tg, re, im⟩ then 0 else 22], [], [], [], []⟩ (fun w => opCheck_any ⟨kind, reg, tg, re, im⟩ w) (by intros; kernel_rfl) (by intros; kernel_rfl) rfl rfl rfl oneNil ?_
  refine node_val ⟨[], [opB ⟨kind, reg, tg, re, im⟩], [], [], []⟩ (fun w => refOp_pure ⟨kind, reg, tg, re, im⟩ w) (by intros; kernel_rfl) (by intros; kernel_rfl) rfl rfl rfl oneNil ?_
  have bb : ∀ b : Bool, (b == b) = true := fun b => by cases b <;> rfl
  have fin : ∀ (i0 : Int), (⟨[i0], [], [], [], []⟩ : Vals) = ⟨[i0], [], [], [], []⟩ := fun _ => rfl
  cases ho : opB ⟨kind, reg, tg, re, im⟩ with
  | false =>
    refine br_f rfl (br_t rfl (br_f rfl ?_))
    refine node_val ⟨[], [validL [a0, a1, a2, a3, a4, a5, a6, a7, a8, a9, a10, a11, a12, a13, a14, a15]], [], [], []⟩ (fun w => valid_any [a0, a1, a2, a3, a4, a5, a6, a7, a8, a9, a10, a11, a12, a13, a14, a15] rfl w) (by intros; kernel_rfl) (by intros; kernel_rfl) rfl rfl rfl oneNil ?_
    refine node_val ⟨[], [validL [a0, a1, a2, a3, a4, a5, a6, a7, a8, a9, a10, a11, a12, a13, a14, a15]], [], [], []⟩ (fun w => refValid_any [a0, a1, a2, a3, a4, a5, a6, a7, a8, a9, a10, a11, a12, a13, a14, a15] rfl w) (by intros; kernel_rfl) (by intros; kernel_rfl) rfl rfl rfl oneNil ?_
    refine br_t (bb _) ?_
    refine node_val ⟨[], [kind == 1], [], [], []⟩ (fun w => reads_any ⟨kind, reg, tg, re, im⟩ w) (by intros; kernel_rfl) (by intros; kernel_rfl) rfl rfl rfl oneNil ?_
    exact pure_done fun _ => congrArg Value.bool (bb (kind == 1))
  | true =>
    refine br_f rfl (br_f rfl ?_)
    refine node_val ⟨[], [validL [a0, a1, a2, a3, a4, a5, a6, a7, a8, a9, a10, a11, a12, a13, a14, a15]], [], [], []⟩ (fun w => valid_any [a0, a1, a2, a3, a4, a5, a6, a7, a8, a9, a10, a11, a12, a13, a14, a15] rfl w) (by intros; kernel_rfl) (by intros; kernel_rfl) rfl rfl rfl oneNil ?_
    refine node_val ⟨[], [validL [a0, a1, a2, a3, a4, a5, a6, a7, a8, a9, a10, a11, a12, a13, a14, a15]], [], [], []⟩ (fun w => refValid_any [a0, a1, a2, a3, a4, a5, a6, a7, a8, a9, a10, a11, a12, a13, a14, a15] rfl w) (by intros; kernel_rfl) (by intros; kernel_rfl) rfl rfl rfl oneNil ?_
    refine br_t (bb _) ?_
    refine node_val ⟨[], [kind == 1], [], [], []⟩ (fun w => reads_any ⟨kind, reg, tg, re, im⟩ w) (by intros; kernel_rfl) (by intros; kernel_rfl) rfl rfl rfl oneNil ?_
    exact pure_done fun _ => congrArg Value.bool (bb (kind == 1))
theorem checks_args (x y : Dat) (w : World) (h1 : x.In Try.prog w 24) (h2 : y.In Try.prog w 29) : Calls Try.prog 7 #[.agg x.cells.toArray, .agg y.cells.toArray] w fun e w' => e = .returned (.bool true) ∧ Below w.heap.size w w' := by
  obtain ⟨xs, hl, hc⟩ := open_regs h1
  obtain ⟨s, rfl, _⟩ := open_opd h2
  rw [hc]
  exact checks_walk xs hl s w

def ApI (n : Nat) (vs : Vals) (hx : HX) : Prop := ∃ (k : Nat) (xs : List Int), k ≤ n ∧ xs.length = 16 ∧ vs = ⟨(k : Int) :: (xs ++ xs), [], [], [], []⟩ ∧ hx = HX.nil
set_option maxHeartbeats 4000000 in
theorem applies_walk (xs : List Int) (hx : xs.length = 16) (a : Option Addr) (cap : Nat) (os : List OpD) (w : World) (hC : Cells w a (Dat.cellsAll (os.map OpD.dat))) (hl : os.length ≤ 9223372036854775807) : Calls Try.prog 3 #[.agg (xs.map (Value.int .i64)).toArray, .slice a os.length cap] w (PureAt w (.bool true)) := by
  obtain ⟨a0, a1, a2, a3, a4, a5, a6, a7, a8, a9, a10, a11, a12, a13, a14, a15, rfl⟩ := list16 xs hx
  refine calls_at (tab_ok _) Try.func3 rfl tApplies (ρ := ⟨[a0, a1, a2, a3, a4, a5, a6, a7, a8, a9, a10, a11, a12, a13, a14, a15], [], [], [os.length, cap], [a]⟩) (ids := []) rfl (Facts.initP rfl oneNil) ?_
  refine node_val ⟨[], [true], [], [], []⟩ (fun w => head_any w) (by intros; kernel_rfl) (by intros; kernel_rfl) rfl rfl rfl oneNil ?_
  refine br_f rfl ?_
  refine loop_i (ApI os.length) (fun vs => os.length - (vs.i.headD 0).toNat) (fun ids w2 hp hf => ⟨HX.nil, HXok.none _ _, 0, [a0, a1, a2, a3, a4, a5, a6, a7, a8, a9, a10, a11, a12, a13, a14, a15], by omega, rfl, by kernel_rfl, rfl⟩) ?_
  rintro vs hx' hcnt ⟨k, xs, hk1, hx2, rfl, rfl⟩
  obtain ⟨b0, b1, b2, b3, b4, b5, b6, b7, b8, b9, b10, b11, b12, b13, b14, b15, rfl⟩ := list16 xs hx2
  by_cases hk : k < os.length
  · have hwk : IntKind.i64.wrap ((k : Int) + 1) = ((k + 1 : Nat) : Int) := by rw [wrap_i64 (by omega)]; omega
    refine br_t (show decide ((k : Int) < (os.length : Int)) = true by simpa using hk) ?_
    obtain ⟨s, hs⟩ : ∃ s, os[k]? = some s := ⟨_, List.getElem?_eq_getElem hk⟩
    obtain ⟨s1, c1⟩ := cells_elt hC OpD.len (by decide) hs
    refine need_i ⟨s1, (show (0 : Int) ≤ k by omega), (show (k : Int) < os.length by omega)⟩ ?_
    obtain ⟨kind, reg, tg, re, im⟩ := s
    refine ⟨⟨[kind, reg, tg, re, im], [], [], [], []⟩, fun ids => c1 _ (fun h => h), ⟨rfl, oneNil⟩, ?_⟩
    obtain ⟨t0, t1, t2, t3, t4, t5, t6, t7, t8, t9, t10, t11, t12, t13, t14, t15, r0, r1, r2, ht⟩ := list_form [b0, b1, b2, b3, b4, b5, b6, b7, b8, b9, b10, b11, b12, b13, b14, b15] ⟨kind, reg, tg, re, im⟩ rfl
    refine node_val (V := resV ([t0, t1, t2, t3, t4, t5, t6, t7, t8, t9, t10, t11, t12, t13, t14, t15], r0, r1, r2)) ⟨[t0, t1, t2, t3, t4, t5, t6, t7, t8, t9, t10, t11, t12, t13, t14, t15, r0, r1, r2], [], [], [], []⟩ (fun w => by rw [← ht]; exact refApply_any [b0, b1, b2, b3, b4, b5, b6, b7, b8, b9, b10, b11, b12, b13, b14, b15] rfl ⟨kind, reg, tg, re, im⟩ w) (by intros; kernel_rfl) (by intros; kernel_rfl) rfl rfl rfl oneNil ?_
    refine node_val (V := resV ([t0, t1, t2, t3, t4, t5, t6, t7, t8, t9, t10, t11, t12, t13, t14, t15], r0, r1, r2)) ⟨[t0, t1, t2, t3, t4, t5, t6, t7, t8, t9, t10, t11, t12, t13, t14, t15, r0, r1, r2], [], [], [], []⟩ (fun w => by rw [← ht]; exact apply_any [b0, b1, b2, b3, b4, b5, b6, b7, b8, b9, b10, b11, b12, b13, b14, b15] rfl ⟨kind, reg, tg, re, im⟩ w) (by intros; kernel_rfl) (by intros; kernel_rfl) rfl rfl rfl oneNil ?_
    refine br_f (show (!((r0 == r0) && ((r1 == r1) && (r2 == r2)))) = false by simp) ?_
    refine br_f (Eq.trans (b := !eqB [t0, t1, t2, t3, t4, t5, t6, t7, t8, t9, t10, t11, t12, t13, t14, t15] [t0, t1, t2, t3, t4, t5, t6, t7, t8, t9, t10, t11, t12, t13, t14, t15]) (by kernel_rfl) (by rw [eqB_self]; rfl)) ?_
    intro ids w2 hp hf
    refine ⟨HX.nil, HXok.none _ _, _, rfl, ⟨k + 1, [t0, t1, t2, t3, t4, t5, t6, t7, t8, t9, t10, t11, t12, t13, t14, t15], by omega, rfl, by rw [← hwk]; kernel_rfl, rfl⟩, ?_⟩
    show os.length - (IntKind.i64.wrap ((k : Int) + 1)).toNat < os.length - ((k : Int)).toNat
    rw [hwk]; omega
  · refine br_f (show decide ((k : Int) < (os.length : Int)) = false by simpa using hk) ?_
    exact pure_done fun _ => rfl
theorem applies_args (x : Dat) (a : Option Addr) (cap : Nat) (ds : List Dat) (w : World) (h1 : x.In Try.prog w 24) (hC : Cells w a (Dat.cellsAll ds)) (hds : ∀ d ∈ ds, d.In Try.prog w 29) (hl : ds.length ≤ 9223372036854775807) (hb : ds.length * Try.prog.bytesOf 29 ≤ reachBytes) :
    Calls Try.prog 3 #[.agg x.cells.toArray, .slice a ds.length cap] w fun e w' => e = .returned (.bool true) ∧ Below w.heap.size w w' := by
  obtain ⟨xs, hxl, hc⟩ := open_regs h1
  obtain ⟨os, rfl, _⟩ := list_map_of OpD.dat (fun _ => True) ds (fun d hd => open_opd (hds d hd))
  rw [hc]
  rw [List.length_map] at hl ⊢
  exact applies_walk xs hxl a cap os w hC hl

theorem applyM_valid {xs : List Int} (hx : xs.length = 16) (h : validL xs = true) (o : OpD) : validL (applyM xs o).1 = true := by
  unfold applyM
  split
  · rename_i hc
    simp only [Bool.and_eq_true] at hc
    obtain ⟨_, r12, _⟩ := (opB_iff _).1 hc.2
    split
    · exact h
    · split
      · rename_i hf
        refine valid_put ?_ _ hf
        split
        · exact valid_put h _ (valid_reg h _ (by omega))
        · exact h
      · exact h
  · exact h
/-- What an operation does to valid registers, in its three ways. -/
theorem applyM_ways {xs : List Int} (hx : xs.length = 16) (h : validL xs = true) (o : OpD) : (opB o = false ∧ applyM xs o = (xs, 0, 0, 0)) ∨ (opB o = true ∧ ∃ r, r.1 ≠ 0 ∧ r.1 ≠ 1 ∧ applyM xs o = (xs, r)) ∨
    (opB o = true ∧ ∃ ys q, applyM xs o = (ys, 1, q) ∧ regOf ys o.reg.toNat = q ∧ (o.kind = 1 → ys = xs)) := by
  cases hb : opB o with
  | false => exact .inl ⟨rfl, applyM_bad (by rw [h, hb]; rfl)⟩
  | true =>
    obtain ⟨k12, r12, _⟩ := (opB_iff _).1 hb
    refine .inr ?_
    by_cases h1 : o.kind = 7 ∧ ¬ regOf xs o.reg.toNat = (o.re, o.im)
    · exact .inl ⟨rfl, (3, _, _), (show (3 : Int) ≠ 0 by decide), (show (3 : Int) ≠ 1 by decide), applyM_miss h hb h1.1 h1.2⟩
    · cases hf : fitB (newReg xs o).1 (newReg xs o).2 with
      | false =>
        refine .inl ⟨rfl, (2, 0, 0), by decide, by decide, ?_⟩
        unfold applyM; rw [h, hb]; simp only [Bool.and_self, if_true]; rw [if_neg h1, hf]; rfl
      | true =>
        have hm : applyM xs o = (put2 (if o.kind = 6 then put2 xs o.tg.toNat (regOf xs o.reg.toNat) else xs) o.reg.toNat (newReg xs o), 1, newReg xs o) := by
          unfold applyM; rw [h, hb]; simp only [Bool.and_self, if_true]; rw [if_neg h1, if_pos hf]
        refine .inr ⟨rfl, _, _, hm, ?_, fun hk => ?_⟩
        · refine regOf_put2 ?_ _
          split
          · rw [put2_len]; omega
          · omega
        · rw [if_neg (by omega), show newReg xs o = regOf xs o.reg.toNat by simp [newReg, hk]]
          exact put2_self (by omega)
def StI (n : Nat) (vs : Vals) (hx : HX) : Prop := ∃ (k : Nat) (xs : List Int), k ≤ n ∧ xs.length = 16 ∧ validL xs = true ∧ vs = ⟨(k : Int) :: xs, [], [], [], []⟩ ∧ hx = HX.nil
set_option maxHeartbeats 4000000 in
theorem stays_walk (a : Option Addr) (cap : Nat) (os : List OpD) (w : World) (hC : Cells w a (Dat.cellsAll (os.map OpD.dat))) (hl : os.length ≤ 9223372036854775807) : Calls Try.prog 8 #[.slice a os.length cap] w (PureAt w (.bool true)) := by
  refine calls_at (tab_ok _) Try.func8 rfl tStays (ρ := ⟨[], [], [], [os.length, cap], [a]⟩) (ids := []) rfl (Facts.initP rfl oneNil) ?_
  refine node_val ⟨[], [true], [], [], []⟩ (fun w => head_any w) (by intros; kernel_rfl) (by intros; kernel_rfl) rfl rfl rfl oneNil ?_
  refine br_f rfl ?_
  refine node_val ⟨[], [true], [], [], []⟩ (fun w => valid_any [0, 0, 0, 0, 0, 0, 0, 0, 0, 0, 0, 0, 0, 0, 0, 0] rfl w) (by intros; kernel_rfl) (by intros; kernel_rfl) rfl rfl rfl oneNil ?_
  refine br_f rfl ?_
  refine loop_i (StI os.length) (fun vs => os.length - (vs.i.headD 0).toNat) (fun ids w2 hp hf => ⟨HX.nil, HXok.none _ _, 0, [0, 0, 0, 0, 0, 0, 0, 0, 0, 0, 0, 0, 0, 0, 0, 0], by omega, rfl, rfl, by kernel_rfl, rfl⟩) ?_
  rintro vs hx' hcnt ⟨k, xs, hk1, hx2, hv, rfl, rfl⟩
  have hval := applyM_valid hx2 hv
  have hw := applyM_ways hx2 hv
  obtain ⟨b0, b1, b2, b3, b4, b5, b6, b7, b8, b9, b10, b11, b12, b13, b14, b15, rfl⟩ := list16 xs hx2
  by_cases hk : k < os.length
  · have hwk : IntKind.i64.wrap ((k : Int) + 1) = ((k + 1 : Nat) : Int) := by rw [wrap_i64 (by omega)]; omega
    refine br_t (show decide ((k : Int) < (os.length : Int)) = true by simpa using hk) ?_
    obtain ⟨s, hs⟩ : ∃ s, os[k]? = some s := ⟨_, List.getElem?_eq_getElem hk⟩
    obtain ⟨s1, c1⟩ := cells_elt hC OpD.len (by decide) hs
    refine need_i ⟨s1, (show (0 : Int) ≤ k by omega), (show (k : Int) < os.length by omega)⟩ ?_
    obtain ⟨kind, reg, tg, re, im⟩ := s
    refine ⟨⟨[kind, reg, tg, re, im], [], [], [], []⟩, fun ids => c1 _ (fun h => h), ⟨rfl, oneNil⟩, ?_⟩
    have hval := hval ⟨kind, reg, tg, re, im⟩
    have hw := hw ⟨kind, reg, tg, re, im⟩
    have hopk := fun h => (opB_iff ⟨kind, reg, tg, re, im⟩).1 h
    dsimp only at hopk
    have fin : ∀ (T : List Int) {key : Nat} {es : Vec} {m : Mem} {ρ : Env} {pre : List Nat} {L : Stack}, key = 5 → T.length = 16 → validL T = true → (∀ ids, es.den ρ ids = ⟨IntKind.i64.wrap ((k : Int) + 1) :: T, [], [], [], []⟩) → (Tree.again key es m).holds ⟨Try.prog, w, fun _ => False, PureAt w (.bool true)⟩ ρ pre HX.nil ((5, fun vs' hx'' => StI os.length vs' hx'' ∧ os.length - (vs'.i.headD 0).toNat < os.length - ((⟨(k : Int) :: [b0, b1, b2, b3, b4, b5, b6, b7, b8, b9, b10, b11, b12, b13, b14, b15], [], [], [], []⟩ : Vals).i.headD 0).toNat) :: L) := by
      intro T key es m ρ pre L hkey hT hvT hes ids w2 hp hf
      subst hkey
      refine ⟨HX.nil, HXok.none _ _, _, rfl, ?_⟩
      rw [hes]
      refine ⟨⟨k + 1, T, by omega, hT, hvT, by rw [hwk], rfl⟩, ?_⟩
      show os.length - (IntKind.i64.wrap ((k : Int) + 1)).toNat < os.length - ((k : Int)).toNat
      rw [hwk]; omega
    rcases hw with ⟨ho, hm⟩ | ⟨ho, r, hr0, hr1, hm⟩ | ⟨ho, ys, q, hm, hq, hys⟩
    · rw [hm] at hval
      refine node_val (V := resV ([b0, b1, b2, b3, b4, b5, b6, b7, b8, b9, b10, b11, b12, b13, b14, b15], 0, 0, 0)) ⟨[b0, b1, b2, b3, b4, b5, b6, b7, b8, b9, b10, b11, b12, b13, b14, b15, 0, 0, 0], [], [], [], []⟩ (fun w => by rw [← hm]; exact apply_any [b0, b1, b2, b3, b4, b5, b6, b7, b8, b9, b10, b11, b12, b13, b14, b15] rfl ⟨kind, reg, tg, re, im⟩ w) (by intros; kernel_rfl) (by intros; kernel_rfl) rfl rfl rfl oneNil ?_
      refine node_val ⟨[], [true], [], [], []⟩ (fun w => by have := valid_any [b0, b1, b2, b3, b4, b5, b6, b7, b8, b9, b10, b11, b12, b13, b14, b15] rfl w; rw [hval] at this; exact this) (by intros; kernel_rfl) (by intros; kernel_rfl) rfl rfl rfl oneNil ?_
      refine br_f rfl ?_
      refine node_val ⟨[], [kind == 1], [], [], []⟩ (fun w => reads_any ⟨kind, reg, tg, re, im⟩ w) (by intros; kernel_rfl) (by intros; kernel_rfl) rfl rfl rfl oneNil ?_
      have eqf : (!eqB [b0, b1, b2, b3, b4, b5, b6, b7, b8, b9, b10, b11, b12, b13, b14, b15] [b0, b1, b2, b3, b4, b5, b6, b7, b8, b9, b10, b11, b12, b13, b14, b15]) = false := by rw [eqB_self]; rfl
      have next : ∀ {m : Mem} {ρ : Env} {pre : List Nat} {L : Stack} {t : Tree}, t.holds ⟨Try.prog, w, fun _ => False, PureAt w (.bool true)⟩ ρ pre HX.nil L → t.holds ⟨Try.prog, w, fun _ => False, PureAt w (.bool true)⟩ ρ pre HX.nil L := fun h => h
      cases hkind : (kind == 1) with
      | true =>
        refine br_t rfl ?_
        refine br_f (Eq.trans (b := !eqB [b0, b1, b2, b3, b4, b5, b6, b7, b8, b9, b10, b11, b12, b13, b14, b15] [b0, b1, b2, b3, b4, b5, b6, b7, b8, b9, b10, b11, b12, b13, b14, b15]) (by kernel_rfl) eqf) ?_
        refine node_val ⟨[22], [], [], [], []⟩ (fun w => by have := opCheck_any ⟨kind, reg, tg, re, im⟩ w; rw [ho] at this; exact this) (by intros; kernel_rfl) (by intros; kernel_rfl) rfl rfl rfl oneNil ?_
        refine br_f (show (!(((0 : Int) == 0) == ((22 : Int) != 0))) = false by rfl) ?_
        refine br_t (show (0 != 1) = true by rfl) ?_
        refine br_f (Eq.trans (b := !eqB [b0, b1, b2, b3, b4, b5, b6, b7, b8, b9, b10, b11, b12, b13, b14, b15] [b0, b1, b2, b3, b4, b5, b6, b7, b8, b9, b10, b11, b12, b13, b14, b15]) (by kernel_rfl) eqf) ?_
        refine br_f (show (0 == 1) = false by rfl) ?_
        exact fin [b0, b1, b2, b3, b4, b5, b6, b7, b8, b9, b10, b11, b12, b13, b14, b15] rfl rfl hv (by intros; kernel_rfl)
      | false =>
        refine br_f rfl ?_
        refine node_val ⟨[22], [], [], [], []⟩ (fun w => by have := opCheck_any ⟨kind, reg, tg, re, im⟩ w; rw [ho] at this; exact this) (by intros; kernel_rfl) (by intros; kernel_rfl) rfl rfl rfl oneNil ?_
        refine br_f (show (!(((0 : Int) == 0) == ((22 : Int) != 0))) = false by rfl) ?_
        refine br_t (show (0 != 1) = true by rfl) ?_
        refine br_f (Eq.trans (b := !eqB [b0, b1, b2, b3, b4, b5, b6, b7, b8, b9, b10, b11, b12, b13, b14, b15] [b0, b1, b2, b3, b4, b5, b6, b7, b8, b9, b10, b11, b12, b13, b14, b15]) (by kernel_rfl) eqf) ?_
        refine br_f (show (0 == 1) = false by rfl) ?_
        exact fin [b0, b1, b2, b3, b4, b5, b6, b7, b8, b9, b10, b11, b12, b13, b14, b15] rfl rfl hv (by intros; kernel_rfl)
    · obtain ⟨r0, r1, r2⟩ := r
      rw [hm] at hval
      dsimp only at hr0 hr1
      refine node_val (V := resV ([b0, b1, b2, b3, b4, b5, b6, b7, b8, b9, b10, b11, b12, b13, b14, b15], r0, r1, r2)) ⟨[b0, b1, b2, b3, b4, b5, b6, b7, b8, b9, b10, b11, b12, b13, b14, b15, r0, r1, r2], [], [], [], []⟩ (fun w => by rw [← hm]; exact apply_any [b0, b1, b2, b3, b4, b5, b6, b7, b8, b9, b10, b11, b12, b13, b14, b15] rfl ⟨kind, reg, tg, re, im⟩ w) (by intros; kernel_rfl) (by intros; kernel_rfl) rfl rfl rfl oneNil ?_
      refine node_val ⟨[], [true], [], [], []⟩ (fun w => by have := valid_any [b0, b1, b2, b3, b4, b5, b6, b7, b8, b9, b10, b11, b12, b13, b14, b15] rfl w; rw [hval] at this; exact this) (by intros; kernel_rfl) (by intros; kernel_rfl) rfl rfl rfl oneNil ?_
      refine br_f rfl ?_
      refine node_val ⟨[], [kind == 1], [], [], []⟩ (fun w => reads_any ⟨kind, reg, tg, re, im⟩ w) (by intros; kernel_rfl) (by intros; kernel_rfl) rfl rfl rfl oneNil ?_
      have eqf : (!eqB [b0, b1, b2, b3, b4, b5, b6, b7, b8, b9, b10, b11, b12, b13, b14, b15] [b0, b1, b2, b3, b4, b5, b6, b7, b8, b9, b10, b11, b12, b13, b14, b15]) = false := by rw [eqB_self]; rfl
      have next : ∀ {m : Mem} {ρ : Env} {pre : List Nat} {L : Stack} {t : Tree}, t.holds ⟨Try.prog, w, fun _ => False, PureAt w (.bool true)⟩ ρ pre HX.nil L → t.holds ⟨Try.prog, w, fun _ => False, PureAt w (.bool true)⟩ ρ pre HX.nil L := fun h => h
      cases hkind : (kind == 1) with
      | true =>
        refine br_t rfl ?_
        refine br_f (Eq.trans (b := !eqB [b0, b1, b2, b3, b4, b5, b6, b7, b8, b9, b10, b11, b12, b13, b14, b15] [b0, b1, b2, b3, b4, b5, b6, b7, b8, b9, b10, b11, b12, b13, b14, b15]) (by kernel_rfl) eqf) ?_
        refine node_val ⟨[0], [], [], [], []⟩ (fun w => by have := opCheck_any ⟨kind, reg, tg, re, im⟩ w; rw [ho] at this; exact this) (by intros; kernel_rfl) (by intros; kernel_rfl) rfl rfl rfl oneNil ?_
        refine br_f (show (!((r0 == 0) == ((0 : Int) != 0))) = false by rw [show (r0 == 0) = false by simpa using hr0]; rfl) ?_
        refine br_t (show (r0 != 1) = true by simpa using hr1) ?_
        refine br_f (Eq.trans (b := !eqB [b0, b1, b2, b3, b4, b5, b6, b7, b8, b9, b10, b11, b12, b13, b14, b15] [b0, b1, b2, b3, b4, b5, b6, b7, b8, b9, b10, b11, b12, b13, b14, b15]) (by kernel_rfl) eqf) ?_
        refine br_f (show (r0 == 1) = false by simpa using hr1) ?_
        exact fin [b0, b1, b2, b3, b4, b5, b6, b7, b8, b9, b10, b11, b12, b13, b14, b15] rfl rfl hv (by intros; kernel_rfl)
      | false =>
        refine br_f rfl ?_
        refine node_val ⟨[0], [], [], [], []⟩ (fun w => by have := opCheck_any ⟨kind, reg, tg, re, im⟩ w; rw [ho] at this; exact this) (by intros; kernel_rfl) (by intros; kernel_rfl) rfl rfl rfl oneNil ?_
        refine br_f (show (!((r0 == 0) == ((0 : Int) != 0))) = false by rw [show (r0 == 0) = false by simpa using hr0]; rfl) ?_
        refine br_t (show (r0 != 1) = true by simpa using hr1) ?_
        refine br_f (Eq.trans (b := !eqB [b0, b1, b2, b3, b4, b5, b6, b7, b8, b9, b10, b11, b12, b13, b14, b15] [b0, b1, b2, b3, b4, b5, b6, b7, b8, b9, b10, b11, b12, b13, b14, b15]) (by kernel_rfl) eqf) ?_
        refine br_f (show (r0 == 1) = false by simpa using hr1) ?_
        exact fin [b0, b1, b2, b3, b4, b5, b6, b7, b8, b9, b10, b11, b12, b13, b14, b15] rfl rfl hv (by intros; kernel_rfl)
    · obtain ⟨q1, q2⟩ := q
      have hyl : ys.length = 16 := by have := applyM_len [b0, b1, b2, b3, b4, b5, b6, b7, b8, b9, b10, b11, b12, b13, b14, b15] ⟨kind, reg, tg, re, im⟩; rw [hm] at this; exact this
      rw [hm] at hval
      dsimp only at hval hq hys
      obtain ⟨_, r12, _⟩ := hopk ho
      obtain ⟨i, rfl⟩ : ∃ i : Nat, reg = (i : Int) := ⟨reg.toNat, by omega⟩
      rw [Int.toNat_natCast] at hq
      have hI : (0 : Int) ≤ i ∧ (i : Int) < 8 := by omega
      obtain ⟨t0, t1, t2, t3, t4, t5, t6, t7, t8, t9, t10, t11, t12, t13, t14, t15, rfl⟩ := list16 ys hyl
      have hli : 2 * i + 1 < ([t0, t1, t2, t3, t4, t5, t6, t7, t8, t9, t10, t11, t12, t13, t14, t15] : List Int).length := by simp only [List.length_cons, List.length_nil]; omega
      refine node_val (V := resV ([t0, t1, t2, t3, t4, t5, t6, t7, t8, t9, t10, t11, t12, t13, t14, t15], 1, q1, q2)) ⟨[t0, t1, t2, t3, t4, t5, t6, t7, t8, t9, t10, t11, t12, t13, t14, t15, 1, q1, q2], [], [], [], []⟩ (fun w => by rw [← hm]; exact apply_any [b0, b1, b2, b3, b4, b5, b6, b7, b8, b9, b10, b11, b12, b13, b14, b15] rfl ⟨kind, (i : Int), tg, re, im⟩ w) (by intros; kernel_rfl) (by intros; kernel_rfl) rfl rfl rfl oneNil ?_
      refine node_val ⟨[], [true], [], [], []⟩ (fun w => by have := valid_any [t0, t1, t2, t3, t4, t5, t6, t7, t8, t9, t10, t11, t12, t13, t14, t15] rfl w; rw [hval] at this; exact this) (by intros; kernel_rfl) (by intros; kernel_rfl) rfl rfl rfl oneNil ?_
      refine br_f rfl ?_
      refine node_val ⟨[], [kind == 1], [], [], []⟩ (fun w => reads_any ⟨kind, (i : Int), tg, re, im⟩ w) (by intros; kernel_rfl) (by intros; kernel_rfl) rfl rfl rfl oneNil ?_
      cases hkind : (kind == 1) with
      | true =>
        have e := hys (by simpa using hkind)
        refine br_t rfl ?_
        refine br_f (Eq.trans (b := !eqB [t0, t1, t2, t3, t4, t5, t6, t7, t8, t9, t10, t11, t12, t13, t14, t15] [b0, b1, b2, b3, b4, b5, b6, b7, b8, b9, b10, b11, b12, b13, b14, b15]) (by kernel_rfl) (by rw [e, eqB_self]; rfl)) ?_
        refine node_val ⟨[0], [], [], [], []⟩ (fun w => by have := opCheck_any ⟨kind, (i : Int), tg, re, im⟩ w; rw [ho] at this; exact this) (by intros; kernel_rfl) (by intros; kernel_rfl) rfl rfl rfl oneNil ?_
        refine br_f rfl (br_f rfl (br_t rfl ?_))
        refine need_i hI ?_
        refine node_rega [t0, t1, t2, t3, t4, t5, t6, t7, t8, t9, t10, t11, t12, t13, t14, t15] i ⟨[q1], [], [], [], []⟩ hli rfl (by intros; kernel_rfl) (by intros; kernel_rfl) (by rw [hq]; intros; kernel_rfl) rfl oneNil ?_
        refine br_f (show (q1 != q1) = false by simp) ?_
        refine need_i hI ?_
        refine node_regb [t0, t1, t2, t3, t4, t5, t6, t7, t8, t9, t10, t11, t12, t13, t14, t15] i ⟨[q2], [], [], [], []⟩ hli rfl (by intros; kernel_rfl) (by intros; kernel_rfl) (by rw [hq]; intros; kernel_rfl) rfl oneNil ?_
        refine br_f (show (q2 != q2) = false by simp) ?_
        exact fin [t0, t1, t2, t3, t4, t5, t6, t7, t8, t9, t10, t11, t12, t13, t14, t15] rfl rfl hval (by intros; kernel_rfl)
      | false =>
        refine br_f rfl ?_
        refine node_val ⟨[0], [], [], [], []⟩ (fun w => by have := opCheck_any ⟨kind, (i : Int), tg, re, im⟩ w; rw [ho] at this; exact this) (by intros; kernel_rfl) (by intros; kernel_rfl) rfl rfl rfl oneNil ?_
        refine br_f rfl (br_f rfl (br_t rfl ?_))
        refine need_i hI ?_
        refine node_rega [t0, t1, t2, t3, t4, t5, t6, t7, t8, t9, t10, t11, t12, t13, t14, t15] i ⟨[q1], [], [], [], []⟩ hli rfl (by intros; kernel_rfl) (by intros; kernel_rfl) (by rw [hq]; intros; kernel_rfl) rfl oneNil ?_
        refine br_f (show (q1 != q1) = false by simp) ?_
        refine need_i hI ?_
        refine node_regb [t0, t1, t2, t3, t4, t5, t6, t7, t8, t9, t10, t11, t12, t13, t14, t15] i ⟨[q2], [], [], [], []⟩ hli rfl (by intros; kernel_rfl) (by intros; kernel_rfl) (by rw [hq]; intros; kernel_rfl) rfl oneNil ?_
        refine br_f (show (q2 != q2) = false by simp) ?_
        exact fin [t0, t1, t2, t3, t4, t5, t6, t7, t8, t9, t10, t11, t12, t13, t14, t15] rfl rfl hval (by intros; kernel_rfl)
  · refine br_f (show decide ((k : Int) < (os.length : Int)) = false by simpa using hk) ?_
    exact pure_done fun _ => rfl
theorem stays_args (a : Option Addr) (cap : Nat) (ds : List Dat) (w : World) (hC : Cells w a (Dat.cellsAll ds)) (hds : ∀ d ∈ ds, d.In Try.prog w 29) (hl : ds.length ≤ 9223372036854775807) (hb : ds.length * Try.prog.bytesOf 29 ≤ reachBytes) :
    Calls Try.prog 8 #[.slice a ds.length cap] w fun e w' => e = .returned (.bool true) ∧ Below w.heap.size w w' := by
  obtain ⟨os, rfl, _⟩ := list_map_of OpD.dat (fun _ => True) ds (fun d hd => open_opd (hds d hd))
  rw [List.length_map] at hl ⊢
  exact stays_walk a cap os w hC hl
end Go.Proofs.Ytphfhfkfcileaaa
