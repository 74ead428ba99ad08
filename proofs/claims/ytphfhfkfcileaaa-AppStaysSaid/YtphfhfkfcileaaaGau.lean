/- Contracts of the numbers' layer at whole numbers. -/
import Derived.Test.YtphfhfkfcileaaaGauT
import Derived.Test.YtphfhfkfcileaaaFloat
import Derived.Test.YtphfhfkfcileaaaApp
namespace Go.Eng
open Ieee
theorem read_abs {x : Nat} {s : Bool} {m : Nat} {p : Int} (h : Ieee.double.read x = .number s m p) : Ieee.double.read (x % 2 ^ 63) = .number false m p := by
  obtain ⟨f1, f2, f3, f4⟩ := fmt
  unfold Format.read at *
  rw [f1] at h ⊢
  have e1 : x % 2 ^ 63 % 2 ^ 63 = x % 2 ^ 63 := by omega
  have e2 : x % 2 ^ 63 / 2 ^ 63 = 0 := by omega
  simp only [e1, e2] at h ⊢
  split at h
  · rename_i g; rw [if_pos g]; injection h with h1 h2 h3; rw [h2, h3]; rfl
  · rename_i g
    rw [if_neg g]
    split at h
    · rename_i g2; rw [if_pos g2]; injection h with h1 h2 h3; rw [h2, h3]; rfl
    · split at h <;> cases h
theorem isI_abs {x : Nat} {a : Int} (h : IsI x a) : IsI (x % 2 ^ 63) (a.natAbs : Int) := by
  obtain ⟨s, m, q, h1, h2, h3, h4⟩ := h
  exact ⟨false, m, q, read_abs h1, by rw [h2, Int.natAbs_natCast], fun _ => (decide_eq_false (by omega)).symm, by omega⟩
def truncBits (x : Nat) : Nat := FloatKind.f64.encode ((FloatKind.f64.decode x).integral .zero)
theorem isI_trunc {x : Nat} {a : Int} (h : IsI x a) (ha : a.natAbs < 2 ^ 53) : IsI (truncBits x) a := by
  obtain ⟨s, m, q, h1, h2, h3, h4⟩ := h
  have e : truncBits x = double.nearest s (a.natAbs * 2 ^ 0) (-((0 : Nat) : Int)) := by
    show double.write ((double.read x).integral .zero) = _
    rw [h1]
    have e0 : (-(q : Int)).toNat = 0 := by omega
    have e1 : (- -(q : Int)).toNat = q := by omega
    simp only [Datum.integral, e0, e1, Nat.shiftLeft_zero, h2, cut_exact, Format.write]
    simp
  rw [e]
  exact nearest_isI s a 0 ha h3
def cutSem (N : Bool → Nat → Sem Value) (d : Datum) : Sem Value :=
  match d with
  | .nan s t => N s t
  | .number s m p => pure (.float .f64 (FloatKind.f64.encode ((Datum.number s m p).integral .zero)))
  | .infinity s => pure (.float .f64 (FloatKind.f64.encode ((Datum.infinity s).integral .zero)))
theorem cut_sem (x : Nat) : ∃ N, Extern.MathFloor.toIntegral "math.archTrunc" .zero #[.float .f64 x] = cutSem N (FloatKind.f64.decode x) := by
  unfold Extern.MathFloor.toIntegral
  refine ⟨?N, ?_⟩
  rotate_left
  conv => lhs; delta Extern.MathFloor.toIntegral.match_2; whnf
  generalize FloatKind.f64.decode x = d
  cases d with
  | nan s t => rfl
  | number s m p => rfl
  | infinity s => rfl
theorem trunc_run {P : Program} {x : Nat} {a : Int} (h : IsI x a) (w : World) : (Extern.MathFloor.toIntegral "math.archTrunc" .zero #[.float .f64 x]).run P w = .ok (.float .f64 (truncBits x)) w := by
  obtain ⟨s, m, q, h1, h2, h3, h4⟩ := h
  have e : FloatKind.f64.decode x = .number s m (-(q : Int)) := h1
  obtain ⟨N, hN⟩ := cut_sem x
  rw [hN]
  unfold truncBits
  rw [e]
  rfl
theorem andNot_63 {x : Nat} (h : x < 2 ^ 64) : ifn .andNot .u64 (x : Int) 9223372036854775808 = ((x % 2 ^ 63 : Nat) : Int) := by
  have e : (BitVec.ofInt 64 (x : Int) &&& ~~~BitVec.ofInt 64 9223372036854775808).toNat = x % 2 ^ 63 := by
    have h1 : (~~~BitVec.ofInt 64 9223372036854775808) = BitVec.ofNat 64 (2 ^ 63 - 1) := by decide
    rw [h1, BitVec.toNat_and]
    have h2 : (BitVec.ofInt 64 (x : Int)).toNat = x := by
      simp only [BitVec.toNat_ofInt]; omega
    have h3 : (BitVec.ofNat 64 (2 ^ 63 - 1)).toNat = 2 ^ 63 - 1 := by decide
    rw [h2, h3]
    exact Nat.and_two_pow_sub_one_eq_mod x 63
  show IntKind.u64.wrap ((BitVec.ofInt 64 (x : Int) &&& ~~~BitVec.ofInt 64 9223372036854775808).toNat : Int) = _
  rw [e]
  have : x % 2 ^ 63 < 2 ^ 63 := Nat.mod_lt _ (by decide)
  exact IntWalk.u64_in _ (by omega)
theorem isI_lit : IsI 4697254411347427328 1048576 ∧ IsI 0 0 ∧ IsI 4607182418800017408 1 := by
  refine ⟨⟨false, 2 ^ 52, 32, by decide, by decide, fun _ => by decide, by decide⟩, isI_zero (s := false) (q := 1074) (by decide) (by decide), ⟨false, 2 ^ 52, 52, by decide, by decide, fun _ => by decide, by decide⟩⟩
end Go.Eng
namespace Go.Proofs.Ytphfhfkfcileaaa
open Go.ChangeShapes Go.WideShapes Go.ChangeAt Go.RowKit Go.Syn Go.Eng
set_option linter.unusedVariables false
set_option linter.unusedSimpArgs false
theorem oneF {k : FloatKind} {x : Nat} : ∀ v, v ∈ [Value.float k x] → v.oneCell' = true := fun v hv => by simp only [List.mem_singleton] at hv; subst hv; rfl
theorem oneC {k : FloatKind} {x y : Nat} : ∀ v, v ∈ [Value.complex k x y] → v.oneCell' = true := fun v hv => by simp only [List.mem_singleton] at hv; subst hv; rfl
theorem one2 {u z : Value} (h : u.oneCell' = true) (h2 : z.oneCell' = true) : ∀ v, v ∈ [u, z] → v.oneCell' = true := fun v hv => by simp only [List.mem_cons, List.not_mem_nil, or_false] at hv; rcases hv with rfl | rfl <;> assumption
theorem one1 {u : Value} (h : u.oneCell' = true) : ∀ v, v ∈ [u] → v.oneCell' = true := fun v hv => by simp only [List.mem_singleton] at hv; subst hv; exact h
theorem abs_any {x : Nat} (hx : x < 2 ^ 64) (w : World) : Calls Try.prog 30 #[.float .f64 x] w (PureAt w (.float .f64 (x % 2 ^ 63))) := by
  refine calls_at (tab_ok _) Try.func30 rfl tAbs (ρ := ⟨[], [], [.float .f64 x], [], []⟩) (ids := []) rfl (Facts.initP rfl oneF) ?_
  refine node_ext (AS := #[.float .f64 x]) (V := .int .u64 (x : Int)) (e := Extern.MathFloatBits.float64bits) ⟨[(x : Int)], [], [], [], []⟩ Try.func34 (by kernel_rfl) (by kernel_rfl) (by kernel_rfl) (by kernel_rfl) (fun ids => rfl) (fun w => rfl) (fun _ => rfl) rfl rfl rfl oneNil ?_
  refine node_ext (V := .float .f64 (x % 2 ^ 63)) (e := Extern.MathFloatBits.float64frombits) ⟨[], [], [.float .f64 (x % 2 ^ 63)], [], []⟩ Try.func33 (by kernel_rfl) (by kernel_rfl) (by kernel_rfl) (by kernel_rfl) (AS := #[.int .u64 ((x % 2 ^ 63 : Nat) : Int)]) (fun ids => ?_) (fun w => rfl) (fun _ => rfl) rfl rfl rfl oneF (pure_done fun _ => rfl)
  have := andNot_63 hx
  show #[Value.int .u64 (ifn .andNot .u64 (x : Int) 9223372036854775808)] = _
  rw [this]
theorem truncF_any {x : Nat} {a : Int} (hx : IsI x a) (w : World) : Calls Try.prog 29 #[.float .f64 x] w (PureAt w (.float .f64 (truncBits x))) := by
  refine calls_at (tab_ok _) Try.func29 rfl tTrunc (ρ := ⟨[], [], [.float .f64 x], [], []⟩) (ids := []) rfl (Facts.initP rfl oneF) ?_
  exact node_ext (AS := #[.float .f64 x]) (V := .float .f64 (truncBits x)) (e := Extern.MathFloor.toIntegral "math.archTrunc" .zero) ⟨[], [], [.float .f64 (truncBits x)], [], []⟩ Try.func31 (by kernel_rfl) (by kernel_rfl) (by kernel_rfl) (by kernel_rfl) (fun ids => rfl) (fun w => trunc_run hx w) (fun _ => rfl) rfl rfl rfl oneF (pure_done fun _ => rfl)
def inP (a : Int) : Bool := decide (a.natAbs ≤ 1048576)
theorem fit_in (a b : Int) : fitB a b = (inP a && inP b) := by
  unfold fitB inP
  rw [← Bool.decide_and]
  exact decide_eq_decide.2 (by omega)
theorem whole_any {x : Nat} {a : Int} (hx : IsI x a) (ha : a.natAbs < 2 ^ 53) (w : World) : Calls Try.prog 28 #[.float .f64 x] w (PureAt w (.tuple #[.int .i64 (if inP a then a else 0), .bool (inP a)])) := by
  refine calls_at (tab_ok _) Try.func28 rfl tWhole (ρ := ⟨[], [], [.float .f64 x], [], []⟩) (ids := []) rfl (Facts.initP rfl oneF) ?_
  refine node_val ⟨[], [], [.float .f64 (truncBits x)], [], []⟩ (fun w => truncF_any hx w) (fun _ => rfl) (fun _ => rfl) rfl rfl rfl oneF ?_
  refine node_bin (x := .float .f64 (truncBits x)) (y := .float .f64 x) (V := .bool false) ⟨[], [false], [], [], []⟩ (fun _ => rfl) (fun _ => rfl) (fun _ => rfl) (fun w => ?_) (fun _ => rfl) rfl rfl rfl oneNil ?_
  · rw [binOp_float_cmp_neq, isI_order (isI_trunc hx ha) hx]
    have : compare a a = Ordering.eq := by simp
    rw [this]; rfl
  refine br_f rfl ?_
  refine node_val ⟨[], [], [.float .f64 (x % 2 ^ 63)], [], []⟩ (fun w => abs_any (by obtain ⟨_, _, _, _, _, _, h⟩ := hx; exact h) w) (fun _ => rfl) (fun _ => rfl) rfl rfl rfl oneF ?_
  refine node_bin (x := .float .f64 (x % 2 ^ 63)) (y := .float .f64 4697254411347427328) (V := .bool (!inP a)) ⟨[], [!inP a], [], [], []⟩ (fun _ => rfl) (fun _ => rfl) (fun _ => rfl) (fun w => ?_) (fun _ => rfl) rfl rfl rfl oneNil ?_
  · rw [binOp_float_cmp_gtr, isI_order (isI_abs hx) isI_lit.1]
    have : (some (compare (a.natAbs : Int) 1048576) == some Ordering.gt) = !inP a := by
      unfold inP
      rcases Nat.lt_trichotomy a.natAbs 1048576 with g | g | g
      · have h1 : compare (a.natAbs : Int) 1048576 = .lt := by simp only [compare, compareOfLessAndEq]; rw [if_pos (by omega)]
        rw [h1, decide_eq_true (by omega)]; rfl
      · have h1 : compare (a.natAbs : Int) 1048576 = .eq := by simp only [compare, compareOfLessAndEq]; rw [if_neg (by omega), if_pos (by omega)]
        rw [h1, decide_eq_true (by omega)]; rfl
      · have h1 : compare (a.natAbs : Int) 1048576 = .gt := by simp only [compare, compareOfLessAndEq]; rw [if_neg (by omega), if_neg (by omega)]
        rw [h1, decide_eq_false (by omega)]; rfl
    rw [this]; rfl
  cases hi : inP a with
  | false => exact br_t rfl (pure_done fun _ => rfl)
  | true =>
    refine br_f rfl ?_
    refine node_conv (x := .float .f64 x) (V := .int .i64 a) ⟨[a], [], [], [], []⟩ (fun _ => rfl) (fun w => ?_) (fun _ => rfl) rfl rfl rfl oneNil (pure_done fun _ => rfl)
    exact run_convert_float_int w _ _ _ _ _ _ (by kernel_rfl) Try.underlying3 (isI_int hx (by omega) (by omega))
def partsV (a b : Int) : Value := .tuple #[.int .i64 (if fitB a b then a else 0), .int .i64 (if fitB a b then b else 0), .bool (fitB a b)]
theorem parts_any {x y : Nat} {a b : Int} (hx : IsI x a) (hy : IsI y b) (ha : a.natAbs < 2 ^ 53) (hb : b.natAbs < 2 ^ 53) (w : World) : Calls Try.prog 23 #[.complex .f64 x y] w (PureAt w (partsV a b)) := by
  refine calls_at (tab_ok _) Try.func23 rfl tParts (ρ := ⟨[], [], [.complex .f64 x y], [], []⟩) (ids := []) rfl (Facts.initP rfl oneC) ?_
  refine node_real (x := x) (y := y) ⟨[], [], [.float .f64 x], [], []⟩ (fun _ => rfl) (fun _ => rfl) rfl rfl rfl oneF ?_
  refine node_val ⟨[if inP a then a else 0], [inP a], [], [], []⟩ (fun w => whole_any hx ha w) (fun _ => rfl) (fun _ => rfl) rfl rfl rfl oneNil ?_
  refine node_imag (x := x) (y := y) ⟨[], [], [.float .f64 y], [], []⟩ (fun _ => rfl) (fun _ => rfl) rfl rfl rfl oneF ?_
  refine node_val ⟨[if inP b then b else 0], [inP b], [], [], []⟩ (fun w => whole_any hy hb w) (fun _ => rfl) (fun _ => rfl) rfl rfl rfl oneNil ?_
  unfold partsV
  rw [fit_in]
  cases h1 : inP a with
  | false => exact br_t rfl (pure_done fun _ => rfl)
  | true =>
    refine br_f rfl ?_
    cases h2 : inP b with
    | false => exact br_t rfl (pure_done fun _ => rfl)
    | true => exact br_f rfl (pure_done fun _ => rfl)
theorem pure_of {P : Program} {f : Nat} {args : Array Value} {w : World} {V : Value} (h : Calls P f args w fun e w' => e = .returned V ∧ w = w') : Calls P f args w (PureAt w V) := pure_same h
theorem numV_one (a b : Int) : (numV a b).oneCell' = true := by unfold numV; split <;> rfl
def rightV (ok : Bool) (a b : Int) : Value := .tuple #[if ok && fitB a b then numV a b else .complex .f64 0 0, .bool (ok && fitB a b)]
theorem right_any {x y : Nat} {a b : Int} (hx : IsI x a) (hy : IsI y b) (ha : a.natAbs < 2 ^ 53) (hb : b.natAbs < 2 ^ 53) (ok : Bool) (w : World) : Calls Try.prog 26 #[.complex .f64 x y, .bool ok] w (PureAt w (rightV ok a b)) := by
  refine calls_at (tab_ok _) Try.func26 rfl tRight (ρ := ⟨[], [ok], [.complex .f64 x y], [], []⟩) (ids := []) rfl (Facts.initP rfl oneC) ?_
  refine node_val ⟨[if fitB a b then a else 0, if fitB a b then b else 0], [fitB a b], [], [], []⟩ (fun w => parts_any hx hy ha hb w) (fun _ => rfl) (fun _ => rfl) rfl rfl rfl oneNil ?_
  unfold rightV
  cases ok with
  | false => exact br_t rfl (pure_done fun _ => rfl)
  | true =>
    refine br_f rfl ?_
    cases h2 : fitB a b with
    | false => exact br_t rfl (pure_done fun _ => rfl)
    | true =>
      refine br_f rfl ?_
      have hnv : fitB a b = true := h2
      refine node_val ⟨[], [true], [numV a b], [], []⟩ (V := .tuple #[numV a b, .bool true]) (fun w => by have := pure_of (of_any a b w); rw [h2] at this; exact this) (fun _ => rfl) (fun _ => rfl) rfl rfl rfl (one1 (numV_one a b)) (pure_done fun _ => rfl)
theorem both_any {x y u v : Nat} {a b c d : Int} (hx : IsI x a) (hy : IsI y b) (hu : IsI u c) (hv : IsI v d) (ha : a.natAbs < 2 ^ 53) (hb : b.natAbs < 2 ^ 53) (hc : c.natAbs < 2 ^ 53) (hd : d.natAbs < 2 ^ 53) (w : World) : Calls Try.prog 27 #[.complex .f64 x y, .complex .f64 u v] w (PureAt w (.bool (fitB a b && fitB c d))) := by
  refine calls_at (tab_ok _) Try.func27 rfl tBoth (ρ := ⟨[], [], [.complex .f64 x y, .complex .f64 u v], [], []⟩) (ids := []) rfl (Facts.initP rfl (one2 rfl rfl)) ?_
  refine node_val ⟨[if fitB a b then a else 0, if fitB a b then b else 0], [fitB a b], [], [], []⟩ (fun w => parts_any hx hy ha hb w) (fun _ => rfl) (fun _ => rfl) rfl rfl rfl oneNil ?_
  refine node_val ⟨[if fitB c d then c else 0, if fitB c d then d else 0], [fitB c d], [], [], []⟩ (fun w => parts_any hu hv hc hd w) (fun _ => rfl) (fun _ => rfl) rfl rfl rfl oneNil ?_
  cases h2 : fitB a b with
  | false => exact br_f rfl (pure_done fun _ => rfl)
  | true => exact br_t rfl (pure_done fun _ => rfl)
theorem right_true (a b : Int) : rightV true a b = .tuple #[numV a b, .bool (fitB a b)] := by
  unfold rightV numV
  cases h : fitB a b <;> simp
theorem fit_abs {a b : Int} (h : fitB a b = true) : a.natAbs ≤ 1048576 ∧ b.natAbs ≤ 1048576 := by
  unfold fitB at h
  have := of_decide_eq_true h
  omega
theorem numV_eq {a b : Int} (h : fitB a b = true) : numV a b = .complex .f64 (floatOfInt .f64 a) (floatOfInt .f64 b) := by unfold numV; rw [if_pos h]
theorem isI_of {a : Int} (h : a.natAbs ≤ 1048576) : IsI (floatOfInt .f64 a) a := isI_ofInt (by omega)
theorem number_any (a b : Int) (w : World) : Calls Try.prog 19 #[.agg #[.int .i64 a, .int .i64 b]] w (PureAt w (numV a b)) := by
  refine calls_at (tab_ok _) Try.func19 rfl tNumber (ρ := ⟨[a, b], [], [], [], []⟩) (ids := []) rfl (Facts.initP rfl oneNil) ?_
  exact node_val ⟨[], [fitB a b], [numV a b], [], []⟩ (fun w => pure_of (of_any a b w)) (fun _ => rfl) (fun _ => rfl) rfl rfl rfl (one1 (numV_one a b)) (pure_done fun _ => rfl)
def sumV (a b : Int) : Value := .tuple #[numV a b, .bool (fitB a b)]
theorem add_any {a b c d : Int} (h1 : fitB a b = true) (h2 : fitB c d = true) (w : World) : Calls Try.prog 20 #[numV a b, numV c d] w (PureAt w (sumV (a + c) (b + d))) := by
  obtain ⟨ha, hb⟩ := fit_abs h1
  obtain ⟨hc, hd⟩ := fit_abs h2
  obtain ⟨r, r1, r2⟩ := isI_add (isI_of ha) (isI_of hc) (by omega)
  obtain ⟨q, q1, q2⟩ := isI_add (isI_of hb) (isI_of hd) (by omega)
  rw [numV_eq h1, numV_eq h2]
  refine calls_at (tab_ok _) Try.func20 rfl tAdd (ρ := ⟨[], [], [.complex .f64 (floatOfInt .f64 a) (floatOfInt .f64 b), .complex .f64 (floatOfInt .f64 c) (floatOfInt .f64 d)], [], []⟩) (ids := []) rfl (Facts.initP rfl (one2 rfl rfl)) ?_
  refine node_bin (x := .complex .f64 (floatOfInt .f64 a) (floatOfInt .f64 b)) (y := .complex .f64 (floatOfInt .f64 c) (floatOfInt .f64 d)) (V := .complex .f64 r q) ⟨[], [], [.complex .f64 r q], [], []⟩ (fun _ => rfl) (fun _ => rfl) (fun _ => rfl) (fun w => ?_) (fun _ => rfl) rfl rfl rfl oneC ?_
  · exact run_complex_sum w .add (.inl rfl) _ _ _ _ _ _ _ _ (by unfold cSumBits; rw [r1, q1]; rfl)
  refine node_val ⟨[], [fitB a b && fitB c d], [], [], []⟩ (fun w => both_any (isI_of ha) (isI_of hb) (isI_of hc) (isI_of hd) (by omega) (by omega) (by omega) (by omega) w) (fun _ => rfl) (fun _ => rfl) rfl rfl rfl oneNil ?_
  rw [h1, h2]
  refine node_val ⟨[], [fitB (a + c) (b + d)], [numV (a + c) (b + d)], [], []⟩ (V := rightV true (a + c) (b + d)) (fun w => right_any r2 q2 (by omega) (by omega) true w) (fun _ => rfl) (fun _ => (right_true _ _).symm) rfl rfl rfl (one1 (numV_one _ _)) (pure_done fun _ => rfl)
theorem mul_abs {a b : Int} (ha : a.natAbs ≤ 1048576) (hb : b.natAbs ≤ 1048576) : (a * b).natAbs ≤ 1099511627776 := by
  rw [Int.natAbs_mul]
  exact Nat.le_trans (Nat.mul_le_mul ha hb) (by decide)
theorem mul_any {a b c d : Int} (h1 : fitB a b = true) (h2 : fitB c d = true) (w : World) : Calls Try.prog 21 #[numV a b, numV c d] w (PureAt w (sumV (a * c - b * d) (a * d + b * c))) := by
  obtain ⟨ha, hb⟩ := fit_abs h1
  obtain ⟨hc, hd⟩ := fit_abs h2
  have m1 := mul_abs ha hc
  have m2 := mul_abs hb hd
  have m3 := mul_abs ha hd
  have m4 := mul_abs hb hc
  obtain ⟨x1, x2, x3⟩ := isI_mul (isI_of ha) (isI_of hc) (by omega)
  obtain ⟨y1, y2, y3⟩ := isI_mul (isI_of hb) (isI_of hd) (by omega)
  obtain ⟨r, r1, r2⟩ := isI_sub x3 y3 (by omega)
  obtain ⟨u1, u2, u3⟩ := isI_mul (isI_of ha) (isI_of hd) (by omega)
  obtain ⟨v1, v2, v3⟩ := isI_mul (isI_of hb) (isI_of hc) (by omega)
  obtain ⟨q, q1, q2⟩ := isI_add u3 v3 (by omega)
  rw [numV_eq h1, numV_eq h2]
  refine calls_at (tab_ok _) Try.func21 rfl tMul (ρ := ⟨[], [], [.complex .f64 (floatOfInt .f64 a) (floatOfInt .f64 b), .complex .f64 (floatOfInt .f64 c) (floatOfInt .f64 d)], [], []⟩) (ids := []) rfl (Facts.initP rfl (one2 rfl rfl)) ?_
  refine node_bin (x := .complex .f64 (floatOfInt .f64 a) (floatOfInt .f64 b)) (y := .complex .f64 (floatOfInt .f64 c) (floatOfInt .f64 d)) (V := .complex .f64 r q) ⟨[], [], [.complex .f64 r q], [], []⟩ (fun _ => rfl) (fun _ => rfl) (fun _ => rfl) (fun w => ?_) (fun _ => rfl) rfl rfl rfl oneC ?_
  · exact run_complex_mul w _ _ _ _ _ _ _ (by unfold cMulBits; rw [x2, y2]; show (floatBits .sub .f64 x1 y1).bind _ = _; rw [r1, u2, v2]; show (floatBits .add .f64 u1 v1).bind _ = _; rw [q1]; rfl)
  refine node_val ⟨[], [fitB a b && fitB c d], [], [], []⟩ (fun w => both_any (isI_of ha) (isI_of hb) (isI_of hc) (isI_of hd) (by omega) (by omega) (by omega) (by omega) w) (fun _ => rfl) (fun _ => rfl) rfl rfl rfl oneNil ?_
  rw [h1, h2]
  refine node_val ⟨[], [fitB (a * c - b * d) (a * d + b * c)], [numV (a * c - b * d) (a * d + b * c)], [], []⟩ (V := rightV true (a * c - b * d) (a * d + b * c)) (fun w => right_any r2 q2 (by omega) (by omega) true w) (fun _ => rfl) (fun _ => (right_true _ _).symm) rfl rfl rfl (one1 (numV_one _ _)) (pure_done fun _ => rfl)
/-- A quarter turn, so many times. -/
def turnN : Nat → Int × Int → Int × Int
  | 0, p => p
  | n + 1, p => turnN n (-p.2, p.1)
theorem turnN_succ (n : Nat) (p : Int × Int) : turnN (n + 1) p = (-(turnN n p).2, (turnN n p).1) := by
  induction n generalizing p with
  | zero => rfl
  | succ n ih => rw [turnN, ih]; rfl
theorem turnN_abs {k : Nat} (n : Nat) (p : Int × Int) (h : p.1.natAbs ≤ k ∧ p.2.natAbs ≤ k) : (turnN n p).1.natAbs ≤ k ∧ (turnN n p).2.natAbs ≤ k := by
  induction n with
  | zero => exact h
  | succ n ih => rw [turnN_succ]; simp only; omega
def TurnI (q : Nat) (p : Int × Int) (vs : Vals) (hx : HX) : Prop := ∃ (k x y : Nat), k ≤ q ∧ vs = ⟨[(k : Int)], [], [.complex .f64 x y], [], []⟩ ∧ IsI x (turnN k p).1 ∧ IsI y (turnN k p).2 ∧ hx = HX.nil
theorem turn_any {a b : Int} (h1 : fitB a b = true) (q : Nat) (hq : q ≤ 3) (w : World) : Calls Try.prog 22 #[numV a b, .int .i64 (q : Int)] w (PureAt w (sumV (turnN q (a, b)).1 (turnN q (a, b)).2)) := by
  obtain ⟨ha, hb⟩ := fit_abs h1
  rw [numV_eq h1]
  refine calls_at (tab_ok _) Try.func22 rfl tTurn (ρ := ⟨[(q : Int)], [], [.complex .f64 (floatOfInt .f64 a) (floatOfInt .f64 b)], [], []⟩) (ids := []) rfl (Facts.initP rfl oneC) ?_
  refine node_val ⟨[if fitB a b then a else 0, if fitB a b then b else 0], [fitB a b], [], [], []⟩ (fun w => parts_any (isI_of ha) (isI_of hb) (by omega) (by omega) w) (fun _ => rfl) (fun _ => rfl) rfl rfl rfl oneNil ?_
  have hq3 : ifn .and .i64 (q : Int) 3 = (q : Int) := by
    rcases (by omega : q = 0 ∨ q = 1 ∨ q = 2 ∨ q = 3) with rfl | rfl | rfl | rfl <;> decide
  refine loop_i (TurnI q (a, b)) (fun vs => q - (vs.i.headD 0).toNat) (fun ids w2 hp hf => ⟨HX.nil, HXok.none _ _, 0, _, _, by omega, rfl, isI_of ha, isI_of hb, rfl⟩) ?_
  rintro vs hx' hcnt ⟨k, x, y, hk, rfl, hx, hy, rfl⟩
  obtain ⟨t1, t2⟩ := turnN_abs (k := 1048576) k (a, b) ⟨ha, hb⟩
  have hcmp : ∀ bb, decide (k < q) = bb → decide ((k : Int) < ifn .and .i64 (q : Int) 3) = bb := fun bb e => by rw [hq3, ← e]; exact decide_eq_decide.2 (by omega)
  by_cases hlt : k < q
  · refine br_t (hcmp true (by simpa using hlt)) ?_
    obtain ⟨_, l0, l1⟩ := isI_lit
    obtain ⟨x1, x2, x3⟩ := isI_mul hx l0 (by simp)
    obtain ⟨y1, y2, y3⟩ := isI_mul hy l1 (by simp; omega)
    obtain ⟨r, r1, r2⟩ := isI_sub x3 y3 (by simp; omega)
    obtain ⟨u1, u2, u3⟩ := isI_mul hx l1 (by simp; omega)
    obtain ⟨v1, v2, v3⟩ := isI_mul hy l0 (by simp)
    obtain ⟨s, s1, s2⟩ := isI_add u3 v3 (by simp; omega)
    refine node_bin (x := .complex .f64 x y) (y := .complex .f64 0 4607182418800017408) (V := .complex .f64 r s) ⟨[], [], [.complex .f64 r s], [], []⟩ (fun _ => rfl) (fun _ => rfl) (fun _ => rfl) (fun w => ?_) (fun _ => rfl) rfl rfl rfl oneC ?_
    · exact run_complex_mul w _ _ _ _ _ _ _ (by unfold cMulBits; rw [x2, y2]; show (floatBits .sub .f64 x1 y1).bind _ = _; rw [r1, u2, v2]; show (floatBits .add .f64 u1 v1).bind _ = _; rw [s1]; rfl)
    have hwk : IntKind.i64.wrap ((k : Int) + 1) = ((k + 1 : Nat) : Int) := by rw [wrap_i64 (by omega)]; omega
    intro ids w2 hp hf
    refine ⟨HX.nil, HXok.none _ _, _, rfl, ⟨k + 1, r, s, by omega, by rw [← hwk]; rfl, ?_, ?_, rfl⟩, ?_⟩
    · rw [turnN_succ]; simpa using r2
    · rw [turnN_succ]; simpa using s2
    · show q - (IntKind.i64.wrap ((k : Int) + 1)).toNat < q - ((k : Int)).toNat
      rw [hwk]; omega
  · refine br_f (hcmp false (by simpa using hlt)) ?_
    obtain rfl : k = q := by omega
    rw [h1]
    refine node_val ⟨[], [fitB (turnN k (a, b)).1 (turnN k (a, b)).2], [numV (turnN k (a, b)).1 (turnN k (a, b)).2], [], []⟩ (V := rightV true (turnN k (a, b)).1 (turnN k (a, b)).2) (fun w => right_any hx hy (by omega) (by omega) true w) (fun _ => rfl) (fun _ => (right_true _ _).symm) rfl rfl rfl (one1 (numV_one _ _)) (pure_done fun _ => rfl)
def Turn3I (q : Nat) (p : Int × Int) (vs : Vals) (hx : HX) : Prop := ∃ (k : Nat), k ≤ q ∧ vs = ⟨[(turnN k p).1, (turnN k p).2, (k : Int)], [], [], [], []⟩ ∧ hx = HX.nil
theorem turn3_any {a b : Int} (h1 : fitB a b = true) (q : Nat) (hq : q ≤ 3) (w : World) : Calls Try.prog 17 #[.int .i64 a, .int .i64 b, .int .i64 (q : Int)] w (PureAt w (.tuple #[.int .i64 (turnN q (a, b)).1, .int .i64 (turnN q (a, b)).2])) := by
  obtain ⟨ha, hb⟩ := fit_abs h1
  refine calls_at (tab_ok _) Try.func17 rfl tTurn3 (ρ := ⟨[a, b, (q : Int)], [], [], [], []⟩) (ids := []) rfl (Facts.initP rfl oneNil) ?_
  have hq3 : ifn .rem .i64 (q : Int) 4 = (q : Int) := by
    rcases (by omega : q = 0 ∨ q = 1 ∨ q = 2 ∨ q = 3) with rfl | rfl | rfl | rfl <;> decide
  refine br_f (show decide (ifn .rem .i64 (q : Int) 4 < 0) = false by rw [hq3]; simp) ?_
  refine loop_i (Turn3I q (a, b)) (fun vs => q - (vs.i.getD 2 0).toNat) (fun ids w2 hp hf => ⟨HX.nil, HXok.none _ _, 0, by omega, rfl, rfl⟩) ?_
  rintro vs hx' hcnt ⟨k, hk, rfl, rfl⟩
  obtain ⟨t1, t2⟩ := turnN_abs (k := 1048576) k (a, b) ⟨ha, hb⟩
  have hcmp : ∀ bb, decide (k < q) = bb → decide ((k : Int) < ifn .rem .i64 (q : Int) 4) = bb := fun bb e => by rw [hq3, ← e]; exact decide_eq_decide.2 (by omega)
  by_cases hlt : k < q
  · refine br_t (hcmp true (by simpa using hlt)) ?_
    have hwk : IntKind.i64.wrap ((k : Int) + 1) = ((k + 1 : Nat) : Int) := by rw [wrap_i64 (by omega)]; omega
    have hwn : IntKind.i64.wrap (0 - (turnN k (a, b)).2) = -(turnN k (a, b)).2 := by rw [wrap_i64 (by omega)]; omega
    intro ids w2 hp hf
    refine ⟨HX.nil, HXok.none _ _, _, rfl, ⟨k + 1, by omega, ?_, rfl⟩, ?_⟩
    · rw [turnN_succ, ← hwk, ← hwn]; rfl
    · show q - (IntKind.i64.wrap ((k : Int) + 1)).toNat < q - ((k : Int)).toNat
      rw [hwk]; omega
  · refine br_f (hcmp false (by simpa using hlt)) ?_
    obtain rfl : k = q := by omega
    exact pure_done fun _ => rfl
end Go.Proofs.Ytphfhfkfcileaaa
