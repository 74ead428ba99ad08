/- Part 1 of the texts of a proof about the given program: what the statement's proof needs of them. -/
import Ieee.Arith
import Derived.Laws.Cover2
import Derived.Laws.ComplexArith
namespace Go.Eng
open Ieee
set_option linter.unusedVariables false
set_option linter.unusedSimpArgs false
def IsI (x : Nat) (n : Int) : Prop := ∃ s m q, Ieee.double.read x = .number s m (-((q : Nat) : Int)) ∧ m = n.natAbs * 2 ^ q ∧ (n ≠ 0 → s = decide (n < 0)) ∧ x < 2 ^ 64
theorem log2_mul (n q : Nat) (h : n ≠ 0) : (n * 2 ^ q).log2 = n.log2 + q := by
  have h1 := (Nat.log2_eq_iff h).1 (rfl : n.log2 = n.log2)
  refine (Nat.log2_eq_iff (Nat.mul_ne_zero h (Nat.ne_of_gt (Nat.pow_pos (by decide))))).2 ⟨?_, ?_⟩
  · rw [Nat.pow_add]; exact Nat.mul_le_mul_right _ h1.1
  · rw [show n.log2 + q + 1 = n.log2 + 1 + q by omega, Nat.pow_add]; exact Nat.mul_lt_mul_of_pos_right h1.2 (Nat.pow_pos (by decide))
theorem cut_exact (way : Toward) (neg : Bool) (n d : Nat) : way.cut neg (n * 2 ^ d) d = n := by
  rcases Nat.eq_zero_or_pos n with h0 | h0
  · subst h0
    simp [Toward.cut]
    cases way <;> simp
  · have hl := log2_mul n d (by omega)
    have e : min d ((n * 2 ^ d).log2 + 2) = d := by omega
    have hp : 0 < 2 ^ d := Nat.pow_pos (by decide)
    unfold Toward.cut
    rw [e]
    simp only [Nat.one_shiftLeft, Nat.mul_div_cancel _ hp, Nat.mul_mod_left]
    cases way <;> simp [Nat.ne_of_gt hp]
theorem fmt : double.signWeight = 2 ^ 63 ∧ double.binade = 2 ^ 52 ∧ double.infRung = 2047 * 2 ^ 52 ∧ double.leastPlace = -1074 := by decide
theorem read_word (s : Bool) (n k : Nat) (hk : k ≤ 52) (h1 : 2 ^ 52 ≤ n * 2 ^ k) (h2 : n * 2 ^ k < 2 ^ 53) : double.read (double.word s ((1074 - k) * 2 ^ 52 + n * 2 ^ k)) = .number s (n * 2 ^ k) (-(k : Int)) ∧ double.word s ((1074 - k) * 2 ^ 52 + n * 2 ^ k) < 2 ^ 64 := by
  obtain ⟨f1, f2, f3, f4⟩ := fmt
  generalize n * 2 ^ k = c at *
  have hw : double.word s ((1074 - k) * 2 ^ 52 + c) = (if s then 2 ^ 63 else 0) + ((1074 - k) * 2 ^ 52 + c) := by
    unfold Format.word; rw [f1]; cases s <;> simp
  have hr : (1074 - k) * 2 ^ 52 + c < 2047 * 2 ^ 52 := by omega
  rw [hw]
  refine ⟨?_, by split <;> omega⟩
  unfold Format.read
  rw [f1, f2, f3, f4]
  have hm : ((if s then 2 ^ 63 else 0) + ((1074 - k) * 2 ^ 52 + c)) % 2 ^ 63 = (1074 - k) * 2 ^ 52 + c := by split <;> omega
  have hd : (((if s then 2 ^ 63 else 0) + ((1074 - k) * 2 ^ 52 + c)) / 2 ^ 63 % 2 == 1) = s := by
    cases s
    · have : (((if false = true then 2 ^ 63 else 0) + ((1074 - k) * 2 ^ 52 + c)) / 2 ^ 63 % 2) = 0 := by simp; omega
      rw [this]; rfl
    · have : (((if true = true then 2 ^ 63 else 0) + ((1074 - k) * 2 ^ 52 + c)) / 2 ^ 63 % 2) = 1 := by simp; omega
      rw [this]; rfl
  simp only [hm, hd]
  rw [if_neg (by omega), if_pos hr]
  have e1 : 2 ^ 52 + ((1074 - k) * 2 ^ 52 + c) % 2 ^ 52 = c := by omega
  have e2 : ((1074 - k) * 2 ^ 52 + c) / 2 ^ 52 - 1 = 1074 - k := by omega
  rw [e1, e2]
  congr 1
  omega
theorem zero_pow (q : Nat) : 0 = Int.natAbs 0 * 2 ^ q := by rw [Int.natAbs_zero, Nat.zero_mul]
theorem isI_zero {x : Nat} {s : Bool} {q : Nat} (h : Ieee.double.read x = .number s 0 (-(q : Int))) (hx : x < 2 ^ 64) : IsI x 0 := ⟨s, 0, q, h, zero_pow q, fun h => absurd rfl h, hx⟩
theorem nearest_isI (s : Bool) (n : Int) (q : Nat) (h : n.natAbs < 2 ^ 53) (hs : n ≠ 0 → s = decide (n < 0)) : IsI (double.nearest s (n.natAbs * 2 ^ q) (-(q : Int))) n := by
  obtain ⟨f1, f2, f3, f4⟩ := fmt
  rcases Nat.eq_zero_or_pos n.natAbs with h0 | h0
  · have hn : n = 0 := by omega
    subst hn
    have e0 : double.nearest s (Int.natAbs 0 * 2 ^ q) (-(q : Int)) = double.word s 0 := by rw [Int.natAbs_zero, Nat.zero_mul]; rfl
    rw [e0]
    exact isI_zero (s := s) (q := 1074) (by cases s <;> rfl) (by cases s <;> exact of_decide_eq_true rfl)
  · have hne : n ≠ 0 := by omega
    obtain ⟨c, hc⟩ : ∃ c, c = n.natAbs := ⟨_, rfl⟩
    rw [← hc] at h h0 ⊢
    have hl := log2_mul c q (by omega)
    have hlc := (Nat.log2_eq_iff (n := c) (by omega)).1 rfl
    have hl52 : c.log2 ≤ 52 := by
      rcases Nat.lt_or_ge 52 c.log2 with g | g
      · have := Nat.pow_le_pow_right (n := 2) (by decide) g
        have := hlc.1; omega
      · exact g
    have hk : ∃ k, k = 52 - c.log2 := ⟨_, rfl⟩
    obtain ⟨k, hk⟩ := hk
    have h1 : 2 ^ 52 ≤ c * 2 ^ k := by
      have := Nat.mul_le_mul_right (2 ^ k) hlc.1
      rw [← Nat.pow_add, show c.log2 + k = 52 by omega] at this
      exact this
    have h2 : c * 2 ^ k < 2 ^ 53 := by
      have := Nat.mul_lt_mul_of_pos_right hlc.2 (Nat.pow_pos (n := k) (show 0 < 2 by decide))
      rw [← Nat.pow_add, show c.log2 + 1 + k = 53 by omega] at this
      exact this
    have hN : double.nearest s (c * 2 ^ q) (-(q : Int)) = double.word s ((1074 - k) * 2 ^ 52 + c * 2 ^ k) := by
      unfold Format.nearest
      rw [if_neg (Nat.mul_ne_zero (by omega) (Nat.ne_of_gt (Nat.pow_pos (by decide)))), f2, f3, f4, hl]
      have hfb : double.fractionBits = 52 := rfl
      have elast : max (-(q : Int) + ((c.log2 + q : Nat) : Int) - (double.fractionBits : Nat)) (-1074) = -(k : Int) := by rw [hfb]; omega
      simp only [elast]
      have ek : Toward.even.cut s ((c * 2 ^ q) <<< (-(q : Int) - -(k : Int)).toNat) (-(k : Int) - -(q : Int)).toNat = c * 2 ^ k := by
        rcases Nat.le_total q k with g | g
        · have a1 : (-(q : Int) - -(k : Int)).toNat = k - q := by omega
          have a2 : (-(k : Int) - -(q : Int)).toNat = 0 := by omega
          rw [a1, a2, Nat.shiftLeft_eq, Nat.mul_assoc, ← Nat.pow_add, show q + (k - q) = k by omega]
          have := cut_exact .even s (c * 2 ^ k) 0
          simpa using this
        · have a1 : (-(q : Int) - -(k : Int)).toNat = 0 := by omega
          have a2 : (-(k : Int) - -(q : Int)).toNat = q - k := by omega
          rw [a1, a2, Nat.shiftLeft_zero]
          have := cut_exact .even s (c * 2 ^ k) (q - k)
          rwa [Nat.mul_assoc, ← Nat.pow_add, show k + (q - k) = q by omega] at this
      rw [ek]
      have a3 : (-(k : Int) - -1074).toNat = 1074 - k := by omega
      rw [a3, Nat.min_eq_left (by omega)]
    rw [hN]
    obtain ⟨r1, r2⟩ := read_word s c k (by omega) h1 h2
    exact ⟨s, _, k, r1, by rw [hc], fun _ => hs hne, r2⟩
theorem isI_ofInt {n : Int} (h : n.natAbs < 2 ^ 53) : IsI (floatOfInt .f64 n) n := by
  have := nearest_isI (decide (n < 0)) n 0 h (fun _ => rfl)
  simpa [floatOfInt, FloatKind.nearest, FloatKind.encode, Format.write, FloatKind.format] using this
theorem signed_at {s : Bool} {n : Int} {m q Q : Nat} (hm : m = n.natAbs * 2 ^ q) (hs : n ≠ 0 → s = decide (n < 0)) (hq : q ≤ Q) : Ieee.signed s m (-(q : Int) - -(Q : Int)).toNat = n * 2 ^ Q := by
  have e : (-(q : Int) - -(Q : Int)).toNat = Q - q := by omega
  rw [e]
  subst hm
  have h2 : (n.natAbs * 2 ^ q) <<< (Q - q) = n.natAbs * 2 ^ Q := by rw [Nat.shiftLeft_eq, Nat.mul_assoc, ← Nat.pow_add, show q + (Q - q) = Q by omega]
  unfold Ieee.signed
  rw [h2]
  rcases Int.lt_trichotomy n 0 with g | g | g
  · rw [hs (by omega)]
    simp only [g, decide_true, if_true, Int.natCast_mul, Int.natCast_pow]
    rw [show ((n.natAbs : Nat) : Int) = -n by omega]
    simp [Int.neg_mul]
  · subst g; simp
  · rw [hs (by omega)]
    simp only [show ¬ n < 0 by omega, decide_false, Bool.false_eq_true, if_false, Int.natCast_mul, Int.natCast_pow]
    rw [show ((n.natAbs : Nat) : Int) = n by omega]
    rfl
theorem sum_isI {s t : Bool} {a b : Int} {m n p q : Nat} (hm : m = a.natAbs * 2 ^ p) (hn : n = b.natAbs * 2 ^ q) (hs : a ≠ 0 → s = decide (a < 0)) (ht : b ≠ 0 → t = decide (b < 0)) (h : (a + b).natAbs < 2 ^ 53) :
    ∃ r, ((Datum.number s m (-(p : Int))).sum (.number t n (-(q : Int)))).map double.write = some r ∧ IsI r (a + b) := by
  obtain ⟨Q, hQ⟩ : ∃ Q, Q = max p q := ⟨_, rfl⟩
  have hmin : min (-(p : Int)) (-(q : Int)) = -(Q : Int) := by omega
  simp only [Datum.sum, hmin]
  rw [signed_at hm hs (by omega), signed_at hn ht (by omega), ← Int.add_mul]
  have hpow : (0 : Int) < 2 ^ Q := Int.pow_pos (by decide)
  refine ⟨_, rfl, ?_⟩
  have ena : ((a + b) * 2 ^ Q).natAbs = (a + b).natAbs * 2 ^ Q := by rw [Int.natAbs_mul, Int.natAbs_pow]; rfl
  simp only [Format.write, ena]
  refine nearest_isI _ _ _ h fun hne => ?_
  have h0 : (a + b) * 2 ^ Q ≠ 0 := Int.mul_ne_zero hne (by omega)
  rw [if_neg h0]
  refine decide_eq_decide.2 ⟨fun g => ?_, fun g => Int.mul_neg_of_neg_of_pos g hpow⟩
  rcases Int.lt_or_le (a + b) 0 with q1 | q1
  · exact q1
  · have := Int.mul_nonneg q1 (Int.le_of_lt hpow); omega
theorem isI_add {x y : Nat} {a b : Int} (hx : IsI x a) (hy : IsI y b) (h : (a + b).natAbs < 2 ^ 53) : ∃ r, floatBits .add .f64 x y = some r ∧ IsI r (a + b) := by
  obtain ⟨s, m, p, h1, h2, h3, _⟩ := hx
  obtain ⟨t, n, q, g1, g2, g3, _⟩ := hy
  show ∃ r, ((double.read x).sum (double.read y)).map double.write = some r ∧ _
  rw [h1, g1]
  exact sum_isI h2 g2 h3 g3 h
theorem isI_sub {x y : Nat} {a b : Int} (hx : IsI x a) (hy : IsI y b) (h : (a - b).natAbs < 2 ^ 53) : ∃ r, floatBits .sub .f64 x y = some r ∧ IsI r (a - b) := by
  obtain ⟨s, m, p, h1, h2, h3, _⟩ := hx
  obtain ⟨t, n, q, g1, g2, g3, _⟩ := hy
  show ∃ r, ((double.read x).sum (double.read y).opposite).map double.write = some r ∧ _
  rw [h1, g1]
  have g2b : n = (-b).natAbs * 2 ^ q := by rw [Int.natAbs_neg]; exact g2
  have := sum_isI (t := !t) (b := -b) h2 g2b h3 (fun hb => by rw [g3 (by omega)]; by_cases q1 : b < 0 <;> simp [q1] <;> (try omega)) (by rwa [← Int.sub_eq_add_neg])
  rw [← Int.sub_eq_add_neg] at this
  exact this
theorem isI_mul {x y : Nat} {a b : Int} (hx : IsI x a) (hy : IsI y b) (h : (a * b).natAbs < 2 ^ 53) : ∃ r, floatBits .mul .f64 x y = some r ∧ IsI r (a * b) := by
  obtain ⟨s, m, p, h1, h2, h3, _⟩ := hx
  obtain ⟨t, n, q, g1, g2, g3, _⟩ := hy
  show ∃ r, ((double.read x).product (double.read y)).map double.write = some r ∧ _
  rw [h1, g1]
  refine ⟨_, rfl, ?_⟩
  simp only [Format.write]
  have e1 : m * n = (a * b).natAbs * 2 ^ (p + q) := by
    rw [h2, g2, Int.natAbs_mul, Nat.pow_add]
    simp only [Nat.mul_assoc, Nat.mul_comm, Nat.mul_left_comm]
  have e2 : -(p : Int) + -(q : Int) = -((p + q : Nat) : Int) := by omega
  rw [e1, e2]
  refine nearest_isI _ _ _ h fun hne => ?_
  have ha : a ≠ 0 := fun e => hne (by rw [e]; simp)
  have hb : b ≠ 0 := fun e => hne (by rw [e]; simp)
  rw [h3 ha, g3 hb]
  rcases Int.lt_or_lt_of_ne ha with u | u <;> rcases Int.lt_or_lt_of_ne hb with v | v
  · have := Int.mul_pos_of_neg_of_neg u v; simp [u, v, show ¬ a * b < 0 by omega]
  · have := Int.mul_neg_of_neg_of_pos u v; simp [u, show ¬ b < 0 by omega, this]
  · have := Int.mul_neg_of_pos_of_neg u v; simp [v, show ¬ a < 0 by omega, this]
  · have := Int.mul_pos u v; simp [show ¬ a < 0 by omega, show ¬ b < 0 by omega]; omega
theorem isI_order {x y : Nat} {a b : Int} (hx : IsI x a) (hy : IsI y b) : FloatKind.f64.format.order x y = some (compare a b) := by
  obtain ⟨s, m, p, h1, h2, h3, _⟩ := hx
  obtain ⟨t, n, q, g1, g2, g3, _⟩ := hy
  show (double.read x).order (double.read y) = _
  rw [h1, g1]
  obtain ⟨Q, hQ⟩ : ∃ Q, Q = max p q := ⟨_, rfl⟩
  have hmin : min (-(p : Int)) (-(q : Int)) = -(Q : Int) := by omega
  simp only [Datum.order, hmin]
  rw [signed_at h2 h3 (by omega), signed_at g2 g3 (by omega)]
  have hpow : (0 : Int) < 2 ^ Q := Int.pow_pos (by decide)
  congr 1
  simp only [compare, compareOfLessAndEq]
  have e1 : (a * 2 ^ Q < b * 2 ^ Q) = (a < b) := propext (Int.mul_lt_mul_right hpow)
  have e2 : (a * 2 ^ Q = b * 2 ^ Q) = (a = b) := propext ⟨fun e => Int.eq_of_mul_eq_mul_right (by omega) e, fun e => by rw [e]⟩
  simp only [e1, e2]
theorem isI_toInt {x : Nat} {a : Int} (hx : IsI x a) : (FloatKind.f64.decode x).toInt .zero = some a := by
  obtain ⟨s, m, p, h1, h2, h3, _⟩ := hx
  show (double.read x).toInt .zero = some a
  rw [h1]
  have e0 : (-(p : Int)).toNat = 0 := by omega
  have e1 : (- -(p : Int)).toNat = p := by omega
  simp only [Datum.toInt, Datum.integral, e0, e1, Nat.shiftLeft_zero, h2, cut_exact]
  have := signed_at (q := 0) (Q := 0) (m := a.natAbs) (n := a) (s := s) (by simp) h3 (Nat.le_refl 0)
  simpa using this
theorem isI_int {x : Nat} {a : Int} (hx : IsI x a) (h1 : -9223372036854775808 ≤ a) (h2 : a ≤ 9223372036854775807) : floatToIntVal .f64 x .i64 = some a := by
  unfold floatToIntVal
  rw [isI_toInt hx]
  have : IntKind.i64.min ≤ a ∧ a ≤ IntKind.i64.max := ⟨h1, h2⟩
  simp only [this, and_self, if_true]
end Go.Eng
