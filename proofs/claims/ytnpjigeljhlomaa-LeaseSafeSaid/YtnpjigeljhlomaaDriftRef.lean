/- Contracts of the reference of layer 11, and of the law's head: they come to the same numbers as the package drift. -/
import Derived.Test.YtnpjigeljhlomaaDrift
namespace Go.Proofs.Ytnpjigeljhlomaa
open Go.ChangeShapes Go.WideShapes Go.ChangeAt Go.RowKit
set_option linter.unusedVariables false

theorem div_lt_of (X D h : Int) (hD : 0 < D) (hh : X < (h + 1) * D) : X / D ≤ h := by
  have := Int.ediv_lt_of_lt_mul hD hh; omega
theorem div_ge_of (X D h : Int) (hD : 0 < D) (hh : h * D ≤ X) : h ≤ X / D := Int.le_ediv_of_mul_le hD hh

set_option maxHeartbeats 400000 in
theorem refHold_yes (t r : Int) (w : World) (h1 : 0 ≤ t) (h2 : t ≤ 1048576) (h3 : 0 ≤ r) (h4 : r ≤ 500) :
    Calls Try.prog 27 #[.int .i64 t, .int .i64 r] w fun e w' => e = .returned (.int .i64 (t * (1000 - r) / (1000 + r))) ∧ w = w' := by
  obtain ⟨m1, m2⟩ := mulb t (1000 - r) 1048576 1000 h1 h2 (by omega) (by omega)
  have q0 : 0 ≤ t * (1000 - r) / (1000 + r) := Int.ediv_nonneg m1 (by omega)
  have q1 : t * (1000 - r) / (1000 + r) ≤ t := by
    refine Int.ediv_le_of_le_mul (by omega) ?_
    exact Int.mul_le_mul (Int.le_refl _) (by omega) (by omega) h1
  go_enter Try.func27, Try.ntmps27
  go_wp2
  go_loop [5, 6] (fun h s => ∃ a b : Int, t * (1000 - r) / (1000 + r) ≤ a ∧ a ≤ t ∧ 0 ≤ b ∧ b ≤ 1048576 ∧ h = .int .i64 a ∧ s = .int .i64 b) (fun _ s => (intOf s).toNat)
  case atStart => exact ⟨t, 1048576, q1, by omega, by omega, by omega, rfl, rfl⟩
  case round =>
    obtain ⟨a, b, ha, hat, hb, hb2, rfl, rfl⟩ := hrel
    by_cases hlt : 0 < b
    · go_wp2
      go_loop [5] (fun h => ∃ a : Int, t * (1000 - r) / (1000 + r) ≤ a ∧ a ≤ t ∧ h = .int .i64 a) (fun h => (intOf h).toNat)
      case atStart => exact ⟨a, by omega, by omega, rfl⟩
      case round =>
        obtain ⟨a, ha, hat, rfl⟩ := hrel
        by_cases hge : 0 ≤ a - b
        · obtain ⟨k1, k2⟩ := mulb (a - b + 1) (1000 + r) 1048577 1500 (by omega) (by omega) (by omega) (by omega)
          by_cases hgt : t * (1000 - r) < (a - b + 1) * (1000 + r)
          · have hd := div_lt_of (t * (1000 - r)) (1000 + r) (a - b) (by omega) hgt
            go_wp2
            go_round
            case rel => exact ⟨a - b, hd, by omega, rfl⟩
            case measure => simp [intOf]; omega
          · go_wp2
            go_round
            case rel => exact ⟨a, b / 2, ha, hat, by omega, by omega, rfl, rfl⟩
            case measure => simp [intOf]; omega
        · go_wp2
          go_round
          case rel => exact ⟨a, b / 2, ha, hat, by omega, by omega, rfl, rfl⟩
          case measure => simp [intOf]; omega
    · go_wp2
      go_loop [5] (fun h => ∃ a : Int, t * (1000 - r) / (1000 + r) ≤ a ∧ a ≤ t ∧ h = .int .i64 a) (fun h => (intOf h).toNat)
      case atStart => exact ⟨a, by omega, by omega, rfl⟩
      case round =>
        obtain ⟨a, ha, hat, rfl⟩ := hrel
        obtain ⟨k1, k2⟩ := mulb a (1000 + r) 1048576 1500 (by omega) (by omega) (by omega) (by omega)
        by_cases hgt : t * (1000 - r) < a * (1000 + r)
        · have hd := div_lt_of (t * (1000 - r)) (1000 + r) (a - 1) (by omega) (by rw [show a - 1 + 1 = a from by omega]; exact hgt)
          go_wp2
          go_round
          case rel => exact ⟨a - 1, hd, by omega, rfl⟩
          case measure => simp [intOf]; omega
        · have hd := div_ge_of (t * (1000 - r)) (1000 + r) a (by omega) (by omega)
          go_wp2
          go_ret
          exact ⟨by rw [show t * (1000 - r) / (1000 + r) = a from by omega]; rfl, rfl⟩

theorem refHold_no (t r : Int) (w : World) (hb : ¬ (0 ≤ t ∧ t ≤ 1048576 ∧ 0 ≤ r ∧ r ≤ 500)) :
    Calls Try.prog 27 #[.int .i64 t, .int .i64 r] w fun e w' => e = .returned (.int .i64 0) ∧ w = w' := by
  go_enter Try.func27, Try.ntmps27
  go_wp2_with fail
  all_goals first | (exfalso; omega) | (go_ret; exact ⟨rfl, rfl⟩)

theorem refHold_any (t r : Int) (w : World) :
    Calls Try.prog 27 #[.int .i64 t, .int .i64 r] w fun e w' => e = .returned (.int .i64 (holdV t r)) ∧ w = w' := by
  by_cases hb : rightB t r = true
  · obtain ⟨h1, h2, h3, h4⟩ := right_yes hb
    rw [holdV_yes hb]; exact refHold_yes t r w h1 h2 h3 h4
  · rw [holdV_no (by simpa using hb)]
    exact refHold_no t r w (by simpa [rightB] using hb)

/-- the search's own step: a + b ≤ c just if (a + b - 1) · D < X, where c = (X + D - 1) / D. -/
theorem up_yes (X D n : Int) (hD : 0 < D) (h : (n - 1) * D < X) : n ≤ (X + D - 1) / D :=
  Int.le_ediv_of_mul_le hD (by have : (n - 1) * D = n * D - D := by rw [Int.sub_mul]; omega
                               omega)
theorem up_no (X D n : Int) (hD : 0 < D) (h : X ≤ (n - 1) * D) : (X + D - 1) / D < n :=
  Int.ediv_lt_of_lt_mul hD (by have : (n - 1) * D = n * D - D := by rw [Int.sub_mul]; omega
                               omega)

def PowOrNone (c a b : Int) : Prop := (b = 0 ∧ a = c) ∨ ∃ k : Nat, k ≤ 22 ∧ b = (2 : Int) ^ k ∧ a ≤ c ∧ c < a + 2 * b

theorem pow_next {c a b a' : Int} (h : PowOrNone c a b) (hb : 0 < b) (h1 : a' ≤ c) (h2 : c < a' + b) : PowOrNone c a' (b / 2) := by
  rcases h with ⟨h0, _⟩ | ⟨k, hk, hbk, _, _⟩
  · omega
  · match k with
    | 0 => left; simp at hbk; subst hbk; exact ⟨rfl, by omega⟩
    | k + 1 =>
      right
      have e : (2 : Int) ^ (k + 1) = 2 * 2 ^ k := by rw [Int.pow_succ]; omega
      have e2 : b / 2 = 2 ^ k := by rw [hbk, e]; omega
      exact ⟨k, by omega, e2, h1, by omega⟩

theorem pow_le (k : Nat) (h : k ≤ 22) : (1 : Int) ≤ 2 ^ k ∧ (2 : Int) ^ k ≤ 4194304 := by
  have a := Nat.pow_le_pow_right (n := 2) (by omega) h
  have b := Nat.one_le_two_pow (n := k)
  have e : ((2 ^ k : Nat) : Int) = 2 ^ k := by simp
  constructor
  · rw [← e]; omega
  · rw [← e]; have : (2 : Nat) ^ 22 = 4194304 := by decide
    omega

theorem pow_bounds {c a b : Int} (h : PowOrNone c a b) (hc : 0 ≤ c) : 0 ≤ b ∧ b ≤ 4194304 ∧ a ≤ c ∧ c - a ≤ 2 * b := by
  rcases h with ⟨h0, h1⟩ | ⟨k, hk, hbk, h1, h2⟩
  · omega
  · have := pow_le k hk; omega

end Go.Proofs.Ytnpjigeljhlomaa
