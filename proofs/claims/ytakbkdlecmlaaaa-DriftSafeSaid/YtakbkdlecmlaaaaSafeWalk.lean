/- The walk of the law DriftSafe. -/
import Derived.Test.YtakbkdlecmlaaaaDriftRef
import Derived.WalkKit
import Derived.WalkSmall
import Derived.Deep.QuietTactic
import Derived.BigQuiet
namespace Go.Proofs.Ytakbkdlecmlaaaa
open Go.ChangeShapes Go.WideShapes Go.ChangeAt Go.RowKit
set_option linter.unusedVariables false
set_option linter.unusedSimpArgs false

/-! The plain law. -/
theorem safe_hold (r ticks a b T : Int) (r0 : 0 ≤ r) (r1 : r ≤ 500) (ha : (1000 - r) * T ≤ 1000 * a) (hb : 1000 * b ≤ (1000 + r) * T)
    (h : a ≤ ticks * (1000 - r) / (1000 + r)) : b ≤ ticks := by
  have h1 : a * (1000 + r) ≤ ticks * (1000 - r) := Int.le_trans (Int.mul_le_mul_of_nonneg_right h (by omega)) (Int.ediv_mul_le _ (by omega))
  have h2 : (1000 - r) * T * (1000 + r) ≤ 1000 * a * (1000 + r) := Int.mul_le_mul_of_nonneg_right ha (by omega)
  have e1 : 1000 * a * (1000 + r) = 1000 * (a * (1000 + r)) := Int.mul_assoc _ _ _
  have e2 : (1000 - r) * T * (1000 + r) = ((1000 + r) * T) * (1000 - r) := by rw [Int.mul_comm, Int.mul_comm (1000 - r) T, ← Int.mul_assoc]
  have e3 : 1000 * (ticks * (1000 - r)) = (1000 * ticks) * (1000 - r) := (Int.mul_assoc _ _ _).symm
  have h3 : ((1000 + r) * T) * (1000 - r) ≤ (1000 * ticks) * (1000 - r) := by omega
  have h4 := Int.le_of_mul_le_mul_right h3 (by omega)
  omega

theorem safe_wait (r ticks a b T : Int) (r0 : 0 ≤ r) (r1 : r ≤ 500) (ha : 1000 * a ≤ (1000 + r) * T) (hb : (1000 - r) * T ≤ 1000 * b)
    (h : (ticks * (1000 + r) + 1000 - r - 1) / (1000 - r) ≤ a) : ticks ≤ b := by
  have h0 : ticks * (1000 + r) ≤ (ticks * (1000 + r) + 1000 - r - 1) / (1000 - r) * (1000 - r) := by
    have := Int.lt_ediv_add_one_mul_self (ticks * (1000 + r) + 1000 - r - 1) (b := 1000 - r) (by omega)
    rw [Int.add_mul] at this; omega
  have h1 : ticks * (1000 + r) ≤ a * (1000 - r) := Int.le_trans h0 (Int.mul_le_mul_of_nonneg_right h (by omega))
  have h2 : 1000 * a * (1000 - r) ≤ (1000 + r) * T * (1000 - r) := Int.mul_le_mul_of_nonneg_right ha (by omega)
  have e1 : 1000 * a * (1000 - r) = 1000 * (a * (1000 - r)) := Int.mul_assoc _ _ _
  have e2 : (1000 + r) * T * (1000 - r) = ((1000 - r) * T) * (1000 + r) := by rw [Int.mul_comm, Int.mul_comm (1000 + r) T, ← Int.mul_assoc]
  have e3 : 1000 * (ticks * (1000 + r)) = (1000 * ticks) * (1000 + r) := (Int.mul_assoc _ _ _).symm
  have h3 : (1000 * ticks) * (1000 + r) ≤ ((1000 - r) * T) * (1000 + r) := by omega
  have h4 := Int.le_of_mul_le_mul_right h3 (by omega)
  omega

theorem hold_le (r ticks : Int) (r0 : 0 ≤ r) (r1 : r ≤ 500) (h0 : 0 ≤ ticks) : 0 ≤ ticks * (1000 - r) / (1000 + r) ∧ ticks * (1000 - r) / (1000 + r) ≤ ticks := by
  refine ⟨Int.ediv_nonneg (Int.mul_nonneg h0 (by omega)) (by omega), Int.ediv_le_of_le_mul (by omega) ?_⟩
  exact Int.mul_le_mul (Int.le_refl _) (by omega) (by omega) h0
theorem le_wait (r ticks : Int) (r0 : 0 ≤ r) (r1 : r ≤ 500) (h0 : 0 ≤ ticks) : ticks ≤ (ticks * (1000 + r) + 1000 - r - 1) / (1000 - r) := by
  refine Int.le_ediv_of_mul_le (by omega) ?_
  have : ticks * (1000 - r) ≤ ticks * (1000 + r) := Int.mul_le_mul (Int.le_refl _) (by omega) (by omega) h0
  omega

/-- How two clocks stand after k steps. -/
structure Clocks (r : Int) (k : Nat) (a b : Int) : Prop where
  ex : ∃ T : Int, 0 ≤ T ∧ T ≤ k * 16777216 ∧ (1000 - r) * T ≤ 1000 * a ∧ 1000 * a ≤ (1000 + r) * T ∧ (1000 - r) * T ≤ 1000 * b ∧ 1000 * b ≤ (1000 + r) * T

theorem Clocks.bounds {r a b : Int} {k : Nat} (h : Clocks r k a b) (r0 : 0 ≤ r) (r1 : r ≤ 500) (hk : k ≤ 1000) : 0 ≤ a ∧ a ≤ 25165824000 ∧ 0 ≤ b ∧ b ≤ 25165824000 := by
  obtain ⟨T, t0, t1, h1, h2, h3, h4⟩ := h.ex
  have m1 := Int.mul_nonneg (a := 1000 - r) (b := T) (by omega) t0
  have m2 : (1000 + r) * T ≤ 1500 * 16777216000 := Int.mul_le_mul (by omega) (by omega) t0 (by omega)
  omega

theorem keepsB_yes {t n r : Int} (h : keepsB t n r = true) : 0 ≤ t ∧ 0 ≤ n ∧ n ≤ 1099511627776 ∧ (1000 - r) * t ≤ 1000 * n ∧ 1000 * n ≤ (1000 + r) * t := by
  simp only [keepsB, decide_eq_true_eq] at h; omega

theorem Clocks.step {r a b t x y : Int} {k : Nat} (h : Clocks r k a b) (ht : t ≤ 16777216) (h1 : keepsB t x r = true) (h2 : keepsB t y r = true) : Clocks r (k + 1) (a + x) (b + y) := by
  obtain ⟨T, t0, t1, g1, g2, g3, g4⟩ := h.ex
  have k1 := keepsB_yes h1
  have k2 := keepsB_yes h2
  refine ⟨T + t, by omega, by omega, ?_⟩
  have e1 : (1000 - r) * (T + t) = (1000 - r) * T + (1000 - r) * t := Int.mul_add _ _ _
  have e2 : (1000 + r) * (T + t) = (1000 + r) * T + (1000 + r) * t := Int.mul_add _ _ _
  omega

theorem Clocks.skip {r a b : Int} {k : Nat} (h : Clocks r k a b) : Clocks r (k + 1) a b := by
  obtain ⟨T, t0, t1, g⟩ := h.ex
  exact ⟨T, t0, by omega, g⟩

theorem Clocks.safe {r ticks a b : Int} {k : Nat} (h : Clocks r k a b) (r0 : 0 ≤ r) (r1 : r ≤ 500) :
    (a ≤ ticks * (1000 - r) / (1000 + r) → b ≤ ticks) ∧ ((ticks * (1000 + r) + 1000 - r - 1) / (1000 - r) ≤ a → ticks ≤ b) := by
  obtain ⟨T, t0, t1, g1, g2, g3, g4⟩ := h.ex
  exact ⟨fun q => safe_hold r ticks a b T r0 r1 g1 g4 q, fun q => safe_wait r ticks a b T r0 r1 g2 g3 q⟩

/-- The numbers of a slice as the walk reads them. -/
def Reads (w : World) (b off len : Nat) (zs : List Int) : Prop := ∀ i, i < len → w.cell? ⟨b, off + i, none⟩ = some (.int .i64 (zs.getD i 0))

set_option maxHeartbeats 1000000 in
set_option maxRecDepth 100000 in
theorem safe_some (b0 o0 len0 cap0 : Nat) (z0 : List Int) (b1 o1 len1 cap1 : Nat) (z1 : List Int) (b2 o2 len2 cap2 : Nat) (z2 : List Int) (t r : Int) (w : World)
    (l0 : len0 ≤ 9223372036854775807) (l1 : len1 ≤ 9223372036854775807) (l2 : len2 ≤ 9223372036854775807) (R0 : Hid (Reads w b0 o0 len0 z0)) (R1 : Hid (Reads w b1 o1 len1 z1)) (R2 : Hid (Reads w b2 o2 len2 z2))
    (h1 : 0 ≤ t) (h2 : t ≤ 1048576) (h3 : 0 ≤ r) (h4 : r ≤ 500) :
    Calls Try.prog 5 #[.slice (some ⟨b0, o0, none⟩) len0 cap0, .slice (some ⟨b1, o1, none⟩) len1 cap1, .slice (some ⟨b2, o2, none⟩) len2 cap2, .int .i64 t, .int .i64 r] w
      fun e w' => e = .returned (.bool true) ∧ Below w.heap.size w w' := by
  have hb : rightB t r = true := by simp [rightB]; omega
  obtain ⟨q1, q2⟩ := hold_le r t h3 h4 h1
  have q3 := le_wait r t h3 h4 h1
  have E1 := Lib.hid (holdV_yes hb)
  have E2 := Lib.hid (waitV_yes hb)
  clear hb
  generalize hH : holdV t r = H at *
  generalize hW : waitV t r = W at *
  have HH := Lib.hid hH
  have HW := Lib.hid hW
  clear hH hW
  go_enter Try.func5, Try.ntmps5
  go_wp2_with (first
    | (go_at_call 6; refine (head_any _).mono ?_; rintro e w' ⟨rfl, rfl⟩)
    | (go_at_call 7; refine (hold_any _ _ _).mono ?_; rintro e w' ⟨rfl, rfl⟩; rw [HH.out])
    | (go_at_call 9; refine (wait_any _ _ _).mono ?_; rintro e w' ⟨rfl, rfl⟩; rw [HW.out]))
  go_loopw [11, 12, 15] (fun a b i wr => ∃ (k : Nat) (x y : Int), a = .int .i64 x ∧ b = .int .i64 y ∧ i = .int .i64 k ∧ k ≤ 1000 ∧ Clocks r k x y ∧ ∃ n, wr = w.drewN n) (fun _ _ i _ => 1000 - (intOf i).toNat)
  case atStart => exact ⟨0, 0, 0, rfl, rfl, rfl, by omega, ⟨0, by omega, by omega, by omega, by omega, by omega, by omega⟩, 0, rfl⟩
  case round =>
    obtain ⟨k, x, y, rfl, rfl, rfl, hk, hc, n, rfl⟩ := hrel
    obtain ⟨x0, x1, y0, y1⟩ := hc.bounds h3 h4 hk
    by_cases c0 : k < len0 ∧ k < len1 ∧ k < len2 ∧ k < 1000
    · obtain ⟨c0, c1, c2, c3⟩ := c0
      have g0 := R0.out k c0
      have g1 := R1.out k c1
      have g2 := R2.out k c2
      generalize z0.getD k 0 = t0 at g0
      generalize z1.getD k 0 = p0 at g1
      generalize z2.getD k 0 = p1 at g2
      have HC := Lib.hid hc
      clear hc
      by_cases d0 : 16777216 < t0
      · go_wp2_with fail
        go_quiet (fail)
        go_wp2_with fail
        go_roundw
        case rel => exact ⟨k + 1, x, y, rfl, rfl, by go_num, by omega, HC.out.skip, _, rfl⟩
        case measure => simp [intOf]; omega
      · have D0 : decide (16777216 < t0) = false := by simpa using d0
        by_cases d1 : keepsB t0 p0 r = true
        · by_cases d2 : keepsB t0 p1 r = true
          · obtain ⟨v1, v2, v3, v4⟩ := keepsB_yes d1
            obtain ⟨v5, v6, v7, v8⟩ := keepsB_yes d2
            clear v4 v8
            have hc' := HC.out.step (by omega) d1 d2
            obtain ⟨u1, u2⟩ := hc'.safe (ticks := t) h3 h4
            rw [← E1.out] at u1
            rw [← E2.out] at u2
            have HC' := Lib.hid hc'
            clear hc'
            go_wp2_with fail
            go_quiet ((go_at_call 11; exact (keeps_any _ _ _ _).mono fun _ _ h => ⟨h.1, _, h.2.symm⟩))
            clear d1 d2
            have U1 := Lib.hid u1
            have U2 := Lib.hid u2
            clear u1 u2
            by_cases e1 : x + p0 ≤ H
            · have e2 := U1.out e1
              by_cases e3 : W ≤ x + p0
              · have e4 := U2.out e3
                go_wp2_with fail
                all_goals first
                  | (exfalso; omega)
                  | (go_roundw
                     case rel => exact ⟨k + 1, x + p0, y + p1, rfl, rfl, by go_num, by omega, HC'.out, _, rfl⟩
                     case measure => simp [intOf]; omega)
              · go_wp2_with fail
                all_goals first
                  | (exfalso; omega)
                  | (go_roundw
                     case rel => exact ⟨k + 1, x + p0, y + p1, rfl, rfl, by go_num, by omega, HC'.out, _, rfl⟩
                     case measure => simp [intOf]; omega)
            · by_cases e3 : W ≤ x + p0
              · have e4 := U2.out e3
                go_wp2_with fail
                all_goals first
                  | (exfalso; omega)
                  | (go_roundw
                     case rel => exact ⟨k + 1, x + p0, y + p1, rfl, rfl, by go_num, by omega, HC'.out, _, rfl⟩
                     case measure => simp [intOf]; omega)
              · go_wp2_with fail
                all_goals first
                  | (exfalso; omega)
                  | (go_roundw
                     case rel => exact ⟨k + 1, x + p0, y + p1, rfl, rfl, by go_num, by omega, HC'.out, _, rfl⟩
                     case measure => simp [intOf]; omega)
          · have d2 : keepsB t0 p1 r = false := by simpa using d2
            go_wp2_with fail
            go_quiet ((go_at_call 11; exact (keeps_any _ _ _ _).mono fun _ _ h => ⟨h.1, _, h.2.symm⟩))
            go_wp2_with fail
            go_roundw
            case rel => exact ⟨k + 1, x, y, rfl, rfl, by go_num, by omega, HC.out.skip, _, rfl⟩
            case measure => simp [intOf]; omega
        · have d1 : keepsB t0 p0 r = false := by simpa using d1
          go_wp2_with fail
          go_quiet ((go_at_call 11; exact (keeps_any _ _ _ _).mono fun _ _ h => ⟨h.1, _, h.2.symm⟩))
          go_wp2_with fail
          go_roundw
          case rel => exact ⟨k + 1, x, y, rfl, rfl, by go_num, by omega, HC.out.skip, _, rfl⟩
          case measure => simp [intOf]; omega
    · have f1 : H ≤ t := by rw [E1.out]; exact q2
      have f2 : t ≤ W := by rw [E2.out]; exact q3
      go_wp2_with fail
      all_goals first
        | (exfalso; omega)
        | (go_ret; exact ⟨by simp [f1, f2], below_drewN (Below.refl _ _) _⟩)

set_option maxHeartbeats 400000 in
theorem safe_none (a0 : Option Addr) (len0 cap0 : Nat) (a1 : Option Addr) (len1 cap1 : Nat) (a2 : Option Addr) (len2 cap2 : Nat) (t r : Int) (w : World)
    (hz : ¬ (0 < len0 ∧ 0 < len1 ∧ 0 < len2)) (h1 : 0 ≤ t) (h2 : t ≤ 1048576) (h3 : 0 ≤ r) (h4 : r ≤ 500) :
    Calls Try.prog 5 #[.slice a0 len0 cap0, .slice a1 len1 cap1, .slice a2 len2 cap2, .int .i64 t, .int .i64 r] w
      fun e w' => e = .returned (.bool true) ∧ Below w.heap.size w w' := by
  have hb : rightB t r = true := by simp [rightB]; omega
  obtain ⟨q1, q2⟩ := hold_le r t h3 h4 h1
  have q3 := le_wait r t h3 h4 h1
  have f1 : holdV t r ≤ t := by rw [holdV_yes hb]; exact q2
  have f2 : t ≤ waitV t r := by rw [waitV_yes hb]; exact q3
  clear hb q1 q2 q3
  go_enter Try.func5, Try.ntmps5
  go_wp2_with (first
    | (go_at_call 6; refine (head_any _).mono ?_; rintro e w' ⟨rfl, rfl⟩)
    | (go_at_call 7; refine (hold_any _ _ _).mono ?_; rintro e w' ⟨rfl, rfl⟩)
    | (go_at_call 9; refine (wait_any _ _ _).mono ?_; rintro e w' ⟨rfl, rfl⟩))
  go_loop [15] (fun i => i = .int .i64 0) (fun _ => 0)
  case atStart => exact rfl
  case round =>
    subst hrel
    go_wp2_with fail
    all_goals first
      | (exfalso; omega)
      | (go_ret; exact ⟨by simp [f1, f2], Below.refl _ _⟩)

set_option maxHeartbeats 400000 in
theorem safe_out (a0 : Option Addr) (len0 cap0 : Nat) (a1 : Option Addr) (len1 cap1 : Nat) (a2 : Option Addr) (len2 cap2 : Nat) (t r : Int) (w : World)
    (hz : ¬ (0 ≤ t ∧ t ≤ 1048576 ∧ 0 ≤ r ∧ r ≤ 500)) :
    Calls Try.prog 5 #[.slice a0 len0 cap0, .slice a1 len1 cap1, .slice a2 len2 cap2, .int .i64 t, .int .i64 r] w
      fun e w' => e = .returned (.bool true) ∧ Below w.heap.size w w' := by
  have hb : rightB t r = false := by simp only [rightB, decide_eq_false_iff_not]; exact hz
  have f1 : holdV t r = 0 := holdV_no hb
  have f2 : waitV t r = 0 := waitV_no hb
  clear hb
  go_enter Try.func5, Try.ntmps5
  go_wp2_with (first
    | (go_at_call 6; refine (head_any _).mono ?_; rintro e w' ⟨rfl, rfl⟩)
    | (go_at_call 7; refine (hold_any _ _ _).mono ?_; rintro e w' ⟨rfl, rfl⟩; rw [f1])
    | (go_at_call 9; refine (wait_any _ _ _).mono ?_; rintro e w' ⟨rfl, rfl⟩; rw [f2]))
  all_goals first
    | (exfalso; omega)
    | (go_ret; exact ⟨rfl, Below.refl _ _⟩)

end Go.Proofs.Ytakbkdlecmlaaaa
