/- The head of the laws of layer 17: it answers true. -/
import Derived.Test.YtdjjiamiiglepaaElNew
namespace Go.Proofs.Ytdjjiamiiglepaa
open Go.ChangeShapes Go.WideShapes Go.ChangeAt Go.RowKit Go.Syn
set_option linter.unusedVariables false
set_option linter.unusedSimpArgs false

theorem i64_of (n : Int) (h1 : -9223372036854775808 ≤ n) (h2 : n ≤ 9223372036854775807) : I64 n := ⟨h1, h2⟩

set_option maxHeartbeats 1000000 in
theorem head_any (w : World) : Calls Try.prog 6 #[] w fun e w' => e = .returned (.bool true) ∧ Below w.heap.size w w' := by
  have I0 : Ints (w.alloc (.cells #[.int .i64 1, .int .i64 2, .int .i64 3] 3)) (some ⟨w.heap.size, 0, none⟩) [1, 2, 3] :=
    Ints.lit w [1, 2, 3] 3 (by simp) (by simp [I64]) _ (Below.refl _ _)
  have okN : ∀ n, 0 ≤ n → n ≤ 100 → I64 n := fun n _ _ => ⟨by omega, by omega⟩
  have E0 : newTm 2 10 30 0 = ⟨2, 10, 30, 10, 0, 0⟩ := rfl
  have E1 : tmTick [1, 2, 3] ⟨2, 10, 30, 10, 0, 0⟩ 9 = (⟨2, 10, 30, 10, 0, 0⟩, false) := rfl
  have E2 : tmTick [1, 2, 3] ⟨2, 10, 30, 10, 0, 0⟩ 10 = (⟨2, 10, 30, 20, 10, 1⟩, false) := rfl
  have E3 : tmTick [1, 2, 3] ⟨2, 10, 30, 20, 10, 1⟩ 30 = (⟨2, 10, 30, 30, 30, 2⟩, true) := rfl
  have E4 : tmHeard ⟨2, 10, 30, 30, 30, 2⟩ 2 35 = ⟨2, 10, 30, 10, 35, 2⟩ := rfl
  have E4b : heardB ⟨2, 10, 30, 30, 30, 2⟩ 2 = true := rfl
  have E5 : tmTick [1, 2, 3] ⟨2, 10, 30, 10, 35, 2⟩ 45 = (⟨2, 10, 30, 20, 45, 3⟩, false) := rfl
  go_enter Try.func6, Try.ntmps6
  go_wp2_with fail
  refine (new_any _ _ [1, 2, 3] 2 10 30 0 _ I0 (by decide)).mono ?_
  rintro e w1 ⟨b, ma, mc, rfl, T1, b1, _, _, hmb, hb⟩
  rw [E0] at T1
  have hw1 : Below w.heap.size w w1 := Below.step (by repeat (first | exact Below.refl _ _ | assumption | (refine Below.setCell ?_ (by first | omega | (simp; omega) | (simp; done)) _) | (refine below_drewN ?_ _) | (refine Below.drew ?_) | (refine Below.allocW ?_ _) | (refine Below.alloc ?_ (by first | omega | (simp; omega) | (simp; done)) _))) b1
  have hbw : w.heap.size ≤ b := by have := b1.size; simp at *; omega
  clear b1 I0 E0
  have okT : (Tm.mk 2 10 30 10 0 0).ok := newTm_ok 2 10 30 0 (okN _ (by omega) (by omega))
  go_wp2_with fail
  refine (tick_any _ _ _ _ _ 9 _ T1 okT (okN _ (by omega) (by omega))).mono ?_
  rintro e w2 ⟨rfl, T2, g2⟩
  have okT := tick_ok (xs := [1, 2, 3]) okT (okN 9 (by omega) (by omega))
  rw [E1] at T2 okT ⊢
  have hw2 := below_grown hw1 g2 hbw
  clear g2 T1 E1 hw1
  go_wp2_with fail
  refine (tick_any _ _ _ _ _ 10 _ T2 okT (okN _ (by omega) (by omega))).mono ?_
  rintro e w3 ⟨rfl, T3, g3⟩
  have okT := tick_ok (xs := [1, 2, 3]) okT (okN 10 (by omega) (by omega))
  rw [E2] at T3 okT ⊢
  have hw3 := below_grown hw2 g3 hbw
  clear g3 T2 E2 hw2
  go_wp2_with fail
  refine (wait_any _ _ _ _ _ _ T3).mono ?_
  rintro e w' ⟨rfl, rfl⟩
  go_wp2_with fail
  refine (tick_any _ _ _ _ _ 30 _ T3 okT (okN _ (by omega) (by omega))).mono ?_
  rintro e w4 ⟨rfl, T4, g4⟩
  have okT := tick_ok (xs := [1, 2, 3]) okT (okN 30 (by omega) (by omega))
  rw [E3] at T4 okT ⊢
  have hw4 := below_grown hw3 g4 hbw
  clear g4 T3 E3 hw3
  go_wp2_with fail
  refine (wait_any _ _ _ _ _ _ T4).mono ?_
  rintro e w' ⟨rfl, rfl⟩
  go_wp2_with fail
  refine (heard_any _ _ _ _ _ 2 35 _ T4).mono ?_
  rintro e w5 ⟨rfl, T5, g5⟩
  have okT := heard_ok (r := 2) okT (okN 35 (by omega) (by omega))
  rw [E4] at T5 okT
  rw [E4b]
  have hw5 := below_grown hw4 g5 hbw
  clear g5 T4 E4 E4b hw4
  go_wp2_with fail
  refine (wait_any _ _ _ _ _ _ T5).mono ?_
  rintro e w' ⟨rfl, rfl⟩
  go_wp2_with fail
  refine (tick_any _ _ _ _ _ 45 _ T5 okT (okN _ (by omega) (by omega))).mono ?_
  rintro e w6 ⟨rfl, T6, g6⟩
  have okT := tick_ok (xs := [1, 2, 3]) okT (okN 45 (by omega) (by omega))
  rw [E5] at T6 okT ⊢
  have hw6 := below_grown hw5 g6 hbw
  clear g6 T5 E5 hw5
  go_wp2_with fail
  refine (round_any _ _ _ _ _ _ T6).mono ?_
  rintro e w' ⟨rfl, rfl⟩
  go_wp2_with fail
  go_ret
  exact ⟨rfl, hw6⟩
end Go.Proofs.Ytdjjiamiiglepaa
