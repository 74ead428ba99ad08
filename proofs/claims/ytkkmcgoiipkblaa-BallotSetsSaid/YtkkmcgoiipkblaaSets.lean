/- The walk of the law BallotSets. -/
import Derived.Test.YtkkmcgoiipkblaaBalHead
import Derived.Test.YtkkmcgoiipkblaaBalNext
import Derived.Test.YtkkmcgoiipkblaaClone
namespace Go.Proofs.Ytkkmcgoiipkblaa
open Go.ChangeShapes Go.WideShapes Go.ChangeAt Go.RowKit Go.Syn
set_option linter.unusedVariables false
set_option linter.unusedSimpArgs false

theorem nextV_ok {xs : List Int} (r v : Int) : (nextV xs r v).2.2 = 0 ∨ (nextV xs r v).2.2 = 1 ∨ (nextV xs r v).2.2 = 27 := by
  unfold nextV
  repeat' split
  all_goals simp

set_option maxHeartbeats 2000000 in
theorem sets_walk (a0 : Option Addr) (cap0 : Nat) (xs0 : List Int) (a1 : Option Addr) (cap1 : Nat) (xs1 : List Int) (v r : Int) (w : World)
   (I0 : Ints w a0 xs0) (s0 : xs0.length * 8 ≤ 140737488351232) (I1 : Ints w a1 xs1) (s1 : xs1.length * 8 ≤ 140737488351232) (iv : I64 v) (ir : I64 r) :
    Calls Try.prog 3 #[.slice a0 xs0.length cap0, .slice a1 xs1.length cap1, .int .i64 v, .int .i64 r] w fun e w' => e = .returned (.bool true) ∧ Below w.heap.size w w' := by
  have J0 := Lib.hid I0; clear I0
  have J1 := Lib.hid I1; clear I1
  have hb0 : Below w.heap.size w w := Below.refl _ _
  have e1 : checkV [1] = 0 := by decide
  have e2 : checkV [] = 24 := by decide
  go_enter Try.func3, Try.ntmps3
  go_wp2_with fail
  refine (head_any _).mono ?_; rintro e w1 ⟨rfl, hb1⟩; replace hb1 := Below.step hb0 hb1
  go_wp2_with fail
  refine (check_any _ _ [1] _ ?_).mono ?_
  · exact Ints.litAt _ _ [1] 3 (by simp) (by simp [I64]) (by simp)
  rintro e w' ⟨rfl, rfl⟩; rw [e1]
  go_wp2_with fail
  refine (check_any _ _ [] _ Ints.nil).mono ?_
  rintro e w' ⟨rfl, rfl⟩; rw [e2]
  replace hb1 := hb1.allocW (.cells #[.int .i64 1] 3)
  go_wp2_with (at_builtin; refine clone_ints rfl _ _ rfl _ rfl (heap_at _ _ _ (by simp)) _ _ _ rfl (J0.out.ext (by repeat (first | exact Below.refl _ _ | assumption | (refine Below.setCell ?_ (by first | omega | (simp; omega) | (simp; done)) _) | (refine below_drewN ?_ _) | (refine Below.drew ?_) | (refine Below.allocW ?_ _) | (refine Below.alloc ?_ (by first | omega | (simp; omega) | (simp; done)) _)))) s0 ?_; intro g2 cap2 w2 hb2 I2 _)
  replace hb2 := (hb1.allocW _).trans (hb2.mono (by simpa using hb1.size))
  refine (check_any _ _ _ _ I2).mono ?_; rintro e w' ⟨rfl, rfl⟩
  by_cases hc : setOkB xs0 = true
  · have C := Lib.hid (show checkV xs0 = 0 by simp [checkV, hc])
    rw [C.out]
    go_wp2_with fail
    refine (refRight_any _ _ _ _ (J0.out.ext hb2)).mono ?_; rintro e w3 ⟨rfl, hb3⟩; replace I2 := I2.ext hb3; replace hb3 := Below.step hb2 hb3; rw [hc]
    have S := Lib.hid (setOkB_iff.1 hc)
    have l7 := S.out.2.1
    have l0 := S.out.1
    go_wp2_with fail
    refine (has_any _ _ xs0 _ _ I2).mono ?_; rintro e w' ⟨rfl, rfl⟩
    go_wp2_with fail
    refine (refHas_any _ _ _ _ _ (J0.out.ext hb3)).mono ?_; rintro e w' ⟨rfl, rfl⟩
    go_wp2_with fail
    refine (quorum_any _ _ xs0 _ (by omega)).mono ?_; rintro e w' ⟨rfl, rfl⟩
    have Q := Lib.hid (show quorumV xs0 = (xs0.length : Int) / 2 + 1 from rfl)
    rw [Q.out]
    go_wp2_with (at_builtin; refine clone_ints rfl _ _ rfl _ rfl (heap_at _ _ _ (by simp)) _ _ _ rfl (J1.out.ext (by repeat (first | exact Below.refl _ _ | assumption | (refine Below.setCell ?_ (by first | omega | (simp; omega) | (simp; done)) _) | (refine below_drewN ?_ _) | (refine Below.drew ?_) | (refine Below.allocW ?_ _) | (refine Below.alloc ?_ (by first | omega | (simp; omega) | (simp; done)) _)))) s1 ?_; intro g4 cap4 w4 hb4 I4 _)
    replace I2 := I2.ext (((Below.refl _ _).allocW _).trans (hb4.mono (Nat.le_refl _)))
    replace hb4 := (hb3.allocW _).trans (hb4.mono hb3.size)
    refine (enough_any _ _ xs0 _ _ xs1 _ I2 I4).mono ?_; rintro e w' ⟨rfl, rfl⟩
    go_wp2_with fail
    refine (refEnough_any _ _ _ _ _ _ _ (J0.out.ext hb4) (J1.out.ext hb4) (by omega)).mono ?_; rintro e w' ⟨rfl, rfl⟩
    go_wp2_with fail
    refine (leader_any _ _ xs0 _ _ I2 ir).mono ?_; rintro e w' ⟨rfl, rfl⟩
    go_wp2_with fail
    refine (refLeader_any _ _ _ _ _ (J0.out.ext hb4) (by omega) ir).mono ?_; rintro e w' ⟨rfl, rfl⟩
    go_wp2_with fail
    refine (refNext_any _ _ _ _ _ _ _ (J0.out.ext hb4) S.out).mono ?_; rintro e w5 ⟨rfl, hb5⟩; replace I2 := I2.ext hb5; replace hb5 := Below.step hb4 hb5
    generalize hN : nextV xs0 r v = N at *
    have HN := Lib.hid hN; clear hN
    obtain ⟨n1, n2, n3⟩ := N
    go_wp2_with fail
    refine (next_any _ _ xs0 _ _ _ _ ?_).mono ?_
    · exact I2.ext ((Below.refl _ _).allocW _)
    rintro e w6 ⟨rfl, hb6⟩; rw [HN.out]
    have b1 := hb6.cell (p := ⟨w5.heap.size, 0, none⟩) (by simp)
    have b2 := hb6.cell (p := ⟨w5.heap.size, 1, none⟩) (by simp)
    have c1 : w6.cell? ⟨w5.heap.size, 0, none⟩ = some (.int .i64 n1) := by rw [b1]; simp [go_sem]
    have c2 : w6.cell? ⟨w5.heap.size, 1, none⟩ = some (.int .i64 n2) := by rw [b2]; simp [go_sem]
    clear b1 b2
    have l6 : w5.heap.size < w6.heap.size := by have := hb6.size; simp at this; omega
    replace hb6 := Below.step (hb5.allocW _) hb6
    go_wp2_with fail
    go_ret
    exact ⟨rfl, (by repeat (first | exact Below.refl _ _ | assumption | (refine Below.setCell ?_ (by first | omega | (simp; omega) | (simp; done)) _) | (refine below_drewN ?_ _) | (refine Below.drew ?_) | (refine Below.allocW ?_ _) | (refine Below.alloc ?_ (by first | omega | (simp; omega) | (simp; done)) _)))⟩
  · have C := Lib.hid (show checkV xs0 = 24 by simp [checkV, hc])
    have hc : setOkB xs0 = false := by simpa using hc
    rw [C.out]
    go_wp2_with fail
    refine (refRight_any _ _ _ _ (J0.out.ext hb2)).mono ?_; rintro e w3 ⟨rfl, hb3⟩; replace hb3 := Below.step hb2 hb3; rw [hc]
    go_wp2_with fail
    go_ret
    exact ⟨rfl, hb3⟩
end Go.Proofs.Ytkkmcgoiipkblaa
