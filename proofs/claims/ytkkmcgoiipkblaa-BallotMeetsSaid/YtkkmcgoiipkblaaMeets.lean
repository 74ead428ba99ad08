/- The walk of the law BallotMeets. -/
import Derived.Test.YtkkmcgoiipkblaaBalHead
import Derived.Test.YtkkmcgoiipkblaaClone
namespace Go.Proofs.Ytkkmcgoiipkblaa
open Go.ChangeShapes Go.WideShapes Go.ChangeAt Go.RowKit Go.Syn
set_option linter.unusedVariables false
set_option linter.unusedSimpArgs false

set_option maxHeartbeats 1000000 in
theorem meets_walk (a0 : Option Addr) (cap0 : Nat) (xs0 : List Int) (a1 : Option Addr) (cap1 : Nat) (xs1 : List Int) (a2 : Option Addr) (cap2 : Nat) (xs2 : List Int) (w : World)
   (I0 : Ints w a0 xs0) (s0 : xs0.length * 8 ≤ 140737488351232) (I1 : Ints w a1 xs1) (s1 : xs1.length * 8 ≤ 140737488351232) (I2 : Ints w a2 xs2) (s2 : xs2.length * 8 ≤ 140737488351232) :
    Calls Try.prog 4 #[.slice a0 xs0.length cap0, .slice a1 xs1.length cap1, .slice a2 xs2.length cap2] w fun e w' => e = .returned (.bool true) ∧ Below w.heap.size w w' := by
  have J0 := Lib.hid I0; clear I0
  have J1 := Lib.hid I1; clear I1
  have J2 := Lib.hid I2; clear I2
  have hb0 : Below w.heap.size w w := Below.refl _ _
  go_enter Try.func4, Try.ntmps4
  go_wp2_with fail
  refine (head_any _).mono ?_; rintro e w1 ⟨rfl, hb1⟩; replace hb1 := Below.step hb0 hb1
  go_wp2_with (at_builtin; refine clone_ints rfl _ _ rfl _ rfl (heap_top _ _) _ _ _ rfl (J0.out.ext (by repeat (first | exact Below.refl _ _ | assumption | (refine Below.setCell ?_ (by first | omega | (simp; omega) | (simp; done)) _) | (refine below_drewN ?_ _) | (refine Below.drew ?_) | (refine Below.allocW ?_ _) | (refine Below.alloc ?_ (by first | omega | (simp; omega) | (simp; done)) _)))) s0 ?_; intro g2 cap2 w2 hb2 I2 _)
  refine (check_any _ _ _ _ I2).mono ?_; rintro e w' ⟨rfl, rfl⟩
  have hb2' : Below w.heap.size w w2 := (hb1.allocW _).trans (hb2.mono hb1.size)
  by_cases hc : setOkB xs0 = true
  · have C := Lib.hid (show checkV xs0 = 0 by simp [checkV, hc])
    rw [C.out]
    go_wp2_with (first
      | (at_builtin; refine clone_ints rfl _ _ rfl _ rfl (heap_top _ _) _ _ _ rfl (J0.out.ext (by repeat (first | exact Below.refl _ _ | assumption | (refine Below.setCell ?_ (by first | omega | (simp; omega) | (simp; done)) _) | (refine below_drewN ?_ _) | (refine Below.drew ?_) | (refine Below.allocW ?_ _) | (refine Below.alloc ?_ (by first | omega | (simp; omega) | (simp; done)) _)))) s0 ?_; intro g3 cap3 w3 hb3 I3 _; replace hb3 := (hb2'.allocW _).trans (hb3.mono hb2'.size))
      | (at_builtin; refine clone_ints rfl _ _ rfl _ rfl (heap_top _ _) _ _ _ rfl (J1.out.ext (by repeat (first | exact Below.refl _ _ | assumption | (refine Below.setCell ?_ (by first | omega | (simp; omega) | (simp; done)) _) | (refine below_drewN ?_ _) | (refine Below.drew ?_) | (refine Below.allocW ?_ _) | (refine Below.alloc ?_ (by first | omega | (simp; omega) | (simp; done)) _)))) s1 ?_; intro g4 cap4 w4 hb4 I4 _))
    replace I3 := I3.ext (((Below.refl _ _).allocW _).trans (hb4.mono (Nat.le_refl _)))
    replace hb4 := (hb3.allocW _).trans (hb4.mono hb3.size)
    refine (enough_any _ _ xs0 _ _ xs1 _ I3 I4).mono ?_; rintro e w' ⟨rfl, rfl⟩
    by_cases h1 : enoughB xs0 xs1 = true
    · go_wp2_with (at_builtin; refine clone_ints rfl _ _ rfl _ rfl (heap_top _ _) _ _ _ rfl (J2.out.ext (by repeat (first | exact Below.refl _ _ | assumption | (refine Below.setCell ?_ (by first | omega | (simp; omega) | (simp; done)) _) | (refine below_drewN ?_ _) | (refine Below.drew ?_) | (refine Below.allocW ?_ _) | (refine Below.alloc ?_ (by first | omega | (simp; omega) | (simp; done)) _)))) s2 ?_; intro g5 cap5 w5 hb5 I5 _)
      replace I3 := I3.ext (((Below.refl _ _).allocW _).trans (hb5.mono (Nat.le_refl _)))
      replace hb5 := (hb4.allocW _).trans (hb5.mono hb4.size)
      refine (enough_any _ _ xs0 _ _ xs2 _ I3 I5).mono ?_; rintro e w' ⟨rfl, rfl⟩
      by_cases h2 : enoughB xs0 xs2 = true
      · have M := Lib.hid (enough_meets h1 h2)
        have K1 := Lib.hid (J1.out.ext hb5)
        have K2 := Lib.hid (J2.out.ext hb5)
        have K3 := Lib.hid I3
        have l1 := I4.len
        have l2 := I5.len
        have B5 := Lib.hid hb5
        clear I3 I4 I5 I2 hb0 hb1 hb2 hb2' hb3 hb4 hb5 hc
        go_wp2_with fail
        go_loop [38] (fun i => ∃ k : Nat, k ≤ xs1.length ∧ i = .int .i64 k ∧ Hid (∀ j, j < k → ¬ (xs1.getD j 0 ∈ xs2 ∧ xs1.getD j 0 ∈ xs0))) (fun i => xs1.length - (intOf i).toNat)
        case atStart => exact ⟨0, by omega, rfl, fun j hj => by omega⟩
        case round =>
          obtain ⟨k, hk, rfl, hn⟩ := hrel
          by_cases hlt : k < xs1.length
          · obtain ⟨ha, hb, hc⟩ := K1.out.at_ (by omega)
            replace hc := hc k hlt
            generalize hx : xs1.getD k 0 = x at hc
            have HX := Lib.hid hx; clear hx
            go_wp2_with fail
            go_loop [44] (fun i => ∃ m : Nat, m ≤ xs2.length ∧ i = .int .i64 m ∧ Hid (∀ j, j < m → ¬ (x = xs2.getD j 0 ∧ x ∈ xs0))) (fun i => xs2.length - (intOf i).toNat)
            case atStart => exact ⟨0, by omega, rfl, fun j hj => by omega⟩
            case round =>
              obtain ⟨m, hm, rfl, hn2⟩ := hrel
              by_cases hlt2 : m < xs2.length
              · obtain ⟨ha2, hb2, hc2⟩ := K2.out.at_ (by omega)
                replace hc2 := hc2 m hlt2
                generalize hy : xs2.getD m 0 = y at hc2
                have HY := Lib.hid hy; clear hy
                by_cases he : x = y
                · have he' : (x == y) = true := by simpa using he
                  have HE := Lib.hid he; clear he
                  by_cases hm2 : hasB xs0 x = true
                  · go_wp2_with (go_at_call 11; refine (has_any _ _ xs0 _ _ K3.out).mono ?_; rintro e w' ⟨rfl, rfl⟩)
                    go_ret
                    exact ⟨rfl, B5.out⟩
                  · have HM := Lib.hid hm2
                    have hm2 : hasB xs0 x = false := by simpa using hm2
                    go_wp2_with (go_at_call 11; refine (has_any _ _ xs0 _ _ K3.out).mono ?_; rintro e w' ⟨rfl, rfl⟩)
                    go_round
                    case rel =>
                      refine ⟨m + 1, by omega, by go_num, fun j hj => ?_⟩
                      rintro ⟨_, h⟩
                      exact HM.out (hasB_iff.2 h)
                    case measure => simp [intOf]; omega
                · have he' : (x == y) = false := by simpa using he
                  go_wp2_with fail
                  go_round
                  case rel =>
                    refine ⟨m + 1, by omega, by go_num, fun j hj => ?_⟩
                    by_cases hjm : j = m
                    · subst hjm; rw [HY.out]; exact fun h => he h.1
                    · exact hn2.out j (by omega)
                  case measure => simp [intOf]; omega
              · have hm' : m = xs2.length := by omega
                have HM := Lib.hid hm'; clear hm'
                go_wp2_with fail
                go_round
                case rel =>
                  refine ⟨k + 1, by omega, by go_num, fun j hj => ?_⟩
                  by_cases hjk : j = k
                  · subst hjk; rw [HX.out]
                    rintro ⟨h, h0⟩
                    obtain ⟨i, hi, e⟩ := mem_getD h
                    exact hn2.out i (by rw [HM.out]; exact hi) ⟨e.symm, h0⟩
                  · exact hn.out j (by omega)
                case measure => simp [intOf]; omega
          · exfalso
            obtain ⟨x, h0, h1, h2⟩ := M.out
            obtain ⟨i, hi, e⟩ := mem_getD h1
            exact hn.out i (by omega) (by rw [e]; exact ⟨h2, h0⟩)
      · have h2 : enoughB xs0 xs2 = false := by simpa using h2
        go_wp2_with fail
        go_ret
        exact ⟨rfl, hb5⟩
    · have h1 : enoughB xs0 xs1 = false := by simpa using h1
      go_wp2_with fail
      go_ret
      exact ⟨rfl, hb4⟩
  · have C := Lib.hid (show checkV xs0 = 24 by simp [checkV, hc])
    rw [C.out]
    go_wp2_with fail
    go_ret
    exact ⟨rfl, hb2'⟩
end Go.Proofs.Ytkkmcgoiipkblaa
