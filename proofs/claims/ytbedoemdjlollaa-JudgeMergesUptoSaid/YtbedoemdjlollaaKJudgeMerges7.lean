/- Part 7 of the texts of a proof about the given program: what the statement's proof needs of them. -/
import Derived.Deep.RegionHeld3
import Derived.Test.YtbedoemdjlollaaKJudgeMerges6
namespace Go.Proofs.Ytbedoemdjlollaa
open Go.ChangeShapes Go.WideShapes Go.ChangeAt Go.RowKit Go.Syn
set_option linter.unusedVariables false
set_option linter.unusedSimpArgs false

end Go.Proofs.Ytbedoemdjlollaa

namespace Go.Proofs.Ytbedoemdjlollaa
open Go.ChangeShapes Go.WideShapes Go.ChangeAt Go.RowKit Go.Syn
set_option linter.unusedVariables false
set_option linter.unusedSimpArgs false


theorem good2 {xs : List Int} {k : Nat} (h : ∀ i, i < k → goodAt xs i) : (goodAt xs k ↔ 1 ≤ xs.getD k 0 ∧ xs.getD k 0 ≤ 9 ∧ (0 < k → xs.getD (k - 1) 0 < xs.getD k 0)) := by
  have p := good_pos h
  unfold goodAt
  rcases Nat.eq_zero_or_pos k with rfl | hk
  · simp [prevOf]; omega
  · have : prevOf xs k = xs.getD (k - 1) 0 := by unfold prevOf; exact if_neg (by omega)
    rw [this] at p ⊢; omega

set_option maxHeartbeats 1000000 in
theorem refRight_any (a : Option Addr) (cap : Nat) (xs : List Int) (w : World) (h : Ints w a xs) :
    Calls Try.prog 18 #[.slice a xs.length cap] w fun e w' => e = .returned (.bool (setOkB xs)) ∧ Below w.heap.size w w' := by
  have hl := h.len
  have H := Lib.hid h; clear h
  by_cases h0 : 1 ≤ xs.length ∧ xs.length ≤ 7
  · obtain ⟨h0, h1⟩ := h0
    have n0 : ((xs.length : Int) == 0) = false := by rw [beq_eq_false_iff_ne]; omega
    go_enter Try.func18, Try.ntmps18
    go_wp2
    go_loopw [14] (fun i wr => ∃ k : Nat, k ≤ xs.length ∧ i = .int .i64 k ∧ Hid (∀ i, i < k → goodAt xs i) ∧ ∃ n, wr = w.drewN n) (fun i _ => xs.length - (intOf i).toNat)
    case atStart => exact ⟨0, by omega, rfl, fun i hi => by omega, 0, rfl⟩
    case round =>
      obtain ⟨k, hk, rfl, hg, n, rfl⟩ := hrel
      by_cases hlt : k < xs.length
      · obtain ⟨ha, hb, hc⟩ := H.out.at_ (by omega)
        have hc0 := hc k hlt
        have hc1 := fun hk : 0 < k => hc (k - 1) (by omega)
        have G := Lib.hid (good2 hg.out)
        have R := Lib.hid (show ¬ goodAt xs k → setOkB xs = false by
          intro hn; simp only [setOkB, decide_eq_false_iff_not]; intro h; exact hn (h.2.2 k hlt))
        clear hc
        generalize hx : xs.getD k 0 = x at hc0 G
        generalize hp : xs.getD (k - 1) 0 = p at hc1 G
        clear hx hp
        by_cases d1 : x < 1
        · have R' := Lib.hid (R.out (by rw [G.out]; omega))
          go_wp2_with fail
          go_quiet (fail)
          go_wp2_with fail
          go_ret
          exact ⟨by rw [R'.out]; rfl, (by repeat (first | exact Below.refl _ _ | assumption | (refine Below.setCell ?_ (by first | omega | (simp; omega) | (simp; done)) _) | (refine below_drewN ?_ _) | (refine Below.drew ?_) | (refine Below.allocW ?_ _) | (refine Below.alloc ?_ (by first | omega | (simp; omega) | (simp; done)) _)))⟩
        · have D1 : decide (x < 1) = false := by simpa using d1
          by_cases d2 : 9 < x
          · have R' := Lib.hid (R.out (by rw [G.out]; omega))
            go_wp2_with fail
            go_quiet (fail)
            go_wp2_with fail
            go_ret
            exact ⟨by rw [R'.out]; rfl, (by repeat (first | exact Below.refl _ _ | assumption | (refine Below.setCell ?_ (by first | omega | (simp; omega) | (simp; done)) _) | (refine below_drewN ?_ _) | (refine Below.drew ?_) | (refine Below.allocW ?_ _) | (refine Below.alloc ?_ (by first | omega | (simp; omega) | (simp; done)) _)))⟩
          · have D2 : decide (9 < x) = false := by simpa using d2
            by_cases d3 : 0 < k
            · replace hc1 := hc1 d3
              have d3' : (0 : Int) ≤ (k : Int) - 1 := by omega
              by_cases d4 : x ≤ p
              · have R' := Lib.hid (R.out (by rw [G.out]; omega))
                go_wp2_with fail
                go_quiet (fail)
                go_wp2_with fail
                go_ret
                exact ⟨by rw [R'.out]; rfl, (by repeat (first | exact Below.refl _ _ | assumption | (refine Below.setCell ?_ (by first | omega | (simp; omega) | (simp; done)) _) | (refine below_drewN ?_ _) | (refine Below.drew ?_) | (refine Below.allocW ?_ _) | (refine Below.alloc ?_ (by first | omega | (simp; omega) | (simp; done)) _)))⟩
              · have D4 : decide (x ≤ p) = false := by simpa using d4
                have R' := Lib.hid (G.out.2 (by omega))
                go_wp2_with fail
                go_quiet (fail)
                go_wp2_with fail
                go_roundw
                case rel =>
                  refine ⟨k + 1, by omega, by go_num, fun i hi => ?_, _, rfl⟩
                  by_cases e : i = k
                  · subst e; exact R'.out
                  · exact hg.out i (by omega)
                case measure => simp [intOf]; omega
            · have hk0 : k = 0 := by omega
              have R' := Lib.hid (G.out.2 (by omega))
              have D3 : decide ((0 : Int) < (k : Int)) = false := by simp; omega
              have HK := Lib.hid hk0
              clear hc1 hk0
              go_wp2_with fail
              go_quiet (fail)
              go_wp2_with fail
              go_roundw
              case rel =>
                refine ⟨k + 1, by omega, by go_num, fun i hi => ?_, _, rfl⟩
                by_cases e : i = k
                · subst e; exact R'.out
                · exact hg.out i (by omega)
              case measure => simp [intOf]; omega
      · have R := Lib.hid (show setOkB xs = true by
          simp only [setOkB, decide_eq_true_eq]; exact ⟨h0, h1, fun i hi => hg.out i (by omega)⟩)
        go_wp2_with fail
        go_ret
        exact ⟨by rw [R.out]; rfl, (by repeat (first | exact Below.refl _ _ | assumption | (refine Below.setCell ?_ (by first | omega | (simp; omega) | (simp; done)) _) | (refine below_drewN ?_ _) | (refine Below.drew ?_) | (refine Below.allocW ?_ _) | (refine Below.alloc ?_ (by first | omega | (simp; omega) | (simp; done)) _)))⟩
  · have R := Lib.hid (show setOkB xs = false by
      simp only [setOkB, decide_eq_false_iff_not]; intro h; exact h0 ⟨h.1, h.2.1⟩)
    by_cases hx : xs.length = 0
    · have n0 : ((xs.length : Int) == 0) = true := by rw [beq_iff_eq]; omega
      clear hx h0
      go_enter Try.func18, Try.ntmps18
      go_wp2_with fail
      go_ret
      exact ⟨by rw [R.out]; rfl, (by repeat (first | exact Below.refl _ _ | assumption | (refine Below.setCell ?_ (by first | omega | (simp; omega) | (simp; done)) _) | (refine below_drewN ?_ _) | (refine Below.drew ?_) | (refine Below.allocW ?_ _) | (refine Below.alloc ?_ (by first | omega | (simp; omega) | (simp; done)) _)))⟩
    · have n0 : ((xs.length : Int) == 0) = false := by rw [beq_eq_false_iff_ne]; omega
      have n7 : 7 < xs.length := by omega
      clear hx h0
      go_enter Try.func18, Try.ntmps18
      go_wp2_with fail
      go_ret
      exact ⟨by rw [R.out]; rfl, (by repeat (first | exact Below.refl _ _ | assumption | (refine Below.setCell ?_ (by first | omega | (simp; omega) | (simp; done)) _) | (refine below_drewN ?_ _) | (refine Below.drew ?_) | (refine Below.allocW ?_ _) | (refine Below.alloc ?_ (by first | omega | (simp; omega) | (simp; done)) _)))⟩

end Go.Proofs.Ytbedoemdjlollaa
