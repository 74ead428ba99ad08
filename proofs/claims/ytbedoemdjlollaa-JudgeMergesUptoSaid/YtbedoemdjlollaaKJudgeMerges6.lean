/- Part 6 of the texts of a proof about the given program: what the statement's proof needs of them. -/
import Derived.Test.YtbedoemdjlollaaRows
import Derived.Test.YtbedoemdjlollaaKJudgeMerges5
namespace Go.Proofs.Ytbedoemdjlollaa
open Go.ChangeShapes Go.WideShapes Go.ChangeAt Go.RowKit Go.Syn
set_option linter.unusedVariables false
set_option linter.unusedSimpArgs false












set_option maxHeartbeats 400000 in
theorem check_any (a : Option Addr) (cap : Nat) (xs : List Int) (w : World) (h : Ints w a xs) :
    Calls Try.prog 38 #[.slice a xs.length cap] w fun e w' => e = .returned (.int .i64 (checkV xs)) ∧ w = w' := by
  have hl := h.len
  have H := Lib.hid h; clear h
  by_cases h0 : 1 ≤ xs.length ∧ xs.length ≤ 7
  · obtain ⟨h0, h1⟩ := h0
    go_enter Try.func38, Try.ntmps38
    go_wp2
    go_loop [3, 16] (fun l i => ∃ k : Nat, k ≤ xs.length ∧ i = .int .i64 k ∧ l = .int .i64 (prevOf xs k) ∧ Hid (∀ i, i < k → goodAt xs i)) (fun _ i => xs.length - (intOf i).toNat)
    case atStart => exact ⟨0, by omega, rfl, rfl, fun i hi => by omega⟩
    case round =>
      obtain ⟨k, hk, rfl, rfl, hg⟩ := hrel
      by_cases hlt : k < xs.length
      · obtain ⟨ha, hb, hc⟩ := H.out.at_ (by omega)
        replace hc := hc k hlt
        have S := Lib.hid (prevOf_succ xs k)
        by_cases hgood : goodAt xs k
        · have G := Lib.hid hgood
          obtain ⟨g1, g2⟩ := hgood
          generalize hx : xs.getD k 0 = x at hc g1 g2 S
          generalize hp : prevOf xs k = p at g1
          clear hx hp
          go_wp2
          go_round
          case rel =>
            refine ⟨k + 1, by omega, by go_num, by rw [S.out], fun i hi => ?_⟩
            by_cases e : i = k
            · subst e; exact G.out
            · exact hg.out i (by omega)
          case measure => simp [intOf]; omega
        · have R := Lib.hid (show checkV xs = 24 by
            have : setOkB xs = false := by
              simp only [setOkB, decide_eq_false_iff_not]; intro h; exact hgood (h.2.2 k hlt)
            simp [checkV, this])
          unfold goodAt at hgood
          generalize hx : xs.getD k 0 = x at hc hgood
          generalize hp : prevOf xs k = p at hgood
          clear hx hp
          go_wp2
          all_goals first
            | (exfalso; omega)
            | (go_ret; exact ⟨by rw [R.out]; rfl, rfl⟩)
      · have R := Lib.hid (show checkV xs = 0 by
          have : setOkB xs = true := by
            simp only [setOkB, decide_eq_true_eq]; exact ⟨h0, h1, fun i hi => hg.out i (by omega)⟩
          simp [checkV, this])
        go_wp2
        go_ret
        exact ⟨by rw [R.out]; rfl, rfl⟩
  · have R := Lib.hid (show checkV xs = 24 by
      have : setOkB xs = false := by
        simp only [setOkB, decide_eq_false_iff_not]; intro h; exact h0 ⟨h.1, h.2.1⟩
      simp [checkV, this])
    go_enter Try.func38, Try.ntmps38
    go_wp2_with fail
    all_goals first
      | (exfalso; omega)
      | (go_ret; exact ⟨by rw [R.out]; rfl, rfl⟩)

end Go.Proofs.Ytbedoemdjlollaa
