/- Contracts of the package ballot: Has, Quorum, Enough, Leader, Check. -/
import Derived.Test.YtdjjiamiiglepaaRows
import Derived.Test.YtdjjiamiiglepaaLib
import Derived.Test.YtdjjiamiiglepaaBalBase
namespace Go.Proofs.Ytdjjiamiiglepaa
open Go.ChangeShapes Go.WideShapes Go.ChangeAt Go.RowKit Go.Syn
set_option linter.unusedVariables false
set_option linter.unusedSimpArgs false











theorem leader_any (a : Option Addr) (cap : Nat) (xs : List Int) (r : Int) (w : World) (h : Ints w a xs) (hr : I64 r) :
    Calls Try.prog 17 #[.slice a xs.length cap, .int .i64 r] w fun e w' => e = .returned (.int .i64 (leaderV xs r)) ∧ w = w' := by
  have hl := h.len
  by_cases h0 : 0 < xs.length ∧ 1 ≤ r
  · obtain ⟨h0, h1⟩ := h0
    obtain ⟨ha, hb, hc⟩ := h.at_ h0
    have e := Lib.hid (leaderV_at h0 h1)
    have m0 := Int.emod_nonneg (r - 1) (b := xs.length) (by omega)
    have m1 := Int.emod_lt_of_pos (r - 1) (b := xs.length) (by omega)
    replace hc := hc ((r - 1) % xs.length).toNat (by omega)
    obtain ⟨r0, r1⟩ := hr
    clear h
    generalize hx : xs.getD ((r - 1) % xs.length).toNat 0 = x at hc e
    clear hx
    have n0 : ((xs.length : Int) == 0) = false := by rw [beq_eq_false_iff_ne]; omega
    go_enter Try.func17, Try.ntmps17
    go_wp2
    go_ret
    exact ⟨by rw [e.out]; rfl, rfl⟩
  · have e := Lib.hid (show leaderV xs r = 0 by unfold leaderV; exact if_pos (by omega))
    clear h hr
    by_cases hx : xs.length = 0
    · have n0 : ((xs.length : Int) == 0) = true := by rw [beq_iff_eq]; omega
      clear hx
      go_enter Try.func17, Try.ntmps17
      go_wp2
      go_ret
      exact ⟨by rw [e.out]; rfl, rfl⟩
    · have n0 : ((xs.length : Int) == 0) = false := by rw [beq_eq_false_iff_ne]; omega
      have h1 : r < 1 := by omega
      clear hx
      go_enter Try.func17, Try.ntmps17
      go_wp2
      go_ret
      exact ⟨by rw [e.out]; rfl, rfl⟩

set_option maxHeartbeats 400000 in
theorem check_any (a : Option Addr) (cap : Nat) (xs : List Int) (w : World) (h : Ints w a xs) :
    Calls Try.prog 16 #[.slice a xs.length cap] w fun e w' => e = .returned (.int .i64 (checkV xs)) ∧ w = w' := by
  have hl := h.len
  have H := Lib.hid h; clear h
  by_cases h0 : 1 ≤ xs.length ∧ xs.length ≤ 7
  · obtain ⟨h0, h1⟩ := h0
    go_enter Try.func16, Try.ntmps16
    go_wp2
    go_loop [3, 16] (fun l i => ∃ k : Nat, k ≤ xs.length ∧ i = .int .i64 k ∧ l = .int .i64 (prevOf xs k) ∧ Hid (∀ i, i < k → goodAt xs i)) (fun _ i => xs.length - (intOf i).toNat)
    case atStart => exact ⟨0, by omega, rfl, rfl, fun i hi => by omega⟩
    case round =>
      obtain ⟨k, hk, rfl, rfl, hg⟩ := hrel
      by_cases hlt : k < xs.length
      · obtain ⟨ha, hb, hc⟩ := H.out.at_ (by omega)
        replace hc := hc k hlt
        have S := Lib.hid (prevOf_succ xs k)
        by_cases hgood : goodAt xs k
        · have G := Lib.hid hgood
          obtain ⟨g1, g2⟩ := hgood
          generalize hx : xs.getD k 0 = x at hc g1 g2 S
          generalize hp : prevOf xs k = p at g1
          clear hx hp
          go_wp2
          go_round
          case rel =>
            refine ⟨k + 1, by omega, by go_num, by rw [S.out], fun i hi => ?_⟩
            by_cases e : i = k
            · subst e; exact G.out
            · exact hg.out i (by omega)
          case measure => simp [intOf]; omega
        · have R := Lib.hid (show checkV xs = 24 by
            have : setOkB xs = false := by
              simp only [setOkB, decide_eq_false_iff_not]; intro h; exact hgood (h.2.2 k hlt)
            simp [checkV, this])
          unfold goodAt at hgood
          generalize hx : xs.getD k 0 = x at hc hgood
          generalize hp : prevOf xs k = p at hgood
          clear hx hp
          go_wp2
          all_goals first
            | (exfalso; omega)
            | (go_ret; exact ⟨by rw [R.out]; rfl, rfl⟩)
      · have R := Lib.hid (show checkV xs = 0 by
          have : setOkB xs = true := by
            simp only [setOkB, decide_eq_true_eq]; exact ⟨h0, h1, fun i hi => hg.out i (by omega)⟩
          simp [checkV, this])
        go_wp2
        go_ret
        exact ⟨by rw [R.out]; rfl, rfl⟩
  · have R := Lib.hid (show checkV xs = 24 by
      have : setOkB xs = false := by
        simp only [setOkB, decide_eq_false_iff_not]; intro h; exact h0 ⟨h.1, h.2.1⟩
      simp [checkV, this])
    go_enter Try.func16, Try.ntmps16
    go_wp2_with fail
    all_goals first
      | (exfalso; omega)
      | (go_ret; exact ⟨by rw [R.out]; rfl, rfl⟩)

end Go.Proofs.Ytdjjiamiiglepaa
