/- Contracts of the reference of layer 5: they come to the same as the package ballot. -/
import Derived.Test.YtdjjiamiiglepaaBalB
namespace Go.Proofs.Ytdjjiamiiglepaa
open Go.ChangeShapes Go.WideShapes Go.ChangeAt Go.RowKit Go.Syn
set_option linter.unusedVariables false
set_option linter.unusedSimpArgs false


theorem enough2 (ms ns : List Int) : decide ((ms.length : Int) < 2 * (inCount ms ns : Int)) = enoughB ms ns := by
  have := inCount_le ms ns
  unfold enoughB quorumV
  rw [decide_eq_decide]; omega


theorem refLeader_any (a : Option Addr) (cap : Nat) (xs : List Int) (r : Int) (w : World) (h : Ints w a xs) (h0 : 0 < xs.length) (hr : I64 r) :
    Calls Try.prog 19 #[.slice a xs.length cap, .int .i64 r] w fun e w' => e = .returned (.int .i64 (leaderV xs r)) ∧ w = w' := by
  have hl := h.len
  by_cases h1 : 1 ≤ r
  · obtain ⟨ha, hb, hc⟩ := h.at_ h0
    have e := Lib.hid (leaderV_at h0 h1)
    have m0 := Int.emod_nonneg r (b := xs.length) (by omega)
    have m1 := Int.emod_lt_of_pos r (b := xs.length) (by omega)
    have m2 := Int.emod_nonneg (r - 1) (b := xs.length) (by omega)
    have m3 := Int.emod_lt_of_pos (r - 1) (b := xs.length) (by omega)
    obtain ⟨r0, r1⟩ := hr
    clear h r0
    have K : (r - 1) % (xs.length : Int) = if r % (xs.length : Int) = 0 then (xs.length : Int) - 1 else r % (xs.length : Int) - 1 := by
      have ed : r = xs.length * (r / xs.length) + r % xs.length := (Int.mul_ediv_add_emod r xs.length).symm
      split
      · rename_i hz
        have : r - 1 = (xs.length - 1) + xs.length * (r / xs.length - 1) := by rw [Int.mul_sub]; omega
        rw [this, Int.add_mul_emod_self_left]; exact Int.emod_eq_of_lt (by omega) (by omega)
      · have : r - 1 = (r % xs.length - 1) + xs.length * (r / xs.length) := by omega
        rw [this, Int.add_mul_emod_self_left]; exact Int.emod_eq_of_lt (by omega) (by omega)
    by_cases hz : r % (xs.length : Int) = 0
    · rw [if_pos hz] at K
      have hz' : (r % (xs.length : Int) == 0) = true := by simpa using hz
      have hc2 := hc (xs.length - 1) (by omega)
      rw [show ((r - 1) % (xs.length : Int)).toNat = xs.length - 1 by omega] at e
      generalize hx : xs.getD (xs.length - 1) 0 = x at hc2 e
      clear hx hc K hz m2 m3
      go_enter Try.func19, Try.ntmps19
      go_wp2
      go_ret
      exact ⟨by rw [e.out]; rfl, rfl⟩
    · rw [if_neg hz] at K
      have hz' : (r % (xs.length : Int) == 0) = false := by simpa using hz
      have hc2 := hc ((r % (xs.length : Int)).toNat - 1) (by omega)
      rw [show ((r - 1) % (xs.length : Int)).toNat = (r % (xs.length : Int)).toNat - 1 by rw [K]; omega] at e
      have m4 : 1 ≤ r % (xs.length : Int) := by omega
      generalize hx : xs.getD ((r % (xs.length : Int)).toNat - 1) 0 = x at hc2 e
      clear hx hc K hz m2 m3
      go_enter Try.func19, Try.ntmps19
      go_wp2
      go_ret
      exact ⟨by rw [e.out]; rfl, rfl⟩
  · have e := Lib.hid (show leaderV xs r = 0 by unfold leaderV; exact if_pos (by omega))
    clear h hr
    go_enter Try.func19, Try.ntmps19
    go_wp2
    go_ret
    exact ⟨by rw [e.out]; rfl, rfl⟩



theorem good2 {xs : List Int} {k : Nat} (h : ∀ i, i < k → goodAt xs i) : (goodAt xs k ↔ 1 ≤ xs.getD k 0 ∧ xs.getD k 0 ≤ 9 ∧ (0 < k → xs.getD (k - 1) 0 < xs.getD k 0)) := by
  have p := good_pos h
  unfold goodAt
  rcases Nat.eq_zero_or_pos k with rfl | hk
  · simp [prevOf]; omega
  · have : prevOf xs k = xs.getD (k - 1) 0 := by unfold prevOf; exact if_neg (by omega)
    rw [this] at p ⊢; omega

set_option maxHeartbeats 1000000 in
theorem refRight_any (a : Option Addr) (cap : Nat) (xs : List Int) (w : World) (h : Ints w a xs) :
    Calls Try.prog 7 #[.slice a xs.length cap] w fun e w' => e = .returned (.bool (setOkB xs)) ∧ Below w.heap.size w w' := by
  have hl := h.len
  have H := Lib.hid h; clear h
  by_cases h0 : 1 ≤ xs.length ∧ xs.length ≤ 7
  · obtain ⟨h0, h1⟩ := h0
    have n0 : ((xs.length : Int) == 0) = false := by rw [beq_eq_false_iff_ne]; omega
    go_enter Try.func7, Try.ntmps7
    go_wp2
    go_loopw [14] (fun i wr => ∃ k : Nat, k ≤ xs.length ∧ i = .int .i64 k ∧ Hid (∀ i, i < k → goodAt xs i) ∧ ∃ n, wr = w.drewN n) (fun i _ => xs.length - (intOf i).toNat)
    case atStart => exact ⟨0, by omega, rfl, fun i hi => by omega, 0, rfl⟩
    case round =>
      obtain ⟨k, hk, rfl, hg, n, rfl⟩ := hrel
      by_cases hlt : k < xs.length
      · obtain ⟨ha, hb, hc⟩ := H.out.at_ (by omega)
        have hc0 := hc k hlt
        have hc1 := fun hk : 0 < k => hc (k - 1) (by omega)
        have G := Lib.hid (good2 hg.out)
        have R := Lib.hid (show ¬ goodAt xs k → setOkB xs = false by
          intro hn; simp only [setOkB, decide_eq_false_iff_not]; intro h; exact hn (h.2.2 k hlt))
        clear hc
        generalize hx : xs.getD k 0 = x at hc0 G
        generalize hp : xs.getD (k - 1) 0 = p at hc1 G
        clear hx hp
        by_cases d1 : x < 1
        · have R' := Lib.hid (R.out (by rw [G.out]; omega))
          go_wp2_with fail
          go_quiet (fail)
          go_wp2_with fail
          go_ret
          exact ⟨by rw [R'.out]; rfl, (by repeat (first | exact Below.refl _ _ | assumption | (refine Below.setCell ?_ (by first | omega | (simp; omega) | (simp; done)) _) | (refine below_drewN ?_ _) | (refine Below.drew ?_) | (refine Below.allocW ?_ _) | (refine Below.alloc ?_ (by first | omega | (simp; omega) | (simp; done)) _)))⟩
        · have D1 : decide (x < 1) = false := by simpa using d1
          by_cases d2 : 9 < x
          · have R' := Lib.hid (R.out (by rw [G.out]; omega))
            go_wp2_with fail
            go_quiet (fail)
            go_wp2_with fail
            go_ret
            exact ⟨by rw [R'.out]; rfl, (by repeat (first | exact Below.refl _ _ | assumption | (refine Below.setCell ?_ (by first | omega | (simp; omega) | (simp; done)) _) | (refine below_drewN ?_ _) | (refine Below.drew ?_) | (refine Below.allocW ?_ _) | (refine Below.alloc ?_ (by first | omega | (simp; omega) | (simp; done)) _)))⟩
          · have D2 : decide (9 < x) = false := by simpa using d2
            by_cases d3 : 0 < k
            · replace hc1 := hc1 d3
              have d3' : (0 : Int) ≤ (k : Int) - 1 := by omega
              by_cases d4 : x ≤ p
              · have R' := Lib.hid (R.out (by rw [G.out]; omega))
                go_wp2_with fail
                go_quiet (fail)
                go_wp2_with fail
                go_ret
                exact ⟨by rw [R'.out]; rfl, (by repeat (first | exact Below.refl _ _ | assumption | (refine Below.setCell ?_ (by first | omega | (simp; omega) | (simp; done)) _) | (refine below_drewN ?_ _) | (refine Below.drew ?_) | (refine Below.allocW ?_ _) | (refine Below.alloc ?_ (by first | omega | (simp; omega) | (simp; done)) _)))⟩
              · have D4 : decide (x ≤ p) = false := by simpa using d4
                have R' := Lib.hid (G.out.2 (by omega))
                go_wp2_with fail
                go_quiet (fail)
                go_wp2_with fail
                go_roundw
                case rel =>
                  refine ⟨k + 1, by omega, by go_num, fun i hi => ?_, _, rfl⟩
                  by_cases e : i = k
                  · subst e; exact R'.out
                  · exact hg.out i (by omega)
                case measure => simp [intOf]; omega
            · have hk0 : k = 0 := by omega
              have R' := Lib.hid (G.out.2 (by omega))
              have D3 : decide ((0 : Int) < (k : Int)) = false := by simp; omega
              have HK := Lib.hid hk0
              clear hc1 hk0
              go_wp2_with fail
              go_quiet (fail)
              go_wp2_with fail
              go_roundw
              case rel =>
                refine ⟨k + 1, by omega, by go_num, fun i hi => ?_, _, rfl⟩
                by_cases e : i = k
                · subst e; exact R'.out
                · exact hg.out i (by omega)
              case measure => simp [intOf]; omega
      · have R := Lib.hid (show setOkB xs = true by
          simp only [setOkB, decide_eq_true_eq]; exact ⟨h0, h1, fun i hi => hg.out i (by omega)⟩)
        go_wp2_with fail
        go_ret
        exact ⟨by rw [R.out]; rfl, (by repeat (first | exact Below.refl _ _ | assumption | (refine Below.setCell ?_ (by first | omega | (simp; omega) | (simp; done)) _) | (refine below_drewN ?_ _) | (refine Below.drew ?_) | (refine Below.allocW ?_ _) | (refine Below.alloc ?_ (by first | omega | (simp; omega) | (simp; done)) _)))⟩
  · have R := Lib.hid (show setOkB xs = false by
      simp only [setOkB, decide_eq_false_iff_not]; intro h; exact h0 ⟨h.1, h.2.1⟩)
    by_cases hx : xs.length = 0
    · have n0 : ((xs.length : Int) == 0) = true := by rw [beq_iff_eq]; omega
      clear hx h0
      go_enter Try.func7, Try.ntmps7
      go_wp2_with fail
      go_ret
      exact ⟨by rw [R.out]; rfl, (by repeat (first | exact Below.refl _ _ | assumption | (refine Below.setCell ?_ (by first | omega | (simp; omega) | (simp; done)) _) | (refine below_drewN ?_ _) | (refine Below.drew ?_) | (refine Below.allocW ?_ _) | (refine Below.alloc ?_ (by first | omega | (simp; omega) | (simp; done)) _)))⟩
    · have n0 : ((xs.length : Int) == 0) = false := by rw [beq_eq_false_iff_ne]; omega
      have n7 : 7 < xs.length := by omega
      clear hx h0
      go_enter Try.func7, Try.ntmps7
      go_wp2_with fail
      go_ret
      exact ⟨by rw [R.out]; rfl, (by repeat (first | exact Below.refl _ _ | assumption | (refine Below.setCell ?_ (by first | omega | (simp; omega) | (simp; done)) _) | (refine below_drewN ?_ _) | (refine Below.drew ?_) | (refine Below.allocW ?_ _) | (refine Below.alloc ?_ (by first | omega | (simp; omega) | (simp; done)) _)))⟩

end Go.Proofs.Ytdjjiamiiglepaa
