/- Part 5 of the texts of a proof about the given program: what the statement's proof needs of them. -/
import Derived.Test.YtlgpjjgkdpmidaaRows
import Derived.Test.YtlgpjjgkdpmidaaKProposerAgain4
namespace Go.Proofs.Ytlgpjjgkdpmidaa
open Go.ChangeShapes Go.WideShapes Go.ChangeAt Go.RowKit Go.Syn
set_option linter.unusedVariables false
set_option linter.unusedSimpArgs false

set_option maxHeartbeats 400000 in
theorem indexM_any (a : Option Addr) (cap : Nat) (xs : List Int) (v : Int) (w : World) (h : Ints w a xs) :
    Calls Try.prog 70 #[.slice a xs.length cap, .int .i64 v] w fun e w' => e = .returned (.int .i64 (idx xs v)) ∧ w = w' := by
  have hl := h.len
  have H := Lib.hid h; clear h
  go_enter Try.func70, Try.ntmps70
  go_wp2
  go_loop [8] (fun i => ∃ k : Nat, k ≤ xs.length ∧ Hid (∀ j, j < k → xs.getD j 0 ≠ v) ∧ i = .int .i64 k) (fun i => xs.length - (intOf i).toNat)
  case atStart => exact ⟨0, by omega, fun j hj => by omega, rfl⟩
  case round =>
    obtain ⟨k, hk, hn, rfl⟩ := hrel
    by_cases hlt : k < xs.length
    · obtain ⟨ha, hb, hc⟩ := H.out.at_ (by omega)
      replace hc := hc k hlt
      generalize hx : xs.getD k 0 = x at hc
      have HX := Lib.hid hx; clear hx
      by_cases hv : v = x
      · have hv' : (v == x) = true := by simpa using hv
        have HV := Lib.hid hv; clear hv
        go_wp2
        go_ret
        exact ⟨by rw [idx_hit xs v k hlt hn.out (by rw [HX.out, HV.out])]; rfl, rfl⟩
      · have hv' : (v == x) = false := by simpa using hv
        go_wp2
        go_round
        case rel =>
          refine ⟨k + 1, by omega, fun j hj => ?_, by go_num⟩
          by_cases hjk : j = k
          · subst hjk; rw [HX.out]; exact Ne.symm hv
          · exact hn.out j (by omega)
        case measure => simp [intOf]; omega
    · have : k = xs.length := by omega
      subst this
      have I := Lib.hid (idx_miss xs v hn.out)
      go_wp2
      go_ret
      exact ⟨by rw [I.out]; rfl, rfl⟩

theorem containsM_any (a : Option Addr) (cap : Nat) (xs : List Int) (v : Int) (w : World) (h : Ints w a xs) :
    Calls Try.prog 62 #[.slice a xs.length cap, .int .i64 v] w fun e w' => e = .returned (.bool (hasB xs v)) ∧ w = w' := by
  have e := Lib.hid (hasB_idx xs v)
  generalize hB : hasB xs v = B at e
  have HB := Lib.hid hB; clear hB
  go_enter Try.func62, Try.ntmps62
  go_wp2_with (go_at_call 70; refine (indexM_any _ _ _ _ _ h).mono ?_; rintro e w' ⟨rfl, rfl⟩)
  go_ret
  exact ⟨by rw [← e.out]; rfl, rfl⟩


set_option maxHeartbeats 400000 in
theorem indexI_any (a : Option Addr) (cap : Nat) (xs : List Int) (v : Int) (w : World) (h : Ints w a xs) :
    Calls Try.prog 51 #[.slice a xs.length cap, .int .i64 v] w fun e w' => e = .returned (.int .i64 (idx xs v)) ∧ w = w' := by
  have hl := h.len
  have H := Lib.hid h; clear h
  go_enter Try.func51, Try.ntmps51
  go_wp2
  go_loop [8] (fun i => ∃ k : Nat, k ≤ xs.length ∧ Hid (∀ j, j < k → xs.getD j 0 ≠ v) ∧ i = .int .i64 k) (fun i => xs.length - (intOf i).toNat)
  case atStart => exact ⟨0, by omega, fun j hj => by omega, rfl⟩
  case round =>
    obtain ⟨k, hk, hn, rfl⟩ := hrel
    by_cases hlt : k < xs.length
    · obtain ⟨ha, hb, hc⟩ := H.out.at_ (by omega)
      replace hc := hc k hlt
      generalize hx : xs.getD k 0 = x at hc
      have HX := Lib.hid hx; clear hx
      by_cases hv : v = x
      · have hv' : (v == x) = true := by simpa using hv
        have HV := Lib.hid hv; clear hv
        go_wp2
        go_ret
        exact ⟨by rw [idx_hit xs v k hlt hn.out (by rw [HX.out, HV.out])]; rfl, rfl⟩
      · have hv' : (v == x) = false := by simpa using hv
        go_wp2
        go_round
        case rel =>
          refine ⟨k + 1, by omega, fun j hj => ?_, by go_num⟩
          by_cases hjk : j = k
          · subst hjk; rw [HX.out]; exact Ne.symm hv
          · exact hn.out j (by omega)
        case measure => simp [intOf]; omega
    · have : k = xs.length := by omega
      subst this
      have I := Lib.hid (idx_miss xs v hn.out)
      go_wp2
      go_ret
      exact ⟨by rw [I.out]; rfl, rfl⟩

theorem containsI_any (a : Option Addr) (cap : Nat) (xs : List Int) (v : Int) (w : World) (h : Ints w a xs) :
    Calls Try.prog 27 #[.slice a xs.length cap, .int .i64 v] w fun e w' => e = .returned (.bool (hasB xs v)) ∧ w = w' := by
  have e := Lib.hid (hasB_idx xs v)
  generalize hB : hasB xs v = B at e
  have HB := Lib.hid hB; clear hB
  go_enter Try.func27, Try.ntmps27
  go_wp2_with (go_at_call 51; refine (indexI_any _ _ _ _ _ h).mono ?_; rintro e w' ⟨rfl, rfl⟩)
  go_ret
  exact ⟨by rw [← e.out]; rfl, rfl⟩



theorem has_any (a : Option Addr) (cap : Nat) (xs : List Int) (v : Int) (w : World) (h : Ints w a xs) :
    Calls Try.prog 40 #[.slice a xs.length cap, .int .i64 v] w fun e w' => e = .returned (.bool (hasB xs v)) ∧ w = w' := by
  go_enter Try.func40, Try.ntmps40
  go_wp2_with (go_at_call 62; refine (containsM_any _ _ _ _ _ h).mono ?_; rintro e w' ⟨rfl, rfl⟩)
  go_ret
  exact ⟨rfl, rfl⟩

theorem quorum_any (a : Option Addr) (cap : Nat) (xs : List Int) (w : World) (hl : xs.length ≤ 9223372036854775807) :
    Calls Try.prog 65 #[.slice a xs.length cap] w fun e w' => e = .returned (.int .i64 (quorumV xs)) ∧ w = w' := by
  go_enter Try.func65, Try.ntmps65
  go_wp2
  go_ret
  exact ⟨rfl, rfl⟩

set_option maxHeartbeats 400000 in
theorem enough_any (a : Option Addr) (cap : Nat) (ms : List Int) (a2 : Option Addr) (cap2 : Nat) (ns : List Int) (w : World) (h : Ints w a ms) (h2 : Ints w a2 ns) :
    Calls Try.prog 42 #[.slice a ms.length cap, .slice a2 ns.length cap2] w fun e w' => e = .returned (.bool (enoughB ms ns)) ∧ w = w' := by
  have hl := h.len
  have H := Lib.hid h; clear h
  have H2 := Lib.hid h2; clear h2
  go_enter Try.func42, Try.ntmps42
  go_wp2
  go_loop [5, 10] (fun n i => ∃ k : Nat, k ≤ ms.length ∧ i = .int .i64 k ∧ n = .int .i64 (inCount (ms.take k) ns)) (fun _ i => ms.length - (intOf i).toNat)
  case atStart => exact ⟨0, by omega, rfl, rfl⟩
  case round =>
    obtain ⟨k, hk, rfl, rfl⟩ := hrel
    have hle : inCount (ms.take k) ns ≤ k := Nat.le_trans (inCount_le _ _) (List.length_take_le _ _)
    by_cases hlt : k < ms.length
    · obtain ⟨ha, hb, hc⟩ := H.out.at_ (by omega)
      replace hc := hc k hlt
      have S := Lib.hid (inCount_succ ms ns k hlt)
      generalize hx : ms.getD k 0 = x at hc S
      clear hx
      generalize hn : inCount (ms.take k) ns = n at hle S
      clear hn
      by_cases hv : hasB ns x = true
      · go_wp2_with (go_at_call 27; refine (containsI_any _ _ _ _ _ H2.out).mono ?_; rintro e w' ⟨rfl, rfl⟩)
        go_round
        case rel => exact ⟨k + 1, by omega, by go_num, by rw [S.out, hv]; go_num⟩
        case measure => simp [intOf]; omega
      · have hv : hasB ns x = false := by simpa using hv
        go_wp2_with (go_at_call 27; refine (containsI_any _ _ _ _ _ H2.out).mono ?_; rintro e w' ⟨rfl, rfl⟩)
        go_round
        case rel => exact ⟨k + 1, by omega, by go_num, by rw [S.out, hv]; go_num⟩
        case measure => simp [intOf]; omega
    · have : k = ms.length := by omega
      subst this
      have e1 : ms.take ms.length = ms := List.take_length
      rw [e1] at hle ⊢
      by_cases h0 : 0 < ms.length
      · by_cases hq : quorumV ms ≤ inCount ms ns
        · have R : enoughB ms ns = true := by simp [enoughB, h0, hq]
          have RR := Lib.hid R; clear R
          go_wp2_with (go_at_call 65; refine (quorum_any _ _ _ _ hl).mono ?_; rintro e w' ⟨rfl, rfl⟩)
          go_ret
          exact ⟨by rw [RR.out]; first | rfl | (simp; omega), rfl⟩
        · have R : enoughB ms ns = false := by simp only [enoughB, decide_eq_false_iff_not]; omega
          have RR := Lib.hid R; clear R
          go_wp2_with (go_at_call 65; refine (quorum_any _ _ _ _ hl).mono ?_; rintro e w' ⟨rfl, rfl⟩)
          go_ret
          exact ⟨by rw [RR.out]; first | rfl | (simp; omega), rfl⟩
      · have R : enoughB ms ns = false := by simp only [enoughB, decide_eq_false_iff_not]; omega
        have RR := Lib.hid R; clear R
        have h1 : ms.length = 0 := by omega
        go_wp2_with (go_at_call 65; refine (quorum_any _ _ _ _ hl).mono ?_; rintro e w' ⟨rfl, rfl⟩)
        go_ret
        exact ⟨by rw [RR.out]; first | rfl | (simp; omega), rfl⟩


set_option maxHeartbeats 400000 in
theorem check_any (a : Option Addr) (cap : Nat) (xs : List Int) (w : World) (h : Ints w a xs) :
    Calls Try.prog 26 #[.slice a xs.length cap] w fun e w' => e = .returned (.int .i64 (checkV xs)) ∧ w = w' := by
  have hl := h.len
  have H := Lib.hid h; clear h
  by_cases h0 : 1 ≤ xs.length ∧ xs.length ≤ 7
  · obtain ⟨h0, h1⟩ := h0
    go_enter Try.func26, Try.ntmps26
    go_wp2
    go_loop [3, 16] (fun l i => ∃ k : Nat, k ≤ xs.length ∧ i = .int .i64 k ∧ l = .int .i64 (prevOf xs k) ∧ Hid (∀ i, i < k → goodAt xs i)) (fun _ i => xs.length - (intOf i).toNat)
    case atStart => exact ⟨0, by omega, rfl, rfl, fun i hi => by omega⟩
    case round =>
      obtain ⟨k, hk, rfl, rfl, hg⟩ := hrel
      by_cases hlt : k < xs.length
      · obtain ⟨ha, hb, hc⟩ := H.out.at_ (by omega)
        replace hc := hc k hlt
        have S := Lib.hid (prevOf_succ xs k)
        by_cases hgood : goodAt xs k
        · have G := Lib.hid hgood
          obtain ⟨g1, g2⟩ := hgood
          generalize hx : xs.getD k 0 = x at hc g1 g2 S
          generalize hp : prevOf xs k = p at g1
          clear hx hp
          go_wp2
          go_round
          case rel =>
            refine ⟨k + 1, by omega, by go_num, by rw [S.out], fun i hi => ?_⟩
            by_cases e : i = k
            · subst e; exact G.out
            · exact hg.out i (by omega)
          case measure => simp [intOf]; omega
        · have R := Lib.hid (show checkV xs = 24 by
            have : setOkB xs = false := by
              simp only [setOkB, decide_eq_false_iff_not]; intro h; exact hgood (h.2.2 k hlt)
            simp [checkV, this])
          unfold goodAt at hgood
          generalize hx : xs.getD k 0 = x at hc hgood
          generalize hp : prevOf xs k = p at hgood
          clear hx hp
          go_wp2
          all_goals first
            | (exfalso; omega)
            | (go_ret; exact ⟨by rw [R.out]; rfl, rfl⟩)
      · have R := Lib.hid (show checkV xs = 0 by
          have : setOkB xs = true := by
            simp only [setOkB, decide_eq_true_eq]; exact ⟨h0, h1, fun i hi => hg.out i (by omega)⟩
          simp [checkV, this])
        go_wp2
        go_ret
        exact ⟨by rw [R.out]; rfl, rfl⟩
  · have R := Lib.hid (show checkV xs = 24 by
      have : setOkB xs = false := by
        simp only [setOkB, decide_eq_false_iff_not]; intro h; exact h0 ⟨h.1, h.2.1⟩
      simp [checkV, this])
    go_enter Try.func26, Try.ntmps26
    go_wp2_with fail
    all_goals first
      | (exfalso; omega)
      | (go_ret; exact ⟨by rw [R.out]; rfl, rfl⟩)

end Go.Proofs.Ytlgpjjgkdpmidaa
