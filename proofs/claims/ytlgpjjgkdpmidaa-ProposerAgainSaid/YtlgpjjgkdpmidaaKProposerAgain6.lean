/- Part 6 of the texts of a proof about the given program: what the statement's proof needs of them. -/
import Derived.Deep.RegionHeld3
import Derived.Test.YtlgpjjgkdpmidaaKProposerAgain5
namespace Go.Proofs.Ytlgpjjgkdpmidaa
open Go.ChangeShapes Go.WideShapes Go.ChangeAt Go.RowKit Go.Syn
set_option linter.unusedVariables false
set_option linter.unusedSimpArgs false

theorem isNaN_any (n : Int) (w : World) : Calls Try.prog 69 #[.int .i64 n] w fun e w' => e = .returned (.bool false) ∧ w = w' := by
  go_enter Try.func69, Try.ntmps69
  go_wp2
  go_ret
  exact ⟨by simp, rfl⟩

theorem cmp_any (a b : Int) (w : World) : Calls Try.prog 50 #[.int .i64 a, .int .i64 b] w fun e w' => e = .returned (.int .i64 (cmpV a b)) ∧ w = w' := by
  by_cases h1 : a < b
  · have e := Lib.hid (show cmpV a b = -1 by simp [cmpV, h1])
    go_enter Try.func50, Try.ntmps50
    go_wp2_with (go_at_call 69; refine (isNaN_any _ _).mono ?_; rintro e w' ⟨rfl, rfl⟩)
    go_ret
    exact ⟨by rw [e.out]; rfl, rfl⟩
  · by_cases h2 : b < a
    · have e := Lib.hid (show cmpV a b = 1 by simp [cmpV, h1, h2])
      go_enter Try.func50, Try.ntmps50
      go_wp2_with (go_at_call 69; refine (isNaN_any _ _).mono ?_; rintro e w' ⟨rfl, rfl⟩)
      go_ret
      exact ⟨by rw [e.out]; rfl, rfl⟩
    · have e := Lib.hid (show cmpV a b = 0 by simp [cmpV, h1, h2])
      go_enter Try.func50, Try.ntmps50
      go_wp2_with (go_at_call 69; refine (isNaN_any _ _).mono ?_; rintro e w' ⟨rfl, rfl⟩)
      go_ret
      exact ⟨by rw [e.out]; rfl, rfl⟩

set_option maxHeartbeats 400000 in
theorem or_any (a : Option Addr) (cap : Nat) (xs : List Int) (w : World) (h : Ints w a xs) :
    Calls Try.prog 52 #[.slice a xs.length cap] w fun e w' => e = .returned (.int .i64 (firstNZ xs)) ∧ w = w' := by
  have hl := h.len
  have H := Lib.hid h; clear h
  go_enter Try.func52, Try.ntmps52
  go_wp2
  go_loop [8] (fun i => ∃ k : Nat, k ≤ xs.length ∧ Hid (firstNZ xs = firstNZ (xs.drop k)) ∧ i = .int .i64 k) (fun i => xs.length - (intOf i).toNat)
  case atStart => exact ⟨0, by omega, rfl, rfl⟩
  case round =>
    obtain ⟨k, hk, hn, rfl⟩ := hrel
    by_cases hlt : k < xs.length
    · obtain ⟨ha, hb, hc⟩ := H.out.at_ (by omega)
      replace hc := hc k hlt
      have D := Lib.hid (firstNZ_drop xs k hlt)
      have D2 := Lib.hid (firstNZ_hit xs k hlt)
      generalize hx : xs.getD k 0 = x at hc D D2
      clear hx
      by_cases hv : x = 0
      · have hv' : (x != 0) = false := by simpa using hv
        have HV := Lib.hid hv; clear hv
        go_wp2
        go_round
        case rel => exact ⟨k + 1, by omega, hn.out.trans (D.out HV.out), by go_num⟩
        case measure => simp [intOf]; omega
      · have hv' : (x != 0) = true := by simpa using hv
        go_wp2
        go_ret
        exact ⟨by rw [hn.out, D2.out hv]; rfl, rfl⟩
    · have : k = xs.length := by omega
      subst this
      have E := Lib.hid (show firstNZ (xs.drop xs.length) = 0 by simp [firstNZ])
      go_wp2
      go_ret
      exact ⟨by rw [hn.out, E.out]; rfl, rfl⟩

theorem compareV_eq (r n s m : Int) : firstNZ [cmpV r s, cmpV n m] = compareV r n s m := by
  unfold compareV firstNZ firstNZ firstNZ
  split
  · split <;> simp_all
  · rfl

theorem cmpV_fit (a b : Int) : I64 (cmpV a b) := by unfold cmpV I64; split <;> (try split) <;> omega

set_option maxHeartbeats 800000 in
theorem compare_any (r n s m : Int) (w : World) :
    Calls Try.prog 30 #[.agg #[.int .i64 r, .int .i64 n], .agg #[.int .i64 s, .int .i64 m]] w fun e w' => e = .returned (.int .i64 (compareV r n s m)) ∧ Below w.heap.size w w' := by
  go_enter Try.func30, Try.ntmps30
  go_wp2_with fail
  obtain ⟨w1, hw1⟩ : ∃ w1, w1 = (w.alloc (.cells #[.int .i64 r, .int .i64 n] 28)).alloc (.cells #[.int .i64 s, .int .i64 m] 28) := ⟨_, rfl⟩
  rw [← hw1]
  have b1 : Below w.heap.size w w1 := by rw [hw1]; exact ((Below.refl _ _).alloc (Nat.le_refl _) _).alloc (by simp) _
  have c0 : w1.cell? ⟨w.heap.size, 0, none⟩ = some (.int .i64 r) := by rw [hw1]; simp [go_sem]
  have c1 : w1.cell? ⟨w.heap.size, 1, none⟩ = some (.int .i64 n) := by rw [hw1]; simp [go_sem]
  have c2 : w1.cell? ⟨w.heap.size + 1, 0, none⟩ = some (.int .i64 s) := by rw [hw1]; simp [go_sem]
  have c3 : w1.cell? ⟨w.heap.size + 1, 1, none⟩ = some (.int .i64 m) := by rw [hw1]; simp [go_sem]
  clear hw1
  have B1 := Lib.hid b1; clear b1
  go_region_held3 (fun w' => w'.cell? ⟨w.heap.size, 0, none⟩ = some (.int .i64 r) ∧ w'.cell? ⟨w.heap.size, 1, none⟩ = some (.int .i64 n) ∧ w'.cell? ⟨w.heap.size + 1, 0, none⟩ = some (.int .i64 s) ∧ w'.cell? ⟨w.heap.size + 1, 1, none⟩ = some (.int .i64 m))
    (go_keep)
    (first
      | (go_at_call 50; refine (cmp_any _ _ _).mono ?_; rintro e w' ⟨rfl, rfl⟩)
      | (go_at_call 52; refine (or_any _ _ [_, _] _ (Ints.lit2d _ _ _ _ (cmpV_fit _ _) (cmpV_fit _ _))).mono ?_; rintro e w' ⟨rfl, rfl⟩))
  go_wp2
  go_ret
  exact ⟨by rw [← compareV_eq]; rfl, (B1.out.alloc B1.out.size _).drew⟩

theorem valid_any (r n : Int) (w : World) :
    Calls Try.prog 29 #[.agg #[.int .i64 r, .int .i64 n]] w fun e w' => e = .returned (.bool (balB r n)) ∧ Below w.heap.size w w' := by
  have E := Lib.hid (show balB r n = decide (1 ≤ r ∧ r ≤ 1099511627776 ∧ 1 ≤ n ∧ n ≤ 9) from rfl)
  go_enter Try.func29, Try.ntmps29
  go_wp2
  all_goals
    go_ret
    exact ⟨by rw [E.out]; first | (simp [*]; done) | (simp; omega), (Below.refl _ _).alloc (Nat.le_refl _) _⟩


end Go.Proofs.Ytlgpjjgkdpmidaa

namespace Go.Proofs.Ytlgpjjgkdpmidaa
open Go.ChangeShapes Go.WideShapes Go.ChangeAt Go.RowKit Go.Syn
set_option linter.unusedVariables false
set_option linter.unusedSimpArgs false


end Go.Proofs.Ytlgpjjgkdpmidaa
