/- Contracts of the package ballot: Compare, Valid, Next. -/
import Derived.Test.YtkkmcgoiipkblaaBallot
import Derived.Deep.RegionHeld3
namespace Go.Proofs.Ytkkmcgoiipkblaa
open Go.ChangeShapes Go.WideShapes Go.ChangeAt Go.RowKit Go.Syn
set_option linter.unusedVariables false
set_option linter.unusedSimpArgs false

theorem isNaN_any (n : Int) (w : World) : Calls Try.prog 30 #[.int .i64 n] w fun e w' => e = .returned (.bool false) ∧ w = w' := by
  go_enter Try.func30, Try.ntmps30
  go_wp2
  go_ret
  exact ⟨by simp, rfl⟩

theorem cmp_any (a b : Int) (w : World) : Calls Try.prog 28 #[.int .i64 a, .int .i64 b] w fun e w' => e = .returned (.int .i64 (cmpV a b)) ∧ w = w' := by
  by_cases h1 : a < b
  · have e := Lib.hid (show cmpV a b = -1 by simp [cmpV, h1])
    go_enter Try.func28, Try.ntmps28
    go_wp2_with (go_at_call 30; refine (isNaN_any _ _).mono ?_; rintro e w' ⟨rfl, rfl⟩)
    go_ret
    exact ⟨by rw [e.out]; rfl, rfl⟩
  · by_cases h2 : b < a
    · have e := Lib.hid (show cmpV a b = 1 by simp [cmpV, h1, h2])
      go_enter Try.func28, Try.ntmps28
      go_wp2_with (go_at_call 30; refine (isNaN_any _ _).mono ?_; rintro e w' ⟨rfl, rfl⟩)
      go_ret
      exact ⟨by rw [e.out]; rfl, rfl⟩
    · have e := Lib.hid (show cmpV a b = 0 by simp [cmpV, h1, h2])
      go_enter Try.func28, Try.ntmps28
      go_wp2_with (go_at_call 30; refine (isNaN_any _ _).mono ?_; rintro e w' ⟨rfl, rfl⟩)
      go_ret
      exact ⟨by rw [e.out]; rfl, rfl⟩

set_option maxHeartbeats 400000 in
theorem or_any (a : Option Addr) (cap : Nat) (xs : List Int) (w : World) (h : Ints w a xs) :
    Calls Try.prog 27 #[.slice a xs.length cap] w fun e w' => e = .returned (.int .i64 (firstNZ xs)) ∧ w = w' := by
  have hl := h.len
  have H := Lib.hid h; clear h
  go_enter Try.func27, Try.ntmps27
  go_wp2
  go_loop [8] (fun i => ∃ k : Nat, k ≤ xs.length ∧ Hid (firstNZ xs = firstNZ (xs.drop k)) ∧ i = .int .i64 k) (fun i => xs.length - (intOf i).toNat)
  case atStart => exact ⟨0, by omega, rfl, rfl⟩
  case round =>
    obtain ⟨k, hk, hn, rfl⟩ := hrel
    by_cases hlt : k < xs.length
    · obtain ⟨ha, hb, hc⟩ := H.out.at_ (by omega)
      replace hc := hc k hlt
      have D := Lib.hid (firstNZ_drop xs k hlt)
      have D2 := Lib.hid (firstNZ_hit xs k hlt)
      generalize hx : xs.getD k 0 = x at hc D D2
      clear hx
      by_cases hv : x = 0
      · have hv' : (x != 0) = false := by simpa using hv
        have HV := Lib.hid hv; clear hv
        go_wp2
        go_round
        case rel => exact ⟨k + 1, by omega, hn.out.trans (D.out HV.out), by go_num⟩
        case measure => simp [intOf]; omega
      · have hv' : (x != 0) = true := by simpa using hv
        go_wp2
        go_ret
        exact ⟨by rw [hn.out, D2.out hv]; rfl, rfl⟩
    · have : k = xs.length := by omega
      subst this
      have E := Lib.hid (show firstNZ (xs.drop xs.length) = 0 by simp [firstNZ])
      go_wp2
      go_ret
      exact ⟨by rw [hn.out, E.out]; rfl, rfl⟩

theorem compareV_eq (r n s m : Int) : firstNZ [cmpV r s, cmpV n m] = compareV r n s m := by
  unfold compareV firstNZ firstNZ firstNZ
  split
  · split <;> simp_all
  · rfl

theorem cmpV_fit (a b : Int) : I64 (cmpV a b) := by unfold cmpV I64; split <;> (try split) <;> omega

set_option maxHeartbeats 800000 in
theorem compare_any (r n s m : Int) (w : World) :
    Calls Try.prog 20 #[.agg #[.int .i64 r, .int .i64 n], .agg #[.int .i64 s, .int .i64 m]] w fun e w' => e = .returned (.int .i64 (compareV r n s m)) ∧ Below w.heap.size w w' := by
  go_enter Try.func20, Try.ntmps20
  go_wp2_with fail
  obtain ⟨w1, hw1⟩ : ∃ w1, w1 = (w.alloc (.cells #[.int .i64 r, .int .i64 n] 35)).alloc (.cells #[.int .i64 s, .int .i64 m] 35) := ⟨_, rfl⟩
  rw [← hw1]
  have b1 : Below w.heap.size w w1 := by rw [hw1]; exact ((Below.refl _ _).alloc (Nat.le_refl _) _).alloc (by simp) _
  have c0 : w1.cell? ⟨w.heap.size, 0, none⟩ = some (.int .i64 r) := by rw [hw1]; simp [go_sem]
  have c1 : w1.cell? ⟨w.heap.size, 1, none⟩ = some (.int .i64 n) := by rw [hw1]; simp [go_sem]
  have c2 : w1.cell? ⟨w.heap.size + 1, 0, none⟩ = some (.int .i64 s) := by rw [hw1]; simp [go_sem]
  have c3 : w1.cell? ⟨w.heap.size + 1, 1, none⟩ = some (.int .i64 m) := by rw [hw1]; simp [go_sem]
  clear hw1
  have B1 := Lib.hid b1; clear b1
  go_region_held3 (fun w' => w'.cell? ⟨w.heap.size, 0, none⟩ = some (.int .i64 r) ∧ w'.cell? ⟨w.heap.size, 1, none⟩ = some (.int .i64 n) ∧ w'.cell? ⟨w.heap.size + 1, 0, none⟩ = some (.int .i64 s) ∧ w'.cell? ⟨w.heap.size + 1, 1, none⟩ = some (.int .i64 m))
    (go_keep)
    (first
      | (go_at_call 28; refine (cmp_any _ _ _).mono ?_; rintro e w' ⟨rfl, rfl⟩)
      | (go_at_call 27; refine (or_any _ _ [_, _] _ (Ints.lit2d _ _ _ _ (cmpV_fit _ _) (cmpV_fit _ _))).mono ?_; rintro e w' ⟨rfl, rfl⟩))
  go_wp2
  go_ret
  exact ⟨by rw [← compareV_eq]; rfl, (B1.out.alloc B1.out.size _).drew⟩

theorem valid_any (r n : Int) (w : World) :
    Calls Try.prog 22 #[.agg #[.int .i64 r, .int .i64 n]] w fun e w' => e = .returned (.bool (balB r n)) ∧ Below w.heap.size w w' := by
  have E := Lib.hid (show balB r n = decide (1 ≤ r ∧ r ≤ 1099511627776 ∧ 1 ≤ n ∧ n ≤ 9) from rfl)
  go_enter Try.func22, Try.ntmps22
  go_wp2
  all_goals
    go_ret
    exact ⟨by rw [E.out]; first | (simp [*]; done) | (simp; omega), (Below.refl _ _).alloc (Nat.le_refl _) _⟩

set_option maxHeartbeats 800000 in
theorem next_any (a : Option Addr) (cap : Nat) (xs : List Int) (r n v : Int) (w : World) (h : Ints w a xs) :
    Calls Try.prog 19 #[.slice a xs.length cap, .agg #[.int .i64 r, .int .i64 n], .int .i64 v] w
      fun e w' => e = .returned (.tuple #[.agg #[.int .i64 (nextV xs r v).1, .int .i64 (nextV xs r v).2.1], .int .i64 (nextV xs r v).2.2]) ∧ Below w.heap.size w w' := by
  have hl := h.len
  by_cases hb : idx xs v < 0 ∨ 7 < xs.length ∨ r < 0 ∨ 1099511627776 < r
  · have E := Lib.hid (show nextV xs r v = (0, 0, 1) by unfold nextV; rw [if_pos hb])
    generalize hi : idx xs v = i at hb
    have HI := Lib.hid hi; clear hi
    have H := Lib.hid h; clear h
    go_enter Try.func19, Try.ntmps19
    go_wp2_with (go_at_call 26; refine (indexM_any _ _ _ _ _ (H.out.ext (((Below.refl _ _).alloc (Nat.le_refl _) _).alloc (by simp) _))).mono ?_; rintro e w' ⟨rfl, rfl⟩; rw [HI.out])
    all_goals first
      | (exfalso; omega)
      | exact bodyPost_ret (v := .tuple #[.agg #[.int .i64 0, .int .i64 0], .int .i64 1]) (by simp [results, Try.results19, go_sem]) rfl ⟨by rw [E.out], ((Below.refl _ _).alloc (Nat.le_refl _) _).alloc (by simp) _⟩
  · rcases idx_cases xs v with ⟨h1, _⟩ | ⟨k, hk, h1, h2, _⟩
    · exfalso; omega
    have hl0 : 0 < xs.length := by omega
    have r0 : 0 ≤ r := by omega
    have r1 : r ≤ 1099511627776 := by omega
    have l7 : xs.length ≤ 7 := by omega
    have E := Lib.hid (show nextV xs r v = if 1099511627776 < nextR xs.length r k then (0, 0, 27) else (nextR xs.length r k, v, 0) by
      unfold nextV; rw [if_neg hb, h1])
    have NR := Lib.hid (show nextR xs.length r k = if r - r % xs.length + k + 1 ≤ r then r - r % xs.length + k + 1 + xs.length else r - r % xs.length + k + 1 from rfl)
    obtain ⟨n1, n2, _⟩ := nextR_spec (len := xs.length) (r := r) (i := k) hl0 (by omega) (by omega)
    generalize hR : nextR xs.length r k = R at *
    clear hR hb
    have HI := Lib.hid h1; clear h1 h2
    have H := Lib.hid h; clear h
    have m0 := Int.emod_nonneg r (b := xs.length) (by omega)
    have m1 := Int.emod_lt_of_pos r (b := xs.length) (by omega)
    have m2 : r % xs.length ≤ r := emod_le' r0
    go_enter Try.func19, Try.ntmps19
    go_wp2_with (go_at_call 26; refine (indexM_any _ _ _ _ _ (H.out.ext (((Below.refl _ _).alloc (Nat.le_refl _) _).alloc (by simp) _))).mono ?_; rintro e w' ⟨rfl, rfl⟩; rw [HI.out])
    all_goals first | (exfalso; omega) | skip
    go_quiet (fail)
    go_wp2_with fail
    generalize hc : r - r % xs.length + k + 1 = c at *
    have HC := Lib.hid hc; clear hc
    have c0 : 1 ≤ c := by have := HC.out; omega
    have c1 : c ≤ r + k + 1 := by have := HC.out; omega
    have c2 : r < c + xs.length := by have := HC.out; omega
    clear m0 m1 m2
    go_loop [9] (fun x => ∃ z : Int, x = .int .i64 z ∧ (z = c ∨ (c ≤ r ∧ z = c + xs.length))) (fun x => (r + 1 - intOf x).toNat)
    case atStart => exact ⟨c, rfl, .inl rfl⟩
    case round =>
      obtain ⟨z, rfl, hz⟩ := hrel
      have HZ := Lib.hid hz
      by_cases hle : z ≤ r
      · have z1 : 1 ≤ z := by omega
        have z2 : z = c := by omega
        have HZ2 := Lib.hid z2
        clear z2 hz
        go_wp2_with fail
        go_round
        case rel => exact ⟨z + xs.length, by go_num, .inr ⟨by have := HZ2.out; omega, by have := HZ2.out; omega⟩⟩
        case measure => simp [intOf]; omega
      · have hR : z = R := by have := NR.out; split at this <;> omega
        have HR := Lib.hid hR
        have z1 : z ≤ 1099511627783 := by omega
        have z0 : 0 ≤ z := by omega
        clear hR hz
        by_cases hm : 1099511627776 < z
        · have E2 := Lib.hid (show nextV xs r v = (0, 0, 27) by rw [E.out, if_pos (by rw [← HR.out]; exact hm)])
          go_wp2_with fail
          exact bodyPost_ret (v := .tuple #[.agg #[.int .i64 0, .int .i64 0], .int .i64 27]) (by simp [results, Try.results19, go_sem]) rfl ⟨by rw [E2.out], (by repeat (first | exact Below.refl _ _ | assumption | (refine Below.setCell ?_ (by simp <;> omega) _) | (refine below_drewN ?_ _) | (refine Below.drew ?_) | (refine Below.alloc ?_ (by simp <;> omega) _)))⟩
        · have E2 := Lib.hid (show nextV xs r v = (z, v, 0) by rw [E.out, if_neg (by rw [← HR.out]; exact hm), HR.out])
          go_wp2_with fail
          exact bodyPost_ret (v := .tuple #[.agg #[.int .i64 z, .int .i64 v], .int .i64 0]) (by simp [results, Try.results19, go_sem]) rfl ⟨by rw [E2.out], (by repeat (first | exact Below.refl _ _ | assumption | (refine Below.setCell ?_ (by simp <;> omega) _) | (refine below_drewN ?_ _) | (refine Below.drew ?_) | (refine Below.alloc ?_ (by simp <;> omega) _)))⟩

end Go.Proofs.Ytkkmcgoiipkblaa
