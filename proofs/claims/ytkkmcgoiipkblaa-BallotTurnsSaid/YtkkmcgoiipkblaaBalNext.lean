/- The reference's Next, on a right set. -/
import Derived.Test.YtkkmcgoiipkblaaBalRef
namespace Go.Proofs.Ytkkmcgoiipkblaa
open Go.ChangeShapes Go.WideShapes Go.ChangeAt Go.RowKit Go.Syn
set_option linter.unusedVariables false
set_option linter.unusedSimpArgs false

theorem leader_of_round {xs : List Int} {i : Nat} {z : Int} (hz : 1 ≤ z) (hi : i < xs.length) (e : (z - 1) % xs.length = i) : leaderV xs z = xs.getD i 0 := by
  rw [leaderV_at (by omega) hz, e]; simp
theorem leader_not {xs : List Int} (h : SetOk xs) {i : Nat} {z : Int} (hz : 1 ≤ z) (hi : i < xs.length) (e : (z - 1) % xs.length ≠ i) : leaderV xs z ≠ xs.getD i 0 := by
  rw [leaderV_at (by omega) hz]
  intro c
  have m0 := Int.emod_nonneg (z - 1) (b := xs.length) (by omega)
  have m1 := Int.emod_lt_of_pos (z - 1) (b := xs.length) (by omega)
  have := h.inj (by omega) hi c
  omega

set_option maxHeartbeats 1000000 in
theorem refNext_any (a : Option Addr) (cap : Nat) (xs : List Int) (r n v : Int) (w : World) (h : Ints w a xs) (hs : SetOk xs) :
    Calls Try.prog 18 #[.slice a xs.length cap, .agg #[.int .i64 r, .int .i64 n], .int .i64 v] w
      fun e w' => e = .returned (.tuple #[.agg #[.int .i64 (nextV xs r v).1, .int .i64 (nextV xs r v).2.1], .int .i64 (nextV xs r v).2.2]) ∧ Below w.heap.size w w' := by
  have hl := h.len
  have l0 := hs.1
  have l7 := hs.2.1
  by_cases hb : hasB xs v = false ∨ r < 0 ∨ 1099511627776 < r
  · have E := Lib.hid (show nextV xs r v = (0, 0, 1) by
      unfold nextV; rw [if_pos]
      rcases hb with hb | hb
      · left
        rcases idx_cases xs v with ⟨h1, _⟩ | ⟨k, hk, _, h2, _⟩
        · omega
        · have := getD_mem hk; rw [h2] at this; rw [hasB_iff.2 this] at hb; cases hb
      · omega)
    have H := Lib.hid h; clear h
    have HS := Lib.hid hs; clear hs
    by_cases h1 : hasB xs v = false
    · clear hb
      go_enter Try.func18, Try.ntmps18
      go_wp2_with (go_at_call 12; refine (refHas_any _ _ _ _ _ (H.out.ext (by repeat (first | exact Below.refl _ _ | assumption | (refine Below.setCell ?_ (by first | omega | (simp; omega) | (simp; done)) _) | (refine below_drewN ?_ _) | (refine Below.drew ?_) | (refine Below.allocW ?_ _) | (refine Below.alloc ?_ (by first | omega | (simp; omega) | (simp; done)) _))))).mono ?_; rintro e w' ⟨rfl, rfl⟩)
      exact bodyPost_ret (v := .tuple #[.agg #[.int .i64 0, .int .i64 0], .int .i64 1]) (by simp [results, Try.results18, go_sem]) rfl ⟨by rw [E.out], (by repeat (first | exact Below.refl _ _ | assumption | (refine Below.setCell ?_ (by first | omega | (simp; omega) | (simp; done)) _) | (refine below_drewN ?_ _) | (refine Below.drew ?_) | (refine Below.allocW ?_ _) | (refine Below.alloc ?_ (by first | omega | (simp; omega) | (simp; done)) _)))⟩
    · have h1 : hasB xs v = true := by simpa using h1
      have h2 : r < 0 ∨ 1099511627776 < r := by rcases hb with h | h; (rw [h1] at h; cases h); exact h
      clear hb
      go_enter Try.func18, Try.ntmps18
      go_wp2_with (go_at_call 12; refine (refHas_any _ _ _ _ _ (H.out.ext (by repeat (first | exact Below.refl _ _ | assumption | (refine Below.setCell ?_ (by first | omega | (simp; omega) | (simp; done)) _) | (refine below_drewN ?_ _) | (refine Below.drew ?_) | (refine Below.allocW ?_ _) | (refine Below.alloc ?_ (by first | omega | (simp; omega) | (simp; done)) _))))).mono ?_; rintro e w' ⟨rfl, rfl⟩)
      all_goals first
        | (exfalso; omega)
        | exact bodyPost_ret (v := .tuple #[.agg #[.int .i64 0, .int .i64 0], .int .i64 1]) (by simp [results, Try.results18, go_sem]) rfl ⟨by rw [E.out], (by repeat (first | exact Below.refl _ _ | assumption | (refine Below.setCell ?_ (by first | omega | (simp; omega) | (simp; done)) _) | (refine below_drewN ?_ _) | (refine Below.drew ?_) | (refine Below.allocW ?_ _) | (refine Below.alloc ?_ (by first | omega | (simp; omega) | (simp; done)) _)))⟩
  · have h1 : hasB xs v = true := by
      rcases hh : hasB xs v with _ | _
      · exact absurd (Or.inl hh) hb
      · rfl
    rcases idx_cases xs v with ⟨_, h2⟩ | ⟨k, hk, h2, h3, _⟩
    · exact absurd (hasB_iff.1 h1) h2
    have r0 : 0 ≤ r := by omega
    have r1 : r ≤ 1099511627776 := by omega
    have E := Lib.hid (show nextV xs r v = if 1099511627776 < nextR xs.length r k then (0, 0, 27) else (nextR xs.length r k, v, 0) by
      unfold nextV; rw [h2, if_neg (by omega)])
    obtain ⟨n1, n2, n3⟩ := nextR_spec (len := xs.length) (r := r) (i := k) (by omega) (by omega) (by omega)
    have L1 := Lib.hid (fun z (hz : 1 ≤ z) (e : (z - 1) % (xs.length : Int) = k) => leader_of_round hz hk e)
    have L2 := Lib.hid (fun z (hz : 1 ≤ z) (e : (z - 1) % (xs.length : Int) ≠ k) => leader_not hs hz hk e)
    have NL := Lib.hid (fun s (h1 : r < s) (h2 : s < nextR xs.length r k) => nextR_least (len := xs.length) (r := r) (i := k) (s := s) (by omega) (by omega) (by omega) h1 h2)
    generalize hR : nextR xs.length r k = R at *
    have N3 := Lib.hid n3
    have H3 := Lib.hid h3
    clear hR hb h2 n3 h3
    have H := Lib.hid h; clear h
    have HS := Lib.hid hs; clear hs
    go_enter Try.func18, Try.ntmps18
    go_wp2_with (go_at_call 12; refine (refHas_any _ _ _ _ _ (H.out.ext (by repeat (first | exact Below.refl _ _ | assumption | (refine Below.setCell ?_ (by first | omega | (simp; omega) | (simp; done)) _) | (refine below_drewN ?_ _) | (refine Below.drew ?_) | (refine Below.allocW ?_ _) | (refine Below.alloc ?_ (by first | omega | (simp; omega) | (simp; done)) _))))).mono ?_; rintro e w' ⟨rfl, rfl⟩)
    all_goals first | (exfalso; omega) | skip
    go_loop [8] (fun x => ∃ z : Int, x = .int .i64 z ∧ r < z ∧ z ≤ R) (fun x => (R - intOf x).toNat)
    case atStart => exact ⟨r + 1, rfl, by omega, by omega⟩
    case round =>
      obtain ⟨z, rfl, z1, z2⟩ := hrel
      by_cases hz : z = R
      · have LV := Lib.hid (show leaderV xs z = v by rw [L1.out z (by omega) (by rw [hz]; exact N3.out), H3.out])
        have HZ := Lib.hid hz
        have z3 : z ≤ 1099511627783 := by omega
        clear hz
        by_cases hm : 1099511627776 < z
        · have E2 := Lib.hid (show nextV xs r v = (0, 0, 27) by rw [E.out, if_pos (by rw [← HZ.out]; exact hm)])
          go_wp2_with (go_at_call 17; refine (refLeader_any _ _ _ _ _ (H.out.ext (by repeat (first | exact Below.refl _ _ | assumption | (refine Below.setCell ?_ (by first | omega | (simp; omega) | (simp; done)) _) | (refine below_drewN ?_ _) | (refine Below.drew ?_) | (refine Below.allocW ?_ _) | (refine Below.alloc ?_ (by first | omega | (simp; omega) | (simp; done)) _)))) (by omega) ⟨by omega, by omega⟩).mono ?_; rintro e w' ⟨rfl, rfl⟩; rw [LV.out])
          exact bodyPost_ret (v := .tuple #[.agg #[.int .i64 0, .int .i64 0], .int .i64 27]) (by simp [results, Try.results18, go_sem]) rfl ⟨by rw [E2.out], (by repeat (first | exact Below.refl _ _ | assumption | (refine Below.setCell ?_ (by first | omega | (simp; omega) | (simp; done)) _) | (refine below_drewN ?_ _) | (refine Below.drew ?_) | (refine Below.allocW ?_ _) | (refine Below.alloc ?_ (by first | omega | (simp; omega) | (simp; done)) _)))⟩
        · have E2 := Lib.hid (show nextV xs r v = (z, v, 0) by rw [E.out, if_neg (by rw [← HZ.out]; exact hm), HZ.out])
          go_wp2_with (go_at_call 17; refine (refLeader_any _ _ _ _ _ (H.out.ext (by repeat (first | exact Below.refl _ _ | assumption | (refine Below.setCell ?_ (by first | omega | (simp; omega) | (simp; done)) _) | (refine below_drewN ?_ _) | (refine Below.drew ?_) | (refine Below.allocW ?_ _) | (refine Below.alloc ?_ (by first | omega | (simp; omega) | (simp; done)) _)))) (by omega) ⟨by omega, by omega⟩).mono ?_; rintro e w' ⟨rfl, rfl⟩; rw [LV.out])
          exact bodyPost_ret (v := .tuple #[.agg #[.int .i64 z, .int .i64 v], .int .i64 0]) (by simp [results, Try.results18, go_sem]) rfl ⟨by rw [E2.out], (by repeat (first | exact Below.refl _ _ | assumption | (refine Below.setCell ?_ (by first | omega | (simp; omega) | (simp; done)) _) | (refine below_drewN ?_ _) | (refine Below.drew ?_) | (refine Below.allocW ?_ _) | (refine Below.alloc ?_ (by first | omega | (simp; omega) | (simp; done)) _)))⟩
      · have ln : leaderV xs z ≠ v := by rw [← H3.out]; exact L2.out z (by omega) (NL.out z z1 (by omega))
        have ln' : (leaderV xs z != v) = true := by simpa using ln
        have z3 : z ≤ 1099511627783 := by omega
        clear ln
        go_wp2_with (go_at_call 17; refine (refLeader_any _ _ _ _ _ (H.out.ext (by repeat (first | exact Below.refl _ _ | assumption | (refine Below.setCell ?_ (by first | omega | (simp; omega) | (simp; done)) _) | (refine below_drewN ?_ _) | (refine Below.drew ?_) | (refine Below.allocW ?_ _) | (refine Below.alloc ?_ (by first | omega | (simp; omega) | (simp; done)) _)))) (by omega) ⟨by omega, by omega⟩).mono ?_; rintro e w' ⟨rfl, rfl⟩)
        go_round
        case rel => exact ⟨z + 1, by go_num, by omega, by omega⟩
        case measure => simp [intOf]; omega
end Go.Proofs.Ytkkmcgoiipkblaa
