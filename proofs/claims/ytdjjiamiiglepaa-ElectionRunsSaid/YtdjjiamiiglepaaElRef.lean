/- Contracts of synodref17. -/
import Derived.Test.YtdjjiamiiglepaaElBase
import Derived.Test.YtdjjiamiiglepaaBalRef
import Derived.Test.YtdjjiamiiglepaaClone
import Derived.Deep.RegionHeld3
import Derived.Deep.DeepCutAuto
namespace Go.Proofs.Ytdjjiamiiglepaa
open Go.ChangeShapes Go.WideShapes Go.ChangeAt Go.RowKit Go.Syn
set_option linter.unusedVariables false
set_option linter.unusedSimpArgs false

def nearV (x lo hi : Int) : Int := if x < lo then lo else if x > hi then hi else x
theorem refNear_any (x lo hi : Int) (w : World) : Calls Try.prog 18 #[.int .i64 x, .int .i64 lo, .int .i64 hi] w fun e w' => e = .returned (.int .i64 (nearV x lo hi)) ∧ w = w' := by
  have E := Lib.hid (show nearV x lo hi = if x < lo then lo else if x > hi then hi else x from rfl)
  go_enter Try.func18, Try.ntmps18
  go_wp2
  all_goals
    go_ret
    exact ⟨by rw [E.out]; exact ret_int (by repeat' split <;> omega), rfl⟩

set_option maxHeartbeats 2000000 in
set_option maxRecDepth 100000 in
theorem refTick_any (ma : Option Addr) (mc : Nat) (xs : List Int) (s : Tm) (now : Int) (w : World) (h : Ints w ma xs) (h0 : 0 < xs.length) (ok : s.ok) (hn : -4611686018427387904 ≤ now ∧ now ≤ 4611686018427387904) (hs : -4611686018427387904 ≤ s.since ∧ s.since ≤ 4611686018427387904) :
    Calls Try.prog 15 #[.agg (tmCells ma xs.length mc s).toArray, .int .i64 now] w
      fun e w' => e = .returned (.tuple #[.agg (tmCells ma xs.length mc (tmTick xs s now).1).toArray, .bool (tmTick xs s now).2]) ∧ Below w.heap.size w w' := by
  have H := Lib.hid h; clear h
  obtain ⟨me, base, most, wait, since, round⟩ := s
  obtain ⟨o1, o2, o3, o4, o5, o6, o7, o8⟩ := ok
  dsimp only at o1 o2 o3 o4 o5 o6 o7 o8 hs
  clear o8
  obtain ⟨s1, s2⟩ := hs
  obtain ⟨m1, m2⟩ := hn
  simp only [tmCells]
  by_cases hr : 1099511627776 ≤ round
  · have E := Lib.hid (show tmTick xs ⟨me, base, most, wait, since, round⟩ now = (⟨me, base, most, wait, since, round⟩, false) by unfold tmTick; rw [if_pos hr])
    rw [E.out]
    go_enter Try.func15, Try.ntmps15
    go_wp2_with fail
    exact bodyPost_ret (v := .tuple #[.agg #[.int .i64 me, .slice ma xs.length mc, .int .i64 base, .int .i64 most, .int .i64 wait, .int .i64 since, .int .i64 round], .bool false]) (by simp [results, Try.results15, go_sem]) rfl ⟨rfl, by exact (by repeat (first | exact Below.refl _ _ | assumption | (refine Below.setCell ?_ (by first | omega | (simp; omega) | (simp; done)) _) | (refine below_drewN ?_ _) | (refine Below.drew ?_) | (refine Below.allocW ?_ _) | (refine Below.alloc ?_ (by first | omega | (simp; omega) | (simp; done)) _)))⟩
  · by_cases hs : now < since
    · have E := Lib.hid (show tmTick xs ⟨me, base, most, wait, since, round⟩ now = (⟨me, base, most, wait, now, round⟩, false) by
        unfold tmTick tickSince; rw [if_neg hr, if_pos hs, if_pos (by dsimp only; omega)])
      rw [E.out]
      go_enter Try.func15, Try.ntmps15
      go_wp2_with fail
      exact bodyPost_ret (v := .tuple #[.agg #[.int .i64 me, .slice ma xs.length mc, .int .i64 base, .int .i64 most, .int .i64 wait, .int .i64 now, .int .i64 round], .bool false]) (by simp [results, Try.results15, go_sem]) rfl ⟨rfl, by exact (by repeat (first | exact Below.refl _ _ | assumption | (refine Below.setCell ?_ (by first | omega | (simp; omega) | (simp; done)) _) | (refine below_drewN ?_ _) | (refine Below.drew ?_) | (refine Below.allocW ?_ _) | (refine Below.alloc ?_ (by first | omega | (simp; omega) | (simp; done)) _)))⟩
    · by_cases he : now - since < wait
      · have E := Lib.hid (show tmTick xs ⟨me, base, most, wait, since, round⟩ now = (⟨me, base, most, wait, since, round⟩, false) by
          unfold tmTick tickSince; rw [if_neg hr, if_neg hs, if_pos he])
        rw [E.out]
        go_enter Try.func15, Try.ntmps15
        go_wp2_with fail
        exact bodyPost_ret (v := .tuple #[.agg #[.int .i64 me, .slice ma xs.length mc, .int .i64 base, .int .i64 most, .int .i64 wait, .int .i64 since, .int .i64 round], .bool false]) (by simp [results, Try.results15, go_sem]) rfl ⟨rfl, by exact (by repeat (first | exact Below.refl _ _ | assumption | (refine Below.setCell ?_ (by first | omega | (simp; omega) | (simp; done)) _) | (refine below_drewN ?_ _) | (refine Below.drew ?_) | (refine Below.allocW ?_ _) | (refine Below.alloc ?_ (by first | omega | (simp; omega) | (simp; done)) _)))⟩
      · have E := Lib.hid (show tmTick xs ⟨me, base, most, wait, since, round⟩ now = (⟨me, base, most, min (2 * wait) most, now, round + 1⟩, leaderV xs (round + 1) == me) by
          unfold tmTick tickSince; rw [if_neg hr, if_neg hs, if_neg he]; rfl)
        rw [E.out]
        have N := Lib.hid (show nearV (2 * wait) 1 most = min (2 * wait) most by unfold nearV; split <;> (try split) <;> omega)
        generalize min (2 * wait) most = mn at *
        go_enter Try.func15, Try.ntmps15
        go_wp2_with (go_at_call 18; refine (refNear_any _ _ _ _).mono ?_; rintro e w' ⟨rfl, rfl⟩; rw [N.out])
        go_region_held3 (fun w' => w'.cell? ⟨w.heap.size, 0, none⟩ = some (.int .i64 me) ∧ w'.cell? ⟨w.heap.size, 1, none⟩ = some (.slice ma xs.length mc) ∧ w'.cell? ⟨w.heap.size, 2, none⟩ = some (.int .i64 base) ∧ w'.cell? ⟨w.heap.size, 3, none⟩ = some (.int .i64 most) ∧ w'.cell? ⟨w.heap.size, 4, none⟩ = some (.int .i64 mn) ∧ w'.cell? ⟨w.heap.size, 5, none⟩ = some (.int .i64 now) ∧ w'.cell? ⟨w.heap.size, 6, none⟩ = some (.int .i64 (round + 1)))
          (refine ⟨?_, ?_, ?_, ?_, ?_, ?_, ?_⟩ <;> simp [go_sem])
          (first | (go_at_call 19; refine (refLeader_any _ _ xs (round + 1) _ (H.out.ext ?_) h0 ⟨by omega, by omega⟩).mono ?_; (exact (by repeat (first | exact Below.refl _ _ | assumption | (refine Below.setCell ?_ (by first | omega | (simp; omega) | (simp; done)) _) | (refine below_drewN ?_ _) | (refine Below.drew ?_) | (refine Below.allocW ?_ _) | (refine Below.alloc ?_ (by first | omega | (simp; omega) | (simp; done)) _)))); rintro e w' ⟨rfl, rfl⟩))
        go_wp2_with fail
        exact bodyPost_ret (v := .tuple #[.agg #[.int .i64 me, .slice ma xs.length mc, .int .i64 base, .int .i64 most, .int .i64 mn, .int .i64 now, .int .i64 (round + 1)], .bool (leaderV xs (round + 1) == me)]) (by simp [results, Try.results15, go_sem]) rfl ⟨rfl, by exact (by repeat (first | exact Below.refl _ _ | assumption | (refine Below.setCell ?_ (by first | omega | (simp; omega) | (simp; done)) _) | (refine below_drewN ?_ _) | (refine Below.drew ?_) | (refine Below.allocW ?_ _) | (refine Below.alloc ?_ (by first | omega | (simp; omega) | (simp; done)) _)))⟩
end Go.Proofs.Ytdjjiamiiglepaa
