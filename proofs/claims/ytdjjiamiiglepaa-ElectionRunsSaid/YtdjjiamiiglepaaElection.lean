/- Contracts of the package election. -/
import Derived.Test.YtdjjiamiiglepaaBallot
import Derived.Test.YtdjjiamiiglepaaElBase
namespace Go.Proofs.Ytdjjiamiiglepaa
open Go.ChangeShapes Go.WideShapes Go.ChangeAt Go.RowKit Go.Syn
set_option linter.unusedVariables false
set_option linter.unusedSimpArgs false

abbrev Tmr := TimerAt 46

set_option maxHeartbeats 800000 in
theorem heard_any (b : Nat) (ma : Option Addr) (mc : Nat) (xs : List Int) (s : Tm) (r now : Int) (w : World) (h : Tmr w b ma mc xs s) :
    Calls Try.prog 11 #[.pointer (some ⟨b, 0, none⟩), .int .i64 r, .int .i64 now] w
      fun e w' => e = .returned (.bool (heardB s r)) ∧ Tmr w' b ma mc xs (tmHeard s r now) ∧ w.grownBy w' (some b) := by
  have hB := h.row
  have hM := Lib.hid h.mem
  have hne := Lib.hid h.ne
  obtain ⟨me, base, most, wait, since, round⟩ := s
  have c2 := hB.cell 2 _ rfl
  have c4 := hB.cell 4 _ rfl
  have c5 := hB.cell 5 _ rfl
  have c6 := hB.cell 6 _ rfl
  have f4 := hB.frozen 4
  have f5 := hB.frozen 5
  have f6 := hB.frozen 6
  dsimp only at c2 c4 c5 c6
  have HB := Lib.hid hB; clear hB h
  by_cases hb : round ≤ r ∧ 1 ≤ r ∧ r ≤ 1099511627776
  · have E := Lib.hid (show heardB ⟨me, base, most, wait, since, round⟩ r = true by simp [heardB, hb])
    have H := Lib.hid (show tmHeard ⟨me, base, most, wait, since, round⟩ r now = ⟨me, base, most, base, now, r⟩ by unfold tmHeard; rw [if_pos E.out])
    obtain ⟨b1, b2, b3⟩ := hb
    go_enter Try.func11, Try.ntmps11
    go_wp2
    go_ret
    exact ⟨by rw [E.out]; rfl, by rw [H.out]; exact TimerAt.mk' (((HB.out.set 6 _).set 4 _).set 5 _) hM.out hne.out (by repeat (first | exact grown_refl _ _ | assumption | (refine grown_set ?_ _ _) | (refine grown_drewN ?_ _) | (refine grown_drew ?_) | (refine grown_alloc ?_ _)))⟩
  · have E := Lib.hid (show heardB ⟨me, base, most, wait, since, round⟩ r = false by simp only [heardB, decide_eq_false_iff_not]; exact hb)
    have H := Lib.hid (show tmHeard ⟨me, base, most, wait, since, round⟩ r now = ⟨me, base, most, wait, since, round⟩ by unfold tmHeard; rw [if_neg (by rw [E.out]; simp)])
    go_enter Try.func11, Try.ntmps11
    go_wp2
    all_goals first
      | (exfalso; omega)
      | (go_ret
         exact ⟨by rw [E.out]; rfl, by rw [H.out]; exact TimerAt.mk' HB.out hM.out hne.out (by repeat (first | exact grown_refl _ _ | assumption | (refine grown_set ?_ _ _) | (refine grown_drewN ?_ _) | (refine grown_drew ?_) | (refine grown_alloc ?_ _)))⟩)

set_option maxHeartbeats 800000 in
theorem seen_any (b : Nat) (ma : Option Addr) (mc : Nat) (xs : List Int) (s : Tm) (r now : Int) (w : World) (h : Tmr w b ma mc xs s) :
    Calls Try.prog 13 #[.pointer (some ⟨b, 0, none⟩), .int .i64 r, .int .i64 now] w
      fun e w' => e = .returned (.bool (seenB s r)) ∧ Tmr w' b ma mc xs (tmSeen s r now) ∧ w.grownBy w' (some b) := by
  have hB := h.row
  have hM := Lib.hid h.mem
  have hne := Lib.hid h.ne
  obtain ⟨me, base, most, wait, since, round⟩ := s
  have c5 := hB.cell 5 _ rfl
  have c6 := hB.cell 6 _ rfl
  have f5 := hB.frozen 5
  have f6 := hB.frozen 6
  dsimp only at c5 c6
  have HB := Lib.hid hB; clear hB h
  by_cases hb : round < r ∧ r ≤ 1099511627776
  · have E := Lib.hid (show seenB ⟨me, base, most, wait, since, round⟩ r = true by simp [seenB, hb])
    have H := Lib.hid (show tmSeen ⟨me, base, most, wait, since, round⟩ r now = ⟨me, base, most, wait, now, r⟩ by unfold tmSeen; rw [if_pos E.out])
    obtain ⟨b1, b2⟩ := hb
    go_enter Try.func13, Try.ntmps13
    go_wp2
    go_ret
    exact ⟨by rw [E.out]; rfl, by rw [H.out]; exact TimerAt.mk' ((HB.out.set 6 _).set 5 _) hM.out hne.out (by repeat (first | exact grown_refl _ _ | assumption | (refine grown_set ?_ _ _) | (refine grown_drewN ?_ _) | (refine grown_drew ?_) | (refine grown_alloc ?_ _)))⟩
  · have E := Lib.hid (show seenB ⟨me, base, most, wait, since, round⟩ r = false by simp only [seenB, decide_eq_false_iff_not]; exact hb)
    have H := Lib.hid (show tmSeen ⟨me, base, most, wait, since, round⟩ r now = ⟨me, base, most, wait, since, round⟩ by unfold tmSeen; rw [if_neg (by rw [E.out]; simp)])
    go_enter Try.func13, Try.ntmps13
    go_wp2
    all_goals first
      | (exfalso; omega)
      | (go_ret
         exact ⟨by rw [E.out]; rfl, by rw [H.out]; exact TimerAt.mk' HB.out hM.out hne.out (by repeat (first | exact grown_refl _ _ | assumption | (refine grown_set ?_ _ _) | (refine grown_drewN ?_ _) | (refine grown_drew ?_) | (refine grown_alloc ?_ _)))⟩)

theorem round_any (b : Nat) (ma : Option Addr) (mc : Nat) (xs : List Int) (s : Tm) (w : World) (h : Tmr w b ma mc xs s) :
    Calls Try.prog 10 #[.pointer (some ⟨b, 0, none⟩)] w fun e w' => e = .returned (.int .i64 s.round) ∧ w = w' := by
  have c6 := h.row.cell 6 _ rfl
  clear h
  go_enter Try.func10, Try.ntmps10
  go_wp2
  go_ret
  exact ⟨rfl, rfl⟩
theorem wait_any (b : Nat) (ma : Option Addr) (mc : Nat) (xs : List Int) (s : Tm) (w : World) (h : Tmr w b ma mc xs s) :
    Calls Try.prog 14 #[.pointer (some ⟨b, 0, none⟩)] w fun e w' => e = .returned (.int .i64 s.wait) ∧ w = w' := by
  have c6 := h.row.cell 4 _ rfl
  clear h
  go_enter Try.func14, Try.ntmps14
  go_wp2
  go_ret
  exact ⟨rfl, rfl⟩
end Go.Proofs.Ytdjjiamiiglepaa

namespace Go.Proofs.Ytdjjiamiiglepaa
open Go.ChangeShapes Go.WideShapes Go.ChangeAt Go.RowKit Go.Syn
set_option linter.unusedVariables false
set_option linter.unusedSimpArgs false

set_option maxHeartbeats 2000000 in
theorem tick_any (b : Nat) (ma : Option Addr) (mc : Nat) (xs : List Int) (s : Tm) (now : Int) (w : World) (h : Tmr w b ma mc xs s) (ok : s.ok) (hn : I64 now) :
    Calls Try.prog 9 #[.pointer (some ⟨b, 0, none⟩), .int .i64 now] w
      fun e w' => e = .returned (.bool (tmTick xs s now).2) ∧ Tmr w' b ma mc xs (tmTick xs s now).1 ∧ w.grownBy w' (some b) := by
  have hB := h.row
  have hM := Lib.hid h.mem
  have hne := Lib.hid h.ne
  obtain ⟨me, base, most, wait, since, round⟩ := s
  obtain ⟨o1, o2, o3, o4, o5, o6, o7, o8⟩ := ok
  dsimp only at o1 o2 o3 o4 o5 o6 o7 o8
  obtain ⟨s1, s2⟩ := o8
  obtain ⟨m1, m2⟩ := hn
  have c0 := hB.cell 0 _ rfl
  have c1 := hB.cell 1 _ rfl
  have c3 := hB.cell 3 _ rfl
  have c4 := hB.cell 4 _ rfl
  have c5 := hB.cell 5 _ rfl
  have c6 := hB.cell 6 _ rfl
  have f4 := hB.frozen 4
  have f5 := hB.frozen 5
  have f6 := hB.frozen 6
  dsimp only at c0 c1 c3 c4 c5 c6
  have HB := Lib.hid hB; clear hB h
  by_cases hr : 1099511627776 ≤ round
  · have H := Lib.hid (show tmTick xs ⟨me, base, most, wait, since, round⟩ now = (⟨me, base, most, wait, since, round⟩, false) by unfold tmTick; rw [if_pos hr])
    clear s1 s2 m1 m2
    go_enter Try.func9, Try.ntmps9
    go_wp2_with fail
    go_ret
    exact ⟨by rw [H.out]; rfl, by rw [H.out]; exact TimerAt.mk' HB.out hM.out hne.out (by repeat (first | exact grown_refl _ _ | assumption | (refine grown_set ?_ _ _) | (refine grown_drewN ?_ _) | (refine grown_drew ?_) | (refine grown_alloc ?_ _)))⟩
  · have SW := Lib.hid (fun x (h0 : 0 ≤ now - x) (h1 : now - x ≤ 18446744073709551615) => u64_sub now x h0 h1)
    by_cases hs : now < since
    · have u1 : IntKind.u64.wrap (IntKind.u64.wrap now - IntKind.u64.wrap now) = 0 := by rw [SW.out now (by omega) (by omega)]; omega
      have H := Lib.hid (show tmTick xs ⟨me, base, most, wait, since, round⟩ now = (⟨me, base, most, wait, now, round⟩, false) by
        unfold tmTick tickSince; rw [if_neg hr, if_pos hs, if_pos (by dsimp only; omega)])
      clear s1 s2 m1 m2 SW
      go_enter Try.func9, Try.ntmps9
      go_wp2_with fail
      go_quiet (fail)
      go_wp2_with fail
      go_ret
      exact ⟨by rw [H.out]; exact ret_bool (by simp; try omega), by rw [H.out]; exact TimerAt.mk' ((HB.out.set 5 _).drewN _) hM.out hne.out (by repeat (first | exact grown_refl _ _ | assumption | (refine grown_set ?_ _ _) | (refine grown_drewN ?_ _) | (refine grown_drew ?_) | (refine grown_alloc ?_ _)))⟩
    · have u1 := SW.out since (by omega) (by omega)
      by_cases he : now - since < wait
      · have H := Lib.hid (show tmTick xs ⟨me, base, most, wait, since, round⟩ now = (⟨me, base, most, wait, since, round⟩, false) by
          unfold tmTick tickSince; rw [if_neg hr, if_neg hs, if_pos he])
        clear s1 s2 m1 m2 SW
        go_enter Try.func9, Try.ntmps9
        go_wp2_with fail
        go_quiet (fail)
        go_wp2_with fail
        go_ret
        exact ⟨by rw [H.out]; rfl, by rw [H.out]; exact TimerAt.mk' (HB.out.drewN _) hM.out hne.out (by repeat (first | exact grown_refl _ _ | assumption | (refine grown_set ?_ _ _) | (refine grown_drewN ?_ _) | (refine grown_drew ?_) | (refine grown_alloc ?_ _)))⟩
      · have H := Lib.hid (show tmTick xs ⟨me, base, most, wait, since, round⟩ now = (⟨me, base, most, min (2 * wait) most, now, round + 1⟩, decide (leaderV xs (round + 1) = me)) by
          unfold tmTick tickSince; rw [if_neg hr, if_neg hs, if_neg he])
        clear s1 s2 m1 m2 SW
        go_enter Try.func9, Try.ntmps9
        go_wp2_with fail
        go_quiet (fail)
        go_wp2_with fail
        go_region
        have e : (if most < 2 * wait then most else 2 * wait) = min (2 * wait) most := by split <;> omega
        rw [e]
        clear e
        generalize hmin : min (2 * wait) most = mn at *
        clear hmin
        go_wp2_with fail
        go_quiet ((go_at_call 17; exact (leader_any _ _ _ _ _ (Ints.grown hM.out (by repeat (first | exact grown_refl _ _ | assumption | (refine grown_set ?_ _ _) | (refine grown_drewN ?_ _) | (refine grown_drew ?_) | (refine grown_alloc ?_ _))) hne.out) ⟨by omega, by omega⟩).mono fun _ _ h => ⟨h.1, _, h.2.symm⟩))
        go_wp2_with fail
        go_ret
        exact ⟨by rw [H.out]; exact ret_bool (by simp), by rw [H.out]; exact TimerAt.mk' (((((HB.out.drewN _).set 6 _).set 5 _).set 4 _).drew.drewN _) hM.out hne.out (by repeat (first | exact grown_refl _ _ | assumption | (refine grown_set ?_ _ _) | (refine grown_drewN ?_ _) | (refine grown_drew ?_) | (refine grown_alloc ?_ _)))⟩
end Go.Proofs.Ytdjjiamiiglepaa
