/- Contracts of app.within, gauss.Of, app.Check, synodref03.Right: right operations. -/
import Derived.Test.YtadgaefmoobcoaaRows
import Derived.Test.YtadgaefmoobcoaaLibG
import Derived.Laws.Cover2
import Derived.Laws.ComplexArith
import Derived.Deep.DeepCutAuto
namespace Go.Syn
/-- An operation. -/
structure OpD where
  kind : Int
  reg : Int
  tg : Int
  re : Int
  im : Int
def OpD.cells (o : OpD) : List Value := [.int .i64 o.kind, .int .i64 o.reg, .int .i64 o.tg, .int .i64 o.re, .int .i64 o.im]
def fitB (re im : Int) : Bool := decide (-1048576 ≤ re ∧ re ≤ 1048576 ∧ -1048576 ≤ im ∧ im ≤ 1048576)
/-- The number of two parts. -/
def numV (re im : Int) : Value := if fitB re im then .complex .f64 (floatOfInt .f64 re) (floatOfInt .f64 im) else .complex .f64 0 0
def inB (x lo hi : Int) : Bool := decide (lo ≤ x ∧ x ≤ hi)
def bareB (re im : Int) : Bool := decide (re = 0 ∧ im = 0)
def opB (o : OpD) : Bool :=
  inB o.reg 0 7 &&
  if o.kind = 1 then bareB o.re o.im && decide (o.tg = 0)
  else if o.kind = 2 ∨ o.kind = 3 ∨ o.kind = 4 then fitB o.re o.im && decide (o.tg = 0)
  else if o.kind = 5 then bareB o.re o.im && inB o.tg 0 3
  else if o.kind = 6 then bareB o.re o.im && inB o.tg 0 7
  else if o.kind = 7 then fitB o.re o.im && inB o.tg 0 7
  else false
end Go.Syn
namespace Go.Proofs.Ytadgaefmoobcoaa
open Go.ChangeShapes Go.WideShapes Go.ChangeAt Go.RowKit Go.Syn
set_option linter.unusedVariables false
set_option linter.unusedSimpArgs false

theorem within_any (x lo hi : Int) (w : World) : Calls Try.prog 91 #[.int .i64 x, .int .i64 lo, .int .i64 hi] w fun e w' => e = .returned (.bool (inB x lo hi)) ∧ w = w' := by
  have E := Lib.hid (show inB x lo hi = decide (lo ≤ x ∧ x ≤ hi) from rfl)
  go_enter Try.func91, Try.ntmps91
  go_wp2
  all_goals
    go_ret
    exact ⟨by rw [E.out]; exact ret_bool (by simp; try omega), rfl⟩

theorem of_any (re im : Int) (w : World) : Calls Try.prog 92 #[.int .i64 re, .int .i64 im] w fun e w' => e = .returned (.tuple #[numV re im, .bool (fitB re im)]) ∧ w = w' := by
  have E := Lib.hid (show fitB re im = decide (-1048576 ≤ re ∧ re ≤ 1048576 ∧ -1048576 ≤ im ∧ im ≤ 1048576) from rfl)
  by_cases h : -1048576 ≤ re ∧ re ≤ 1048576 ∧ -1048576 ≤ im ∧ im ≤ 1048576
  · have F1 := Lib.hid (show fitB re im = true by rw [E.out]; exact decide_eq_true h)
    have F2 := Lib.hid (show numV re im = .complex .f64 (floatOfInt .f64 re) (floatOfInt .f64 im) by unfold numV; rw [if_pos F1.out])
    rw [F1.out, F2.out]
    obtain ⟨h1, h2, h3, h4⟩ := h
    go_enter Try.func92, Try.ntmps92
    go_wp2
    all_goals first
      | (exfalso; omega)
      | exact bodyPost_ret (v := .tuple #[.complex .f64 (floatOfInt .f64 re) (floatOfInt .f64 im), .bool true]) (by simp [results, Try.results92, go_sem]) rfl ⟨rfl, rfl⟩
  · have F1 := Lib.hid (show fitB re im = false by rw [E.out]; exact decide_eq_false h)
    have F2 := Lib.hid (show numV re im = .complex .f64 0 0 by unfold numV; rw [if_neg (by rw [F1.out]; simp)])
    rw [F1.out, F2.out]
    go_enter Try.func92, Try.ntmps92
    go_wp2
    all_goals first
      | (exfalso; omega)
      | exact bodyPost_ret (v := .tuple #[.complex .f64 0 0, .bool false]) (by simp [results, Try.results92, go_sem]) rfl ⟨rfl, rfl⟩

theorem ref03_any (re im : Int) (w : World) : Calls Try.prog 70 #[.int .i64 re, .int .i64 im] w fun e w' => e = .returned (.bool (fitB re im)) ∧ w = w' := by
  have E := Lib.hid (show fitB re im = decide (-1048576 ≤ re ∧ re ≤ 1048576 ∧ -1048576 ≤ im ∧ im ≤ 1048576) from rfl)
  go_enter Try.func70, Try.ntmps70
  go_wp2
  all_goals
    go_ret
    exact ⟨by rw [E.out]; exact ret_bool (by simp; try omega), rfl⟩

set_option maxHeartbeats 2000000 in
theorem opCheck_any (o : OpD) (w : World) : Calls Try.prog 88 #[.agg o.cells.toArray] w fun e w' => e = .returned (.int .i64 (if opB o then 0 else 22)) ∧ Below w.heap.size w w' := by
  obtain ⟨kind, reg, tg, re, im⟩ := o
  have E := Lib.hid (show opB ⟨kind, reg, tg, re, im⟩ = (inB reg 0 7 && if kind = 1 then bareB re im && decide (tg = 0) else if kind = 2 ∨ kind = 3 ∨ kind = 4 then fitB re im && decide (tg = 0) else if kind = 5 then bareB re im && inB tg 0 3 else if kind = 6 then bareB re im && inB tg 0 7 else if kind = 7 then fitB re im && inB tg 0 7 else false) from rfl)
  have EB := Lib.hid (show bareB re im = decide (re = 0 ∧ im = 0) from rfl)
  simp only [OpD.cells]
  generalize opB ⟨kind, reg, tg, re, im⟩ = R at *
  have W := Lib.hid (fun x lo hi => within_any x lo hi)
  have kinds : kind = 1 ∨ kind = 2 ∨ kind = 3 ∨ kind = 4 ∨ kind = 5 ∨ kind = 6 ∨ kind = 7 ∨ (kind < 1 ∨ 7 < kind) := by omega
  by_cases h0 : re = 0 ∧ im = 0
  · obtain ⟨rfl, rfl⟩ := h0
    have B0 : bareB 0 0 = true := rfl
    rw [B0] at E
    clear B0 EB
    go_enter Try.func88, Try.ntmps88
    go_wp2_with fail
    refine (within_any _ _ _ _).mono ?_; rintro e w' ⟨rfl, rfl⟩
    go_wp2_with fail
    refine (of_any _ _ _).mono ?_; rintro e w' ⟨rfl, rfl⟩
    generalize inB reg 0 7 = r1 at *
    generalize fitB 0 0 = f at *
    generalize numV 0 0 = z at *
    rcases kinds with rfl | rfl | rfl | rfl | rfl | rfl | rfl | hk
    all_goals
      go_wp2_with (go_at_call 91; refine (within_any _ _ _ _).mono ?_; rintro e w' ⟨rfl, rfl⟩)
      all_goals first
        | (exfalso; omega)
        | (go_ret
           refine ⟨?_, by exact (by repeat (first | exact Below.refl _ _ | assumption | (refine Below.setCell ?_ (by first | omega | (simp; omega) | (simp; done)) _) | (refine below_drewN ?_ _) | (refine Below.drew ?_) | (refine Below.allocW ?_ _) | (refine Below.alloc ?_ (by first | omega | (simp; omega) | (simp; done)) _)))⟩
           have e := E.out
           first
             | (simp_all; done)
             | (simp_all; omega)
             | (rw [if_neg (by omega), if_neg (by omega), if_neg (by omega), if_neg (by omega), if_neg (by omega)] at e; simp_all)
             | go_show)
  · have B0 : bareB re im = false := by rw [EB.out]; exact decide_eq_false h0
    rw [B0] at E
    clear B0 EB
    by_cases hre : re = 0
    · subst hre
      have hi : (im == 0) = false := by simpa using h0
      clear h0
      go_enter Try.func88, Try.ntmps88
      go_wp2_with fail
      refine (within_any _ _ _ _).mono ?_; rintro e w' ⟨rfl, rfl⟩
      go_wp2_with fail
      refine (of_any _ _ _).mono ?_; rintro e w' ⟨rfl, rfl⟩
      generalize inB reg 0 7 = r1 at *
      generalize fitB 0 im = f at *
      generalize numV 0 im = z at *
      rcases kinds with rfl | rfl | rfl | rfl | rfl | rfl | rfl | hk
      all_goals
        go_wp2_with (go_at_call 91; refine (within_any _ _ _ _).mono ?_; rintro e w' ⟨rfl, rfl⟩)
        all_goals first
          | (exfalso; omega)
          | (go_ret
             refine ⟨?_, by exact (by repeat (first | exact Below.refl _ _ | assumption | (refine Below.setCell ?_ (by first | omega | (simp; omega) | (simp; done)) _) | (refine below_drewN ?_ _) | (refine Below.drew ?_) | (refine Below.allocW ?_ _) | (refine Below.alloc ?_ (by first | omega | (simp; omega) | (simp; done)) _)))⟩
             have e := E.out
             first
               | (simp_all; done)
               | (simp_all; omega)
               | (rw [if_neg (by omega), if_neg (by omega), if_neg (by omega), if_neg (by omega), if_neg (by omega)] at e; simp_all)
               | go_show)
    · have hi : (re == 0) = false := by simpa using hre
      clear h0
      go_enter Try.func88, Try.ntmps88
      go_wp2_with fail
      refine (within_any _ _ _ _).mono ?_; rintro e w' ⟨rfl, rfl⟩
      go_wp2_with fail
      refine (of_any _ _ _).mono ?_; rintro e w' ⟨rfl, rfl⟩
      generalize inB reg 0 7 = r1 at *
      generalize fitB re im = f at *
      generalize numV re im = z at *
      rcases kinds with rfl | rfl | rfl | rfl | rfl | rfl | rfl | hk
      all_goals
        go_wp2_with (go_at_call 91; refine (within_any _ _ _ _).mono ?_; rintro e w' ⟨rfl, rfl⟩)
        all_goals first
          | (exfalso; omega)
          | (go_ret
             refine ⟨?_, by exact (by repeat (first | exact Below.refl _ _ | assumption | (refine Below.setCell ?_ (by first | omega | (simp; omega) | (simp; done)) _) | (refine below_drewN ?_ _) | (refine Below.drew ?_) | (refine Below.allocW ?_ _) | (refine Below.alloc ?_ (by first | omega | (simp; omega) | (simp; done)) _)))⟩
             have e := E.out
             first
               | (simp_all; done)
               | (simp_all; omega)
               | (rw [if_neg (by omega), if_neg (by omega), if_neg (by omega), if_neg (by omega), if_neg (by omega)] at e; simp_all)
               | go_show)
end Go.Proofs.Ytadgaefmoobcoaa
