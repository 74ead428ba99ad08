/- Part 18 of the texts of a proof about the given program: what the statement's proof needs of them. -/
import Derived.Test.YtbedoemdjlollaaRows
import Derived.Laws.Cover2
import Derived.Laws.ComplexArith
import Derived.Deep.DeepCutAuto
import Derived.KernelRfl
import Derived.Test.YtbedoemdjlollaaKJudgeMerges17
namespace Go.Syn
structure OpD where
  kind : Int
  reg : Int
  tg : Int
  re : Int
  im : Int
def OpD.cells (o : OpD) : List Value := [.int .i64 o.kind, .int .i64 o.reg, .int .i64 o.tg, .int .i64 o.re, .int .i64 o.im]
def fitB (re im : Int) : Bool := decide (-1048576 ≤ re ∧ re ≤ 1048576 ∧ -1048576 ≤ im ∧ im ≤ 1048576)
def numV (re im : Int) : Value := if fitB re im then .complex .f64 (floatOfInt .f64 re) (floatOfInt .f64 im) else .complex .f64 0 0
def inB (x lo hi : Int) : Bool := decide (lo ≤ x ∧ x ≤ hi)
def bareB (re im : Int) : Bool := decide (re = 0 ∧ im = 0)
def opB (o : OpD) : Bool :=
  inB o.reg 0 7 &&
  if o.kind = 1 then bareB o.re o.im && decide (o.tg = 0)
  else if o.kind = 2 ∨ o.kind = 3 ∨ o.kind = 4 then fitB o.re o.im && decide (o.tg = 0)
  else if o.kind = 5 then bareB o.re o.im && inB o.tg 0 3
  else if o.kind = 6 then bareB o.re o.im && inB o.tg 0 7
  else if o.kind = 7 then fitB o.re o.im && inB o.tg 0 7
  else false
end Go.Syn
namespace Go.Proofs.Ytbedoemdjlollaa
open Go.ChangeShapes Go.WideShapes Go.ChangeAt Go.RowKit Go.Syn
set_option linter.unusedVariables false
set_option linter.unusedSimpArgs false

theorem within_any (x lo hi : Int) (w : World) : Calls Try.prog 64 #[.int .i64 x, .int .i64 lo, .int .i64 hi] w fun e w' => e = .returned (.bool (inB x lo hi)) ∧ w = w' := by
  have E := Lib.hid (show inB x lo hi = decide (lo ≤ x ∧ x ≤ hi) from rfl)
  go_enter Try.func64, Try.ntmps64
  go_wp2
  all_goals
    go_ret
    exact ⟨by rw [E.out]; exact ret_bool (by simp; try omega), rfl⟩

theorem of_any (re im : Int) (w : World) : Calls Try.prog 63 #[.int .i64 re, .int .i64 im] w fun e w' => e = .returned (.tuple #[numV re im, .bool (fitB re im)]) ∧ w = w' := by
  have E := Lib.hid (show fitB re im = decide (-1048576 ≤ re ∧ re ≤ 1048576 ∧ -1048576 ≤ im ∧ im ≤ 1048576) from rfl)
  by_cases h : -1048576 ≤ re ∧ re ≤ 1048576 ∧ -1048576 ≤ im ∧ im ≤ 1048576
  · have F1 := Lib.hid (show fitB re im = true by rw [E.out]; exact decide_eq_true h)
    have F2 := Lib.hid (show numV re im = .complex .f64 (floatOfInt .f64 re) (floatOfInt .f64 im) by unfold numV; rw [if_pos F1.out])
    rw [F1.out, F2.out]
    obtain ⟨h1, h2, h3, h4⟩ := h
    go_enter Try.func63, Try.ntmps63
    go_wp2
    all_goals first
      | (exfalso; omega)
      | exact bodyPost_ret (v := .tuple #[.complex .f64 (floatOfInt .f64 re) (floatOfInt .f64 im), .bool true]) (by simp [results, Try.results63, go_sem]) rfl ⟨rfl, rfl⟩
  · have F1 := Lib.hid (show fitB re im = false by rw [E.out]; exact decide_eq_false h)
    have F2 := Lib.hid (show numV re im = .complex .f64 0 0 by unfold numV; rw [if_neg (by rw [F1.out]; simp)])
    rw [F1.out, F2.out]
    go_enter Try.func63, Try.ntmps63
    go_wp2
    all_goals first
      | (exfalso; omega)
      | exact bodyPost_ret (v := .tuple #[.complex .f64 0 0, .bool false]) (by simp [results, Try.results63, go_sem]) rfl ⟨rfl, rfl⟩

theorem ref03_any (re im : Int) (w : World) : Calls Try.prog 52 #[.int .i64 re, .int .i64 im] w fun e w' => e = .returned (.bool (fitB re im)) ∧ w = w' := by
  have E := Lib.hid (show fitB re im = decide (-1048576 ≤ re ∧ re ≤ 1048576 ∧ -1048576 ≤ im ∧ im ≤ 1048576) from rfl)
  go_enter Try.func52, Try.ntmps52
  go_wp2
  all_goals
    go_ret
    exact ⟨by rw [E.out]; exact ret_bool (by simp; try omega), rfl⟩

set_option maxHeartbeats 2000000 in
theorem opCheck_any (o : OpD) (w : World) : Calls Try.prog 46 #[.agg o.cells.toArray] w fun e w' => e = .returned (.int .i64 (if opB o then 0 else 22)) ∧ Below w.heap.size w w' := by
  obtain ⟨kind, reg, tg, re, im⟩ := o
  have E := Lib.hid (show opB ⟨kind, reg, tg, re, im⟩ = (inB reg 0 7 && if kind = 1 then bareB re im && decide (tg = 0) else if kind = 2 ∨ kind = 3 ∨ kind = 4 then fitB re im && decide (tg = 0) else if kind = 5 then bareB re im && inB tg 0 3 else if kind = 6 then bareB re im && inB tg 0 7 else if kind = 7 then fitB re im && inB tg 0 7 else false) from rfl)
  have EB := Lib.hid (show bareB re im = decide (re = 0 ∧ im = 0) from rfl)
  simp only [OpD.cells]
  generalize opB ⟨kind, reg, tg, re, im⟩ = R at *
  have W := Lib.hid (fun x lo hi => within_any x lo hi)
  have kinds : kind = 1 ∨ kind = 2 ∨ kind = 3 ∨ kind = 4 ∨ kind = 5 ∨ kind = 6 ∨ kind = 7 ∨ (kind < 1 ∨ 7 < kind) := by omega
  by_cases h0 : re = 0 ∧ im = 0
  · obtain ⟨rfl, rfl⟩ := h0
    have B0 : bareB 0 0 = true := rfl
    rw [B0] at E
    clear B0 EB
    go_enter Try.func46, Try.ntmps46
    go_wp2_with fail
    refine (within_any _ _ _ _).mono ?_; rintro e w' ⟨rfl, rfl⟩
    go_wp2_with fail
    refine (of_any _ _ _).mono ?_; rintro e w' ⟨rfl, rfl⟩
    generalize inB reg 0 7 = r1 at *
    generalize fitB 0 0 = f at *
    generalize numV 0 0 = z at *
    rcases kinds with rfl | rfl | rfl | rfl | rfl | rfl | rfl | hk
    all_goals
      go_wp2_with (go_at_call 64; refine (within_any _ _ _ _).mono ?_; rintro e w' ⟨rfl, rfl⟩)
      all_goals first
        | (exfalso; omega)
        | (go_ret
           refine ⟨?_, by exact (by repeat (first | exact Below.refl _ _ | assumption | (refine Below.setCell ?_ (by first | omega | (simp; omega) | (simp; done)) _) | (refine below_drewN ?_ _) | (refine Below.drew ?_) | (refine Below.allocW ?_ _) | (refine Below.alloc ?_ (by first | omega | (simp; omega) | (simp; done)) _)))⟩
           have e := E.out
           first
             | (simp_all; done)
             | (simp_all; omega)
             | (rw [if_neg (by omega), if_neg (by omega), if_neg (by omega), if_neg (by omega), if_neg (by omega)] at e; simp_all)
             | go_show)
  · have B0 : bareB re im = false := by rw [EB.out]; exact decide_eq_false h0
    rw [B0] at E
    clear B0 EB
    by_cases hre : re = 0
    · subst hre
      have hi : (im == 0) = false := by simpa using h0
      clear h0
      go_enter Try.func46, Try.ntmps46
      go_wp2_with fail
      refine (within_any _ _ _ _).mono ?_; rintro e w' ⟨rfl, rfl⟩
      go_wp2_with fail
      refine (of_any _ _ _).mono ?_; rintro e w' ⟨rfl, rfl⟩
      generalize inB reg 0 7 = r1 at *
      generalize fitB 0 im = f at *
      generalize numV 0 im = z at *
      rcases kinds with rfl | rfl | rfl | rfl | rfl | rfl | rfl | hk
      all_goals
        go_wp2_with (go_at_call 64; refine (within_any _ _ _ _).mono ?_; rintro e w' ⟨rfl, rfl⟩)
        all_goals first
          | (exfalso; omega)
          | (go_ret
             refine ⟨?_, by exact (by repeat (first | exact Below.refl _ _ | assumption | (refine Below.setCell ?_ (by first | omega | (simp; omega) | (simp; done)) _) | (refine below_drewN ?_ _) | (refine Below.drew ?_) | (refine Below.allocW ?_ _) | (refine Below.alloc ?_ (by first | omega | (simp; omega) | (simp; done)) _)))⟩
             have e := E.out
             first
               | (simp_all; done)
               | (simp_all; omega)
               | (rw [if_neg (by omega), if_neg (by omega), if_neg (by omega), if_neg (by omega), if_neg (by omega)] at e; simp_all)
               | go_show)
    · have hi : (re == 0) = false := by simpa using hre
      clear h0
      go_enter Try.func46, Try.ntmps46
      go_wp2_with fail
      refine (within_any _ _ _ _).mono ?_; rintro e w' ⟨rfl, rfl⟩
      go_wp2_with fail
      refine (of_any _ _ _).mono ?_; rintro e w' ⟨rfl, rfl⟩
      generalize inB reg 0 7 = r1 at *
      generalize fitB re im = f at *
      generalize numV re im = z at *
      rcases kinds with rfl | rfl | rfl | rfl | rfl | rfl | rfl | hk
      all_goals
        go_wp2_with (go_at_call 64; refine (within_any _ _ _ _).mono ?_; rintro e w' ⟨rfl, rfl⟩)
        all_goals first
          | (exfalso; omega)
          | (go_ret
             refine ⟨?_, by exact (by repeat (first | exact Below.refl _ _ | assumption | (refine Below.setCell ?_ (by first | omega | (simp; omega) | (simp; done)) _) | (refine below_drewN ?_ _) | (refine Below.drew ?_) | (refine Below.allocW ?_ _) | (refine Below.alloc ?_ (by first | omega | (simp; omega) | (simp; done)) _)))⟩
             have e := E.out
             first
               | (simp_all; done)
               | (simp_all; omega)
               | (rw [if_neg (by omega), if_neg (by omega), if_neg (by omega), if_neg (by omega), if_neg (by omega)] at e; simp_all)
               | go_show)
end Go.Proofs.Ytbedoemdjlollaa

namespace Go.Proofs.Ytbedoemdjlollaa
open Go.ChangeShapes Go.WideShapes Go.ChangeAt Go.RowKit Go.Syn Go.Eng
set_option linter.unusedVariables false
set_option linter.unusedSimpArgs false
abbrev tRight4b0 : List LV := [(tLi 0), (tLi 0), (tLi 0), (tLi 0), (tLi 0), (tLi 3), (tLi 7), (tLi 7)]
abbrev tRight4m0 : Mem := ⟨[(41, [(tVi 0), (tVi 1), (tVi 2), (tVi 3), (tVi 4)]), (3, tRight4b0)], ⟨6, 0, 0, 0, 0⟩⟩
abbrev tRight4m1 : Mem := ⟨[(41, [(tVi 0), (tVi 1), (tVi 2), (tVi 3), (tVi 4)]), (3, tRight4b0)], ⟨6, 1, 0, 0, 0⟩⟩
abbrev tRight4m2 : Mem := ⟨[(41, [(tVi 0), (tVi 1), (tVi 2), (tVi 3), (tVi 4)])], ⟨5, 0, 0, 0, 0⟩⟩
set_option maxRecDepth 100000 in
theorem tRight4 : (runF ⟨tt, fns, {}⟩ (Try.f33.body.getD .skip) Try.f33.results.toList (entry Try.f33.ntmps [.agg [.int .i64 (.var 0), .int .i64 (.var 1), .int .i64 (.var 2), .int .i64 (.var 3), .int .i64 (.var 4)]] [] ⟨5, 0, 0, 0, 0⟩)) =
  (.br (.cmp .lss (.var 0) (.lit 1)) (.done (.lf (.bool (.lit .false))) tRight4m2) (.br (.cmp .gtr (.var 0) (.lit 7)) (.done (.lf (.bool (.lit .false))) tRight4m2) (.br (.cmp .lss (.var 1) (.lit 0)) (.done (.lf (.bool (.lit .false))) tRight4m2) (.br (.cmp .gtr (.var 1) (.lit 7)) (.done (.lf (.bool (.lit .false))) tRight4m2) (.br (.cmp .lss (.var 2) (.lit 0)) (.done (.lf (.bool (.lit .false))) tRight4m2) (.need (.inr (.var 0) (.lit 8)) (.ld .true (.pix 1 0 1 (.var 0)) [(tVi 5)] ⟨[(41, [(tVi 0), (tVi 1), (tVi 2), (tVi 3), (tVi 4)]), (3, tRight4b0)], ⟨5, 0, 0, 0, 0⟩⟩ tRight4m0 (.br (.cmp .gtr (.var 2) (.var 5)) (.done (.lf (.bool (.lit .false))) tRight4m0) (.call 52 [(.lf (tVi 3)), (.lf (tVi 4))] tRight4m0 (.lf (.bool (.var 0))) tRight4m1 (.br (.not (.var 0)) (.done (.lf (.bool (.lit .false))) tRight4m1) (.br (.cmp .eql (.var 0) (.lit 2)) (.done (.lf (.bool (.lit .true))) tRight4m1) (.br (.cmp .eql (.var 0) (.lit 3)) (.done (.lf (.bool (.lit .true))) tRight4m1) (.br (.cmp .eql (.var 0) (.lit 4)) (.done (.lf (.bool (.lit .true))) tRight4m1) (.br (.cmp .eql (.var 0) (.lit 7)) (.done (.lf (.bool (.lit .true))) tRight4m1) (.br (.cmp .eql (.var 3) (.lit 0)) (.done (.lf (.bool (.cmp .eql (.var 4) (.lit 0)))) tRight4m1) (.done (.lf (.bool (.lit .false))) tRight4m1)))))))))))))))) := by kernel_rfl
def mostV (k : Int) : Int := if k = 5 then 3 else if 6 ≤ k then 7 else 0
theorem opB_iff (o : OpD) : opB o = true ↔ (1 ≤ o.kind ∧ o.kind ≤ 7) ∧ (0 ≤ o.reg ∧ o.reg ≤ 7) ∧ 0 ≤ o.tg ∧ o.tg ≤ mostV o.kind ∧ fitB o.re o.im = true ∧ ((o.kind = 2 ∨ o.kind = 3 ∨ o.kind = 4 ∨ o.kind = 7) ∨ (o.re = 0 ∧ o.im = 0)) := by
  obtain ⟨kind, reg, tg, re, im⟩ := o
  have kinds : kind = 1 ∨ kind = 2 ∨ kind = 3 ∨ kind = 4 ∨ kind = 5 ∨ kind = 6 ∨ kind = 7 ∨ (kind < 1 ∨ 7 < kind) := by omega
  rcases kinds with rfl | rfl | rfl | rfl | rfl | rfl | rfl | hk
  case inr.inr.inr.inr.inr.inr.inr =>
    have : opB ⟨kind, reg, tg, re, im⟩ = false := by
      unfold opB; dsimp only
      rw [if_neg (by omega), if_neg (by omega), if_neg (by omega), if_neg (by omega), if_neg (by omega)]; simp
    rw [this]; dsimp only; constructor
    · intro h; cases h
    · rintro ⟨⟨h1, h2⟩, _⟩; omega
  all_goals
    simp [opB, inB, bareB, fitB, mostV]
    try omega

theorem most_at {k : Nat} (h1 : 1 ≤ k) (h2 : k ≤ 7) : ([0, 0, 0, 0, 0, 3, 7, 7] : List Int)[k]? = some (mostV (k : Int)) := by
  rcases (by omega : k = 1 ∨ k = 2 ∨ k = 3 ∨ k = 4 ∨ k = 5 ∨ k = 6 ∨ k = 7) with rfl | rfl | rfl | rfl | rfl | rfl | rfl <;> decide
theorem refOp_pure (o : OpD) (w : World) : Calls Try.prog 33 #[.agg o.cells.toArray] w (PureAt w (.bool (opB o))) := by
  have E := opB_iff o
  have no : ∀ {R : Bool}, (opB o = true ↔ R = true) → opB o = R := fun h => Bool.eq_iff_iff.2 h
  obtain ⟨kind, reg, tg, re, im⟩ := o
  dsimp only at E
  generalize hR : opB ⟨kind, reg, tg, re, im⟩ = R at *
  refine calls_at (tab_ok _) Try.func33 rfl tRight4 (ρ := ⟨[kind, reg, tg, re, im], [], [], [], []⟩) (ids := []) rfl (Facts.initP rfl oneNil) ?_
  have bad : ∀ {m : Mem} {ρ : Env} {pre : List Nat} {hx : HX} {L : Stack}, ¬ (R = true) → (Tree.done (.lf (.bool (.lit false))) m).holds ⟨Try.prog, w, fun _ => False, PureAt w (.bool R)⟩ ρ pre hx L := fun h => pure_done fun _ => by
    have : R = false := by simpa using h
    rw [this]; rfl
  refine br_i (fun h => bad ?_) (fun h1 => ?_)
  · have := of_decide_eq_true (show decide (kind < 1) = true from h); rw [E]; omega
  have h1 := of_decide_eq_false (show decide (kind < 1) = false from h1)
  refine br_i (fun h => bad ?_) (fun h2 => ?_)
  · have := of_decide_eq_true (show decide (kind > 7) = true from h); rw [E]; omega
  have h2 := of_decide_eq_false (show decide (kind > 7) = false from h2)
  refine br_i (fun h => bad ?_) (fun h3 => ?_)
  · have := of_decide_eq_true (show decide (reg < 0) = true from h); rw [E]; omega
  have h3 := of_decide_eq_false (show decide (reg < 0) = false from h3)
  refine br_i (fun h => bad ?_) (fun h4 => ?_)
  · have := of_decide_eq_true (show decide (reg > 7) = true from h); rw [E]; omega
  have h4 := of_decide_eq_false (show decide (reg > 7) = false from h4)
  refine br_i (fun h => bad ?_) (fun h5 => ?_)
  · have := of_decide_eq_true (show decide (tg < 0) = true from h); rw [E]; omega
  have h5 := of_decide_eq_false (show decide (tg < 0) = false from h5)
  obtain ⟨k, rfl⟩ : ∃ k : Nat, kind = (k : Int) := ⟨kind.toNat, by omega⟩
  refine need_i (show (0 : Int) ≤ k ∧ (k : Int) < 8 by omega) ?_
  refine node_ldp (i := k) (us := ([0, 0, 0, 0, 0, 3, 7, 7] : List Int).map (Value.int .i64)) ⟨[mostV (k : Int)], [], [], [], []⟩ rfl rfl (fun _ => rfl) (fun ids j u hj => ?_) rfl oneNil ?_
  · have hj2 : ([Value.int .i64 (mostV (k : Int))] : List Value)[j]? = some u := hj
    have : j = 0 := by
      rcases j with _ | j
      · rfl
      · simp at hj2
    subst this
    rw [show 0 + k * 1 + 0 = k by omega, List.getElem?_map, most_at (by omega) (by omega)]
    exact hj2
  refine br_i (fun h => bad ?_) (fun h6 => ?_)
  · have := of_decide_eq_true (show decide (tg > mostV (k : Int)) = true from h); rw [E]; omega
  have h6 := of_decide_eq_false (show decide (tg > mostV (k : Int)) = false from h6)
  refine node_val ⟨[], [fitB re im], [], [], []⟩ (fun w => pure_same (ref03_any re im w)) (fun _ => rfl) (fun _ => rfl) rfl rfl rfl oneNil ?_
  refine br_i (fun h => bad ?_) (fun h7 => ?_)
  · have : fitB re im = false := by simpa using (show (!fitB re im) = true from h)
    rw [E, this]; simp
  have h7 : fitB re im = true := by simpa using (show (!fitB re im) = false from h7)
  have good : ∀ {m : Mem} {ρ : Env} {pre : List Nat} {hx : HX} {L : Stack}, ((k : Int) = 2 ∨ (k : Int) = 3 ∨ (k : Int) = 4 ∨ (k : Int) = 7) → (Tree.done (.lf (.bool (.lit true))) m).holds ⟨Try.prog, w, fun _ => False, PureAt w (.bool R)⟩ ρ pre hx L := fun h => pure_done fun _ => by
    have : R = true := E.2 ⟨by omega, by omega, by omega, by omega, h7, .inl h⟩
    rw [this]; rfl
  refine br_i (fun h => good (.inl (by simpa using (show ((k : Int) == 2) = true from h)))) (fun g1 => ?_)
  refine br_i (fun h => good (.inr (.inl (by simpa using (show ((k : Int) == 3) = true from h))))) (fun g2 => ?_)
  refine br_i (fun h => good (.inr (.inr (.inl (by simpa using (show ((k : Int) == 4) = true from h)))))) (fun g3 => ?_)
  refine br_i (fun h => good (.inr (.inr (.inr (by simpa using (show ((k : Int) == 7) = true from h)))))) (fun g4 => ?_)
  have g1 : ¬ (k : Int) = 2 := by simpa using (show ((k : Int) == 2) = false from g1)
  have g2 : ¬ (k : Int) = 3 := by simpa using (show ((k : Int) == 3) = false from g2)
  have g3 : ¬ (k : Int) = 4 := by simpa using (show ((k : Int) == 4) = false from g3)
  have g4 : ¬ (k : Int) = 7 := by simpa using (show ((k : Int) == 7) = false from g4)
  refine br_i (fun h => ?_) (fun h => bad ?_)
  · have h : re = 0 := by simpa using (show (re == 0) = true from h)
    refine pure_done fun _ => ?_
    have : R = (im == 0) := by
      rw [Bool.eq_iff_iff, E, beq_iff_eq]
      constructor
      · rintro ⟨_, _, _, _, _, h8⟩; omega
      · intro h8; exact ⟨by omega, by omega, by omega, by omega, h7, .inr ⟨h, h8⟩⟩
    rw [this]; rfl
  · have h : ¬ re = 0 := by simpa using (show (re == 0) = false from h)
    rw [E]; omega
end Go.Proofs.Ytbedoemdjlollaa

namespace Go.Eng
open Ieee
theorem read_abs {x : Nat} {s : Bool} {m : Nat} {p : Int} (h : Ieee.double.read x = .number s m p) : Ieee.double.read (x % 2 ^ 63) = .number false m p := by
  obtain ⟨f1, f2, f3, f4⟩ := fmt
  unfold Format.read at *
  rw [f1] at h ⊢
  have e1 : x % 2 ^ 63 % 2 ^ 63 = x % 2 ^ 63 := by omega
  have e2 : x % 2 ^ 63 / 2 ^ 63 = 0 := by omega
  simp only [e1, e2] at h ⊢
  split at h
  · rename_i g; rw [if_pos g]; injection h with h1 h2 h3; rw [h2, h3]; rfl
  · rename_i g
    rw [if_neg g]
    split at h
    · rename_i g2; rw [if_pos g2]; injection h with h1 h2 h3; rw [h2, h3]; rfl
    · split at h <;> cases h
theorem isI_abs {x : Nat} {a : Int} (h : IsI x a) : IsI (x % 2 ^ 63) (a.natAbs : Int) := by
  obtain ⟨s, m, q, h1, h2, h3, h4⟩ := h
  exact ⟨false, m, q, read_abs h1, by rw [h2, Int.natAbs_natCast], fun _ => (decide_eq_false (by omega)).symm, by omega⟩
def truncBits (x : Nat) : Nat := FloatKind.f64.encode ((FloatKind.f64.decode x).integral .zero)
theorem isI_trunc {x : Nat} {a : Int} (h : IsI x a) (ha : a.natAbs < 2 ^ 53) : IsI (truncBits x) a := by
  obtain ⟨s, m, q, h1, h2, h3, h4⟩ := h
  have e : truncBits x = double.nearest s (a.natAbs * 2 ^ 0) (-((0 : Nat) : Int)) := by
    show double.write ((double.read x).integral .zero) = _
    rw [h1]
    have e0 : (-(q : Int)).toNat = 0 := by omega
    have e1 : (- -(q : Int)).toNat = q := by omega
    simp only [Datum.integral, e0, e1, Nat.shiftLeft_zero, h2, cut_exact, Format.write]
    simp
  rw [e]
  exact nearest_isI s a 0 ha h3
def cutSem (N : Bool → Nat → Sem Value) (d : Datum) : Sem Value :=
  match d with
  | .nan s t => N s t
  | .number s m p => pure (.float .f64 (FloatKind.f64.encode ((Datum.number s m p).integral .zero)))
  | .infinity s => pure (.float .f64 (FloatKind.f64.encode ((Datum.infinity s).integral .zero)))
theorem cut_sem (x : Nat) : ∃ N, Extern.MathFloor.toIntegral "math.archTrunc" .zero #[.float .f64 x] = cutSem N (FloatKind.f64.decode x) := by
  unfold Extern.MathFloor.toIntegral
  refine ⟨?N, ?_⟩
  rotate_left
  conv => lhs; delta Extern.MathFloor.toIntegral.match_2; whnf
  generalize FloatKind.f64.decode x = d
  cases d with
  | nan s t => rfl
  | number s m p => rfl
  | infinity s => rfl
theorem trunc_run {P : Program} {x : Nat} {a : Int} (h : IsI x a) (w : World) : (Extern.MathFloor.toIntegral "math.archTrunc" .zero #[.float .f64 x]).run P w = .ok (.float .f64 (truncBits x)) w := by
  obtain ⟨s, m, q, h1, h2, h3, h4⟩ := h
  have e : FloatKind.f64.decode x = .number s m (-(q : Int)) := h1
  obtain ⟨N, hN⟩ := cut_sem x
  rw [hN]
  unfold truncBits
  rw [e]
  rfl
theorem andNot_63 {x : Nat} (h : x < 2 ^ 64) : ifn .andNot .u64 (x : Int) 9223372036854775808 = ((x % 2 ^ 63 : Nat) : Int) := by
  have e : (BitVec.ofInt 64 (x : Int) &&& ~~~BitVec.ofInt 64 9223372036854775808).toNat = x % 2 ^ 63 := by
    have h1 : (~~~BitVec.ofInt 64 9223372036854775808) = BitVec.ofNat 64 (2 ^ 63 - 1) := by decide
    rw [h1, BitVec.toNat_and]
    have h2 : (BitVec.ofInt 64 (x : Int)).toNat = x := by
      simp only [BitVec.toNat_ofInt]; omega
    have h3 : (BitVec.ofNat 64 (2 ^ 63 - 1)).toNat = 2 ^ 63 - 1 := by decide
    rw [h2, h3]
    exact Nat.and_two_pow_sub_one_eq_mod x 63
  show IntKind.u64.wrap ((BitVec.ofInt 64 (x : Int) &&& ~~~BitVec.ofInt 64 9223372036854775808).toNat : Int) = _
  rw [e]
  have : x % 2 ^ 63 < 2 ^ 63 := Nat.mod_lt _ (by decide)
  exact IntWalk.u64_in _ (by omega)
theorem isI_lit : IsI 4697254411347427328 1048576 ∧ IsI 0 0 ∧ IsI 4607182418800017408 1 := by
  refine ⟨⟨false, 2 ^ 52, 32, by decide, by decide, fun _ => by decide, by decide⟩, isI_zero (s := false) (q := 1074) (by decide) (by decide), ⟨false, 2 ^ 52, 52, by decide, by decide, fun _ => by decide, by decide⟩⟩
end Go.Eng
namespace Go.Proofs.Ytbedoemdjlollaa
open Go.ChangeShapes Go.WideShapes Go.ChangeAt Go.RowKit Go.Syn Go.Eng
set_option linter.unusedVariables false
set_option maxRecDepth 100000
set_option linter.unusedSimpArgs false
theorem oneF {k : FloatKind} {x : Nat} : ∀ v, v ∈ [Value.float k x] → v.oneCell' = true := fun v hv => by simp only [List.mem_singleton] at hv; subst hv; rfl
theorem oneC {k : FloatKind} {x y : Nat} : ∀ v, v ∈ [Value.complex k x y] → v.oneCell' = true := fun v hv => by simp only [List.mem_singleton] at hv; subst hv; rfl
theorem one2 {u z : Value} (h : u.oneCell' = true) (h2 : z.oneCell' = true) : ∀ v, v ∈ [u, z] → v.oneCell' = true := fun v hv => by simp only [List.mem_cons, List.not_mem_nil, or_false] at hv; rcases hv with rfl | rfl <;> assumption
theorem one1 {u : Value} (h : u.oneCell' = true) : ∀ v, v ∈ [u] → v.oneCell' = true := fun v hv => by simp only [List.mem_singleton] at hv; subst hv; exact h
theorem abs_any {x : Nat} (hx : x < 2 ^ 64) (w : World) : Calls Try.prog 83 #[.float .f64 x] w (PureAt w (.float .f64 (x % 2 ^ 63))) := by
  refine calls_at (tab_ok _) Try.func83 rfl tAbs (ρ := ⟨[], [], [.float .f64 x], [], []⟩) (ids := []) rfl (Facts.initP rfl oneF) ?_
  refine node_ext (AS := #[.float .f64 x]) (V := .int .u64 (x : Int)) (e := Extern.MathFloatBits.float64bits) ⟨[(x : Int)], [], [], [], []⟩ Try.func93 (by kernel_rfl) (by kernel_rfl) (by kernel_rfl) (by kernel_rfl) (fun ids => rfl) (fun w => rfl) (fun _ => rfl) rfl rfl rfl oneNil ?_
  refine node_ext (V := .float .f64 (x % 2 ^ 63)) (e := Extern.MathFloatBits.float64frombits) ⟨[], [], [.float .f64 (x % 2 ^ 63)], [], []⟩ Try.func92 (by kernel_rfl) (by kernel_rfl) (by kernel_rfl) (by kernel_rfl) (AS := #[.int .u64 ((x % 2 ^ 63 : Nat) : Int)]) (fun ids => ?_) (fun w => rfl) (fun _ => rfl) rfl rfl rfl oneF (pure_done fun _ => rfl)
  have := andNot_63 hx
  show #[Value.int .u64 (ifn .andNot .u64 (x : Int) 9223372036854775808)] = _
  rw [this]
theorem truncF_any {x : Nat} {a : Int} (hx : IsI x a) (w : World) : Calls Try.prog 82 #[.float .f64 x] w (PureAt w (.float .f64 (truncBits x))) := by
  refine calls_at (tab_ok _) Try.func82 rfl tTrunc (ρ := ⟨[], [], [.float .f64 x], [], []⟩) (ids := []) rfl (Facts.initP rfl oneF) ?_
  exact node_ext (AS := #[.float .f64 x]) (V := .float .f64 (truncBits x)) (e := Extern.MathFloor.toIntegral "math.archTrunc" .zero) ⟨[], [], [.float .f64 (truncBits x)], [], []⟩ Try.func90 (by kernel_rfl) (by kernel_rfl) (by kernel_rfl) (by kernel_rfl) (fun ids => rfl) (fun w => trunc_run hx w) (fun _ => rfl) rfl rfl rfl oneF (pure_done fun _ => rfl)
def inP (a : Int) : Bool := decide (a.natAbs ≤ 1048576)
theorem fit_in (a b : Int) : fitB a b = (inP a && inP b) := by
  unfold fitB inP
  rw [← Bool.decide_and]
  exact decide_eq_decide.2 (by omega)
theorem whole_any {x : Nat} {a : Int} (hx : IsI x a) (ha : a.natAbs < 2 ^ 53) (w : World) : Calls Try.prog 67 #[.float .f64 x] w (PureAt w (.tuple #[.int .i64 (if inP a then a else 0), .bool (inP a)])) := by
  refine calls_at (tab_ok _) Try.func67 rfl tWhole (ρ := ⟨[], [], [.float .f64 x], [], []⟩) (ids := []) rfl (Facts.initP rfl oneF) ?_
  refine node_val ⟨[], [], [.float .f64 (truncBits x)], [], []⟩ (fun w => truncF_any hx w) (fun _ => rfl) (fun _ => rfl) rfl rfl rfl oneF ?_
  refine node_bin (x := .float .f64 (truncBits x)) (y := .float .f64 x) (V := .bool false) ⟨[], [false], [], [], []⟩ (fun _ => rfl) (fun _ => rfl) (fun _ => rfl) (fun w => ?_) (fun _ => rfl) rfl rfl rfl oneNil ?_
  · rw [binOp_float_cmp_neq, isI_order (isI_trunc hx ha) hx]
    have : compare a a = Ordering.eq := by simp
    rw [this]; rfl
  refine br_f rfl ?_
  refine node_val ⟨[], [], [.float .f64 (x % 2 ^ 63)], [], []⟩ (fun w => abs_any (by obtain ⟨_, _, _, _, _, _, h⟩ := hx; exact h) w) (fun _ => rfl) (fun _ => rfl) rfl rfl rfl oneF ?_
  refine node_bin (x := .float .f64 (x % 2 ^ 63)) (y := .float .f64 4697254411347427328) (V := .bool (!inP a)) ⟨[], [!inP a], [], [], []⟩ (fun _ => rfl) (fun _ => rfl) (fun _ => rfl) (fun w => ?_) (fun _ => rfl) rfl rfl rfl oneNil ?_
  · rw [binOp_float_cmp_gtr, isI_order (isI_abs hx) isI_lit.1]
    have : (some (compare (a.natAbs : Int) 1048576) == some Ordering.gt) = !inP a := by
      unfold inP
      rcases Nat.lt_trichotomy a.natAbs 1048576 with g | g | g
      · have h1 : compare (a.natAbs : Int) 1048576 = .lt := by simp only [compare, compareOfLessAndEq]; rw [if_pos (by omega)]
        rw [h1, decide_eq_true (by omega)]; rfl
      · have h1 : compare (a.natAbs : Int) 1048576 = .eq := by simp only [compare, compareOfLessAndEq]; rw [if_neg (by omega), if_pos (by omega)]
        rw [h1, decide_eq_true (by omega)]; rfl
      · have h1 : compare (a.natAbs : Int) 1048576 = .gt := by simp only [compare, compareOfLessAndEq]; rw [if_neg (by omega), if_neg (by omega)]
        rw [h1, decide_eq_false (by omega)]; rfl
    rw [this]; rfl
  cases hi : inP a with
  | false => exact br_t rfl (pure_done fun _ => rfl)
  | true =>
    refine br_f rfl ?_
    refine node_conv (x := .float .f64 x) (V := .int .i64 a) ⟨[a], [], [], [], []⟩ (fun _ => rfl) (fun w => ?_) (fun _ => rfl) rfl rfl rfl oneNil (pure_done fun _ => rfl)
    exact run_convert_float_int w _ _ _ _ _ _ (by kernel_rfl) Try.underlying3 (isI_int hx (by omega) (by omega))
def partsV (a b : Int) : Value := .tuple #[.int .i64 (if fitB a b then a else 0), .int .i64 (if fitB a b then b else 0), .bool (fitB a b)]
theorem parts_any {x y : Nat} {a b : Int} (hx : IsI x a) (hy : IsI y b) (ha : a.natAbs < 2 ^ 53) (hb : b.natAbs < 2 ^ 53) (w : World) : Calls Try.prog 51 #[.complex .f64 x y] w (PureAt w (partsV a b)) := by
  refine calls_at (tab_ok _) Try.func51 rfl tParts (ρ := ⟨[], [], [.complex .f64 x y], [], []⟩) (ids := []) rfl (Facts.initP rfl oneC) ?_
  refine node_real (x := x) (y := y) ⟨[], [], [.float .f64 x], [], []⟩ (fun _ => rfl) (fun _ => rfl) rfl rfl rfl oneF ?_
  refine node_val ⟨[if inP a then a else 0], [inP a], [], [], []⟩ (fun w => whole_any hx ha w) (fun _ => rfl) (fun _ => rfl) rfl rfl rfl oneNil ?_
  refine node_imag (x := x) (y := y) ⟨[], [], [.float .f64 y], [], []⟩ (fun _ => rfl) (fun _ => rfl) rfl rfl rfl oneF ?_
  refine node_val ⟨[if inP b then b else 0], [inP b], [], [], []⟩ (fun w => whole_any hy hb w) (fun _ => rfl) (fun _ => rfl) rfl rfl rfl oneNil ?_
  unfold partsV
  rw [fit_in]
  cases h1 : inP a with
  | false => exact br_t rfl (pure_done fun _ => rfl)
  | true =>
    refine br_f rfl ?_
    cases h2 : inP b with
    | false => exact br_t rfl (pure_done fun _ => rfl)
    | true => exact br_f rfl (pure_done fun _ => rfl)
theorem pure_of {P : Program} {f : Nat} {args : Array Value} {w : World} {V : Value} (h : Calls P f args w fun e w' => e = .returned V ∧ w = w') : Calls P f args w (PureAt w V) := pure_same h
theorem numV_one (a b : Int) : (numV a b).oneCell' = true := by unfold numV; split <;> rfl
def rightV (ok : Bool) (a b : Int) : Value := .tuple #[if ok && fitB a b then numV a b else .complex .f64 0 0, .bool (ok && fitB a b)]
theorem right_any {x y : Nat} {a b : Int} (hx : IsI x a) (hy : IsI y b) (ha : a.natAbs < 2 ^ 53) (hb : b.natAbs < 2 ^ 53) (ok : Bool) (w : World) : Calls Try.prog 65 #[.complex .f64 x y, .bool ok] w (PureAt w (rightV ok a b)) := by
  refine calls_at (tab_ok _) Try.func65 rfl tRight (ρ := ⟨[], [ok], [.complex .f64 x y], [], []⟩) (ids := []) rfl (Facts.initP rfl oneC) ?_
  refine node_val ⟨[if fitB a b then a else 0, if fitB a b then b else 0], [fitB a b], [], [], []⟩ (fun w => parts_any hx hy ha hb w) (fun _ => rfl) (fun _ => rfl) rfl rfl rfl oneNil ?_
  unfold rightV
  cases ok with
  | false => exact br_t rfl (pure_done fun _ => rfl)
  | true =>
    refine br_f rfl ?_
    cases h2 : fitB a b with
    | false => exact br_t rfl (pure_done fun _ => rfl)
    | true =>
      refine br_f rfl ?_
      have hnv : fitB a b = true := h2
      refine node_val ⟨[], [true], [numV a b], [], []⟩ (V := .tuple #[numV a b, .bool true]) (fun w => by have := pure_of (of_any a b w); rw [h2] at this; exact this) (fun _ => rfl) (fun _ => rfl) rfl rfl rfl (one1 (numV_one a b)) (pure_done fun _ => rfl)
theorem both_any {x y u v : Nat} {a b c d : Int} (hx : IsI x a) (hy : IsI y b) (hu : IsI u c) (hv : IsI v d) (ha : a.natAbs < 2 ^ 53) (hb : b.natAbs < 2 ^ 53) (hc : c.natAbs < 2 ^ 53) (hd : d.natAbs < 2 ^ 53) (w : World) : Calls Try.prog 66 #[.complex .f64 x y, .complex .f64 u v] w (PureAt w (.bool (fitB a b && fitB c d))) := by
  refine calls_at (tab_ok _) Try.func66 rfl tBoth (ρ := ⟨[], [], [.complex .f64 x y, .complex .f64 u v], [], []⟩) (ids := []) rfl (Facts.initP rfl (one2 rfl rfl)) ?_
  refine node_val ⟨[if fitB a b then a else 0, if fitB a b then b else 0], [fitB a b], [], [], []⟩ (fun w => parts_any hx hy ha hb w) (fun _ => rfl) (fun _ => rfl) rfl rfl rfl oneNil ?_
  refine node_val ⟨[if fitB c d then c else 0, if fitB c d then d else 0], [fitB c d], [], [], []⟩ (fun w => parts_any hu hv hc hd w) (fun _ => rfl) (fun _ => rfl) rfl rfl rfl oneNil ?_
  cases h2 : fitB a b with
  | false => exact br_f rfl (pure_done fun _ => rfl)
  | true => exact br_t rfl (pure_done fun _ => rfl)
theorem right_true (a b : Int) : rightV true a b = .tuple #[numV a b, .bool (fitB a b)] := by
  unfold rightV numV
  cases h : fitB a b <;> simp
theorem fit_abs {a b : Int} (h : fitB a b = true) : a.natAbs ≤ 1048576 ∧ b.natAbs ≤ 1048576 := by
  unfold fitB at h
  have := of_decide_eq_true h
  omega
theorem numV_eq {a b : Int} (h : fitB a b = true) : numV a b = .complex .f64 (floatOfInt .f64 a) (floatOfInt .f64 b) := by unfold numV; rw [if_pos h]
theorem isI_of {a : Int} (h : a.natAbs ≤ 1048576) : IsI (floatOfInt .f64 a) a := isI_ofInt (by omega)
theorem number_any (a b : Int) (w : World) : Calls Try.prog 47 #[.agg #[.int .i64 a, .int .i64 b]] w (PureAt w (numV a b)) := by
  refine calls_at (tab_ok _) Try.func47 rfl tNumber (ρ := ⟨[a, b], [], [], [], []⟩) (ids := []) rfl (Facts.initP rfl oneNil) ?_
  exact node_val ⟨[], [fitB a b], [numV a b], [], []⟩ (fun w => pure_of (of_any a b w)) (fun _ => rfl) (fun _ => rfl) rfl rfl rfl (one1 (numV_one a b)) (pure_done fun _ => rfl)
def sumV (a b : Int) : Value := .tuple #[numV a b, .bool (fitB a b)]
theorem add_any {a b c d : Int} (h1 : fitB a b = true) (h2 : fitB c d = true) (w : World) : Calls Try.prog 48 #[numV a b, numV c d] w (PureAt w (sumV (a + c) (b + d))) := by
  obtain ⟨ha, hb⟩ := fit_abs h1
  obtain ⟨hc, hd⟩ := fit_abs h2
  obtain ⟨r, r1, r2⟩ := isI_add (isI_of ha) (isI_of hc) (by omega)
  obtain ⟨q, q1, q2⟩ := isI_add (isI_of hb) (isI_of hd) (by omega)
  rw [numV_eq h1, numV_eq h2]
  refine calls_at (tab_ok _) Try.func48 rfl tAdd (ρ := ⟨[], [], [.complex .f64 (floatOfInt .f64 a) (floatOfInt .f64 b), .complex .f64 (floatOfInt .f64 c) (floatOfInt .f64 d)], [], []⟩) (ids := []) rfl (Facts.initP rfl (one2 rfl rfl)) ?_
  refine node_bin (x := .complex .f64 (floatOfInt .f64 a) (floatOfInt .f64 b)) (y := .complex .f64 (floatOfInt .f64 c) (floatOfInt .f64 d)) (V := .complex .f64 r q) ⟨[], [], [.complex .f64 r q], [], []⟩ (fun _ => rfl) (fun _ => rfl) (fun _ => rfl) (fun w => ?_) (fun _ => rfl) rfl rfl rfl oneC ?_
  · exact run_complex_sum w .add (.inl rfl) _ _ _ _ _ _ _ _ (by unfold cSumBits; rw [r1, q1]; rfl)
  refine node_val ⟨[], [fitB a b && fitB c d], [], [], []⟩ (fun w => both_any (isI_of ha) (isI_of hb) (isI_of hc) (isI_of hd) (by omega) (by omega) (by omega) (by omega) w) (fun _ => rfl) (fun _ => rfl) rfl rfl rfl oneNil ?_
  rw [h1, h2]
  refine node_val ⟨[], [fitB (a + c) (b + d)], [numV (a + c) (b + d)], [], []⟩ (V := rightV true (a + c) (b + d)) (fun w => right_any r2 q2 (by omega) (by omega) true w) (fun _ => rfl) (fun _ => (right_true _ _).symm) rfl rfl rfl (one1 (numV_one _ _)) (pure_done fun _ => rfl)
theorem mul_abs {a b : Int} (ha : a.natAbs ≤ 1048576) (hb : b.natAbs ≤ 1048576) : (a * b).natAbs ≤ 1099511627776 := by
  rw [Int.natAbs_mul]
  exact Nat.le_trans (Nat.mul_le_mul ha hb) (by decide)
theorem mul_any {a b c d : Int} (h1 : fitB a b = true) (h2 : fitB c d = true) (w : World) : Calls Try.prog 49 #[numV a b, numV c d] w (PureAt w (sumV (a * c - b * d) (a * d + b * c))) := by
  obtain ⟨ha, hb⟩ := fit_abs h1
  obtain ⟨hc, hd⟩ := fit_abs h2
  have m1 := mul_abs ha hc
  have m2 := mul_abs hb hd
  have m3 := mul_abs ha hd
  have m4 := mul_abs hb hc
  obtain ⟨x1, x2, x3⟩ := isI_mul (isI_of ha) (isI_of hc) (by omega)
  obtain ⟨y1, y2, y3⟩ := isI_mul (isI_of hb) (isI_of hd) (by omega)
  obtain ⟨r, r1, r2⟩ := isI_sub x3 y3 (by omega)
  obtain ⟨u1, u2, u3⟩ := isI_mul (isI_of ha) (isI_of hd) (by omega)
  obtain ⟨v1, v2, v3⟩ := isI_mul (isI_of hb) (isI_of hc) (by omega)
  obtain ⟨q, q1, q2⟩ := isI_add u3 v3 (by omega)
  rw [numV_eq h1, numV_eq h2]
  refine calls_at (tab_ok _) Try.func49 rfl tMul (ρ := ⟨[], [], [.complex .f64 (floatOfInt .f64 a) (floatOfInt .f64 b), .complex .f64 (floatOfInt .f64 c) (floatOfInt .f64 d)], [], []⟩) (ids := []) rfl (Facts.initP rfl (one2 rfl rfl)) ?_
  refine node_bin (x := .complex .f64 (floatOfInt .f64 a) (floatOfInt .f64 b)) (y := .complex .f64 (floatOfInt .f64 c) (floatOfInt .f64 d)) (V := .complex .f64 r q) ⟨[], [], [.complex .f64 r q], [], []⟩ (fun _ => rfl) (fun _ => rfl) (fun _ => rfl) (fun w => ?_) (fun _ => rfl) rfl rfl rfl oneC ?_
  · exact run_complex_mul w _ _ _ _ _ _ _ (by unfold cMulBits; rw [x2, y2]; show (floatBits .sub .f64 x1 y1).bind _ = _; rw [r1, u2, v2]; show (floatBits .add .f64 u1 v1).bind _ = _; rw [q1]; rfl)
  refine node_val ⟨[], [fitB a b && fitB c d], [], [], []⟩ (fun w => both_any (isI_of ha) (isI_of hb) (isI_of hc) (isI_of hd) (by omega) (by omega) (by omega) (by omega) w) (fun _ => rfl) (fun _ => rfl) rfl rfl rfl oneNil ?_
  rw [h1, h2]
  refine node_val ⟨[], [fitB (a * c - b * d) (a * d + b * c)], [numV (a * c - b * d) (a * d + b * c)], [], []⟩ (V := rightV true (a * c - b * d) (a * d + b * c)) (fun w => right_any r2 q2 (by omega) (by omega) true w) (fun _ => rfl) (fun _ => (right_true _ _).symm) rfl rfl rfl (one1 (numV_one _ _)) (pure_done fun _ => rfl)
def turnN : Nat → Int × Int → Int × Int
  | 0, p => p
  | n + 1, p => turnN n (-p.2, p.1)
theorem turnN_succ (n : Nat) (p : Int × Int) : turnN (n + 1) p = (-(turnN n p).2, (turnN n p).1) := by
  induction n generalizing p with
  | zero => rfl
  | succ n ih => rw [turnN, ih]; rfl
theorem turnN_abs {k : Nat} (n : Nat) (p : Int × Int) (h : p.1.natAbs ≤ k ∧ p.2.natAbs ≤ k) : (turnN n p).1.natAbs ≤ k ∧ (turnN n p).2.natAbs ≤ k := by
  induction n with
  | zero => exact h
  | succ n ih => rw [turnN_succ]; simp only; omega
def TurnI (q : Nat) (p : Int × Int) (vs : Vals) (hx : HX) : Prop := ∃ (k x y : Nat), k ≤ q ∧ vs = ⟨[(k : Int)], [], [.complex .f64 x y], [], []⟩ ∧ IsI x (turnN k p).1 ∧ IsI y (turnN k p).2 ∧ hx = HX.nil
theorem turn_any {a b : Int} (h1 : fitB a b = true) (q : Nat) (hq : q ≤ 3) (w : World) : Calls Try.prog 50 #[numV a b, .int .i64 (q : Int)] w (PureAt w (sumV (turnN q (a, b)).1 (turnN q (a, b)).2)) := by
  obtain ⟨ha, hb⟩ := fit_abs h1
  rw [numV_eq h1]
  refine calls_at (tab_ok _) Try.func50 rfl tTurn (ρ := ⟨[(q : Int)], [], [.complex .f64 (floatOfInt .f64 a) (floatOfInt .f64 b)], [], []⟩) (ids := []) rfl (Facts.initP rfl oneC) ?_
  refine node_val ⟨[if fitB a b then a else 0, if fitB a b then b else 0], [fitB a b], [], [], []⟩ (fun w => parts_any (isI_of ha) (isI_of hb) (by omega) (by omega) w) (fun _ => rfl) (fun _ => rfl) rfl rfl rfl oneNil ?_
  have hq3 : ifn .and .i64 (q : Int) 3 = (q : Int) := by
    rcases (by omega : q = 0 ∨ q = 1 ∨ q = 2 ∨ q = 3) with rfl | rfl | rfl | rfl <;> decide
  refine loop_i (TurnI q (a, b)) (fun vs => q - (vs.i.headD 0).toNat) (fun ids w2 hp hf => ⟨HX.nil, HXok.none _ _, 0, _, _, by omega, rfl, isI_of ha, isI_of hb, rfl⟩) ?_
  rintro vs hx' hcnt ⟨k, x, y, hk, rfl, hx, hy, rfl⟩
  obtain ⟨t1, t2⟩ := turnN_abs (k := 1048576) k (a, b) ⟨ha, hb⟩
  have hcmp : ∀ bb, decide (k < q) = bb → decide ((k : Int) < ifn .and .i64 (q : Int) 3) = bb := fun bb e => by rw [hq3, ← e]; exact decide_eq_decide.2 (by omega)
  by_cases hlt : k < q
  · refine br_t (hcmp true (by simpa using hlt)) ?_
    obtain ⟨_, l0, l1⟩ := isI_lit
    obtain ⟨x1, x2, x3⟩ := isI_mul hx l0 (by simp)
    obtain ⟨y1, y2, y3⟩ := isI_mul hy l1 (by simp; omega)
    obtain ⟨r, r1, r2⟩ := isI_sub x3 y3 (by simp; omega)
    obtain ⟨u1, u2, u3⟩ := isI_mul hx l1 (by simp; omega)
    obtain ⟨v1, v2, v3⟩ := isI_mul hy l0 (by simp)
    obtain ⟨s, s1, s2⟩ := isI_add u3 v3 (by simp; omega)
    refine node_bin (x := .complex .f64 x y) (y := .complex .f64 0 4607182418800017408) (V := .complex .f64 r s) ⟨[], [], [.complex .f64 r s], [], []⟩ (fun _ => rfl) (fun _ => rfl) (fun _ => rfl) (fun w => ?_) (fun _ => rfl) rfl rfl rfl oneC ?_
    · exact run_complex_mul w _ _ _ _ _ _ _ (by unfold cMulBits; rw [x2, y2]; show (floatBits .sub .f64 x1 y1).bind _ = _; rw [r1, u2, v2]; show (floatBits .add .f64 u1 v1).bind _ = _; rw [s1]; rfl)
    have hwk : IntKind.i64.wrap ((k : Int) + 1) = ((k + 1 : Nat) : Int) := by rw [wrap_i64 (by omega)]; omega
    intro ids w2 hp hf
    refine ⟨HX.nil, HXok.none _ _, _, rfl, ⟨k + 1, r, s, by omega, by rw [← hwk]; rfl, ?_, ?_, rfl⟩, ?_⟩
    · rw [turnN_succ]; simpa using r2
    · rw [turnN_succ]; simpa using s2
    · show q - (IntKind.i64.wrap ((k : Int) + 1)).toNat < q - ((k : Int)).toNat
      rw [hwk]; omega
  · refine br_f (hcmp false (by simpa using hlt)) ?_
    obtain rfl : k = q := by omega
    rw [h1]
    refine node_val ⟨[], [fitB (turnN k (a, b)).1 (turnN k (a, b)).2], [numV (turnN k (a, b)).1 (turnN k (a, b)).2], [], []⟩ (V := rightV true (turnN k (a, b)).1 (turnN k (a, b)).2) (fun w => right_any hx hy (by omega) (by omega) true w) (fun _ => rfl) (fun _ => (right_true _ _).symm) rfl rfl rfl (one1 (numV_one _ _)) (pure_done fun _ => rfl)
end Go.Proofs.Ytbedoemdjlollaa

namespace Go.Syn
def validL : List Int → Bool
  | a :: b :: r => fitB a b && validL r
  | _ => true
def regOf (xs : List Int) (i : Nat) : Int × Int := (xs.getD (2 * i) 0, xs.getD (2 * i + 1) 0)
def put2 (xs : List Int) (i : Nat) (p : Int × Int) : List Int := (xs.set (2 * i) p.1).set (2 * i + 1) p.2
end Go.Syn
namespace Go.Proofs.Ytbedoemdjlollaa
open Go.ChangeShapes Go.WideShapes Go.ChangeAt Go.RowKit Go.Syn Go.Eng
set_option linter.unusedVariables false
set_option maxRecDepth 100000
set_option linter.unusedSimpArgs false
theorem put2_len (xs : List Int) (i : Nat) (p : Int × Int) : (put2 xs i p).length = xs.length := by simp [put2]
theorem put2_at (xs : List Int) (i : Nat) (p : Int × Int) (j : Nat) : (put2 xs i p)[j]? = if 2 * i + 1 = j then (if j < xs.length then some p.2 else none) else if 2 * i = j then (if j < xs.length then some p.1 else none) else xs[j]? := by
  unfold put2
  simp only [List.getElem?_set, List.length_set]
  split
  · rename_i e; subst e; rfl
  · split
    · rename_i e; subst e; rfl
    · rfl
theorem regOf_put2 {xs : List Int} {i : Nat} (h : 2 * i + 1 < xs.length) (p : Int × Int) : regOf (put2 xs i p) i = p := by
  have e1 : (put2 xs i p)[2 * i]? = some p.1 := by rw [put2_at, if_neg (by omega), if_pos rfl, if_pos (by omega)]
  have e2 : (put2 xs i p)[2 * i + 1]? = some p.2 := by rw [put2_at, if_pos rfl, if_pos h]
  unfold regOf
  simp only [List.getD_eq_getElem?_getD]
  rw [e1, e2]
  rfl
theorem regOf_put2_ne {xs : List Int} {i j : Nat} (h : i ≠ j) (p : Int × Int) : regOf (put2 xs i p) j = regOf xs j := by
  unfold regOf
  simp only [List.getD_eq_getElem?_getD, put2_at]
  rw [if_neg (by omega), if_neg (by omega), if_neg (by omega), if_neg (by omega)]
theorem put2_put2 (xs : List Int) (i : Nat) (p q : Int × Int) : put2 (put2 xs i p) i q = put2 xs i q := by
  refine List.ext_getElem? fun j => ?_
  simp only [put2_at, put2_len]
  split
  · rfl
  · split <;> rfl
theorem put2_comm (xs : List Int) {i j : Nat} (h : i ≠ j) (p q : Int × Int) : put2 (put2 xs i p) j q = put2 (put2 xs j q) i p := by
  refine List.ext_getElem? fun k => ?_
  simp only [put2_at, put2_len]
  repeat' split
  all_goals first | rfl | (exfalso; omega)
theorem spl_put {xs : List Int} {i : Nat} (h : 2 * i + 1 < xs.length) (p : Int × Int) : spl (xs.map (Value.int .i64)) (0 + i * 2) [.int .i64 p.1, .int .i64 p.2] = (put2 xs i p).map (Value.int .i64) := by
  refine List.ext_getElem? fun k => ?_
  unfold spl
  rw [List.getElem?_map, put2_at]
  rw [List.append_assoc, List.getElem?_append]
  simp only [List.length_take, List.length_map]
  have e : min (0 + i * 2) xs.length = 2 * i := by omega
  rw [e]
  by_cases h1 : k < 2 * i
  · rw [if_pos h1, if_neg (by omega), if_neg (by omega), List.getElem?_take_of_lt (by omega), List.getElem?_map]
  · rw [if_neg h1, List.getElem?_append]
    by_cases h2 : k - 2 * i < 2
    · rw [if_pos (by simpa using h2)]
      rcases (by omega : k = 2 * i ∨ k = 2 * i + 1) with rfl | rfl
      · rw [if_neg (by omega), if_pos rfl, if_pos (by omega), Nat.sub_self]; rfl
      · rw [if_pos rfl, if_pos h, show 2 * i + 1 - 2 * i = 1 by omega]; rfl
    · rw [if_neg (by simpa using h2), if_neg (by omega), if_neg (by omega), List.getElem?_drop, List.getElem?_map]
      congr 2
      simp only [List.length_cons, List.length_nil]
      omega
theorem list16 : ∀ (xs : List Int), xs.length = 16 → ∃ a0 a1 a2 a3 a4 a5 a6 a7 a8 a9 a10 a11 a12 a13 a14 a15, xs = [a0, a1, a2, a3, a4, a5, a6, a7, a8, a9, a10, a11, a12, a13, a14, a15]
  | [a0, a1, a2, a3, a4, a5, a6, a7, a8, a9, a10, a11, a12, a13, a14, a15], _ => ⟨a0, a1, a2, a3, a4, a5, a6, a7, a8, a9, a10, a11, a12, a13, a14, a15, rfl⟩
theorem valid_reg {xs : List Int} (h : validL xs = true) : ∀ (i : Nat), 2 * i + 1 < xs.length → fitB (regOf xs i).1 (regOf xs i).2 = true := by
  intro i hi
  induction i generalizing xs with
  | zero =>
    match xs, hi, h with
    | a :: b :: r, _, h =>
      simp only [validL, Bool.and_eq_true] at h
      exact h.1
  | succ i ih =>
    match xs, hi, h with
    | a :: b :: r, hi, h =>
      simp only [validL, Bool.and_eq_true] at h
      have := ih h.2 (by simp only [List.length_cons] at hi; omega)
      simpa [regOf, Nat.mul_add] using this
theorem valid_of {xs : List Int} : (∀ (i : Nat), 2 * i + 1 < xs.length → fitB (regOf xs i).1 (regOf xs i).2 = true) → validL xs = true := by
  intro h
  match xs with
  | [] => rfl
  | [_] => rfl
  | a :: b :: r =>
    simp only [validL, Bool.and_eq_true]
    refine ⟨h 0 (by simp), valid_of fun i hi => ?_⟩
    have := h (i + 1) (by simp only [List.length_cons]; omega)
    simpa [regOf, Nat.mul_add] using this
theorem valid_put {xs : List Int} (h : validL xs = true) (i : Nat) {p : Int × Int} (hp : fitB p.1 p.2 = true) : validL (put2 xs i p) = true := by
  refine valid_of fun j hj => ?_
  rw [put2_len] at hj
  by_cases e : i = j
  · subst e; rw [regOf_put2 hj]; exact hp
  · rw [regOf_put2_ne e]; exact valid_reg h j hj
def newReg (xs : List Int) (o : OpD) : Int × Int :=
  let p := regOf xs o.reg.toNat
  if o.kind = 2 then (o.re, o.im) else if o.kind = 3 then (p.1 + o.re, p.2 + o.im) else if o.kind = 4 then (p.1 * o.re - p.2 * o.im, p.1 * o.im + p.2 * o.re)
  else if o.kind = 5 then turnN o.tg.toNat p else if o.kind = 6 then regOf xs o.tg.toNat else if o.kind = 7 then regOf xs o.tg.toNat else p
def applyM (xs : List Int) (o : OpD) : List Int × Int × Int × Int :=
  if validL xs && opB o then
    if o.kind = 7 ∧ ¬ regOf xs o.reg.toNat = (o.re, o.im) then (xs, 3, (regOf xs o.reg.toNat).1, (regOf xs o.reg.toNat).2)
    else if fitB (newReg xs o).1 (newReg xs o).2 then (put2 (if o.kind = 6 then put2 xs o.tg.toNat (regOf xs o.reg.toNat) else xs) o.reg.toNat (newReg xs o), 1, (newReg xs o).1, (newReg xs o).2)
    else (xs, 2, 0, 0)
  else (xs, 0, 0, 0)
theorem applyM_len (xs : List Int) (o : OpD) : (applyM xs o).1.length = xs.length := by
  unfold applyM
  repeat' split
  all_goals simp [put2_len]
def resV (r : List Int × Int × Int × Int) : Value := .tuple #[.agg (r.1.map (Value.int .i64)).toArray, .agg #[.int .i64 r.2.1, .int .i64 r.2.2.1, .int .i64 r.2.2.2]]
section
variable {C : Cfg} {ρ : Env} {pre : List Nat} {hx : HX} {L : Stack} {m m' : Mem} {ty : Nat} {ps : List (Nat × SV)} {t : Tree}
theorem reg_get {xs : List Int} {i : Nat} (h : 2 * i + 1 < xs.length) : (xs.map (Value.int .i64))[0 + i * 2]? = some (.int .i64 (regOf xs i).1) ∧ (xs.map (Value.int .i64))[0 + i * 2 + 1]? = some (.int .i64 (regOf xs i).2) := by
  simp only [List.getElem?_map, regOf, List.getD_eq_getElem?_getD]
  rw [show 0 + i * 2 = 2 * i by omega, List.getElem?_eq_getElem (show 2 * i < xs.length by omega), List.getElem?_eq_getElem h]
  exact ⟨rfl, rfl⟩
theorem node_reg2 {n bty : Nat} {e : IE} {cs bcs : List LV} (xs : List Int) (i : Nat) (vs : Vals) (hl : 2 * i + 1 < xs.length) (hn : m.hp[n]? = some (bty, bcs)) (hi : e.den ρ = (i : Int)) (hb : ∀ ids, cellsDen ρ ids bcs = xs.map (Value.int .i64)) (hcs : ∀ ids, cellsDen (ρ.add vs) ids cs = [.int .i64 (regOf xs i).1, .int .i64 (regOf xs i).2])
    (hc : (ρ.add vs).cnt = m'.c) (h1 : ∀ v, v ∈ vs.v → v.oneCell' = true) (h : t.holds C (ρ.add vs) pre hx L) : (Tree.ld true (.pix n 0 2 e) cs m m' t).holds C ρ pre hx L := by
  refine node_ldp vs i hn hi hb (fun ids j u hj => ?_) hc h1 h
  rw [hcs] at hj
  obtain ⟨g1, g2⟩ := reg_get hl
  rcases j with _ | _ | j
  · exact g1.trans hj
  · exact g2.trans hj
  · simp at hj
theorem node_rega {n bty : Nat} {e : IE} {cs bcs : List LV} (xs : List Int) (i : Nat) (vs : Vals) (hl : 2 * i + 1 < xs.length) (hn : m.hp[n]? = some (bty, bcs)) (hi : e.den ρ = (i : Int)) (hb : ∀ ids, cellsDen ρ ids bcs = xs.map (Value.int .i64)) (hcs : ∀ ids, cellsDen (ρ.add vs) ids cs = [.int .i64 (regOf xs i).1])
    (hc : (ρ.add vs).cnt = m'.c) (h1 : ∀ v, v ∈ vs.v → v.oneCell' = true) (h : t.holds C (ρ.add vs) pre hx L) : (Tree.ld true (.pix n 0 2 e) cs m m' t).holds C ρ pre hx L := by
  refine node_ldp vs i hn hi hb (fun ids j u hj => ?_) hc h1 h
  rw [hcs] at hj
  rcases j with _ | j
  · exact (reg_get hl).1.trans hj
  · simp at hj
theorem node_regb {n bty : Nat} {e : IE} {cs bcs : List LV} (xs : List Int) (i : Nat) (vs : Vals) (hl : 2 * i + 1 < xs.length) (hn : m.hp[n]? = some (bty, bcs)) (hi : e.den ρ = (i : Int)) (hb : ∀ ids, cellsDen ρ ids bcs = xs.map (Value.int .i64)) (hcs : ∀ ids, cellsDen (ρ.add vs) ids cs = [.int .i64 (regOf xs i).2])
    (hc : (ρ.add vs).cnt = m'.c) (h1 : ∀ v, v ∈ vs.v → v.oneCell' = true) (h : t.holds C (ρ.add vs) pre hx L) : (Tree.ld true (.pix n 1 2 e) cs m m' t).holds C ρ pre hx L := by
  refine node_ldp vs i hn hi hb (fun ids j u hj => ?_) hc h1 h
  rw [hcs] at hj
  rcases j with _ | j
  · rw [show 1 + i * 2 + 0 = 0 + i * 2 + 1 by omega]; exact (reg_get hl).2.trans hj
  · simp at hj
theorem node_put {n et bty : Nat} {xa xv : Operand} {bcs cs' : List LV} (xs ys : List Int) (i : Nat) (p : Int × Int) (vs : Vals) (hy : put2 xs i p = ys) (hl : 2 * i + 1 < xs.length) (hn : m.hp[n]? = some (bty, bcs)) (hb : ∀ ids, cellsDen ρ ids bcs = xs.map (Value.int .i64)) (hsize : (C.P.info? et).map (·.size) = some 2) (hxa : ∀ ids, envOf ρ ids ps xa = .pointer (some ⟨idAt ids n, 0 + i * 2, none⟩)) (hxv : ∀ ids, envOf ρ ids ps xv = .agg #[.int .i64 p.1, .int .i64 p.2])
    (hhp : m'.hp = m.hp.set n (bty, cs')) (hcs' : ∀ ids, cellsDen (ρ.add vs) ids cs' = ys.map (Value.int .i64)) (hfit : hpFits m.c m.hp.length m.hp = true) (hc : (ρ.add vs).cnt = m'.c) (hone : ∀ v, v ∈ vs.v → v.oneCell' = true)
    (h : t.holds C (ρ.add vs) pre hx L) : (Tree.gen (.store et xa xv) ty ps m none m' t).holds C ρ pre hx L :=
  node_stp (us' := [.int .i64 p.1, .int .i64 p.2]) vs hn hb hsize hxa hxv rfl (fun u hu => by simp only [List.mem_cons, List.not_mem_nil, or_false] at hu; rcases hu with rfl | rfl <;> rfl) (Nat.succ_pos _) (by simp only [List.length_map, List.length_cons, List.length_nil]; omega) hhp (fun ids => by rw [hcs', ← hy, spl_put hl]) hfit hc hone h
end
abbrev tValidb0 : List LV := [(tVi 0), (tVi 1), (tVi 2), (tVi 3), (tVi 4), (tVi 5), (tVi 6), (tVi 7), (tVi 8), (tVi 9), (tVi 10), (tVi 11), (tVi 12), (tVi 13), (tVi 14), (tVi 15)]
abbrev tValidm0 : Mem := ⟨[(93, tValidb0), (50, [(tVi 0), (tVi 1)]), (50, [(tVi 2), (tVi 3)]), (50, [(tVi 4), (tVi 5)]), (50, [(tVi 6), (tVi 7)]), (50, [(tVi 8), (tVi 9)]), (50, [(tVi 10), (tVi 11)]), (50, [(tVi 12), (tVi 13)]), (50, [(tVi 14), (tVi 15)])], ⟨16, 8, 8, 0, 0⟩⟩
abbrev tValidm1 : Mem := ⟨[(93, tValidb0), (50, [(tVi 0), (tVi 1)]), (50, [(tVi 2), (tVi 3)]), (50, [(tVi 4), (tVi 5)]), (50, [(tVi 6), (tVi 7)]), (50, [(tVi 8), (tVi 9)]), (50, [(tVi 10), (tVi 11)]), (50, [(tVi 12), (tVi 13)])], ⟨16, 7, 7, 0, 0⟩⟩
abbrev tValidm2 : Mem := ⟨[(93, tValidb0), (50, [(tVi 0), (tVi 1)]), (50, [(tVi 2), (tVi 3)]), (50, [(tVi 4), (tVi 5)]), (50, [(tVi 6), (tVi 7)]), (50, [(tVi 8), (tVi 9)]), (50, [(tVi 10), (tVi 11)])], ⟨16, 6, 6, 0, 0⟩⟩
abbrev tValidm3 : Mem := ⟨[(93, tValidb0), (50, [(tVi 0), (tVi 1)]), (50, [(tVi 2), (tVi 3)]), (50, [(tVi 4), (tVi 5)]), (50, [(tVi 6), (tVi 7)]), (50, [(tVi 8), (tVi 9)])], ⟨16, 5, 5, 0, 0⟩⟩
abbrev tValidm4 : Mem := ⟨[(93, tValidb0), (50, [(tVi 0), (tVi 1)]), (50, [(tVi 2), (tVi 3)]), (50, [(tVi 4), (tVi 5)]), (50, [(tVi 6), (tVi 7)])], ⟨16, 4, 4, 0, 0⟩⟩
abbrev tValidm5 : Mem := ⟨[(93, tValidb0), (50, [(tVi 0), (tVi 1)]), (50, [(tVi 2), (tVi 3)]), (50, [(tVi 4), (tVi 5)])], ⟨16, 3, 3, 0, 0⟩⟩
abbrev tValidm6 : Mem := ⟨[(93, tValidb0), (50, [(tVi 0), (tVi 1)]), (50, [(tVi 2), (tVi 3)])], ⟨16, 2, 2, 0, 0⟩⟩
abbrev tValidm7 : Mem := ⟨[(93, tValidb0), (50, [(tVi 0), (tVi 1)])], ⟨16, 1, 1, 0, 0⟩⟩
set_option maxRecDepth 100000 in
theorem tValid : (runF ⟨tt, fns, { unroll := [2] }⟩ (Try.f45.body.getD .skip) Try.f45.results.toList (entry Try.f45.ntmps [.agg [.int .i64 (.var 0), .int .i64 (.var 1), .int .i64 (.var 2), .int .i64 (.var 3), .int .i64 (.var 4), .int .i64 (.var 5), .int .i64 (.var 6), .int .i64 (.var 7), .int .i64 (.var 8), .int .i64 (.var 9), .int .i64 (.var 10), .int .i64 (.var 11), .int .i64 (.var 12), .int .i64 (.var 13), .int .i64 (.var 14), .int .i64 (.var 15)]] [] ⟨16, 0, 0, 0, 0⟩)) =
  (.call 63 [(.lf (tVi 0)), (.lf (tVi 1))] ⟨[(93, tValidb0), (50, [(tVi 0), (tVi 1)])], ⟨16, 0, 0, 0, 0⟩⟩ (.tup [(.false, [(.val 0)]), (.false, [(.bool (.var 0))])]) tValidm7 (.br (.not (.var 0)) (.done (.lf (.bool (.lit .false))) tValidm7) (.call 63 [(.lf (tVi 2)), (.lf (tVi 3))] ⟨[(93, tValidb0), (50, [(tVi 0), (tVi 1)]), (50, [(tVi 2), (tVi 3)])], ⟨16, 1, 1, 0, 0⟩⟩ (.tup [(.false, [(.val 1)]), (.false, [(.bool (.var 1))])]) tValidm6 (.br (.not (.var 1)) (.done (.lf (.bool (.lit .false))) tValidm6) (.call 63 [(.lf (tVi 4)), (.lf (tVi 5))] ⟨[(93, tValidb0), (50, [(tVi 0), (tVi 1)]), (50, [(tVi 2), (tVi 3)]), (50, [(tVi 4), (tVi 5)])], ⟨16, 2, 2, 0, 0⟩⟩ (.tup [(.false, [(.val 2)]), (.false, [(.bool (.var 2))])]) tValidm5 (.br (.not (.var 2)) (.done (.lf (.bool (.lit .false))) tValidm5) (.call 63 [(.lf (tVi 6)), (.lf (tVi 7))] ⟨[(93, tValidb0), (50, [(tVi 0), (tVi 1)]), (50, [(tVi 2), (tVi 3)]), (50, [(tVi 4), (tVi 5)]), (50, [(tVi 6), (tVi 7)])], ⟨16, 3, 3, 0, 0⟩⟩ (.tup [(.false, [(.val 3)]), (.false, [(.bool (.var 3))])]) tValidm4 (.br (.not (.var 3)) (.done (.lf (.bool (.lit .false))) tValidm4) (.call 63 [(.lf (tVi 8)), (.lf (tVi 9))] ⟨[(93, tValidb0), (50, [(tVi 0), (tVi 1)]), (50, [(tVi 2), (tVi 3)]), (50, [(tVi 4), (tVi 5)]), (50, [(tVi 6), (tVi 7)]), (50, [(tVi 8), (tVi 9)])], ⟨16, 4, 4, 0, 0⟩⟩ (.tup [(.false, [(.val 4)]), (.false, [(.bool (.var 4))])]) tValidm3 (.br (.not (.var 4)) (.done (.lf (.bool (.lit .false))) tValidm3) (.call 63 [(.lf (tVi 10)), (.lf (tVi 11))] ⟨[(93, tValidb0), (50, [(tVi 0), (tVi 1)]), (50, [(tVi 2), (tVi 3)]), (50, [(tVi 4), (tVi 5)]), (50, [(tVi 6), (tVi 7)]), (50, [(tVi 8), (tVi 9)]), (50, [(tVi 10), (tVi 11)])], ⟨16, 5, 5, 0, 0⟩⟩ (.tup [(.false, [(.val 5)]), (.false, [(.bool (.var 5))])]) tValidm2 (.br (.not (.var 5)) (.done (.lf (.bool (.lit .false))) tValidm2) (.call 63 [(.lf (tVi 12)), (.lf (tVi 13))] ⟨[(93, tValidb0), (50, [(tVi 0), (tVi 1)]), (50, [(tVi 2), (tVi 3)]), (50, [(tVi 4), (tVi 5)]), (50, [(tVi 6), (tVi 7)]), (50, [(tVi 8), (tVi 9)]), (50, [(tVi 10), (tVi 11)]), (50, [(tVi 12), (tVi 13)])], ⟨16, 6, 6, 0, 0⟩⟩ (.tup [(.false, [(.val 6)]), (.false, [(.bool (.var 6))])]) tValidm1 (.br (.not (.var 6)) (.done (.lf (.bool (.lit .false))) tValidm1) (.call 63 [(.lf (tVi 14)), (.lf (tVi 15))] ⟨[(93, tValidb0), (50, [(tVi 0), (tVi 1)]), (50, [(tVi 2), (tVi 3)]), (50, [(tVi 4), (tVi 5)]), (50, [(tVi 6), (tVi 7)]), (50, [(tVi 8), (tVi 9)]), (50, [(tVi 10), (tVi 11)]), (50, [(tVi 12), (tVi 13)]), (50, [(tVi 14), (tVi 15)])], ⟨16, 7, 7, 0, 0⟩⟩ (.tup [(.false, [(.val 7)]), (.false, [(.bool (.var 7))])]) tValidm0 (.br (.not (.var 7)) (.done (.lf (.bool (.lit .false))) tValidm0) (.done (.lf (.bool (.lit .true))) tValidm0))))))))))))))))) := by kernel_rfl
abbrev tApplyb0 : List LV := [(tVi 26), (tVi 27), (tVi 28), (tVi 29), (tVi 30), (tVi 31), (tVi 32), (tVi 33), (tVi 34), (tVi 35), (tVi 36), (tVi 37), (tVi 38), (tVi 39), (tVi 40), (tVi 41)]
abbrev tApplyb1 : List LV := [(tVi 28), (tVi 29), (tVi 30), (tVi 31), (tVi 32), (tVi 33), (tVi 34), (tVi 35), (tVi 36), (tVi 37), (tVi 38), (tVi 39), (tVi 40), (tVi 41), (tVi 42), (tVi 43)]
abbrev tApplyb2 : List LV := [(tVi 44), (tVi 45), (tVi 46), (tVi 47), (tVi 48), (tVi 49), (tVi 50), (tVi 51), (tVi 52), (tVi 53), (tVi 54), (tVi 55), (tVi 56), (tVi 57), (tVi 58), (tVi 59)]
abbrev tApplyb3 : List LV := [(tVi 64), (tVi 65), (tVi 66), (tVi 67), (tVi 68), (tVi 69), (tVi 70), (tVi 71), (tVi 72), (tVi 73), (tVi 74), (tVi 75), (tVi 76), (tVi 77), (tVi 78), (tVi 79)]
abbrev tApplyb4 : List LV := [(tVi 0), (tVi 1), (tVi 2), (tVi 3), (tVi 4), (tVi 5), (tVi 6), (tVi 7), (tVi 8), (tVi 9), (tVi 10), (tVi 11), (tVi 12), (tVi 13), (tVi 14), (tVi 15)]
abbrev tApplyb5 : List LV := [(tLi 0), (tLi 0), (tLi 0), (tLi 0), (tLi 0), (tLi 0), (tLi 0), (tLi 0), (tLi 0), (tLi 0), (tLi 0), (tLi 0), (tLi 0), (tLi 0), (tLi 0), (tLi 0)]
abbrev tApplyb6 : List LV := [(tVi 16), (tVi 17), (tVi 18), (tVi 19), (tVi 20)]
abbrev tApplym0 : Mem := ⟨[(93, tApplyb0), (41, tApplyb6), (93, tApplyb0), (62, [(tLi 1), (tVi 24), (tVi 25)])], ⟨42, 2, 2, 0, 0⟩⟩
abbrev tApplym1 : Mem := ⟨[(93, tApplyb0), (41, tApplyb6), (93, tApplyb0), (62, [(tLi 1), (tVi 24), (tVi 25)])], ⟨42, 3, 3, 0, 0⟩⟩
abbrev tApplym2 : Mem := ⟨[(93, tApplyb3), (41, tApplyb6), (93, tApplyb3), (62, [(tLi 1), (tVi 62), (tVi 63)])], ⟨80, 2, 3, 0, 0⟩⟩
abbrev tApplym3 : Mem := ⟨[(93, tApplyb4), (41, tApplyb6), (93, tApplyb4), (62, [(tLi 3), (tVi 24), (tVi 25)])], ⟨26, 2, 2, 0, 0⟩⟩
abbrev tApplym4 : Mem := ⟨[(93, tApplyb4), (41, tApplyb6), (93, tApplyb4), (62, [(tLi 3), (tVi 25), (tVi 24)])], ⟨26, 2, 2, 0, 0⟩⟩
abbrev tApplym5 : Mem := ⟨[(93, tApplyb4), (41, tApplyb6), (93, tApplyb5), (62, [(tLi 0), (tLi 0), (tLi 0)])], ⟨21, 1, 0, 0, 0⟩⟩
abbrev tApplym6 : Mem := ⟨[(93, tApplyb4), (41, tApplyb6), (93, tApplyb5), (62, [(tLi 0), (tLi 0), (tLi 0)])], ⟨22, 1, 0, 0, 0⟩⟩
abbrev tApplym7 : Mem := ⟨[(93, tApplyb4), (41, tApplyb6), (93, tApplyb5), (62, [(tLi 0), (tLi 0), (tLi 0)])], ⟨24, 1, 0, 0, 0⟩⟩
abbrev tApplym8 : Mem := ⟨[(93, tApplyb4), (41, tApplyb6), (93, tApplyb5), (62, [(tLi 0), (tLi 0), (tLi 0)])], ⟨24, 1, 1, 0, 0⟩⟩
abbrev tApplym9 : Mem := ⟨[(93, tApplyb4), (41, tApplyb6), (93, tApplyb5), (62, [(tLi 0), (tLi 0), (tLi 0)])], ⟨24, 1, 2, 0, 0⟩⟩
abbrev tApplym10 : Mem := ⟨[(93, tApplyb4), (41, tApplyb6), (93, tApplyb5), (62, [(tLi 0), (tLi 0), (tLi 0)])], ⟨26, 2, 2, 0, 0⟩⟩
abbrev tApplym11 : Mem := ⟨[(93, tApplyb0), (41, tApplyb6), (93, tApplyb5), (62, [(tLi 0), (tLi 0), (tLi 0)])], ⟨42, 2, 2, 0, 0⟩⟩
abbrev tApplym12 : Mem := ⟨[(93, tApplyb4), (41, tApplyb6), (93, tApplyb5), (62, [(tLi 0), (tLi 0), (tLi 0)])], ⟨24, 2, 3, 0, 0⟩⟩
abbrev tApplym13 : Mem := ⟨[(93, tApplyb4), (41, tApplyb6), (93, tApplyb4), (62, [(tLi 2), (tLi 0), (tLi 0)])], ⟨24, 2, 3, 0, 0⟩⟩
abbrev tApplym14 : Mem := ⟨[(93, tApplyb4), (41, tApplyb6), (93, tApplyb5), (62, [(tLi 0), (tLi 0), (tLi 0)])], ⟨26, 3, 3, 0, 0⟩⟩
abbrev tApplym15 : Mem := ⟨[(93, tApplyb0), (41, tApplyb6), (93, tApplyb5), (62, [(tLi 0), (tLi 0), (tLi 0)])], ⟨42, 3, 3, 0, 0⟩⟩
abbrev tApplym16 : Mem := ⟨[(93, tApplyb4), (41, tApplyb6), (93, tApplyb5), (62, [(tLi 0), (tLi 0), (tLi 0)])], ⟨26, 1, 2, 0, 0⟩⟩
abbrev tApplym17 : Mem := ⟨[(93, tApplyb4), (41, tApplyb6), (93, tApplyb5), (62, [(tLi 0), (tLi 0), (tLi 0)])], ⟨28, 1, 2, 0, 0⟩⟩
abbrev tApplym18 : Mem := ⟨[(93, tApplyb1), (41, tApplyb6), (93, tApplyb5), (62, [(tLi 0), (tLi 0), (tLi 0)])], ⟨44, 1, 2, 0, 0⟩⟩
abbrev tApplym19 : Mem := ⟨[(93, tApplyb2), (41, tApplyb6), (93, tApplyb5), (62, [(tLi 0), (tLi 0), (tLi 0)])], ⟨60, 1, 2, 0, 0⟩⟩
abbrev tApplym20 : Mem := ⟨[(93, tApplyb2), (41, tApplyb6), (93, tApplyb5), (62, [(tLi 0), (tLi 0), (tLi 0)])], ⟨62, 1, 2, 0, 0⟩⟩
abbrev tApplym21 : Mem := ⟨[(93, tApplyb2), (41, tApplyb6), (93, tApplyb5), (62, [(tLi 0), (tLi 0), (tLi 0)])], ⟨62, 1, 3, 0, 0⟩⟩
abbrev tApplym22 : Mem := ⟨[(93, tApplyb2), (41, tApplyb6), (93, tApplyb5), (62, [(tLi 0), (tLi 0), (tLi 0)])], ⟨64, 2, 3, 0, 0⟩⟩
abbrev tApplym23 : Mem := ⟨[(93, tApplyb3), (41, tApplyb6), (93, tApplyb5), (62, [(tLi 0), (tLi 0), (tLi 0)])], ⟨80, 2, 3, 0, 0⟩⟩
abbrev tApplym24 : Mem := ⟨[(93, tApplyb4), (41, tApplyb6), (93, tApplyb5), (62, [(tLi 0), (tLi 0), (tLi 0)])], ⟨24, 2, 2, 0, 0⟩⟩
abbrev tApplym25 : Mem := ⟨[(93, tApplyb4), (41, tApplyb6), (93, tApplyb5), (62, [(tLi 0), (tLi 0), (tLi 0)])], ⟨25, 2, 2, 0, 0⟩⟩
abbrev tApplym26 : Mem := ⟨[(93, tApplyb4), (41, tApplyb6), (93, tApplyb4), (62, [(tLi 0), (tLi 0), (tLi 0)])], ⟨25, 2, 2, 0, 0⟩⟩
abbrev tApplym27 : Mem := ⟨[(93, tApplyb4), (41, tApplyb6), (93, tApplyb4), (62, [(tLi 0), (tLi 0), (tLi 0)])], ⟨26, 2, 2, 0, 0⟩⟩
abbrev tApplym28 : Mem := ⟨[(93, tApplyb4), (41, tApplyb6), (93, tApplyb4), (62, [(tLi 0), (tLi 0), (tLi 0)])], ⟨24, 2, 2, 0, 0⟩⟩
abbrev tApplym29 : Mem := ⟨[(93, tApplyb4), (41, tApplyb6), (93, tApplyb5), (62, [(tLi 0), (tLi 0), (tLi 0)])], ⟨26, 2, 3, 0, 0⟩⟩
abbrev tApplym30 : Mem := ⟨[(93, tApplyb4), (41, tApplyb6), (93, tApplyb5), (62, [(tLi 0), (tLi 0), (tLi 0)])], ⟨28, 3, 3, 0, 0⟩⟩
abbrev tApplyt0 : Tree := (.need (.inr (.var 17) (.lit 8)) (.ld .true (.pix 0 0 2 (.var 17)) [(tVi 60), (tVi 61)] tApplym19 tApplym20 (.call 47 [(.agg [(tVi 60), (tVi 61)])] tApplym20 (.lf (.val 2)) tApplym21 (.call 51 [(.lf (.val 2))] tApplym21 (.tup [(.false, [(tVi 62)]), (.false, [(tVi 63)]), (.false, [(.bool (.var 1))])]) tApplym22 (.need (.inr (.var 17) (.lit 8)) (.gen (.store 50 (.tmp 123) (.tmp 122)) 0 [(123, (.lf (.pix 0 0 2 (.var 17)))), (122, (.agg [(tVi 62), (tVi 63)]))] tApplym22 .none tApplym23 (.done (.tup [(.true, tApplyb3), (.true, [(tLi 1), (tVi 62), (tVi 63)])]) tApplym2)))))))
set_option maxRecDepth 100000 in
theorem tApply : (runF ⟨tt, fns, {}⟩ (Try.f31.body.getD .skip) Try.f31.results.toList (entry Try.f31.ntmps [.agg [.int .i64 (.var 0), .int .i64 (.var 1), .int .i64 (.var 2), .int .i64 (.var 3), .int .i64 (.var 4), .int .i64 (.var 5), .int .i64 (.var 6), .int .i64 (.var 7), .int .i64 (.var 8), .int .i64 (.var 9), .int .i64 (.var 10), .int .i64 (.var 11), .int .i64 (.var 12), .int .i64 (.var 13), .int .i64 (.var 14), .int .i64 (.var 15)], .agg [.int .i64 (.var 16), .int .i64 (.var 17), .int .i64 (.var 18), .int .i64 (.var 19), .int .i64 (.var 20)]] [] ⟨21, 0, 0, 0, 0⟩)) =
  (.call 45 [(.agg tApplyb4)] ⟨[(93, tApplyb4), (41, tApplyb6), (93, tApplyb5), (62, [(tLi 0), (tLi 0), (tLi 0)])], ⟨21, 0, 0, 0, 0⟩⟩ (.lf (.bool (.var 0))) tApplym5 (.br (.not (.var 0)) (.done (.tup [(.true, tApplyb4), (.true, [(tLi 0), (tLi 0), (tLi 0)])]) ⟨[(93, tApplyb4), (41, tApplyb6), (93, tApplyb4), (62, [(tLi 0), (tLi 0), (tLi 0)])], ⟨21, 1, 0, 0, 0⟩⟩) (.call 46 [(.agg tApplyb6)] tApplym5 (.lf (tVi 21)) tApplym6 (.br (.cmp .neq (.var 21) (.lit 0)) (.done (.tup [(.true, tApplyb4), (.true, [(tLi 0), (tLi 0), (tLi 0)])]) ⟨[(93, tApplyb4), (41, tApplyb6), (93, tApplyb4), (62, [(tLi 0), (tLi 0), (tLi 0)])], ⟨22, 1, 0, 0, 0⟩⟩) (.need (.inr (.var 17) (.lit 8)) (.ld .true (.pix 0 0 2 (.var 17)) [(tVi 22), (tVi 23)] tApplym6 tApplym7 (.call 47 [(.agg [(tVi 22), (tVi 23)])] tApplym7 (.lf (.val 0)) tApplym8 (.call 47 [(.agg [(tVi 19), (tVi 20)])] tApplym8 (.lf (.val 1)) tApplym9 (.br (.cmp .eql (.var 16) (.lit 2)) (.call 51 [(.lf (.val 1))] tApplym9 (.tup [(.false, [(tVi 24)]), (.false, [(tVi 25)]), (.false, [(.bool (.var 1))])]) tApplym10 (.need (.inr (.var 17) (.lit 8)) (.gen (.store 50 (.tmp 123) (.tmp 122)) 0 [(123, (.lf (.pix 0 0 2 (.var 17)))), (122, (.agg [(tVi 24), (tVi 25)]))] tApplym10 .none tApplym11 (.done (.tup [(.true, tApplyb0), (.true, [(tLi 1), (tVi 24), (tVi 25)])]) tApplym0)))) (.br (.cmp .eql (.var 16) (.lit 3)) (.call 48 [(.lf (.val 0)), (.lf (.val 1))] tApplym9 (.tup [(.false, [(.val 2)]), (.false, [(.bool (.var 1))])]) tApplym12 (.br (.not (.var 1)) (.done (.tup [(.true, tApplyb4), (.true, [(tLi 2), (tLi 0), (tLi 0)])]) tApplym13) (.call 51 [(.lf (.val 2))] tApplym12 (.tup [(.false, [(tVi 24)]), (.false, [(tVi 25)]), (.false, [(.bool (.var 2))])]) tApplym14 (.need (.inr (.var 17) (.lit 8)) (.gen (.store 50 (.tmp 123) (.tmp 122)) 0 [(123, (.lf (.pix 0 0 2 (.var 17)))), (122, (.agg [(tVi 24), (tVi 25)]))] tApplym14 .none tApplym15 (.done (.tup [(.true, tApplyb0), (.true, [(tLi 1), (tVi 24), (tVi 25)])]) tApplym1)))))) (.br (.cmp .eql (.var 16) (.lit 4)) (.call 49 [(.lf (.val 0)), (.lf (.val 1))] tApplym9 (.tup [(.false, [(.val 2)]), (.false, [(.bool (.var 1))])]) tApplym12 (.br (.not (.var 1)) (.done (.tup [(.true, tApplyb4), (.true, [(tLi 2), (tLi 0), (tLi 0)])]) tApplym13) (.call 51 [(.lf (.val 2))] tApplym12 (.tup [(.false, [(tVi 24)]), (.false, [(tVi 25)]), (.false, [(.bool (.var 2))])]) tApplym14 (.need (.inr (.var 17) (.lit 8)) (.gen (.store 50 (.tmp 123) (.tmp 122)) 0 [(123, (.lf (.pix 0 0 2 (.var 17)))), (122, (.agg [(tVi 24), (tVi 25)]))] tApplym14 .none tApplym15 (.done (.tup [(.true, tApplyb0), (.true, [(tLi 1), (tVi 24), (tVi 25)])]) tApplym1)))))) (.br (.cmp .eql (.var 16) (.lit 5)) (.call 50 [(.lf (.val 0)), (.lf (tVi 18))] tApplym9 (.tup [(.false, [(.val 2)]), (.false, [(.bool (.var 1))])]) tApplym12 (.br (.not (.var 1)) (.done (.tup [(.true, tApplyb4), (.true, [(tLi 2), (tLi 0), (tLi 0)])]) tApplym13) (.call 51 [(.lf (.val 2))] tApplym12 (.tup [(.false, [(tVi 24)]), (.false, [(tVi 25)]), (.false, [(.bool (.var 2))])]) tApplym14 (.need (.inr (.var 17) (.lit 8)) (.gen (.store 50 (.tmp 123) (.tmp 122)) 0 [(123, (.lf (.pix 0 0 2 (.var 17)))), (122, (.agg [(tVi 24), (tVi 25)]))] tApplym14 .none tApplym15 (.done (.tup [(.true, tApplyb0), (.true, [(tLi 1), (tVi 24), (tVi 25)])]) tApplym1)))))) (.br (.cmp .eql (.var 16) (.lit 6)) (.need (.inr (.var 18) (.lit 8)) (.need (.inr (.var 17) (.lit 8)) (.par (.ld .true (.pix 0 0 2 (.var 18)) [(tVi 24), (tVi 25)] tApplym9 tApplym16 (.ld .true (.pix 0 0 2 (.var 17)) [(tVi 26), (tVi 27)] tApplym16 tApplym17 (.need (.inr (.var 17) (.lit 8)) (.gen (.store 50 (.tmp 79) (.tmp 74)) 0 [(79, (.lf (.pix 0 0 2 (.var 17)))), (74, (.agg [(tVi 24), (tVi 25)]))] tApplym17 .none tApplym18 (.need (.inr (.var 18) (.lit 8)) (.gen (.store 50 (.tmp 80) (.tmp 78)) 0 [(80, (.lf (.pix 0 0 2 (.var 18)))), (78, (.agg [(tVi 26), (tVi 27)]))] tApplym18 .none tApplym19 tApplyt0)))))) (.ld .true (.pix 0 0 2 (.var 17)) [(tVi 24), (tVi 25)] tApplym9 tApplym16 (.ld .true (.pix 0 0 2 (.var 18)) [(tVi 26), (tVi 27)] tApplym16 tApplym17 (.need (.inr (.var 17) (.lit 8)) (.gen (.store 50 (.tmp 79) (.tmp 74)) 0 [(79, (.lf (.pix 0 0 2 (.var 17)))), (74, (.agg [(tVi 26), (tVi 27)]))] tApplym17 .none tApplym18 (.need (.inr (.var 18) (.lit 8)) (.gen (.store 50 (.tmp 80) (.tmp 78)) 0 [(80, (.lf (.pix 0 0 2 (.var 18)))), (78, (.agg [(tVi 24), (tVi 25)]))] tApplym18 .none tApplym19 tApplyt0))))))))) (.br (.cmp .eql (.var 16) (.lit 7)) (.gen (.binOp .neq 115 (.tmp 88) (.tmp 89) 115) 4 [(88, (.lf (.val 0))), (89, (.lf (.val 1)))] tApplym9 (.some (.lf (.bool (.var 1)))) tApplym24 (.br (.var 1) (.need (.inr (.var 17) (.lit 8)) (.need (.inr (.var 17) (.lit 8)) (.par (.ld .true (.pix 0 0 2 (.var 17)) [(tVi 24)] tApplym24 tApplym25 (.par (.ld .true (.pix 0 1 2 (.var 17)) [(tVi 25)] tApplym25 tApplym10 (.done (.tup [(.true, tApplyb4), (.true, [(tLi 3), (tVi 24), (tVi 25)])]) tApplym3)) (.ld .true (.pix 0 1 2 (.var 17)) [(tVi 25)] tApplym26 tApplym27 (.done (.tup [(.true, tApplyb4), (.true, [(tLi 3), (tVi 24), (tVi 25)])]) tApplym3)))) (.par (.ld .true (.pix 0 1 2 (.var 17)) [(tVi 24)] tApplym24 tApplym25 (.par (.ld .true (.pix 0 0 2 (.var 17)) [(tVi 25)] tApplym25 tApplym10 (.done (.tup [(.true, tApplyb4), (.true, [(tLi 3), (tVi 25), (tVi 24)])]) tApplym4)) (.ld .true (.pix 0 0 2 (.var 17)) [(tVi 25)] tApplym26 tApplym27 (.done (.tup [(.true, tApplyb4), (.true, [(tLi 3), (tVi 25), (tVi 24)])]) tApplym4)))) (.par (.ld .true (.pix 0 0 2 (.var 17)) [(tVi 24)] tApplym28 tApplym26 (.ld .true (.pix 0 1 2 (.var 17)) [(tVi 25)] tApplym26 tApplym27 (.done (.tup [(.true, tApplyb4), (.true, [(tLi 3), (tVi 24), (tVi 25)])]) tApplym3))) (.ld .true (.pix 0 1 2 (.var 17)) [(tVi 24)] tApplym28 tApplym26 (.ld .true (.pix 0 0 2 (.var 17)) [(tVi 25)] tApplym26 tApplym27 (.done (.tup [(.true, tApplyb4), (.true, [(tLi 3), (tVi 25), (tVi 24)])]) tApplym4)))))))) (.need (.inr (.var 18) (.lit 8)) (.ld .true (.pix 0 0 2 (.var 18)) [(tVi 24), (tVi 25)] tApplym24 tApplym10 (.call 47 [(.agg [(tVi 24), (tVi 25)])] tApplym10 (.lf (.val 2)) tApplym29 (.call 51 [(.lf (.val 2))] tApplym29 (.tup [(.false, [(tVi 26)]), (.false, [(tVi 27)]), (.false, [(.bool (.var 2))])]) tApplym30 (.need (.inr (.var 17) (.lit 8)) (.gen (.store 50 (.tmp 123) (.tmp 122)) 0 [(123, (.lf (.pix 0 0 2 (.var 17)))), (122, (.agg [(tVi 26), (tVi 27)]))] tApplym30 .none ⟨[(93, tApplyb1), (41, tApplyb6), (93, tApplyb5), (62, [(tLi 0), (tLi 0), (tLi 0)])], ⟨44, 3, 3, 0, 0⟩⟩ (.done (.tup [(.true, tApplyb1), (.true, [(tLi 1), (tVi 26), (tVi 27)])]) ⟨[(93, tApplyb1), (41, tApplyb6), (93, tApplyb1), (62, [(tLi 1), (tVi 26), (tVi 27)])], ⟨44, 3, 3, 0, 0⟩⟩))))))))) (.call 51 [(.lf (.val 0))] tApplym9 (.tup [(.false, [(tVi 24)]), (.false, [(tVi 25)]), (.false, [(.bool (.var 1))])]) tApplym10 (.need (.inr (.var 17) (.lit 8)) (.gen (.store 50 (.tmp 123) (.tmp 122)) 0 [(123, (.lf (.pix 0 0 2 (.var 17)))), (122, (.agg [(tVi 24), (tVi 25)]))] tApplym10 .none tApplym11 (.done (.tup [(.true, tApplyb0), (.true, [(tLi 1), (tVi 24), (tVi 25)])]) tApplym0)))))))))))))))))) := by kernel_rfl
end Go.Proofs.Ytbedoemdjlollaa

namespace Go.Proofs.Ytbedoemdjlollaa
open Go.ChangeShapes Go.WideShapes Go.ChangeAt Go.RowKit Go.Syn Go.Eng
set_option linter.unusedVariables false
set_option linter.unusedSimpArgs false
set_option maxRecDepth 100000
theorem valid_any (xs : List Int) (hx : xs.length = 16) (w : World) : Calls Try.prog 45 #[.agg (xs.map (Value.int .i64)).toArray] w (PureAt w (.bool (validL xs))) := by
  obtain ⟨a0, a1, a2, a3, a4, a5, a6, a7, a8, a9, a10, a11, a12, a13, a14, a15, rfl⟩ := list16 xs hx
  refine calls_at (tab_ok _) Try.func45 rfl tValid (ρ := ⟨[a0, a1, a2, a3, a4, a5, a6, a7, a8, a9, a10, a11, a12, a13, a14, a15], [], [], [], []⟩) (ids := []) rfl (Facts.initP rfl oneNil) ?_
  rw [show validL [a0, a1, a2, a3, a4, a5, a6, a7, a8, a9, a10, a11, a12, a13, a14, a15] = (fitB a0 a1 && (fitB a2 a3 && (fitB a4 a5 && (fitB a6 a7 && (fitB a8 a9 && (fitB a10 a11 && (fitB a12 a13 && (fitB a14 a15 && true)))))))) from rfl]
  refine node_val ⟨[], [fitB a0 a1], [numV a0 a1], [], []⟩ (fun w => pure_of (of_any a0 a1 w)) (by intros; kernel_rfl) (by intros; kernel_rfl) rfl rfl rfl (one1 (numV_one a0 a1)) ?_
  cases h0 : fitB a0 a1 with
  | false => exact br_t rfl (pure_done fun _ => rfl)
  | true =>
    refine br_f rfl ?_
    refine node_val ⟨[], [fitB a2 a3], [numV a2 a3], [], []⟩ (fun w => pure_of (of_any a2 a3 w)) (by intros; kernel_rfl) (by intros; kernel_rfl) rfl rfl rfl (one1 (numV_one a2 a3)) ?_
    cases h1 : fitB a2 a3 with
    | false => exact br_t rfl (pure_done fun _ => rfl)
    | true =>
      refine br_f rfl ?_
      refine node_val ⟨[], [fitB a4 a5], [numV a4 a5], [], []⟩ (fun w => pure_of (of_any a4 a5 w)) (by intros; kernel_rfl) (by intros; kernel_rfl) rfl rfl rfl (one1 (numV_one a4 a5)) ?_
      cases h2 : fitB a4 a5 with
      | false => exact br_t rfl (pure_done fun _ => rfl)
      | true =>
        refine br_f rfl ?_
        refine node_val ⟨[], [fitB a6 a7], [numV a6 a7], [], []⟩ (fun w => pure_of (of_any a6 a7 w)) (by intros; kernel_rfl) (by intros; kernel_rfl) rfl rfl rfl (one1 (numV_one a6 a7)) ?_
        cases h3 : fitB a6 a7 with
        | false => exact br_t rfl (pure_done fun _ => rfl)
        | true =>
          refine br_f rfl ?_
          refine node_val ⟨[], [fitB a8 a9], [numV a8 a9], [], []⟩ (fun w => pure_of (of_any a8 a9 w)) (by intros; kernel_rfl) (by intros; kernel_rfl) rfl rfl rfl (one1 (numV_one a8 a9)) ?_
          cases h4 : fitB a8 a9 with
          | false => exact br_t rfl (pure_done fun _ => rfl)
          | true =>
            refine br_f rfl ?_
            refine node_val ⟨[], [fitB a10 a11], [numV a10 a11], [], []⟩ (fun w => pure_of (of_any a10 a11 w)) (by intros; kernel_rfl) (by intros; kernel_rfl) rfl rfl rfl (one1 (numV_one a10 a11)) ?_
            cases h5 : fitB a10 a11 with
            | false => exact br_t rfl (pure_done fun _ => rfl)
            | true =>
              refine br_f rfl ?_
              refine node_val ⟨[], [fitB a12 a13], [numV a12 a13], [], []⟩ (fun w => pure_of (of_any a12 a13 w)) (by intros; kernel_rfl) (by intros; kernel_rfl) rfl rfl rfl (one1 (numV_one a12 a13)) ?_
              cases h6 : fitB a12 a13 with
              | false => exact br_t rfl (pure_done fun _ => rfl)
              | true =>
                refine br_f rfl ?_
                refine node_val ⟨[], [fitB a14 a15], [numV a14 a15], [], []⟩ (fun w => pure_of (of_any a14 a15 w)) (by intros; kernel_rfl) (by intros; kernel_rfl) rfl rfl rfl (one1 (numV_one a14 a15)) ?_
                cases h7 : fitB a14 a15 with
                | false => exact br_t rfl (pure_done fun _ => rfl)
                | true =>
                  refine br_f rfl ?_
                  exact pure_done fun _ => rfl
theorem applyM_bad {xs : List Int} {o : OpD} (h : (validL xs && opB o) = false) : applyM xs o = (xs, 0, 0, 0) := by unfold applyM; rw [h]; rfl
theorem applyM_miss {xs : List Int} {o : OpD} (h : validL xs = true) (h2 : opB o = true) (h3 : o.kind = 7) (h4 : ¬ regOf xs o.reg.toNat = (o.re, o.im)) : applyM xs o = (xs, 3, (regOf xs o.reg.toNat).1, (regOf xs o.reg.toNat).2) := by
  unfold applyM; rw [h, h2]; simp only [Bool.and_self, if_true]; rw [if_pos ⟨h3, h4⟩]
theorem applyM_over {xs : List Int} {o : OpD} (h : validL xs = true) (h2 : opB o = true) (h3 : o.kind ≠ 7) (h4 : fitB (newReg xs o).1 (newReg xs o).2 = false) : applyM xs o = (xs, 2, 0, 0) := by
  unfold applyM; rw [h, h2]; simp only [Bool.and_self, if_true]; rw [if_neg (fun q => h3 q.1), h4]; rfl
theorem applyM_val {xs : List Int} {o : OpD} (h : validL xs = true) (h2 : opB o = true) (h3 : o.kind = 7 → regOf xs o.reg.toNat = (o.re, o.im)) {q : Int × Int} (hq : newReg xs o = q) (h4 : fitB q.1 q.2 = true) : applyM xs o = (put2 (if o.kind = 6 then put2 xs o.tg.toNat (regOf xs o.reg.toNat) else xs) o.reg.toNat q, 1, q.1, q.2) := by
  unfold applyM; rw [h, h2, hq]; simp only [Bool.and_self, if_true]; rw [if_neg (fun q => q.2 (h3 q.1)), if_pos h4]
theorem parts_num {q : Int × Int} (h : fitB q.1 q.2 = true) (w : World) : Calls Try.prog 51 #[numV q.1 q.2] w (PureAt w (.tuple #[.int .i64 q.1, .int .i64 q.2, .bool true])) := by
  obtain ⟨ha, hb⟩ := fit_abs h
  have := parts_any (isI_of ha) (isI_of hb) (by omega) (by omega) w
  unfold partsV at this
  rw [h] at this
  rw [numV_eq h]
  exact this
theorem swap_eq {xs : List Int} {i j : Nat} (hi : 2 * i + 1 < xs.length) (hj : 2 * j + 1 < xs.length) : regOf (put2 (put2 xs i (regOf xs j)) j (regOf xs i)) i = regOf xs j ∧ put2 (put2 (put2 xs i (regOf xs j)) j (regOf xs i)) i (regOf xs j) = put2 (put2 xs j (regOf xs i)) i (regOf xs j) := by
  by_cases e : i = j
  · subst e
    rw [put2_put2, regOf_put2 hi, put2_put2]
    exact ⟨rfl, rfl⟩
  · have e2 : put2 (put2 xs i (regOf xs j)) j (regOf xs i) = put2 (put2 xs j (regOf xs i)) i (regOf xs j) := put2_comm xs e _ _
    rw [e2, regOf_put2 (by rw [put2_len]; exact hi)]
    exact ⟨rfl, put2_put2 _ _ _ _⟩

set_option maxHeartbeats 4000000 in
theorem apply_any (xs : List Int) (hx : xs.length = 16) (o : OpD) (w : World) : Calls Try.prog 31 #[.agg (xs.map (Value.int .i64)).toArray, .agg o.cells.toArray] w (PureAt w (resV (applyM xs o))) := by
  obtain ⟨a0, a1, a2, a3, a4, a5, a6, a7, a8, a9, a10, a11, a12, a13, a14, a15, rfl⟩ := list16 xs hx
  obtain ⟨kind, reg, tg, re, im⟩ := o
  refine calls_at (tab_ok _) Try.func31 rfl tApply (ρ := ⟨[a0, a1, a2, a3, a4, a5, a6, a7, a8, a9, a10, a11, a12, a13, a14, a15, kind, reg, tg, re, im], [], [], [], []⟩) (ids := []) rfl (Facts.initP rfl oneNil) ?_
  refine node_val ⟨[], [validL [a0, a1, a2, a3, a4, a5, a6, a7, a8, a9, a10, a11, a12, a13, a14, a15]], [], [], []⟩ (fun w => valid_any [a0, a1, a2, a3, a4, a5, a6, a7, a8, a9, a10, a11, a12, a13, a14, a15] rfl w) (by intros; kernel_rfl) (by intros; kernel_rfl) rfl rfl rfl oneNil ?_
  cases hv : validL [a0, a1, a2, a3, a4, a5, a6, a7, a8, a9, a10, a11, a12, a13, a14, a15] with
  | false =>
    rw [applyM_bad (by rw [hv]; rfl)]
    exact br_t rfl (pure_done fun _ => rfl)
  | true =>
  refine br_f rfl ?_
  refine node_val ⟨[if opB ⟨kind, reg, tg, re, im⟩ then 0 else 22], [], [], [], []⟩ (fun w => opCheck_any ⟨kind, reg, tg, re, im⟩ w) (by intros; kernel_rfl) (by intros; kernel_rfl) rfl rfl rfl oneNil ?_
  cases ho : opB ⟨kind, reg, tg, re, im⟩ with
  | false =>
    rw [applyM_bad (by rw [hv, ho]; rfl)]
    exact br_t rfl (pure_done fun _ => rfl)
  | true =>
  refine br_f rfl ?_
  obtain ⟨k12, r12, t1, t2, hf, h6⟩ := (opB_iff _).1 ho
  dsimp only at k12 r12 t1 t2 hf h6
  have tle : tg ≤ 7 := by
    unfold mostV at t2
    split at t2
    · omega
    · split at t2 <;> omega
  obtain ⟨i, rfl⟩ : ∃ i : Nat, reg = (i : Int) := ⟨reg.toNat, by omega⟩
  obtain ⟨j, rfl⟩ : ∃ j : Nat, tg = (j : Int) := ⟨tg.toNat, by omega⟩
  have hi : i < 8 := by omega
  have hj : j < 8 := by omega
  have hI : (0 : Int) ≤ i ∧ (i : Int) < 8 := by omega
  have hJ : (0 : Int) ≤ j ∧ (j : Int) < 8 := by omega
  have hli : 2 * i + 1 < ([a0, a1, a2, a3, a4, a5, a6, a7, a8, a9, a10, a11, a12, a13, a14, a15] : List Int).length := by simp only [List.length_cons, List.length_nil]; omega
  have hlj : 2 * j + 1 < ([a0, a1, a2, a3, a4, a5, a6, a7, a8, a9, a10, a11, a12, a13, a14, a15] : List Int).length := by simp only [List.length_cons, List.length_nil]; omega
  have hp := valid_reg hv i hli
  have hqj := valid_reg hv j hlj
  have hV := fun q h3 hq h4 => applyM_val (o := ⟨kind, (i : Int), (j : Int), re, im⟩) hv ho (q := q) h3 hq h4
  have hO := applyM_over (o := ⟨kind, (i : Int), (j : Int), re, im⟩) hv ho
  have hS := applyM_miss (o := ⟨kind, (i : Int), (j : Int), re, im⟩) hv ho
  dsimp only [Int.toNat_natCast] at hV hO hS
  generalize hP : regOf [a0, a1, a2, a3, a4, a5, a6, a7, a8, a9, a10, a11, a12, a13, a14, a15] i = p at *
  refine need_i hI ?_
  refine node_reg2 [a0, a1, a2, a3, a4, a5, a6, a7, a8, a9, a10, a11, a12, a13, a14, a15] i ⟨[p.1, p.2], [], [], [], []⟩ hli rfl (by intros; kernel_rfl) (by intros; kernel_rfl) (by rw [hP]; intros; kernel_rfl) rfl oneNil ?_
  refine node_val ⟨[], [], [numV p.1 p.2], [], []⟩ (fun w => number_any p.1 p.2 w) (by intros; kernel_rfl) (by intros; kernel_rfl) rfl rfl rfl (one1 (numV_one _ _)) ?_
  refine node_val ⟨[], [], [numV re im], [], []⟩ (fun w => number_any re im w) (by intros; kernel_rfl) (by intros; kernel_rfl) rfl rfl rfl (one1 (numV_one _ _)) ?_
  by_cases k2 : kind = 2
  · subst k2
    refine br_t rfl ?_
    refine node_val ⟨[(re, im).1, (re, im).2], [true], [], [], []⟩ (fun w => parts_num (q := (re, im)) hf w) (by intros; kernel_rfl) (by intros; kernel_rfl) rfl rfl rfl oneNil ?_
    refine need_i hI ?_
    obtain ⟨t0, t1, t2, t3, t4, t5, t6, t7, t8, t9, t10, t11, t12, t13, t14, t15, ht0⟩ := list16 (put2 [a0, a1, a2, a3, a4, a5, a6, a7, a8, a9, a10, a11, a12, a13, a14, a15] i (re, im)) (by rw [put2_len]; rfl)
    refine node_put (n := 0) [a0, a1, a2, a3, a4, a5, a6, a7, a8, a9, a10, a11, a12, a13, a14, a15] [t0, t1, t2, t3, t4, t5, t6, t7, t8, t9, t10, t11, t12, t13, t14, t15] i (re, im) ⟨[t0, t1, t2, t3, t4, t5, t6, t7, t8, t9, t10, t11, t12, t13, t14, t15], [], [], [], []⟩ ht0 hli rfl (by intros; kernel_rfl) (by kernel_rfl) (by intros; kernel_rfl) (by intros; kernel_rfl) rfl (by intros; kernel_rfl) rfl rfl oneNil ?_
    have hm := hV (re, im) (fun q => absurd q (by decide)) (by simp [newReg]) hf
    rw [if_neg (by decide), ht0] at hm
    rw [hm]
    exact pure_done (by intros; kernel_rfl)
  refine br_f (show (kind == 2) = false by simpa using k2) ?_
  by_cases k3 : kind = 3
  · subst k3
    refine br_t rfl ?_
    generalize hQ : ((p.1 + re, p.2 + im) : Int × Int) = q
    refine node_val (V := .tuple #[numV q.1 q.2, .bool (fitB q.1 q.2)]) ⟨[], [fitB q.1 q.2], [numV q.1 q.2], [], []⟩ (fun w => by rw [← hQ]; exact add_any hp hf w) (by intros; kernel_rfl) (by intros; kernel_rfl) rfl rfl rfl (one1 (numV_one _ _)) ?_
    cases hfq : fitB q.1 q.2 with
    | false =>
      have hn : newReg [a0, a1, a2, a3, a4, a5, a6, a7, a8, a9, a10, a11, a12, a13, a14, a15] ⟨3, (i : Int), (j : Int), re, im⟩ = q := by rw [← hQ]; simp [newReg, hP]
      rw [hO (by decide) (by rw [hn]; exact hfq)]
      exact br_t rfl (pure_done (by intros; kernel_rfl))
    | true =>
      refine br_f rfl ?_
      refine node_val ⟨[q.1, q.2], [true], [], [], []⟩ (fun w => parts_num (q := q) hfq w) (by intros; kernel_rfl) (by intros; kernel_rfl) rfl rfl rfl oneNil ?_
      refine need_i hI ?_
      obtain ⟨t0, t1, t2, t3, t4, t5, t6, t7, t8, t9, t10, t11, t12, t13, t14, t15, ht0⟩ := list16 (put2 [a0, a1, a2, a3, a4, a5, a6, a7, a8, a9, a10, a11, a12, a13, a14, a15] i q) (by rw [put2_len]; rfl)
      refine node_put (n := 0) [a0, a1, a2, a3, a4, a5, a6, a7, a8, a9, a10, a11, a12, a13, a14, a15] [t0, t1, t2, t3, t4, t5, t6, t7, t8, t9, t10, t11, t12, t13, t14, t15] i q ⟨[t0, t1, t2, t3, t4, t5, t6, t7, t8, t9, t10, t11, t12, t13, t14, t15], [], [], [], []⟩ ht0 hli rfl (by intros; kernel_rfl) (by kernel_rfl) (by intros; kernel_rfl) (by intros; kernel_rfl) rfl (by intros; kernel_rfl) rfl rfl oneNil ?_
      have hm := hV q (fun q => absurd q (by decide)) (by rw [← hQ]; simp [newReg, hP]) hfq
      rw [if_neg (by decide), ht0] at hm
      rw [hm]
      exact pure_done (by intros; kernel_rfl)
  refine br_f (show (kind == 3) = false by simpa using k3) ?_
  by_cases k4 : kind = 4
  · subst k4
    refine br_t rfl ?_
    generalize hQ : ((p.1 * re - p.2 * im, p.1 * im + p.2 * re) : Int × Int) = q
    refine node_val (V := .tuple #[numV q.1 q.2, .bool (fitB q.1 q.2)]) ⟨[], [fitB q.1 q.2], [numV q.1 q.2], [], []⟩ (fun w => by rw [← hQ]; exact mul_any hp hf w) (by intros; kernel_rfl) (by intros; kernel_rfl) rfl rfl rfl (one1 (numV_one _ _)) ?_
    cases hfq : fitB q.1 q.2 with
    | false =>
      have hn : newReg [a0, a1, a2, a3, a4, a5, a6, a7, a8, a9, a10, a11, a12, a13, a14, a15] ⟨4, (i : Int), (j : Int), re, im⟩ = q := by rw [← hQ]; simp [newReg, hP]
      rw [hO (by decide) (by rw [hn]; exact hfq)]
      exact br_t rfl (pure_done (by intros; kernel_rfl))
    | true =>
      refine br_f rfl ?_
      refine node_val ⟨[q.1, q.2], [true], [], [], []⟩ (fun w => parts_num (q := q) hfq w) (by intros; kernel_rfl) (by intros; kernel_rfl) rfl rfl rfl oneNil ?_
      refine need_i hI ?_
      obtain ⟨t0, t1, t2, t3, t4, t5, t6, t7, t8, t9, t10, t11, t12, t13, t14, t15, ht0⟩ := list16 (put2 [a0, a1, a2, a3, a4, a5, a6, a7, a8, a9, a10, a11, a12, a13, a14, a15] i q) (by rw [put2_len]; rfl)
      refine node_put (n := 0) [a0, a1, a2, a3, a4, a5, a6, a7, a8, a9, a10, a11, a12, a13, a14, a15] [t0, t1, t2, t3, t4, t5, t6, t7, t8, t9, t10, t11, t12, t13, t14, t15] i q ⟨[t0, t1, t2, t3, t4, t5, t6, t7, t8, t9, t10, t11, t12, t13, t14, t15], [], [], [], []⟩ ht0 hli rfl (by intros; kernel_rfl) (by kernel_rfl) (by intros; kernel_rfl) (by intros; kernel_rfl) rfl (by intros; kernel_rfl) rfl rfl oneNil ?_
      have hm := hV q (fun q => absurd q (by decide)) (by rw [← hQ]; simp [newReg, hP]) hfq
      rw [if_neg (by decide), ht0] at hm
      rw [hm]
      exact pure_done (by intros; kernel_rfl)
  refine br_f (show (kind == 4) = false by simpa using k4) ?_
  by_cases k5 : kind = 5
  · subst k5
    refine br_t rfl ?_
    generalize hQ : (turnN j p : Int × Int) = q
    refine node_val (V := .tuple #[numV q.1 q.2, .bool (fitB q.1 q.2)]) ⟨[], [fitB q.1 q.2], [numV q.1 q.2], [], []⟩ (fun w => by rw [← hQ]; exact turn_any hp j (by rw [show mostV 5 = 3 from rfl] at t2; omega) w) (by intros; kernel_rfl) (by intros; kernel_rfl) rfl rfl rfl (one1 (numV_one _ _)) ?_
    cases hfq : fitB q.1 q.2 with
    | false =>
      have hn : newReg [a0, a1, a2, a3, a4, a5, a6, a7, a8, a9, a10, a11, a12, a13, a14, a15] ⟨5, (i : Int), (j : Int), re, im⟩ = q := by rw [← hQ]; simp [newReg, hP]
      rw [hO (by decide) (by rw [hn]; exact hfq)]
      exact br_t rfl (pure_done (by intros; kernel_rfl))
    | true =>
      refine br_f rfl ?_
      refine node_val ⟨[q.1, q.2], [true], [], [], []⟩ (fun w => parts_num (q := q) hfq w) (by intros; kernel_rfl) (by intros; kernel_rfl) rfl rfl rfl oneNil ?_
      refine need_i hI ?_
      obtain ⟨t0, t1, t2, t3, t4, t5, t6, t7, t8, t9, t10, t11, t12, t13, t14, t15, ht0⟩ := list16 (put2 [a0, a1, a2, a3, a4, a5, a6, a7, a8, a9, a10, a11, a12, a13, a14, a15] i q) (by rw [put2_len]; rfl)
      refine node_put (n := 0) [a0, a1, a2, a3, a4, a5, a6, a7, a8, a9, a10, a11, a12, a13, a14, a15] [t0, t1, t2, t3, t4, t5, t6, t7, t8, t9, t10, t11, t12, t13, t14, t15] i q ⟨[t0, t1, t2, t3, t4, t5, t6, t7, t8, t9, t10, t11, t12, t13, t14, t15], [], [], [], []⟩ ht0 hli rfl (by intros; kernel_rfl) (by kernel_rfl) (by intros; kernel_rfl) (by intros; kernel_rfl) rfl (by intros; kernel_rfl) rfl rfl oneNil ?_
      have hm := hV q (fun q => absurd q (by decide)) (by rw [← hQ]; simp [newReg, hP]) hfq
      rw [if_neg (by decide), ht0] at hm
      rw [hm]
      exact pure_done (by intros; kernel_rfl)
  refine br_f (show (kind == 5) = false by simpa using k5) ?_
  by_cases k6 : kind = 6
  · subst k6
    refine br_t rfl ?_
    generalize hQ : regOf [a0, a1, a2, a3, a4, a5, a6, a7, a8, a9, a10, a11, a12, a13, a14, a15] j = q at *
    obtain ⟨hs1, hs2⟩ := swap_eq hli hlj
    rw [hP, hQ] at hs1 hs2
    refine need_i hJ ?_
    refine need_i hI ?_
    refine par_i ?_ ?_
    · refine node_reg2 [a0, a1, a2, a3, a4, a5, a6, a7, a8, a9, a10, a11, a12, a13, a14, a15] j ⟨[q.1, q.2], [], [], [], []⟩ hlj rfl (by intros; kernel_rfl) (by intros; kernel_rfl) (by rw [hQ]; intros; kernel_rfl) rfl oneNil ?_
      refine node_reg2 [a0, a1, a2, a3, a4, a5, a6, a7, a8, a9, a10, a11, a12, a13, a14, a15] i ⟨[p.1, p.2], [], [], [], []⟩ hli rfl (by intros; kernel_rfl) (by intros; kernel_rfl) (by rw [hP]; intros; kernel_rfl) rfl oneNil ?_
      refine need_i hI ?_
      obtain ⟨u0, u1, u2, u3, u4, u5, u6, u7, u8, u9, u10, u11, u12, u13, u14, u15, hu0⟩ := list16 (put2 [a0, a1, a2, a3, a4, a5, a6, a7, a8, a9, a10, a11, a12, a13, a14, a15] i q) (by rw [put2_len]; rfl)
      refine node_put (n := 0) [a0, a1, a2, a3, a4, a5, a6, a7, a8, a9, a10, a11, a12, a13, a14, a15] [u0, u1, u2, u3, u4, u5, u6, u7, u8, u9, u10, u11, u12, u13, u14, u15] i q ⟨[u0, u1, u2, u3, u4, u5, u6, u7, u8, u9, u10, u11, u12, u13, u14, u15], [], [], [], []⟩ hu0 hli rfl (by intros; kernel_rfl) (by kernel_rfl) (by intros; kernel_rfl) (by intros; kernel_rfl) rfl (by intros; kernel_rfl) rfl rfl oneNil ?_
      refine need_i hJ ?_
      obtain ⟨s0, s1, s2, s3, s4, s5, s6, s7, s8, s9, s10, s11, s12, s13, s14, s15, hs0⟩ := list16 (put2 [u0, u1, u2, u3, u4, u5, u6, u7, u8, u9, u10, u11, u12, u13, u14, u15] j p) (by rw [put2_len]; rfl)
      refine node_put (n := 0) [u0, u1, u2, u3, u4, u5, u6, u7, u8, u9, u10, u11, u12, u13, u14, u15] [s0, s1, s2, s3, s4, s5, s6, s7, s8, s9, s10, s11, s12, s13, s14, s15] j p ⟨[s0, s1, s2, s3, s4, s5, s6, s7, s8, s9, s10, s11, s12, s13, s14, s15], [], [], [], []⟩ hs0 hlj rfl (by intros; kernel_rfl) (by kernel_rfl) (by intros; kernel_rfl) (by intros; kernel_rfl) rfl (by intros; kernel_rfl) rfl rfl oneNil ?_
      rw [← hu0] at hs0
      rw [hs0] at hs1 hs2
      refine need_i hI ?_
      refine node_reg2 [s0, s1, s2, s3, s4, s5, s6, s7, s8, s9, s10, s11, s12, s13, s14, s15] i ⟨[q.1, q.2], [], [], [], []⟩ hli rfl (by intros; kernel_rfl) (by intros; kernel_rfl) (by rw [hs1]; intros; kernel_rfl) rfl oneNil ?_
      refine node_val ⟨[], [], [numV q.1 q.2], [], []⟩ (fun w => number_any q.1 q.2 w) (by intros; kernel_rfl) (by intros; kernel_rfl) rfl rfl rfl (one1 (numV_one _ _)) ?_
      refine node_val ⟨[q.1, q.2], [true], [], [], []⟩ (fun w => parts_num (q := q) hqj w) (by intros; kernel_rfl) (by intros; kernel_rfl) rfl rfl rfl oneNil ?_
      refine need_i hI ?_
      obtain ⟨t0, t1, t2, t3, t4, t5, t6, t7, t8, t9, t10, t11, t12, t13, t14, t15, ht0⟩ := list16 (put2 [s0, s1, s2, s3, s4, s5, s6, s7, s8, s9, s10, s11, s12, s13, s14, s15] i q) (by rw [put2_len]; rfl)
      refine node_put (n := 0) [s0, s1, s2, s3, s4, s5, s6, s7, s8, s9, s10, s11, s12, s13, s14, s15] [t0, t1, t2, t3, t4, t5, t6, t7, t8, t9, t10, t11, t12, t13, t14, t15] i q ⟨[t0, t1, t2, t3, t4, t5, t6, t7, t8, t9, t10, t11, t12, t13, t14, t15], [], [], [], []⟩ ht0 hli rfl (by intros; kernel_rfl) (by kernel_rfl) (by intros; kernel_rfl) (by intros; kernel_rfl) rfl (by intros; kernel_rfl) rfl rfl oneNil ?_
      have hm := hV q (fun q => absurd q (by decide)) (by simp [newReg, hQ]) hqj
      rw [if_pos rfl, ← hs2, ht0] at hm
      rw [hm]
      exact pure_done (by intros; kernel_rfl)
    · refine node_reg2 [a0, a1, a2, a3, a4, a5, a6, a7, a8, a9, a10, a11, a12, a13, a14, a15] i ⟨[p.1, p.2], [], [], [], []⟩ hli rfl (by intros; kernel_rfl) (by intros; kernel_rfl) (by rw [hP]; intros; kernel_rfl) rfl oneNil ?_
      refine node_reg2 [a0, a1, a2, a3, a4, a5, a6, a7, a8, a9, a10, a11, a12, a13, a14, a15] j ⟨[q.1, q.2], [], [], [], []⟩ hlj rfl (by intros; kernel_rfl) (by intros; kernel_rfl) (by rw [hQ]; intros; kernel_rfl) rfl oneNil ?_
      refine need_i hI ?_
      obtain ⟨u0, u1, u2, u3, u4, u5, u6, u7, u8, u9, u10, u11, u12, u13, u14, u15, hu0⟩ := list16 (put2 [a0, a1, a2, a3, a4, a5, a6, a7, a8, a9, a10, a11, a12, a13, a14, a15] i q) (by rw [put2_len]; rfl)
      refine node_put (n := 0) [a0, a1, a2, a3, a4, a5, a6, a7, a8, a9, a10, a11, a12, a13, a14, a15] [u0, u1, u2, u3, u4, u5, u6, u7, u8, u9, u10, u11, u12, u13, u14, u15] i q ⟨[u0, u1, u2, u3, u4, u5, u6, u7, u8, u9, u10, u11, u12, u13, u14, u15], [], [], [], []⟩ hu0 hli rfl (by intros; kernel_rfl) (by kernel_rfl) (by intros; kernel_rfl) (by intros; kernel_rfl) rfl (by intros; kernel_rfl) rfl rfl oneNil ?_
      refine need_i hJ ?_
      obtain ⟨s0, s1, s2, s3, s4, s5, s6, s7, s8, s9, s10, s11, s12, s13, s14, s15, hs0⟩ := list16 (put2 [u0, u1, u2, u3, u4, u5, u6, u7, u8, u9, u10, u11, u12, u13, u14, u15] j p) (by rw [put2_len]; rfl)
      refine node_put (n := 0) [u0, u1, u2, u3, u4, u5, u6, u7, u8, u9, u10, u11, u12, u13, u14, u15] [s0, s1, s2, s3, s4, s5, s6, s7, s8, s9, s10, s11, s12, s13, s14, s15] j p ⟨[s0, s1, s2, s3, s4, s5, s6, s7, s8, s9, s10, s11, s12, s13, s14, s15], [], [], [], []⟩ hs0 hlj rfl (by intros; kernel_rfl) (by kernel_rfl) (by intros; kernel_rfl) (by intros; kernel_rfl) rfl (by intros; kernel_rfl) rfl rfl oneNil ?_
      rw [← hu0] at hs0
      rw [hs0] at hs1 hs2
      refine need_i hI ?_
      refine node_reg2 [s0, s1, s2, s3, s4, s5, s6, s7, s8, s9, s10, s11, s12, s13, s14, s15] i ⟨[q.1, q.2], [], [], [], []⟩ hli rfl (by intros; kernel_rfl) (by intros; kernel_rfl) (by rw [hs1]; intros; kernel_rfl) rfl oneNil ?_
      refine node_val ⟨[], [], [numV q.1 q.2], [], []⟩ (fun w => number_any q.1 q.2 w) (by intros; kernel_rfl) (by intros; kernel_rfl) rfl rfl rfl (one1 (numV_one _ _)) ?_
      refine node_val ⟨[q.1, q.2], [true], [], [], []⟩ (fun w => parts_num (q := q) hqj w) (by intros; kernel_rfl) (by intros; kernel_rfl) rfl rfl rfl oneNil ?_
      refine need_i hI ?_
      obtain ⟨t0, t1, t2, t3, t4, t5, t6, t7, t8, t9, t10, t11, t12, t13, t14, t15, ht0⟩ := list16 (put2 [s0, s1, s2, s3, s4, s5, s6, s7, s8, s9, s10, s11, s12, s13, s14, s15] i q) (by rw [put2_len]; rfl)
      refine node_put (n := 0) [s0, s1, s2, s3, s4, s5, s6, s7, s8, s9, s10, s11, s12, s13, s14, s15] [t0, t1, t2, t3, t4, t5, t6, t7, t8, t9, t10, t11, t12, t13, t14, t15] i q ⟨[t0, t1, t2, t3, t4, t5, t6, t7, t8, t9, t10, t11, t12, t13, t14, t15], [], [], [], []⟩ ht0 hli rfl (by intros; kernel_rfl) (by kernel_rfl) (by intros; kernel_rfl) (by intros; kernel_rfl) rfl (by intros; kernel_rfl) rfl rfl oneNil ?_
      have hm := hV q (fun q => absurd q (by decide)) (by simp [newReg, hQ]) hqj
      rw [if_pos rfl, ← hs2, ht0] at hm
      rw [hm]
      exact pure_done (by intros; kernel_rfl)
  refine br_f (show (kind == 6) = false by simpa using k6) ?_
  by_cases k7 : kind = 7
  · subst k7
    refine br_t rfl ?_
    obtain ⟨pa, pb⟩ := p
    obtain ⟨ha, hb⟩ := fit_abs hp
    obtain ⟨hc, hd⟩ := fit_abs hf
    refine node_bin (x := numV pa pb) (y := numV re im) (V := .bool (!(pa == re && pb == im))) ⟨[], [!(pa == re && pb == im)], [], [], []⟩ (by intros; kernel_rfl) (by intros; kernel_rfl) (fun _ => by rw [numV_eq hp, numV_eq hf]; rfl) (fun w => ?_) (by intros; kernel_rfl) rfl rfl rfl oneNil ?_
    · rw [numV_eq hp, numV_eq hf, run_neq_complex, isI_order (isI_of ha) (isI_of hc), isI_order (isI_of hb) (isI_of hd)]
      have ce : ∀ x y : Int, (some (compare x y) == some Ordering.eq) = (x == y) := fun x y => by rw [Bool.eq_iff_iff]; simp
      rw [ce, ce]
    cases hq : (pa == re && pb == im) with
    | false =>
      refine br_t rfl ?_
      rw [hS rfl (fun e => by cases e; simp at hq)]
      refine need_i hI ?_
      refine need_i hI ?_
      have fin : ∀ {m : Mem} {ρ : Env} {v : SV} {L : Stack}, (∀ ids, v.den ρ ids = resV ([a0, a1, a2, a3, a4, a5, a6, a7, a8, a9, a10, a11, a12, a13, a14, a15], 3, pa, pb)) → (Tree.done v m).holds ⟨Try.prog, w, fun _ => False, PureAt w (resV ([a0, a1, a2, a3, a4, a5, a6, a7, a8, a9, a10, a11, a12, a13, a14, a15], 3, pa, pb))⟩ ρ [] HX.nil L := fun h => pure_done h
      refine par_i ?_ (par_i ?_ (par_i ?_ ?_))
      · refine node_rega [a0, a1, a2, a3, a4, a5, a6, a7, a8, a9, a10, a11, a12, a13, a14, a15] i ⟨[pa], [], [], [], []⟩ hli rfl (by intros; kernel_rfl) (by intros; kernel_rfl) (by rw [hP]; intros; kernel_rfl) rfl oneNil ?_
        refine par_i ?_ ?_
        · refine node_regb [a0, a1, a2, a3, a4, a5, a6, a7, a8, a9, a10, a11, a12, a13, a14, a15] i ⟨[pb], [], [], [], []⟩ hli rfl (by intros; kernel_rfl) (by intros; kernel_rfl) (by rw [hP]; intros; kernel_rfl) rfl oneNil ?_
          exact fin (by intros; kernel_rfl)
        · refine node_regb [a0, a1, a2, a3, a4, a5, a6, a7, a8, a9, a10, a11, a12, a13, a14, a15] i ⟨[pb], [], [], [], []⟩ hli rfl (by intros; kernel_rfl) (by intros; kernel_rfl) (by rw [hP]; intros; kernel_rfl) rfl oneNil ?_
          exact fin (by intros; kernel_rfl)
      · refine node_regb [a0, a1, a2, a3, a4, a5, a6, a7, a8, a9, a10, a11, a12, a13, a14, a15] i ⟨[pb], [], [], [], []⟩ hli rfl (by intros; kernel_rfl) (by intros; kernel_rfl) (by rw [hP]; intros; kernel_rfl) rfl oneNil ?_
        refine par_i ?_ ?_
        · refine node_rega [a0, a1, a2, a3, a4, a5, a6, a7, a8, a9, a10, a11, a12, a13, a14, a15] i ⟨[pa], [], [], [], []⟩ hli rfl (by intros; kernel_rfl) (by intros; kernel_rfl) (by rw [hP]; intros; kernel_rfl) rfl oneNil ?_
          exact fin (by intros; kernel_rfl)
        · refine node_rega [a0, a1, a2, a3, a4, a5, a6, a7, a8, a9, a10, a11, a12, a13, a14, a15] i ⟨[pa], [], [], [], []⟩ hli rfl (by intros; kernel_rfl) (by intros; kernel_rfl) (by rw [hP]; intros; kernel_rfl) rfl oneNil ?_
          exact fin (by intros; kernel_rfl)
      · refine node_rega [a0, a1, a2, a3, a4, a5, a6, a7, a8, a9, a10, a11, a12, a13, a14, a15] i ⟨[pa], [], [], [], []⟩ hli rfl (by intros; kernel_rfl) (by intros; kernel_rfl) (by rw [hP]; intros; kernel_rfl) rfl oneNil ?_
        refine node_regb [a0, a1, a2, a3, a4, a5, a6, a7, a8, a9, a10, a11, a12, a13, a14, a15] i ⟨[pb], [], [], [], []⟩ hli rfl (by intros; kernel_rfl) (by intros; kernel_rfl) (by rw [hP]; intros; kernel_rfl) rfl oneNil ?_
        exact fin (by intros; kernel_rfl)
      · refine node_regb [a0, a1, a2, a3, a4, a5, a6, a7, a8, a9, a10, a11, a12, a13, a14, a15] i ⟨[pb], [], [], [], []⟩ hli rfl (by intros; kernel_rfl) (by intros; kernel_rfl) (by rw [hP]; intros; kernel_rfl) rfl oneNil ?_
        refine node_rega [a0, a1, a2, a3, a4, a5, a6, a7, a8, a9, a10, a11, a12, a13, a14, a15] i ⟨[pa], [], [], [], []⟩ hli rfl (by intros; kernel_rfl) (by intros; kernel_rfl) (by rw [hP]; intros; kernel_rfl) rfl oneNil ?_
        exact fin (by intros; kernel_rfl)
    | true =>
      refine br_f rfl ?_
      generalize hQ : regOf [a0, a1, a2, a3, a4, a5, a6, a7, a8, a9, a10, a11, a12, a13, a14, a15] j = q at *
      refine need_i hJ ?_
      refine node_reg2 [a0, a1, a2, a3, a4, a5, a6, a7, a8, a9, a10, a11, a12, a13, a14, a15] j ⟨[q.1, q.2], [], [], [], []⟩ hlj rfl (by intros; kernel_rfl) (by intros; kernel_rfl) (by rw [hQ]; intros; kernel_rfl) rfl oneNil ?_
      refine node_val ⟨[], [], [numV q.1 q.2], [], []⟩ (fun w => number_any q.1 q.2 w) (by intros; kernel_rfl) (by intros; kernel_rfl) rfl rfl rfl (one1 (numV_one _ _)) ?_
      refine node_val ⟨[q.1, q.2], [true], [], [], []⟩ (fun w => parts_num (q := q) hqj w) (by intros; kernel_rfl) (by intros; kernel_rfl) rfl rfl rfl oneNil ?_
      refine need_i hI ?_
      obtain ⟨t0, t1, t2, t3, t4, t5, t6, t7, t8, t9, t10, t11, t12, t13, t14, t15, ht0⟩ := list16 (put2 [a0, a1, a2, a3, a4, a5, a6, a7, a8, a9, a10, a11, a12, a13, a14, a15] i q) (by rw [put2_len]; rfl)
      refine node_put (n := 0) [a0, a1, a2, a3, a4, a5, a6, a7, a8, a9, a10, a11, a12, a13, a14, a15] [t0, t1, t2, t3, t4, t5, t6, t7, t8, t9, t10, t11, t12, t13, t14, t15] i q ⟨[t0, t1, t2, t3, t4, t5, t6, t7, t8, t9, t10, t11, t12, t13, t14, t15], [], [], [], []⟩ ht0 hli rfl (by intros; kernel_rfl) (by kernel_rfl) (by intros; kernel_rfl) (by intros; kernel_rfl) rfl (by intros; kernel_rfl) rfl rfl oneNil ?_
      have hm := hV q (fun _ => by simpa using hq) (by simp [newReg, hQ]) hqj
      rw [if_neg (by decide), ht0] at hm
      rw [hm]
      exact pure_done (by intros; kernel_rfl)
  refine br_f (show (kind == 7) = false by simpa using k7) ?_
  obtain rfl : kind = 1 := by omega
  refine node_val ⟨[p.1, p.2], [true], [], [], []⟩ (fun w => parts_num (q := p) hp w) (by intros; kernel_rfl) (by intros; kernel_rfl) rfl rfl rfl oneNil ?_
  refine need_i hI ?_
  obtain ⟨t0, t1, t2, t3, t4, t5, t6, t7, t8, t9, t10, t11, t12, t13, t14, t15, ht0⟩ := list16 (put2 [a0, a1, a2, a3, a4, a5, a6, a7, a8, a9, a10, a11, a12, a13, a14, a15] i p) (by rw [put2_len]; rfl)
  refine node_put (n := 0) [a0, a1, a2, a3, a4, a5, a6, a7, a8, a9, a10, a11, a12, a13, a14, a15] [t0, t1, t2, t3, t4, t5, t6, t7, t8, t9, t10, t11, t12, t13, t14, t15] i p ⟨[t0, t1, t2, t3, t4, t5, t6, t7, t8, t9, t10, t11, t12, t13, t14, t15], [], [], [], []⟩ ht0 hli rfl (by intros; kernel_rfl) (by kernel_rfl) (by intros; kernel_rfl) (by intros; kernel_rfl) rfl (by intros; kernel_rfl) rfl rfl oneNil ?_
  have hm := hV p (fun q => absurd q (by decide)) (by simp [newReg, hP]) hp
  rw [if_neg (by decide), ht0] at hm
  rw [hm]
  exact pure_done (by intros; kernel_rfl)
end Go.Proofs.Ytbedoemdjlollaa

namespace Go.Syn
structure CmD where
  sess : Int
  seq : Int
  ack : Int
  op : OpD
def CmD.is (c : CmD) : List Int := [c.sess, c.seq, c.ack, c.op.kind, c.op.reg, c.op.tg, c.op.re, c.op.im]
def CmD.cells (c : CmD) : List Value := [.int .i64 c.sess, .int .i64 c.seq, .int .i64 c.ack, .int .i64 c.op.kind, .int .i64 c.op.reg, .int .i64 c.op.tg, .int .i64 c.op.re, .int .i64 c.op.im]
def cmdV (c : CmD) : Int := if c.sess < 1 ∨ 1073741824 < c.sess ∨ c.seq < 1 ∨ 1099511627776 < c.seq ∨ c.ack < 0 ∨ c.seq ≤ c.ack then 23 else if opB c.op then 0 else 22
def ccells (cs : List CmD) : List Value := cs.flatMap CmD.cells
def firstE : List CmD → Int
  | [] => 0
  | c :: r => if cmdV c ≠ 0 then cmdV c else firstE r
structure Vl where
  k : Int
  cs : List CmD
  ns : List Int
def valE (v : Vl) : Int :=
  if v.k = 0 then (if v.cs ≠ [] ∨ v.ns ≠ [] then 25 else 0)
  else if v.k = 2 then (if v.cs ≠ [] then 25 else checkV v.ns)
  else if v.k = 1 then (if v.cs = [] ∨ 8 < v.cs.length ∨ v.ns ≠ [] then 25 else firstE v.cs) else 25
end Go.Syn
namespace Go.Proofs.Ytbedoemdjlollaa
open Go.ChangeShapes Go.WideShapes Go.ChangeAt Go.RowKit Go.Syn Go.Eng
set_option linter.unusedVariables false
set_option linter.unusedSimpArgs false
set_option maxRecDepth 100000
def vlV (v : Vl) (a1 : Option Addr) (c1 : Nat) (a2 : Option Addr) (c2 : Nat) : Value := .agg #[.int .i64 v.k, .slice a1 v.cs.length c1, .slice a2 v.ns.length c2]
structure VlAt (w : World) (v : Vl) (a1 a2 : Option Addr) : Prop where
  c : Cells w a1 (ccells v.cs)
  n : Ints w a2 v.ns
  l1 : v.cs.length ≤ 2199023255552
  l2 : v.ns.length ≤ 17592186044416
theorem ccells_len : ∀ (cs : List CmD), (ccells cs).length = cs.length * 8
  | [] => rfl
  | v :: r => by
    show (CmD.cells v ++ ccells r).length = _
    rw [List.length_append, ccells_len r, List.length_cons]
    show 8 + _ = _; omega
theorem ccells_get : ∀ {vs : List CmD} {i : Nat} {v : CmD}, vs[i]? = some v → ∀ j u, v.cells[j]? = some u → (ccells vs)[i * 8 + j]? = some u
  | q :: r, 0, p, h, j, u, hu => by
    simp only [List.getElem?_cons_zero, Option.some.injEq] at h
    subst h
    show (CmD.cells q ++ ccells r)[0 * 8 + j]? = _
    have hj : j < q.cells.length := by
      rcases Nat.lt_or_ge j q.cells.length with g | g
      · exact g
      · rw [List.getElem?_eq_none g] at hu; cases hu
    rw [Nat.zero_mul, Nat.zero_add, List.getElem?_append_left hj]; exact hu
  | q :: r, i + 1, p, h, j, u, hu => by
    have := ccells_get (vs := r) (i := i) (by simpa using h) j u hu
    show (CmD.cells q ++ ccells r)[(i + 1) * 8 + j]? = _
    rw [List.getElem?_append_right (by show 8 ≤ _; omega)]
    rw [← this]
    congr 1
    show (i + 1) * 8 + j - 8 = _
    omega
theorem c_elt {w : World} {a : Option Addr} {cs : List CmD} (h : Cells w a (ccells cs)) {i : Nat} {c : CmD} (hi : cs[i]? = some c) :
    a.isSome = true ∧ ∀ (N : Nat → Prop), ¬ N ((a.getD ⟨0, 0, none⟩).block) → CellsAt w (.pointer (some (((a.getD ⟨0, 0, none⟩).add (i * 8)).add 0))) c.cells N :=
  cl_elt h c.cells (fun j u hj => ccells_get hi j u hj) (by simp [CmD.cells])
theorem cmd_any (c : CmD) (w : World) : Calls Try.prog 39 #[.agg c.cells.toArray] w (PureAt w (.int .i64 (cmdV c))) := by
  obtain ⟨x0, x1, x2, o⟩ := c
  refine calls_at (tab_ok _) Try.func39 rfl tCmd (ρ := ⟨[x0, x1, x2, o.kind, o.reg, o.tg, o.re, o.im], [], [], [], []⟩) (ids := []) rfl (Facts.initP rfl oneNil) ?_
  have bad : ∀ {m : Mem} {ρ : Env} {pre : List Nat} {hx : HX} {L : Stack}, (x0 < 1 ∨ 1073741824 < x0 ∨ x1 < 1 ∨ 1099511627776 < x1 ∨ x2 < 0 ∨ x1 ≤ x2) → (Tree.done (.lf (.int .i64 (.lit 23))) m).holds ⟨Try.prog, w, fun _ => False, PureAt w (.int .i64 (cmdV ⟨x0, x1, x2, o⟩))⟩ ρ pre hx L := fun h => pure_done fun _ => by
    unfold cmdV; dsimp only; rw [if_pos h]; rfl
  refine br_i (fun h => bad (.inl (of_decide_eq_true (show decide (x0 < 1) = true from h)))) (fun h1 => ?_)
  refine br_i (fun h => bad (.inr (.inl (of_decide_eq_true (show decide (x0 > 1073741824) = true from h))))) (fun h2 => ?_)
  refine br_i (fun h => bad (.inr (.inr (.inl (of_decide_eq_true (show decide (x1 < 1) = true from h)))))) (fun h3 => ?_)
  refine br_i (fun h => bad (.inr (.inr (.inr (.inl (of_decide_eq_true (show decide (x1 > 1099511627776) = true from h))))))) (fun h4 => ?_)
  refine br_i (fun h => bad (.inr (.inr (.inr (.inr (.inl (of_decide_eq_true (show decide (x2 < 0) = true from h)))))))) (fun h5 => ?_)
  refine br_i (fun h => bad (.inr (.inr (.inr (.inr (.inr (of_decide_eq_true (show decide (x2 ≥ x1) = true from h)))))))) (fun h6 => ?_)
  have h1 := of_decide_eq_false (show decide (x0 < 1) = false from h1)
  have h2 := of_decide_eq_false (show decide (x0 > 1073741824) = false from h2)
  have h3 := of_decide_eq_false (show decide (x1 < 1) = false from h3)
  have h4 := of_decide_eq_false (show decide (x1 > 1099511627776) = false from h4)
  have h5 := of_decide_eq_false (show decide (x2 < 0) = false from h5)
  have h6 := of_decide_eq_false (show decide (x2 ≥ x1) = false from h6)
  refine node_val ⟨[if opB o then 0 else 22], [], [], [], []⟩ (fun w => opCheck_any o w) (fun _ => rfl) (fun _ => rfl) rfl rfl rfl oneNil (pure_done fun _ => ?_)
  have hne : ¬ (x0 < 1 ∨ 1073741824 < x0 ∨ x1 < 1 ∨ 1099511627776 < x1 ∨ x2 < 0 ∨ x1 ≤ x2) := by omega
  unfold cmdV; dsimp only; rw [if_neg hne]; rfl
theorem rcmd_any (c : CmD) (w : World) : Calls Try.prog 16 #[.agg c.cells.toArray] w (PureAt w (.int .i64 (cmdV c))) := by
  obtain ⟨x0, x1, x2, o⟩ := c
  refine calls_at (tab_ok _) Try.func16 rfl tRCmd (ρ := ⟨[x0, x1, x2, o.kind, o.reg, o.tg, o.re, o.im], [], [], [], []⟩) (ids := []) rfl (Facts.initP rfl oneNil) ?_
  have bad : ∀ {m : Mem} {ρ : Env} {pre : List Nat} {hx : HX} {L : Stack}, (x0 < 1 ∨ 1073741824 < x0 ∨ x1 < 1 ∨ 1099511627776 < x1 ∨ x2 < 0 ∨ x1 ≤ x2) → (Tree.done (.lf (.int .i64 (.lit 23))) m).holds ⟨Try.prog, w, fun _ => False, PureAt w (.int .i64 (cmdV ⟨x0, x1, x2, o⟩))⟩ ρ pre hx L := fun h => pure_done fun _ => by
    unfold cmdV; dsimp only; rw [if_pos h]; rfl
  refine br_i (fun h => bad (.inl (of_decide_eq_true (show decide (x0 < 1) = true from h)))) (fun h1 => ?_)
  refine br_i (fun h => bad (.inr (.inl (of_decide_eq_true (show decide (x0 > 1073741824) = true from h))))) (fun h2 => ?_)
  refine br_i (fun h => bad (.inr (.inr (.inl (of_decide_eq_true (show decide (x1 < 1) = true from h)))))) (fun h3 => ?_)
  refine br_i (fun h => bad (.inr (.inr (.inr (.inl (of_decide_eq_true (show decide (x1 > 1099511627776) = true from h))))))) (fun h4 => ?_)
  refine br_i (fun h => bad (.inr (.inr (.inr (.inr (.inl (of_decide_eq_true (show decide (x2 < 0) = true from h)))))))) (fun h5 => ?_)
  refine br_i (fun h => bad (.inr (.inr (.inr (.inr (.inr (of_decide_eq_true (show decide (x2 ≥ x1) = true from h)))))))) (fun h6 => ?_)
  have h1 := of_decide_eq_false (show decide (x0 < 1) = false from h1)
  have h2 := of_decide_eq_false (show decide (x0 > 1073741824) = false from h2)
  have h3 := of_decide_eq_false (show decide (x1 < 1) = false from h3)
  have h4 := of_decide_eq_false (show decide (x1 > 1099511627776) = false from h4)
  have h5 := of_decide_eq_false (show decide (x2 < 0) = false from h5)
  have h6 := of_decide_eq_false (show decide (x2 ≥ x1) = false from h6)
  refine node_val ⟨[], [opB o], [], [], []⟩ (fun w => refOp_pure o w) (fun _ => rfl) (fun _ => rfl) rfl rfl rfl oneNil ?_
  cases ho : opB o with
  | false =>
    refine br_t rfl (pure_done fun _ => ?_)
    have hne : ¬ (x0 < 1 ∨ 1073741824 < x0 ∨ x1 < 1 ∨ 1099511627776 < x1 ∨ x2 < 0 ∨ x1 ≤ x2) := by omega
    unfold cmdV; dsimp only; rw [if_neg hne, ho]; rfl
  | true =>
    refine br_f rfl (pure_done fun _ => ?_)
    have hne : ¬ (x0 < 1 ∨ 1073741824 < x0 ∨ x1 < 1 ∨ 1099511627776 < x1 ∨ x2 < 0 ∨ x1 ≤ x2) := by omega
    unfold cmdV; dsimp only; rw [if_neg hne, ho]; rfl
theorem firstE_drop {cs : List CmD} {k : Nat} {c : CmD} (h : cs[k]? = some c) : firstE (cs.drop k) = if cmdV c ≠ 0 then cmdV c else firstE (cs.drop (k + 1)) := by
  have hlt : k < cs.length := by
    rcases Nat.lt_or_ge k cs.length with q | q
    · exact q
    · rw [List.getElem?_eq_none q] at h; cases h
  rw [List.drop_eq_getElem_cons hlt]
  rw [List.getElem?_eq_getElem hlt] at h
  rw [Option.some.inj h]; rfl
def ChI (v : Vl) (vs : Vals) (hx : HX) : Prop := ∃ k : Nat, k ≤ v.cs.length ∧ firstE (v.cs.drop k) = firstE v.cs ∧ vs = ⟨[(k : Int)], [], [], [], []⟩ ∧ hx = HX.nil
section
variable {w : World} {ρ : Env} {pre : List Nat} {m m' : Mem} {t : Tree} {R : Ending → World → Prop}
end
theorem len_pos {α : Type} {l : List α} : decide ((l.length : Int) > 0) = decide (l ≠ []) := by
  cases l with
  | nil => rfl
  | cons a r => simp
theorem len_ne {α : Type} {l : List α} : ((l.length : Int) != 0) = decide (l ≠ []) := by
  cases l with
  | nil => rfl
  | cons a r => simp; omega
theorem vchk_any (v : Vl) (a1 : Option Addr) (c1 : Nat) (a2 : Option Addr) (c2 : Nat) (w : World) (H : VlAt w v a1 a2) : Calls Try.prog 24 #[vlV v a1 c1 a2 c2] w (PureAt w (.int .i64 (valE v))) := by
  have hl1 := H.l1
  refine calls_at (tab_ok _) Try.func24 rfl tChk (ρ := ⟨[v.k], [], [], [v.cs.length, c1, v.ns.length, c2], [a1, a2]⟩) (ids := []) rfl (Facts.initP rfl oneNil) ?_
  by_cases k0 : v.k = 0
  · refine br_t (show (v.k == 0) = true by simpa using k0) ?_
    by_cases h1 : v.cs = []
    · refine br_f (show decide ((v.cs.length : Int) > 0) = false by rw [len_pos]; simpa using h1) ?_
      by_cases h2 : v.ns = []
      · refine br_f (show decide ((v.ns.length : Int) > 0) = false by rw [len_pos]; simpa using h2) (pure_done fun _ => ?_)
        unfold valE; rw [if_pos k0, if_neg (by simp [h1, h2])]; rfl
      · refine br_t (show decide ((v.ns.length : Int) > 0) = true by rw [len_pos]; simpa using h2) (pure_done fun _ => ?_)
        unfold valE; rw [if_pos k0, if_pos (.inr h2)]; rfl
    · refine br_t (show decide ((v.cs.length : Int) > 0) = true by rw [len_pos]; simpa using h1) (pure_done fun _ => ?_)
      unfold valE; rw [if_pos k0, if_pos (.inl h1)]; rfl
  refine br_f (show (v.k == 0) = false by simpa using k0) ?_
  by_cases k2 : v.k = 2
  · refine br_t (show (v.k == 2) = true by simpa using k2) ?_
    by_cases h1 : v.cs = []
    · refine br_f (show decide ((v.cs.length : Int) > 0) = false by rw [len_pos]; simpa using h1) ?_
      refine node_pure ⟨[checkV v.ns], [], [], [], []⟩ rfl rfl rfl oneNil (fun ids w2 hp hf => ?_) (pure_done fun _ => ?_)
      · exact (check_any a2 c2 v.ns w2 (H.n.ext hf.chg.below)).mono fun e w' h => ⟨h.1, by rw [← h.2]; exact Below.refl _ _⟩
      · unfold valE; rw [if_neg k0, if_pos k2, if_neg (by simpa using h1)]; rfl
    · refine br_t (show decide ((v.cs.length : Int) > 0) = true by rw [len_pos]; simpa using h1) (pure_done fun _ => ?_)
      unfold valE; rw [if_neg k0, if_pos k2, if_pos h1]; rfl
  refine br_f (show (v.k == 2) = false by simpa using k2) ?_
  by_cases k1 : v.k = 1
  · refine br_t (show (v.k == 1) = true by simpa using k1) ?_
    have val : ∀ (b : Prop), (v.cs = [] ∨ 8 < v.cs.length ∨ v.ns ≠ []) → valE v = 25 := fun _ h => by unfold valE; rw [if_neg k0, if_neg k2, if_pos k1, if_pos h]
    by_cases h1 : v.cs = []
    · refine br_t (show decide ((v.cs.length : Int) < 1) = true by rw [h1]; rfl) (pure_done fun _ => ?_)
      rw [val True (.inl h1)]; rfl
    refine br_f (show decide ((v.cs.length : Int) < 1) = false from decide_eq_false (by have := List.length_pos_iff.2 h1; omega)) ?_
    by_cases h2 : 8 < v.cs.length
    · refine br_t (show decide ((v.cs.length : Int) > 8) = true from decide_eq_true (by omega)) (pure_done fun _ => ?_)
      rw [val True (.inr (.inl h2))]; rfl
    refine br_f (show decide ((v.cs.length : Int) > 8) = false from decide_eq_false (by omega)) ?_
    by_cases h3 : v.ns = []
    · refine br_f (show decide ((v.ns.length : Int) > 0) = false by rw [len_pos]; simpa using h3) ?_
      have hE : valE v = firstE v.cs := by unfold valE; rw [if_neg k0, if_neg k2, if_pos k1, if_neg (by simp [h1, h3]; omega)]
      rw [hE]
      refine loop_i (ChI v) (fun vs => v.cs.length - (vs.i.headD 0).toNat) (fun ids w2 hp hf => ⟨HX.nil, HXok.none _ _, 0, by omega, rfl, rfl, rfl⟩) ?_
      rintro vs hx' hcnt ⟨k, hk1, he, rfl, rfl⟩
      by_cases hk : k < v.cs.length
      · refine br_t (show decide ((k : Int) < (v.cs.length : Int)) = true from decide_eq_true (by omega)) ?_
        obtain ⟨c, hc⟩ : ∃ b, v.cs[k]? = some b := ⟨_, List.getElem?_eq_getElem hk⟩
        obtain ⟨s1, c1⟩ := c_elt H.c hc
        refine need_i ⟨s1, (show (0 : Int) ≤ k by omega), (show (k : Int) < v.cs.length by omega)⟩ ?_
        refine ⟨⟨c.is, [], [], [], []⟩, fun ids => c1 _ (fun q => q), ⟨rfl, oneNil⟩, ?_⟩
        refine node_val ⟨[cmdV c], [], [], [], []⟩ (fun w => cmd_any c w) (fun _ => rfl) (fun _ => rfl) rfl rfl rfl oneNil ?_
        have hfe := firstE_drop hc
        rw [he] at hfe
        by_cases hz : cmdV c = 0
        · refine br_f (show (cmdV c != 0) = false by simpa using hz) ?_
          rw [if_neg (by simpa using hz)] at hfe
          have hwk : IntKind.i64.wrap ((k : Int) + 1) = ((k + 1 : Nat) : Int) := by rw [wrap_i64 (by omega)]; omega
          intro ids w2 hp hf
          refine ⟨HX.nil, HXok.none _ _, _, rfl, ⟨k + 1, by omega, hfe.symm, by rw [← hwk]; rfl, rfl⟩, ?_⟩
          show v.cs.length - (IntKind.i64.wrap ((k : Int) + 1)).toNat < v.cs.length - ((k : Int)).toNat
          rw [hwk]; omega
        · refine br_t (show (cmdV c != 0) = true by simpa using hz) (pure_done fun _ => ?_)
          rw [if_pos hz] at hfe
          rw [hfe]; rfl
      · refine br_f (show decide ((k : Int) < (v.cs.length : Int)) = false from decide_eq_false (by omega)) (pure_done fun _ => ?_)
        rw [← he, List.drop_of_length_le (by omega)]; rfl
    · refine br_t (show decide ((v.ns.length : Int) > 0) = true by rw [len_pos]; simpa using h3) (pure_done fun _ => ?_)
      rw [val True (.inr (.inr h3))]; rfl
  refine br_f (show (v.k == 1) = false by simpa using k1) (pure_done fun _ => ?_)
  unfold valE; rw [if_neg k0, if_neg k2, if_neg k1]; rfl
end Go.Proofs.Ytbedoemdjlollaa
