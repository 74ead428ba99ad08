/- Part 15 of the texts of a proof about the given program: what the statement's proof needs of them. -/
import Derived.Test.YtadgaefmoobcoaaRows
import Derived.Laws.Cover2
import Derived.Laws.ComplexArith
import Derived.Deep.DeepCutAuto
import Derived.KernelRfl
import Derived.Test.YtadgaefmoobcoaaKMsgDecodes14
namespace Go.Syn
structure OpD where
  kind : Int
  reg : Int
  tg : Int
  re : Int
  im : Int
def OpD.cells (o : OpD) : List Value := [.int .i64 o.kind, .int .i64 o.reg, .int .i64 o.tg, .int .i64 o.re, .int .i64 o.im]
def fitB (re im : Int) : Bool := decide (-1048576 ≤ re ∧ re ≤ 1048576 ∧ -1048576 ≤ im ∧ im ≤ 1048576)
def numV (re im : Int) : Value := if fitB re im then .complex .f64 (floatOfInt .f64 re) (floatOfInt .f64 im) else .complex .f64 0 0
def inB (x lo hi : Int) : Bool := decide (lo ≤ x ∧ x ≤ hi)
def bareB (re im : Int) : Bool := decide (re = 0 ∧ im = 0)
def opB (o : OpD) : Bool :=
  inB o.reg 0 7 &&
  if o.kind = 1 then bareB o.re o.im && decide (o.tg = 0)
  else if o.kind = 2 ∨ o.kind = 3 ∨ o.kind = 4 then fitB o.re o.im && decide (o.tg = 0)
  else if o.kind = 5 then bareB o.re o.im && inB o.tg 0 3
  else if o.kind = 6 then bareB o.re o.im && inB o.tg 0 7
  else if o.kind = 7 then fitB o.re o.im && inB o.tg 0 7
  else false
end Go.Syn
namespace Go.Proofs.Ytadgaefmoobcoaa
open Go.ChangeShapes Go.WideShapes Go.ChangeAt Go.RowKit Go.Syn
set_option linter.unusedVariables false
set_option linter.unusedSimpArgs false

theorem within_any (x lo hi : Int) (w : World) : Calls Try.prog 91 #[.int .i64 x, .int .i64 lo, .int .i64 hi] w fun e w' => e = .returned (.bool (inB x lo hi)) ∧ w = w' := by
  have E := Lib.hid (show inB x lo hi = decide (lo ≤ x ∧ x ≤ hi) from rfl)
  go_enter Try.func91, Try.ntmps91
  go_wp2
  all_goals
    go_ret
    exact ⟨by rw [E.out]; exact ret_bool (by simp; try omega), rfl⟩

theorem of_any (re im : Int) (w : World) : Calls Try.prog 92 #[.int .i64 re, .int .i64 im] w fun e w' => e = .returned (.tuple #[numV re im, .bool (fitB re im)]) ∧ w = w' := by
  have E := Lib.hid (show fitB re im = decide (-1048576 ≤ re ∧ re ≤ 1048576 ∧ -1048576 ≤ im ∧ im ≤ 1048576) from rfl)
  by_cases h : -1048576 ≤ re ∧ re ≤ 1048576 ∧ -1048576 ≤ im ∧ im ≤ 1048576
  · have F1 := Lib.hid (show fitB re im = true by rw [E.out]; exact decide_eq_true h)
    have F2 := Lib.hid (show numV re im = .complex .f64 (floatOfInt .f64 re) (floatOfInt .f64 im) by unfold numV; rw [if_pos F1.out])
    rw [F1.out, F2.out]
    obtain ⟨h1, h2, h3, h4⟩ := h
    go_enter Try.func92, Try.ntmps92
    go_wp2
    all_goals first
      | (exfalso; omega)
      | exact bodyPost_ret (v := .tuple #[.complex .f64 (floatOfInt .f64 re) (floatOfInt .f64 im), .bool true]) (by simp [results, Try.results92, go_sem]) rfl ⟨rfl, rfl⟩
  · have F1 := Lib.hid (show fitB re im = false by rw [E.out]; exact decide_eq_false h)
    have F2 := Lib.hid (show numV re im = .complex .f64 0 0 by unfold numV; rw [if_neg (by rw [F1.out]; simp)])
    rw [F1.out, F2.out]
    go_enter Try.func92, Try.ntmps92
    go_wp2
    all_goals first
      | (exfalso; omega)
      | exact bodyPost_ret (v := .tuple #[.complex .f64 0 0, .bool false]) (by simp [results, Try.results92, go_sem]) rfl ⟨rfl, rfl⟩

theorem ref03_any (re im : Int) (w : World) : Calls Try.prog 70 #[.int .i64 re, .int .i64 im] w fun e w' => e = .returned (.bool (fitB re im)) ∧ w = w' := by
  have E := Lib.hid (show fitB re im = decide (-1048576 ≤ re ∧ re ≤ 1048576 ∧ -1048576 ≤ im ∧ im ≤ 1048576) from rfl)
  go_enter Try.func70, Try.ntmps70
  go_wp2
  all_goals
    go_ret
    exact ⟨by rw [E.out]; exact ret_bool (by simp; try omega), rfl⟩

set_option maxHeartbeats 2000000 in
theorem opCheck_any (o : OpD) (w : World) : Calls Try.prog 88 #[.agg o.cells.toArray] w fun e w' => e = .returned (.int .i64 (if opB o then 0 else 22)) ∧ Below w.heap.size w w' := by
  obtain ⟨kind, reg, tg, re, im⟩ := o
  have E := Lib.hid (show opB ⟨kind, reg, tg, re, im⟩ = (inB reg 0 7 && if kind = 1 then bareB re im && decide (tg = 0) else if kind = 2 ∨ kind = 3 ∨ kind = 4 then fitB re im && decide (tg = 0) else if kind = 5 then bareB re im && inB tg 0 3 else if kind = 6 then bareB re im && inB tg 0 7 else if kind = 7 then fitB re im && inB tg 0 7 else false) from rfl)
  have EB := Lib.hid (show bareB re im = decide (re = 0 ∧ im = 0) from rfl)
  simp only [OpD.cells]
  generalize opB ⟨kind, reg, tg, re, im⟩ = R at *
  have W := Lib.hid (fun x lo hi => within_any x lo hi)
  have kinds : kind = 1 ∨ kind = 2 ∨ kind = 3 ∨ kind = 4 ∨ kind = 5 ∨ kind = 6 ∨ kind = 7 ∨ (kind < 1 ∨ 7 < kind) := by omega
  by_cases h0 : re = 0 ∧ im = 0
  · obtain ⟨rfl, rfl⟩ := h0
    have B0 : bareB 0 0 = true := rfl
    rw [B0] at E
    clear B0 EB
    go_enter Try.func88, Try.ntmps88
    go_wp2_with fail
    refine (within_any _ _ _ _).mono ?_; rintro e w' ⟨rfl, rfl⟩
    go_wp2_with fail
    refine (of_any _ _ _).mono ?_; rintro e w' ⟨rfl, rfl⟩
    generalize inB reg 0 7 = r1 at *
    generalize fitB 0 0 = f at *
    generalize numV 0 0 = z at *
    rcases kinds with rfl | rfl | rfl | rfl | rfl | rfl | rfl | hk
    all_goals
      go_wp2_with (go_at_call 91; refine (within_any _ _ _ _).mono ?_; rintro e w' ⟨rfl, rfl⟩)
      all_goals first
        | (exfalso; omega)
        | (go_ret
           refine ⟨?_, by exact (by repeat (first | exact Below.refl _ _ | assumption | (refine Below.setCell ?_ (by first | omega | (simp; omega) | (simp; done)) _) | (refine below_drewN ?_ _) | (refine Below.drew ?_) | (refine Below.allocW ?_ _) | (refine Below.alloc ?_ (by first | omega | (simp; omega) | (simp; done)) _)))⟩
           have e := E.out
           first
             | (simp_all; done)
             | (simp_all; omega)
             | (rw [if_neg (by omega), if_neg (by omega), if_neg (by omega), if_neg (by omega), if_neg (by omega)] at e; simp_all)
             | go_show)
  · have B0 : bareB re im = false := by rw [EB.out]; exact decide_eq_false h0
    rw [B0] at E
    clear B0 EB
    by_cases hre : re = 0
    · subst hre
      have hi : (im == 0) = false := by simpa using h0
      clear h0
      go_enter Try.func88, Try.ntmps88
      go_wp2_with fail
      refine (within_any _ _ _ _).mono ?_; rintro e w' ⟨rfl, rfl⟩
      go_wp2_with fail
      refine (of_any _ _ _).mono ?_; rintro e w' ⟨rfl, rfl⟩
      generalize inB reg 0 7 = r1 at *
      generalize fitB 0 im = f at *
      generalize numV 0 im = z at *
      rcases kinds with rfl | rfl | rfl | rfl | rfl | rfl | rfl | hk
      all_goals
        go_wp2_with (go_at_call 91; refine (within_any _ _ _ _).mono ?_; rintro e w' ⟨rfl, rfl⟩)
        all_goals first
          | (exfalso; omega)
          | (go_ret
             refine ⟨?_, by exact (by repeat (first | exact Below.refl _ _ | assumption | (refine Below.setCell ?_ (by first | omega | (simp; omega) | (simp; done)) _) | (refine below_drewN ?_ _) | (refine Below.drew ?_) | (refine Below.allocW ?_ _) | (refine Below.alloc ?_ (by first | omega | (simp; omega) | (simp; done)) _)))⟩
             have e := E.out
             first
               | (simp_all; done)
               | (simp_all; omega)
               | (rw [if_neg (by omega), if_neg (by omega), if_neg (by omega), if_neg (by omega), if_neg (by omega)] at e; simp_all)
               | go_show)
    · have hi : (re == 0) = false := by simpa using hre
      clear h0
      go_enter Try.func88, Try.ntmps88
      go_wp2_with fail
      refine (within_any _ _ _ _).mono ?_; rintro e w' ⟨rfl, rfl⟩
      go_wp2_with fail
      refine (of_any _ _ _).mono ?_; rintro e w' ⟨rfl, rfl⟩
      generalize inB reg 0 7 = r1 at *
      generalize fitB re im = f at *
      generalize numV re im = z at *
      rcases kinds with rfl | rfl | rfl | rfl | rfl | rfl | rfl | hk
      all_goals
        go_wp2_with (go_at_call 91; refine (within_any _ _ _ _).mono ?_; rintro e w' ⟨rfl, rfl⟩)
        all_goals first
          | (exfalso; omega)
          | (go_ret
             refine ⟨?_, by exact (by repeat (first | exact Below.refl _ _ | assumption | (refine Below.setCell ?_ (by first | omega | (simp; omega) | (simp; done)) _) | (refine below_drewN ?_ _) | (refine Below.drew ?_) | (refine Below.allocW ?_ _) | (refine Below.alloc ?_ (by first | omega | (simp; omega) | (simp; done)) _)))⟩
             have e := E.out
             first
               | (simp_all; done)
               | (simp_all; omega)
               | (rw [if_neg (by omega), if_neg (by omega), if_neg (by omega), if_neg (by omega), if_neg (by omega)] at e; simp_all)
               | go_show)
end Go.Proofs.Ytadgaefmoobcoaa

namespace Go.Proofs.Ytadgaefmoobcoaa
open Go.ChangeShapes Go.WideShapes Go.ChangeAt Go.RowKit Go.Syn Go.Eng
set_option linter.unusedVariables false
set_option linter.unusedSimpArgs false
abbrev tRight4b0 : List LV := [(tLi 0), (tLi 0), (tLi 0), (tLi 0), (tLi 0), (tLi 3), (tLi 7), (tLi 7)]
abbrev tRight4m0 : Mem := ⟨[(30, [(tVi 0), (tVi 1), (tVi 2), (tVi 3), (tVi 4)]), (3, tRight4b0)], ⟨6, 0, 0, 0, 0⟩⟩
abbrev tRight4m1 : Mem := ⟨[(30, [(tVi 0), (tVi 1), (tVi 2), (tVi 3), (tVi 4)]), (3, tRight4b0)], ⟨6, 1, 0, 0, 0⟩⟩
abbrev tRight4m2 : Mem := ⟨[(30, [(tVi 0), (tVi 1), (tVi 2), (tVi 3), (tVi 4)])], ⟨5, 0, 0, 0, 0⟩⟩
set_option maxRecDepth 100000 in
theorem tRight4 : (runF ⟨tt, fns, {}⟩ (Try.f69.body.getD .skip) Try.f69.results.toList (entry Try.f69.ntmps [.agg [.int .i64 (.var 0), .int .i64 (.var 1), .int .i64 (.var 2), .int .i64 (.var 3), .int .i64 (.var 4)]] [] ⟨5, 0, 0, 0, 0⟩)) =
  (.br (.cmp .lss (.var 0) (.lit 1)) (.done (.lf (.bool (.lit .false))) tRight4m2) (.br (.cmp .gtr (.var 0) (.lit 7)) (.done (.lf (.bool (.lit .false))) tRight4m2) (.br (.cmp .lss (.var 1) (.lit 0)) (.done (.lf (.bool (.lit .false))) tRight4m2) (.br (.cmp .gtr (.var 1) (.lit 7)) (.done (.lf (.bool (.lit .false))) tRight4m2) (.br (.cmp .lss (.var 2) (.lit 0)) (.done (.lf (.bool (.lit .false))) tRight4m2) (.need (.inr (.var 0) (.lit 8)) (.ld .true (.pix 1 0 1 (.var 0)) [(tVi 5)] ⟨[(30, [(tVi 0), (tVi 1), (tVi 2), (tVi 3), (tVi 4)]), (3, tRight4b0)], ⟨5, 0, 0, 0, 0⟩⟩ tRight4m0 (.br (.cmp .gtr (.var 2) (.var 5)) (.done (.lf (.bool (.lit .false))) tRight4m0) (.call 70 [(.lf (tVi 3)), (.lf (tVi 4))] tRight4m0 (.lf (.bool (.var 0))) tRight4m1 (.br (.not (.var 0)) (.done (.lf (.bool (.lit .false))) tRight4m1) (.br (.cmp .eql (.var 0) (.lit 2)) (.done (.lf (.bool (.lit .true))) tRight4m1) (.br (.cmp .eql (.var 0) (.lit 3)) (.done (.lf (.bool (.lit .true))) tRight4m1) (.br (.cmp .eql (.var 0) (.lit 4)) (.done (.lf (.bool (.lit .true))) tRight4m1) (.br (.cmp .eql (.var 0) (.lit 7)) (.done (.lf (.bool (.lit .true))) tRight4m1) (.br (.cmp .eql (.var 3) (.lit 0)) (.done (.lf (.bool (.cmp .eql (.var 4) (.lit 0)))) tRight4m1) (.done (.lf (.bool (.lit .false))) tRight4m1)))))))))))))))) := by kernel_rfl
def mostV (k : Int) : Int := if k = 5 then 3 else if 6 ≤ k then 7 else 0
theorem opB_iff (o : OpD) : opB o = true ↔ (1 ≤ o.kind ∧ o.kind ≤ 7) ∧ (0 ≤ o.reg ∧ o.reg ≤ 7) ∧ 0 ≤ o.tg ∧ o.tg ≤ mostV o.kind ∧ fitB o.re o.im = true ∧ ((o.kind = 2 ∨ o.kind = 3 ∨ o.kind = 4 ∨ o.kind = 7) ∨ (o.re = 0 ∧ o.im = 0)) := by
  obtain ⟨kind, reg, tg, re, im⟩ := o
  have kinds : kind = 1 ∨ kind = 2 ∨ kind = 3 ∨ kind = 4 ∨ kind = 5 ∨ kind = 6 ∨ kind = 7 ∨ (kind < 1 ∨ 7 < kind) := by omega
  rcases kinds with rfl | rfl | rfl | rfl | rfl | rfl | rfl | hk
  case inr.inr.inr.inr.inr.inr.inr =>
    have : opB ⟨kind, reg, tg, re, im⟩ = false := by
      unfold opB; dsimp only
      rw [if_neg (by omega), if_neg (by omega), if_neg (by omega), if_neg (by omega), if_neg (by omega)]; simp
    rw [this]; dsimp only; constructor
    · intro h; cases h
    · rintro ⟨⟨h1, h2⟩, _⟩; omega
  all_goals
    simp [opB, inB, bareB, fitB, mostV]
    try omega

theorem most_at {k : Nat} (h1 : 1 ≤ k) (h2 : k ≤ 7) : ([0, 0, 0, 0, 0, 3, 7, 7] : List Int)[k]? = some (mostV (k : Int)) := by
  rcases (by omega : k = 1 ∨ k = 2 ∨ k = 3 ∨ k = 4 ∨ k = 5 ∨ k = 6 ∨ k = 7) with rfl | rfl | rfl | rfl | rfl | rfl | rfl <;> decide
theorem refOp_pure (o : OpD) (w : World) : Calls Try.prog 69 #[.agg o.cells.toArray] w (PureAt w (.bool (opB o))) := by
  have E := opB_iff o
  have no : ∀ {R : Bool}, (opB o = true ↔ R = true) → opB o = R := fun h => Bool.eq_iff_iff.2 h
  obtain ⟨kind, reg, tg, re, im⟩ := o
  dsimp only at E
  generalize hR : opB ⟨kind, reg, tg, re, im⟩ = R at *
  refine calls_at (tab_ok _) Try.func69 rfl tRight4 (ρ := ⟨[kind, reg, tg, re, im], [], [], [], []⟩) (ids := []) rfl (Facts.initP rfl oneNil) ?_
  have bad : ∀ {m : Mem} {ρ : Env} {pre : List Nat} {hx : HX} {L : Stack}, ¬ (R = true) → (Tree.done (.lf (.bool (.lit false))) m).holds ⟨Try.prog, w, fun _ => False, PureAt w (.bool R)⟩ ρ pre hx L := fun h => pure_done fun _ => by
    have : R = false := by simpa using h
    rw [this]; rfl
  refine br_i (fun h => bad ?_) (fun h1 => ?_)
  · have := of_decide_eq_true (show decide (kind < 1) = true from h); rw [E]; omega
  have h1 := of_decide_eq_false (show decide (kind < 1) = false from h1)
  refine br_i (fun h => bad ?_) (fun h2 => ?_)
  · have := of_decide_eq_true (show decide (kind > 7) = true from h); rw [E]; omega
  have h2 := of_decide_eq_false (show decide (kind > 7) = false from h2)
  refine br_i (fun h => bad ?_) (fun h3 => ?_)
  · have := of_decide_eq_true (show decide (reg < 0) = true from h); rw [E]; omega
  have h3 := of_decide_eq_false (show decide (reg < 0) = false from h3)
  refine br_i (fun h => bad ?_) (fun h4 => ?_)
  · have := of_decide_eq_true (show decide (reg > 7) = true from h); rw [E]; omega
  have h4 := of_decide_eq_false (show decide (reg > 7) = false from h4)
  refine br_i (fun h => bad ?_) (fun h5 => ?_)
  · have := of_decide_eq_true (show decide (tg < 0) = true from h); rw [E]; omega
  have h5 := of_decide_eq_false (show decide (tg < 0) = false from h5)
  obtain ⟨k, rfl⟩ : ∃ k : Nat, kind = (k : Int) := ⟨kind.toNat, by omega⟩
  refine need_i (show (0 : Int) ≤ k ∧ (k : Int) < 8 by omega) ?_
  refine node_ldp (i := k) (us := ([0, 0, 0, 0, 0, 3, 7, 7] : List Int).map (Value.int .i64)) ⟨[mostV (k : Int)], [], [], [], []⟩ rfl rfl (fun _ => rfl) (fun ids j u hj => ?_) rfl oneNil ?_
  · have hj2 : ([Value.int .i64 (mostV (k : Int))] : List Value)[j]? = some u := hj
    have : j = 0 := by
      rcases j with _ | j
      · rfl
      · simp at hj2
    subst this
    rw [show 0 + k * 1 + 0 = k by omega, List.getElem?_map, most_at (by omega) (by omega)]
    exact hj2
  refine br_i (fun h => bad ?_) (fun h6 => ?_)
  · have := of_decide_eq_true (show decide (tg > mostV (k : Int)) = true from h); rw [E]; omega
  have h6 := of_decide_eq_false (show decide (tg > mostV (k : Int)) = false from h6)
  refine node_val ⟨[], [fitB re im], [], [], []⟩ (fun w => pure_same (ref03_any re im w)) (fun _ => rfl) (fun _ => rfl) rfl rfl rfl oneNil ?_
  refine br_i (fun h => bad ?_) (fun h7 => ?_)
  · have : fitB re im = false := by simpa using (show (!fitB re im) = true from h)
    rw [E, this]; simp
  have h7 : fitB re im = true := by simpa using (show (!fitB re im) = false from h7)
  have good : ∀ {m : Mem} {ρ : Env} {pre : List Nat} {hx : HX} {L : Stack}, ((k : Int) = 2 ∨ (k : Int) = 3 ∨ (k : Int) = 4 ∨ (k : Int) = 7) → (Tree.done (.lf (.bool (.lit true))) m).holds ⟨Try.prog, w, fun _ => False, PureAt w (.bool R)⟩ ρ pre hx L := fun h => pure_done fun _ => by
    have : R = true := E.2 ⟨by omega, by omega, by omega, by omega, h7, .inl h⟩
    rw [this]; rfl
  refine br_i (fun h => good (.inl (by simpa using (show ((k : Int) == 2) = true from h)))) (fun g1 => ?_)
  refine br_i (fun h => good (.inr (.inl (by simpa using (show ((k : Int) == 3) = true from h))))) (fun g2 => ?_)
  refine br_i (fun h => good (.inr (.inr (.inl (by simpa using (show ((k : Int) == 4) = true from h)))))) (fun g3 => ?_)
  refine br_i (fun h => good (.inr (.inr (.inr (by simpa using (show ((k : Int) == 7) = true from h)))))) (fun g4 => ?_)
  have g1 : ¬ (k : Int) = 2 := by simpa using (show ((k : Int) == 2) = false from g1)
  have g2 : ¬ (k : Int) = 3 := by simpa using (show ((k : Int) == 3) = false from g2)
  have g3 : ¬ (k : Int) = 4 := by simpa using (show ((k : Int) == 4) = false from g3)
  have g4 : ¬ (k : Int) = 7 := by simpa using (show ((k : Int) == 7) = false from g4)
  refine br_i (fun h => ?_) (fun h => bad ?_)
  · have h : re = 0 := by simpa using (show (re == 0) = true from h)
    refine pure_done fun _ => ?_
    have : R = (im == 0) := by
      rw [Bool.eq_iff_iff, E, beq_iff_eq]
      constructor
      · rintro ⟨_, _, _, _, _, h8⟩; omega
      · intro h8; exact ⟨by omega, by omega, by omega, by omega, h7, .inr ⟨h, h8⟩⟩
    rw [this]; rfl
  · have h : ¬ re = 0 := by simpa using (show (re == 0) = false from h)
    rw [E]; omega
end Go.Proofs.Ytadgaefmoobcoaa

namespace Go.Syn
structure CmD where
  sess : Int
  seq : Int
  ack : Int
  op : OpD
def CmD.is (c : CmD) : List Int := [c.sess, c.seq, c.ack, c.op.kind, c.op.reg, c.op.tg, c.op.re, c.op.im]
def CmD.cells (c : CmD) : List Value := [.int .i64 c.sess, .int .i64 c.seq, .int .i64 c.ack, .int .i64 c.op.kind, .int .i64 c.op.reg, .int .i64 c.op.tg, .int .i64 c.op.re, .int .i64 c.op.im]
def cmdV (c : CmD) : Int := if c.sess < 1 ∨ 1073741824 < c.sess ∨ c.seq < 1 ∨ 1099511627776 < c.seq ∨ c.ack < 0 ∨ c.seq ≤ c.ack then 23 else if opB c.op then 0 else 22
def ccells (cs : List CmD) : List Value := cs.flatMap CmD.cells
def firstE : List CmD → Int
  | [] => 0
  | c :: r => if cmdV c ≠ 0 then cmdV c else firstE r
structure Vl where
  k : Int
  cs : List CmD
  ns : List Int
def valE (v : Vl) : Int :=
  if v.k = 0 then (if v.cs ≠ [] ∨ v.ns ≠ [] then 25 else 0)
  else if v.k = 2 then (if v.cs ≠ [] then 25 else checkV v.ns)
  else if v.k = 1 then (if v.cs = [] ∨ 8 < v.cs.length ∨ v.ns ≠ [] then 25 else firstE v.cs) else 25
end Go.Syn
namespace Go.Proofs.Ytadgaefmoobcoaa
open Go.ChangeShapes Go.WideShapes Go.ChangeAt Go.RowKit Go.Syn Go.Eng
set_option linter.unusedVariables false
set_option linter.unusedSimpArgs false
set_option maxRecDepth 100000
def vlV (v : Vl) (a1 : Option Addr) (c1 : Nat) (a2 : Option Addr) (c2 : Nat) : Value := .agg #[.int .i64 v.k, .slice a1 v.cs.length c1, .slice a2 v.ns.length c2]
structure VlAt (w : World) (v : Vl) (a1 a2 : Option Addr) : Prop where
  c : Cells w a1 (ccells v.cs)
  n : Ints w a2 v.ns
  l1 : v.cs.length ≤ 2199023255552
  l2 : v.ns.length ≤ 17592186044416
theorem ccells_get : ∀ {vs : List CmD} {i : Nat} {v : CmD}, vs[i]? = some v → ∀ j u, v.cells[j]? = some u → (ccells vs)[i * 8 + j]? = some u
  | q :: r, 0, p, h, j, u, hu => by
    simp only [List.getElem?_cons_zero, Option.some.injEq] at h
    subst h
    show (CmD.cells q ++ ccells r)[0 * 8 + j]? = _
    have hj : j < q.cells.length := by
      rcases Nat.lt_or_ge j q.cells.length with g | g
      · exact g
      · rw [List.getElem?_eq_none g] at hu; cases hu
    rw [Nat.zero_mul, Nat.zero_add, List.getElem?_append_left hj]; exact hu
  | q :: r, i + 1, p, h, j, u, hu => by
    have := ccells_get (vs := r) (i := i) (by simpa using h) j u hu
    show (CmD.cells q ++ ccells r)[(i + 1) * 8 + j]? = _
    rw [List.getElem?_append_right (by show 8 ≤ _; omega)]
    rw [← this]
    congr 1
    show (i + 1) * 8 + j - 8 = _
    omega
theorem c_elt {w : World} {a : Option Addr} {cs : List CmD} (h : Cells w a (ccells cs)) {i : Nat} {c : CmD} (hi : cs[i]? = some c) :
    a.isSome = true ∧ ∀ (N : Nat → Prop), ¬ N ((a.getD ⟨0, 0, none⟩).block) → CellsAt w (.pointer (some (((a.getD ⟨0, 0, none⟩).add (i * 8)).add 0))) c.cells N :=
  cl_elt h c.cells (fun j u hj => ccells_get hi j u hj) (by simp [CmD.cells])
theorem cmd_any (c : CmD) (w : World) : Calls Try.prog 67 #[.agg c.cells.toArray] w (PureAt w (.int .i64 (cmdV c))) := by
  obtain ⟨x0, x1, x2, o⟩ := c
  refine calls_at (tab_ok _) Try.func67 rfl tCmd (ρ := ⟨[x0, x1, x2, o.kind, o.reg, o.tg, o.re, o.im], [], [], [], []⟩) (ids := []) rfl (Facts.initP rfl oneNil) ?_
  have bad : ∀ {m : Mem} {ρ : Env} {pre : List Nat} {hx : HX} {L : Stack}, (x0 < 1 ∨ 1073741824 < x0 ∨ x1 < 1 ∨ 1099511627776 < x1 ∨ x2 < 0 ∨ x1 ≤ x2) → (Tree.done (.lf (.int .i64 (.lit 23))) m).holds ⟨Try.prog, w, fun _ => False, PureAt w (.int .i64 (cmdV ⟨x0, x1, x2, o⟩))⟩ ρ pre hx L := fun h => pure_done fun _ => by
    unfold cmdV; dsimp only; rw [if_pos h]; rfl
  refine br_i (fun h => bad (.inl (of_decide_eq_true (show decide (x0 < 1) = true from h)))) (fun h1 => ?_)
  refine br_i (fun h => bad (.inr (.inl (of_decide_eq_true (show decide (x0 > 1073741824) = true from h))))) (fun h2 => ?_)
  refine br_i (fun h => bad (.inr (.inr (.inl (of_decide_eq_true (show decide (x1 < 1) = true from h)))))) (fun h3 => ?_)
  refine br_i (fun h => bad (.inr (.inr (.inr (.inl (of_decide_eq_true (show decide (x1 > 1099511627776) = true from h))))))) (fun h4 => ?_)
  refine br_i (fun h => bad (.inr (.inr (.inr (.inr (.inl (of_decide_eq_true (show decide (x2 < 0) = true from h)))))))) (fun h5 => ?_)
  refine br_i (fun h => bad (.inr (.inr (.inr (.inr (.inr (of_decide_eq_true (show decide (x2 ≥ x1) = true from h)))))))) (fun h6 => ?_)
  have h1 := of_decide_eq_false (show decide (x0 < 1) = false from h1)
  have h2 := of_decide_eq_false (show decide (x0 > 1073741824) = false from h2)
  have h3 := of_decide_eq_false (show decide (x1 < 1) = false from h3)
  have h4 := of_decide_eq_false (show decide (x1 > 1099511627776) = false from h4)
  have h5 := of_decide_eq_false (show decide (x2 < 0) = false from h5)
  have h6 := of_decide_eq_false (show decide (x2 ≥ x1) = false from h6)
  refine node_val ⟨[if opB o then 0 else 22], [], [], [], []⟩ (fun w => opCheck_any o w) (fun _ => rfl) (fun _ => rfl) rfl rfl rfl oneNil (pure_done fun _ => ?_)
  have hne : ¬ (x0 < 1 ∨ 1073741824 < x0 ∨ x1 < 1 ∨ 1099511627776 < x1 ∨ x2 < 0 ∨ x1 ≤ x2) := by omega
  unfold cmdV; dsimp only; rw [if_neg hne]; rfl
theorem rcmd_any (c : CmD) (w : World) : Calls Try.prog 38 #[.agg c.cells.toArray] w (PureAt w (.int .i64 (cmdV c))) := by
  obtain ⟨x0, x1, x2, o⟩ := c
  refine calls_at (tab_ok _) Try.func38 rfl tRCmd (ρ := ⟨[x0, x1, x2, o.kind, o.reg, o.tg, o.re, o.im], [], [], [], []⟩) (ids := []) rfl (Facts.initP rfl oneNil) ?_
  have bad : ∀ {m : Mem} {ρ : Env} {pre : List Nat} {hx : HX} {L : Stack}, (x0 < 1 ∨ 1073741824 < x0 ∨ x1 < 1 ∨ 1099511627776 < x1 ∨ x2 < 0 ∨ x1 ≤ x2) → (Tree.done (.lf (.int .i64 (.lit 23))) m).holds ⟨Try.prog, w, fun _ => False, PureAt w (.int .i64 (cmdV ⟨x0, x1, x2, o⟩))⟩ ρ pre hx L := fun h => pure_done fun _ => by
    unfold cmdV; dsimp only; rw [if_pos h]; rfl
  refine br_i (fun h => bad (.inl (of_decide_eq_true (show decide (x0 < 1) = true from h)))) (fun h1 => ?_)
  refine br_i (fun h => bad (.inr (.inl (of_decide_eq_true (show decide (x0 > 1073741824) = true from h))))) (fun h2 => ?_)
  refine br_i (fun h => bad (.inr (.inr (.inl (of_decide_eq_true (show decide (x1 < 1) = true from h)))))) (fun h3 => ?_)
  refine br_i (fun h => bad (.inr (.inr (.inr (.inl (of_decide_eq_true (show decide (x1 > 1099511627776) = true from h))))))) (fun h4 => ?_)
  refine br_i (fun h => bad (.inr (.inr (.inr (.inr (.inl (of_decide_eq_true (show decide (x2 < 0) = true from h)))))))) (fun h5 => ?_)
  refine br_i (fun h => bad (.inr (.inr (.inr (.inr (.inr (of_decide_eq_true (show decide (x2 ≥ x1) = true from h)))))))) (fun h6 => ?_)
  have h1 := of_decide_eq_false (show decide (x0 < 1) = false from h1)
  have h2 := of_decide_eq_false (show decide (x0 > 1073741824) = false from h2)
  have h3 := of_decide_eq_false (show decide (x1 < 1) = false from h3)
  have h4 := of_decide_eq_false (show decide (x1 > 1099511627776) = false from h4)
  have h5 := of_decide_eq_false (show decide (x2 < 0) = false from h5)
  have h6 := of_decide_eq_false (show decide (x2 ≥ x1) = false from h6)
  refine node_val ⟨[], [opB o], [], [], []⟩ (fun w => refOp_pure o w) (fun _ => rfl) (fun _ => rfl) rfl rfl rfl oneNil ?_
  cases ho : opB o with
  | false =>
    refine br_t rfl (pure_done fun _ => ?_)
    have hne : ¬ (x0 < 1 ∨ 1073741824 < x0 ∨ x1 < 1 ∨ 1099511627776 < x1 ∨ x2 < 0 ∨ x1 ≤ x2) := by omega
    unfold cmdV; dsimp only; rw [if_neg hne, ho]; rfl
  | true =>
    refine br_f rfl (pure_done fun _ => ?_)
    have hne : ¬ (x0 < 1 ∨ 1073741824 < x0 ∨ x1 < 1 ∨ 1099511627776 < x1 ∨ x2 < 0 ∨ x1 ≤ x2) := by omega
    unfold cmdV; dsimp only; rw [if_neg hne, ho]; rfl
theorem firstE_drop {cs : List CmD} {k : Nat} {c : CmD} (h : cs[k]? = some c) : firstE (cs.drop k) = if cmdV c ≠ 0 then cmdV c else firstE (cs.drop (k + 1)) := by
  have hlt : k < cs.length := by
    rcases Nat.lt_or_ge k cs.length with q | q
    · exact q
    · rw [List.getElem?_eq_none q] at h; cases h
  rw [List.drop_eq_getElem_cons hlt]
  rw [List.getElem?_eq_getElem hlt] at h
  rw [Option.some.inj h]; rfl
def ChI (v : Vl) (vs : Vals) (hx : HX) : Prop := ∃ k : Nat, k ≤ v.cs.length ∧ firstE (v.cs.drop k) = firstE v.cs ∧ vs = ⟨[(k : Int)], [], [], [], []⟩ ∧ hx = HX.nil
section
variable {w : World} {ρ : Env} {pre : List Nat} {m m' : Mem} {t : Tree} {R : Ending → World → Prop}
end
theorem len_pos {α : Type} {l : List α} : decide ((l.length : Int) > 0) = decide (l ≠ []) := by
  cases l with
  | nil => rfl
  | cons a r => simp
theorem len_ne {α : Type} {l : List α} : ((l.length : Int) != 0) = decide (l ≠ []) := by
  cases l with
  | nil => rfl
  | cons a r => simp; omega
theorem vchk_any (v : Vl) (a1 : Option Addr) (c1 : Nat) (a2 : Option Addr) (c2 : Nat) (w : World) (H : VlAt w v a1 a2) : Calls Try.prog 30 #[vlV v a1 c1 a2 c2] w (PureAt w (.int .i64 (valE v))) := by
  have hl1 := H.l1
  refine calls_at (tab_ok _) Try.func30 rfl tChk (ρ := ⟨[v.k], [], [], [v.cs.length, c1, v.ns.length, c2], [a1, a2]⟩) (ids := []) rfl (Facts.initP rfl oneNil) ?_
  by_cases k0 : v.k = 0
  · refine br_t (show (v.k == 0) = true by simpa using k0) ?_
    by_cases h1 : v.cs = []
    · refine br_f (show decide ((v.cs.length : Int) > 0) = false by rw [len_pos]; simpa using h1) ?_
      by_cases h2 : v.ns = []
      · refine br_f (show decide ((v.ns.length : Int) > 0) = false by rw [len_pos]; simpa using h2) (pure_done fun _ => ?_)
        unfold valE; rw [if_pos k0, if_neg (by simp [h1, h2])]; rfl
      · refine br_t (show decide ((v.ns.length : Int) > 0) = true by rw [len_pos]; simpa using h2) (pure_done fun _ => ?_)
        unfold valE; rw [if_pos k0, if_pos (.inr h2)]; rfl
    · refine br_t (show decide ((v.cs.length : Int) > 0) = true by rw [len_pos]; simpa using h1) (pure_done fun _ => ?_)
      unfold valE; rw [if_pos k0, if_pos (.inl h1)]; rfl
  refine br_f (show (v.k == 0) = false by simpa using k0) ?_
  by_cases k2 : v.k = 2
  · refine br_t (show (v.k == 2) = true by simpa using k2) ?_
    by_cases h1 : v.cs = []
    · refine br_f (show decide ((v.cs.length : Int) > 0) = false by rw [len_pos]; simpa using h1) ?_
      refine node_pure ⟨[checkV v.ns], [], [], [], []⟩ rfl rfl rfl oneNil (fun ids w2 hp hf => ?_) (pure_done fun _ => ?_)
      · exact (check_any a2 c2 v.ns w2 (H.n.ext hf.chg.below)).mono fun e w' h => ⟨h.1, by rw [← h.2]; exact Below.refl _ _⟩
      · unfold valE; rw [if_neg k0, if_pos k2, if_neg (by simpa using h1)]; rfl
    · refine br_t (show decide ((v.cs.length : Int) > 0) = true by rw [len_pos]; simpa using h1) (pure_done fun _ => ?_)
      unfold valE; rw [if_neg k0, if_pos k2, if_pos h1]; rfl
  refine br_f (show (v.k == 2) = false by simpa using k2) ?_
  by_cases k1 : v.k = 1
  · refine br_t (show (v.k == 1) = true by simpa using k1) ?_
    have val : ∀ (b : Prop), (v.cs = [] ∨ 8 < v.cs.length ∨ v.ns ≠ []) → valE v = 25 := fun _ h => by unfold valE; rw [if_neg k0, if_neg k2, if_pos k1, if_pos h]
    by_cases h1 : v.cs = []
    · refine br_t (show decide ((v.cs.length : Int) < 1) = true by rw [h1]; rfl) (pure_done fun _ => ?_)
      rw [val True (.inl h1)]; rfl
    refine br_f (show decide ((v.cs.length : Int) < 1) = false from decide_eq_false (by have := List.length_pos_iff.2 h1; omega)) ?_
    by_cases h2 : 8 < v.cs.length
    · refine br_t (show decide ((v.cs.length : Int) > 8) = true from decide_eq_true (by omega)) (pure_done fun _ => ?_)
      rw [val True (.inr (.inl h2))]; rfl
    refine br_f (show decide ((v.cs.length : Int) > 8) = false from decide_eq_false (by omega)) ?_
    by_cases h3 : v.ns = []
    · refine br_f (show decide ((v.ns.length : Int) > 0) = false by rw [len_pos]; simpa using h3) ?_
      have hE : valE v = firstE v.cs := by unfold valE; rw [if_neg k0, if_neg k2, if_pos k1, if_neg (by simp [h1, h3]; omega)]
      rw [hE]
      refine loop_i (ChI v) (fun vs => v.cs.length - (vs.i.headD 0).toNat) (fun ids w2 hp hf => ⟨HX.nil, HXok.none _ _, 0, by omega, rfl, rfl, rfl⟩) ?_
      rintro vs hx' hcnt ⟨k, hk1, he, rfl, rfl⟩
      by_cases hk : k < v.cs.length
      · refine br_t (show decide ((k : Int) < (v.cs.length : Int)) = true from decide_eq_true (by omega)) ?_
        obtain ⟨c, hc⟩ : ∃ b, v.cs[k]? = some b := ⟨_, List.getElem?_eq_getElem hk⟩
        obtain ⟨s1, c1⟩ := c_elt H.c hc
        refine need_i ⟨s1, (show (0 : Int) ≤ k by omega), (show (k : Int) < v.cs.length by omega)⟩ ?_
        refine ⟨⟨c.is, [], [], [], []⟩, fun ids => c1 _ (fun q => q), ⟨rfl, oneNil⟩, ?_⟩
        refine node_val ⟨[cmdV c], [], [], [], []⟩ (fun w => cmd_any c w) (fun _ => rfl) (fun _ => rfl) rfl rfl rfl oneNil ?_
        have hfe := firstE_drop hc
        rw [he] at hfe
        by_cases hz : cmdV c = 0
        · refine br_f (show (cmdV c != 0) = false by simpa using hz) ?_
          rw [if_neg (by simpa using hz)] at hfe
          have hwk : IntKind.i64.wrap ((k : Int) + 1) = ((k + 1 : Nat) : Int) := by rw [wrap_i64 (by omega)]; omega
          intro ids w2 hp hf
          refine ⟨HX.nil, HXok.none _ _, _, rfl, ⟨k + 1, by omega, hfe.symm, by rw [← hwk]; rfl, rfl⟩, ?_⟩
          show v.cs.length - (IntKind.i64.wrap ((k : Int) + 1)).toNat < v.cs.length - ((k : Int)).toNat
          rw [hwk]; omega
        · refine br_t (show (cmdV c != 0) = true by simpa using hz) (pure_done fun _ => ?_)
          rw [if_pos hz] at hfe
          rw [hfe]; rfl
      · refine br_f (show decide ((k : Int) < (v.cs.length : Int)) = false from decide_eq_false (by omega)) (pure_done fun _ => ?_)
        rw [← he, List.drop_of_length_le (by omega)]; rfl
    · refine br_t (show decide ((v.ns.length : Int) > 0) = true by rw [len_pos]; simpa using h3) (pure_done fun _ => ?_)
      rw [val True (.inr (.inr h3))]; rfl
  refine br_f (show (v.k == 1) = false by simpa using k1) (pure_done fun _ => ?_)
  unfold valE; rw [if_neg k0, if_neg k2, if_neg k1]; rfl
end Go.Proofs.Ytadgaefmoobcoaa

namespace Go.Proofs.Ytadgaefmoobcoaa
open Go.ChangeShapes Go.WideShapes Go.ChangeAt Go.RowKit Go.Syn Go.Eng
set_option linter.unusedVariables false
set_option linter.unusedSimpArgs false
set_option maxRecDepth 100000
theorem take_stepV {α : Type} {xs ys : List α} {k : Nat} {x y : α} (hx : xs[k]? = some x) (hy : ys[k]? = some y) (h : xs.take k = ys.take k) : xs.take (k + 1) = ys.take (k + 1) ↔ x = y := by
  rw [List.take_add_one, List.take_add_one, hx, hy, h]
  simp
theorem rchk_any (v : Vl) (a1 : Option Addr) (c1 : Nat) (a2 : Option Addr) (c2 : Nat) (w : World) (H : VlAt w v a1 a2) : Calls Try.prog 37 #[vlV v a1 c1 a2 c2] w (PureAt w (.int .i64 (valE v))) := by
  have hl1 := H.l1
  by_cases k0 : v.k = 0
  · unfold vlV
    rw [k0]
    refine calls_at (tab_ok _) Try.func37 rfl tRChk0 (ρ := ⟨[], [], [], [v.cs.length, c1, v.ns.length, c2], [a1, a2]⟩) (ids := []) rfl (Facts.initP rfl oneNil) ?_
    by_cases h1 : v.cs = []
    · refine br_f (show ((v.cs.length : Int) != 0) = false by rw [len_ne]; simpa using h1) ?_
      by_cases h2 : v.ns = []
      · refine br_f (show ((v.ns.length : Int) != 0) = false by rw [len_ne]; simpa using h2) ?_
        have hE : valE v = firstE v.cs := by unfold valE; rw [if_pos k0, if_neg (by simp [h1, h2]), h1]; rfl
        rw [hE]
        refine loop_i (ChI v) (fun vs => v.cs.length - (vs.i.headD 0).toNat) (fun ids w2 hp hf => ⟨HX.nil, HXok.none _ _, 0, by omega, rfl, rfl, rfl⟩) ?_
        rintro vs hx' hcnt ⟨k, hk1, he, rfl, rfl⟩
        by_cases hk : k < v.cs.length
        · refine br_t (show decide ((k : Int) < (v.cs.length : Int)) = true from decide_eq_true (by omega)) ?_
          obtain ⟨c, hc⟩ : ∃ b, v.cs[k]? = some b := ⟨_, List.getElem?_eq_getElem hk⟩
          obtain ⟨s1, c1⟩ := c_elt H.c hc
          refine need_i ⟨s1, (show (0 : Int) ≤ k by omega), (show (k : Int) < v.cs.length by omega)⟩ ?_
          refine ⟨⟨c.is, [], [], [], []⟩, fun ids => c1 _ (fun q => q), ⟨rfl, oneNil⟩, ?_⟩
          refine node_val ⟨[cmdV c], [], [], [], []⟩ (fun w => rcmd_any c w) (fun _ => rfl) (fun _ => rfl) rfl rfl rfl oneNil ?_
          have hfe := firstE_drop hc
          rw [he] at hfe
          by_cases hz : cmdV c = 0
          · refine br_f (show (cmdV c != 0) = false by simpa using hz) ?_
            rw [if_neg (by simpa using hz)] at hfe
            have hwk : IntKind.i64.wrap ((k : Int) + 1) = ((k + 1 : Nat) : Int) := by rw [wrap_i64 (by omega)]; omega
            intro ids w2 hp hf
            refine ⟨HX.nil, HXok.none _ _, _, rfl, ⟨k + 1, by omega, hfe.symm, by rw [← hwk]; rfl, rfl⟩, ?_⟩
            show v.cs.length - (IntKind.i64.wrap ((k : Int) + 1)).toNat < v.cs.length - ((k : Int)).toNat
            rw [hwk]; omega
          · refine br_t (show (cmdV c != 0) = true by simpa using hz) (pure_done fun _ => ?_)
            rw [if_pos hz] at hfe
            rw [hfe]; rfl
        · refine br_f (show decide ((k : Int) < (v.cs.length : Int)) = false from decide_eq_false (by omega)) (pure_done fun _ => ?_)
          rw [← he, List.drop_of_length_le (by omega)]; rfl
      · refine br_t (show ((v.ns.length : Int) != 0) = true by rw [len_ne]; simpa using h2) (pure_done fun _ => ?_)
        unfold valE; rw [if_pos k0, if_pos (.inr h2)]; rfl
    · refine br_t (show ((v.cs.length : Int) != 0) = true by rw [len_ne]; simpa using h1) (pure_done fun _ => ?_)
      unfold valE; rw [if_pos k0, if_pos (.inl h1)]; rfl
  by_cases k2 : v.k = 2
  · unfold vlV
    rw [k2]
    refine calls_at (tab_ok _) Try.func37 rfl tRChk2 (ρ := ⟨[], [], [], [v.cs.length, c1, v.ns.length, c2], [a1, a2]⟩) (ids := []) rfl (Facts.initP rfl oneNil) ?_
    by_cases h1 : v.cs = []
    · refine br_f (show ((v.cs.length : Int) != 0) = false by rw [len_ne]; simpa using h1) ?_
      refine node_pure ⟨[], [setOkB v.ns], [], [], []⟩ rfl rfl rfl oneNil (fun ids w2 hp hf => ?_) ?_
      · exact refRight_any a2 c2 v.ns w2 (H.n.ext hf.chg.below)
      have hE : valE v = if setOkB v.ns then 0 else 24 := by unfold valE checkV; rw [if_neg k0, if_pos k2, if_neg (by simpa using h1)]
      cases hs : setOkB v.ns with
      | false =>
        rw [hE, hs]
        exact br_t rfl (pure_done fun _ => rfl)
      | true =>
        refine br_f rfl ?_
        have hE2 : valE v = firstE v.cs := by rw [hE, hs, h1]; rfl
        rw [hE2]
        refine loop_i (ChI v) (fun vs => v.cs.length - (vs.i.headD 0).toNat) (fun ids w2 hp hf => ⟨HX.nil, HXok.none _ _, 0, by omega, rfl, rfl, rfl⟩) ?_
        rintro vs hx' hcnt ⟨k, hk1, he, rfl, rfl⟩
        by_cases hk : k < v.cs.length
        · refine br_t (show decide ((k : Int) < (v.cs.length : Int)) = true from decide_eq_true (by omega)) ?_
          obtain ⟨c, hc⟩ : ∃ b, v.cs[k]? = some b := ⟨_, List.getElem?_eq_getElem hk⟩
          obtain ⟨s1, c1⟩ := c_elt H.c hc
          refine need_i ⟨s1, (show (0 : Int) ≤ k by omega), (show (k : Int) < v.cs.length by omega)⟩ ?_
          refine ⟨⟨c.is, [], [], [], []⟩, fun ids => c1 _ (fun q => q), ⟨rfl, oneNil⟩, ?_⟩
          refine node_val ⟨[cmdV c], [], [], [], []⟩ (fun w => rcmd_any c w) (fun _ => rfl) (fun _ => rfl) rfl rfl rfl oneNil ?_
          have hfe := firstE_drop hc
          rw [he] at hfe
          by_cases hz : cmdV c = 0
          · refine br_f (show (cmdV c != 0) = false by simpa using hz) ?_
            rw [if_neg (by simpa using hz)] at hfe
            have hwk : IntKind.i64.wrap ((k : Int) + 1) = ((k + 1 : Nat) : Int) := by rw [wrap_i64 (by omega)]; omega
            intro ids w2 hp hf
            refine ⟨HX.nil, HXok.none _ _, _, rfl, ⟨k + 1, by omega, hfe.symm, by rw [← hwk]; rfl, rfl⟩, ?_⟩
            show v.cs.length - (IntKind.i64.wrap ((k : Int) + 1)).toNat < v.cs.length - ((k : Int)).toNat
            rw [hwk]; omega
          · refine br_t (show (cmdV c != 0) = true by simpa using hz) (pure_done fun _ => ?_)
            rw [if_pos hz] at hfe
            rw [hfe]; rfl
        · refine br_f (show decide ((k : Int) < (v.cs.length : Int)) = false from decide_eq_false (by omega)) (pure_done fun _ => ?_)
          rw [← he, List.drop_of_length_le (by omega)]; rfl
    · refine br_t (show ((v.cs.length : Int) != 0) = true by rw [len_ne]; simpa using h1) (pure_done fun _ => ?_)
      unfold valE; rw [if_neg k0, if_pos k2, if_pos h1]; rfl
  by_cases k1 : v.k = 1
  · unfold vlV
    rw [k1]
    refine calls_at (tab_ok _) Try.func37 rfl tRChk1 (ρ := ⟨[], [], [], [v.cs.length, c1, v.ns.length, c2], [a1, a2]⟩) (ids := []) rfl (Facts.initP rfl oneNil) ?_
    have val : ∀ (b : Prop), (v.cs = [] ∨ 8 < v.cs.length ∨ v.ns ≠ []) → valE v = 25 := fun _ h => by unfold valE; rw [if_neg k0, if_neg k2, if_pos k1, if_pos h]
    by_cases h3 : v.ns = []
    · refine br_f (show ((v.ns.length : Int) != 0) = false by rw [len_ne]; simpa using h3) ?_
      by_cases h1 : v.cs = []
      · refine br_t (show ((v.cs.length : Int) == 0) = true by rw [h1]; rfl) (pure_done fun _ => ?_)
        rw [val True (.inl h1)]; rfl
      refine br_f (show ((v.cs.length : Int) == 0) = false by have := List.length_pos_iff.2 h1; simp only [beq_eq_false_iff_ne]; omega) ?_
      by_cases h2 : 8 < v.cs.length
      · refine br_t (show decide ((v.cs.length : Int) > 8) = true from decide_eq_true (by omega)) (pure_done fun _ => ?_)
        rw [val True (.inr (.inl h2))]; rfl
      refine br_f (show decide ((v.cs.length : Int) > 8) = false from decide_eq_false (by omega)) ?_
      have hE : valE v = firstE v.cs := by unfold valE; rw [if_neg k0, if_neg k2, if_pos k1, if_neg (by simp [h1, h3]; omega)]
      rw [hE]
      refine loop_i (ChI v) (fun vs => v.cs.length - (vs.i.headD 0).toNat) (fun ids w2 hp hf => ⟨HX.nil, HXok.none _ _, 0, by omega, rfl, rfl, rfl⟩) ?_
      rintro vs hx' hcnt ⟨k, hk1, he, rfl, rfl⟩
      by_cases hk : k < v.cs.length
      · refine br_t (show decide ((k : Int) < (v.cs.length : Int)) = true from decide_eq_true (by omega)) ?_
        obtain ⟨c, hc⟩ : ∃ b, v.cs[k]? = some b := ⟨_, List.getElem?_eq_getElem hk⟩
        obtain ⟨s1, c1⟩ := c_elt H.c hc
        refine need_i ⟨s1, (show (0 : Int) ≤ k by omega), (show (k : Int) < v.cs.length by omega)⟩ ?_
        refine ⟨⟨c.is, [], [], [], []⟩, fun ids => c1 _ (fun q => q), ⟨rfl, oneNil⟩, ?_⟩
        refine node_val ⟨[cmdV c], [], [], [], []⟩ (fun w => rcmd_any c w) (fun _ => rfl) (fun _ => rfl) rfl rfl rfl oneNil ?_
        have hfe := firstE_drop hc
        rw [he] at hfe
        by_cases hz : cmdV c = 0
        · refine br_f (show (cmdV c != 0) = false by simpa using hz) ?_
          rw [if_neg (by simpa using hz)] at hfe
          have hwk : IntKind.i64.wrap ((k : Int) + 1) = ((k + 1 : Nat) : Int) := by rw [wrap_i64 (by omega)]; omega
          intro ids w2 hp hf
          refine ⟨HX.nil, HXok.none _ _, _, rfl, ⟨k + 1, by omega, hfe.symm, by rw [← hwk]; rfl, rfl⟩, ?_⟩
          show v.cs.length - (IntKind.i64.wrap ((k : Int) + 1)).toNat < v.cs.length - ((k : Int)).toNat
          rw [hwk]; omega
        · refine br_t (show (cmdV c != 0) = true by simpa using hz) (pure_done fun _ => ?_)
          rw [if_pos hz] at hfe
          rw [hfe]; rfl
      · refine br_f (show decide ((k : Int) < (v.cs.length : Int)) = false from decide_eq_false (by omega)) (pure_done fun _ => ?_)
        rw [← he, List.drop_of_length_le (by omega)]; rfl
    · refine br_t (show ((v.ns.length : Int) != 0) = true by rw [len_ne]; simpa using h3) (pure_done fun _ => ?_)
      rw [val True (.inr (.inr h3))]; rfl
  · refine calls_at (tab_ok _) Try.func37 rfl tRChk (ρ := ⟨[v.k], [], [], [v.cs.length, c1, v.ns.length, c2], [a1, a2]⟩) (ids := []) rfl (Facts.initP rfl oneNil) ?_
    have hE : valE v = 25 := by unfold valE; rw [if_neg k0, if_neg k2, if_neg k1]
    by_cases hn : v.k < 0
    · refine br_t (show decide (v.k < 0) = true from decide_eq_true hn) (pure_done fun _ => ?_)
      rw [hE]; rfl
    · refine br_f (show decide (v.k < 0) = false from decide_eq_false hn) ?_
      refine br_t (show decide (v.k > 2) = true from decide_eq_true (by omega)) (pure_done fun _ => ?_)
      rw [hE]; rfl
def ItI (xs ys : List Int) (vs : Vals) (hx : HX) : Prop := ∃ k : Nat, k ≤ xs.length ∧ xs.take k = ys.take k ∧ vs = ⟨[(k : Int)], [], [], [], []⟩ ∧ hx = HX.nil
theorem ints_at {w : World} {a : Option Addr} {xs : List Int} (h : Ints w a xs) {i : Nat} {x : Int} (hi : xs[i]? = some x) : a.isSome = true ∧ ∀ (N : Nat → Prop), ¬ N ((a.getD ⟨0, 0, none⟩).block) → CellsAt w (.pointer (some (((a.getD ⟨0, 0, none⟩).add (i * 1)).add 0))) [.int .i64 x] N := ints_elt h hi
theorem intsB_any (a : Option Addr) (cap : Nat) (xs : List Int) (a2 : Option Addr) (cap2 : Nat) (ys : List Int) (w : World) (H : Ints w a xs) (H2 : Ints w a2 ys) (hl : xs.length ≤ 140737488355328) : Calls Try.prog 73 #[.slice a xs.length cap, .slice a2 ys.length cap2] w (PureAt w (.bool (decide (xs = ys)))) := by
  refine calls_at (tab_ok _) Try.func73 rfl tInts (ρ := ⟨[], [], [], [xs.length, cap, ys.length, cap2], [a, a2]⟩) (ids := []) rfl (Facts.initP rfl oneNil) ?_
  by_cases hlen : xs.length = ys.length
  · refine br_f (show ((xs.length : Int) != (ys.length : Int)) = false by simp [hlen]) ?_
    refine loop_i (ItI xs ys) (fun vs => xs.length - (vs.i.headD 0).toNat) (fun ids w2 hp hf => ⟨HX.nil, HXok.none _ _, 0, by omega, rfl, rfl, rfl⟩) ?_
    rintro vs hx' hcnt ⟨k, hk1, he, rfl, rfl⟩
    by_cases hk : k < xs.length
    · refine br_t (show decide ((k : Int) < (xs.length : Int)) = true from decide_eq_true (by omega)) ?_
      obtain ⟨x, hx⟩ : ∃ b, xs[k]? = some b := ⟨_, List.getElem?_eq_getElem hk⟩
      obtain ⟨y, hy⟩ : ∃ b, ys[k]? = some b := ⟨_, List.getElem?_eq_getElem (by omega)⟩
      obtain ⟨s1, c1⟩ := ints_at H hx
      obtain ⟨s2, c2⟩ := ints_at H2 hy
      have hst := take_stepV hx hy he
      have hwk : IntKind.i64.wrap ((k : Int) + 1) = ((k + 1 : Nat) : Int) := by rw [wrap_i64 (by omega)]; omega
      refine need_i ⟨s1, (show (0 : Int) ≤ k by omega), (show (k : Int) < xs.length by omega)⟩ ?_
      refine need_i ⟨s2, (show (0 : Int) ≤ k by omega), (show (k : Int) < ys.length by omega)⟩ ?_
      by_cases hxy : x = y
      · have e1 := hst.2 hxy
        have fin : ∀ {es : Vec} {m : Mem} {ρ : Env} {L : Stack}, (∀ ids, es.den ρ ids = ⟨[IntKind.i64.wrap ((k : Int) + 1)], [], [], [], []⟩) → (Tree.again 4 es m).holds ⟨Try.prog, w, fun _ => False, PureAt w (.bool (decide (xs = ys)))⟩ ρ [] HX.nil ((4, fun vs' hx'' => ItI xs ys vs' hx'' ∧ xs.length - (vs'.i.headD 0).toNat < xs.length - ((⟨[(k : Int)], [], [], [], []⟩ : Vals).i.headD 0).toNat) :: L) := by
          intro es m ρ L hes ids w2 hp hf
          refine ⟨HX.nil, HXok.none _ _, _, rfl, ?_⟩
          rw [hes]
          refine ⟨⟨k + 1, by omega, e1, by rw [hwk], rfl⟩, ?_⟩
          show xs.length - (IntKind.i64.wrap ((k : Int) + 1)).toNat < xs.length - ((k : Int)).toNat
          rw [hwk]; omega
        refine par_i ?_ ?_
        · refine ⟨⟨[x], [], [], [], []⟩, fun ids => c1 _ (fun q => q), ⟨rfl, oneNil⟩, ?_⟩
          refine ⟨⟨[y], [], [], [], []⟩, fun ids => c2 _ (fun q => q), ⟨rfl, oneNil⟩, ?_⟩
          exact br_f (show (x != y) = false by simpa using hxy) (fin (fun _ => rfl))
        · refine ⟨⟨[y], [], [], [], []⟩, fun ids => c2 _ (fun q => q), ⟨rfl, oneNil⟩, ?_⟩
          refine ⟨⟨[x], [], [], [], []⟩, fun ids => c1 _ (fun q => q), ⟨rfl, oneNil⟩, ?_⟩
          exact br_f (show (x != y) = false by simpa using hxy) (fin (fun _ => rfl))
      · have hne : ¬ xs = ys := fun e => hxy (by rw [e] at hx; rw [hx] at hy; exact Option.some.inj hy)
        have fin : ∀ {m : Mem} {ρ : Env} {L : Stack} {hx : HX}, (Tree.done (.lf (.bool (.lit false))) m).holds ⟨Try.prog, w, fun _ => False, PureAt w (.bool (decide (xs = ys)))⟩ ρ [] hx L := pure_done fun _ => by rw [decide_eq_false hne]; rfl
        refine par_i ?_ ?_
        · refine ⟨⟨[x], [], [], [], []⟩, fun ids => c1 _ (fun q => q), ⟨rfl, oneNil⟩, ?_⟩
          refine ⟨⟨[y], [], [], [], []⟩, fun ids => c2 _ (fun q => q), ⟨rfl, oneNil⟩, ?_⟩
          exact br_t (show (x != y) = true by simpa using hxy) fin
        · refine ⟨⟨[y], [], [], [], []⟩, fun ids => c2 _ (fun q => q), ⟨rfl, oneNil⟩, ?_⟩
          refine ⟨⟨[x], [], [], [], []⟩, fun ids => c1 _ (fun q => q), ⟨rfl, oneNil⟩, ?_⟩
          exact br_t (show (x != y) = true by simpa using hxy) fin
    · refine br_f (show decide ((k : Int) < (xs.length : Int)) = false from decide_eq_false (by omega)) (pure_done fun _ => ?_)
      have e : xs = ys := by rw [List.take_of_length_le (by omega), List.take_of_length_le (by omega)] at he; exact he
      rw [decide_eq_true e]; rfl
  · refine br_t (show ((xs.length : Int) != (ys.length : Int)) = true by simp only [bne_iff_ne, ne_eq]; omega) (pure_done fun _ => ?_)
    rw [decide_eq_false (fun e => hlen (by rw [e]))]; rfl
def cmdEq (c d : CmD) : Bool := (c.sess == d.sess) && ((c.seq == d.seq) && ((c.ack == d.ack) && ((c.op.kind == d.op.kind) && ((c.op.reg == d.op.reg) && ((c.op.tg == d.op.tg) && ((c.op.re == d.op.re) && (c.op.im == d.op.im)))))))
theorem cmdEq_iff (c d : CmD) : cmdEq c d = true ↔ c = d := by
  obtain ⟨a1, a2, a3, ⟨a4, a5, a6, a7, a8⟩⟩ := c
  obtain ⟨b1, b2, b3, ⟨b4, b5, b6, b7, b8⟩⟩ := d
  simp [cmdEq]
def sameV6 (v u : Vl) : Prop := v.k = u.k ∧ v.cs = u.cs ∧ v.ns = u.ns
theorem same_ext {v u : Vl} : sameV6 v u ↔ v = u := by
  obtain ⟨a, b, c⟩ := v
  obtain ⟨d, e, f⟩ := u
  simp [sameV6]
open Classical in
noncomputable def vlSame (v u : Vl) : Bool := decide (v = u)
theorem vlSame_f {v u : Vl} (h : ¬ v = u) : vlSame v u = false := @decide_eq_false _ (Classical.propDecidable _) h
theorem vlSame_t {v u : Vl} (h : v = u) : vlSame v u = true := @decide_eq_true _ (Classical.propDecidable _) h
def SvI (v u : Vl) (vs : Vals) (hx : HX) : Prop := ∃ k : Nat, k ≤ v.cs.length ∧ v.cs.take k = u.cs.take k ∧ vs = ⟨[(k : Int)], [], [], [], []⟩ ∧ hx = HX.nil
theorem samev_any (v : Vl) (a1 : Option Addr) (c1 : Nat) (a2 : Option Addr) (c2 : Nat) (u : Vl) (b1 : Option Addr) (d1 : Nat) (b2 : Option Addr) (d2 : Nat) (w : World) (H : VlAt w v a1 a2) (H2 : VlAt w u b1 b2) : Calls Try.prog 48 #[vlV v a1 c1 a2 c2, vlV u b1 d1 b2 d2] w (PureAt w (.bool (vlSame v u))) := by
  have hl1 := H.l1
  have hl2 := H.l2
  have no : ∀ {v u : Vl}, ¬ v = u → vlSame v u = false := fun h => vlSame_f h
  have yes : ∀ {v u : Vl}, v = u → vlSame v u = true := fun h => vlSame_t h
  refine calls_at (tab_ok _) Try.func48 rfl tSameV (ρ := ⟨[v.k, u.k], [], [], [v.cs.length, c1, v.ns.length, c2, u.cs.length, d1, u.ns.length, d2], [a1, a2, b1, b2]⟩) (ids := []) rfl (Facts.initP rfl oneNil) ?_
  by_cases hk : v.k = u.k
  · refine br_f (show (v.k != u.k) = false by simpa using hk) ?_
    by_cases hlen : v.cs.length = u.cs.length
    · refine br_f (show ((v.cs.length : Int) != (u.cs.length : Int)) = false by simp [hlen]) ?_
      refine node_pure ⟨[], [decide (v.ns = u.ns)], [], [], []⟩ rfl rfl rfl oneNil (fun ids w2 hp hf => ?_) ?_
      · exact intsB_any a2 c2 v.ns b2 d2 u.ns w2 (H.n.ext hf.chg.below) (H2.n.ext hf.chg.below) (by omega)
      by_cases hns : v.ns = u.ns
      · refine br_f (show (!decide (v.ns = u.ns)) = false by simp [hns]) ?_
        refine loop_i (SvI v u) (fun vs => v.cs.length - (vs.i.headD 0).toNat) (fun ids w2 hp hf => ⟨HX.nil, HXok.none _ _, 0, by omega, rfl, rfl, rfl⟩) ?_
        rintro vs hx' hcnt ⟨k, hk1, he, rfl, rfl⟩
        by_cases hkl : k < v.cs.length
        · refine br_t (show decide ((k : Int) < (v.cs.length : Int)) = true from decide_eq_true (by omega)) ?_
          obtain ⟨x, hx⟩ : ∃ b, v.cs[k]? = some b := ⟨_, List.getElem?_eq_getElem hkl⟩
          obtain ⟨y, hy⟩ : ∃ b, u.cs[k]? = some b := ⟨_, List.getElem?_eq_getElem (by omega)⟩
          obtain ⟨s1, q1⟩ := c_elt H.c hx
          obtain ⟨s2, q2⟩ := c_elt H2.c hy
          have hst := take_stepV hx hy he
          have hwk : IntKind.i64.wrap ((k : Int) + 1) = ((k + 1 : Nat) : Int) := by rw [wrap_i64 (by omega)]; omega
          refine need_i ⟨s1, (show (0 : Int) ≤ k by omega), (show (k : Int) < v.cs.length by omega)⟩ ?_
          refine need_i ⟨s2, (show (0 : Int) ≤ k by omega), (show (k : Int) < u.cs.length by omega)⟩ ?_
          by_cases hxy : x = y
          · have e1 := hst.2 hxy
            have hce : (!cmdEq x y) = false := by rw [(cmdEq_iff x y).2 hxy]; rfl
            have fin : ∀ {es : Vec} {m : Mem} {ρ : Env} {L : Stack}, (∀ ids, es.den ρ ids = ⟨[IntKind.i64.wrap ((k : Int) + 1)], [], [], [], []⟩) → (Tree.again 4 es m).holds ⟨Try.prog, w, fun _ => False, PureAt w (.bool (vlSame v u))⟩ ρ [] HX.nil ((4, fun vs' hx'' => SvI v u vs' hx'' ∧ v.cs.length - (vs'.i.headD 0).toNat < v.cs.length - ((⟨[(k : Int)], [], [], [], []⟩ : Vals).i.headD 0).toNat) :: L) := by
              intro es m ρ L hes ids w2 hp hf
              refine ⟨HX.nil, HXok.none _ _, _, rfl, ?_⟩
              rw [hes]
              refine ⟨⟨k + 1, by omega, e1, by rw [hwk], rfl⟩, ?_⟩
              show v.cs.length - (IntKind.i64.wrap ((k : Int) + 1)).toNat < v.cs.length - ((k : Int)).toNat
              rw [hwk]; omega
            refine par_i ?_ ?_
            · refine ⟨⟨x.is, [], [], [], []⟩, fun ids => q1 _ (fun q => q), ⟨rfl, oneNil⟩, ?_⟩
              refine ⟨⟨y.is, [], [], [], []⟩, fun ids => q2 _ (fun q => q), ⟨rfl, oneNil⟩, ?_⟩
              exact br_f (Eq.trans (b := !cmdEq x y) (by kernel_rfl) hce) (fin (fun _ => rfl))
            · refine ⟨⟨y.is, [], [], [], []⟩, fun ids => q2 _ (fun q => q), ⟨rfl, oneNil⟩, ?_⟩
              refine ⟨⟨x.is, [], [], [], []⟩, fun ids => q1 _ (fun q => q), ⟨rfl, oneNil⟩, ?_⟩
              exact br_f (Eq.trans (b := !cmdEq x y) (by kernel_rfl) hce) (fin (fun _ => rfl))
          · have hce : (!cmdEq x y) = true := by
              have : cmdEq x y = false := by
                cases h : cmdEq x y with
                | false => rfl
                | true => exact absurd ((cmdEq_iff x y).1 h) hxy
              rw [this]; rfl
            have hne : ¬ v = u := fun e => hxy (by rw [e] at hx; rw [hx] at hy; exact Option.some.inj hy)
            have fin : ∀ {m : Mem} {ρ : Env} {L : Stack} {hx : HX}, (Tree.done (.lf (.bool (.lit false))) m).holds ⟨Try.prog, w, fun _ => False, PureAt w (.bool (vlSame v u))⟩ ρ [] hx L := pure_done fun _ => by rw [no hne]; rfl
            refine par_i ?_ ?_
            · refine ⟨⟨x.is, [], [], [], []⟩, fun ids => q1 _ (fun q => q), ⟨rfl, oneNil⟩, ?_⟩
              refine ⟨⟨y.is, [], [], [], []⟩, fun ids => q2 _ (fun q => q), ⟨rfl, oneNil⟩, ?_⟩
              exact br_t (Eq.trans (b := !cmdEq x y) (by kernel_rfl) hce) fin
            · refine ⟨⟨y.is, [], [], [], []⟩, fun ids => q2 _ (fun q => q), ⟨rfl, oneNil⟩, ?_⟩
              refine ⟨⟨x.is, [], [], [], []⟩, fun ids => q1 _ (fun q => q), ⟨rfl, oneNil⟩, ?_⟩
              exact br_t (Eq.trans (b := !cmdEq x y) (by kernel_rfl) hce) fin
        · refine br_f (show decide ((k : Int) < (v.cs.length : Int)) = false from decide_eq_false (by omega)) (pure_done fun _ => ?_)
          have e : v.cs = u.cs := by rw [List.take_of_length_le (by omega), List.take_of_length_le (by omega)] at he; exact he
          rw [yes (same_ext.1 ⟨hk, e, hns⟩)]; rfl
      · refine br_t (show (!decide (v.ns = u.ns)) = true by simp [hns]) (pure_done fun _ => ?_)
        rw [no (fun e => hns (by rw [e]))]; rfl
    · refine br_t (show ((v.cs.length : Int) != (u.cs.length : Int)) = true by simp only [bne_iff_ne, ne_eq]; omega) (pure_done fun _ => ?_)
      rw [no (fun e => hlen (by rw [e]))]; rfl
  · refine br_t (show (v.k != u.k) = true by simpa using hk) (pure_done fun _ => ?_)
    rw [no (fun e => hk (by rw [e]))]; rfl
theorem ccells_ne {cs : List CmD} (h : cs ≠ []) : ccells cs ≠ [] := fun q => by
  cases cs with
  | nil => exact h rfl
  | cons c r => simp [ccells, CmD.cells] at q
theorem info_cmd : (Try.prog.info? 32).map (fun i => (i.zero, i.size, i.bytes)) = some (some (.agg #[.int .i64 0, .int .i64 0, .int .i64 0, .int .i64 0, .int .i64 0, .int .i64 0, .int .i64 0, .int .i64 0]), 8, 64) := by kernel_rfl
theorem info_int1 : (Try.prog.info? 3).map (fun i => (i.zero, i.size, i.bytes)) = some (some (.int .i64 0), 1, 8) := by kernel_rfl
def crow (a : Option Addr) (n c : Nat) (cs : List CmD) : HX := HX.rw 8 32 a n c (ccells cs)
def nrow (a : Option Addr) (n c : Nat) (ns : List Int) : HX := HX.rw 1 3 a n c (ns.map (Value.int .i64))
theorem ccells_snoc (cs : List CmD) (c : CmD) : ccells cs ++ c.cells = ccells (cs ++ [c]) := by unfold ccells; rw [List.flatMap_append]; simp
theorem ncells_snoc (ns : List Int) (n : Int) : ns.map (Value.int .i64) ++ [.int .i64 n] = (ns ++ [n]).map (Value.int .i64) := by rw [List.map_append]; rfl
theorem cmd_one (c : CmD) : ∀ v ∈ c.cells, v.oneCell' = true := fun v hv => by
  simp only [CmD.cells, List.mem_cons, List.not_mem_nil, or_false] at hv
  rcases hv with rfl | rfl | rfl | rfl | rfl | rfl | rfl | rfl <;> rfl
theorem rw_ltx {sz e n cap : Nat} {a : Option Addr} {xs : List Value} {w : World} (h : (HX.rw sz e a n cap xs).X w) {k : Nat} (h1 : cap ≠ 0) (h2 : abk a = some k) : k < w.heap.size := by
  obtain ⟨g, _, rfl, q, _⟩ := rw_open h h1
  cases h2; exact q
def vlX (v : Vl) (a1 a2 : Option Addr) : HX := (HX.cl a1 (ccells v.cs)).and (HX.cl a2 (v.ns.map (Value.int .i64)))
structure VlFit (v : Vl) : Prop where
  n : ∀ n ∈ v.ns, I64 n
  l1 : v.cs.length ≤ 2199023255552
  l2 : v.ns.length ≤ 17592186044416
theorem VlFit.at_ {v : Vl} (h : VlFit v) {a1 a2 : Option Addr} {w : World} (hX : (vlX v a1 a2).X w) : VlAt w v a1 a2 := ⟨hX.1, Ints.of_cells (by have := h.l2; omega) h.n hX.2, h.l1, h.l2⟩
theorem VlAt.X {v : Vl} {a1 a2 : Option Addr} {w : World} (H : VlAt w v a1 a2) : (vlX v a1 a2).X w := ⟨H.c, H.n.cells⟩
theorem VlAt.fit {v : Vl} {a1 a2 : Option Addr} {w : World} (H : VlAt w v a1 a2) : VlFit v := ⟨H.n.fits, H.l1, H.l2⟩
theorem vlX_sep {v : Vl} {a1 a2 : Option Addr} {w : World} (h : (vlX v a1 a2).X w) : ∀ k, (vlX v a1 a2).F k → k < w.heap.size := fun k hk => hk.elim (cl_sep h.1 k) (cl_sep h.2 k)
section
variable {C : Cfg} {ρ : Env} {pre : List Nat} {hx : HX} {L : Stack} {m m' : Mem} {args : List SV} {r : SV} {t : Tree}
end
theorem rw_fresh {b : Option Addr} {n d sz e : Nat} {cs : List Value} {w : World} {N : Nat} (hx : (HX.rw sz e b n d cs).X w) (hk : ∀ k, d ≠ 0 → abk b = some k → N ≤ k) : ∀ k, (HX.cl b cs).F k → N ≤ k := by
  rintro k ⟨hne, rfl⟩
  have hc : d ≠ 0 := fun q => by
    rcases hx with ⟨_, _, h3⟩ | ⟨h3, _⟩
    · exact hne h3
    · exact h3 q
  obtain ⟨g, _, rfl, _⟩ := rw_open hx hc
  exact hk g hc rfl
def CmFit (c : CmD) : Prop := ∀ i ∈ c.is, I64 i
theorem reach_is : reachBytes ≤ 140737488355328 := by unfold reachBytes; decide
section
variable {C : Cfg} {ρ : Env} {pre : List Nat} {hx : HX} {L : Stack} {m m' : Mem} {args : List SV} {r : SV} {t : Tree}
end
end Go.Proofs.Ytadgaefmoobcoaa

namespace Go.Proofs.Ytadgaefmoobcoaa
open Go.ChangeShapes Go.WideShapes Go.ChangeAt Go.RowKit Go.Syn Go.Eng
set_option linter.unusedVariables false
set_option linter.unusedSimpArgs false
set_option maxRecDepth 100000
abbrev tWriteb0 : List LV := [(tVi 2), (tVi 3), (tVi 4), (tVi 5), (tVi 6), (tVi 7), (tVi 8), (tVi 9)]
abbrev tWritem0 : Mem := ⟨[(113, [(tSl 6 12 13)]), (27, [(tVi 0), (tSl 0 0 1), (tSl 1 2 3)]), (32, tWriteb0)], ⟨10, 0, 0, 14, 7⟩⟩
abbrev tWritem1 : Mem := ⟨[(113, [(tSl 5 10 11)]), (27, [(tVi 0), (tSl 0 0 1), (tSl 1 2 3)])], ⟨2, 0, 0, 12, 6⟩⟩
abbrev tWritem2 : Mem := ⟨[(113, [(tSl 6 12 13)]), (27, [(tVi 0), (tSl 0 0 1), (tSl 1 2 3)])], ⟨2, 0, 0, 14, 7⟩⟩
abbrev tWritem3 : Mem := ⟨[(113, [(tSl 7 14 15)]), (27, [(tVi 0), (tSl 0 0 1), (tSl 1 2 3)])], ⟨3, 0, 0, 16, 8⟩⟩
abbrev tWritem4 : Mem := ⟨[(113, [(tSl 7 14 15)]), (27, [(tVi 0), (tSl 0 0 1), (tSl 1 2 3)])], ⟨4, 0, 0, 16, 8⟩⟩
abbrev tWritem5 : Mem := ⟨[(113, [(tSl 8 16 17)]), (27, [(tVi 0), (tSl 0 0 1), (tSl 1 2 3)])], ⟨4, 0, 0, 18, 9⟩⟩
abbrev tWritem6 : Mem := ⟨[(113, [(tSl 4 8 9)]), (27, [(tVi 0), (tSl 0 0 1), (tSl 1 2 3)])], ⟨1, 0, 0, 10, 5⟩⟩
abbrev tWritem7 : Mem := ⟨[(113, [(tSl 3 6 7)]), (27, [(tVi 0), (tSl 0 0 1), (tSl 1 2 3)])], ⟨1, 0, 0, 8, 4⟩⟩
set_option maxRecDepth 100000 in
theorem tWrite : (runF ⟨tt, fns, { loops := [(3, ⟨[(21, .int .i64)], [0]⟩), (9, ⟨[(38, .int .i64)], [0]⟩)], touch := [(42, [0]), (44, [0])], ret := [(42, .one (.lf (.is (.ptr 0 0))))] }⟩ (Try.f43.body.getD .skip) Try.f43.results.toList (entry Try.f43.ntmps [.lf (.ptr 0 0), .agg [.int .i64 (.var 0), .sl 0 (.var 0) (.var 1), .sl 1 (.var 2) (.var 3)]] [(113, [.sl 2 (.var 4) (.var 5)])] ⟨1, 0, 0, 6, 3⟩)) =
  (.call 42 [(.lf (.ptr 0 0)), (.lf (.int .u64 (.conv .u64 (.var 0))))] ⟨[(113, [(tSl 2 4 5)]), (27, [(tVi 0), (tSl 0 0 1), (tSl 1 2 3)])], ⟨1, 0, 0, 6, 3⟩⟩ (.lf (.ptr 0 0)) tWritem7 (.call 42 [(.lf (.ptr 0 0)), (.lf (.int .u64 (.conv .u64 (.nat 0))))] tWritem7 (.lf (.ptr 0 0)) tWritem6 (.loop 3 ⟨[(.lit 0)], [], [], [(.var 8), (.var 9)], [(.var 4)]⟩ tWritem6 tWritem1 (.br (.cmp .lss (.var 1) (.nat 0)) (.need (.inb 0 (.var 1) (.nat 0)) (.ld .false (.adr 0 (.var 1) 8 0) tWriteb0 tWritem1 ⟨[(113, [(tSl 5 10 11)]), (27, [(tVi 0), (tSl 0 0 1), (tSl 1 2 3)])], ⟨10, 0, 0, 12, 6⟩⟩ (.call 44 [(.lf (.ptr 0 0)), (.agg tWriteb0)] ⟨[(113, [(tSl 5 10 11)]), (27, [(tVi 0), (tSl 0 0 1), (tSl 1 2 3)]), (32, tWriteb0)], ⟨10, 0, 0, 12, 6⟩⟩ (.tup []) tWritem0 (.again 3 ⟨[(.op .add .i64 (.var 1) (.lit 1))], [], [], [(.var 12), (.var 13)], [(.var 6)]⟩ tWritem0)))) (.call 42 [(.lf (.ptr 0 0)), (.lf (.int .u64 (.conv .u64 (.nat 2))))] tWritem1 (.lf (.ptr 0 0)) tWritem2 (.loop 9 ⟨[(.lit 0)], [], [], [(.var 12), (.var 13)], [(.var 6)]⟩ tWritem2 tWritem3 (.br (.cmp .lss (.var 2) (.nat 2)) (.need (.inb 1 (.var 2) (.nat 2)) (.ld .false (.adr 1 (.var 2) 1 0) [(tVi 3)] tWritem3 tWritem4 (.call 42 [(.lf (.ptr 0 0)), (.lf (.int .u64 (.conv .u64 (.var 3))))] tWritem4 (.lf (.ptr 0 0)) tWritem5 (.again 9 ⟨[(.op .add .i64 (.var 2) (.lit 1))], [], [], [(.var 16), (.var 17)], [(.var 8)]⟩ tWritem5)))) (.done (.tup []) tWritem3)))))))) := by kernel_rfl
abbrev tReadb0 : List LV := [(tVi 14), (tVi 15), (tVi 16), (tVi 17), (tVi 18), (tVi 19), (tVi 20), (tVi 21)]
abbrev tReadm0 : Mem := ⟨[(128, [(tSl 10 20 21), (tVi 19), (tVi 20)]), (27, [(tLi 0), .nilsl, .nilsl]), (27, [(tVi 18), (tSl 8 16 17), (tSl 11 22 23)]), (3, [(tVi 21)])], ⟨22, 0, 0, 24, 12⟩⟩
abbrev tReadm1 : Mem := ⟨[(128, [(tSl 10 20 21), (tVi 19), (tVi 20)]), (27, [(tLi 0), .nilsl, .nilsl]), (27, [(tVi 18), (tSl 8 16 17), (tSl 9 18 19)]), (3, [(tVi 21)])], ⟨22, 0, 0, 22, 11⟩⟩
abbrev tReadm2 : Mem := ⟨[(128, [(tSl 10 20 21), (tVi 19), (tVi 20)]), (27, [(tLi 0), .nilsl, .nilsl]), (27, [(tVi 18), (tSl 8 16 17), (tSl 9 18 19)]), (3, [(tVi 21)])], ⟨22, 0, 0, 24, 12⟩⟩
abbrev tReadm3 : Mem := ⟨[(128, [(tSl 6 12 13), (tVi 12), (tVi 13)]), (27, [(tLi 0), .nilsl, .nilsl]), (27, [(tVi 11), (tSl 7 14 15), (tSl 5 10 11)]), (32, tReadb0)], ⟨22, 0, 0, 16, 8⟩⟩
abbrev tReadm4 : Mem := ⟨[(128, [(tSl 6 12 13), (tVi 12), (tVi 13)]), (27, [(tLi 0), .nilsl, .nilsl]), (27, [(tVi 11), (tSl 4 8 9), (tSl 5 10 11)]), (32, tReadb0)], ⟨22, 0, 0, 14, 7⟩⟩
abbrev tReadm5 : Mem := ⟨[(128, [(tSl 6 12 13), (tVi 12), (tVi 13)]), (27, [(tLi 0), .nilsl, .nilsl]), (27, [(tVi 11), (tSl 4 8 9), (tSl 5 10 11)]), (32, tReadb0)], ⟨22, 0, 0, 16, 8⟩⟩
abbrev tReadm6 : Mem := ⟨[(128, [(tSl 10 20 21), (tVi 19), (tVi 20)]), (27, [(tLi 0), .nilsl, .nilsl]), (27, [(tVi 18), (tSl 8 16 17), (tSl 9 18 19)])], ⟨22, 0, 0, 22, 11⟩⟩
abbrev tReadm7 : Mem := ⟨[(128, [(tSl 7 14 15), (tVi 16), (tVi 17)]), (27, [(tLi 0), .nilsl, .nilsl]), (27, [(tVi 18), (tSl 8 16 17), (tSl 9 18 19)])], ⟨19, 0, 0, 20, 10⟩⟩
abbrev tReadm8 : Mem := ⟨[(128, [(tSl 6 12 13), (tVi 12), (tVi 13)]), (27, [(tLi 0), .nilsl, .nilsl]), (27, [(tVi 11), (tSl 4 8 9), (tSl 5 10 11)])], ⟨22, 0, 0, 14, 7⟩⟩
abbrev tReadm9 : Mem := ⟨[(128, [(tSl 6 12 13), (tVi 12), (tVi 13)]), (27, [(tLi 0), .nilsl, .nilsl]), (27, [(tVi 11), (tSl 4 8 9), (tSl 5 10 11)])], ⟨15, 0, 0, 14, 7⟩⟩
abbrev tReadm10 : Mem := ⟨[(128, [(tSl 3 6 7), (tVi 9), (tVi 10)]), (27, [(tLi 0), .nilsl, .nilsl]), (27, [(tVi 11), (tSl 4 8 9), (tSl 5 10 11)])], ⟨12, 0, 0, 12, 6⟩⟩
abbrev tReadm11 : Mem := ⟨[(128, [(tSl 2 4 5), (tVi 5), (tVi 6)]), (27, [(tLi 0), .nilsl, .nilsl]), (27, [(tVi 4), .nilsl, .nilsl])], ⟨8, 0, 0, 6, 3⟩⟩
set_option maxRecDepth 100000 in
theorem tRead : (runF ⟨tt, fns, { loops := [(3, ⟨[(9, .int .i64)], [0, 2]⟩), (7, ⟨[(21, .int .i64)], [0, 2]⟩)], touch := [(59, [0]), (83, [0])] }⟩ (Try.f82.body.getD .skip) Try.f82.results.toList (entry Try.f82.ntmps [.lf (.ptr 0 0)] [(128, [.sl 0 (.var 0) (.var 1), .int .i64 (.var 0), .int .i64 (.var 1)])] ⟨2, 0, 0, 2, 1⟩)) =
  (.call 59 [(.lf (.ptr 0 0)), (.lf (tLi 2))] ⟨[(128, [(tSl 0 0 1), (tVi 0), (tVi 1)]), (27, [(tLi 0), .nilsl, .nilsl])], ⟨2, 0, 0, 2, 1⟩⟩ (.lf (tVi 4)) ⟨[(128, [(tSl 1 2 3), (tVi 2), (tVi 3)]), (27, [(tLi 0), .nilsl, .nilsl])], ⟨5, 0, 0, 4, 2⟩⟩ (.call 59 [(.lf (.ptr 0 0)), (.lf (tLi 8))] ⟨[(128, [(tSl 1 2 3), (tVi 2), (tVi 3)]), (27, [(tLi 0), .nilsl, .nilsl]), (27, [(tVi 4), .nilsl, .nilsl])], ⟨5, 0, 0, 4, 2⟩⟩ (.lf (tVi 7)) tReadm11 (.loop 3 ⟨[(.lit 0), (.var 5), (.var 6), (.var 4)], [], [], [(.var 4), (.var 5), (.lit 0), (.lit 0), (.lit 0), (.lit 0)], [(.var 2), .nil, .nil]⟩ tReadm11 tReadm10 (.br (.cmp .lss (.var 8) (.var 7)) (.par (.call 83 [(.lf (.ptr 0 0))] tReadm10 (.agg tReadb0) tReadm8 (.gen (.call ⟨(.builtin .append), #[(.tmp 12), (.tmp 15)], #[24, 24]⟩) 24 [(12, (.lf (tSl 4 8 9))), (15, (.lf (.nsl 3 0 1 1)))] tReadm4 (.some (.lf (tSl 7 14 15))) tReadm5 (.again 3 ⟨[(.op .add .i64 (.var 8) (.lit 1)), (.var 12), (.var 13), (.var 11)], [], [], [(.var 12), (.var 13), (.var 14), (.var 15), (.var 10), (.var 11)], [(.var 6), (.var 7), (.var 5)]⟩ tReadm3))) (.call 83 [(.lf (.ptr 0 0))] tReadm10 (.agg tReadb0) tReadm8 (.par (.gen (.call ⟨(.builtin .append), #[(.tmp 12), (.tmp 15)], #[24, 24]⟩) 24 [(12, (.lf (tSl 4 8 9))), (15, (.lf (.nsl 3 0 1 1)))] tReadm4 (.some (.lf (tSl 7 14 15))) tReadm5 (.again 3 ⟨[(.op .add .i64 (.var 8) (.lit 1)), (.var 12), (.var 13), (.var 11)], [], [], [(.var 12), (.var 13), (.var 14), (.var 15), (.var 10), (.var 11)], [(.var 6), (.var 7), (.var 5)]⟩ tReadm3)) (.gen (.call ⟨(.builtin .append), #[(.tmp 12), (.tmp 15)], #[24, 24]⟩) 24 [(12, (.lf (tSl 4 8 9))), (15, (.lf (.nsl 3 0 1 1)))] tReadm4 (.some (.lf (tSl 7 14 15))) tReadm5 (.again 3 ⟨[(.op .add .i64 (.var 8) (.lit 1)), (.var 12), (.var 13), (.var 11)], [], [], [(.var 12), (.var 13), (.var 14), (.var 15), (.var 10), (.var 11)], [(.var 6), (.var 7), (.var 5)]⟩ tReadm3))))) (.call 59 [(.lf (.ptr 0 0)), (.lf (tLi 7))] tReadm10 (.lf (tVi 14)) tReadm9 (.loop 7 ⟨[(.lit 0), (.var 12), (.var 13), (.var 11)], [], [], [(.var 12), (.var 13), (.var 8), (.var 9), (.var 10), (.var 11)], [(.var 6), (.var 4), (.var 5)]⟩ tReadm9 tReadm7 (.br (.cmp .lss (.var 15) (.var 14)) (.par (.call 59 [(.lf (.ptr 0 0)), (.lf (tLi 9))] tReadm7 (.lf (tVi 21)) tReadm6 (.gen (.call ⟨(.builtin .append), #[(.tmp 24), (.tmp 27)], #[25, 25]⟩) 25 [(24, (.lf (tSl 9 18 19))), (27, (.lf (.nsl 3 0 1 1)))] tReadm1 (.some (.lf (tSl 11 22 23))) tReadm2 (.again 7 ⟨[(.op .add .i64 (.var 15) (.lit 1)), (.var 19), (.var 20), (.var 18)], [], [], [(.var 20), (.var 21), (.var 16), (.var 17), (.var 22), (.var 23)], [(.var 10), (.var 8), (.var 11)]⟩ tReadm0))) (.call 59 [(.lf (.ptr 0 0)), (.lf (tLi 9))] tReadm7 (.lf (tVi 21)) tReadm6 (.par (.gen (.call ⟨(.builtin .append), #[(.tmp 24), (.tmp 27)], #[25, 25]⟩) 25 [(24, (.lf (tSl 9 18 19))), (27, (.lf (.nsl 3 0 1 1)))] tReadm1 (.some (.lf (tSl 11 22 23))) tReadm2 (.again 7 ⟨[(.op .add .i64 (.var 15) (.lit 1)), (.var 19), (.var 20), (.var 18)], [], [], [(.var 20), (.var 21), (.var 16), (.var 17), (.var 22), (.var 23)], [(.var 10), (.var 8), (.var 11)]⟩ tReadm0)) (.gen (.call ⟨(.builtin .append), #[(.tmp 24), (.tmp 27)], #[25, 25]⟩) 25 [(24, (.lf (tSl 9 18 19))), (27, (.lf (.nsl 3 0 1 1)))] tReadm1 (.some (.lf (tSl 11 22 23))) tReadm2 (.again 7 ⟨[(.op .add .i64 (.var 15) (.lit 1)), (.var 19), (.var 20), (.var 18)], [], [], [(.var 20), (.var 21), (.var 16), (.var 17), (.var 22), (.var 23)], [(.var 10), (.var 8), (.var 11)]⟩ tReadm0))))) (.done (.agg [(tVi 18), (tSl 8 16 17), (tSl 9 18 19)]) ⟨[(128, [(tSl 7 14 15), (tVi 16), (tVi 17)]), (27, [(tVi 18), (tSl 8 16 17), (tSl 9 18 19)]), (27, [(tVi 18), (tSl 8 16 17), (tSl 9 18 19)])], ⟨19, 0, 0, 20, 10⟩⟩)))))))) := by kernel_rfl
def cmdB (c : CmD) : List Int := c.is.flatMap fun i => numB (foldN i)
theorem numB_len {u : Nat} (h : u < 2 ^ 64) : (numB u).length ≤ 9 := by
  unfold numB
  rw [List.length_cons, digs_len]
  have := nlen_8 h
  omega
theorem numI_len {i : Int} (h : I64 i) : (numB (foldN i)).length ≤ 9 := numB_len (foldN_lt h)
theorem putcmd_any (nb : Nat) (a : Option Addr) (cap : Nat) (bs : List Int) (c : CmD) (hi : ∀ i ∈ c.is, I64 i) (w : World) (H : WAt w nb a cap bs) (hl : bs.length + 72 ≤ 140737488355328) : Calls Try.prog 44 #[.pointer (some ⟨nb, 0, none⟩), .agg c.cells.toArray] w (WR w nb a cap (bs ++ cmdB c) (.tuple #[])) := by
  have i0 : I64 c.sess := hi _ (by simp [CmD.is])
  have n0 := numI_len i0
  obtain ⟨b0, e0⟩ : ∃ b, b = bs ++ numB (foldN c.sess) := ⟨_, rfl⟩
  have l0 : b0.length = bs.length + (numB (foldN c.sess)).length := by rw [e0, List.length_append]
  have i1 : I64 c.seq := hi _ (by simp [CmD.is])
  have n1 := numI_len i1
  obtain ⟨b1, e1⟩ : ∃ b, b = b0 ++ numB (foldN c.seq) := ⟨_, rfl⟩
  have l1 : b1.length = b0.length + (numB (foldN c.seq)).length := by rw [e1, List.length_append]
  have i2 : I64 c.ack := hi _ (by simp [CmD.is])
  have n2 := numI_len i2
  obtain ⟨b2, e2⟩ : ∃ b, b = b1 ++ numB (foldN c.ack) := ⟨_, rfl⟩
  have l2 : b2.length = b1.length + (numB (foldN c.ack)).length := by rw [e2, List.length_append]
  have i3 : I64 c.op.kind := hi _ (by simp [CmD.is])
  have n3 := numI_len i3
  obtain ⟨b3, e3⟩ : ∃ b, b = b2 ++ numB (foldN c.op.kind) := ⟨_, rfl⟩
  have l3 : b3.length = b2.length + (numB (foldN c.op.kind)).length := by rw [e3, List.length_append]
  have i4 : I64 c.op.reg := hi _ (by simp [CmD.is])
  have n4 := numI_len i4
  obtain ⟨b4, e4⟩ : ∃ b, b = b3 ++ numB (foldN c.op.reg) := ⟨_, rfl⟩
  have l4 : b4.length = b3.length + (numB (foldN c.op.reg)).length := by rw [e4, List.length_append]
  have i5 : I64 c.op.tg := hi _ (by simp [CmD.is])
  have n5 := numI_len i5
  obtain ⟨b5, e5⟩ : ∃ b, b = b4 ++ numB (foldN c.op.tg) := ⟨_, rfl⟩
  have l5 : b5.length = b4.length + (numB (foldN c.op.tg)).length := by rw [e5, List.length_append]
  have i6 : I64 c.op.re := hi _ (by simp [CmD.is])
  have n6 := numI_len i6
  obtain ⟨b6, e6⟩ : ∃ b, b = b5 ++ numB (foldN c.op.re) := ⟨_, rfl⟩
  have l6 : b6.length = b5.length + (numB (foldN c.op.re)).length := by rw [e6, List.length_append]
  have i7 : I64 c.op.im := hi _ (by simp [CmD.is])
  have n7 := numI_len i7
  obtain ⟨b7, e7⟩ : ∃ b, b = b6 ++ numB (foldN c.op.im) := ⟨_, rfl⟩
  have l7 : b7.length = b6.length + (numB (foldN c.op.im)).length := by rw [e7, List.length_append]
  have hall : bs ++ cmdB c = b7 := by
    rw [e7, e6, e5, e4, e3, e2, e1, e0]; simp [cmdB, CmD.is, List.append_assoc]
  rw [hall]
  refine calls_at (tab_ok _) Try.func44 rfl tPutCmd (ρ := ⟨c.is, [], [], [bs.length, cap], [a]⟩) (ids := [nb]) (hx := HX.nil.and (frow a cap bs)) (M := fun x => x = nb ∨ (cap ≠ 0 ∧ abk a = some x)) rfl (Facts.initx rfl oneNil H.blk rfl (.inl rfl) ⟨trivial, H.mem⟩ (fun k hk => hk.elim (fun q => q.elim) (H.sep k))) ?_
  refine node_wr (bs := bs) (bs' := b0) 0 (fun a' c' => ⟨[], [], [], [b0.length, c'], [a']⟩) (fun ids => .pointer (some ⟨idAt ids 0, 0, none⟩)) (fun ids => #[.pointer (some ⟨idAt ids 0, 0, none⟩), .int .i64 c.sess]) rfl rfl (by intros; kernel_rfl) (fun k h1 h2 => .inr (.inr ⟨h1, h2⟩)) (fun k _ _ q => q.elim) (by intros; kernel_rfl) (fun ids w2 hp hf HW => by rw [e0]; exact wint_any _ a cap bs c.sess i0 w2 HW (by omega)) [.sl 1 (.var 2) (.var 3)] rfl (by intros; kernel_rfl) (by intros; kernel_rfl) rfl (fun _ _ => rfl) (fun _ _ => oneNil) ?_
  intro a1 c1 hk1 hf1
  refine node_wr (bs := b0) (bs' := b1) 0 (fun a' c' => ⟨[], [], [], [b1.length, c'], [a']⟩) (fun ids => .pointer (some ⟨idAt ids 0, 0, none⟩)) (fun ids => #[.pointer (some ⟨idAt ids 0, 0, none⟩), .int .i64 c.seq]) rfl rfl (by intros; kernel_rfl) (fun k h1 h2 => (hk1 k h1 h2).1) (fun k _ _ q => q.elim) (by intros; kernel_rfl) (fun ids w2 hp hf HW => by rw [e1]; exact wint_any _ a1 c1 b0 c.seq i1 w2 HW (by omega)) [.sl 2 (.var 4) (.var 5)] rfl (by intros; kernel_rfl) (by intros; kernel_rfl) rfl (fun _ _ => rfl) (fun _ _ => oneNil) ?_
  intro a2 c2 hk2 hf2
  refine node_wr (bs := b1) (bs' := b2) 0 (fun a' c' => ⟨[], [], [], [b2.length, c'], [a']⟩) (fun ids => .pointer (some ⟨idAt ids 0, 0, none⟩)) (fun ids => #[.pointer (some ⟨idAt ids 0, 0, none⟩), .int .i64 c.ack]) rfl rfl (by intros; kernel_rfl) (fun k h1 h2 => (hk2 k h1 h2).1) (fun k _ _ q => q.elim) (by intros; kernel_rfl) (fun ids w2 hp hf HW => by rw [e2]; exact wint_any _ a2 c2 b1 c.ack i2 w2 HW (by omega)) [.sl 3 (.var 6) (.var 7)] rfl (by intros; kernel_rfl) (by intros; kernel_rfl) rfl (fun _ _ => rfl) (fun _ _ => oneNil) ?_
  intro a3 c3 hk3 hf3
  refine node_wr (bs := b2) (bs' := b3) 0 (fun a' c' => ⟨[], [], [], [b3.length, c'], [a']⟩) (fun ids => .pointer (some ⟨idAt ids 0, 0, none⟩)) (fun ids => #[.pointer (some ⟨idAt ids 0, 0, none⟩), .int .i64 c.op.kind]) rfl rfl (by intros; kernel_rfl) (fun k h1 h2 => (hk3 k h1 h2).1) (fun k _ _ q => q.elim) (by intros; kernel_rfl) (fun ids w2 hp hf HW => by rw [e3]; exact wint_any _ a3 c3 b2 c.op.kind i3 w2 HW (by omega)) [.sl 4 (.var 8) (.var 9)] rfl (by intros; kernel_rfl) (by intros; kernel_rfl) rfl (fun _ _ => rfl) (fun _ _ => oneNil) ?_
  intro a4 c4 hk4 hf4
  refine node_wr (bs := b3) (bs' := b4) 0 (fun a' c' => ⟨[], [], [], [b4.length, c'], [a']⟩) (fun ids => .pointer (some ⟨idAt ids 0, 0, none⟩)) (fun ids => #[.pointer (some ⟨idAt ids 0, 0, none⟩), .int .i64 c.op.reg]) rfl rfl (by intros; kernel_rfl) (fun k h1 h2 => (hk4 k h1 h2).1) (fun k _ _ q => q.elim) (by intros; kernel_rfl) (fun ids w2 hp hf HW => by rw [e4]; exact wint_any _ a4 c4 b3 c.op.reg i4 w2 HW (by omega)) [.sl 5 (.var 10) (.var 11)] rfl (by intros; kernel_rfl) (by intros; kernel_rfl) rfl (fun _ _ => rfl) (fun _ _ => oneNil) ?_
  intro a5 c5 hk5 hf5
  refine node_wr (bs := b4) (bs' := b5) 0 (fun a' c' => ⟨[], [], [], [b5.length, c'], [a']⟩) (fun ids => .pointer (some ⟨idAt ids 0, 0, none⟩)) (fun ids => #[.pointer (some ⟨idAt ids 0, 0, none⟩), .int .i64 c.op.tg]) rfl rfl (by intros; kernel_rfl) (fun k h1 h2 => (hk5 k h1 h2).1) (fun k _ _ q => q.elim) (by intros; kernel_rfl) (fun ids w2 hp hf HW => by rw [e5]; exact wint_any _ a5 c5 b4 c.op.tg i5 w2 HW (by omega)) [.sl 6 (.var 12) (.var 13)] rfl (by intros; kernel_rfl) (by intros; kernel_rfl) rfl (fun _ _ => rfl) (fun _ _ => oneNil) ?_
  intro a6 c6 hk6 hf6
  refine node_wr (bs := b5) (bs' := b6) 0 (fun a' c' => ⟨[], [], [], [b6.length, c'], [a']⟩) (fun ids => .pointer (some ⟨idAt ids 0, 0, none⟩)) (fun ids => #[.pointer (some ⟨idAt ids 0, 0, none⟩), .int .i64 c.op.re]) rfl rfl (by intros; kernel_rfl) (fun k h1 h2 => (hk6 k h1 h2).1) (fun k _ _ q => q.elim) (by intros; kernel_rfl) (fun ids w2 hp hf HW => by rw [e6]; exact wint_any _ a6 c6 b5 c.op.re i6 w2 HW (by omega)) [.sl 7 (.var 14) (.var 15)] rfl (by intros; kernel_rfl) (by intros; kernel_rfl) rfl (fun _ _ => rfl) (fun _ _ => oneNil) ?_
  intro a7 c7 hk7 hf7
  refine node_wr (bs := b6) (bs' := b7) 0 (fun a' c' => ⟨[], [], [], [b7.length, c'], [a']⟩) (fun ids => .pointer (some ⟨idAt ids 0, 0, none⟩)) (fun ids => #[.pointer (some ⟨idAt ids 0, 0, none⟩), .int .i64 c.op.im]) rfl rfl (by intros; kernel_rfl) (fun k h1 h2 => (hk7 k h1 h2).1) (fun k _ _ q => q.elim) (by intros; kernel_rfl) (fun ids w2 hp hf HW => by rw [e7]; exact wint_any _ a7 c7 b6 c.op.im i7 w2 HW (by omega)) [.sl 8 (.var 16) (.var 17)] rfl (by intros; kernel_rfl) (by intros; kernel_rfl) rfl (fun _ _ => rfl) (fun _ _ => oneNil) ?_
  intro a8 c8 hk8 hf8
  intro ids w2 hp hf
  refine ⟨a8, c8, rfl, ?_, hf.x.2, hf.chg, fun k h1 h2 => ?_⟩
  · have := hf.blkAt 0 rfl
    rw [idAt0 hp] at this
    exact this
  · have go : ∀ {b0 b1 b2 : Prop}, (b1 ∨ b2) → (b1 → b0 ∨ b2) → b0 ∨ b2 := fun h f => h.elim f .inr
    refine go (hf8 k h1 h2) fun q => go (hf7 k q.1 q.2) fun q => go (hf6 k q.1 q.2) fun q => go (hf5 k q.1 q.2) fun q => go (hf4 k q.1 q.2) fun q => go (hf3 k q.1 q.2) fun q => go (hf2 k q.1 q.2) fun q => hf1 k q.1 q.2
def natU (i : Int) : Nat := (IntKind.u64.wrap i).toNat
theorem natU_c (i : Int) : IntKind.u64.wrap i = (natU i : Int) := by
  unfold natU
  have : (0 : Int) ≤ IntKind.u64.wrap i := by show (0 : Int) ≤ i % 18446744073709551616; omega
  omega
theorem natU_lt (i : Int) : natU i < 2 ^ 64 := by
  have : IntKind.u64.wrap i < 18446744073709551616 := by show i % 18446744073709551616 < 18446744073709551616; omega
  have h := natU_c i
  omega
theorem natU_n {n : Nat} (h : n < 2 ^ 64) : IntKind.u64.wrap (n : Int) = (n : Int) := IntWalk.u64_in _ (by omega)
def vlB (v : Vl) : List Int := numB (natU v.k) ++ (numB v.cs.length ++ (v.cs.flatMap cmdB ++ (numB v.ns.length ++ v.ns.flatMap fun n => numB (natU n))))
theorem cmdB_len {c : CmD} (h : ∀ i ∈ c.is, I64 i) : (cmdB c).length ≤ 72 := by
  have key : ∀ l : List Int, (∀ i ∈ l, I64 i) → (l.flatMap fun i => numB (foldN i)).length ≤ 9 * l.length := by
    intro l
    induction l with
    | nil => intro _; simp
    | cons x r ih =>
      intro h
      have h1 := numI_len (h x (by simp))
      have h2 := ih (fun i q => h i (by simp [q]))
      rw [List.flatMap_cons, List.length_append, List.length_cons]; omega
  exact key c.is h
theorem csB_len {cs : List CmD} (h : ∀ c ∈ cs, ∀ i ∈ c.is, I64 i) : (cs.flatMap cmdB).length ≤ 72 * cs.length := by
  induction cs with
  | nil => simp
  | cons x r ih =>
    have h1 := cmdB_len (h x (by simp))
    have h2 := ih (fun i q => h i (by simp [q]))
    rw [List.flatMap_cons, List.length_append, List.length_cons]; omega
theorem nsB_len (ns : List Int) : (ns.flatMap fun n => numB (natU n)).length ≤ 9 * ns.length := by
  induction ns with
  | nil => simp
  | cons x r ih =>
    have h1 := numB_len (natU_lt x)
    rw [List.flatMap_cons, List.length_append, List.length_cons]; omega
theorem flat_step {α : Type} {l : List α} {k : Nat} {x : α} (f : α → List Int) (h : l[k]? = some x) : (l.take (k + 1)).flatMap f = (l.take k).flatMap f ++ f x := by
  rw [List.take_add_one, h, List.flatMap_append]; simp
theorem vlB_len {v : Vl} (hc : ∀ c ∈ v.cs, ∀ i ∈ c.is, I64 i) (h1 : v.cs.length < 2 ^ 64) (h2 : v.ns.length < 2 ^ 64) : (vlB v).length ≤ 27 + 72 * v.cs.length + 9 * v.ns.length := by
  have g1 := numB_len (natU_lt v.k)
  have g2 := numB_len h1
  have g3 := numB_len h2
  have g4 := csB_len hc
  have g5 := nsB_len v.ns
  unfold vlB
  simp only [List.length_append]
  omega
def Fr (W : World) (a : Option Addr) (cap : Nat) (a' : Option Addr) (cap' : Nat) : Prop := ∀ k, cap' ≠ 0 → abk a' = some k → (cap ≠ 0 ∧ abk a = some k) ∨ W.heap.size ≤ k
theorem Fr.trans {W : World} {a a1 a2 : Option Addr} {c c1 c2 : Nat} (h : Fr W a c a1 c1) (h2 : ∀ k, c2 ≠ 0 → abk a2 = some k → (c1 ≠ 0 ∧ abk a1 = some k) ∨ W.heap.size ≤ k) : Fr W a c a2 c2 := fun k h3 h4 => (h2 k h3 h4).elim (fun q => h k q.1 q.2) .inr
def WvI {α : Type} (W : World) (a : Option Addr) (cap : Nat) (b0 : List Int) (l : List α) (f : α → List Int) (vs : Vals) (hx : HX) : Prop := ∃ (k : Nat) (a' : Option Addr) (cap' : Nat), k ≤ l.length ∧ Fr W a cap a' cap' ∧
  vs = ⟨[(k : Int)], [], [], [(b0 ++ (l.take k).flatMap f).length, cap'], [a']⟩ ∧ hx = HX.nil.and (frow a' cap' (b0 ++ (l.take k).flatMap f))
theorem write_any (nb : Nat) (a : Option Addr) (cap : Nat) (bs : List Int) (v : Vl) (a1 : Option Addr) (c1 : Nat) (a2 : Option Addr) (c2 : Nat) (hk : I64 v.k) (hc : ∀ c ∈ v.cs, ∀ i ∈ c.is, I64 i) (w : World) (H : WAt w nb a cap bs) (HV : VlAt w v a1 a2) (hl : bs.length + 27 + 72 * v.cs.length + 9 * v.ns.length ≤ 140737488355328)
    (hd : ∀ k, (k = nb ∨ (cap ≠ 0 ∧ abk a = some k)) → (v.cs ≠ [] → k ≠ blk a1) ∧ (v.ns ≠ [] → k ≠ blk a2)) :
    Calls Try.prog 43 #[.pointer (some ⟨nb, 0, none⟩), vlV v a1 c1 a2 c2] w (WR w nb a cap (bs ++ vlB v) (.tuple #[])) := by
  have hl1 := HV.l1
  have hl2 := HV.l2
  have g1 := numB_len (natU_lt v.k)
  have g2 := numB_len (u := v.cs.length) (by omega)
  have g3 := numB_len (u := v.ns.length) (by omega)
  have gc : ∀ k, ((v.cs.take k).flatMap cmdB).length ≤ 72 * k := fun k => by
    have h1 := csB_len (cs := v.cs.take k) (fun c q => hc c (List.mem_of_mem_take q))
    have h2 : (v.cs.take k).length ≤ k := by rw [List.length_take]; omega
    omega
  have gn : ∀ k, ((v.ns.take k).flatMap fun n => numB (natU n)).length ≤ 9 * k := fun k => by
    have h1 := nsB_len (v.ns.take k)
    have h2 : (v.ns.take k).length ≤ k := by rw [List.length_take]; omega
    omega
  refine calls_at (tab_ok _) Try.func43 rfl tWrite (ρ := ⟨[v.k], [], [], [v.cs.length, c1, v.ns.length, c2, bs.length, cap], [a1, a2, a]⟩) (ids := [nb]) (hx := HX.nil.and (frow a cap bs)) (M := fun x => x = nb ∨ (cap ≠ 0 ∧ abk a = some x)) rfl (Facts.initx rfl oneNil H.blk rfl (.inl rfl) ⟨trivial, H.mem⟩ (fun k hk => hk.elim (fun q => q.elim) (H.sep k))) ?_
  obtain ⟨b1, e1⟩ : ∃ b, b = bs ++ numB (natU v.k) := ⟨_, rfl⟩
  have l1 : b1.length = bs.length + (numB (natU v.k)).length := by rw [e1, List.length_append]
  obtain ⟨b2, e2⟩ : ∃ b, b = b1 ++ numB v.cs.length := ⟨_, rfl⟩
  have l2 : b2.length = b1.length + (numB v.cs.length).length := by rw [e2, List.length_append]
  refine node_wr (bs := bs) (bs' := b1) 0 (fun a' c' => ⟨[], [], [], [b1.length, c'], [a']⟩) (fun ids => .pointer (some ⟨idAt ids 0, 0, none⟩)) (fun ids => #[.pointer (some ⟨idAt ids 0, 0, none⟩), .int .u64 (natU v.k : Int)]) rfl rfl (by intros; kernel_rfl) (fun k h1 h2 => .inr (.inr ⟨h1, h2⟩)) (fun k _ _ q => q.elim) (fun ids => by rw [← natU_c]; rfl) (fun ids w2 hp hf HW => by rw [e1]; exact wnum_any _ a cap bs (natU v.k) (natU_lt _) w2 HW (by omega)) [.sl 3 (.var 6) (.var 7)] rfl (by intros; kernel_rfl) (by intros; kernel_rfl) rfl (fun _ _ => rfl) (fun _ _ => oneNil) ?_
  intro x1 y1 hk1 hf1
  refine node_wr (bs := b1) (bs' := b2) 0 (fun a' c' => ⟨[], [], [], [b2.length, c'], [a']⟩) (fun ids => .pointer (some ⟨idAt ids 0, 0, none⟩)) (fun ids => #[.pointer (some ⟨idAt ids 0, 0, none⟩), .int .u64 (v.cs.length : Int)]) rfl rfl (by intros; kernel_rfl) (fun k h1 h2 => (hk1 k h1 h2).1) (fun k _ _ q => q.elim) (fun ids => by rw [← natU_n (n := v.cs.length) (by omega)]; rfl) (fun ids w2 hp hf HW => by rw [e2]; exact wnum_any _ x1 y1 b1 v.cs.length (by omega) w2 HW (by omega)) [.sl 4 (.var 8) (.var 9)] rfl (by intros; kernel_rfl) (by intros; kernel_rfl) rfl (fun _ _ => rfl) (fun _ _ => oneNil) ?_
  intro x2 y2 hk2 hf2
  have fr2 : Fr w a cap x2 y2 := Fr.trans (fun k h1 h2 => hf1 k h1 h2) hf2
  refine loop_i (WvI w a cap b2 v.cs cmdB) (fun vs => v.cs.length - (vs.i.headD 0).toNat) (fun ids w2 hp hf => ⟨_, ⟨hf.x, hf.sep⟩, 0, x2, y2, Nat.zero_le _, fr2, by rw [List.take_zero, List.flatMap_nil, List.append_nil]; rfl, by rw [List.take_zero, List.flatMap_nil, List.append_nil]⟩) ?_
  rintro vs hx' hcnt ⟨k, x3, y3, hk3, fr3, rfl, rfl⟩
  have gck := gc k
  have fM : ∀ {x : Option Addr} {y : Nat}, Fr w a cap x y → ∀ k, y ≠ 0 → abk x = some k → w.heap.size ≤ k ∨ (k = nb ∨ (cap ≠ 0 ∧ abk a = some k)) := fun h k h1 h2 => (h k h1 h2).elim (fun q => .inr (.inr q)) .inl
  by_cases hlt : k < v.cs.length
  · refine br_t (show decide ((k : Int) < (v.cs.length : Int)) = true from decide_eq_true (by omega)) ?_
    obtain ⟨c, hcc⟩ : ∃ b, v.cs[k]? = some b := ⟨_, List.getElem?_eq_getElem hlt⟩
    have hci := hc c (List.mem_of_getElem? hcc)
    have hne : v.cs ≠ [] := fun e => by rw [e] at hlt; simp at hlt
    obtain ⟨s1, q1⟩ := c_elt HV.c hcc
    refine need_i ⟨s1, (show (0 : Int) ≤ k by omega), (show (k : Int) < v.cs.length by omega)⟩ ?_
    refine ⟨⟨c.is, [], [], [], []⟩, fun ids => q1 _ (fun q => by rw [getD_blk s1] at q; exact (hd _ q).1 hne rfl), ⟨rfl, oneNil⟩, ?_⟩
    have hst := flat_step cmdB hcc
    have hcl := cmdB_len hci
    refine node_wr (bs := b2 ++ (v.cs.take k).flatMap cmdB) (bs' := b2 ++ (v.cs.take (k + 1)).flatMap cmdB) 0 (fun a' c' => ⟨[], [], [], [(b2 ++ (v.cs.take (k + 1)).flatMap cmdB).length, c'], [a']⟩) (fun ids => .tuple #[]) (fun ids => #[.pointer (some ⟨idAt ids 0, 0, none⟩), .agg c.cells.toArray]) rfl rfl (by intros; kernel_rfl) (fun k h1 h2 => fM fr3 k h1 h2) (fun k _ _ q => q.elim) (by intros; kernel_rfl) (fun ids w2 hp hf HW => by rw [hst, ← List.append_assoc]; exact putcmd_any _ x3 y3 _ c hci w2 HW (by rw [List.length_append]; omega)) [.sl 6 (.var 12) (.var 13)] rfl (by intros; kernel_rfl) (by intros; kernel_rfl) rfl (fun _ _ => rfl) (fun _ _ => oneNil) ?_
    intro x4 y4 hk4 hf4 ids w2 hp hf
    have hwk : IntKind.i64.wrap ((k : Int) + 1) = ((k + 1 : Nat) : Int) := by rw [wrap_i64 (by omega)]; omega
    refine ⟨_, ⟨hf.x, hf.sep⟩, _, rfl, ⟨k + 1, x4, y4, by omega, fr3.trans hf4, by rw [← hwk]; rfl, rfl⟩, ?_⟩
    show v.cs.length - (IntKind.i64.wrap ((k : Int) + 1)).toNat < v.cs.length - ((k : Int)).toNat
    rw [hwk]; omega
  · refine br_f (show decide ((k : Int) < (v.cs.length : Int)) = false from decide_eq_false (by omega)) ?_
    obtain rfl : k = v.cs.length := by omega
    have htl : v.cs.take v.cs.length = v.cs := List.take_length
    rw [htl] at gck ⊢
    obtain ⟨b3, e3⟩ : ∃ b, b = b2 ++ v.cs.flatMap cmdB := ⟨_, rfl⟩
    have l3 : b3.length = b2.length + (v.cs.flatMap cmdB).length := by rw [e3, List.length_append]
    rw [← e3]
    obtain ⟨b4, e4⟩ : ∃ b, b = b3 ++ numB v.ns.length := ⟨_, rfl⟩
    have l4 : b4.length = b3.length + (numB v.ns.length).length := by rw [e4, List.length_append]
    refine node_wr (bs := b3) (bs' := b4) 0 (fun a' c' => ⟨[], [], [], [b4.length, c'], [a']⟩) (fun ids => .pointer (some ⟨idAt ids 0, 0, none⟩)) (fun ids => #[.pointer (some ⟨idAt ids 0, 0, none⟩), .int .u64 (v.ns.length : Int)]) rfl rfl (by intros; kernel_rfl) (fun k h1 h2 => fM fr3 k h1 h2) (fun k _ _ q => q.elim) (fun ids => by rw [← natU_n (n := v.ns.length) (by omega)]; rfl) (fun ids w2 hp hf HW => by rw [e4]; exact wnum_any _ x3 y3 b3 v.ns.length (by omega) w2 HW (by omega)) [.sl 6 (.var 12) (.var 13)] rfl (by intros; kernel_rfl) (by intros; kernel_rfl) rfl (fun _ _ => rfl) (fun _ _ => oneNil) ?_
    intro x4 y4 hk4 hf4
    refine loop_i (WvI w a cap b4 v.ns (fun n => numB (natU n))) (fun vs => v.ns.length - (vs.i.headD 0).toNat) (fun ids w2 hp hf => ⟨_, ⟨hf.x, hf.sep⟩, 0, x4, y4, Nat.zero_le _, fr3.trans hf4, by rw [List.take_zero, List.flatMap_nil, List.append_nil]; rfl, by rw [List.take_zero, List.flatMap_nil, List.append_nil]⟩) ?_
    rintro vs hx' hcnt ⟨k, x5, y5, hk5, fr5, rfl, rfl⟩
    have gnk := gn k
    by_cases hlt : k < v.ns.length
    · refine br_t (show decide ((k : Int) < (v.ns.length : Int)) = true from decide_eq_true (by omega)) ?_
      obtain ⟨n, hn⟩ : ∃ b, v.ns[k]? = some b := ⟨_, List.getElem?_eq_getElem hlt⟩
      have hne : v.ns ≠ [] := fun e => by rw [e] at hlt; simp at hlt
      obtain ⟨s1, q1⟩ := ints_at HV.n hn
      refine need_i ⟨s1, (show (0 : Int) ≤ k by omega), (show (k : Int) < v.ns.length by omega)⟩ ?_
      refine ⟨⟨[n], [], [], [], []⟩, fun ids => q1 _ (fun q => by rw [getD_blk s1] at q; exact (hd _ q).2 hne rfl), ⟨rfl, oneNil⟩, ?_⟩
      have hst := flat_step (fun n => numB (natU n)) hn
      have hcl := numB_len (natU_lt n)
      refine node_wr (bs := b4 ++ (v.ns.take k).flatMap fun n => numB (natU n)) (bs' := b4 ++ (v.ns.take (k + 1)).flatMap fun n => numB (natU n)) 0 (fun a' c' => ⟨[], [], [], [(b4 ++ (v.ns.take (k + 1)).flatMap fun n => numB (natU n)).length, c'], [a']⟩) (fun ids => .pointer (some ⟨idAt ids 0, 0, none⟩)) (fun ids => #[.pointer (some ⟨idAt ids 0, 0, none⟩), .int .u64 (natU n : Int)]) rfl rfl (by intros; kernel_rfl) (fun k h1 h2 => fM fr5 k h1 h2) (fun k _ _ q => q.elim) (fun ids => by rw [← natU_c]; rfl) (fun ids w2 hp hf HW => by rw [hst, ← List.append_assoc]; exact wnum_any _ x5 y5 _ (natU n) (natU_lt n) w2 HW (by rw [List.length_append]; omega)) [.sl 8 (.var 16) (.var 17)] rfl (by intros; kernel_rfl) (by intros; kernel_rfl) rfl (fun _ _ => rfl) (fun _ _ => oneNil) ?_
      intro x6 y6 hk6 hf6 ids w2 hp hf
      have hwk : IntKind.i64.wrap ((k : Int) + 1) = ((k + 1 : Nat) : Int) := by rw [wrap_i64 (by omega)]; omega
      refine ⟨_, ⟨hf.x, hf.sep⟩, _, rfl, ⟨k + 1, x6, y6, by omega, fr5.trans hf6, by rw [← hwk]; rfl, rfl⟩, ?_⟩
      show v.ns.length - (IntKind.i64.wrap ((k : Int) + 1)).toNat < v.ns.length - ((k : Int)).toNat
      rw [hwk]; omega
    · refine br_f (show decide ((k : Int) < (v.ns.length : Int)) = false from decide_eq_false (by omega)) ?_
      obtain rfl : k = v.ns.length := by omega
      have htl2 : v.ns.take v.ns.length = v.ns := List.take_length
      rw [htl2]
      have hall : b4 ++ (v.ns.flatMap fun n => numB (natU n)) = bs ++ vlB v := by
        rw [e4, e3, e2, e1]; simp [vlB, List.append_assoc]
      rw [hall]
      intro ids w2 hp hf
      refine ⟨x5, y5, rfl, ?_, hf.x.2, hf.chg, fr5⟩
      have := hf.blkAt 0 rfl
      rw [idAt0 hp] at this
      exact this
section
variable {C : Cfg} {ρ : Env} {pre : List Nat} {hx : HX} {L : Stack} {m m' : Mem} {args : List SV} {r : SV} {t : Tree}
theorem node_newi {f : Nat} {V : Value → Value} {bs : List Int} (AS : List Nat → Array Value) (vs : Option Addr → Nat → Vals) (hargs : ∀ ids, (args.map (SV.den ρ ids)).toArray = AS ids) (hcall : ∀ ids w, pre <+: ids → Facts C m ρ ids hx w → Calls C.P f (AS ids) w (NewO w V bs))
    (hr : ∀ a' c' ids, r.den (ρ.add (vs a' c')) ids = V (.slice a' bs.length c')) (hhp : m'.hp = m.hp) (hfit : hpFits m.c m.hp.length m.hp = true) (hc : ∀ a' c', (ρ.add (vs a' c')).cnt = m'.c) (h1 : ∀ a' c' v, v ∈ (vs a' c').v → v.oneCell' = true)
    (h : ∀ a' c', (bs ≠ [] → a'.isSome = true) → (∀ k, c' ≠ 0 → abk a' = some k → C.W.heap.size ≤ k ∧ ¬ hx.F k) → t.holds C (ρ.add (vs a' c')) pre (hx.and (frow a' c' bs)) L) : (Tree.call f args m r m' t).holds C ρ pre hx L := by
  intro ids w hp hf
  rw [hargs]
  refine (hcall ids w hp hf).mono ?_
  rintro e w' ⟨a', c', rfl, hX, hge, hbel⟩
  have hg : w.grownBy w' none := ⟨hbel.os, hbel.tape, hbel.output, hbel.size, fun k hk _ => hbel.block k hk⟩
  refine ⟨_, ids, _, by rw [← hr a' c' ids], List.prefix_refl _, hf.turn (hx' := hx.and (frow a' c' bs)) hg (fun b e => by cases e) ⟨hx.loc w w' hf.x fun k hk => hbel.block k (hf.sep k hk).1, hX⟩ (fun k hk => ?_) hhp hfit (hc _ _) (h1 _ _), holds_pre t hp (h a' c' (row_some hX) (fun k h2 h3 => ⟨Nat.le_trans hf.chg.size (hge k h2 h3), fun q => by have := (hf.sep _ q).1; have := hge k h2 h3; omega⟩))⟩
  rcases hk with hk | hk
  · exact .inl hk
  · exact .inr ⟨hge k hk.1 hk.2, frow_lt hX hk.1 hk.2⟩
end
theorem right_len {v : Vl} (h : valE v = 0) : v.cs.length ≤ 8 ∧ v.ns.length ≤ 7 ∧ 0 ≤ v.k ∧ v.k ≤ 2 := by
  unfold valE at h
  split at h
  · rename_i hk
    split at h
    · cases h
    · rename_i h1
      have h2 : v.cs = [] := Classical.byContradiction fun q => h1 (.inl q)
      have h3 : v.ns = [] := Classical.byContradiction fun q => h1 (.inr q)
      rw [h2, h3, hk]; decide
  · split at h
    · rename_i hk
      split at h
      · cases h
      · rename_i h1
        have h2 : v.cs = [] := Classical.byContradiction h1
        have h3 : v.ns.length ≤ 7 := by
          unfold checkV at h
          split at h
          · rename_i hs
            exact (setOkB_iff.1 hs).2.1
          · cases h
        rw [h2, hk]; exact ⟨by decide, h3, by decide, by decide⟩
    · split at h
      · rename_i hk
        split at h
        · cases h
        · rename_i h1
          have h3 : v.ns = [] := Classical.byContradiction fun q => h1 (.inr (.inr q))
          rw [h3, hk]
          exact ⟨by omega, by decide, by decide, by decide⟩
      · cases h
def stN (bs : List Int) (p : Nat × Int) : Nat × Int := (ixN bs p.1 p.2, (readN (bs.drop p.1) p.2).2.1)
def unN (bs : List Int) (p : Nat × Int) : Nat := (readN (bs.drop p.1) p.2).2.2
def vaN (bs : List Int) (p : Nat × Int) : Int := unfoldN (unN bs p)
def stC (most : Int) (bs : List Int) (p : Nat × Int) : Nat × Int := (ixN bs p.1 p.2, (readC most (bs.drop p.1) p.2).2.1)
def vaC (most : Int) (bs : List Int) (p : Nat × Int) : Nat := (readC most (bs.drop p.1) p.2).2.2
theorem vaC_le {most : Int} (h : 0 ≤ most) (bs : List Int) (p : Nat × Int) : (vaC most bs p : Int) ≤ most := by
  unfold vaC readC
  dsimp only
  split
  · show ((0 : Nat) : Int) ≤ most; omega
  · rename_i q; omega
def tcS (bs : List Int) (p : Nat × Int) : Nat × Int := stN bs (stN bs (stN bs (stN bs (stN bs (stN bs (stN bs (stN bs p)))))))
def tcC (bs : List Int) (p : Nat × Int) : CmD :=
  let p1 := stN bs p
  let p2 := stN bs p1
  let p3 := stN bs p2
  let p4 := stN bs p3
  let p5 := stN bs p4
  let p6 := stN bs p5
  let p7 := stN bs p6
  ⟨vaN bs p, vaN bs p1, vaN bs p2, ⟨vaN bs p3, vaN bs p4, vaN bs p5, vaN bs p6, vaN bs p7⟩⟩
theorem vaN_fit {bs : List Int} (hb : Byt bs) (p : Nat × Int) : I64 (vaN bs p) := by
  have := readN_u64 (l := bs.drop p.1) (fun b q => hb b (List.mem_of_mem_drop q)) p.2
  unfold vaN unN unfoldN I64
  split <;> omega
def itN {α : Type} (f : α → α) : Nat → α → α
  | 0, p => p
  | k + 1, p => f (itN f k p)
def csN (bs : List Int) (k : Nat) (p : Nat × Int) : List CmD := (List.range k).map fun j => tcC bs (itN (tcS bs) j p)
def nsN (bs : List Int) (k : Nat) (p : Nat × Int) : List Int := (List.range k).map fun j => (vaC 9 bs (itN (stC 9 bs) j p) : Int)
theorem csN_step (bs : List Int) (k : Nat) (p : Nat × Int) : csN bs (k + 1) p = csN bs k p ++ [tcC bs (itN (tcS bs) k p)] := by unfold csN; rw [List.range_succ, List.map_append]; rfl
theorem nsN_step (bs : List Int) (k : Nat) (p : Nat × Int) : nsN bs (k + 1) p = nsN bs k p ++ [(vaC 9 bs (itN (stC 9 bs) k p) : Int)] := by unfold nsN; rw [List.range_succ, List.map_append]; rfl
theorem csN_len (bs : List Int) (k : Nat) (p : Nat × Int) : (csN bs k p).length = k := by unfold csN; rw [List.length_map, List.length_range]
theorem nsN_len (bs : List Int) (k : Nat) (p : Nat × Int) : (nsN bs k p).length = k := by unfold nsN; rw [List.length_map, List.length_range]
def rdA (bs : List Int) (p : Nat × Int) : Nat × Int := stC 8 bs (stC 2 bs p)
def rdB (bs : List Int) (p : Nat × Int) : Nat × Int := itN (tcS bs) (vaC 8 bs (stC 2 bs p)) (rdA bs p)
def rdV (bs : List Int) (p : Nat × Int) : Vl := ⟨(vaC 2 bs p : Int), csN bs (vaC 8 bs (stC 2 bs p)) (rdA bs p), nsN bs (vaC 7 bs (rdB bs p)) (stC 7 bs (rdB bs p))⟩
def rdS (bs : List Int) (p : Nat × Int) : Nat × Int := itN (stC 9 bs) (vaC 7 bs (rdB bs p)) (stC 7 bs (rdB bs p))
theorem stN_le (bs : List Int) (p : Nat × Int) : (stN bs p).1 ≤ bs.length := ixN_le _ _ _
theorem stC_le (most : Int) (bs : List Int) (p : Nat × Int) : (stC most bs p).1 ≤ bs.length := ixN_le _ _ _
theorem it_le {bs : List Int} {f : Nat × Int → Nat × Int} (hf : ∀ p, (f p).1 ≤ bs.length) {p : Nat × Int} (hp : p.1 ≤ bs.length) : ∀ k, (itN f k p).1 ≤ bs.length
  | 0 => hp
  | k + 1 => hf _
def rcP (a : Option Addr) (cap : Nat) (bs : List Int) (p : Nat × Int) : List Value := rcells a cap bs p.1 p.2
theorem takecmd_any (nb : Nat) (a : Option Addr) (cap : Nat) (bs : List Int) (p : Nat × Int) (w : World) (H : RdAt w nb a cap bs p.1 p.2) : Calls Try.prog 83 #[.pointer (some ⟨nb, 0, none⟩)] w (At1 w nb 128 (.agg (tcC bs p).cells.toArray) (rcP a cap bs (tcS bs p))) := by
  refine calls_at (tab_ok _) Try.func83 rfl tTakeCmd (ρ := ⟨[(p.1 : Int), p.2], [], [], [bs.length, cap], [a]⟩) (ids := [nb]) (hx := HX.cl a (bcells bs)) (M := fun x => x = nb) rfl (Facts.initx rfl oneNil H.blk rfl rfl H.mem H.sepc) ?_
  obtain ⟨p1, e1⟩ : ∃ q, q = stN bs p := ⟨_, rfl⟩
  have x1 : p1.1 ≤ bs.length := by rw [e1]; exact stN_le _ _
  obtain ⟨p2, e2⟩ : ∃ q, q = stN bs p1 := ⟨_, rfl⟩
  have x2 : p2.1 ≤ bs.length := by rw [e2]; exact stN_le _ _
  obtain ⟨p3, e3⟩ : ∃ q, q = stN bs p2 := ⟨_, rfl⟩
  have x3 : p3.1 ≤ bs.length := by rw [e3]; exact stN_le _ _
  obtain ⟨p4, e4⟩ : ∃ q, q = stN bs p3 := ⟨_, rfl⟩
  have x4 : p4.1 ≤ bs.length := by rw [e4]; exact stN_le _ _
  obtain ⟨p5, e5⟩ : ∃ q, q = stN bs p4 := ⟨_, rfl⟩
  have x5 : p5.1 ≤ bs.length := by rw [e5]; exact stN_le _ _
  obtain ⟨p6, e6⟩ : ∃ q, q = stN bs p5 := ⟨_, rfl⟩
  have x6 : p6.1 ≤ bs.length := by rw [e6]; exact stN_le _ _
  obtain ⟨p7, e7⟩ : ∃ q, q = stN bs p6 := ⟨_, rfl⟩
  have x7 : p7.1 ≤ bs.length := by rw [e7]; exact stN_le _ _
  obtain ⟨p8, e8⟩ : ∃ q, q = stN bs p7 := ⟨_, rfl⟩
  have x8 : p8.1 ≤ bs.length := by rw [e8]; exact stN_le _ _
  have hC : tcC bs p = ⟨vaN bs p, vaN bs p1, vaN bs p2, ⟨vaN bs p3, vaN bs p4, vaN bs p5, vaN bs p6, vaN bs p7⟩⟩ := by rw [e7, e6, e5, e4, e3, e2, e1]; rfl
  have hS : tcS bs p = p8 := by rw [e8, e7, e6, e5, e4, e3, e2, e1]; rfl
  rw [hC, hS]
  refine node_rd (V := .int .i64 (vaN bs p)) (ix := p.1) (bad := p.2) (ix' := p1.1) (bad' := p1.2) 0 ⟨[(p1.1 : Int), p1.2, vaN bs p], [], [], [bs.length, cap], [a]⟩ (fun b => #[.pointer (some ⟨b, 0, none⟩)]) H.ok H.ix rfl rfl (by intros; kernel_rfl) (by intros; kernel_rfl) (fun w b h => by rw [e1]; exact rint_any b a cap bs p.1 p.2 w h) [.sl 1 (.var 2) (.var 3), .int .i64 (.var 2), .int .i64 (.var 3)] rfl (by intros; kernel_rfl) (by intros; kernel_rfl) rfl rfl oneNil ?_
  refine node_rd (V := .int .i64 (vaN bs p1)) (ix := p1.1) (bad := p1.2) (ix' := p2.1) (bad' := p2.2) 0 ⟨[(p2.1 : Int), p2.2, vaN bs p1], [], [], [bs.length, cap], [a]⟩ (fun b => #[.pointer (some ⟨b, 0, none⟩)]) H.ok x1 rfl rfl (by intros; kernel_rfl) (by intros; kernel_rfl) (fun w b h => by rw [e2]; exact rint_any b a cap bs p1.1 p1.2 w h) [.sl 2 (.var 4) (.var 5), .int .i64 (.var 5), .int .i64 (.var 6)] rfl (by intros; kernel_rfl) (by intros; kernel_rfl) rfl rfl oneNil ?_
  refine node_rd (V := .int .i64 (vaN bs p2)) (ix := p2.1) (bad := p2.2) (ix' := p3.1) (bad' := p3.2) 0 ⟨[(p3.1 : Int), p3.2, vaN bs p2], [], [], [bs.length, cap], [a]⟩ (fun b => #[.pointer (some ⟨b, 0, none⟩)]) H.ok x2 rfl rfl (by intros; kernel_rfl) (by intros; kernel_rfl) (fun w b h => by rw [e3]; exact rint_any b a cap bs p2.1 p2.2 w h) [.sl 3 (.var 6) (.var 7), .int .i64 (.var 8), .int .i64 (.var 9)] rfl (by intros; kernel_rfl) (by intros; kernel_rfl) rfl rfl oneNil ?_
  refine node_rd (V := .int .i64 (vaN bs p3)) (ix := p3.1) (bad := p3.2) (ix' := p4.1) (bad' := p4.2) 0 ⟨[(p4.1 : Int), p4.2, vaN bs p3], [], [], [bs.length, cap], [a]⟩ (fun b => #[.pointer (some ⟨b, 0, none⟩)]) H.ok x3 rfl rfl (by intros; kernel_rfl) (by intros; kernel_rfl) (fun w b h => by rw [e4]; exact rint_any b a cap bs p3.1 p3.2 w h) [.sl 4 (.var 8) (.var 9), .int .i64 (.var 11), .int .i64 (.var 12)] rfl (by intros; kernel_rfl) (by intros; kernel_rfl) rfl rfl oneNil ?_
  refine node_rd (V := .int .i64 (vaN bs p4)) (ix := p4.1) (bad := p4.2) (ix' := p5.1) (bad' := p5.2) 0 ⟨[(p5.1 : Int), p5.2, vaN bs p4], [], [], [bs.length, cap], [a]⟩ (fun b => #[.pointer (some ⟨b, 0, none⟩)]) H.ok x4 rfl rfl (by intros; kernel_rfl) (by intros; kernel_rfl) (fun w b h => by rw [e5]; exact rint_any b a cap bs p4.1 p4.2 w h) [.sl 5 (.var 10) (.var 11), .int .i64 (.var 14), .int .i64 (.var 15)] rfl (by intros; kernel_rfl) (by intros; kernel_rfl) rfl rfl oneNil ?_
  refine node_rd (V := .int .i64 (vaN bs p5)) (ix := p5.1) (bad := p5.2) (ix' := p6.1) (bad' := p6.2) 0 ⟨[(p6.1 : Int), p6.2, vaN bs p5], [], [], [bs.length, cap], [a]⟩ (fun b => #[.pointer (some ⟨b, 0, none⟩)]) H.ok x5 rfl rfl (by intros; kernel_rfl) (by intros; kernel_rfl) (fun w b h => by rw [e6]; exact rint_any b a cap bs p5.1 p5.2 w h) [.sl 6 (.var 12) (.var 13), .int .i64 (.var 17), .int .i64 (.var 18)] rfl (by intros; kernel_rfl) (by intros; kernel_rfl) rfl rfl oneNil ?_
  refine node_rd (V := .int .i64 (vaN bs p6)) (ix := p6.1) (bad := p6.2) (ix' := p7.1) (bad' := p7.2) 0 ⟨[(p7.1 : Int), p7.2, vaN bs p6], [], [], [bs.length, cap], [a]⟩ (fun b => #[.pointer (some ⟨b, 0, none⟩)]) H.ok x6 rfl rfl (by intros; kernel_rfl) (by intros; kernel_rfl) (fun w b h => by rw [e7]; exact rint_any b a cap bs p6.1 p6.2 w h) [.sl 7 (.var 14) (.var 15), .int .i64 (.var 20), .int .i64 (.var 21)] rfl (by intros; kernel_rfl) (by intros; kernel_rfl) rfl rfl oneNil ?_
  refine node_rd (V := .int .i64 (vaN bs p7)) (ix := p7.1) (bad := p7.2) (ix' := p8.1) (bad' := p8.2) 0 ⟨[(p8.1 : Int), p8.2, vaN bs p7], [], [], [bs.length, cap], [a]⟩ (fun b => #[.pointer (some ⟨b, 0, none⟩)]) H.ok x7 rfl rfl (by intros; kernel_rfl) (by intros; kernel_rfl) (fun w b h => by rw [e8]; exact rint_any b a cap bs p7.1 p7.2 w h) [.sl 8 (.var 16) (.var 17), .int .i64 (.var 23), .int .i64 (.var 24)] rfl (by intros; kernel_rfl) (by intros; kernel_rfl) rfl rfl oneNil ?_
  exact at1_done (by intros; kernel_rfl) (by intros; kernel_rfl)
def RdR (w : World) (nb : Nat) (v : Vl) (us : List Value) (e : Ending) (w' : World) : Prop := ∃ a1 c1 a2 c2, e = .returned (vlV v a1 c1 a2 c2) ∧ Blk w' nb us 128 ∧ (HX.rw 8 32 a1 v.cs.length c1 (ccells v.cs)).X w' ∧ (HX.rw 1 3 a2 v.ns.length c2 (v.ns.map (Value.int .i64))).X w' ∧
  (∀ k, c1 ≠ 0 → abk a1 = some k → w.heap.size ≤ k) ∧ (∀ k, c2 ≠ 0 → abk a2 = some k → w.heap.size ≤ k) ∧ (∀ k, c1 ≠ 0 → abk a1 = some k → c2 ≠ 0 → abk a2 = some k → False) ∧ w.grownBy w' (some nb)
def RI1 (W : World) (a : Option Addr) (cap : Nat) (bs : List Int) (kd : Int) (n : Nat) (q : Nat × Int) (vs : Vals) (hx : HX) : Prop := ∃ (k : Nat) (a1 : Option Addr) (c1 : Nat), k ≤ n ∧ (∀ j, c1 ≠ 0 → abk a1 = some j → W.heap.size ≤ j ∧ ¬ (HX.cl a (bcells bs)).F j) ∧
  vs = ⟨[(k : Int), ((itN (tcS bs) k q).1 : Int), (itN (tcS bs) k q).2, kd], [], [], [bs.length, cap, k, c1, 0, 0], [a, a1, none]⟩ ∧ hx = (HX.cl a (bcells bs)).and (crow a1 k c1 (csN bs k q))
def RI2 (W : World) (a : Option Addr) (cap : Nat) (bs : List Int) (kd : Int) (n : Nat) (cs : List CmD) (a1 : Option Addr) (c1 : Nat) (m : Nat) (q : Nat × Int) (vs : Vals) (hx : HX) : Prop := ∃ (k : Nat) (a2 : Option Addr) (c2 : Nat), k ≤ m ∧ (∀ j, c2 ≠ 0 → abk a2 = some j → W.heap.size ≤ j ∧ ¬ ((HX.cl a (bcells bs)).and (crow a1 n c1 cs)).F j) ∧
  vs = ⟨[(k : Int), ((itN (stC 9 bs) k q).1 : Int), (itN (stC 9 bs) k q).2, kd], [], [], [bs.length, cap, n, c1, k, c2], [a, a1, a2]⟩ ∧ hx = ((HX.cl a (bcells bs)).and (crow a1 n c1 cs)).and (nrow a2 k c2 (nsN bs k q))
set_option maxHeartbeats 4000000 in
theorem read_any (nb : Nat) (a : Option Addr) (cap : Nat) (bs : List Int) (p : Nat × Int) (w : World) (H : RdAt w nb a cap bs p.1 p.2) : Calls Try.prog 82 #[.pointer (some ⟨nb, 0, none⟩)] w (RdR w nb (rdV bs p) (rcP a cap bs (rdS bs p))) := by
  refine calls_at (tab_ok _) Try.func82 rfl tRead (ρ := ⟨[(p.1 : Int), p.2], [], [], [bs.length, cap], [a]⟩) (ids := [nb]) (hx := HX.cl a (bcells bs)) (M := fun x => x = nb) rfl (Facts.initx rfl oneNil H.blk rfl rfl H.mem H.sepc) ?_
  obtain ⟨kd, ekd⟩ : ∃ x : Nat, x = vaC 2 bs p := ⟨_, rfl⟩
  obtain ⟨q1, eq1⟩ : ∃ x, x = stC 2 bs p := ⟨_, rfl⟩
  obtain ⟨n, en⟩ : ∃ x : Nat, x = vaC 8 bs q1 := ⟨_, rfl⟩
  obtain ⟨q2, eq2⟩ : ∃ x, x = stC 8 bs q1 := ⟨_, rfl⟩
  have hn8 : (n : Int) ≤ 8 := by rw [en]; exact vaC_le (by decide) _ _
  have hq1 : q1.1 ≤ bs.length := by rw [eq1]; exact stC_le _ _ _
  have hq2 : q2.1 ≤ bs.length := by rw [eq2]; exact stC_le _ _ _
  refine node_rd (V := .int .i64 (kd : Int)) (ix := p.1) (bad := p.2) (ix' := q1.1) (bad' := q1.2) 0 ⟨[(q1.1 : Int), q1.2, (kd : Int)], [], [], [bs.length, cap], [a]⟩ (fun b => #[.pointer (some ⟨b, 0, none⟩), .int .i64 2]) H.ok H.ix rfl rfl (by intros; kernel_rfl) (by intros; kernel_rfl) (fun w b h => by rw [eq1, ekd]; exact rcount_any b a cap bs p.1 p.2 2 (by unfold I64; omega) w h) [.sl 1 (.var 2) (.var 3), .int .i64 (.var 2), .int .i64 (.var 3)] rfl (by intros; kernel_rfl) (by intros; kernel_rfl) rfl rfl oneNil ?_
  refine node_rd (V := .int .i64 (n : Int)) (ix := q1.1) (bad := q1.2) (ix' := q2.1) (bad' := q2.2) 0 ⟨[(q2.1 : Int), q2.2, (n : Int)], [], [], [bs.length, cap], [a]⟩ (fun b => #[.pointer (some ⟨b, 0, none⟩), .int .i64 8]) H.ok hq1 rfl rfl (by intros; kernel_rfl) (by intros; kernel_rfl) (fun w b h => by rw [eq2, en]; exact rcount_any b a cap bs q1.1 q1.2 8 (by unfold I64; omega) w h) [.sl 2 (.var 4) (.var 5), .int .i64 (.var 5), .int .i64 (.var 6)] rfl (by intros; kernel_rfl) (by intros; kernel_rfl) rfl rfl oneNil ?_
  refine loop_i (RI1 w a cap bs kd n q2) (fun vs => n - (vs.i.headD 0).toNat) (fun ids w2 hp hf => ⟨(HX.cl a (bcells bs)).and (crow none 0 0 []), ⟨⟨hf.x, HX.rw_nil _ _ _ _⟩, fun b hb => hb.elim (hf.sep b) (fun q => absurd rfl q.1)⟩, 0, none, 0, Nat.zero_le _, fun j q => absurd rfl q, rfl, rfl⟩) ?_
  rintro vs hx' hcnt ⟨k, a1, c1, hk1, hnew1, rfl, rfl⟩
  have ok1 : ∀ {a1 : Option Addr} {n c1 : Nat} {cs : List CmD}, RdOk ((HX.cl a (bcells bs)).and (crow a1 n c1 cs)) a cap bs := fun {a1 n c1 cs} => ⟨fun _ h => h.1, fun _ h => .inl h, H.byt, H.len, H.cap⟩
  have ok2 : ∀ {a1 a2 : Option Addr} {n c1 n2 c2 : Nat} {cs : List CmD} {ns : List Int}, RdOk (((HX.cl a (bcells bs)).and (crow a1 n c1 cs)).and (nrow a2 n2 c2 ns)) a cap bs := fun {a1 a2 n c1 n2 c2 cs ns} => ⟨fun _ h => h.1.1, fun _ h => .inl (.inl h), H.byt, H.len, H.cap⟩
  have hit : ∀ k, (itN (tcS bs) k q2).1 ≤ bs.length := it_le (fun _ => stN_le _ _) hq2
  by_cases hlt : k < n
  · refine br_t (show decide ((k : Int) < (n : Int)) = true from decide_eq_true (by omega)) ?_
    have hwk : IntKind.i64.wrap ((k : Int) + 1) = ((k + 1 : Nat) : Int) := by rw [wrap_i64 (by omega)]; omega
    obtain ⟨qk, eqk⟩ : ∃ x, x = itN (tcS bs) k q2 := ⟨_, rfl⟩
    obtain ⟨qn, eqn⟩ : ∃ x, x = itN (tcS bs) (k + 1) q2 := ⟨_, rfl⟩
    have hqn : tcS bs qk = qn := by rw [eqn, eqk]; rfl
    have hqk : qk.1 ≤ bs.length := by rw [eqk]; exact hit k
    obtain ⟨c, ec⟩ : ∃ c, c = tcC bs qk := ⟨_, rfl⟩
    have hcs := csN_step bs k q2
    rw [← eqk, ← ec] at hcs
    rw [← eqk]
    refine par_i ?_ ?_
    · refine node_rd (V := .agg c.cells.toArray) (ix := qk.1) (bad := qk.2) (ix' := qn.1) (bad' := qn.2) 0 ⟨[(qn.1 : Int), qn.2] ++ c.is, [], [], [bs.length, cap], [a]⟩ (fun b => #[.pointer (some ⟨b, 0, none⟩)]) ok1 hqk rfl rfl (by intros; kernel_rfl) (by intros; kernel_rfl) (fun w b h => by rw [ec, ← hqn]; exact takecmd_any b a cap bs qk w h) [.sl 6 (.var 12) (.var 13), .int .i64 (.var 12), .int .i64 (.var 13)] rfl (by intros; kernel_rfl) (by intros; kernel_rfl) rfl rfl oneNil ?_
      refine node_pushs (sz := 8) (vs := c.cells) rfl Try.underlying24 info_cmd rfl (by decide) a1 k c1 (ccells (csN bs k q2)) 3 (by intros; kernel_rfl) (by intros; kernel_rfl) rfl (by intros; kernel_rfl) rfl (cmd_one c) (fun j h1 h2 => (hnew1 j h1 h2).2) (fun j h1 h2 => .inl (hnew1 j h1 h2).1) (by unfold maxLen; omega) (by omega) (by intros; kernel_rfl) rfl rfl (fun _ _ => rfl) ?_
      intro b1 d1 hd1 hf1 hor1
      rw [ccells_snoc, ← hcs]
      intro ids w2 hp hf
      refine ⟨_, ⟨hf.x, hf.sep⟩, _, rfl, ⟨k + 1, b1, d1, by omega, fun j h1 h2 => ⟨?_, hf1 j h2⟩, ?_, rfl⟩, ?_⟩
      · rcases hor1 with ⟨y1, y2⟩ | ⟨g, y1, y2, _⟩
        · exact (hnew1 j y1 (y2 ▸ h2)).1
        · rw [y1] at h2; cases h2; exact y2
      · rw [← eqn, ← hwk]; rfl
      · show n - (IntKind.i64.wrap ((k : Int) + 1)).toNat < n - ((k : Int)).toNat
        rw [hwk]; omega
    · refine node_rd (V := .agg c.cells.toArray) (ix := qk.1) (bad := qk.2) (ix' := qn.1) (bad' := qn.2) 0 ⟨[(qn.1 : Int), qn.2] ++ c.is, [], [], [bs.length, cap], [a]⟩ (fun b => #[.pointer (some ⟨b, 0, none⟩)]) ok1 hqk rfl rfl (by intros; kernel_rfl) (by intros; kernel_rfl) (fun w b h => by rw [ec, ← hqn]; exact takecmd_any b a cap bs qk w h) [.sl 6 (.var 12) (.var 13), .int .i64 (.var 12), .int .i64 (.var 13)] rfl (by intros; kernel_rfl) (by intros; kernel_rfl) rfl rfl oneNil ?_
      refine par_i ?_ ?_
      · refine node_pushs (sz := 8) (vs := c.cells) rfl Try.underlying24 info_cmd rfl (by decide) a1 k c1 (ccells (csN bs k q2)) 3 (by intros; kernel_rfl) (by intros; kernel_rfl) rfl (by intros; kernel_rfl) rfl (cmd_one c) (fun j h1 h2 => (hnew1 j h1 h2).2) (fun j h1 h2 => .inl (hnew1 j h1 h2).1) (by unfold maxLen; omega) (by omega) (by intros; kernel_rfl) rfl rfl (fun _ _ => rfl) ?_
        intro b1 d1 hd1 hf1 hor1
        rw [ccells_snoc, ← hcs]
        intro ids w2 hp hf
        refine ⟨_, ⟨hf.x, hf.sep⟩, _, rfl, ⟨k + 1, b1, d1, by omega, fun j h1 h2 => ⟨?_, hf1 j h2⟩, ?_, rfl⟩, ?_⟩
        · rcases hor1 with ⟨y1, y2⟩ | ⟨g, y1, y2, _⟩
          · exact (hnew1 j y1 (y2 ▸ h2)).1
          · rw [y1] at h2; cases h2; exact y2
        · rw [← eqn, ← hwk]; rfl
        · show n - (IntKind.i64.wrap ((k : Int) + 1)).toNat < n - ((k : Int)).toNat
          rw [hwk]; omega
      · refine node_pushs (sz := 8) (vs := c.cells) rfl Try.underlying24 info_cmd rfl (by decide) a1 k c1 (ccells (csN bs k q2)) 3 (by intros; kernel_rfl) (by intros; kernel_rfl) rfl (by intros; kernel_rfl) rfl (cmd_one c) (fun j h1 h2 => (hnew1 j h1 h2).2) (fun j h1 h2 => .inl (hnew1 j h1 h2).1) (by unfold maxLen; omega) (by omega) (by intros; kernel_rfl) rfl rfl (fun _ _ => rfl) ?_
        intro b1 d1 hd1 hf1 hor1
        rw [ccells_snoc, ← hcs]
        intro ids w2 hp hf
        refine ⟨_, ⟨hf.x, hf.sep⟩, _, rfl, ⟨k + 1, b1, d1, by omega, fun j h1 h2 => ⟨?_, hf1 j h2⟩, ?_, rfl⟩, ?_⟩
        · rcases hor1 with ⟨y1, y2⟩ | ⟨g, y1, y2, _⟩
          · exact (hnew1 j y1 (y2 ▸ h2)).1
          · rw [y1] at h2; cases h2; exact y2
        · rw [← eqn, ← hwk]; rfl
        · show n - (IntKind.i64.wrap ((k : Int) + 1)).toNat < n - ((k : Int)).toNat
          rw [hwk]; omega
  · refine br_f (show decide ((k : Int) < (n : Int)) = false from decide_eq_false (by omega)) ?_
    obtain rfl : k = n := by omega
    obtain ⟨q3, eq3⟩ : ∃ x, x = itN (tcS bs) k q2 := ⟨_, rfl⟩
    have hq3 : q3.1 ≤ bs.length := by rw [eq3]; exact hit k
    obtain ⟨cs, ecs⟩ : ∃ x, x = csN bs k q2 := ⟨_, rfl⟩
    rw [← eq3, ← ecs]
    obtain ⟨m, em⟩ : ∃ x : Nat, x = vaC 7 bs q3 := ⟨_, rfl⟩
    obtain ⟨q4, eq4⟩ : ∃ x, x = stC 7 bs q3 := ⟨_, rfl⟩
    have hq4 : q4.1 ≤ bs.length := by rw [eq4]; exact stC_le _ _ _
    have hm7 : (m : Int) ≤ 7 := by rw [em]; exact vaC_le (by decide) _ _
    refine node_rd (V := .int .i64 (m : Int)) (ix := q3.1) (bad := q3.2) (ix' := q4.1) (bad' := q4.2) 0 ⟨[(q4.1 : Int), q4.2, (m : Int)], [], [], [bs.length, cap], [a]⟩ (fun b => #[.pointer (some ⟨b, 0, none⟩), .int .i64 7]) ok1 hq3 rfl rfl (by intros; kernel_rfl) (by intros; kernel_rfl) (fun w b h => by rw [eq4, em]; exact rcount_any b a cap bs q3.1 q3.2 7 (by unfold I64; omega) w h) [.sl 6 (.var 12) (.var 13), .int .i64 (.var 12), .int .i64 (.var 13)] rfl (by intros; kernel_rfl) (by intros; kernel_rfl) rfl rfl oneNil ?_
    refine loop_i (RI2 w a cap bs kd k cs a1 c1 m q4) (fun vs => m - (vs.i.headD 0).toNat) (fun ids w2 hp hf => ⟨((HX.cl a (bcells bs)).and (crow a1 k c1 cs)).and (nrow none 0 0 []), ⟨⟨hf.x, HX.rw_nil _ _ _ _⟩, fun b hb => hb.elim (hf.sep b) (fun q => absurd rfl q.1)⟩, 0, none, 0, Nat.zero_le _, fun j q => absurd rfl q, rfl, rfl⟩) ?_
    rintro vs hx' hcnt2 ⟨k2, a2, c2, hk2, hnew2, rfl, rfl⟩
    have hit2 : ∀ k, (itN (stC 9 bs) k q4).1 ≤ bs.length := it_le (fun _ => stC_le _ _ _) hq4
    by_cases hlt2 : k2 < m
    · refine br_t (show decide ((k2 : Int) < (m : Int)) = true from decide_eq_true (by omega)) ?_
      have hwk : IntKind.i64.wrap ((k2 : Int) + 1) = ((k2 + 1 : Nat) : Int) := by rw [wrap_i64 (by omega)]; omega
      obtain ⟨qk, eqk⟩ : ∃ x, x = itN (stC 9 bs) k2 q4 := ⟨_, rfl⟩
      obtain ⟨qn, eqn⟩ : ∃ x, x = itN (stC 9 bs) (k2 + 1) q4 := ⟨_, rfl⟩
      have hqn : stC 9 bs qk = qn := by rw [eqn, eqk]; rfl
      have hqk : qk.1 ≤ bs.length := by rw [eqk]; exact hit2 k2
      obtain ⟨c, ec⟩ : ∃ c : Nat, c = vaC 9 bs qk := ⟨_, rfl⟩
      have hns := nsN_step bs k2 q4
      rw [← eqk, ← ec] at hns
      rw [← eqk]
      refine par_i ?_ ?_
      · refine node_rd (V := .int .i64 (c : Int)) (ix := qk.1) (bad := qk.2) (ix' := qn.1) (bad' := qn.2) 0 ⟨[(qn.1 : Int), qn.2, (c : Int)], [], [], [bs.length, cap], [a]⟩ (fun b => #[.pointer (some ⟨b, 0, none⟩), .int .i64 9]) ok2 hqk rfl rfl (by intros; kernel_rfl) (by intros; kernel_rfl) (fun w b h => by rw [ec, ← hqn]; exact rcount_any b a cap bs qk.1 qk.2 9 (by unfold I64; omega) w h) [.sl 10 (.var 20) (.var 21), .int .i64 (.var 19), .int .i64 (.var 20)] rfl (by intros; kernel_rfl) (by intros; kernel_rfl) rfl rfl oneNil ?_
        refine node_pushs (sz := 1) (vs := [.int .i64 (c : Int)]) rfl Try.underlying25 info_int1 rfl (by decide) a2 k2 c2 ((nsN bs k2 q4).map (Value.int .i64)) 3 (by intros; kernel_rfl) (by intros; kernel_rfl) rfl (by intros; kernel_rfl) rfl (by simp [Value.oneCell']) (fun j h1 h2 => (hnew2 j h1 h2).2) (fun j h1 h2 => .inl (hnew2 j h1 h2).1) (by unfold maxLen; omega) (by omega) (by intros; kernel_rfl) rfl rfl (fun _ _ => rfl) ?_
        intro b1 d1 hd1 hf1 hor1
        rw [ncells_snoc, ← hns]
        intro ids w2 hp hf
        refine ⟨_, ⟨hf.x, hf.sep⟩, _, rfl, ⟨k2 + 1, b1, d1, by omega, fun j h1 h2 => ⟨?_, hf1 j h2⟩, ?_, rfl⟩, ?_⟩
        · rcases hor1 with ⟨y1, y2⟩ | ⟨g, y1, y2, _⟩
          · exact (hnew2 j y1 (y2 ▸ h2)).1
          · rw [y1] at h2; cases h2; exact y2
        · rw [← eqn, ← hwk]; rfl
        · show m - (IntKind.i64.wrap ((k2 : Int) + 1)).toNat < m - ((k2 : Int)).toNat
          rw [hwk]; omega
      · refine node_rd (V := .int .i64 (c : Int)) (ix := qk.1) (bad := qk.2) (ix' := qn.1) (bad' := qn.2) 0 ⟨[(qn.1 : Int), qn.2, (c : Int)], [], [], [bs.length, cap], [a]⟩ (fun b => #[.pointer (some ⟨b, 0, none⟩), .int .i64 9]) ok2 hqk rfl rfl (by intros; kernel_rfl) (by intros; kernel_rfl) (fun w b h => by rw [ec, ← hqn]; exact rcount_any b a cap bs qk.1 qk.2 9 (by unfold I64; omega) w h) [.sl 10 (.var 20) (.var 21), .int .i64 (.var 19), .int .i64 (.var 20)] rfl (by intros; kernel_rfl) (by intros; kernel_rfl) rfl rfl oneNil ?_
        refine par_i ?_ ?_
        · refine node_pushs (sz := 1) (vs := [.int .i64 (c : Int)]) rfl Try.underlying25 info_int1 rfl (by decide) a2 k2 c2 ((nsN bs k2 q4).map (Value.int .i64)) 3 (by intros; kernel_rfl) (by intros; kernel_rfl) rfl (by intros; kernel_rfl) rfl (by simp [Value.oneCell']) (fun j h1 h2 => (hnew2 j h1 h2).2) (fun j h1 h2 => .inl (hnew2 j h1 h2).1) (by unfold maxLen; omega) (by omega) (by intros; kernel_rfl) rfl rfl (fun _ _ => rfl) ?_
          intro b1 d1 hd1 hf1 hor1
          rw [ncells_snoc, ← hns]
          intro ids w2 hp hf
          refine ⟨_, ⟨hf.x, hf.sep⟩, _, rfl, ⟨k2 + 1, b1, d1, by omega, fun j h1 h2 => ⟨?_, hf1 j h2⟩, ?_, rfl⟩, ?_⟩
          · rcases hor1 with ⟨y1, y2⟩ | ⟨g, y1, y2, _⟩
            · exact (hnew2 j y1 (y2 ▸ h2)).1
            · rw [y1] at h2; cases h2; exact y2
          · rw [← eqn, ← hwk]; rfl
          · show m - (IntKind.i64.wrap ((k2 : Int) + 1)).toNat < m - ((k2 : Int)).toNat
            rw [hwk]; omega
        · refine node_pushs (sz := 1) (vs := [.int .i64 (c : Int)]) rfl Try.underlying25 info_int1 rfl (by decide) a2 k2 c2 ((nsN bs k2 q4).map (Value.int .i64)) 3 (by intros; kernel_rfl) (by intros; kernel_rfl) rfl (by intros; kernel_rfl) rfl (by simp [Value.oneCell']) (fun j h1 h2 => (hnew2 j h1 h2).2) (fun j h1 h2 => .inl (hnew2 j h1 h2).1) (by unfold maxLen; omega) (by omega) (by intros; kernel_rfl) rfl rfl (fun _ _ => rfl) ?_
          intro b1 d1 hd1 hf1 hor1
          rw [ncells_snoc, ← hns]
          intro ids w2 hp hf
          refine ⟨_, ⟨hf.x, hf.sep⟩, _, rfl, ⟨k2 + 1, b1, d1, by omega, fun j h1 h2 => ⟨?_, hf1 j h2⟩, ?_, rfl⟩, ?_⟩
          · rcases hor1 with ⟨y1, y2⟩ | ⟨g, y1, y2, _⟩
            · exact (hnew2 j y1 (y2 ▸ h2)).1
            · rw [y1] at h2; cases h2; exact y2
          · rw [← eqn, ← hwk]; rfl
          · show m - (IntKind.i64.wrap ((k2 : Int) + 1)).toNat < m - ((k2 : Int)).toNat
            rw [hwk]; omega
    · refine br_f (show decide ((k2 : Int) < (m : Int)) = false from decide_eq_false (by omega)) ?_
      obtain rfl : k2 = m := by omega
      have hV : rdV bs p = ⟨(kd : Int), cs, nsN bs k2 q4⟩ := by
        rw [ekd, ecs, eq4, em, eq3, eq2, en, eq1]; rfl
      have hS : rdS bs p = itN (stC 9 bs) k2 q4 := by
        rw [eq4, em, eq3, eq2, en, eq1]; rfl
      have hcl : cs.length = k := by rw [ecs, csN_len]
      have hnl := nsN_len bs k2 q4
      rw [hV, hS]
      intro ids w2 hp hf
      have e0 := hf.blkAt 0 rfl
      rw [idAt0 hp] at e0
      refine ⟨a1, c1, a2, c2, ?_, e0, ?_, ?_, fun j h1 h2 => (hnew1 j h1 h2).1, fun j h1 h2 => (hnew2 j h1 h2).1, fun j h1 h2 h3 h4 => (hnew2 j h3 h4).2 (.inr ⟨h1, h2⟩), hf.chg.grown⟩
      · unfold vlV
        dsimp only
        rw [hcl, hnl]; rfl
      · dsimp only
        rw [hcl]; exact hf.x.1.2
      · dsimp only
        rw [hnl]; exact hf.x.2
section
variable {C : Cfg} {ρ : Env} {pre : List Nat} {hx hx2 : HX} {L : Stack} {m m' : Mem} {args : List SV} {r : SV} {t : Tree} {ids : List Nat} {w w' : World}
theorem Facts.newx {vs : Vals} {b ty : Nat} {cs' : List LV} (hf : Facts C m ρ ids hx w) (hbel : Below w.heap.size w w') (hb0 : w.heap.size ≤ b) (hb : w'.heap[b]? = some (.cells (cellsDen (ρ.add vs) (ids ++ [b]) cs').toArray ty (0, 0))) (hX : hx2.X w') (hge : ∀ k, hx2.F k → w.heap.size ≤ k ∧ k < w'.heap.size ∧ k ≠ b)
    (hhp : m'.hp = m.hp ++ [(ty, cs')]) (hfit : hpFits m.c m.hp.length m.hp = true) (hc : (ρ.add vs).cnt = m'.c) (h1 : ∀ v, v ∈ vs.v → v.oneCell' = true) : Facts C m' (ρ.add vs) (ids ++ [b]) (hx.and hx2) w' := by
  have hpre : ids <+: ids ++ [b] := List.prefix_append _ _
  refine ⟨by rw [hhp]; simp [hf.len], ?_, fun k t2 cs2 hk => ?_, ?_, hf.chg.trans (chg_of_below hbel), ⟨hx.loc w w' hf.x (fun b hb2 => hbel.block b (hf.sep b hb2).1), hX⟩, ?_, envUp hf hc h1⟩
  · refine List.nodup_append.2 ⟨hf.nod, by simp, ?_⟩
    intro x hx1 y hy
    simp only [List.mem_singleton] at hy
    subst hy
    have := hf.id_lt hx1
    omega
  · rw [hhp, List.getElem?_append] at hk
    split at hk
    · rename_i hlt
      rw [idAt_pre hpre (hf.len ▸ hlt), hbel.block _ (hf.id_lt (idAt_mem (hf.len ▸ hlt))), hf.blk k t2 cs2 hk, cellsDen_add hf.cnt.cnt hpre hf.len (List.all_eq_true.1 hfit _ (List.mem_of_getElem? hk))]
    · rename_i hge
      have hk0 : k - m.hp.length = 0 := by
        rcases Nat.eq_zero_or_pos (k - m.hp.length) with q | q
        · exact q
        · rw [List.getElem?_eq_none (by simp; omega)] at hk; cases hk
      rw [hk0] at hk
      simp only [List.getElem?_cons_zero, Option.some.injEq, Prod.mk.injEq] at hk
      obtain ⟨rfl, rfl⟩ := hk
      have hkl : k = ids.length := by have := hf.len; omega
      have h2 : idAt (ids ++ [b]) k = b := by simp [idAt, hkl]
      rw [h2]; exact hb
  · intro id hid
    rcases List.mem_append.1 hid with h | h
    · exact hf.own id h
    · simp only [List.mem_singleton] at h; subst h; exact .inl (Nat.le_trans hf.chg.size hb0)
  · intro b2 hb2
    simp only [List.mem_append, List.mem_singleton, not_or]
    rcases hb2 with hb2 | hb2
    · obtain ⟨h3, h4⟩ := hf.sep b2 hb2
      exact ⟨Nat.lt_of_lt_of_le h3 hbel.size, h4, by omega⟩
    · obtain ⟨h3, h4, h5⟩ := hge b2 hb2
      exact ⟨h4, fun q => by have := hf.id_lt q; omega, h5⟩
theorem node_rnew {a : Option Addr} {cap : Nat} {bs : List Int} (cs' : List LV) (vs : Option Addr → Nat → Vals) (hP : C.P = Try.prog) (hargs : ∀ ids, (args.map (SV.den ρ ids)).toArray = #[.slice a bs.length cap]) (hH : ∀ ids w, Facts C m ρ ids hx w → Cells w a (bcells bs)) (hl : bs.length ≤ 140737488355328)
    (hcs' : ∀ a' c' ids, cellsDen (ρ.add (vs a' c')) ids cs' = rcells a' c' bs 0 0) (hr : r = .lf (.ptr m.hp.length 0)) (hhp : m'.hp = m.hp ++ [(128, cs')]) (hfit : hpFits m.c m.hp.length m.hp = true) (hc : ∀ a' c', (ρ.add (vs a' c')).cnt = m'.c) (h1 : ∀ a' c' v, v ∈ (vs a' c').v → v.oneCell' = true)
    (h : ∀ a' c', bs.length ≤ c' → (bs ≠ [] → a'.isSome = true) → (∀ k, c' ≠ 0 → abk a' = some k → C.W.heap.size ≤ k ∧ ¬ hx.F k) → t.holds C (ρ.add (vs a' c')) pre (hx.and (frow a' c' bs)) L) : (Tree.call 58 args m r m' t).holds C ρ pre hx L := by
  intro ids w hp hf
  rw [hargs, hP]
  refine (rnew_any a cap bs w (hH ids w hf) hl).mono ?_
  rintro e w' ⟨b, a', c', rfl, hb0, hb, hX, hfr, hbel⟩
  have hpre : ids <+: ids ++ [b] := List.prefix_append _ _
  refine ⟨vs a' c', ids ++ [b], hx.and (frow a' c' bs), ?_, hpre, Facts.newx hf hbel hb0 ?_ hX (fun k hk => ⟨(hfr k hk.1 hk.2).1, rw_ltx hX hk.1 hk.2, (hfr k hk.1 hk.2).2⟩) hhp hfit (hc _ _) (h1 _ _), holds_pre t (hp.trans hpre) (h a' c' (frow_le hX) (row_some hX) fun k k1 k2 => ⟨Nat.le_trans hf.chg.size (hfr k k1 k2).1, fun q => by have := (hf.sep _ q).1; have := (hfr k k1 k2).1; omega⟩)⟩
  · subst hr
    simp only [SV.den, LV.den, idAt_last _ _ hf.len]
  · rw [hcs']; exact hb
theorem node_read {a : Option Addr} {cap : Nat} {bs : List Int} {p : Nat × Int} {cs : List LV} (n : Nat) (vs : Option Addr → Nat → Option Addr → Nat → Vals) (hok : RdOk hx a cap bs) (hix : p.1 ≤ bs.length) (hP : C.P = Try.prog) (hn : m.hp[n]? = some (128, cs)) (hcs : ∀ ids, cellsDen ρ ids cs = rcells a cap bs p.1 p.2)
    (hargs : ∀ ids, (args.map (SV.den ρ ids)).toArray = #[.pointer (some ⟨idAt ids n, 0, none⟩)]) (cs' : List LV) (hhp : m'.hp = m.hp.set n (128, cs')) (hcs' : ∀ a1 c1 a2 c2 ids, cellsDen (ρ.add (vs a1 c1 a2 c2)) ids cs' = rcP a cap bs (rdS bs p)) (hr : ∀ a1 c1 a2 c2 ids, r.den (ρ.add (vs a1 c1 a2 c2)) ids = vlV (rdV bs p) a1 c1 a2 c2)
    (hfit : hpFits m.c m.hp.length m.hp = true) (hc : ∀ a1 c1 a2 c2, (ρ.add (vs a1 c1 a2 c2)).cnt = m'.c) (h1 : ∀ a1 c1 a2 c2 v, v ∈ (vs a1 c1 a2 c2).v → v.oneCell' = true)
    (h : ∀ a1 c1 a2 c2, (∀ k, c1 ≠ 0 → abk a1 = some k → C.W.heap.size ≤ k ∧ ¬ hx.F k) → (∀ k, c2 ≠ 0 → abk a2 = some k → C.W.heap.size ≤ k ∧ ¬ hx.F k) → (∀ k, c1 ≠ 0 → abk a1 = some k → c2 ≠ 0 → abk a2 = some k → False) → t.holds C (ρ.add (vs a1 c1 a2 c2)) pre ((hx.and (crow a1 (rdV bs p).cs.length c1 (rdV bs p).cs)).and (nrow a2 (rdV bs p).ns.length c2 (rdV bs p).ns)) L) : (Tree.call 82 args m r m' t).holds C ρ pre hx L := by
  intro ids w hp hf
  rw [hargs, hP]
  have hlt : n < m.hp.length := by
    rcases Nat.lt_or_ge n m.hp.length with q | q
    · exact q
    · rw [List.getElem?_eq_none q] at hn; cases hn
  have hmem := idAt_mem (ids := ids) (n := n) (hf.len ▸ hlt)
  refine (read_any (idAt ids n) a cap bs p w (rd_at n hok hix hf hn hcs)).mono ?_
  rintro e w' ⟨a1, c1, a2, c2, rfl, hb, hX1, hX2, g1, g2, g3, hg⟩
  refine ⟨vs a1 c1 a2 c2, ids, _, by rw [hr], List.prefix_refl _, hf.act (F := fun b => b = idAt ids n) ⟨hg.os, hg.tape, hg.output, hg.size, fun k hk q => hg.block k hk (fun e => q (Option.some.inj e))⟩ (fun b q => .inl q) hn ?_ (hx' := (hx.and (crow a1 (rdV bs p).cs.length c1 (rdV bs p).cs)).and (nrow a2 (rdV bs p).ns.length c2 (rdV bs p).ns)) ⟨⟨hx.loc w w' hf.x (fun k hk => ?_), hX1⟩, hX2⟩ (fun k hk => ?_) hhp hfit (hc _ _ _ _) (h1 _ _ _ _), holds_pre t hp (h a1 c1 a2 c2 ?_ ?_ g3)⟩
  · rw [hcs']; exact hb
  · exact hg.block k (hf.sep k hk).1 (fun e => (hf.sep k hk).2 (Option.some.inj e ▸ hmem))
  · rcases hk with (hk | hk) | hk
    · exact .inl hk
    · exact .inr ⟨g1 k hk.1 hk.2, rw_ltx hX1 hk.1 hk.2⟩
    · exact .inr ⟨g2 k hk.1 hk.2, rw_ltx hX2 hk.1 hk.2⟩
  · intro k k1 k2
    exact ⟨Nat.le_trans hf.chg.size (g1 k k1 k2), fun q => by have := (hf.sep _ q).1; have := g1 k k1 k2; omega⟩
  · intro k k1 k2
    exact ⟨Nat.le_trans hf.chg.size (g2 k k1 k2), fun q => by have := (hf.sep _ q).1; have := g2 k k1 k2; omega⟩
end
theorem rdV_len (bs : List Int) (p : Nat × Int) : (rdV bs p).cs.length ≤ 8 ∧ (rdV bs p).ns.length ≤ 7 := by
  refine ⟨?_, ?_⟩
  · have := vaC_le (most := 8) (by decide) bs (stC 2 bs p)
    show (csN _ _ _).length ≤ 8
    rw [csN_len]; omega
  · have := vaC_le (most := 7) (by decide) bs (rdB bs p)
    show (nsN _ _ _).length ≤ 7
    rw [nsN_len]; omega
theorem rdV_fit (bs : List Int) (p : Nat × Int) : VlFit (rdV bs p) := by
  obtain ⟨h1, h2⟩ := rdV_len bs p
  refine ⟨fun n hn => ?_, by omega, by omega⟩
  obtain ⟨j, _, rfl⟩ := List.mem_map.1 hn
  have := vaC_le (most := 9) (by decide) bs (itN (stC 9 bs) j (stC 7 bs (rdB bs p)))
  unfold I64; omega
end Go.Proofs.Ytadgaefmoobcoaa

namespace Go.Proofs.Ytadgaefmoobcoaa
open Go.ChangeShapes Go.WideShapes Go.ChangeAt Go.RowKit Go.Syn Go.Eng
set_option linter.unusedVariables false
set_option linter.unusedSimpArgs false
set_option maxRecDepth 100000
structure VlWf (v : Vl) : Prop where
  k : I64 v.k
  c : ∀ c ∈ v.cs, CmFit c
  f : VlFit v
structure Here (bs : List Int) (p : Nat × Int) (rest : List Int) : Prop where
  ok : p.2 = 0
  le : p.1 ≤ bs.length
  is : bs.drop p.1 = rest
theorem rd_wf {bs : List Int} (hb : Byt bs) (p : Nat × Int) : VlWf (rdV bs p) := by
  refine ⟨?_, fun c hc i hi => ?_, rdV_fit _ _⟩
  · have := vaC_le (most := 2) (by decide) bs p
    show I64 (vaC 2 bs p : Int)
    unfold I64; omega
  · obtain ⟨j, _, rfl⟩ := List.mem_map.1 hc
    unfold tcC CmD.is at hi
    simp only [List.mem_cons, List.not_mem_nil, or_false] at hi
    rcases hi with rfl | rfl | rfl | rfl | rfl | rfl | rfl | rfl <;> exact vaN_fit hb _
section
variable {C : Cfg} {ρ : Env} {pre : List Nat} {hx : HX} {L : Stack} {m m' : Mem} {args : List SV} {r : SV} {t : Tree}
theorem node_nd {f : Nat} {bs : List Int} (AS : List Nat → Array Value) (vs : Option Addr → Nat → Vals) (hargs : ∀ ids, (args.map (SV.den ρ ids)).toArray = AS ids) (hcall : ∀ ids w, pre <+: ids → Facts C m ρ ids hx w → Calls C.P f (AS ids) w (NewD w id bs))
    (hr : ∀ a' c' ids, r.den (ρ.add (vs a' c')) ids = .slice a' bs.length c') (hhp : m'.hp = m.hp) (hfit : hpFits m.c m.hp.length m.hp = true) (hc : ∀ a' c', (ρ.add (vs a' c')).cnt = m'.c) (h1 : ∀ a' c' v, v ∈ (vs a' c').v → v.oneCell' = true)
    (h : ∀ a' c', (∀ k, (HX.cl a' (bcells bs)).F k → C.W.heap.size ≤ k ∧ ¬ hx.F k) → t.holds C (ρ.add (vs a' c')) pre (hx.and (HX.cl a' (bcells bs))) L) : (Tree.call f args m r m' t).holds C ρ pre hx L := by
  refine node_out AS (fun u hy => ∃ a' c', u = vs a' c' ∧ hy = HX.cl a' (bcells bs)) hargs (fun ids w hp hf => ?_) hhp hfit ?_ ?_
  · refine (hcall ids w hp hf).mono ?_
    rintro e w' ⟨a', c', rfl, hX, hge, _, hb⟩
    exact ⟨_, _, ⟨a', c', rfl, rfl⟩, by rw [hr]; rfl, hX, fun k hk => ⟨by obtain ⟨hne, rfl⟩ := hk; exact hge (fun q => hne (by rw [q]; rfl)), cl_sep hX k hk⟩, hb⟩
  · rintro u hy ⟨a', c', rfl, rfl⟩
    exact ⟨hc _ _, h1 _ _⟩
  · rintro u hy ⟨a', c', rfl, rfl⟩ hfr
    exact h a' c' hfr
end
theorem u8_wf {k : Int} (h : (Lit.int .u8 k).wf = true) : 0 ≤ k ∧ k < 256 := by
  simp [Lit.wf] at h
  have h1 := h.1
  have h2 := h.2
  change (0 : Int) ≤ k at h1
  change k ≤ 255 at h2
  omega
theorem opn_bytes {w : World} (ds : List Dat) (hds : ∀ d ∈ ds, d.In Try.prog w 5) : ∃ bs : List Int, bs.length = ds.length ∧ Dat.cellsAll ds = bcells bs ∧ Byt bs := by
  obtain ⟨bs, rfl, ho⟩ := list_map_of (Dat.int .u8) (fun x => 0 ≤ x ∧ x < 256) ds (fun d hd => by
    obtain ⟨k0, rfl, hk⟩ := in_int Try.underlying5 (hds d hd)
    exact ⟨k0, rfl, u8_wf hk⟩)
  refine ⟨bs, by rw [List.length_map], ?_, ho⟩
  clear hds ho
  induction bs with
  | nil => rfl
  | cons x r ih => rw [List.map_cons, bcells, List.map_cons, ← bcells, ← ih]; rfl
theorem bytes_u8 : Try.prog.bytesOf 5 = 1 := by kernel_rfl
end Go.Proofs.Ytadgaefmoobcoaa
