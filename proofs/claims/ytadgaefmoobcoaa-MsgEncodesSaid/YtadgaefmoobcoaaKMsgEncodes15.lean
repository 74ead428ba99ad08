/- Part 15 of the texts of a proof about the given program: what the statement's proof needs of them. -/
import Derived.Test.YtadgaefmoobcoaaRows
import Derived.Laws.Cover2
import Derived.Laws.ComplexArith
import Derived.Deep.DeepCutAuto
import Derived.KernelRfl
import Derived.Test.YtadgaefmoobcoaaKMsgEncodes14
namespace Go.Syn
structure OpD where
  kind : Int
  reg : Int
  tg : Int
  re : Int
  im : Int
def OpD.cells (o : OpD) : List Value := [.int .i64 o.kind, .int .i64 o.reg, .int .i64 o.tg, .int .i64 o.re, .int .i64 o.im]
def fitB (re im : Int) : Bool := decide (-1048576 ≤ re ∧ re ≤ 1048576 ∧ -1048576 ≤ im ∧ im ≤ 1048576)
def numV (re im : Int) : Value := if fitB re im then .complex .f64 (floatOfInt .f64 re) (floatOfInt .f64 im) else .complex .f64 0 0
def inB (x lo hi : Int) : Bool := decide (lo ≤ x ∧ x ≤ hi)
def bareB (re im : Int) : Bool := decide (re = 0 ∧ im = 0)
def opB (o : OpD) : Bool :=
  inB o.reg 0 7 &&
  if o.kind = 1 then bareB o.re o.im && decide (o.tg = 0)
  else if o.kind = 2 ∨ o.kind = 3 ∨ o.kind = 4 then fitB o.re o.im && decide (o.tg = 0)
  else if o.kind = 5 then bareB o.re o.im && inB o.tg 0 3
  else if o.kind = 6 then bareB o.re o.im && inB o.tg 0 7
  else if o.kind = 7 then fitB o.re o.im && inB o.tg 0 7
  else false
end Go.Syn
namespace Go.Proofs.Ytadgaefmoobcoaa
open Go.ChangeShapes Go.WideShapes Go.ChangeAt Go.RowKit Go.Syn
set_option linter.unusedVariables false
set_option linter.unusedSimpArgs false

theorem within_any (x lo hi : Int) (w : World) : Calls Try.prog 91 #[.int .i64 x, .int .i64 lo, .int .i64 hi] w fun e w' => e = .returned (.bool (inB x lo hi)) ∧ w = w' := by
  have E := Lib.hid (show inB x lo hi = decide (lo ≤ x ∧ x ≤ hi) from rfl)
  go_enter Try.func91, Try.ntmps91
  go_wp2
  all_goals
    go_ret
    exact ⟨by rw [E.out]; exact ret_bool (by simp; try omega), rfl⟩

theorem of_any (re im : Int) (w : World) : Calls Try.prog 92 #[.int .i64 re, .int .i64 im] w fun e w' => e = .returned (.tuple #[numV re im, .bool (fitB re im)]) ∧ w = w' := by
  have E := Lib.hid (show fitB re im = decide (-1048576 ≤ re ∧ re ≤ 1048576 ∧ -1048576 ≤ im ∧ im ≤ 1048576) from rfl)
  by_cases h : -1048576 ≤ re ∧ re ≤ 1048576 ∧ -1048576 ≤ im ∧ im ≤ 1048576
  · have F1 := Lib.hid (show fitB re im = true by rw [E.out]; exact decide_eq_true h)
    have F2 := Lib.hid (show numV re im = .complex .f64 (floatOfInt .f64 re) (floatOfInt .f64 im) by unfold numV; rw [if_pos F1.out])
    rw [F1.out, F2.out]
    obtain ⟨h1, h2, h3, h4⟩ := h
    go_enter Try.func92, Try.ntmps92
    go_wp2
    all_goals first
      | (exfalso; omega)
      | exact bodyPost_ret (v := .tuple #[.complex .f64 (floatOfInt .f64 re) (floatOfInt .f64 im), .bool true]) (by simp [results, Try.results92, go_sem]) rfl ⟨rfl, rfl⟩
  · have F1 := Lib.hid (show fitB re im = false by rw [E.out]; exact decide_eq_false h)
    have F2 := Lib.hid (show numV re im = .complex .f64 0 0 by unfold numV; rw [if_neg (by rw [F1.out]; simp)])
    rw [F1.out, F2.out]
    go_enter Try.func92, Try.ntmps92
    go_wp2
    all_goals first
      | (exfalso; omega)
      | exact bodyPost_ret (v := .tuple #[.complex .f64 0 0, .bool false]) (by simp [results, Try.results92, go_sem]) rfl ⟨rfl, rfl⟩

theorem ref03_any (re im : Int) (w : World) : Calls Try.prog 70 #[.int .i64 re, .int .i64 im] w fun e w' => e = .returned (.bool (fitB re im)) ∧ w = w' := by
  have E := Lib.hid (show fitB re im = decide (-1048576 ≤ re ∧ re ≤ 1048576 ∧ -1048576 ≤ im ∧ im ≤ 1048576) from rfl)
  go_enter Try.func70, Try.ntmps70
  go_wp2
  all_goals
    go_ret
    exact ⟨by rw [E.out]; exact ret_bool (by simp; try omega), rfl⟩

set_option maxHeartbeats 2000000 in
theorem opCheck_any (o : OpD) (w : World) : Calls Try.prog 88 #[.agg o.cells.toArray] w fun e w' => e = .returned (.int .i64 (if opB o then 0 else 22)) ∧ Below w.heap.size w w' := by
  obtain ⟨kind, reg, tg, re, im⟩ := o
  have E := Lib.hid (show opB ⟨kind, reg, tg, re, im⟩ = (inB reg 0 7 && if kind = 1 then bareB re im && decide (tg = 0) else if kind = 2 ∨ kind = 3 ∨ kind = 4 then fitB re im && decide (tg = 0) else if kind = 5 then bareB re im && inB tg 0 3 else if kind = 6 then bareB re im && inB tg 0 7 else if kind = 7 then fitB re im && inB tg 0 7 else false) from rfl)
  have EB := Lib.hid (show bareB re im = decide (re = 0 ∧ im = 0) from rfl)
  simp only [OpD.cells]
  generalize opB ⟨kind, reg, tg, re, im⟩ = R at *
  have W := Lib.hid (fun x lo hi => within_any x lo hi)
  have kinds : kind = 1 ∨ kind = 2 ∨ kind = 3 ∨ kind = 4 ∨ kind = 5 ∨ kind = 6 ∨ kind = 7 ∨ (kind < 1 ∨ 7 < kind) := by omega
  by_cases h0 : re = 0 ∧ im = 0
  · obtain ⟨rfl, rfl⟩ := h0
    have B0 : bareB 0 0 = true := rfl
    rw [B0] at E
    clear B0 EB
    go_enter Try.func88, Try.ntmps88
    go_wp2_with fail
    refine (within_any _ _ _ _).mono ?_; rintro e w' ⟨rfl, rfl⟩
    go_wp2_with fail
    refine (of_any _ _ _).mono ?_; rintro e w' ⟨rfl, rfl⟩
    generalize inB reg 0 7 = r1 at *
    generalize fitB 0 0 = f at *
    generalize numV 0 0 = z at *
    rcases kinds with rfl | rfl | rfl | rfl | rfl | rfl | rfl | hk
    all_goals
      go_wp2_with (go_at_call 91; refine (within_any _ _ _ _).mono ?_; rintro e w' ⟨rfl, rfl⟩)
      all_goals first
        | (exfalso; omega)
        | (go_ret
           refine ⟨?_, by exact (by repeat (first | exact Below.refl _ _ | assumption | (refine Below.setCell ?_ (by first | omega | (simp; omega) | (simp; done)) _) | (refine below_drewN ?_ _) | (refine Below.drew ?_) | (refine Below.allocW ?_ _) | (refine Below.alloc ?_ (by first | omega | (simp; omega) | (simp; done)) _)))⟩
           have e := E.out
           first
             | (simp_all; done)
             | (simp_all; omega)
             | (rw [if_neg (by omega), if_neg (by omega), if_neg (by omega), if_neg (by omega), if_neg (by omega)] at e; simp_all)
             | go_show)
  · have B0 : bareB re im = false := by rw [EB.out]; exact decide_eq_false h0
    rw [B0] at E
    clear B0 EB
    by_cases hre : re = 0
    · subst hre
      have hi : (im == 0) = false := by simpa using h0
      clear h0
      go_enter Try.func88, Try.ntmps88
      go_wp2_with fail
      refine (within_any _ _ _ _).mono ?_; rintro e w' ⟨rfl, rfl⟩
      go_wp2_with fail
      refine (of_any _ _ _).mono ?_; rintro e w' ⟨rfl, rfl⟩
      generalize inB reg 0 7 = r1 at *
      generalize fitB 0 im = f at *
      generalize numV 0 im = z at *
      rcases kinds with rfl | rfl | rfl | rfl | rfl | rfl | rfl | hk
      all_goals
        go_wp2_with (go_at_call 91; refine (within_any _ _ _ _).mono ?_; rintro e w' ⟨rfl, rfl⟩)
        all_goals first
          | (exfalso; omega)
          | (go_ret
             refine ⟨?_, by exact (by repeat (first | exact Below.refl _ _ | assumption | (refine Below.setCell ?_ (by first | omega | (simp; omega) | (simp; done)) _) | (refine below_drewN ?_ _) | (refine Below.drew ?_) | (refine Below.allocW ?_ _) | (refine Below.alloc ?_ (by first | omega | (simp; omega) | (simp; done)) _)))⟩
             have e := E.out
             first
               | (simp_all; done)
               | (simp_all; omega)
               | (rw [if_neg (by omega), if_neg (by omega), if_neg (by omega), if_neg (by omega), if_neg (by omega)] at e; simp_all)
               | go_show)
    · have hi : (re == 0) = false := by simpa using hre
      clear h0
      go_enter Try.func88, Try.ntmps88
      go_wp2_with fail
      refine (within_any _ _ _ _).mono ?_; rintro e w' ⟨rfl, rfl⟩
      go_wp2_with fail
      refine (of_any _ _ _).mono ?_; rintro e w' ⟨rfl, rfl⟩
      generalize inB reg 0 7 = r1 at *
      generalize fitB re im = f at *
      generalize numV re im = z at *
      rcases kinds with rfl | rfl | rfl | rfl | rfl | rfl | rfl | hk
      all_goals
        go_wp2_with (go_at_call 91; refine (within_any _ _ _ _).mono ?_; rintro e w' ⟨rfl, rfl⟩)
        all_goals first
          | (exfalso; omega)
          | (go_ret
             refine ⟨?_, by exact (by repeat (first | exact Below.refl _ _ | assumption | (refine Below.setCell ?_ (by first | omega | (simp; omega) | (simp; done)) _) | (refine below_drewN ?_ _) | (refine Below.drew ?_) | (refine Below.allocW ?_ _) | (refine Below.alloc ?_ (by first | omega | (simp; omega) | (simp; done)) _)))⟩
             have e := E.out
             first
               | (simp_all; done)
               | (simp_all; omega)
               | (rw [if_neg (by omega), if_neg (by omega), if_neg (by omega), if_neg (by omega), if_neg (by omega)] at e; simp_all)
               | go_show)
end Go.Proofs.Ytadgaefmoobcoaa

namespace Go.Proofs.Ytadgaefmoobcoaa
open Go.ChangeShapes Go.WideShapes Go.ChangeAt Go.RowKit Go.Syn Go.Eng
set_option linter.unusedVariables false
set_option linter.unusedSimpArgs false
abbrev tRight4b0 : List LV := [(tLi 0), (tLi 0), (tLi 0), (tLi 0), (tLi 0), (tLi 3), (tLi 7), (tLi 7)]
abbrev tRight4m0 : Mem := ⟨[(30, [(tVi 0), (tVi 1), (tVi 2), (tVi 3), (tVi 4)]), (3, tRight4b0)], ⟨6, 0, 0, 0, 0⟩⟩
abbrev tRight4m1 : Mem := ⟨[(30, [(tVi 0), (tVi 1), (tVi 2), (tVi 3), (tVi 4)]), (3, tRight4b0)], ⟨6, 1, 0, 0, 0⟩⟩
abbrev tRight4m2 : Mem := ⟨[(30, [(tVi 0), (tVi 1), (tVi 2), (tVi 3), (tVi 4)])], ⟨5, 0, 0, 0, 0⟩⟩
set_option maxRecDepth 100000 in
theorem tRight4 : (runF ⟨tt, fns, {}⟩ (Try.f69.body.getD .skip) Try.f69.results.toList (entry Try.f69.ntmps [.agg [.int .i64 (.var 0), .int .i64 (.var 1), .int .i64 (.var 2), .int .i64 (.var 3), .int .i64 (.var 4)]] [] ⟨5, 0, 0, 0, 0⟩)) =
  (.br (.cmp .lss (.var 0) (.lit 1)) (.done (.lf (.bool (.lit .false))) tRight4m2) (.br (.cmp .gtr (.var 0) (.lit 7)) (.done (.lf (.bool (.lit .false))) tRight4m2) (.br (.cmp .lss (.var 1) (.lit 0)) (.done (.lf (.bool (.lit .false))) tRight4m2) (.br (.cmp .gtr (.var 1) (.lit 7)) (.done (.lf (.bool (.lit .false))) tRight4m2) (.br (.cmp .lss (.var 2) (.lit 0)) (.done (.lf (.bool (.lit .false))) tRight4m2) (.need (.inr (.var 0) (.lit 8)) (.ld .true (.pix 1 0 1 (.var 0)) [(tVi 5)] ⟨[(30, [(tVi 0), (tVi 1), (tVi 2), (tVi 3), (tVi 4)]), (3, tRight4b0)], ⟨5, 0, 0, 0, 0⟩⟩ tRight4m0 (.br (.cmp .gtr (.var 2) (.var 5)) (.done (.lf (.bool (.lit .false))) tRight4m0) (.call 70 [(.lf (tVi 3)), (.lf (tVi 4))] tRight4m0 (.lf (.bool (.var 0))) tRight4m1 (.br (.not (.var 0)) (.done (.lf (.bool (.lit .false))) tRight4m1) (.br (.cmp .eql (.var 0) (.lit 2)) (.done (.lf (.bool (.lit .true))) tRight4m1) (.br (.cmp .eql (.var 0) (.lit 3)) (.done (.lf (.bool (.lit .true))) tRight4m1) (.br (.cmp .eql (.var 0) (.lit 4)) (.done (.lf (.bool (.lit .true))) tRight4m1) (.br (.cmp .eql (.var 0) (.lit 7)) (.done (.lf (.bool (.lit .true))) tRight4m1) (.br (.cmp .eql (.var 3) (.lit 0)) (.done (.lf (.bool (.cmp .eql (.var 4) (.lit 0)))) tRight4m1) (.done (.lf (.bool (.lit .false))) tRight4m1)))))))))))))))) := by kernel_rfl
def mostV (k : Int) : Int := if k = 5 then 3 else if 6 ≤ k then 7 else 0
theorem opB_iff (o : OpD) : opB o = true ↔ (1 ≤ o.kind ∧ o.kind ≤ 7) ∧ (0 ≤ o.reg ∧ o.reg ≤ 7) ∧ 0 ≤ o.tg ∧ o.tg ≤ mostV o.kind ∧ fitB o.re o.im = true ∧ ((o.kind = 2 ∨ o.kind = 3 ∨ o.kind = 4 ∨ o.kind = 7) ∨ (o.re = 0 ∧ o.im = 0)) := by
  obtain ⟨kind, reg, tg, re, im⟩ := o
  have kinds : kind = 1 ∨ kind = 2 ∨ kind = 3 ∨ kind = 4 ∨ kind = 5 ∨ kind = 6 ∨ kind = 7 ∨ (kind < 1 ∨ 7 < kind) := by omega
  rcases kinds with rfl | rfl | rfl | rfl | rfl | rfl | rfl | hk
  case inr.inr.inr.inr.inr.inr.inr =>
    have : opB ⟨kind, reg, tg, re, im⟩ = false := by
      unfold opB; dsimp only
      rw [if_neg (by omega), if_neg (by omega), if_neg (by omega), if_neg (by omega), if_neg (by omega)]; simp
    rw [this]; dsimp only; constructor
    · intro h; cases h
    · rintro ⟨⟨h1, h2⟩, _⟩; omega
  all_goals
    simp [opB, inB, bareB, fitB, mostV]
    try omega

theorem most_at {k : Nat} (h1 : 1 ≤ k) (h2 : k ≤ 7) : ([0, 0, 0, 0, 0, 3, 7, 7] : List Int)[k]? = some (mostV (k : Int)) := by
  rcases (by omega : k = 1 ∨ k = 2 ∨ k = 3 ∨ k = 4 ∨ k = 5 ∨ k = 6 ∨ k = 7) with rfl | rfl | rfl | rfl | rfl | rfl | rfl <;> decide
theorem refOp_pure (o : OpD) (w : World) : Calls Try.prog 69 #[.agg o.cells.toArray] w (PureAt w (.bool (opB o))) := by
  have E := opB_iff o
  have no : ∀ {R : Bool}, (opB o = true ↔ R = true) → opB o = R := fun h => Bool.eq_iff_iff.2 h
  obtain ⟨kind, reg, tg, re, im⟩ := o
  dsimp only at E
  generalize hR : opB ⟨kind, reg, tg, re, im⟩ = R at *
  refine calls_at (tab_ok _) Try.func69 rfl tRight4 (ρ := ⟨[kind, reg, tg, re, im], [], [], [], []⟩) (ids := []) rfl (Facts.initP rfl oneNil) ?_
  have bad : ∀ {m : Mem} {ρ : Env} {pre : List Nat} {hx : HX} {L : Stack}, ¬ (R = true) → (Tree.done (.lf (.bool (.lit false))) m).holds ⟨Try.prog, w, fun _ => False, PureAt w (.bool R)⟩ ρ pre hx L := fun h => pure_done fun _ => by
    have : R = false := by simpa using h
    rw [this]; rfl
  refine br_i (fun h => bad ?_) (fun h1 => ?_)
  · have := of_decide_eq_true (show decide (kind < 1) = true from h); rw [E]; omega
  have h1 := of_decide_eq_false (show decide (kind < 1) = false from h1)
  refine br_i (fun h => bad ?_) (fun h2 => ?_)
  · have := of_decide_eq_true (show decide (kind > 7) = true from h); rw [E]; omega
  have h2 := of_decide_eq_false (show decide (kind > 7) = false from h2)
  refine br_i (fun h => bad ?_) (fun h3 => ?_)
  · have := of_decide_eq_true (show decide (reg < 0) = true from h); rw [E]; omega
  have h3 := of_decide_eq_false (show decide (reg < 0) = false from h3)
  refine br_i (fun h => bad ?_) (fun h4 => ?_)
  · have := of_decide_eq_true (show decide (reg > 7) = true from h); rw [E]; omega
  have h4 := of_decide_eq_false (show decide (reg > 7) = false from h4)
  refine br_i (fun h => bad ?_) (fun h5 => ?_)
  · have := of_decide_eq_true (show decide (tg < 0) = true from h); rw [E]; omega
  have h5 := of_decide_eq_false (show decide (tg < 0) = false from h5)
  obtain ⟨k, rfl⟩ : ∃ k : Nat, kind = (k : Int) := ⟨kind.toNat, by omega⟩
  refine need_i (show (0 : Int) ≤ k ∧ (k : Int) < 8 by omega) ?_
  refine node_ldp (i := k) (us := ([0, 0, 0, 0, 0, 3, 7, 7] : List Int).map (Value.int .i64)) ⟨[mostV (k : Int)], [], [], [], []⟩ rfl rfl (fun _ => rfl) (fun ids j u hj => ?_) rfl oneNil ?_
  · have hj2 : ([Value.int .i64 (mostV (k : Int))] : List Value)[j]? = some u := hj
    have : j = 0 := by
      rcases j with _ | j
      · rfl
      · simp at hj2
    subst this
    rw [show 0 + k * 1 + 0 = k by omega, List.getElem?_map, most_at (by omega) (by omega)]
    exact hj2
  refine br_i (fun h => bad ?_) (fun h6 => ?_)
  · have := of_decide_eq_true (show decide (tg > mostV (k : Int)) = true from h); rw [E]; omega
  have h6 := of_decide_eq_false (show decide (tg > mostV (k : Int)) = false from h6)
  refine node_val ⟨[], [fitB re im], [], [], []⟩ (fun w => pure_same (ref03_any re im w)) (fun _ => rfl) (fun _ => rfl) rfl rfl rfl oneNil ?_
  refine br_i (fun h => bad ?_) (fun h7 => ?_)
  · have : fitB re im = false := by simpa using (show (!fitB re im) = true from h)
    rw [E, this]; simp
  have h7 : fitB re im = true := by simpa using (show (!fitB re im) = false from h7)
  have good : ∀ {m : Mem} {ρ : Env} {pre : List Nat} {hx : HX} {L : Stack}, ((k : Int) = 2 ∨ (k : Int) = 3 ∨ (k : Int) = 4 ∨ (k : Int) = 7) → (Tree.done (.lf (.bool (.lit true))) m).holds ⟨Try.prog, w, fun _ => False, PureAt w (.bool R)⟩ ρ pre hx L := fun h => pure_done fun _ => by
    have : R = true := E.2 ⟨by omega, by omega, by omega, by omega, h7, .inl h⟩
    rw [this]; rfl
  refine br_i (fun h => good (.inl (by simpa using (show ((k : Int) == 2) = true from h)))) (fun g1 => ?_)
  refine br_i (fun h => good (.inr (.inl (by simpa using (show ((k : Int) == 3) = true from h))))) (fun g2 => ?_)
  refine br_i (fun h => good (.inr (.inr (.inl (by simpa using (show ((k : Int) == 4) = true from h)))))) (fun g3 => ?_)
  refine br_i (fun h => good (.inr (.inr (.inr (by simpa using (show ((k : Int) == 7) = true from h)))))) (fun g4 => ?_)
  have g1 : ¬ (k : Int) = 2 := by simpa using (show ((k : Int) == 2) = false from g1)
  have g2 : ¬ (k : Int) = 3 := by simpa using (show ((k : Int) == 3) = false from g2)
  have g3 : ¬ (k : Int) = 4 := by simpa using (show ((k : Int) == 4) = false from g3)
  have g4 : ¬ (k : Int) = 7 := by simpa using (show ((k : Int) == 7) = false from g4)
  refine br_i (fun h => ?_) (fun h => bad ?_)
  · have h : re = 0 := by simpa using (show (re == 0) = true from h)
    refine pure_done fun _ => ?_
    have : R = (im == 0) := by
      rw [Bool.eq_iff_iff, E, beq_iff_eq]
      constructor
      · rintro ⟨_, _, _, _, _, h8⟩; omega
      · intro h8; exact ⟨by omega, by omega, by omega, by omega, h7, .inr ⟨h, h8⟩⟩
    rw [this]; rfl
  · have h : ¬ re = 0 := by simpa using (show (re == 0) = false from h)
    rw [E]; omega
end Go.Proofs.Ytadgaefmoobcoaa

namespace Go.Syn
structure CmD where
  sess : Int
  seq : Int
  ack : Int
  op : OpD
def CmD.is (c : CmD) : List Int := [c.sess, c.seq, c.ack, c.op.kind, c.op.reg, c.op.tg, c.op.re, c.op.im]
def CmD.cells (c : CmD) : List Value := [.int .i64 c.sess, .int .i64 c.seq, .int .i64 c.ack, .int .i64 c.op.kind, .int .i64 c.op.reg, .int .i64 c.op.tg, .int .i64 c.op.re, .int .i64 c.op.im]
def cmdV (c : CmD) : Int := if c.sess < 1 ∨ 1073741824 < c.sess ∨ c.seq < 1 ∨ 1099511627776 < c.seq ∨ c.ack < 0 ∨ c.seq ≤ c.ack then 23 else if opB c.op then 0 else 22
def ccells (cs : List CmD) : List Value := cs.flatMap CmD.cells
def firstE : List CmD → Int
  | [] => 0
  | c :: r => if cmdV c ≠ 0 then cmdV c else firstE r
structure Vl where
  k : Int
  cs : List CmD
  ns : List Int
def valE (v : Vl) : Int :=
  if v.k = 0 then (if v.cs ≠ [] ∨ v.ns ≠ [] then 25 else 0)
  else if v.k = 2 then (if v.cs ≠ [] then 25 else checkV v.ns)
  else if v.k = 1 then (if v.cs = [] ∨ 8 < v.cs.length ∨ v.ns ≠ [] then 25 else firstE v.cs) else 25
end Go.Syn
namespace Go.Proofs.Ytadgaefmoobcoaa
open Go.ChangeShapes Go.WideShapes Go.ChangeAt Go.RowKit Go.Syn Go.Eng
set_option linter.unusedVariables false
set_option linter.unusedSimpArgs false
set_option maxRecDepth 100000
def vlV (v : Vl) (a1 : Option Addr) (c1 : Nat) (a2 : Option Addr) (c2 : Nat) : Value := .agg #[.int .i64 v.k, .slice a1 v.cs.length c1, .slice a2 v.ns.length c2]
structure VlAt (w : World) (v : Vl) (a1 a2 : Option Addr) : Prop where
  c : Cells w a1 (ccells v.cs)
  n : Ints w a2 v.ns
  l1 : v.cs.length ≤ 2199023255552
  l2 : v.ns.length ≤ 17592186044416
theorem ccells_len : ∀ (cs : List CmD), (ccells cs).length = cs.length * 8
  | [] => rfl
  | v :: r => by
    show (CmD.cells v ++ ccells r).length = _
    rw [List.length_append, ccells_len r, List.length_cons]
    show 8 + _ = _; omega
theorem ccells_get : ∀ {vs : List CmD} {i : Nat} {v : CmD}, vs[i]? = some v → ∀ j u, v.cells[j]? = some u → (ccells vs)[i * 8 + j]? = some u
  | q :: r, 0, p, h, j, u, hu => by
    simp only [List.getElem?_cons_zero, Option.some.injEq] at h
    subst h
    show (CmD.cells q ++ ccells r)[0 * 8 + j]? = _
    have hj : j < q.cells.length := by
      rcases Nat.lt_or_ge j q.cells.length with g | g
      · exact g
      · rw [List.getElem?_eq_none g] at hu; cases hu
    rw [Nat.zero_mul, Nat.zero_add, List.getElem?_append_left hj]; exact hu
  | q :: r, i + 1, p, h, j, u, hu => by
    have := ccells_get (vs := r) (i := i) (by simpa using h) j u hu
    show (CmD.cells q ++ ccells r)[(i + 1) * 8 + j]? = _
    rw [List.getElem?_append_right (by show 8 ≤ _; omega)]
    rw [← this]
    congr 1
    show (i + 1) * 8 + j - 8 = _
    omega
theorem c_elt {w : World} {a : Option Addr} {cs : List CmD} (h : Cells w a (ccells cs)) {i : Nat} {c : CmD} (hi : cs[i]? = some c) :
    a.isSome = true ∧ ∀ (N : Nat → Prop), ¬ N ((a.getD ⟨0, 0, none⟩).block) → CellsAt w (.pointer (some (((a.getD ⟨0, 0, none⟩).add (i * 8)).add 0))) c.cells N :=
  cl_elt h c.cells (fun j u hj => ccells_get hi j u hj) (by simp [CmD.cells])
theorem cmd_any (c : CmD) (w : World) : Calls Try.prog 67 #[.agg c.cells.toArray] w (PureAt w (.int .i64 (cmdV c))) := by
  obtain ⟨x0, x1, x2, o⟩ := c
  refine calls_at (tab_ok _) Try.func67 rfl tCmd (ρ := ⟨[x0, x1, x2, o.kind, o.reg, o.tg, o.re, o.im], [], [], [], []⟩) (ids := []) rfl (Facts.initP rfl oneNil) ?_
  have bad : ∀ {m : Mem} {ρ : Env} {pre : List Nat} {hx : HX} {L : Stack}, (x0 < 1 ∨ 1073741824 < x0 ∨ x1 < 1 ∨ 1099511627776 < x1 ∨ x2 < 0 ∨ x1 ≤ x2) → (Tree.done (.lf (.int .i64 (.lit 23))) m).holds ⟨Try.prog, w, fun _ => False, PureAt w (.int .i64 (cmdV ⟨x0, x1, x2, o⟩))⟩ ρ pre hx L := fun h => pure_done fun _ => by
    unfold cmdV; dsimp only; rw [if_pos h]; rfl
  refine br_i (fun h => bad (.inl (of_decide_eq_true (show decide (x0 < 1) = true from h)))) (fun h1 => ?_)
  refine br_i (fun h => bad (.inr (.inl (of_decide_eq_true (show decide (x0 > 1073741824) = true from h))))) (fun h2 => ?_)
  refine br_i (fun h => bad (.inr (.inr (.inl (of_decide_eq_true (show decide (x1 < 1) = true from h)))))) (fun h3 => ?_)
  refine br_i (fun h => bad (.inr (.inr (.inr (.inl (of_decide_eq_true (show decide (x1 > 1099511627776) = true from h))))))) (fun h4 => ?_)
  refine br_i (fun h => bad (.inr (.inr (.inr (.inr (.inl (of_decide_eq_true (show decide (x2 < 0) = true from h)))))))) (fun h5 => ?_)
  refine br_i (fun h => bad (.inr (.inr (.inr (.inr (.inr (of_decide_eq_true (show decide (x2 ≥ x1) = true from h)))))))) (fun h6 => ?_)
  have h1 := of_decide_eq_false (show decide (x0 < 1) = false from h1)
  have h2 := of_decide_eq_false (show decide (x0 > 1073741824) = false from h2)
  have h3 := of_decide_eq_false (show decide (x1 < 1) = false from h3)
  have h4 := of_decide_eq_false (show decide (x1 > 1099511627776) = false from h4)
  have h5 := of_decide_eq_false (show decide (x2 < 0) = false from h5)
  have h6 := of_decide_eq_false (show decide (x2 ≥ x1) = false from h6)
  refine node_val ⟨[if opB o then 0 else 22], [], [], [], []⟩ (fun w => opCheck_any o w) (fun _ => rfl) (fun _ => rfl) rfl rfl rfl oneNil (pure_done fun _ => ?_)
  have hne : ¬ (x0 < 1 ∨ 1073741824 < x0 ∨ x1 < 1 ∨ 1099511627776 < x1 ∨ x2 < 0 ∨ x1 ≤ x2) := by omega
  unfold cmdV; dsimp only; rw [if_neg hne]; rfl
theorem rcmd_any (c : CmD) (w : World) : Calls Try.prog 38 #[.agg c.cells.toArray] w (PureAt w (.int .i64 (cmdV c))) := by
  obtain ⟨x0, x1, x2, o⟩ := c
  refine calls_at (tab_ok _) Try.func38 rfl tRCmd (ρ := ⟨[x0, x1, x2, o.kind, o.reg, o.tg, o.re, o.im], [], [], [], []⟩) (ids := []) rfl (Facts.initP rfl oneNil) ?_
  have bad : ∀ {m : Mem} {ρ : Env} {pre : List Nat} {hx : HX} {L : Stack}, (x0 < 1 ∨ 1073741824 < x0 ∨ x1 < 1 ∨ 1099511627776 < x1 ∨ x2 < 0 ∨ x1 ≤ x2) → (Tree.done (.lf (.int .i64 (.lit 23))) m).holds ⟨Try.prog, w, fun _ => False, PureAt w (.int .i64 (cmdV ⟨x0, x1, x2, o⟩))⟩ ρ pre hx L := fun h => pure_done fun _ => by
    unfold cmdV; dsimp only; rw [if_pos h]; rfl
  refine br_i (fun h => bad (.inl (of_decide_eq_true (show decide (x0 < 1) = true from h)))) (fun h1 => ?_)
  refine br_i (fun h => bad (.inr (.inl (of_decide_eq_true (show decide (x0 > 1073741824) = true from h))))) (fun h2 => ?_)
  refine br_i (fun h => bad (.inr (.inr (.inl (of_decide_eq_true (show decide (x1 < 1) = true from h)))))) (fun h3 => ?_)
  refine br_i (fun h => bad (.inr (.inr (.inr (.inl (of_decide_eq_true (show decide (x1 > 1099511627776) = true from h))))))) (fun h4 => ?_)
  refine br_i (fun h => bad (.inr (.inr (.inr (.inr (.inl (of_decide_eq_true (show decide (x2 < 0) = true from h)))))))) (fun h5 => ?_)
  refine br_i (fun h => bad (.inr (.inr (.inr (.inr (.inr (of_decide_eq_true (show decide (x2 ≥ x1) = true from h)))))))) (fun h6 => ?_)
  have h1 := of_decide_eq_false (show decide (x0 < 1) = false from h1)
  have h2 := of_decide_eq_false (show decide (x0 > 1073741824) = false from h2)
  have h3 := of_decide_eq_false (show decide (x1 < 1) = false from h3)
  have h4 := of_decide_eq_false (show decide (x1 > 1099511627776) = false from h4)
  have h5 := of_decide_eq_false (show decide (x2 < 0) = false from h5)
  have h6 := of_decide_eq_false (show decide (x2 ≥ x1) = false from h6)
  refine node_val ⟨[], [opB o], [], [], []⟩ (fun w => refOp_pure o w) (fun _ => rfl) (fun _ => rfl) rfl rfl rfl oneNil ?_
  cases ho : opB o with
  | false =>
    refine br_t rfl (pure_done fun _ => ?_)
    have hne : ¬ (x0 < 1 ∨ 1073741824 < x0 ∨ x1 < 1 ∨ 1099511627776 < x1 ∨ x2 < 0 ∨ x1 ≤ x2) := by omega
    unfold cmdV; dsimp only; rw [if_neg hne, ho]; rfl
  | true =>
    refine br_f rfl (pure_done fun _ => ?_)
    have hne : ¬ (x0 < 1 ∨ 1073741824 < x0 ∨ x1 < 1 ∨ 1099511627776 < x1 ∨ x2 < 0 ∨ x1 ≤ x2) := by omega
    unfold cmdV; dsimp only; rw [if_neg hne, ho]; rfl
theorem firstE_drop {cs : List CmD} {k : Nat} {c : CmD} (h : cs[k]? = some c) : firstE (cs.drop k) = if cmdV c ≠ 0 then cmdV c else firstE (cs.drop (k + 1)) := by
  have hlt : k < cs.length := by
    rcases Nat.lt_or_ge k cs.length with q | q
    · exact q
    · rw [List.getElem?_eq_none q] at h; cases h
  rw [List.drop_eq_getElem_cons hlt]
  rw [List.getElem?_eq_getElem hlt] at h
  rw [Option.some.inj h]; rfl
def ChI (v : Vl) (vs : Vals) (hx : HX) : Prop := ∃ k : Nat, k ≤ v.cs.length ∧ firstE (v.cs.drop k) = firstE v.cs ∧ vs = ⟨[(k : Int)], [], [], [], []⟩ ∧ hx = HX.nil
section
variable {w : World} {ρ : Env} {pre : List Nat} {m m' : Mem} {t : Tree} {R : Ending → World → Prop}
end
theorem len_pos {α : Type} {l : List α} : decide ((l.length : Int) > 0) = decide (l ≠ []) := by
  cases l with
  | nil => rfl
  | cons a r => simp
theorem len_ne {α : Type} {l : List α} : ((l.length : Int) != 0) = decide (l ≠ []) := by
  cases l with
  | nil => rfl
  | cons a r => simp; omega
theorem vchk_any (v : Vl) (a1 : Option Addr) (c1 : Nat) (a2 : Option Addr) (c2 : Nat) (w : World) (H : VlAt w v a1 a2) : Calls Try.prog 30 #[vlV v a1 c1 a2 c2] w (PureAt w (.int .i64 (valE v))) := by
  have hl1 := H.l1
  refine calls_at (tab_ok _) Try.func30 rfl tChk (ρ := ⟨[v.k], [], [], [v.cs.length, c1, v.ns.length, c2], [a1, a2]⟩) (ids := []) rfl (Facts.initP rfl oneNil) ?_
  by_cases k0 : v.k = 0
  · refine br_t (show (v.k == 0) = true by simpa using k0) ?_
    by_cases h1 : v.cs = []
    · refine br_f (show decide ((v.cs.length : Int) > 0) = false by rw [len_pos]; simpa using h1) ?_
      by_cases h2 : v.ns = []
      · refine br_f (show decide ((v.ns.length : Int) > 0) = false by rw [len_pos]; simpa using h2) (pure_done fun _ => ?_)
        unfold valE; rw [if_pos k0, if_neg (by simp [h1, h2])]; rfl
      · refine br_t (show decide ((v.ns.length : Int) > 0) = true by rw [len_pos]; simpa using h2) (pure_done fun _ => ?_)
        unfold valE; rw [if_pos k0, if_pos (.inr h2)]; rfl
    · refine br_t (show decide ((v.cs.length : Int) > 0) = true by rw [len_pos]; simpa using h1) (pure_done fun _ => ?_)
      unfold valE; rw [if_pos k0, if_pos (.inl h1)]; rfl
  refine br_f (show (v.k == 0) = false by simpa using k0) ?_
  by_cases k2 : v.k = 2
  · refine br_t (show (v.k == 2) = true by simpa using k2) ?_
    by_cases h1 : v.cs = []
    · refine br_f (show decide ((v.cs.length : Int) > 0) = false by rw [len_pos]; simpa using h1) ?_
      refine node_pure ⟨[checkV v.ns], [], [], [], []⟩ rfl rfl rfl oneNil (fun ids w2 hp hf => ?_) (pure_done fun _ => ?_)
      · exact (check_any a2 c2 v.ns w2 (H.n.ext hf.chg.below)).mono fun e w' h => ⟨h.1, by rw [← h.2]; exact Below.refl _ _⟩
      · unfold valE; rw [if_neg k0, if_pos k2, if_neg (by simpa using h1)]; rfl
    · refine br_t (show decide ((v.cs.length : Int) > 0) = true by rw [len_pos]; simpa using h1) (pure_done fun _ => ?_)
      unfold valE; rw [if_neg k0, if_pos k2, if_pos h1]; rfl
  refine br_f (show (v.k == 2) = false by simpa using k2) ?_
  by_cases k1 : v.k = 1
  · refine br_t (show (v.k == 1) = true by simpa using k1) ?_
    have val : ∀ (b : Prop), (v.cs = [] ∨ 8 < v.cs.length ∨ v.ns ≠ []) → valE v = 25 := fun _ h => by unfold valE; rw [if_neg k0, if_neg k2, if_pos k1, if_pos h]
    by_cases h1 : v.cs = []
    · refine br_t (show decide ((v.cs.length : Int) < 1) = true by rw [h1]; rfl) (pure_done fun _ => ?_)
      rw [val True (.inl h1)]; rfl
    refine br_f (show decide ((v.cs.length : Int) < 1) = false from decide_eq_false (by have := List.length_pos_iff.2 h1; omega)) ?_
    by_cases h2 : 8 < v.cs.length
    · refine br_t (show decide ((v.cs.length : Int) > 8) = true from decide_eq_true (by omega)) (pure_done fun _ => ?_)
      rw [val True (.inr (.inl h2))]; rfl
    refine br_f (show decide ((v.cs.length : Int) > 8) = false from decide_eq_false (by omega)) ?_
    by_cases h3 : v.ns = []
    · refine br_f (show decide ((v.ns.length : Int) > 0) = false by rw [len_pos]; simpa using h3) ?_
      have hE : valE v = firstE v.cs := by unfold valE; rw [if_neg k0, if_neg k2, if_pos k1, if_neg (by simp [h1, h3]; omega)]
      rw [hE]
      refine loop_i (ChI v) (fun vs => v.cs.length - (vs.i.headD 0).toNat) (fun ids w2 hp hf => ⟨HX.nil, HXok.none _ _, 0, by omega, rfl, rfl, rfl⟩) ?_
      rintro vs hx' hcnt ⟨k, hk1, he, rfl, rfl⟩
      by_cases hk : k < v.cs.length
      · refine br_t (show decide ((k : Int) < (v.cs.length : Int)) = true from decide_eq_true (by omega)) ?_
        obtain ⟨c, hc⟩ : ∃ b, v.cs[k]? = some b := ⟨_, List.getElem?_eq_getElem hk⟩
        obtain ⟨s1, c1⟩ := c_elt H.c hc
        refine need_i ⟨s1, (show (0 : Int) ≤ k by omega), (show (k : Int) < v.cs.length by omega)⟩ ?_
        refine ⟨⟨c.is, [], [], [], []⟩, fun ids => c1 _ (fun q => q), ⟨rfl, oneNil⟩, ?_⟩
        refine node_val ⟨[cmdV c], [], [], [], []⟩ (fun w => cmd_any c w) (fun _ => rfl) (fun _ => rfl) rfl rfl rfl oneNil ?_
        have hfe := firstE_drop hc
        rw [he] at hfe
        by_cases hz : cmdV c = 0
        · refine br_f (show (cmdV c != 0) = false by simpa using hz) ?_
          rw [if_neg (by simpa using hz)] at hfe
          have hwk : IntKind.i64.wrap ((k : Int) + 1) = ((k + 1 : Nat) : Int) := by rw [wrap_i64 (by omega)]; omega
          intro ids w2 hp hf
          refine ⟨HX.nil, HXok.none _ _, _, rfl, ⟨k + 1, by omega, hfe.symm, by rw [← hwk]; rfl, rfl⟩, ?_⟩
          show v.cs.length - (IntKind.i64.wrap ((k : Int) + 1)).toNat < v.cs.length - ((k : Int)).toNat
          rw [hwk]; omega
        · refine br_t (show (cmdV c != 0) = true by simpa using hz) (pure_done fun _ => ?_)
          rw [if_pos hz] at hfe
          rw [hfe]; rfl
      · refine br_f (show decide ((k : Int) < (v.cs.length : Int)) = false from decide_eq_false (by omega)) (pure_done fun _ => ?_)
        rw [← he, List.drop_of_length_le (by omega)]; rfl
    · refine br_t (show decide ((v.ns.length : Int) > 0) = true by rw [len_pos]; simpa using h3) (pure_done fun _ => ?_)
      rw [val True (.inr (.inr h3))]; rfl
  refine br_f (show (v.k == 1) = false by simpa using k1) (pure_done fun _ => ?_)
  unfold valE; rw [if_neg k0, if_neg k2, if_neg k1]; rfl
end Go.Proofs.Ytadgaefmoobcoaa

namespace Go.Proofs.Ytadgaefmoobcoaa
open Go.ChangeShapes Go.WideShapes Go.ChangeAt Go.RowKit Go.Syn Go.Eng
set_option linter.unusedVariables false
set_option linter.unusedSimpArgs false
set_option maxRecDepth 100000
theorem take_stepV {α : Type} {xs ys : List α} {k : Nat} {x y : α} (hx : xs[k]? = some x) (hy : ys[k]? = some y) (h : xs.take k = ys.take k) : xs.take (k + 1) = ys.take (k + 1) ↔ x = y := by
  rw [List.take_add_one, List.take_add_one, hx, hy, h]
  simp
theorem rchk_any (v : Vl) (a1 : Option Addr) (c1 : Nat) (a2 : Option Addr) (c2 : Nat) (w : World) (H : VlAt w v a1 a2) : Calls Try.prog 37 #[vlV v a1 c1 a2 c2] w (PureAt w (.int .i64 (valE v))) := by
  have hl1 := H.l1
  by_cases k0 : v.k = 0
  · unfold vlV
    rw [k0]
    refine calls_at (tab_ok _) Try.func37 rfl tRChk0 (ρ := ⟨[], [], [], [v.cs.length, c1, v.ns.length, c2], [a1, a2]⟩) (ids := []) rfl (Facts.initP rfl oneNil) ?_
    by_cases h1 : v.cs = []
    · refine br_f (show ((v.cs.length : Int) != 0) = false by rw [len_ne]; simpa using h1) ?_
      by_cases h2 : v.ns = []
      · refine br_f (show ((v.ns.length : Int) != 0) = false by rw [len_ne]; simpa using h2) ?_
        have hE : valE v = firstE v.cs := by unfold valE; rw [if_pos k0, if_neg (by simp [h1, h2]), h1]; rfl
        rw [hE]
        refine loop_i (ChI v) (fun vs => v.cs.length - (vs.i.headD 0).toNat) (fun ids w2 hp hf => ⟨HX.nil, HXok.none _ _, 0, by omega, rfl, rfl, rfl⟩) ?_
        rintro vs hx' hcnt ⟨k, hk1, he, rfl, rfl⟩
        by_cases hk : k < v.cs.length
        · refine br_t (show decide ((k : Int) < (v.cs.length : Int)) = true from decide_eq_true (by omega)) ?_
          obtain ⟨c, hc⟩ : ∃ b, v.cs[k]? = some b := ⟨_, List.getElem?_eq_getElem hk⟩
          obtain ⟨s1, c1⟩ := c_elt H.c hc
          refine need_i ⟨s1, (show (0 : Int) ≤ k by omega), (show (k : Int) < v.cs.length by omega)⟩ ?_
          refine ⟨⟨c.is, [], [], [], []⟩, fun ids => c1 _ (fun q => q), ⟨rfl, oneNil⟩, ?_⟩
          refine node_val ⟨[cmdV c], [], [], [], []⟩ (fun w => rcmd_any c w) (fun _ => rfl) (fun _ => rfl) rfl rfl rfl oneNil ?_
          have hfe := firstE_drop hc
          rw [he] at hfe
          by_cases hz : cmdV c = 0
          · refine br_f (show (cmdV c != 0) = false by simpa using hz) ?_
            rw [if_neg (by simpa using hz)] at hfe
            have hwk : IntKind.i64.wrap ((k : Int) + 1) = ((k + 1 : Nat) : Int) := by rw [wrap_i64 (by omega)]; omega
            intro ids w2 hp hf
            refine ⟨HX.nil, HXok.none _ _, _, rfl, ⟨k + 1, by omega, hfe.symm, by rw [← hwk]; rfl, rfl⟩, ?_⟩
            show v.cs.length - (IntKind.i64.wrap ((k : Int) + 1)).toNat < v.cs.length - ((k : Int)).toNat
            rw [hwk]; omega
          · refine br_t (show (cmdV c != 0) = true by simpa using hz) (pure_done fun _ => ?_)
            rw [if_pos hz] at hfe
            rw [hfe]; rfl
        · refine br_f (show decide ((k : Int) < (v.cs.length : Int)) = false from decide_eq_false (by omega)) (pure_done fun _ => ?_)
          rw [← he, List.drop_of_length_le (by omega)]; rfl
      · refine br_t (show ((v.ns.length : Int) != 0) = true by rw [len_ne]; simpa using h2) (pure_done fun _ => ?_)
        unfold valE; rw [if_pos k0, if_pos (.inr h2)]; rfl
    · refine br_t (show ((v.cs.length : Int) != 0) = true by rw [len_ne]; simpa using h1) (pure_done fun _ => ?_)
      unfold valE; rw [if_pos k0, if_pos (.inl h1)]; rfl
  by_cases k2 : v.k = 2
  · unfold vlV
    rw [k2]
    refine calls_at (tab_ok _) Try.func37 rfl tRChk2 (ρ := ⟨[], [], [], [v.cs.length, c1, v.ns.length, c2], [a1, a2]⟩) (ids := []) rfl (Facts.initP rfl oneNil) ?_
    by_cases h1 : v.cs = []
    · refine br_f (show ((v.cs.length : Int) != 0) = false by rw [len_ne]; simpa using h1) ?_
      refine node_pure ⟨[], [setOkB v.ns], [], [], []⟩ rfl rfl rfl oneNil (fun ids w2 hp hf => ?_) ?_
      · exact refRight_any a2 c2 v.ns w2 (H.n.ext hf.chg.below)
      have hE : valE v = if setOkB v.ns then 0 else 24 := by unfold valE checkV; rw [if_neg k0, if_pos k2, if_neg (by simpa using h1)]
      cases hs : setOkB v.ns with
      | false =>
        rw [hE, hs]
        exact br_t rfl (pure_done fun _ => rfl)
      | true =>
        refine br_f rfl ?_
        have hE2 : valE v = firstE v.cs := by rw [hE, hs, h1]; rfl
        rw [hE2]
        refine loop_i (ChI v) (fun vs => v.cs.length - (vs.i.headD 0).toNat) (fun ids w2 hp hf => ⟨HX.nil, HXok.none _ _, 0, by omega, rfl, rfl, rfl⟩) ?_
        rintro vs hx' hcnt ⟨k, hk1, he, rfl, rfl⟩
        by_cases hk : k < v.cs.length
        · refine br_t (show decide ((k : Int) < (v.cs.length : Int)) = true from decide_eq_true (by omega)) ?_
          obtain ⟨c, hc⟩ : ∃ b, v.cs[k]? = some b := ⟨_, List.getElem?_eq_getElem hk⟩
          obtain ⟨s1, c1⟩ := c_elt H.c hc
          refine need_i ⟨s1, (show (0 : Int) ≤ k by omega), (show (k : Int) < v.cs.length by omega)⟩ ?_
          refine ⟨⟨c.is, [], [], [], []⟩, fun ids => c1 _ (fun q => q), ⟨rfl, oneNil⟩, ?_⟩
          refine node_val ⟨[cmdV c], [], [], [], []⟩ (fun w => rcmd_any c w) (fun _ => rfl) (fun _ => rfl) rfl rfl rfl oneNil ?_
          have hfe := firstE_drop hc
          rw [he] at hfe
          by_cases hz : cmdV c = 0
          · refine br_f (show (cmdV c != 0) = false by simpa using hz) ?_
            rw [if_neg (by simpa using hz)] at hfe
            have hwk : IntKind.i64.wrap ((k : Int) + 1) = ((k + 1 : Nat) : Int) := by rw [wrap_i64 (by omega)]; omega
            intro ids w2 hp hf
            refine ⟨HX.nil, HXok.none _ _, _, rfl, ⟨k + 1, by omega, hfe.symm, by rw [← hwk]; rfl, rfl⟩, ?_⟩
            show v.cs.length - (IntKind.i64.wrap ((k : Int) + 1)).toNat < v.cs.length - ((k : Int)).toNat
            rw [hwk]; omega
          · refine br_t (show (cmdV c != 0) = true by simpa using hz) (pure_done fun _ => ?_)
            rw [if_pos hz] at hfe
            rw [hfe]; rfl
        · refine br_f (show decide ((k : Int) < (v.cs.length : Int)) = false from decide_eq_false (by omega)) (pure_done fun _ => ?_)
          rw [← he, List.drop_of_length_le (by omega)]; rfl
    · refine br_t (show ((v.cs.length : Int) != 0) = true by rw [len_ne]; simpa using h1) (pure_done fun _ => ?_)
      unfold valE; rw [if_neg k0, if_pos k2, if_pos h1]; rfl
  by_cases k1 : v.k = 1
  · unfold vlV
    rw [k1]
    refine calls_at (tab_ok _) Try.func37 rfl tRChk1 (ρ := ⟨[], [], [], [v.cs.length, c1, v.ns.length, c2], [a1, a2]⟩) (ids := []) rfl (Facts.initP rfl oneNil) ?_
    have val : ∀ (b : Prop), (v.cs = [] ∨ 8 < v.cs.length ∨ v.ns ≠ []) → valE v = 25 := fun _ h => by unfold valE; rw [if_neg k0, if_neg k2, if_pos k1, if_pos h]
    by_cases h3 : v.ns = []
    · refine br_f (show ((v.ns.length : Int) != 0) = false by rw [len_ne]; simpa using h3) ?_
      by_cases h1 : v.cs = []
      · refine br_t (show ((v.cs.length : Int) == 0) = true by rw [h1]; rfl) (pure_done fun _ => ?_)
        rw [val True (.inl h1)]; rfl
      refine br_f (show ((v.cs.length : Int) == 0) = false by have := List.length_pos_iff.2 h1; simp only [beq_eq_false_iff_ne]; omega) ?_
      by_cases h2 : 8 < v.cs.length
      · refine br_t (show decide ((v.cs.length : Int) > 8) = true from decide_eq_true (by omega)) (pure_done fun _ => ?_)
        rw [val True (.inr (.inl h2))]; rfl
      refine br_f (show decide ((v.cs.length : Int) > 8) = false from decide_eq_false (by omega)) ?_
      have hE : valE v = firstE v.cs := by unfold valE; rw [if_neg k0, if_neg k2, if_pos k1, if_neg (by simp [h1, h3]; omega)]
      rw [hE]
      refine loop_i (ChI v) (fun vs => v.cs.length - (vs.i.headD 0).toNat) (fun ids w2 hp hf => ⟨HX.nil, HXok.none _ _, 0, by omega, rfl, rfl, rfl⟩) ?_
      rintro vs hx' hcnt ⟨k, hk1, he, rfl, rfl⟩
      by_cases hk : k < v.cs.length
      · refine br_t (show decide ((k : Int) < (v.cs.length : Int)) = true from decide_eq_true (by omega)) ?_
        obtain ⟨c, hc⟩ : ∃ b, v.cs[k]? = some b := ⟨_, List.getElem?_eq_getElem hk⟩
        obtain ⟨s1, c1⟩ := c_elt H.c hc
        refine need_i ⟨s1, (show (0 : Int) ≤ k by omega), (show (k : Int) < v.cs.length by omega)⟩ ?_
        refine ⟨⟨c.is, [], [], [], []⟩, fun ids => c1 _ (fun q => q), ⟨rfl, oneNil⟩, ?_⟩
        refine node_val ⟨[cmdV c], [], [], [], []⟩ (fun w => rcmd_any c w) (fun _ => rfl) (fun _ => rfl) rfl rfl rfl oneNil ?_
        have hfe := firstE_drop hc
        rw [he] at hfe
        by_cases hz : cmdV c = 0
        · refine br_f (show (cmdV c != 0) = false by simpa using hz) ?_
          rw [if_neg (by simpa using hz)] at hfe
          have hwk : IntKind.i64.wrap ((k : Int) + 1) = ((k + 1 : Nat) : Int) := by rw [wrap_i64 (by omega)]; omega
          intro ids w2 hp hf
          refine ⟨HX.nil, HXok.none _ _, _, rfl, ⟨k + 1, by omega, hfe.symm, by rw [← hwk]; rfl, rfl⟩, ?_⟩
          show v.cs.length - (IntKind.i64.wrap ((k : Int) + 1)).toNat < v.cs.length - ((k : Int)).toNat
          rw [hwk]; omega
        · refine br_t (show (cmdV c != 0) = true by simpa using hz) (pure_done fun _ => ?_)
          rw [if_pos hz] at hfe
          rw [hfe]; rfl
      · refine br_f (show decide ((k : Int) < (v.cs.length : Int)) = false from decide_eq_false (by omega)) (pure_done fun _ => ?_)
        rw [← he, List.drop_of_length_le (by omega)]; rfl
    · refine br_t (show ((v.ns.length : Int) != 0) = true by rw [len_ne]; simpa using h3) (pure_done fun _ => ?_)
      rw [val True (.inr (.inr h3))]; rfl
  · refine calls_at (tab_ok _) Try.func37 rfl tRChk (ρ := ⟨[v.k], [], [], [v.cs.length, c1, v.ns.length, c2], [a1, a2]⟩) (ids := []) rfl (Facts.initP rfl oneNil) ?_
    have hE : valE v = 25 := by unfold valE; rw [if_neg k0, if_neg k2, if_neg k1]
    by_cases hn : v.k < 0
    · refine br_t (show decide (v.k < 0) = true from decide_eq_true hn) (pure_done fun _ => ?_)
      rw [hE]; rfl
    · refine br_f (show decide (v.k < 0) = false from decide_eq_false hn) ?_
      refine br_t (show decide (v.k > 2) = true from decide_eq_true (by omega)) (pure_done fun _ => ?_)
      rw [hE]; rfl
def ItI (xs ys : List Int) (vs : Vals) (hx : HX) : Prop := ∃ k : Nat, k ≤ xs.length ∧ xs.take k = ys.take k ∧ vs = ⟨[(k : Int)], [], [], [], []⟩ ∧ hx = HX.nil
theorem ints_at {w : World} {a : Option Addr} {xs : List Int} (h : Ints w a xs) {i : Nat} {x : Int} (hi : xs[i]? = some x) : a.isSome = true ∧ ∀ (N : Nat → Prop), ¬ N ((a.getD ⟨0, 0, none⟩).block) → CellsAt w (.pointer (some (((a.getD ⟨0, 0, none⟩).add (i * 1)).add 0))) [.int .i64 x] N := ints_elt h hi
theorem intsB_any (a : Option Addr) (cap : Nat) (xs : List Int) (a2 : Option Addr) (cap2 : Nat) (ys : List Int) (w : World) (H : Ints w a xs) (H2 : Ints w a2 ys) (hl : xs.length ≤ 140737488355328) : Calls Try.prog 73 #[.slice a xs.length cap, .slice a2 ys.length cap2] w (PureAt w (.bool (decide (xs = ys)))) := by
  refine calls_at (tab_ok _) Try.func73 rfl tInts (ρ := ⟨[], [], [], [xs.length, cap, ys.length, cap2], [a, a2]⟩) (ids := []) rfl (Facts.initP rfl oneNil) ?_
  by_cases hlen : xs.length = ys.length
  · refine br_f (show ((xs.length : Int) != (ys.length : Int)) = false by simp [hlen]) ?_
    refine loop_i (ItI xs ys) (fun vs => xs.length - (vs.i.headD 0).toNat) (fun ids w2 hp hf => ⟨HX.nil, HXok.none _ _, 0, by omega, rfl, rfl, rfl⟩) ?_
    rintro vs hx' hcnt ⟨k, hk1, he, rfl, rfl⟩
    by_cases hk : k < xs.length
    · refine br_t (show decide ((k : Int) < (xs.length : Int)) = true from decide_eq_true (by omega)) ?_
      obtain ⟨x, hx⟩ : ∃ b, xs[k]? = some b := ⟨_, List.getElem?_eq_getElem hk⟩
      obtain ⟨y, hy⟩ : ∃ b, ys[k]? = some b := ⟨_, List.getElem?_eq_getElem (by omega)⟩
      obtain ⟨s1, c1⟩ := ints_at H hx
      obtain ⟨s2, c2⟩ := ints_at H2 hy
      have hst := take_stepV hx hy he
      have hwk : IntKind.i64.wrap ((k : Int) + 1) = ((k + 1 : Nat) : Int) := by rw [wrap_i64 (by omega)]; omega
      refine need_i ⟨s1, (show (0 : Int) ≤ k by omega), (show (k : Int) < xs.length by omega)⟩ ?_
      refine need_i ⟨s2, (show (0 : Int) ≤ k by omega), (show (k : Int) < ys.length by omega)⟩ ?_
      by_cases hxy : x = y
      · have e1 := hst.2 hxy
        have fin : ∀ {es : Vec} {m : Mem} {ρ : Env} {L : Stack}, (∀ ids, es.den ρ ids = ⟨[IntKind.i64.wrap ((k : Int) + 1)], [], [], [], []⟩) → (Tree.again 4 es m).holds ⟨Try.prog, w, fun _ => False, PureAt w (.bool (decide (xs = ys)))⟩ ρ [] HX.nil ((4, fun vs' hx'' => ItI xs ys vs' hx'' ∧ xs.length - (vs'.i.headD 0).toNat < xs.length - ((⟨[(k : Int)], [], [], [], []⟩ : Vals).i.headD 0).toNat) :: L) := by
          intro es m ρ L hes ids w2 hp hf
          refine ⟨HX.nil, HXok.none _ _, _, rfl, ?_⟩
          rw [hes]
          refine ⟨⟨k + 1, by omega, e1, by rw [hwk], rfl⟩, ?_⟩
          show xs.length - (IntKind.i64.wrap ((k : Int) + 1)).toNat < xs.length - ((k : Int)).toNat
          rw [hwk]; omega
        refine par_i ?_ ?_
        · refine ⟨⟨[x], [], [], [], []⟩, fun ids => c1 _ (fun q => q), ⟨rfl, oneNil⟩, ?_⟩
          refine ⟨⟨[y], [], [], [], []⟩, fun ids => c2 _ (fun q => q), ⟨rfl, oneNil⟩, ?_⟩
          exact br_f (show (x != y) = false by simpa using hxy) (fin (fun _ => rfl))
        · refine ⟨⟨[y], [], [], [], []⟩, fun ids => c2 _ (fun q => q), ⟨rfl, oneNil⟩, ?_⟩
          refine ⟨⟨[x], [], [], [], []⟩, fun ids => c1 _ (fun q => q), ⟨rfl, oneNil⟩, ?_⟩
          exact br_f (show (x != y) = false by simpa using hxy) (fin (fun _ => rfl))
      · have hne : ¬ xs = ys := fun e => hxy (by rw [e] at hx; rw [hx] at hy; exact Option.some.inj hy)
        have fin : ∀ {m : Mem} {ρ : Env} {L : Stack} {hx : HX}, (Tree.done (.lf (.bool (.lit false))) m).holds ⟨Try.prog, w, fun _ => False, PureAt w (.bool (decide (xs = ys)))⟩ ρ [] hx L := pure_done fun _ => by rw [decide_eq_false hne]; rfl
        refine par_i ?_ ?_
        · refine ⟨⟨[x], [], [], [], []⟩, fun ids => c1 _ (fun q => q), ⟨rfl, oneNil⟩, ?_⟩
          refine ⟨⟨[y], [], [], [], []⟩, fun ids => c2 _ (fun q => q), ⟨rfl, oneNil⟩, ?_⟩
          exact br_t (show (x != y) = true by simpa using hxy) fin
        · refine ⟨⟨[y], [], [], [], []⟩, fun ids => c2 _ (fun q => q), ⟨rfl, oneNil⟩, ?_⟩
          refine ⟨⟨[x], [], [], [], []⟩, fun ids => c1 _ (fun q => q), ⟨rfl, oneNil⟩, ?_⟩
          exact br_t (show (x != y) = true by simpa using hxy) fin
    · refine br_f (show decide ((k : Int) < (xs.length : Int)) = false from decide_eq_false (by omega)) (pure_done fun _ => ?_)
      have e : xs = ys := by rw [List.take_of_length_le (by omega), List.take_of_length_le (by omega)] at he; exact he
      rw [decide_eq_true e]; rfl
  · refine br_t (show ((xs.length : Int) != (ys.length : Int)) = true by simp only [bne_iff_ne, ne_eq]; omega) (pure_done fun _ => ?_)
    rw [decide_eq_false (fun e => hlen (by rw [e]))]; rfl
def cmdEq (c d : CmD) : Bool := (c.sess == d.sess) && ((c.seq == d.seq) && ((c.ack == d.ack) && ((c.op.kind == d.op.kind) && ((c.op.reg == d.op.reg) && ((c.op.tg == d.op.tg) && ((c.op.re == d.op.re) && (c.op.im == d.op.im)))))))
theorem cmdEq_iff (c d : CmD) : cmdEq c d = true ↔ c = d := by
  obtain ⟨a1, a2, a3, ⟨a4, a5, a6, a7, a8⟩⟩ := c
  obtain ⟨b1, b2, b3, ⟨b4, b5, b6, b7, b8⟩⟩ := d
  simp [cmdEq]
def sameV6 (v u : Vl) : Prop := v.k = u.k ∧ v.cs = u.cs ∧ v.ns = u.ns
theorem same_ext {v u : Vl} : sameV6 v u ↔ v = u := by
  obtain ⟨a, b, c⟩ := v
  obtain ⟨d, e, f⟩ := u
  simp [sameV6]
open Classical in
noncomputable def vlSame (v u : Vl) : Bool := decide (v = u)
theorem vlSame_f {v u : Vl} (h : ¬ v = u) : vlSame v u = false := @decide_eq_false _ (Classical.propDecidable _) h
theorem vlSame_t {v u : Vl} (h : v = u) : vlSame v u = true := @decide_eq_true _ (Classical.propDecidable _) h
def SvI (v u : Vl) (vs : Vals) (hx : HX) : Prop := ∃ k : Nat, k ≤ v.cs.length ∧ v.cs.take k = u.cs.take k ∧ vs = ⟨[(k : Int)], [], [], [], []⟩ ∧ hx = HX.nil
theorem samev_any (v : Vl) (a1 : Option Addr) (c1 : Nat) (a2 : Option Addr) (c2 : Nat) (u : Vl) (b1 : Option Addr) (d1 : Nat) (b2 : Option Addr) (d2 : Nat) (w : World) (H : VlAt w v a1 a2) (H2 : VlAt w u b1 b2) : Calls Try.prog 48 #[vlV v a1 c1 a2 c2, vlV u b1 d1 b2 d2] w (PureAt w (.bool (vlSame v u))) := by
  have hl1 := H.l1
  have hl2 := H.l2
  have no : ∀ {v u : Vl}, ¬ v = u → vlSame v u = false := fun h => vlSame_f h
  have yes : ∀ {v u : Vl}, v = u → vlSame v u = true := fun h => vlSame_t h
  refine calls_at (tab_ok _) Try.func48 rfl tSameV (ρ := ⟨[v.k, u.k], [], [], [v.cs.length, c1, v.ns.length, c2, u.cs.length, d1, u.ns.length, d2], [a1, a2, b1, b2]⟩) (ids := []) rfl (Facts.initP rfl oneNil) ?_
  by_cases hk : v.k = u.k
  · refine br_f (show (v.k != u.k) = false by simpa using hk) ?_
    by_cases hlen : v.cs.length = u.cs.length
    · refine br_f (show ((v.cs.length : Int) != (u.cs.length : Int)) = false by simp [hlen]) ?_
      refine node_pure ⟨[], [decide (v.ns = u.ns)], [], [], []⟩ rfl rfl rfl oneNil (fun ids w2 hp hf => ?_) ?_
      · exact intsB_any a2 c2 v.ns b2 d2 u.ns w2 (H.n.ext hf.chg.below) (H2.n.ext hf.chg.below) (by omega)
      by_cases hns : v.ns = u.ns
      · refine br_f (show (!decide (v.ns = u.ns)) = false by simp [hns]) ?_
        refine loop_i (SvI v u) (fun vs => v.cs.length - (vs.i.headD 0).toNat) (fun ids w2 hp hf => ⟨HX.nil, HXok.none _ _, 0, by omega, rfl, rfl, rfl⟩) ?_
        rintro vs hx' hcnt ⟨k, hk1, he, rfl, rfl⟩
        by_cases hkl : k < v.cs.length
        · refine br_t (show decide ((k : Int) < (v.cs.length : Int)) = true from decide_eq_true (by omega)) ?_
          obtain ⟨x, hx⟩ : ∃ b, v.cs[k]? = some b := ⟨_, List.getElem?_eq_getElem hkl⟩
          obtain ⟨y, hy⟩ : ∃ b, u.cs[k]? = some b := ⟨_, List.getElem?_eq_getElem (by omega)⟩
          obtain ⟨s1, q1⟩ := c_elt H.c hx
          obtain ⟨s2, q2⟩ := c_elt H2.c hy
          have hst := take_stepV hx hy he
          have hwk : IntKind.i64.wrap ((k : Int) + 1) = ((k + 1 : Nat) : Int) := by rw [wrap_i64 (by omega)]; omega
          refine need_i ⟨s1, (show (0 : Int) ≤ k by omega), (show (k : Int) < v.cs.length by omega)⟩ ?_
          refine need_i ⟨s2, (show (0 : Int) ≤ k by omega), (show (k : Int) < u.cs.length by omega)⟩ ?_
          by_cases hxy : x = y
          · have e1 := hst.2 hxy
            have hce : (!cmdEq x y) = false := by rw [(cmdEq_iff x y).2 hxy]; rfl
            have fin : ∀ {es : Vec} {m : Mem} {ρ : Env} {L : Stack}, (∀ ids, es.den ρ ids = ⟨[IntKind.i64.wrap ((k : Int) + 1)], [], [], [], []⟩) → (Tree.again 4 es m).holds ⟨Try.prog, w, fun _ => False, PureAt w (.bool (vlSame v u))⟩ ρ [] HX.nil ((4, fun vs' hx'' => SvI v u vs' hx'' ∧ v.cs.length - (vs'.i.headD 0).toNat < v.cs.length - ((⟨[(k : Int)], [], [], [], []⟩ : Vals).i.headD 0).toNat) :: L) := by
              intro es m ρ L hes ids w2 hp hf
              refine ⟨HX.nil, HXok.none _ _, _, rfl, ?_⟩
              rw [hes]
              refine ⟨⟨k + 1, by omega, e1, by rw [hwk], rfl⟩, ?_⟩
              show v.cs.length - (IntKind.i64.wrap ((k : Int) + 1)).toNat < v.cs.length - ((k : Int)).toNat
              rw [hwk]; omega
            refine par_i ?_ ?_
            · refine ⟨⟨x.is, [], [], [], []⟩, fun ids => q1 _ (fun q => q), ⟨rfl, oneNil⟩, ?_⟩
              refine ⟨⟨y.is, [], [], [], []⟩, fun ids => q2 _ (fun q => q), ⟨rfl, oneNil⟩, ?_⟩
              exact br_f (Eq.trans (b := !cmdEq x y) (by kernel_rfl) hce) (fin (fun _ => rfl))
            · refine ⟨⟨y.is, [], [], [], []⟩, fun ids => q2 _ (fun q => q), ⟨rfl, oneNil⟩, ?_⟩
              refine ⟨⟨x.is, [], [], [], []⟩, fun ids => q1 _ (fun q => q), ⟨rfl, oneNil⟩, ?_⟩
              exact br_f (Eq.trans (b := !cmdEq x y) (by kernel_rfl) hce) (fin (fun _ => rfl))
          · have hce : (!cmdEq x y) = true := by
              have : cmdEq x y = false := by
                cases h : cmdEq x y with
                | false => rfl
                | true => exact absurd ((cmdEq_iff x y).1 h) hxy
              rw [this]; rfl
            have hne : ¬ v = u := fun e => hxy (by rw [e] at hx; rw [hx] at hy; exact Option.some.inj hy)
            have fin : ∀ {m : Mem} {ρ : Env} {L : Stack} {hx : HX}, (Tree.done (.lf (.bool (.lit false))) m).holds ⟨Try.prog, w, fun _ => False, PureAt w (.bool (vlSame v u))⟩ ρ [] hx L := pure_done fun _ => by rw [no hne]; rfl
            refine par_i ?_ ?_
            · refine ⟨⟨x.is, [], [], [], []⟩, fun ids => q1 _ (fun q => q), ⟨rfl, oneNil⟩, ?_⟩
              refine ⟨⟨y.is, [], [], [], []⟩, fun ids => q2 _ (fun q => q), ⟨rfl, oneNil⟩, ?_⟩
              exact br_t (Eq.trans (b := !cmdEq x y) (by kernel_rfl) hce) fin
            · refine ⟨⟨y.is, [], [], [], []⟩, fun ids => q2 _ (fun q => q), ⟨rfl, oneNil⟩, ?_⟩
              refine ⟨⟨x.is, [], [], [], []⟩, fun ids => q1 _ (fun q => q), ⟨rfl, oneNil⟩, ?_⟩
              exact br_t (Eq.trans (b := !cmdEq x y) (by kernel_rfl) hce) fin
        · refine br_f (show decide ((k : Int) < (v.cs.length : Int)) = false from decide_eq_false (by omega)) (pure_done fun _ => ?_)
          have e : v.cs = u.cs := by rw [List.take_of_length_le (by omega), List.take_of_length_le (by omega)] at he; exact he
          rw [yes (same_ext.1 ⟨hk, e, hns⟩)]; rfl
      · refine br_t (show (!decide (v.ns = u.ns)) = true by simp [hns]) (pure_done fun _ => ?_)
        rw [no (fun e => hns (by rw [e]))]; rfl
    · refine br_t (show ((v.cs.length : Int) != (u.cs.length : Int)) = true by simp only [bne_iff_ne, ne_eq]; omega) (pure_done fun _ => ?_)
      rw [no (fun e => hlen (by rw [e]))]; rfl
  · refine br_t (show (v.k != u.k) = true by simpa using hk) (pure_done fun _ => ?_)
    rw [no (fun e => hk (by rw [e]))]; rfl
theorem ccells_ne {cs : List CmD} (h : cs ≠ []) : ccells cs ≠ [] := fun q => by
  cases cs with
  | nil => exact h rfl
  | cons c r => simp [ccells, CmD.cells] at q
theorem info_cmd : (Try.prog.info? 32).map (fun i => (i.zero, i.size, i.bytes)) = some (some (.agg #[.int .i64 0, .int .i64 0, .int .i64 0, .int .i64 0, .int .i64 0, .int .i64 0, .int .i64 0, .int .i64 0]), 8, 64) := by kernel_rfl
theorem info_int1 : (Try.prog.info? 3).map (fun i => (i.zero, i.size, i.bytes)) = some (some (.int .i64 0), 1, 8) := by kernel_rfl
def crow (a : Option Addr) (n c : Nat) (cs : List CmD) : HX := HX.rw 8 32 a n c (ccells cs)
def nrow (a : Option Addr) (n c : Nat) (ns : List Int) : HX := HX.rw 1 3 a n c (ns.map (Value.int .i64))
theorem ccells_snoc (cs : List CmD) (c : CmD) : ccells cs ++ c.cells = ccells (cs ++ [c]) := by unfold ccells; rw [List.flatMap_append]; simp
theorem ncells_snoc (ns : List Int) (n : Int) : ns.map (Value.int .i64) ++ [.int .i64 n] = (ns ++ [n]).map (Value.int .i64) := by rw [List.map_append]; rfl
theorem cmd_one (c : CmD) : ∀ v ∈ c.cells, v.oneCell' = true := fun v hv => by
  simp only [CmD.cells, List.mem_cons, List.not_mem_nil, or_false] at hv
  rcases hv with rfl | rfl | rfl | rfl | rfl | rfl | rfl | rfl <;> rfl
theorem rw_ltx {sz e n cap : Nat} {a : Option Addr} {xs : List Value} {w : World} (h : (HX.rw sz e a n cap xs).X w) {k : Nat} (h1 : cap ≠ 0) (h2 : abk a = some k) : k < w.heap.size := by
  obtain ⟨g, _, rfl, q, _⟩ := rw_open h h1
  cases h2; exact q
def vlX (v : Vl) (a1 a2 : Option Addr) : HX := (HX.cl a1 (ccells v.cs)).and (HX.cl a2 (v.ns.map (Value.int .i64)))
structure VlFit (v : Vl) : Prop where
  n : ∀ n ∈ v.ns, I64 n
  l1 : v.cs.length ≤ 2199023255552
  l2 : v.ns.length ≤ 17592186044416
theorem VlFit.at_ {v : Vl} (h : VlFit v) {a1 a2 : Option Addr} {w : World} (hX : (vlX v a1 a2).X w) : VlAt w v a1 a2 := ⟨hX.1, Ints.of_cells (by have := h.l2; omega) h.n hX.2, h.l1, h.l2⟩
theorem VlAt.X {v : Vl} {a1 a2 : Option Addr} {w : World} (H : VlAt w v a1 a2) : (vlX v a1 a2).X w := ⟨H.c, H.n.cells⟩
theorem VlAt.fit {v : Vl} {a1 a2 : Option Addr} {w : World} (H : VlAt w v a1 a2) : VlFit v := ⟨H.n.fits, H.l1, H.l2⟩
theorem vlX_sep {v : Vl} {a1 a2 : Option Addr} {w : World} (h : (vlX v a1 a2).X w) : ∀ k, (vlX v a1 a2).F k → k < w.heap.size := fun k hk => hk.elim (cl_sep h.1 k) (cl_sep h.2 k)
section
variable {C : Cfg} {ρ : Env} {pre : List Nat} {hx : HX} {L : Stack} {m m' : Mem} {args : List SV} {r : SV} {t : Tree}
end
theorem ccells_one (cs : List CmD) : ∀ v ∈ ccells cs, v.oneCell' = true := fun v hv => by
  obtain ⟨c, _, h⟩ := List.mem_flatMap.1 hv
  exact cmd_one c v h
set_option maxRecDepth 100000 in
theorem tCpVal : (runF ⟨tt, fns, {}⟩ (Try.f33.body.getD .skip) Try.f33.results.toList (entry Try.f33.ntmps [.agg [.int .i64 (.var 0), .sl 0 (.var 0) (.var 1), .sl 1 (.var 2) (.var 3)]] [] ⟨1, 0, 0, 4, 2⟩)) =
  (.gen (.call ⟨(.builtin .append), #[(.tmp 8), (.tmp 10)], #[24, 24]⟩) 24 [(8, (.lf .nilsl)), (10, (.lf (tSl 0 0 1)))] ⟨[(27, [(tVi 0), (tSl 0 0 1), (tSl 1 2 3)]), (27, [(tLi 0), .nilsl, .nilsl]), (27, [(tVi 0), .nilsl, .nilsl])], ⟨1, 0, 0, 4, 2⟩⟩ (.some (.lf (tSl 2 4 5))) ⟨[(27, [(tVi 0), (tSl 0 0 1), (tSl 1 2 3)]), (27, [(tLi 0), .nilsl, .nilsl]), (27, [(tVi 0), .nilsl, .nilsl])], ⟨1, 0, 0, 6, 3⟩⟩ (.gen (.call ⟨(.builtin .append), #[(.tmp 14), (.tmp 16)], #[25, 25]⟩) 25 [(14, (.lf .nilsl)), (16, (.lf (tSl 1 2 3)))] ⟨[(27, [(tVi 0), (tSl 0 0 1), (tSl 1 2 3)]), (27, [(tLi 0), .nilsl, .nilsl]), (27, [(tVi 0), (tSl 2 4 5), .nilsl])], ⟨1, 0, 0, 6, 3⟩⟩ (.some (.lf (tSl 3 6 7))) ⟨[(27, [(tVi 0), (tSl 0 0 1), (tSl 1 2 3)]), (27, [(tLi 0), .nilsl, .nilsl]), (27, [(tVi 0), (tSl 2 4 5), .nilsl])], ⟨1, 0, 0, 8, 4⟩⟩ (.done (.agg [(tVi 0), (tSl 2 4 5), (tSl 3 6 7)]) ⟨[(27, [(tVi 0), (tSl 0 0 1), (tSl 1 2 3)]), (27, [(tVi 0), (tSl 2 4 5), (tSl 3 6 7)]), (27, [(tVi 0), (tSl 2 4 5), (tSl 3 6 7)])], ⟨1, 0, 0, 8, 4⟩⟩))) := by kernel_rfl
def cmDat (c : CmD) : Dat := .parts [.int .i64 c.sess, .int .i64 c.seq, .int .i64 c.ack, .parts [.int .i64 c.op.kind, .int .i64 c.op.reg, .int .i64 c.op.tg, .int .i64 c.op.re, .int .i64 c.op.im]]
def CmFit (c : CmD) : Prop := ∀ i ∈ c.is, I64 i
theorem opn_int {w : World} {d : Dat} (h : d.In Try.prog w 3) : ∃ k : Int, d = .int .i64 k ∧ I64 k := by
  obtain ⟨k, rfl, hk⟩ := in_int Try.underlying3 h
  exact ⟨k, rfl, I64.of_wf hk⟩
theorem opn_cmd {w : World} {d : Dat} (h : d.In Try.prog w 32) : ∃ c : CmD, d = cmDat c ∧ CmFit c := by
  obtain ⟨ds, rfl, g⟩ := in_struct Try.underlying32 h
  obtain ⟨d0, r0, rfl, h0, g0⟩ := inEach_cons g
  obtain ⟨d1, r1, rfl, h1, g1⟩ := inEach_cons g0
  obtain ⟨d2, r2, rfl, h2, g2⟩ := inEach_cons g1
  obtain ⟨d3, r3, rfl, h3, g3⟩ := inEach_cons g2
  obtain rfl := inEach_nil g3
  obtain ⟨es, rfl, f⟩ := in_struct Try.underlying30 h3
  obtain ⟨e0, s0, rfl, k0, f1⟩ := inEach_cons f
  obtain ⟨e1, s1, rfl, k1, f2⟩ := inEach_cons f1
  obtain ⟨e2, s2, rfl, k2, f3⟩ := inEach_cons f2
  obtain ⟨e3, s3, rfl, k3, f4⟩ := inEach_cons f3
  obtain ⟨e4, s4, rfl, k4, f5⟩ := inEach_cons f4
  obtain rfl := inEach_nil f5
  obtain ⟨x0, rfl, p0⟩ := opn_int h0
  obtain ⟨x1, rfl, p1⟩ := opn_int h1
  obtain ⟨x2, rfl, p2⟩ := opn_int h2
  obtain ⟨y0, rfl, q0⟩ := opn_int k0
  obtain ⟨y1, rfl, q1⟩ := opn_int k1
  obtain ⟨y2, rfl, q2⟩ := opn_int k2
  obtain ⟨y3, rfl, q3⟩ := opn_int k3
  obtain ⟨y4, rfl, q4⟩ := opn_int k4
  refine ⟨⟨x0, x1, x2, ⟨y0, y1, y2, y3, y4⟩⟩, rfl, fun i hi => ?_⟩
  simp only [CmD.is, List.mem_cons, List.not_mem_nil, or_false] at hi
  rcases hi with rfl | rfl | rfl | rfl | rfl | rfl | rfl | rfl <;> assumption
theorem dat_cells : ∀ cs : List CmD, Dat.cellsAll (cs.map cmDat) = ccells cs
  | [] => rfl
  | c :: r => by
    show Dat.cellsAll (cmDat c :: r.map cmDat) = c.cells ++ ccells r
    rw [← dat_cells r]; rfl
theorem dat_ints : ∀ ns : List Int, Dat.cellsAll (ns.map fun n => Dat.int .i64 n) = ns.map (Value.int .i64)
  | [] => rfl
  | n :: r => by rw [List.map_cons, List.map_cons, ← dat_ints r]; rfl
theorem bytes_cmd : Try.prog.bytesOf 32 = 64 := by kernel_rfl
theorem bytes_int : Try.prog.bytesOf 3 = 8 := by kernel_rfl
theorem reach_is : reachBytes ≤ 140737488355328 := by unfold reachBytes; decide
theorem opn_vl {w : World} {d : Dat} (h : d.In Try.prog w 27) : ∃ (v : Vl) (a1 : Option Addr) (c1 : Nat) (a2 : Option Addr) (c2 : Nat), d.cells = [.int .i64 v.k, .slice a1 v.cs.length c1, .slice a2 v.ns.length c2] ∧ VlAt w v a1 a2 ∧ I64 v.k ∧ ∀ c ∈ v.cs, CmFit c := by
  obtain ⟨ds, rfl, g⟩ := in_struct Try.underlying27 h
  obtain ⟨d0, r0, rfl, h0, g0⟩ := inEach_cons g
  obtain ⟨d1, r1, rfl, h1, g1⟩ := inEach_cons g0
  obtain ⟨d2, r2, rfl, h2, g2⟩ := inEach_cons g1
  obtain rfl := inEach_nil g2
  obtain ⟨k, rfl, hk⟩ := opn_int h0
  obtain ⟨a1, c1, ds1, rfl, l1, m1, b1, C1, I1⟩ := in_slice Try.underlying24 h1
  obtain ⟨a2, c2, ds2, rfl, l2, m2, b2, C2, I2⟩ := in_slice Try.underlying25 h2
  obtain ⟨cs, rfl, hcs⟩ := list_map_of cmDat CmFit ds1 (fun d hd => opn_cmd (I1 d hd))
  obtain ⟨ns, rfl, hns⟩ := list_map_of (fun n => Dat.int .i64 n) I64 ds2 (fun d hd => opn_int (I2 d hd))
  have hr := reach_is
  rw [bytes_cmd, List.length_map] at b1
  rw [bytes_int, List.length_map] at b2
  rw [dat_cells] at C1
  rw [dat_ints] at C2
  have hc1 : cs.length ≤ 2199023255552 := by omega
  have hn1 : ns.length ≤ 17592186044416 := by omega
  refine ⟨⟨k, cs, ns⟩, a1, c1, a2, c2, ?_, ⟨C1, Ints.of_cells (Nat.le_trans hn1 (by decide)) hns C2, hc1, hn1⟩, hk, hcs⟩
  show [Value.int .i64 k] ++ ([Value.slice a1 (cs.map cmDat).length c1] ++ ([Value.slice a2 (ns.map _).length c2] ++ [])) = _
  rw [List.length_map, List.length_map]; rfl
section
variable {C : Cfg} {ρ : Env} {pre : List Nat} {hx : HX} {L : Stack} {m m' : Mem} {args : List SV} {r : SV} {t : Tree}
end
def VlRow (w : World) (v : Vl) (e : Ending) (w' : World) : Prop := ∃ a1 c1 a2 c2, e = .returned (vlV v a1 c1 a2 c2) ∧ (crow a1 v.cs.length c1 v.cs).X w' ∧ (nrow a2 v.ns.length c2 v.ns).X w' ∧ (∀ k, (crow a1 v.cs.length c1 v.cs).F k → w.heap.size ≤ k) ∧ (∀ k, (nrow a2 v.ns.length c2 v.ns).F k → w.heap.size ≤ k ∧ ¬ (crow a1 v.cs.length c1 v.cs).F k) ∧ Below w.heap.size w w'
theorem cpvr_any (v : Vl) (a1 : Option Addr) (c1 : Nat) (a2 : Option Addr) (c2 : Nat) (w : World) (H : VlAt w v a1 a2) : Calls Try.prog 33 #[vlV v a1 c1 a2 c2] w (VlRow w v) := by
  have l1 := H.l1
  have l2 := H.l2
  refine calls_at (tab_ok _) Try.func33 rfl tCpVal (ρ := ⟨[v.k], [], [], [v.cs.length, c1, v.ns.length, c2], [a1, a2]⟩) (ids := []) (hx := vlX v a1 a2) rfl (Facts.initq rfl oneNil H.X (vlX_sep H.X)) ?_
  refine node_appends (xs := []) rfl Try.underlying24 info_cmd rfl (by decide) none 0 0 (fun _ => a1) v.cs.length c1 (ccells v.cs) (ccells_len _) (fun ids w _ _ => HX.rw_nil _ _ _ w) (fun ids w2 hp hf => hf.x.1) (ccells_one _) (fun w h => ⟨h, fun _ q => q⟩) (fun k h => absurd rfl h) (fun k h => absurd rfl h) (fun k h => absurd rfl h) (by unfold maxLen; omega) (by omega) (by intros; kernel_rfl) (by intros; kernel_rfl) (by intros; kernel_rfl) (by intros; kernel_rfl) (by intros; kernel_rfl) (by intros; kernel_rfl) ?_
  intro b1 d1 _ hd1 hw1
  refine node_appends (xs := []) rfl Try.underlying25 info_int1 rfl (by decide) none 0 0 (fun _ => a2) v.ns.length c2 (v.ns.map (Value.int .i64)) (by rw [List.length_map]; omega) (fun ids w _ _ => HX.rw_nil _ _ _ w) (fun ids w2 hp hf => hf.x.1.2) (fun x hx => by obtain ⟨n, _, rfl⟩ := List.mem_map.1 hx; rfl) (fun w h => ⟨h, fun _ q => q⟩) (fun k h => absurd rfl h) (fun k h => absurd rfl h) (fun k h => absurd rfl h) (by unfold maxLen; omega) (by omega) (by intros; kernel_rfl) (by intros; kernel_rfl) (by intros; kernel_rfl) (by intros; kernel_rfl) (by intros; kernel_rfl) (by intros; kernel_rfl) ?_
  intro b2 d2 _ hd2 hw2 ids w2 hp hf
  have e1 := hf.x.1.2
  have e2 := hf.x.2
  rw [List.nil_append] at e1 e2
  have z1 : 0 + v.cs.length = v.cs.length := Nat.zero_add _
  have z2 : 0 + v.ns.length = v.ns.length := Nat.zero_add _
  rw [z1] at e1
  rw [z2] at e2
  refine ⟨b1, d1, b2, d2, ?_, e1, e2, ?_, ?_, hf.chg.below⟩
  · show Ending.returned (.agg #[.int .i64 v.k, .slice b1 (0 + v.cs.length) d1, .slice b2 (0 + v.ns.length) d2]) = _
    rw [Nat.zero_add, Nat.zero_add]; rfl
  · rintro k ⟨h1, h2⟩
    exact (hw1 k h1 h2).elim (fun q => absurd rfl q.1) (fun q => q.1)
  · rintro k ⟨h1, h2⟩
    exact ⟨(hw2 k h1 h2).elim (fun q => absurd rfl q.1) (fun q => q.1), fun q => hd2 k h1 h2 (.inr q)⟩
end Go.Proofs.Ytadgaefmoobcoaa
