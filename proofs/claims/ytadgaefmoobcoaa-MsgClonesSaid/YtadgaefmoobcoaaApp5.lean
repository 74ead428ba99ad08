/- Right operations, said plainly; contract of synodref04.Right. -/
import Derived.Test.YtadgaefmoobcoaaApp
import Derived.Test.YtadgaefmoobcoaaEng28
import Derived.Test.YtadgaefmoobcoaaTab
import Derived.KernelRfl
namespace Go.Proofs.Ytadgaefmoobcoaa
open Go.ChangeShapes Go.WideShapes Go.ChangeAt Go.RowKit Go.Syn Go.Eng
set_option linter.unusedVariables false
set_option linter.unusedSimpArgs false
abbrev tRight4b0 : List LV := [(tLi 0), (tLi 0), (tLi 0), (tLi 0), (tLi 0), (tLi 3), (tLi 7), (tLi 7)]
abbrev tRight4m0 : Mem := ⟨[(30, [(tVi 0), (tVi 1), (tVi 2), (tVi 3), (tVi 4)]), (3, tRight4b0)], ⟨6, 0, 0, 0, 0⟩⟩
abbrev tRight4m1 : Mem := ⟨[(30, [(tVi 0), (tVi 1), (tVi 2), (tVi 3), (tVi 4)]), (3, tRight4b0)], ⟨6, 1, 0, 0, 0⟩⟩
abbrev tRight4m2 : Mem := ⟨[(30, [(tVi 0), (tVi 1), (tVi 2), (tVi 3), (tVi 4)])], ⟨5, 0, 0, 0, 0⟩⟩
set_option maxRecDepth 100000 in
theorem tRight4 : (runF ⟨tt, fns, {}⟩ (Try.f69.body.getD .skip) Try.f69.results.toList (entry Try.f69.ntmps [.agg [.int .i64 (.var 0), .int .i64 (.var 1), .int .i64 (.var 2), .int .i64 (.var 3), .int .i64 (.var 4)]] [] ⟨5, 0, 0, 0, 0⟩)) =
  (.br (.cmp .lss (.var 0) (.lit 1)) (.done (.lf (.bool (.lit .false))) tRight4m2) (.br (.cmp .gtr (.var 0) (.lit 7)) (.done (.lf (.bool (.lit .false))) tRight4m2) (.br (.cmp .lss (.var 1) (.lit 0)) (.done (.lf (.bool (.lit .false))) tRight4m2) (.br (.cmp .gtr (.var 1) (.lit 7)) (.done (.lf (.bool (.lit .false))) tRight4m2) (.br (.cmp .lss (.var 2) (.lit 0)) (.done (.lf (.bool (.lit .false))) tRight4m2) (.need (.inr (.var 0) (.lit 8)) (.ld .true (.pix 1 0 1 (.var 0)) [(tVi 5)] ⟨[(30, [(tVi 0), (tVi 1), (tVi 2), (tVi 3), (tVi 4)]), (3, tRight4b0)], ⟨5, 0, 0, 0, 0⟩⟩ tRight4m0 (.br (.cmp .gtr (.var 2) (.var 5)) (.done (.lf (.bool (.lit .false))) tRight4m0) (.call 70 [(.lf (tVi 3)), (.lf (tVi 4))] tRight4m0 (.lf (.bool (.var 0))) tRight4m1 (.br (.not (.var 0)) (.done (.lf (.bool (.lit .false))) tRight4m1) (.br (.cmp .eql (.var 0) (.lit 2)) (.done (.lf (.bool (.lit .true))) tRight4m1) (.br (.cmp .eql (.var 0) (.lit 3)) (.done (.lf (.bool (.lit .true))) tRight4m1) (.br (.cmp .eql (.var 0) (.lit 4)) (.done (.lf (.bool (.lit .true))) tRight4m1) (.br (.cmp .eql (.var 0) (.lit 7)) (.done (.lf (.bool (.lit .true))) tRight4m1) (.br (.cmp .eql (.var 3) (.lit 0)) (.done (.lf (.bool (.cmp .eql (.var 4) (.lit 0)))) tRight4m1) (.done (.lf (.bool (.lit .false))) tRight4m1)))))))))))))))) := by kernel_rfl
/-- What a kind's To may be at most. -/
def mostV (k : Int) : Int := if k = 5 then 3 else if 6 ≤ k then 7 else 0
theorem opB_iff (o : OpD) : opB o = true ↔ (1 ≤ o.kind ∧ o.kind ≤ 7) ∧ (0 ≤ o.reg ∧ o.reg ≤ 7) ∧ 0 ≤ o.tg ∧ o.tg ≤ mostV o.kind ∧ fitB o.re o.im = true ∧ ((o.kind = 2 ∨ o.kind = 3 ∨ o.kind = 4 ∨ o.kind = 7) ∨ (o.re = 0 ∧ o.im = 0)) := by
  obtain ⟨kind, reg, tg, re, im⟩ := o
  have kinds : kind = 1 ∨ kind = 2 ∨ kind = 3 ∨ kind = 4 ∨ kind = 5 ∨ kind = 6 ∨ kind = 7 ∨ (kind < 1 ∨ 7 < kind) := by omega
  rcases kinds with rfl | rfl | rfl | rfl | rfl | rfl | rfl | hk
  case inr.inr.inr.inr.inr.inr.inr =>
    have : opB ⟨kind, reg, tg, re, im⟩ = false := by
      unfold opB; dsimp only
      rw [if_neg (by omega), if_neg (by omega), if_neg (by omega), if_neg (by omega), if_neg (by omega)]; simp
    rw [this]; dsimp only; constructor
    · intro h; cases h
    · rintro ⟨⟨h1, h2⟩, _⟩; omega
  all_goals
    simp [opB, inB, bareB, fitB, mostV]
    try omega

theorem most_at {k : Nat} (h1 : 1 ≤ k) (h2 : k ≤ 7) : ([0, 0, 0, 0, 0, 3, 7, 7] : List Int)[k]? = some (mostV (k : Int)) := by
  rcases (by omega : k = 1 ∨ k = 2 ∨ k = 3 ∨ k = 4 ∨ k = 5 ∨ k = 6 ∨ k = 7) with rfl | rfl | rfl | rfl | rfl | rfl | rfl <;> decide
theorem refOp_pure (o : OpD) (w : World) : Calls Try.prog 69 #[.agg o.cells.toArray] w (PureAt w (.bool (opB o))) := by
  have E := opB_iff o
  have no : ∀ {R : Bool}, (opB o = true ↔ R = true) → opB o = R := fun h => Bool.eq_iff_iff.2 h
  obtain ⟨kind, reg, tg, re, im⟩ := o
  dsimp only at E
  generalize hR : opB ⟨kind, reg, tg, re, im⟩ = R at *
  refine calls_at (tab_ok _) Try.func69 rfl tRight4 (ρ := ⟨[kind, reg, tg, re, im], [], [], [], []⟩) (ids := []) rfl (Facts.initP rfl oneNil) ?_
  have bad : ∀ {m : Mem} {ρ : Env} {pre : List Nat} {hx : HX} {L : Stack}, ¬ (R = true) → (Tree.done (.lf (.bool (.lit false))) m).holds ⟨Try.prog, w, fun _ => False, PureAt w (.bool R)⟩ ρ pre hx L := fun h => pure_done fun _ => by
    have : R = false := by simpa using h
    rw [this]; rfl
  refine br_i (fun h => bad ?_) (fun h1 => ?_)
  · have := of_decide_eq_true (show decide (kind < 1) = true from h); rw [E]; omega
  have h1 := of_decide_eq_false (show decide (kind < 1) = false from h1)
  refine br_i (fun h => bad ?_) (fun h2 => ?_)
  · have := of_decide_eq_true (show decide (kind > 7) = true from h); rw [E]; omega
  have h2 := of_decide_eq_false (show decide (kind > 7) = false from h2)
  refine br_i (fun h => bad ?_) (fun h3 => ?_)
  · have := of_decide_eq_true (show decide (reg < 0) = true from h); rw [E]; omega
  have h3 := of_decide_eq_false (show decide (reg < 0) = false from h3)
  refine br_i (fun h => bad ?_) (fun h4 => ?_)
  · have := of_decide_eq_true (show decide (reg > 7) = true from h); rw [E]; omega
  have h4 := of_decide_eq_false (show decide (reg > 7) = false from h4)
  refine br_i (fun h => bad ?_) (fun h5 => ?_)
  · have := of_decide_eq_true (show decide (tg < 0) = true from h); rw [E]; omega
  have h5 := of_decide_eq_false (show decide (tg < 0) = false from h5)
  obtain ⟨k, rfl⟩ : ∃ k : Nat, kind = (k : Int) := ⟨kind.toNat, by omega⟩
  refine need_i (show (0 : Int) ≤ k ∧ (k : Int) < 8 by omega) ?_
  refine node_ldp (i := k) (us := ([0, 0, 0, 0, 0, 3, 7, 7] : List Int).map (Value.int .i64)) ⟨[mostV (k : Int)], [], [], [], []⟩ rfl rfl (fun _ => rfl) (fun ids j u hj => ?_) rfl oneNil ?_
  · have hj2 : ([Value.int .i64 (mostV (k : Int))] : List Value)[j]? = some u := hj
    have : j = 0 := by
      rcases j with _ | j
      · rfl
      · simp at hj2
    subst this
    rw [show 0 + k * 1 + 0 = k by omega, List.getElem?_map, most_at (by omega) (by omega)]
    exact hj2
  refine br_i (fun h => bad ?_) (fun h6 => ?_)
  · have := of_decide_eq_true (show decide (tg > mostV (k : Int)) = true from h); rw [E]; omega
  have h6 := of_decide_eq_false (show decide (tg > mostV (k : Int)) = false from h6)
  refine node_val ⟨[], [fitB re im], [], [], []⟩ (fun w => pure_same (ref03_any re im w)) (fun _ => rfl) (fun _ => rfl) rfl rfl rfl oneNil ?_
  refine br_i (fun h => bad ?_) (fun h7 => ?_)
  · have : fitB re im = false := by simpa using (show (!fitB re im) = true from h)
    rw [E, this]; simp
  have h7 : fitB re im = true := by simpa using (show (!fitB re im) = false from h7)
  have good : ∀ {m : Mem} {ρ : Env} {pre : List Nat} {hx : HX} {L : Stack}, ((k : Int) = 2 ∨ (k : Int) = 3 ∨ (k : Int) = 4 ∨ (k : Int) = 7) → (Tree.done (.lf (.bool (.lit true))) m).holds ⟨Try.prog, w, fun _ => False, PureAt w (.bool R)⟩ ρ pre hx L := fun h => pure_done fun _ => by
    have : R = true := E.2 ⟨by omega, by omega, by omega, by omega, h7, .inl h⟩
    rw [this]; rfl
  refine br_i (fun h => good (.inl (by simpa using (show ((k : Int) == 2) = true from h)))) (fun g1 => ?_)
  refine br_i (fun h => good (.inr (.inl (by simpa using (show ((k : Int) == 3) = true from h))))) (fun g2 => ?_)
  refine br_i (fun h => good (.inr (.inr (.inl (by simpa using (show ((k : Int) == 4) = true from h)))))) (fun g3 => ?_)
  refine br_i (fun h => good (.inr (.inr (.inr (by simpa using (show ((k : Int) == 7) = true from h)))))) (fun g4 => ?_)
  have g1 : ¬ (k : Int) = 2 := by simpa using (show ((k : Int) == 2) = false from g1)
  have g2 : ¬ (k : Int) = 3 := by simpa using (show ((k : Int) == 3) = false from g2)
  have g3 : ¬ (k : Int) = 4 := by simpa using (show ((k : Int) == 4) = false from g3)
  have g4 : ¬ (k : Int) = 7 := by simpa using (show ((k : Int) == 7) = false from g4)
  refine br_i (fun h => ?_) (fun h => bad ?_)
  · have h : re = 0 := by simpa using (show (re == 0) = true from h)
    refine pure_done fun _ => ?_
    have : R = (im == 0) := by
      rw [Bool.eq_iff_iff, E, beq_iff_eq]
      constructor
      · rintro ⟨_, _, _, _, _, h8⟩; omega
      · intro h8; exact ⟨by omega, by omega, by omega, by omega, h7, .inr ⟨h, h8⟩⟩
    rw [this]; rfl
  · have h : ¬ re = 0 := by simpa using (show (re == 0) = false from h)
    rw [E]; omega
end Go.Proofs.Ytadgaefmoobcoaa
