/- Part 20 of the texts of a proof about the given program: what the statement's proof needs of them. -/
import Derived.Test.YtbedoemdjlollaaKJudgeChecks19
namespace Go.Proofs.Ytbedoemdjlollaa
open Go.ChangeShapes Go.WideShapes Go.ChangeAt Go.RowKit Go.Syn Go.Eng
set_option linter.unusedVariables false
set_option linter.unusedSimpArgs false
set_option maxRecDepth 100000
theorem valid_any (xs : List Int) (hx : xs.length = 16) (w : World) : Calls Try.prog 45 #[.agg (xs.map (Value.int .i64)).toArray] w (PureAt w (.bool (validL xs))) := by
  obtain ⟨a0, a1, a2, a3, a4, a5, a6, a7, a8, a9, a10, a11, a12, a13, a14, a15, rfl⟩ := list16 xs hx
  refine calls_at (tab_ok _) Try.func45 rfl tValid (ρ := ⟨[a0, a1, a2, a3, a4, a5, a6, a7, a8, a9, a10, a11, a12, a13, a14, a15], [], [], [], []⟩) (ids := []) rfl (Facts.initP rfl oneNil) ?_
  rw [show validL [a0, a1, a2, a3, a4, a5, a6, a7, a8, a9, a10, a11, a12, a13, a14, a15] = (fitB a0 a1 && (fitB a2 a3 && (fitB a4 a5 && (fitB a6 a7 && (fitB a8 a9 && (fitB a10 a11 && (fitB a12 a13 && (fitB a14 a15 && true)))))))) from rfl]
  refine node_val ⟨[], [fitB a0 a1], [numV a0 a1], [], []⟩ (fun w => pure_of (of_any a0 a1 w)) (by intros; kernel_rfl) (by intros; kernel_rfl) rfl rfl rfl (one1 (numV_one a0 a1)) ?_
  cases h0 : fitB a0 a1 with
  | false => exact br_t rfl (pure_done fun _ => rfl)
  | true =>
    refine br_f rfl ?_
    refine node_val ⟨[], [fitB a2 a3], [numV a2 a3], [], []⟩ (fun w => pure_of (of_any a2 a3 w)) (by intros; kernel_rfl) (by intros; kernel_rfl) rfl rfl rfl (one1 (numV_one a2 a3)) ?_
    cases h1 : fitB a2 a3 with
    | false => exact br_t rfl (pure_done fun _ => rfl)
    | true =>
      refine br_f rfl ?_
      refine node_val ⟨[], [fitB a4 a5], [numV a4 a5], [], []⟩ (fun w => pure_of (of_any a4 a5 w)) (by intros; kernel_rfl) (by intros; kernel_rfl) rfl rfl rfl (one1 (numV_one a4 a5)) ?_
      cases h2 : fitB a4 a5 with
      | false => exact br_t rfl (pure_done fun _ => rfl)
      | true =>
        refine br_f rfl ?_
        refine node_val ⟨[], [fitB a6 a7], [numV a6 a7], [], []⟩ (fun w => pure_of (of_any a6 a7 w)) (by intros; kernel_rfl) (by intros; kernel_rfl) rfl rfl rfl (one1 (numV_one a6 a7)) ?_
        cases h3 : fitB a6 a7 with
        | false => exact br_t rfl (pure_done fun _ => rfl)
        | true =>
          refine br_f rfl ?_
          refine node_val ⟨[], [fitB a8 a9], [numV a8 a9], [], []⟩ (fun w => pure_of (of_any a8 a9 w)) (by intros; kernel_rfl) (by intros; kernel_rfl) rfl rfl rfl (one1 (numV_one a8 a9)) ?_
          cases h4 : fitB a8 a9 with
          | false => exact br_t rfl (pure_done fun _ => rfl)
          | true =>
            refine br_f rfl ?_
            refine node_val ⟨[], [fitB a10 a11], [numV a10 a11], [], []⟩ (fun w => pure_of (of_any a10 a11 w)) (by intros; kernel_rfl) (by intros; kernel_rfl) rfl rfl rfl (one1 (numV_one a10 a11)) ?_
            cases h5 : fitB a10 a11 with
            | false => exact br_t rfl (pure_done fun _ => rfl)
            | true =>
              refine br_f rfl ?_
              refine node_val ⟨[], [fitB a12 a13], [numV a12 a13], [], []⟩ (fun w => pure_of (of_any a12 a13 w)) (by intros; kernel_rfl) (by intros; kernel_rfl) rfl rfl rfl (one1 (numV_one a12 a13)) ?_
              cases h6 : fitB a12 a13 with
              | false => exact br_t rfl (pure_done fun _ => rfl)
              | true =>
                refine br_f rfl ?_
                refine node_val ⟨[], [fitB a14 a15], [numV a14 a15], [], []⟩ (fun w => pure_of (of_any a14 a15 w)) (by intros; kernel_rfl) (by intros; kernel_rfl) rfl rfl rfl (one1 (numV_one a14 a15)) ?_
                cases h7 : fitB a14 a15 with
                | false => exact br_t rfl (pure_done fun _ => rfl)
                | true =>
                  refine br_f rfl ?_
                  exact pure_done fun _ => rfl
theorem refValid_any (xs : List Int) (hx : xs.length = 16) (w : World) : Calls Try.prog 61 #[.agg (xs.map (Value.int .i64)).toArray] w (PureAt w (.bool (validL xs))) := by
  obtain ⟨a0, a1, a2, a3, a4, a5, a6, a7, a8, a9, a10, a11, a12, a13, a14, a15, rfl⟩ := list16 xs hx
  refine calls_at (tab_ok _) Try.func61 rfl tRefValid (ρ := ⟨[a0, a1, a2, a3, a4, a5, a6, a7, a8, a9, a10, a11, a12, a13, a14, a15], [], [], [], []⟩) (ids := []) rfl (Facts.initP rfl oneNil) ?_
  rw [show validL [a0, a1, a2, a3, a4, a5, a6, a7, a8, a9, a10, a11, a12, a13, a14, a15] = (fitB a0 a1 && (fitB a2 a3 && (fitB a4 a5 && (fitB a6 a7 && (fitB a8 a9 && (fitB a10 a11 && (fitB a12 a13 && (fitB a14 a15 && true)))))))) from rfl]
  refine node_val ⟨[], [fitB a0 a1], [], [], []⟩ (fun w => pure_of (ref03_any a0 a1 w)) (by intros; kernel_rfl) (by intros; kernel_rfl) rfl rfl rfl oneNil ?_
  cases h0 : fitB a0 a1 with
  | false => exact br_t rfl (pure_done fun _ => rfl)
  | true =>
    refine br_f rfl ?_
    refine node_val ⟨[], [fitB a2 a3], [], [], []⟩ (fun w => pure_of (ref03_any a2 a3 w)) (by intros; kernel_rfl) (by intros; kernel_rfl) rfl rfl rfl oneNil ?_
    cases h1 : fitB a2 a3 with
    | false => exact br_t rfl (pure_done fun _ => rfl)
    | true =>
      refine br_f rfl ?_
      refine node_val ⟨[], [fitB a4 a5], [], [], []⟩ (fun w => pure_of (ref03_any a4 a5 w)) (by intros; kernel_rfl) (by intros; kernel_rfl) rfl rfl rfl oneNil ?_
      cases h2 : fitB a4 a5 with
      | false => exact br_t rfl (pure_done fun _ => rfl)
      | true =>
        refine br_f rfl ?_
        refine node_val ⟨[], [fitB a6 a7], [], [], []⟩ (fun w => pure_of (ref03_any a6 a7 w)) (by intros; kernel_rfl) (by intros; kernel_rfl) rfl rfl rfl oneNil ?_
        cases h3 : fitB a6 a7 with
        | false => exact br_t rfl (pure_done fun _ => rfl)
        | true =>
          refine br_f rfl ?_
          refine node_val ⟨[], [fitB a8 a9], [], [], []⟩ (fun w => pure_of (ref03_any a8 a9 w)) (by intros; kernel_rfl) (by intros; kernel_rfl) rfl rfl rfl oneNil ?_
          cases h4 : fitB a8 a9 with
          | false => exact br_t rfl (pure_done fun _ => rfl)
          | true =>
            refine br_f rfl ?_
            refine node_val ⟨[], [fitB a10 a11], [], [], []⟩ (fun w => pure_of (ref03_any a10 a11 w)) (by intros; kernel_rfl) (by intros; kernel_rfl) rfl rfl rfl oneNil ?_
            cases h5 : fitB a10 a11 with
            | false => exact br_t rfl (pure_done fun _ => rfl)
            | true =>
              refine br_f rfl ?_
              refine node_val ⟨[], [fitB a12 a13], [], [], []⟩ (fun w => pure_of (ref03_any a12 a13 w)) (by intros; kernel_rfl) (by intros; kernel_rfl) rfl rfl rfl oneNil ?_
              cases h6 : fitB a12 a13 with
              | false => exact br_t rfl (pure_done fun _ => rfl)
              | true =>
                refine br_f rfl ?_
                refine node_val ⟨[], [fitB a14 a15], [], [], []⟩ (fun w => pure_of (ref03_any a14 a15 w)) (by intros; kernel_rfl) (by intros; kernel_rfl) rfl rfl rfl oneNil ?_
                cases h7 : fitB a14 a15 with
                | false => exact br_t rfl (pure_done fun _ => rfl)
                | true =>
                  refine br_f rfl ?_
                  exact pure_done fun _ => rfl
theorem applyM_bad {xs : List Int} {o : OpD} (h : (validL xs && opB o) = false) : applyM xs o = (xs, 0, 0, 0) := by unfold applyM; rw [h]; rfl
theorem applyM_miss {xs : List Int} {o : OpD} (h : validL xs = true) (h2 : opB o = true) (h3 : o.kind = 7) (h4 : ¬ regOf xs o.reg.toNat = (o.re, o.im)) : applyM xs o = (xs, 3, (regOf xs o.reg.toNat).1, (regOf xs o.reg.toNat).2) := by
  unfold applyM; rw [h, h2]; simp only [Bool.and_self, if_true]; rw [if_pos ⟨h3, h4⟩]
theorem applyM_over {xs : List Int} {o : OpD} (h : validL xs = true) (h2 : opB o = true) (h3 : o.kind ≠ 7) (h4 : fitB (newReg xs o).1 (newReg xs o).2 = false) : applyM xs o = (xs, 2, 0, 0) := by
  unfold applyM; rw [h, h2]; simp only [Bool.and_self, if_true]; rw [if_neg (fun q => h3 q.1), h4]; rfl
theorem applyM_val {xs : List Int} {o : OpD} (h : validL xs = true) (h2 : opB o = true) (h3 : o.kind = 7 → regOf xs o.reg.toNat = (o.re, o.im)) {q : Int × Int} (hq : newReg xs o = q) (h4 : fitB q.1 q.2 = true) : applyM xs o = (put2 (if o.kind = 6 then put2 xs o.tg.toNat (regOf xs o.reg.toNat) else xs) o.reg.toNat q, 1, q.1, q.2) := by
  unfold applyM; rw [h, h2, hq]; simp only [Bool.and_self, if_true]; rw [if_neg (fun q => q.2 (h3 q.1)), if_pos h4]
theorem parts_num {q : Int × Int} (h : fitB q.1 q.2 = true) (w : World) : Calls Try.prog 51 #[numV q.1 q.2] w (PureAt w (.tuple #[.int .i64 q.1, .int .i64 q.2, .bool true])) := by
  obtain ⟨ha, hb⟩ := fit_abs h
  have := parts_any (isI_of ha) (isI_of hb) (by omega) (by omega) w
  unfold partsV at this
  rw [h] at this
  rw [numV_eq h]
  exact this
theorem swap_eq {xs : List Int} {i j : Nat} (hi : 2 * i + 1 < xs.length) (hj : 2 * j + 1 < xs.length) : regOf (put2 (put2 xs i (regOf xs j)) j (regOf xs i)) i = regOf xs j ∧ put2 (put2 (put2 xs i (regOf xs j)) j (regOf xs i)) i (regOf xs j) = put2 (put2 xs j (regOf xs i)) i (regOf xs j) := by
  by_cases e : i = j
  · subst e
    rw [put2_put2, regOf_put2 hi, put2_put2]
    exact ⟨rfl, rfl⟩
  · have e2 : put2 (put2 xs i (regOf xs j)) j (regOf xs i) = put2 (put2 xs j (regOf xs i)) i (regOf xs j) := put2_comm xs e _ _
    rw [e2, regOf_put2 (by rw [put2_len]; exact hi)]
    exact ⟨rfl, put2_put2 _ _ _ _⟩

set_option maxHeartbeats 4000000 in
theorem apply_any (xs : List Int) (hx : xs.length = 16) (o : OpD) (w : World) : Calls Try.prog 31 #[.agg (xs.map (Value.int .i64)).toArray, .agg o.cells.toArray] w (PureAt w (resV (applyM xs o))) := by
  obtain ⟨a0, a1, a2, a3, a4, a5, a6, a7, a8, a9, a10, a11, a12, a13, a14, a15, rfl⟩ := list16 xs hx
  obtain ⟨kind, reg, tg, re, im⟩ := o
  refine calls_at (tab_ok _) Try.func31 rfl tApply (ρ := ⟨[a0, a1, a2, a3, a4, a5, a6, a7, a8, a9, a10, a11, a12, a13, a14, a15, kind, reg, tg, re, im], [], [], [], []⟩) (ids := []) rfl (Facts.initP rfl oneNil) ?_
  refine node_val ⟨[], [validL [a0, a1, a2, a3, a4, a5, a6, a7, a8, a9, a10, a11, a12, a13, a14, a15]], [], [], []⟩ (fun w => valid_any [a0, a1, a2, a3, a4, a5, a6, a7, a8, a9, a10, a11, a12, a13, a14, a15] rfl w) (by intros; kernel_rfl) (by intros; kernel_rfl) rfl rfl rfl oneNil ?_
  cases hv : validL [a0, a1, a2, a3, a4, a5, a6, a7, a8, a9, a10, a11, a12, a13, a14, a15] with
  | false =>
    rw [applyM_bad (by rw [hv]; rfl)]
    exact br_t rfl (pure_done fun _ => rfl)
  | true =>
  refine br_f rfl ?_
  refine node_val ⟨[if opB ⟨kind, reg, tg, re, im⟩ then 0 else 22], [], [], [], []⟩ (fun w => opCheck_any ⟨kind, reg, tg, re, im⟩ w) (by intros; kernel_rfl) (by intros; kernel_rfl) rfl rfl rfl oneNil ?_
  cases ho : opB ⟨kind, reg, tg, re, im⟩ with
  | false =>
    rw [applyM_bad (by rw [hv, ho]; rfl)]
    exact br_t rfl (pure_done fun _ => rfl)
  | true =>
  refine br_f rfl ?_
  obtain ⟨k12, r12, t1, t2, hf, h6⟩ := (opB_iff _).1 ho
  dsimp only at k12 r12 t1 t2 hf h6
  have tle : tg ≤ 7 := by
    unfold mostV at t2
    split at t2
    · omega
    · split at t2 <;> omega
  obtain ⟨i, rfl⟩ : ∃ i : Nat, reg = (i : Int) := ⟨reg.toNat, by omega⟩
  obtain ⟨j, rfl⟩ : ∃ j : Nat, tg = (j : Int) := ⟨tg.toNat, by omega⟩
  have hi : i < 8 := by omega
  have hj : j < 8 := by omega
  have hI : (0 : Int) ≤ i ∧ (i : Int) < 8 := by omega
  have hJ : (0 : Int) ≤ j ∧ (j : Int) < 8 := by omega
  have hli : 2 * i + 1 < ([a0, a1, a2, a3, a4, a5, a6, a7, a8, a9, a10, a11, a12, a13, a14, a15] : List Int).length := by simp only [List.length_cons, List.length_nil]; omega
  have hlj : 2 * j + 1 < ([a0, a1, a2, a3, a4, a5, a6, a7, a8, a9, a10, a11, a12, a13, a14, a15] : List Int).length := by simp only [List.length_cons, List.length_nil]; omega
  have hp := valid_reg hv i hli
  have hqj := valid_reg hv j hlj
  have hV := fun q h3 hq h4 => applyM_val (o := ⟨kind, (i : Int), (j : Int), re, im⟩) hv ho (q := q) h3 hq h4
  have hO := applyM_over (o := ⟨kind, (i : Int), (j : Int), re, im⟩) hv ho
  have hS := applyM_miss (o := ⟨kind, (i : Int), (j : Int), re, im⟩) hv ho
  dsimp only [Int.toNat_natCast] at hV hO hS
  generalize hP : regOf [a0, a1, a2, a3, a4, a5, a6, a7, a8, a9, a10, a11, a12, a13, a14, a15] i = p at *
  refine need_i hI ?_
  refine node_reg2 [a0, a1, a2, a3, a4, a5, a6, a7, a8, a9, a10, a11, a12, a13, a14, a15] i ⟨[p.1, p.2], [], [], [], []⟩ hli rfl (by intros; kernel_rfl) (by intros; kernel_rfl) (by rw [hP]; intros; kernel_rfl) rfl oneNil ?_
  refine node_val ⟨[], [], [numV p.1 p.2], [], []⟩ (fun w => number_any p.1 p.2 w) (by intros; kernel_rfl) (by intros; kernel_rfl) rfl rfl rfl (one1 (numV_one _ _)) ?_
  refine node_val ⟨[], [], [numV re im], [], []⟩ (fun w => number_any re im w) (by intros; kernel_rfl) (by intros; kernel_rfl) rfl rfl rfl (one1 (numV_one _ _)) ?_
  by_cases k2 : kind = 2
  · subst k2
    refine br_t rfl ?_
    refine node_val ⟨[(re, im).1, (re, im).2], [true], [], [], []⟩ (fun w => parts_num (q := (re, im)) hf w) (by intros; kernel_rfl) (by intros; kernel_rfl) rfl rfl rfl oneNil ?_
    refine need_i hI ?_
    obtain ⟨t0, t1, t2, t3, t4, t5, t6, t7, t8, t9, t10, t11, t12, t13, t14, t15, ht0⟩ := list16 (put2 [a0, a1, a2, a3, a4, a5, a6, a7, a8, a9, a10, a11, a12, a13, a14, a15] i (re, im)) (by rw [put2_len]; rfl)
    refine node_put (n := 0) [a0, a1, a2, a3, a4, a5, a6, a7, a8, a9, a10, a11, a12, a13, a14, a15] [t0, t1, t2, t3, t4, t5, t6, t7, t8, t9, t10, t11, t12, t13, t14, t15] i (re, im) ⟨[t0, t1, t2, t3, t4, t5, t6, t7, t8, t9, t10, t11, t12, t13, t14, t15], [], [], [], []⟩ ht0 hli rfl (by intros; kernel_rfl) (by kernel_rfl) (by intros; kernel_rfl) (by intros; kernel_rfl) rfl (by intros; kernel_rfl) rfl rfl oneNil ?_
    have hm := hV (re, im) (fun q => absurd q (by decide)) (by simp [newReg]) hf
    rw [if_neg (by decide), ht0] at hm
    rw [hm]
    exact pure_done (by intros; kernel_rfl)
  refine br_f (show (kind == 2) = false by simpa using k2) ?_
  by_cases k3 : kind = 3
  · subst k3
    refine br_t rfl ?_
    generalize hQ : ((p.1 + re, p.2 + im) : Int × Int) = q
    refine node_val (V := .tuple #[numV q.1 q.2, .bool (fitB q.1 q.2)]) ⟨[], [fitB q.1 q.2], [numV q.1 q.2], [], []⟩ (fun w => by rw [← hQ]; exact add_any hp hf w) (by intros; kernel_rfl) (by intros; kernel_rfl) rfl rfl rfl (one1 (numV_one _ _)) ?_
    cases hfq : fitB q.1 q.2 with
    | false =>
      have hn : newReg [a0, a1, a2, a3, a4, a5, a6, a7, a8, a9, a10, a11, a12, a13, a14, a15] ⟨3, (i : Int), (j : Int), re, im⟩ = q := by rw [← hQ]; simp [newReg, hP]
      rw [hO (by decide) (by rw [hn]; exact hfq)]
      exact br_t rfl (pure_done (by intros; kernel_rfl))
    | true =>
      refine br_f rfl ?_
      refine node_val ⟨[q.1, q.2], [true], [], [], []⟩ (fun w => parts_num (q := q) hfq w) (by intros; kernel_rfl) (by intros; kernel_rfl) rfl rfl rfl oneNil ?_
      refine need_i hI ?_
      obtain ⟨t0, t1, t2, t3, t4, t5, t6, t7, t8, t9, t10, t11, t12, t13, t14, t15, ht0⟩ := list16 (put2 [a0, a1, a2, a3, a4, a5, a6, a7, a8, a9, a10, a11, a12, a13, a14, a15] i q) (by rw [put2_len]; rfl)
      refine node_put (n := 0) [a0, a1, a2, a3, a4, a5, a6, a7, a8, a9, a10, a11, a12, a13, a14, a15] [t0, t1, t2, t3, t4, t5, t6, t7, t8, t9, t10, t11, t12, t13, t14, t15] i q ⟨[t0, t1, t2, t3, t4, t5, t6, t7, t8, t9, t10, t11, t12, t13, t14, t15], [], [], [], []⟩ ht0 hli rfl (by intros; kernel_rfl) (by kernel_rfl) (by intros; kernel_rfl) (by intros; kernel_rfl) rfl (by intros; kernel_rfl) rfl rfl oneNil ?_
      have hm := hV q (fun q => absurd q (by decide)) (by rw [← hQ]; simp [newReg, hP]) hfq
      rw [if_neg (by decide), ht0] at hm
      rw [hm]
      exact pure_done (by intros; kernel_rfl)
  refine br_f (show (kind == 3) = false by simpa using k3) ?_
  by_cases k4 : kind = 4
  · subst k4
    refine br_t rfl ?_
    generalize hQ : ((p.1 * re - p.2 * im, p.1 * im + p.2 * re) : Int × Int) = q
    refine node_val (V := .tuple #[numV q.1 q.2, .bool (fitB q.1 q.2)]) ⟨[], [fitB q.1 q.2], [numV q.1 q.2], [], []⟩ (fun w => by rw [← hQ]; exact mul_any hp hf w) (by intros; kernel_rfl) (by intros; kernel_rfl) rfl rfl rfl (one1 (numV_one _ _)) ?_
    cases hfq : fitB q.1 q.2 with
    | false =>
      have hn : newReg [a0, a1, a2, a3, a4, a5, a6, a7, a8, a9, a10, a11, a12, a13, a14, a15] ⟨4, (i : Int), (j : Int), re, im⟩ = q := by rw [← hQ]; simp [newReg, hP]
      rw [hO (by decide) (by rw [hn]; exact hfq)]
      exact br_t rfl (pure_done (by intros; kernel_rfl))
    | true =>
      refine br_f rfl ?_
      refine node_val ⟨[q.1, q.2], [true], [], [], []⟩ (fun w => parts_num (q := q) hfq w) (by intros; kernel_rfl) (by intros; kernel_rfl) rfl rfl rfl oneNil ?_
      refine need_i hI ?_
      obtain ⟨t0, t1, t2, t3, t4, t5, t6, t7, t8, t9, t10, t11, t12, t13, t14, t15, ht0⟩ := list16 (put2 [a0, a1, a2, a3, a4, a5, a6, a7, a8, a9, a10, a11, a12, a13, a14, a15] i q) (by rw [put2_len]; rfl)
      refine node_put (n := 0) [a0, a1, a2, a3, a4, a5, a6, a7, a8, a9, a10, a11, a12, a13, a14, a15] [t0, t1, t2, t3, t4, t5, t6, t7, t8, t9, t10, t11, t12, t13, t14, t15] i q ⟨[t0, t1, t2, t3, t4, t5, t6, t7, t8, t9, t10, t11, t12, t13, t14, t15], [], [], [], []⟩ ht0 hli rfl (by intros; kernel_rfl) (by kernel_rfl) (by intros; kernel_rfl) (by intros; kernel_rfl) rfl (by intros; kernel_rfl) rfl rfl oneNil ?_
      have hm := hV q (fun q => absurd q (by decide)) (by rw [← hQ]; simp [newReg, hP]) hfq
      rw [if_neg (by decide), ht0] at hm
      rw [hm]
      exact pure_done (by intros; kernel_rfl)
  refine br_f (show (kind == 4) = false by simpa using k4) ?_
  by_cases k5 : kind = 5
  · subst k5
    refine br_t rfl ?_
    generalize hQ : (turnN j p : Int × Int) = q
    refine node_val (V := .tuple #[numV q.1 q.2, .bool (fitB q.1 q.2)]) ⟨[], [fitB q.1 q.2], [numV q.1 q.2], [], []⟩ (fun w => by rw [← hQ]; exact turn_any hp j (by rw [show mostV 5 = 3 from rfl] at t2; omega) w) (by intros; kernel_rfl) (by intros; kernel_rfl) rfl rfl rfl (one1 (numV_one _ _)) ?_
    cases hfq : fitB q.1 q.2 with
    | false =>
      have hn : newReg [a0, a1, a2, a3, a4, a5, a6, a7, a8, a9, a10, a11, a12, a13, a14, a15] ⟨5, (i : Int), (j : Int), re, im⟩ = q := by rw [← hQ]; simp [newReg, hP]
      rw [hO (by decide) (by rw [hn]; exact hfq)]
      exact br_t rfl (pure_done (by intros; kernel_rfl))
    | true =>
      refine br_f rfl ?_
      refine node_val ⟨[q.1, q.2], [true], [], [], []⟩ (fun w => parts_num (q := q) hfq w) (by intros; kernel_rfl) (by intros; kernel_rfl) rfl rfl rfl oneNil ?_
      refine need_i hI ?_
      obtain ⟨t0, t1, t2, t3, t4, t5, t6, t7, t8, t9, t10, t11, t12, t13, t14, t15, ht0⟩ := list16 (put2 [a0, a1, a2, a3, a4, a5, a6, a7, a8, a9, a10, a11, a12, a13, a14, a15] i q) (by rw [put2_len]; rfl)
      refine node_put (n := 0) [a0, a1, a2, a3, a4, a5, a6, a7, a8, a9, a10, a11, a12, a13, a14, a15] [t0, t1, t2, t3, t4, t5, t6, t7, t8, t9, t10, t11, t12, t13, t14, t15] i q ⟨[t0, t1, t2, t3, t4, t5, t6, t7, t8, t9, t10, t11, t12, t13, t14, t15], [], [], [], []⟩ ht0 hli rfl (by intros; kernel_rfl) (by kernel_rfl) (by intros; kernel_rfl) (by intros; kernel_rfl) rfl (by intros; kernel_rfl) rfl rfl oneNil ?_
      have hm := hV q (fun q => absurd q (by decide)) (by rw [← hQ]; simp [newReg, hP]) hfq
      rw [if_neg (by decide), ht0] at hm
      rw [hm]
      exact pure_done (by intros; kernel_rfl)
  refine br_f (show (kind == 5) = false by simpa using k5) ?_
  by_cases k6 : kind = 6
  · subst k6
    refine br_t rfl ?_
    generalize hQ : regOf [a0, a1, a2, a3, a4, a5, a6, a7, a8, a9, a10, a11, a12, a13, a14, a15] j = q at *
    obtain ⟨hs1, hs2⟩ := swap_eq hli hlj
    rw [hP, hQ] at hs1 hs2
    refine need_i hJ ?_
    refine need_i hI ?_
    refine par_i ?_ ?_
    · refine node_reg2 [a0, a1, a2, a3, a4, a5, a6, a7, a8, a9, a10, a11, a12, a13, a14, a15] j ⟨[q.1, q.2], [], [], [], []⟩ hlj rfl (by intros; kernel_rfl) (by intros; kernel_rfl) (by rw [hQ]; intros; kernel_rfl) rfl oneNil ?_
      refine node_reg2 [a0, a1, a2, a3, a4, a5, a6, a7, a8, a9, a10, a11, a12, a13, a14, a15] i ⟨[p.1, p.2], [], [], [], []⟩ hli rfl (by intros; kernel_rfl) (by intros; kernel_rfl) (by rw [hP]; intros; kernel_rfl) rfl oneNil ?_
      refine need_i hI ?_
      obtain ⟨u0, u1, u2, u3, u4, u5, u6, u7, u8, u9, u10, u11, u12, u13, u14, u15, hu0⟩ := list16 (put2 [a0, a1, a2, a3, a4, a5, a6, a7, a8, a9, a10, a11, a12, a13, a14, a15] i q) (by rw [put2_len]; rfl)
      refine node_put (n := 0) [a0, a1, a2, a3, a4, a5, a6, a7, a8, a9, a10, a11, a12, a13, a14, a15] [u0, u1, u2, u3, u4, u5, u6, u7, u8, u9, u10, u11, u12, u13, u14, u15] i q ⟨[u0, u1, u2, u3, u4, u5, u6, u7, u8, u9, u10, u11, u12, u13, u14, u15], [], [], [], []⟩ hu0 hli rfl (by intros; kernel_rfl) (by kernel_rfl) (by intros; kernel_rfl) (by intros; kernel_rfl) rfl (by intros; kernel_rfl) rfl rfl oneNil ?_
      refine need_i hJ ?_
      obtain ⟨s0, s1, s2, s3, s4, s5, s6, s7, s8, s9, s10, s11, s12, s13, s14, s15, hs0⟩ := list16 (put2 [u0, u1, u2, u3, u4, u5, u6, u7, u8, u9, u10, u11, u12, u13, u14, u15] j p) (by rw [put2_len]; rfl)
      refine node_put (n := 0) [u0, u1, u2, u3, u4, u5, u6, u7, u8, u9, u10, u11, u12, u13, u14, u15] [s0, s1, s2, s3, s4, s5, s6, s7, s8, s9, s10, s11, s12, s13, s14, s15] j p ⟨[s0, s1, s2, s3, s4, s5, s6, s7, s8, s9, s10, s11, s12, s13, s14, s15], [], [], [], []⟩ hs0 hlj rfl (by intros; kernel_rfl) (by kernel_rfl) (by intros; kernel_rfl) (by intros; kernel_rfl) rfl (by intros; kernel_rfl) rfl rfl oneNil ?_
      rw [← hu0] at hs0
      rw [hs0] at hs1 hs2
      refine need_i hI ?_
      refine node_reg2 [s0, s1, s2, s3, s4, s5, s6, s7, s8, s9, s10, s11, s12, s13, s14, s15] i ⟨[q.1, q.2], [], [], [], []⟩ hli rfl (by intros; kernel_rfl) (by intros; kernel_rfl) (by rw [hs1]; intros; kernel_rfl) rfl oneNil ?_
      refine node_val ⟨[], [], [numV q.1 q.2], [], []⟩ (fun w => number_any q.1 q.2 w) (by intros; kernel_rfl) (by intros; kernel_rfl) rfl rfl rfl (one1 (numV_one _ _)) ?_
      refine node_val ⟨[q.1, q.2], [true], [], [], []⟩ (fun w => parts_num (q := q) hqj w) (by intros; kernel_rfl) (by intros; kernel_rfl) rfl rfl rfl oneNil ?_
      refine need_i hI ?_
      obtain ⟨t0, t1, t2, t3, t4, t5, t6, t7, t8, t9, t10, t11, t12, t13, t14, t15, ht0⟩ := list16 (put2 [s0, s1, s2, s3, s4, s5, s6, s7, s8, s9, s10, s11, s12, s13, s14, s15] i q) (by rw [put2_len]; rfl)
      refine node_put (n := 0) [s0, s1, s2, s3, s4, s5, s6, s7, s8, s9, s10, s11, s12, s13, s14, s15] [t0, t1, t2, t3, t4, t5, t6, t7, t8, t9, t10, t11, t12, t13, t14, t15] i q ⟨[t0, t1, t2, t3, t4, t5, t6, t7, t8, t9, t10, t11, t12, t13, t14, t15], [], [], [], []⟩ ht0 hli rfl (by intros; kernel_rfl) (by kernel_rfl) (by intros; kernel_rfl) (by intros; kernel_rfl) rfl (by intros; kernel_rfl) rfl rfl oneNil ?_
      have hm := hV q (fun q => absurd q (by decide)) (by simp [newReg, hQ]) hqj
      rw [if_pos rfl, ← hs2, ht0] at hm
      rw [hm]
      exact pure_done (by intros; kernel_rfl)
    · refine node_reg2 [a0, a1, a2, a3, a4, a5, a6, a7, a8, a9, a10, a11, a12, a13, a14, a15] i ⟨[p.1, p.2], [], [], [], []⟩ hli rfl (by intros; kernel_rfl) (by intros; kernel_rfl) (by rw [hP]; intros; kernel_rfl) rfl oneNil ?_
      refine node_reg2 [a0, a1, a2, a3, a4, a5, a6, a7, a8, a9, a10, a11, a12, a13, a14, a15] j ⟨[q.1, q.2], [], [], [], []⟩ hlj rfl (by intros; kernel_rfl) (by intros; kernel_rfl) (by rw [hQ]; intros; kernel_rfl) rfl oneNil ?_
      refine need_i hI ?_
      obtain ⟨u0, u1, u2, u3, u4, u5, u6, u7, u8, u9, u10, u11, u12, u13, u14, u15, hu0⟩ := list16 (put2 [a0, a1, a2, a3, a4, a5, a6, a7, a8, a9, a10, a11, a12, a13, a14, a15] i q) (by rw [put2_len]; rfl)
      refine node_put (n := 0) [a0, a1, a2, a3, a4, a5, a6, a7, a8, a9, a10, a11, a12, a13, a14, a15] [u0, u1, u2, u3, u4, u5, u6, u7, u8, u9, u10, u11, u12, u13, u14, u15] i q ⟨[u0, u1, u2, u3, u4, u5, u6, u7, u8, u9, u10, u11, u12, u13, u14, u15], [], [], [], []⟩ hu0 hli rfl (by intros; kernel_rfl) (by kernel_rfl) (by intros; kernel_rfl) (by intros; kernel_rfl) rfl (by intros; kernel_rfl) rfl rfl oneNil ?_
      refine need_i hJ ?_
      obtain ⟨s0, s1, s2, s3, s4, s5, s6, s7, s8, s9, s10, s11, s12, s13, s14, s15, hs0⟩ := list16 (put2 [u0, u1, u2, u3, u4, u5, u6, u7, u8, u9, u10, u11, u12, u13, u14, u15] j p) (by rw [put2_len]; rfl)
      refine node_put (n := 0) [u0, u1, u2, u3, u4, u5, u6, u7, u8, u9, u10, u11, u12, u13, u14, u15] [s0, s1, s2, s3, s4, s5, s6, s7, s8, s9, s10, s11, s12, s13, s14, s15] j p ⟨[s0, s1, s2, s3, s4, s5, s6, s7, s8, s9, s10, s11, s12, s13, s14, s15], [], [], [], []⟩ hs0 hlj rfl (by intros; kernel_rfl) (by kernel_rfl) (by intros; kernel_rfl) (by intros; kernel_rfl) rfl (by intros; kernel_rfl) rfl rfl oneNil ?_
      rw [← hu0] at hs0
      rw [hs0] at hs1 hs2
      refine need_i hI ?_
      refine node_reg2 [s0, s1, s2, s3, s4, s5, s6, s7, s8, s9, s10, s11, s12, s13, s14, s15] i ⟨[q.1, q.2], [], [], [], []⟩ hli rfl (by intros; kernel_rfl) (by intros; kernel_rfl) (by rw [hs1]; intros; kernel_rfl) rfl oneNil ?_
      refine node_val ⟨[], [], [numV q.1 q.2], [], []⟩ (fun w => number_any q.1 q.2 w) (by intros; kernel_rfl) (by intros; kernel_rfl) rfl rfl rfl (one1 (numV_one _ _)) ?_
      refine node_val ⟨[q.1, q.2], [true], [], [], []⟩ (fun w => parts_num (q := q) hqj w) (by intros; kernel_rfl) (by intros; kernel_rfl) rfl rfl rfl oneNil ?_
      refine need_i hI ?_
      obtain ⟨t0, t1, t2, t3, t4, t5, t6, t7, t8, t9, t10, t11, t12, t13, t14, t15, ht0⟩ := list16 (put2 [s0, s1, s2, s3, s4, s5, s6, s7, s8, s9, s10, s11, s12, s13, s14, s15] i q) (by rw [put2_len]; rfl)
      refine node_put (n := 0) [s0, s1, s2, s3, s4, s5, s6, s7, s8, s9, s10, s11, s12, s13, s14, s15] [t0, t1, t2, t3, t4, t5, t6, t7, t8, t9, t10, t11, t12, t13, t14, t15] i q ⟨[t0, t1, t2, t3, t4, t5, t6, t7, t8, t9, t10, t11, t12, t13, t14, t15], [], [], [], []⟩ ht0 hli rfl (by intros; kernel_rfl) (by kernel_rfl) (by intros; kernel_rfl) (by intros; kernel_rfl) rfl (by intros; kernel_rfl) rfl rfl oneNil ?_
      have hm := hV q (fun q => absurd q (by decide)) (by simp [newReg, hQ]) hqj
      rw [if_pos rfl, ← hs2, ht0] at hm
      rw [hm]
      exact pure_done (by intros; kernel_rfl)
  refine br_f (show (kind == 6) = false by simpa using k6) ?_
  by_cases k7 : kind = 7
  · subst k7
    refine br_t rfl ?_
    obtain ⟨pa, pb⟩ := p
    obtain ⟨ha, hb⟩ := fit_abs hp
    obtain ⟨hc, hd⟩ := fit_abs hf
    refine node_bin (x := numV pa pb) (y := numV re im) (V := .bool (!(pa == re && pb == im))) ⟨[], [!(pa == re && pb == im)], [], [], []⟩ (by intros; kernel_rfl) (by intros; kernel_rfl) (fun _ => by rw [numV_eq hp, numV_eq hf]; rfl) (fun w => ?_) (by intros; kernel_rfl) rfl rfl rfl oneNil ?_
    · rw [numV_eq hp, numV_eq hf, run_neq_complex, isI_order (isI_of ha) (isI_of hc), isI_order (isI_of hb) (isI_of hd)]
      have ce : ∀ x y : Int, (some (compare x y) == some Ordering.eq) = (x == y) := fun x y => by rw [Bool.eq_iff_iff]; simp
      rw [ce, ce]
    cases hq : (pa == re && pb == im) with
    | false =>
      refine br_t rfl ?_
      rw [hS rfl (fun e => by cases e; simp at hq)]
      refine need_i hI ?_
      refine need_i hI ?_
      have fin : ∀ {m : Mem} {ρ : Env} {v : SV} {L : Stack}, (∀ ids, v.den ρ ids = resV ([a0, a1, a2, a3, a4, a5, a6, a7, a8, a9, a10, a11, a12, a13, a14, a15], 3, pa, pb)) → (Tree.done v m).holds ⟨Try.prog, w, fun _ => False, PureAt w (resV ([a0, a1, a2, a3, a4, a5, a6, a7, a8, a9, a10, a11, a12, a13, a14, a15], 3, pa, pb))⟩ ρ [] HX.nil L := fun h => pure_done h
      refine par_i ?_ (par_i ?_ (par_i ?_ ?_))
      · refine node_rega [a0, a1, a2, a3, a4, a5, a6, a7, a8, a9, a10, a11, a12, a13, a14, a15] i ⟨[pa], [], [], [], []⟩ hli rfl (by intros; kernel_rfl) (by intros; kernel_rfl) (by rw [hP]; intros; kernel_rfl) rfl oneNil ?_
        refine par_i ?_ ?_
        · refine node_regb [a0, a1, a2, a3, a4, a5, a6, a7, a8, a9, a10, a11, a12, a13, a14, a15] i ⟨[pb], [], [], [], []⟩ hli rfl (by intros; kernel_rfl) (by intros; kernel_rfl) (by rw [hP]; intros; kernel_rfl) rfl oneNil ?_
          exact fin (by intros; kernel_rfl)
        · refine node_regb [a0, a1, a2, a3, a4, a5, a6, a7, a8, a9, a10, a11, a12, a13, a14, a15] i ⟨[pb], [], [], [], []⟩ hli rfl (by intros; kernel_rfl) (by intros; kernel_rfl) (by rw [hP]; intros; kernel_rfl) rfl oneNil ?_
          exact fin (by intros; kernel_rfl)
      · refine node_regb [a0, a1, a2, a3, a4, a5, a6, a7, a8, a9, a10, a11, a12, a13, a14, a15] i ⟨[pb], [], [], [], []⟩ hli rfl (by intros; kernel_rfl) (by intros; kernel_rfl) (by rw [hP]; intros; kernel_rfl) rfl oneNil ?_
        refine par_i ?_ ?_
        · refine node_rega [a0, a1, a2, a3, a4, a5, a6, a7, a8, a9, a10, a11, a12, a13, a14, a15] i ⟨[pa], [], [], [], []⟩ hli rfl (by intros; kernel_rfl) (by intros; kernel_rfl) (by rw [hP]; intros; kernel_rfl) rfl oneNil ?_
          exact fin (by intros; kernel_rfl)
        · refine node_rega [a0, a1, a2, a3, a4, a5, a6, a7, a8, a9, a10, a11, a12, a13, a14, a15] i ⟨[pa], [], [], [], []⟩ hli rfl (by intros; kernel_rfl) (by intros; kernel_rfl) (by rw [hP]; intros; kernel_rfl) rfl oneNil ?_
          exact fin (by intros; kernel_rfl)
      · refine node_rega [a0, a1, a2, a3, a4, a5, a6, a7, a8, a9, a10, a11, a12, a13, a14, a15] i ⟨[pa], [], [], [], []⟩ hli rfl (by intros; kernel_rfl) (by intros; kernel_rfl) (by rw [hP]; intros; kernel_rfl) rfl oneNil ?_
        refine node_regb [a0, a1, a2, a3, a4, a5, a6, a7, a8, a9, a10, a11, a12, a13, a14, a15] i ⟨[pb], [], [], [], []⟩ hli rfl (by intros; kernel_rfl) (by intros; kernel_rfl) (by rw [hP]; intros; kernel_rfl) rfl oneNil ?_
        exact fin (by intros; kernel_rfl)
      · refine node_regb [a0, a1, a2, a3, a4, a5, a6, a7, a8, a9, a10, a11, a12, a13, a14, a15] i ⟨[pb], [], [], [], []⟩ hli rfl (by intros; kernel_rfl) (by intros; kernel_rfl) (by rw [hP]; intros; kernel_rfl) rfl oneNil ?_
        refine node_rega [a0, a1, a2, a3, a4, a5, a6, a7, a8, a9, a10, a11, a12, a13, a14, a15] i ⟨[pa], [], [], [], []⟩ hli rfl (by intros; kernel_rfl) (by intros; kernel_rfl) (by rw [hP]; intros; kernel_rfl) rfl oneNil ?_
        exact fin (by intros; kernel_rfl)
    | true =>
      refine br_f rfl ?_
      generalize hQ : regOf [a0, a1, a2, a3, a4, a5, a6, a7, a8, a9, a10, a11, a12, a13, a14, a15] j = q at *
      refine need_i hJ ?_
      refine node_reg2 [a0, a1, a2, a3, a4, a5, a6, a7, a8, a9, a10, a11, a12, a13, a14, a15] j ⟨[q.1, q.2], [], [], [], []⟩ hlj rfl (by intros; kernel_rfl) (by intros; kernel_rfl) (by rw [hQ]; intros; kernel_rfl) rfl oneNil ?_
      refine node_val ⟨[], [], [numV q.1 q.2], [], []⟩ (fun w => number_any q.1 q.2 w) (by intros; kernel_rfl) (by intros; kernel_rfl) rfl rfl rfl (one1 (numV_one _ _)) ?_
      refine node_val ⟨[q.1, q.2], [true], [], [], []⟩ (fun w => parts_num (q := q) hqj w) (by intros; kernel_rfl) (by intros; kernel_rfl) rfl rfl rfl oneNil ?_
      refine need_i hI ?_
      obtain ⟨t0, t1, t2, t3, t4, t5, t6, t7, t8, t9, t10, t11, t12, t13, t14, t15, ht0⟩ := list16 (put2 [a0, a1, a2, a3, a4, a5, a6, a7, a8, a9, a10, a11, a12, a13, a14, a15] i q) (by rw [put2_len]; rfl)
      refine node_put (n := 0) [a0, a1, a2, a3, a4, a5, a6, a7, a8, a9, a10, a11, a12, a13, a14, a15] [t0, t1, t2, t3, t4, t5, t6, t7, t8, t9, t10, t11, t12, t13, t14, t15] i q ⟨[t0, t1, t2, t3, t4, t5, t6, t7, t8, t9, t10, t11, t12, t13, t14, t15], [], [], [], []⟩ ht0 hli rfl (by intros; kernel_rfl) (by kernel_rfl) (by intros; kernel_rfl) (by intros; kernel_rfl) rfl (by intros; kernel_rfl) rfl rfl oneNil ?_
      have hm := hV q (fun _ => by simpa using hq) (by simp [newReg, hQ]) hqj
      rw [if_neg (by decide), ht0] at hm
      rw [hm]
      exact pure_done (by intros; kernel_rfl)
  refine br_f (show (kind == 7) = false by simpa using k7) ?_
  obtain rfl : kind = 1 := by omega
  refine node_val ⟨[p.1, p.2], [true], [], [], []⟩ (fun w => parts_num (q := p) hp w) (by intros; kernel_rfl) (by intros; kernel_rfl) rfl rfl rfl oneNil ?_
  refine need_i hI ?_
  obtain ⟨t0, t1, t2, t3, t4, t5, t6, t7, t8, t9, t10, t11, t12, t13, t14, t15, ht0⟩ := list16 (put2 [a0, a1, a2, a3, a4, a5, a6, a7, a8, a9, a10, a11, a12, a13, a14, a15] i p) (by rw [put2_len]; rfl)
  refine node_put (n := 0) [a0, a1, a2, a3, a4, a5, a6, a7, a8, a9, a10, a11, a12, a13, a14, a15] [t0, t1, t2, t3, t4, t5, t6, t7, t8, t9, t10, t11, t12, t13, t14, t15] i p ⟨[t0, t1, t2, t3, t4, t5, t6, t7, t8, t9, t10, t11, t12, t13, t14, t15], [], [], [], []⟩ ht0 hli rfl (by intros; kernel_rfl) (by kernel_rfl) (by intros; kernel_rfl) (by intros; kernel_rfl) rfl (by intros; kernel_rfl) rfl rfl oneNil ?_
  have hm := hV p (fun q => absurd q (by decide)) (by simp [newReg, hP]) hp
  rw [if_neg (by decide), ht0] at hm
  rw [hm]
  exact pure_done (by intros; kernel_rfl)
set_option maxHeartbeats 4000000 in
theorem refApply_any (xs : List Int) (hx : xs.length = 16) (o : OpD) (w : World) : Calls Try.prog 44 #[.agg (xs.map (Value.int .i64)).toArray, .agg o.cells.toArray] w (PureAt w (resV (applyM xs o))) := by
  obtain ⟨a0, a1, a2, a3, a4, a5, a6, a7, a8, a9, a10, a11, a12, a13, a14, a15, rfl⟩ := list16 xs hx
  obtain ⟨kind, reg, tg, re, im⟩ := o
  refine calls_at (tab_ok _) Try.func44 rfl tRefApply (ρ := ⟨[a0, a1, a2, a3, a4, a5, a6, a7, a8, a9, a10, a11, a12, a13, a14, a15, kind, reg, tg, re, im], [], [], [], []⟩) (ids := []) rfl (Facts.initP rfl oneNil) ?_
  refine node_val ⟨[], [validL [a0, a1, a2, a3, a4, a5, a6, a7, a8, a9, a10, a11, a12, a13, a14, a15]], [], [], []⟩ (fun w => refValid_any [a0, a1, a2, a3, a4, a5, a6, a7, a8, a9, a10, a11, a12, a13, a14, a15] rfl w) (by intros; kernel_rfl) (by intros; kernel_rfl) rfl rfl rfl oneNil ?_
  cases hv : validL [a0, a1, a2, a3, a4, a5, a6, a7, a8, a9, a10, a11, a12, a13, a14, a15] with
  | false =>
    rw [applyM_bad (by rw [hv]; rfl)]
    exact br_t rfl (pure_done fun _ => rfl)
  | true =>
  refine br_f rfl ?_
  refine node_val ⟨[], [opB ⟨kind, reg, tg, re, im⟩], [], [], []⟩ (fun w => refOp_pure ⟨kind, reg, tg, re, im⟩ w) (by intros; kernel_rfl) (by intros; kernel_rfl) rfl rfl rfl oneNil ?_
  cases ho : opB ⟨kind, reg, tg, re, im⟩ with
  | false =>
    rw [applyM_bad (by rw [hv, ho]; rfl)]
    exact br_t rfl (pure_done fun _ => rfl)
  | true =>
  refine br_f rfl ?_
  obtain ⟨k12, r12, t1, t2, hf, h6⟩ := (opB_iff _).1 ho
  dsimp only at k12 r12 t1 t2 hf h6
  have tle : tg ≤ 7 := by
    unfold mostV at t2
    split at t2
    · omega
    · split at t2 <;> omega
  obtain ⟨i, rfl⟩ : ∃ i : Nat, reg = (i : Int) := ⟨reg.toNat, by omega⟩
  obtain ⟨j, rfl⟩ : ∃ j : Nat, tg = (j : Int) := ⟨tg.toNat, by omega⟩
  have hi : i < 8 := by omega
  have hj : j < 8 := by omega
  have hI : (0 : Int) ≤ i ∧ (i : Int) < 8 := by omega
  have hJ : (0 : Int) ≤ j ∧ (j : Int) < 8 := by omega
  have hli : 2 * i + 1 < ([a0, a1, a2, a3, a4, a5, a6, a7, a8, a9, a10, a11, a12, a13, a14, a15] : List Int).length := by simp only [List.length_cons, List.length_nil]; omega
  have hlj : 2 * j + 1 < ([a0, a1, a2, a3, a4, a5, a6, a7, a8, a9, a10, a11, a12, a13, a14, a15] : List Int).length := by simp only [List.length_cons, List.length_nil]; omega
  have hp := valid_reg hv i hli
  have hqj := valid_reg hv j hlj
  have hV := fun q h3 hq h4 => applyM_val (o := ⟨kind, (i : Int), (j : Int), re, im⟩) hv ho (q := q) h3 hq h4
  have hO := applyM_over (o := ⟨kind, (i : Int), (j : Int), re, im⟩) hv ho
  have hS := applyM_miss (o := ⟨kind, (i : Int), (j : Int), re, im⟩) hv ho
  dsimp only [Int.toNat_natCast] at hV hO hS
  generalize hP : regOf [a0, a1, a2, a3, a4, a5, a6, a7, a8, a9, a10, a11, a12, a13, a14, a15] i = p at *
  refine need_i hI ?_
  refine node_rega [a0, a1, a2, a3, a4, a5, a6, a7, a8, a9, a10, a11, a12, a13, a14, a15] i ⟨[p.1], [], [], [], []⟩ hli rfl (by intros; kernel_rfl) (by intros; kernel_rfl) (by rw [hP]; intros; kernel_rfl) rfl oneNil ?_
  refine need_i hI ?_
  refine node_regb [a0, a1, a2, a3, a4, a5, a6, a7, a8, a9, a10, a11, a12, a13, a14, a15] i ⟨[p.2], [], [], [], []⟩ hli rfl (by intros; kernel_rfl) (by intros; kernel_rfl) (by rw [hP]; intros; kernel_rfl) rfl oneNil ?_
  by_cases k2 : kind = 2
  · subst k2
    refine br_t rfl ?_
    refine node_val ⟨[], [fitB (re, im).1 (re, im).2], [], [], []⟩ (fun w => pure_of (ref03_any (re, im).1 (re, im).2 w)) (by intros; kernel_rfl) (by intros; kernel_rfl) rfl rfl rfl oneNil ?_
    refine br_f (show (!fitB (re, im).1 (re, im).2) = false by rw [hf]; rfl) ?_
    refine need_i hI ?_
    obtain ⟨t0, t1, t2, t3, t4, t5, t6, t7, t8, t9, t10, t11, t12, t13, t14, t15, ht0⟩ := list16 (put2 [a0, a1, a2, a3, a4, a5, a6, a7, a8, a9, a10, a11, a12, a13, a14, a15] i (re, im)) (by rw [put2_len]; rfl)
    refine node_put (n := 0) [a0, a1, a2, a3, a4, a5, a6, a7, a8, a9, a10, a11, a12, a13, a14, a15] [t0, t1, t2, t3, t4, t5, t6, t7, t8, t9, t10, t11, t12, t13, t14, t15] i (re, im) ⟨[t0, t1, t2, t3, t4, t5, t6, t7, t8, t9, t10, t11, t12, t13, t14, t15], [], [], [], []⟩ ht0 hli rfl (by intros; kernel_rfl) (by kernel_rfl) (by intros; kernel_rfl) (by intros; kernel_rfl) rfl (by intros; kernel_rfl) rfl rfl oneNil ?_
    have hm := hV (re, im) (fun q => absurd q (by decide)) (by simp [newReg]) hf
    rw [if_neg (by decide), ht0] at hm
    rw [hm]
    exact pure_done (by intros; kernel_rfl)
  refine br_f (show (kind == 2) = false by simpa using k2) ?_
  by_cases k3 : kind = 3
  · subst k3
    refine br_t rfl ?_
    obtain ⟨pa, pb⟩ := p
    obtain ⟨ha, hb⟩ := fit_abs hp
    obtain ⟨hc, hd⟩ := fit_abs hf
    dsimp only at ha hb hc hd
    have w1 : ifn .add .i64 pa re = pa + re := wrap_i64 (by omega)
    have w2 : ifn .add .i64 pb im = pb + im := wrap_i64 (by omega)
    have hArgs : ∀ (ids : List Nat), #[Value.int .i64 (ifn .add .i64 pa re), Value.int .i64 (ifn .add .i64 pb im)] = #[Value.int .i64 (pa + re), Value.int .i64 (pb + im)] := fun _ => by rw [w1, w2]
    have hVal : ∀ (ids : List Nat), Value.agg #[Value.int .i64 (ifn .add .i64 pa re), Value.int .i64 (ifn .add .i64 pb im)] = .agg #[Value.int .i64 (pa + re), Value.int .i64 (pb + im)] := fun _ => by rw [w1, w2]
    have hDone : ∀ (ts : List Int) (ids : List Nat), Value.tuple #[.agg (ts.map (Value.int .i64)).toArray, .agg #[.int .i64 1, .int .i64 (ifn .add .i64 pa re), .int .i64 (ifn .add .i64 pb im)]] = resV (ts, 1, pa + re, pb + im) := fun _ _ => by rw [w1, w2]; rfl
    generalize hQ : ((pa + re, pb + im) : Int × Int) = q at *
    refine node_val ⟨[], [fitB q.1 q.2], [], [], []⟩ (fun w => pure_of (ref03_any q.1 q.2 w)) (fun ids => by rw [← hQ]; exact hArgs ids) (by intros; kernel_rfl) rfl rfl rfl oneNil ?_
    cases hfq : fitB q.1 q.2 with
    | false =>
      have hn : newReg [a0, a1, a2, a3, a4, a5, a6, a7, a8, a9, a10, a11, a12, a13, a14, a15] ⟨3, (i : Int), (j : Int), re, im⟩ = q := by rw [← hQ]; simp [newReg, hP]
      rw [hO (by decide) (by rw [hn]; exact hfq)]
      exact br_t rfl (pure_done (by intros; kernel_rfl))
    | true =>
      refine br_f rfl ?_
      refine need_i hI ?_
      obtain ⟨t0, t1, t2, t3, t4, t5, t6, t7, t8, t9, t10, t11, t12, t13, t14, t15, ht0⟩ := list16 (put2 [a0, a1, a2, a3, a4, a5, a6, a7, a8, a9, a10, a11, a12, a13, a14, a15] i q) (by rw [put2_len]; rfl)
      refine node_put (n := 0) [a0, a1, a2, a3, a4, a5, a6, a7, a8, a9, a10, a11, a12, a13, a14, a15] [t0, t1, t2, t3, t4, t5, t6, t7, t8, t9, t10, t11, t12, t13, t14, t15] i q ⟨[t0, t1, t2, t3, t4, t5, t6, t7, t8, t9, t10, t11, t12, t13, t14, t15], [], [], [], []⟩ ht0 hli rfl (by intros; kernel_rfl) (by kernel_rfl) (by intros; kernel_rfl) (fun ids => by rw [← hQ]; exact hVal ids) rfl (by intros; kernel_rfl) rfl rfl oneNil ?_
      have hm := hV q (fun q => absurd q (by decide)) (by rw [← hQ]; simp [newReg, hP]) hfq
      rw [if_neg (by decide), ht0] at hm
      rw [hm]
      exact pure_done (fun ids => hDone [t0, t1, t2, t3, t4, t5, t6, t7, t8, t9, t10, t11, t12, t13, t14, t15] ids)
  refine br_f (show (kind == 3) = false by simpa using k3) ?_
  by_cases k4 : kind = 4
  · subst k4
    refine br_t rfl ?_
    obtain ⟨pa, pb⟩ := p
    obtain ⟨ha, hb⟩ := fit_abs hp
    obtain ⟨hc, hd⟩ := fit_abs hf
    dsimp only at ha hb hc hd
    have m1 := mul_abs ha hc
    have m2 := mul_abs hb hd
    have m3 := mul_abs ha hd
    have m4 := mul_abs hb hc
    have v1 : ifn .mul .i64 pa re = pa * re := wrap_i64 (by omega)
    have v2 : ifn .mul .i64 pb im = pb * im := wrap_i64 (by omega)
    have v3 : ifn .mul .i64 pa im = pa * im := wrap_i64 (by omega)
    have v4 : ifn .mul .i64 pb re = pb * re := wrap_i64 (by omega)
    have w1 : ifn .sub .i64 (ifn .mul .i64 pa re) (ifn .mul .i64 pb im) = pa * re - pb * im := by rw [v1, v2]; exact wrap_i64 (by omega)
    have w2 : ifn .add .i64 (ifn .mul .i64 pa im) (ifn .mul .i64 pb re) = pa * im + pb * re := by rw [v3, v4]; exact wrap_i64 (by omega)
    have hArgs : ∀ (ids : List Nat), #[Value.int .i64 (ifn .sub .i64 (ifn .mul .i64 pa re) (ifn .mul .i64 pb im)), Value.int .i64 (ifn .add .i64 (ifn .mul .i64 pa im) (ifn .mul .i64 pb re))] = #[Value.int .i64 (pa * re - pb * im), Value.int .i64 (pa * im + pb * re)] := fun _ => by rw [w1, w2]
    have hVal : ∀ (ids : List Nat), Value.agg #[Value.int .i64 (ifn .sub .i64 (ifn .mul .i64 pa re) (ifn .mul .i64 pb im)), Value.int .i64 (ifn .add .i64 (ifn .mul .i64 pa im) (ifn .mul .i64 pb re))] = .agg #[Value.int .i64 (pa * re - pb * im), Value.int .i64 (pa * im + pb * re)] := fun _ => by rw [w1, w2]
    have hDone : ∀ (ts : List Int) (ids : List Nat), Value.tuple #[.agg (ts.map (Value.int .i64)).toArray, .agg #[.int .i64 1, .int .i64 (ifn .sub .i64 (ifn .mul .i64 pa re) (ifn .mul .i64 pb im)), .int .i64 (ifn .add .i64 (ifn .mul .i64 pa im) (ifn .mul .i64 pb re))]] = resV (ts, 1, pa * re - pb * im, pa * im + pb * re) := fun _ _ => by rw [w1, w2]; rfl
    generalize hQ : ((pa * re - pb * im, pa * im + pb * re) : Int × Int) = q at *
    refine node_val ⟨[], [fitB q.1 q.2], [], [], []⟩ (fun w => pure_of (ref03_any q.1 q.2 w)) (fun ids => by rw [← hQ]; exact hArgs ids) (by intros; kernel_rfl) rfl rfl rfl oneNil ?_
    cases hfq : fitB q.1 q.2 with
    | false =>
      have hn : newReg [a0, a1, a2, a3, a4, a5, a6, a7, a8, a9, a10, a11, a12, a13, a14, a15] ⟨4, (i : Int), (j : Int), re, im⟩ = q := by rw [← hQ]; simp [newReg, hP]
      rw [hO (by decide) (by rw [hn]; exact hfq)]
      exact br_t rfl (pure_done (by intros; kernel_rfl))
    | true =>
      refine br_f rfl ?_
      refine need_i hI ?_
      obtain ⟨t0, t1, t2, t3, t4, t5, t6, t7, t8, t9, t10, t11, t12, t13, t14, t15, ht0⟩ := list16 (put2 [a0, a1, a2, a3, a4, a5, a6, a7, a8, a9, a10, a11, a12, a13, a14, a15] i q) (by rw [put2_len]; rfl)
      refine node_put (n := 0) [a0, a1, a2, a3, a4, a5, a6, a7, a8, a9, a10, a11, a12, a13, a14, a15] [t0, t1, t2, t3, t4, t5, t6, t7, t8, t9, t10, t11, t12, t13, t14, t15] i q ⟨[t0, t1, t2, t3, t4, t5, t6, t7, t8, t9, t10, t11, t12, t13, t14, t15], [], [], [], []⟩ ht0 hli rfl (by intros; kernel_rfl) (by kernel_rfl) (by intros; kernel_rfl) (fun ids => by rw [← hQ]; exact hVal ids) rfl (by intros; kernel_rfl) rfl rfl oneNil ?_
      have hm := hV q (fun q => absurd q (by decide)) (by rw [← hQ]; simp [newReg, hP]) hfq
      rw [if_neg (by decide), ht0] at hm
      rw [hm]
      exact pure_done (fun ids => hDone [t0, t1, t2, t3, t4, t5, t6, t7, t8, t9, t10, t11, t12, t13, t14, t15] ids)
  refine br_f (show (kind == 4) = false by simpa using k4) ?_
  by_cases k5 : kind = 5
  · subst k5
    refine br_t rfl ?_
    obtain ⟨pa, pb⟩ := p
    obtain ⟨ha, hb⟩ := fit_abs hp
    obtain ⟨hc, hd⟩ := fit_abs hf
    dsimp only at ha hb hc hd
    generalize hQ : (turnN j (pa, pb) : Int × Int) = q at *
    refine node_val ⟨[q.1, q.2], [], [], [], []⟩ (fun w => by have := turn3_any hp j (by rw [show mostV 5 = 3 from rfl] at t2; omega) w; rw [hQ] at this; exact this) (by intros; kernel_rfl) (by intros; kernel_rfl) rfl rfl rfl oneNil ?_
    refine node_val ⟨[], [fitB q.1 q.2], [], [], []⟩ (fun w => pure_of (ref03_any q.1 q.2 w)) (by intros; kernel_rfl) (by intros; kernel_rfl) rfl rfl rfl oneNil ?_
    cases hfq : fitB q.1 q.2 with
    | false =>
      have hn : newReg [a0, a1, a2, a3, a4, a5, a6, a7, a8, a9, a10, a11, a12, a13, a14, a15] ⟨5, (i : Int), (j : Int), re, im⟩ = q := by rw [← hQ]; simp [newReg, hP]
      rw [hO (by decide) (by rw [hn]; exact hfq)]
      exact br_t rfl (pure_done (by intros; kernel_rfl))
    | true =>
      refine br_f rfl ?_
      refine need_i hI ?_
      obtain ⟨t0, t1, t2, t3, t4, t5, t6, t7, t8, t9, t10, t11, t12, t13, t14, t15, ht0⟩ := list16 (put2 [a0, a1, a2, a3, a4, a5, a6, a7, a8, a9, a10, a11, a12, a13, a14, a15] i q) (by rw [put2_len]; rfl)
      refine node_put (n := 0) [a0, a1, a2, a3, a4, a5, a6, a7, a8, a9, a10, a11, a12, a13, a14, a15] [t0, t1, t2, t3, t4, t5, t6, t7, t8, t9, t10, t11, t12, t13, t14, t15] i q ⟨[t0, t1, t2, t3, t4, t5, t6, t7, t8, t9, t10, t11, t12, t13, t14, t15], [], [], [], []⟩ ht0 hli rfl (by intros; kernel_rfl) (by kernel_rfl) (by intros; kernel_rfl) (by intros; kernel_rfl) rfl (by intros; kernel_rfl) rfl rfl oneNil ?_
      have hm := hV q (fun q => absurd q (by decide)) (by rw [← hQ]; simp [newReg, hP]) hfq
      rw [if_neg (by decide), ht0] at hm
      rw [hm]
      exact pure_done (by intros; kernel_rfl)
  refine br_f (show (kind == 5) = false by simpa using k5) ?_
  by_cases k6 : kind = 6
  · subst k6
    refine br_t rfl ?_
    generalize hQ : regOf [a0, a1, a2, a3, a4, a5, a6, a7, a8, a9, a10, a11, a12, a13, a14, a15] j = q at *
    refine need_i hJ ?_
    refine node_rega [a0, a1, a2, a3, a4, a5, a6, a7, a8, a9, a10, a11, a12, a13, a14, a15] j ⟨[q.1], [], [], [], []⟩ hlj rfl (by intros; kernel_rfl) (by intros; kernel_rfl) (by rw [hQ]; intros; kernel_rfl) rfl oneNil ?_
    refine need_i hJ ?_
    refine node_regb [a0, a1, a2, a3, a4, a5, a6, a7, a8, a9, a10, a11, a12, a13, a14, a15] j ⟨[q.2], [], [], [], []⟩ hlj rfl (by intros; kernel_rfl) (by intros; kernel_rfl) (by rw [hQ]; intros; kernel_rfl) rfl oneNil ?_
    refine need_i hI ?_
    refine node_reg2 [a0, a1, a2, a3, a4, a5, a6, a7, a8, a9, a10, a11, a12, a13, a14, a15] i ⟨[p.1, p.2], [], [], [], []⟩ hli rfl (by intros; kernel_rfl) (by intros; kernel_rfl) (by rw [hP]; intros; kernel_rfl) rfl oneNil ?_
    refine need_i hJ ?_
    obtain ⟨u0, u1, u2, u3, u4, u5, u6, u7, u8, u9, u10, u11, u12, u13, u14, u15, hu0⟩ := list16 (put2 [a0, a1, a2, a3, a4, a5, a6, a7, a8, a9, a10, a11, a12, a13, a14, a15] j p) (by rw [put2_len]; rfl)
    refine node_put (n := 0) [a0, a1, a2, a3, a4, a5, a6, a7, a8, a9, a10, a11, a12, a13, a14, a15] [u0, u1, u2, u3, u4, u5, u6, u7, u8, u9, u10, u11, u12, u13, u14, u15] j p ⟨[u0, u1, u2, u3, u4, u5, u6, u7, u8, u9, u10, u11, u12, u13, u14, u15], [], [], [], []⟩ hu0 hlj rfl (by intros; kernel_rfl) (by kernel_rfl) (by intros; kernel_rfl) (by intros; kernel_rfl) rfl (by intros; kernel_rfl) rfl rfl oneNil ?_
    refine node_val ⟨[], [fitB q.1 q.2], [], [], []⟩ (fun w => pure_of (ref03_any q.1 q.2 w)) (by intros; kernel_rfl) (by intros; kernel_rfl) rfl rfl rfl oneNil ?_
    refine br_f (show (!fitB q.1 q.2) = false by rw [hqj]; rfl) ?_
    refine need_i hI ?_
    obtain ⟨t0, t1, t2, t3, t4, t5, t6, t7, t8, t9, t10, t11, t12, t13, t14, t15, ht0⟩ := list16 (put2 [u0, u1, u2, u3, u4, u5, u6, u7, u8, u9, u10, u11, u12, u13, u14, u15] i q) (by rw [put2_len]; rfl)
    refine node_put (n := 0) [u0, u1, u2, u3, u4, u5, u6, u7, u8, u9, u10, u11, u12, u13, u14, u15] [t0, t1, t2, t3, t4, t5, t6, t7, t8, t9, t10, t11, t12, t13, t14, t15] i q ⟨[t0, t1, t2, t3, t4, t5, t6, t7, t8, t9, t10, t11, t12, t13, t14, t15], [], [], [], []⟩ ht0 hli rfl (by intros; kernel_rfl) (by kernel_rfl) (by intros; kernel_rfl) (by intros; kernel_rfl) rfl (by intros; kernel_rfl) rfl rfl oneNil ?_
    have hm := hV q (fun q => absurd q (by decide)) (by simp [newReg, hQ]) hqj
    rw [if_pos rfl, hu0, ht0] at hm
    rw [hm]
    exact pure_done (by intros; kernel_rfl)
  refine br_f (show (kind == 6) = false by simpa using k6) ?_
  by_cases k7 : kind = 7
  · subst k7
    refine br_t rfl ?_
    obtain ⟨pa, pb⟩ := p
    by_cases e1 : pa = re
    · refine br_f (show (pa != re) = false by simpa using e1) ?_
      by_cases e2 : pb = im
      · refine br_f (show (pb != im) = false by simpa using e2) ?_
        generalize hQ : regOf [a0, a1, a2, a3, a4, a5, a6, a7, a8, a9, a10, a11, a12, a13, a14, a15] j = q at *
        refine need_i hJ ?_
        refine node_rega [a0, a1, a2, a3, a4, a5, a6, a7, a8, a9, a10, a11, a12, a13, a14, a15] j ⟨[q.1], [], [], [], []⟩ hlj rfl (by intros; kernel_rfl) (by intros; kernel_rfl) (by rw [hQ]; intros; kernel_rfl) rfl oneNil ?_
        refine need_i hJ ?_
        refine node_regb [a0, a1, a2, a3, a4, a5, a6, a7, a8, a9, a10, a11, a12, a13, a14, a15] j ⟨[q.2], [], [], [], []⟩ hlj rfl (by intros; kernel_rfl) (by intros; kernel_rfl) (by rw [hQ]; intros; kernel_rfl) rfl oneNil ?_
        refine node_val ⟨[], [fitB q.1 q.2], [], [], []⟩ (fun w => pure_of (ref03_any q.1 q.2 w)) (by intros; kernel_rfl) (by intros; kernel_rfl) rfl rfl rfl oneNil ?_
        refine br_f (show (!fitB q.1 q.2) = false by rw [hqj]; rfl) ?_
        refine need_i hI ?_
        obtain ⟨t0, t1, t2, t3, t4, t5, t6, t7, t8, t9, t10, t11, t12, t13, t14, t15, ht0⟩ := list16 (put2 [a0, a1, a2, a3, a4, a5, a6, a7, a8, a9, a10, a11, a12, a13, a14, a15] i q) (by rw [put2_len]; rfl)
        refine node_put (n := 0) [a0, a1, a2, a3, a4, a5, a6, a7, a8, a9, a10, a11, a12, a13, a14, a15] [t0, t1, t2, t3, t4, t5, t6, t7, t8, t9, t10, t11, t12, t13, t14, t15] i q ⟨[t0, t1, t2, t3, t4, t5, t6, t7, t8, t9, t10, t11, t12, t13, t14, t15], [], [], [], []⟩ ht0 hli rfl (by intros; kernel_rfl) (by kernel_rfl) (by intros; kernel_rfl) (by intros; kernel_rfl) rfl (by intros; kernel_rfl) rfl rfl oneNil ?_
        have hm := hV q (fun _ => by rw [e1, e2]) (by simp [newReg, hQ]) hqj
        rw [if_neg (by decide), ht0] at hm
        rw [hm]
        exact pure_done (by intros; kernel_rfl)
      · refine br_t (show (pb != im) = true by simpa using e2) ?_
        rw [hS rfl (fun e => by cases e; exact e2 rfl)]
        exact pure_done (by intros; kernel_rfl)
    · refine br_t (show (pa != re) = true by simpa using e1) ?_
      rw [hS rfl (fun e => by cases e; exact e1 rfl)]
      exact pure_done (by intros; kernel_rfl)
  refine br_f (show (kind == 7) = false by simpa using k7) ?_
  obtain rfl : kind = 1 := by omega
  refine node_val ⟨[], [fitB p.1 p.2], [], [], []⟩ (fun w => pure_of (ref03_any p.1 p.2 w)) (by intros; kernel_rfl) (by intros; kernel_rfl) rfl rfl rfl oneNil ?_
  refine br_f (show (!fitB p.1 p.2) = false by rw [hp]; rfl) ?_
  refine need_i hI ?_
  obtain ⟨t0, t1, t2, t3, t4, t5, t6, t7, t8, t9, t10, t11, t12, t13, t14, t15, ht0⟩ := list16 (put2 [a0, a1, a2, a3, a4, a5, a6, a7, a8, a9, a10, a11, a12, a13, a14, a15] i p) (by rw [put2_len]; rfl)
  refine node_put (n := 0) [a0, a1, a2, a3, a4, a5, a6, a7, a8, a9, a10, a11, a12, a13, a14, a15] [t0, t1, t2, t3, t4, t5, t6, t7, t8, t9, t10, t11, t12, t13, t14, t15] i p ⟨[t0, t1, t2, t3, t4, t5, t6, t7, t8, t9, t10, t11, t12, t13, t14, t15], [], [], [], []⟩ ht0 hli rfl (by intros; kernel_rfl) (by kernel_rfl) (by intros; kernel_rfl) (by intros; kernel_rfl) rfl (by intros; kernel_rfl) rfl rfl oneNil ?_
  have hm := hV p (fun q => absurd q (by decide)) (by simp [newReg, hP]) hp
  rw [if_neg (by decide), ht0] at hm
  rw [hm]
  exact pure_done (by intros; kernel_rfl)
end Go.Proofs.Ytbedoemdjlollaa

namespace Go.Syn
structure CmD where
  sess : Int
  seq : Int
  ack : Int
  op : OpD
def CmD.is (c : CmD) : List Int := [c.sess, c.seq, c.ack, c.op.kind, c.op.reg, c.op.tg, c.op.re, c.op.im]
def CmD.cells (c : CmD) : List Value := [.int .i64 c.sess, .int .i64 c.seq, .int .i64 c.ack, .int .i64 c.op.kind, .int .i64 c.op.reg, .int .i64 c.op.tg, .int .i64 c.op.re, .int .i64 c.op.im]
def cmdV (c : CmD) : Int := if c.sess < 1 ∨ 1073741824 < c.sess ∨ c.seq < 1 ∨ 1099511627776 < c.seq ∨ c.ack < 0 ∨ c.seq ≤ c.ack then 23 else if opB c.op then 0 else 22
def ccells (cs : List CmD) : List Value := cs.flatMap CmD.cells
def firstE : List CmD → Int
  | [] => 0
  | c :: r => if cmdV c ≠ 0 then cmdV c else firstE r
structure Vl where
  k : Int
  cs : List CmD
  ns : List Int
def valE (v : Vl) : Int :=
  if v.k = 0 then (if v.cs ≠ [] ∨ v.ns ≠ [] then 25 else 0)
  else if v.k = 2 then (if v.cs ≠ [] then 25 else checkV v.ns)
  else if v.k = 1 then (if v.cs = [] ∨ 8 < v.cs.length ∨ v.ns ≠ [] then 25 else firstE v.cs) else 25
end Go.Syn
namespace Go.Proofs.Ytbedoemdjlollaa
open Go.ChangeShapes Go.WideShapes Go.ChangeAt Go.RowKit Go.Syn Go.Eng
set_option linter.unusedVariables false
set_option linter.unusedSimpArgs false
set_option maxRecDepth 100000
def vlV (v : Vl) (a1 : Option Addr) (c1 : Nat) (a2 : Option Addr) (c2 : Nat) : Value := .agg #[.int .i64 v.k, .slice a1 v.cs.length c1, .slice a2 v.ns.length c2]
structure VlAt (w : World) (v : Vl) (a1 a2 : Option Addr) : Prop where
  c : Cells w a1 (ccells v.cs)
  n : Ints w a2 v.ns
  l1 : v.cs.length ≤ 2199023255552
  l2 : v.ns.length ≤ 17592186044416
theorem ccells_len : ∀ (cs : List CmD), (ccells cs).length = cs.length * 8
  | [] => rfl
  | v :: r => by
    show (CmD.cells v ++ ccells r).length = _
    rw [List.length_append, ccells_len r, List.length_cons]
    show 8 + _ = _; omega
theorem ccells_get : ∀ {vs : List CmD} {i : Nat} {v : CmD}, vs[i]? = some v → ∀ j u, v.cells[j]? = some u → (ccells vs)[i * 8 + j]? = some u
  | q :: r, 0, p, h, j, u, hu => by
    simp only [List.getElem?_cons_zero, Option.some.injEq] at h
    subst h
    show (CmD.cells q ++ ccells r)[0 * 8 + j]? = _
    have hj : j < q.cells.length := by
      rcases Nat.lt_or_ge j q.cells.length with g | g
      · exact g
      · rw [List.getElem?_eq_none g] at hu; cases hu
    rw [Nat.zero_mul, Nat.zero_add, List.getElem?_append_left hj]; exact hu
  | q :: r, i + 1, p, h, j, u, hu => by
    have := ccells_get (vs := r) (i := i) (by simpa using h) j u hu
    show (CmD.cells q ++ ccells r)[(i + 1) * 8 + j]? = _
    rw [List.getElem?_append_right (by show 8 ≤ _; omega)]
    rw [← this]
    congr 1
    show (i + 1) * 8 + j - 8 = _
    omega
theorem c_elt {w : World} {a : Option Addr} {cs : List CmD} (h : Cells w a (ccells cs)) {i : Nat} {c : CmD} (hi : cs[i]? = some c) :
    a.isSome = true ∧ ∀ (N : Nat → Prop), ¬ N ((a.getD ⟨0, 0, none⟩).block) → CellsAt w (.pointer (some (((a.getD ⟨0, 0, none⟩).add (i * 8)).add 0))) c.cells N :=
  cl_elt h c.cells (fun j u hj => ccells_get hi j u hj) (by simp [CmD.cells])
theorem cmd_any (c : CmD) (w : World) : Calls Try.prog 39 #[.agg c.cells.toArray] w (PureAt w (.int .i64 (cmdV c))) := by
  obtain ⟨x0, x1, x2, o⟩ := c
  refine calls_at (tab_ok _) Try.func39 rfl tCmd (ρ := ⟨[x0, x1, x2, o.kind, o.reg, o.tg, o.re, o.im], [], [], [], []⟩) (ids := []) rfl (Facts.initP rfl oneNil) ?_
  have bad : ∀ {m : Mem} {ρ : Env} {pre : List Nat} {hx : HX} {L : Stack}, (x0 < 1 ∨ 1073741824 < x0 ∨ x1 < 1 ∨ 1099511627776 < x1 ∨ x2 < 0 ∨ x1 ≤ x2) → (Tree.done (.lf (.int .i64 (.lit 23))) m).holds ⟨Try.prog, w, fun _ => False, PureAt w (.int .i64 (cmdV ⟨x0, x1, x2, o⟩))⟩ ρ pre hx L := fun h => pure_done fun _ => by
    unfold cmdV; dsimp only; rw [if_pos h]; rfl
  refine br_i (fun h => bad (.inl (of_decide_eq_true (show decide (x0 < 1) = true from h)))) (fun h1 => ?_)
  refine br_i (fun h => bad (.inr (.inl (of_decide_eq_true (show decide (x0 > 1073741824) = true from h))))) (fun h2 => ?_)
  refine br_i (fun h => bad (.inr (.inr (.inl (of_decide_eq_true (show decide (x1 < 1) = true from h)))))) (fun h3 => ?_)
  refine br_i (fun h => bad (.inr (.inr (.inr (.inl (of_decide_eq_true (show decide (x1 > 1099511627776) = true from h))))))) (fun h4 => ?_)
  refine br_i (fun h => bad (.inr (.inr (.inr (.inr (.inl (of_decide_eq_true (show decide (x2 < 0) = true from h)))))))) (fun h5 => ?_)
  refine br_i (fun h => bad (.inr (.inr (.inr (.inr (.inr (of_decide_eq_true (show decide (x2 ≥ x1) = true from h)))))))) (fun h6 => ?_)
  have h1 := of_decide_eq_false (show decide (x0 < 1) = false from h1)
  have h2 := of_decide_eq_false (show decide (x0 > 1073741824) = false from h2)
  have h3 := of_decide_eq_false (show decide (x1 < 1) = false from h3)
  have h4 := of_decide_eq_false (show decide (x1 > 1099511627776) = false from h4)
  have h5 := of_decide_eq_false (show decide (x2 < 0) = false from h5)
  have h6 := of_decide_eq_false (show decide (x2 ≥ x1) = false from h6)
  refine node_val ⟨[if opB o then 0 else 22], [], [], [], []⟩ (fun w => opCheck_any o w) (fun _ => rfl) (fun _ => rfl) rfl rfl rfl oneNil (pure_done fun _ => ?_)
  have hne : ¬ (x0 < 1 ∨ 1073741824 < x0 ∨ x1 < 1 ∨ 1099511627776 < x1 ∨ x2 < 0 ∨ x1 ≤ x2) := by omega
  unfold cmdV; dsimp only; rw [if_neg hne]; rfl
theorem rcmd_any (c : CmD) (w : World) : Calls Try.prog 16 #[.agg c.cells.toArray] w (PureAt w (.int .i64 (cmdV c))) := by
  obtain ⟨x0, x1, x2, o⟩ := c
  refine calls_at (tab_ok _) Try.func16 rfl tRCmd (ρ := ⟨[x0, x1, x2, o.kind, o.reg, o.tg, o.re, o.im], [], [], [], []⟩) (ids := []) rfl (Facts.initP rfl oneNil) ?_
  have bad : ∀ {m : Mem} {ρ : Env} {pre : List Nat} {hx : HX} {L : Stack}, (x0 < 1 ∨ 1073741824 < x0 ∨ x1 < 1 ∨ 1099511627776 < x1 ∨ x2 < 0 ∨ x1 ≤ x2) → (Tree.done (.lf (.int .i64 (.lit 23))) m).holds ⟨Try.prog, w, fun _ => False, PureAt w (.int .i64 (cmdV ⟨x0, x1, x2, o⟩))⟩ ρ pre hx L := fun h => pure_done fun _ => by
    unfold cmdV; dsimp only; rw [if_pos h]; rfl
  refine br_i (fun h => bad (.inl (of_decide_eq_true (show decide (x0 < 1) = true from h)))) (fun h1 => ?_)
  refine br_i (fun h => bad (.inr (.inl (of_decide_eq_true (show decide (x0 > 1073741824) = true from h))))) (fun h2 => ?_)
  refine br_i (fun h => bad (.inr (.inr (.inl (of_decide_eq_true (show decide (x1 < 1) = true from h)))))) (fun h3 => ?_)
  refine br_i (fun h => bad (.inr (.inr (.inr (.inl (of_decide_eq_true (show decide (x1 > 1099511627776) = true from h))))))) (fun h4 => ?_)
  refine br_i (fun h => bad (.inr (.inr (.inr (.inr (.inl (of_decide_eq_true (show decide (x2 < 0) = true from h)))))))) (fun h5 => ?_)
  refine br_i (fun h => bad (.inr (.inr (.inr (.inr (.inr (of_decide_eq_true (show decide (x2 ≥ x1) = true from h)))))))) (fun h6 => ?_)
  have h1 := of_decide_eq_false (show decide (x0 < 1) = false from h1)
  have h2 := of_decide_eq_false (show decide (x0 > 1073741824) = false from h2)
  have h3 := of_decide_eq_false (show decide (x1 < 1) = false from h3)
  have h4 := of_decide_eq_false (show decide (x1 > 1099511627776) = false from h4)
  have h5 := of_decide_eq_false (show decide (x2 < 0) = false from h5)
  have h6 := of_decide_eq_false (show decide (x2 ≥ x1) = false from h6)
  refine node_val ⟨[], [opB o], [], [], []⟩ (fun w => refOp_pure o w) (fun _ => rfl) (fun _ => rfl) rfl rfl rfl oneNil ?_
  cases ho : opB o with
  | false =>
    refine br_t rfl (pure_done fun _ => ?_)
    have hne : ¬ (x0 < 1 ∨ 1073741824 < x0 ∨ x1 < 1 ∨ 1099511627776 < x1 ∨ x2 < 0 ∨ x1 ≤ x2) := by omega
    unfold cmdV; dsimp only; rw [if_neg hne, ho]; rfl
  | true =>
    refine br_f rfl (pure_done fun _ => ?_)
    have hne : ¬ (x0 < 1 ∨ 1073741824 < x0 ∨ x1 < 1 ∨ 1099511627776 < x1 ∨ x2 < 0 ∨ x1 ≤ x2) := by omega
    unfold cmdV; dsimp only; rw [if_neg hne, ho]; rfl
theorem firstE_drop {cs : List CmD} {k : Nat} {c : CmD} (h : cs[k]? = some c) : firstE (cs.drop k) = if cmdV c ≠ 0 then cmdV c else firstE (cs.drop (k + 1)) := by
  have hlt : k < cs.length := by
    rcases Nat.lt_or_ge k cs.length with q | q
    · exact q
    · rw [List.getElem?_eq_none q] at h; cases h
  rw [List.drop_eq_getElem_cons hlt]
  rw [List.getElem?_eq_getElem hlt] at h
  rw [Option.some.inj h]; rfl
def ChI (v : Vl) (vs : Vals) (hx : HX) : Prop := ∃ k : Nat, k ≤ v.cs.length ∧ firstE (v.cs.drop k) = firstE v.cs ∧ vs = ⟨[(k : Int)], [], [], [], []⟩ ∧ hx = HX.nil
section
variable {w : World} {ρ : Env} {pre : List Nat} {m m' : Mem} {t : Tree} {R : Ending → World → Prop}
end
theorem len_pos {α : Type} {l : List α} : decide ((l.length : Int) > 0) = decide (l ≠ []) := by
  cases l with
  | nil => rfl
  | cons a r => simp
theorem len_ne {α : Type} {l : List α} : ((l.length : Int) != 0) = decide (l ≠ []) := by
  cases l with
  | nil => rfl
  | cons a r => simp; omega
theorem vchk_any (v : Vl) (a1 : Option Addr) (c1 : Nat) (a2 : Option Addr) (c2 : Nat) (w : World) (H : VlAt w v a1 a2) : Calls Try.prog 24 #[vlV v a1 c1 a2 c2] w (PureAt w (.int .i64 (valE v))) := by
  have hl1 := H.l1
  refine calls_at (tab_ok _) Try.func24 rfl tChk (ρ := ⟨[v.k], [], [], [v.cs.length, c1, v.ns.length, c2], [a1, a2]⟩) (ids := []) rfl (Facts.initP rfl oneNil) ?_
  by_cases k0 : v.k = 0
  · refine br_t (show (v.k == 0) = true by simpa using k0) ?_
    by_cases h1 : v.cs = []
    · refine br_f (show decide ((v.cs.length : Int) > 0) = false by rw [len_pos]; simpa using h1) ?_
      by_cases h2 : v.ns = []
      · refine br_f (show decide ((v.ns.length : Int) > 0) = false by rw [len_pos]; simpa using h2) (pure_done fun _ => ?_)
        unfold valE; rw [if_pos k0, if_neg (by simp [h1, h2])]; rfl
      · refine br_t (show decide ((v.ns.length : Int) > 0) = true by rw [len_pos]; simpa using h2) (pure_done fun _ => ?_)
        unfold valE; rw [if_pos k0, if_pos (.inr h2)]; rfl
    · refine br_t (show decide ((v.cs.length : Int) > 0) = true by rw [len_pos]; simpa using h1) (pure_done fun _ => ?_)
      unfold valE; rw [if_pos k0, if_pos (.inl h1)]; rfl
  refine br_f (show (v.k == 0) = false by simpa using k0) ?_
  by_cases k2 : v.k = 2
  · refine br_t (show (v.k == 2) = true by simpa using k2) ?_
    by_cases h1 : v.cs = []
    · refine br_f (show decide ((v.cs.length : Int) > 0) = false by rw [len_pos]; simpa using h1) ?_
      refine node_pure ⟨[checkV v.ns], [], [], [], []⟩ rfl rfl rfl oneNil (fun ids w2 hp hf => ?_) (pure_done fun _ => ?_)
      · exact (check_any a2 c2 v.ns w2 (H.n.ext hf.chg.below)).mono fun e w' h => ⟨h.1, by rw [← h.2]; exact Below.refl _ _⟩
      · unfold valE; rw [if_neg k0, if_pos k2, if_neg (by simpa using h1)]; rfl
    · refine br_t (show decide ((v.cs.length : Int) > 0) = true by rw [len_pos]; simpa using h1) (pure_done fun _ => ?_)
      unfold valE; rw [if_neg k0, if_pos k2, if_pos h1]; rfl
  refine br_f (show (v.k == 2) = false by simpa using k2) ?_
  by_cases k1 : v.k = 1
  · refine br_t (show (v.k == 1) = true by simpa using k1) ?_
    have val : ∀ (b : Prop), (v.cs = [] ∨ 8 < v.cs.length ∨ v.ns ≠ []) → valE v = 25 := fun _ h => by unfold valE; rw [if_neg k0, if_neg k2, if_pos k1, if_pos h]
    by_cases h1 : v.cs = []
    · refine br_t (show decide ((v.cs.length : Int) < 1) = true by rw [h1]; rfl) (pure_done fun _ => ?_)
      rw [val True (.inl h1)]; rfl
    refine br_f (show decide ((v.cs.length : Int) < 1) = false from decide_eq_false (by have := List.length_pos_iff.2 h1; omega)) ?_
    by_cases h2 : 8 < v.cs.length
    · refine br_t (show decide ((v.cs.length : Int) > 8) = true from decide_eq_true (by omega)) (pure_done fun _ => ?_)
      rw [val True (.inr (.inl h2))]; rfl
    refine br_f (show decide ((v.cs.length : Int) > 8) = false from decide_eq_false (by omega)) ?_
    by_cases h3 : v.ns = []
    · refine br_f (show decide ((v.ns.length : Int) > 0) = false by rw [len_pos]; simpa using h3) ?_
      have hE : valE v = firstE v.cs := by unfold valE; rw [if_neg k0, if_neg k2, if_pos k1, if_neg (by simp [h1, h3]; omega)]
      rw [hE]
      refine loop_i (ChI v) (fun vs => v.cs.length - (vs.i.headD 0).toNat) (fun ids w2 hp hf => ⟨HX.nil, HXok.none _ _, 0, by omega, rfl, rfl, rfl⟩) ?_
      rintro vs hx' hcnt ⟨k, hk1, he, rfl, rfl⟩
      by_cases hk : k < v.cs.length
      · refine br_t (show decide ((k : Int) < (v.cs.length : Int)) = true from decide_eq_true (by omega)) ?_
        obtain ⟨c, hc⟩ : ∃ b, v.cs[k]? = some b := ⟨_, List.getElem?_eq_getElem hk⟩
        obtain ⟨s1, c1⟩ := c_elt H.c hc
        refine need_i ⟨s1, (show (0 : Int) ≤ k by omega), (show (k : Int) < v.cs.length by omega)⟩ ?_
        refine ⟨⟨c.is, [], [], [], []⟩, fun ids => c1 _ (fun q => q), ⟨rfl, oneNil⟩, ?_⟩
        refine node_val ⟨[cmdV c], [], [], [], []⟩ (fun w => cmd_any c w) (fun _ => rfl) (fun _ => rfl) rfl rfl rfl oneNil ?_
        have hfe := firstE_drop hc
        rw [he] at hfe
        by_cases hz : cmdV c = 0
        · refine br_f (show (cmdV c != 0) = false by simpa using hz) ?_
          rw [if_neg (by simpa using hz)] at hfe
          have hwk : IntKind.i64.wrap ((k : Int) + 1) = ((k + 1 : Nat) : Int) := by rw [wrap_i64 (by omega)]; omega
          intro ids w2 hp hf
          refine ⟨HX.nil, HXok.none _ _, _, rfl, ⟨k + 1, by omega, hfe.symm, by rw [← hwk]; rfl, rfl⟩, ?_⟩
          show v.cs.length - (IntKind.i64.wrap ((k : Int) + 1)).toNat < v.cs.length - ((k : Int)).toNat
          rw [hwk]; omega
        · refine br_t (show (cmdV c != 0) = true by simpa using hz) (pure_done fun _ => ?_)
          rw [if_pos hz] at hfe
          rw [hfe]; rfl
      · refine br_f (show decide ((k : Int) < (v.cs.length : Int)) = false from decide_eq_false (by omega)) (pure_done fun _ => ?_)
        rw [← he, List.drop_of_length_le (by omega)]; rfl
    · refine br_t (show decide ((v.ns.length : Int) > 0) = true by rw [len_pos]; simpa using h3) (pure_done fun _ => ?_)
      rw [val True (.inr (.inr h3))]; rfl
  refine br_f (show (v.k == 1) = false by simpa using k1) (pure_done fun _ => ?_)
  unfold valE; rw [if_neg k0, if_neg k2, if_neg k1]; rfl
end Go.Proofs.Ytbedoemdjlollaa

namespace Go.Proofs.Ytbedoemdjlollaa
open Go.ChangeShapes Go.WideShapes Go.ChangeAt Go.RowKit Go.Syn Go.Eng
set_option linter.unusedVariables false
set_option linter.unusedSimpArgs false
set_option maxRecDepth 100000
theorem take_stepV {α : Type} {xs ys : List α} {k : Nat} {x y : α} (hx : xs[k]? = some x) (hy : ys[k]? = some y) (h : xs.take k = ys.take k) : xs.take (k + 1) = ys.take (k + 1) ↔ x = y := by
  rw [List.take_add_one, List.take_add_one, hx, hy, h]
  simp
theorem rchk_any (v : Vl) (a1 : Option Addr) (c1 : Nat) (a2 : Option Addr) (c2 : Nat) (w : World) (H : VlAt w v a1 a2) : Calls Try.prog 21 #[vlV v a1 c1 a2 c2] w (PureAt w (.int .i64 (valE v))) := by
  have hl1 := H.l1
  by_cases k0 : v.k = 0
  · unfold vlV
    rw [k0]
    refine calls_at (tab_ok _) Try.func21 rfl tRChk0 (ρ := ⟨[], [], [], [v.cs.length, c1, v.ns.length, c2], [a1, a2]⟩) (ids := []) rfl (Facts.initP rfl oneNil) ?_
    by_cases h1 : v.cs = []
    · refine br_f (show ((v.cs.length : Int) != 0) = false by rw [len_ne]; simpa using h1) ?_
      by_cases h2 : v.ns = []
      · refine br_f (show ((v.ns.length : Int) != 0) = false by rw [len_ne]; simpa using h2) ?_
        have hE : valE v = firstE v.cs := by unfold valE; rw [if_pos k0, if_neg (by simp [h1, h2]), h1]; rfl
        rw [hE]
        refine loop_i (ChI v) (fun vs => v.cs.length - (vs.i.headD 0).toNat) (fun ids w2 hp hf => ⟨HX.nil, HXok.none _ _, 0, by omega, rfl, rfl, rfl⟩) ?_
        rintro vs hx' hcnt ⟨k, hk1, he, rfl, rfl⟩
        by_cases hk : k < v.cs.length
        · refine br_t (show decide ((k : Int) < (v.cs.length : Int)) = true from decide_eq_true (by omega)) ?_
          obtain ⟨c, hc⟩ : ∃ b, v.cs[k]? = some b := ⟨_, List.getElem?_eq_getElem hk⟩
          obtain ⟨s1, c1⟩ := c_elt H.c hc
          refine need_i ⟨s1, (show (0 : Int) ≤ k by omega), (show (k : Int) < v.cs.length by omega)⟩ ?_
          refine ⟨⟨c.is, [], [], [], []⟩, fun ids => c1 _ (fun q => q), ⟨rfl, oneNil⟩, ?_⟩
          refine node_val ⟨[cmdV c], [], [], [], []⟩ (fun w => rcmd_any c w) (fun _ => rfl) (fun _ => rfl) rfl rfl rfl oneNil ?_
          have hfe := firstE_drop hc
          rw [he] at hfe
          by_cases hz : cmdV c = 0
          · refine br_f (show (cmdV c != 0) = false by simpa using hz) ?_
            rw [if_neg (by simpa using hz)] at hfe
            have hwk : IntKind.i64.wrap ((k : Int) + 1) = ((k + 1 : Nat) : Int) := by rw [wrap_i64 (by omega)]; omega
            intro ids w2 hp hf
            refine ⟨HX.nil, HXok.none _ _, _, rfl, ⟨k + 1, by omega, hfe.symm, by rw [← hwk]; rfl, rfl⟩, ?_⟩
            show v.cs.length - (IntKind.i64.wrap ((k : Int) + 1)).toNat < v.cs.length - ((k : Int)).toNat
            rw [hwk]; omega
          · refine br_t (show (cmdV c != 0) = true by simpa using hz) (pure_done fun _ => ?_)
            rw [if_pos hz] at hfe
            rw [hfe]; rfl
        · refine br_f (show decide ((k : Int) < (v.cs.length : Int)) = false from decide_eq_false (by omega)) (pure_done fun _ => ?_)
          rw [← he, List.drop_of_length_le (by omega)]; rfl
      · refine br_t (show ((v.ns.length : Int) != 0) = true by rw [len_ne]; simpa using h2) (pure_done fun _ => ?_)
        unfold valE; rw [if_pos k0, if_pos (.inr h2)]; rfl
    · refine br_t (show ((v.cs.length : Int) != 0) = true by rw [len_ne]; simpa using h1) (pure_done fun _ => ?_)
      unfold valE; rw [if_pos k0, if_pos (.inl h1)]; rfl
  by_cases k2 : v.k = 2
  · unfold vlV
    rw [k2]
    refine calls_at (tab_ok _) Try.func21 rfl tRChk2 (ρ := ⟨[], [], [], [v.cs.length, c1, v.ns.length, c2], [a1, a2]⟩) (ids := []) rfl (Facts.initP rfl oneNil) ?_
    by_cases h1 : v.cs = []
    · refine br_f (show ((v.cs.length : Int) != 0) = false by rw [len_ne]; simpa using h1) ?_
      refine node_pure ⟨[], [setOkB v.ns], [], [], []⟩ rfl rfl rfl oneNil (fun ids w2 hp hf => ?_) ?_
      · exact refRight_any a2 c2 v.ns w2 (H.n.ext hf.chg.below)
      have hE : valE v = if setOkB v.ns then 0 else 24 := by unfold valE checkV; rw [if_neg k0, if_pos k2, if_neg (by simpa using h1)]
      cases hs : setOkB v.ns with
      | false =>
        rw [hE, hs]
        exact br_t rfl (pure_done fun _ => rfl)
      | true =>
        refine br_f rfl ?_
        have hE2 : valE v = firstE v.cs := by rw [hE, hs, h1]; rfl
        rw [hE2]
        refine loop_i (ChI v) (fun vs => v.cs.length - (vs.i.headD 0).toNat) (fun ids w2 hp hf => ⟨HX.nil, HXok.none _ _, 0, by omega, rfl, rfl, rfl⟩) ?_
        rintro vs hx' hcnt ⟨k, hk1, he, rfl, rfl⟩
        by_cases hk : k < v.cs.length
        · refine br_t (show decide ((k : Int) < (v.cs.length : Int)) = true from decide_eq_true (by omega)) ?_
          obtain ⟨c, hc⟩ : ∃ b, v.cs[k]? = some b := ⟨_, List.getElem?_eq_getElem hk⟩
          obtain ⟨s1, c1⟩ := c_elt H.c hc
          refine need_i ⟨s1, (show (0 : Int) ≤ k by omega), (show (k : Int) < v.cs.length by omega)⟩ ?_
          refine ⟨⟨c.is, [], [], [], []⟩, fun ids => c1 _ (fun q => q), ⟨rfl, oneNil⟩, ?_⟩
          refine node_val ⟨[cmdV c], [], [], [], []⟩ (fun w => rcmd_any c w) (fun _ => rfl) (fun _ => rfl) rfl rfl rfl oneNil ?_
          have hfe := firstE_drop hc
          rw [he] at hfe
          by_cases hz : cmdV c = 0
          · refine br_f (show (cmdV c != 0) = false by simpa using hz) ?_
            rw [if_neg (by simpa using hz)] at hfe
            have hwk : IntKind.i64.wrap ((k : Int) + 1) = ((k + 1 : Nat) : Int) := by rw [wrap_i64 (by omega)]; omega
            intro ids w2 hp hf
            refine ⟨HX.nil, HXok.none _ _, _, rfl, ⟨k + 1, by omega, hfe.symm, by rw [← hwk]; rfl, rfl⟩, ?_⟩
            show v.cs.length - (IntKind.i64.wrap ((k : Int) + 1)).toNat < v.cs.length - ((k : Int)).toNat
            rw [hwk]; omega
          · refine br_t (show (cmdV c != 0) = true by simpa using hz) (pure_done fun _ => ?_)
            rw [if_pos hz] at hfe
            rw [hfe]; rfl
        · refine br_f (show decide ((k : Int) < (v.cs.length : Int)) = false from decide_eq_false (by omega)) (pure_done fun _ => ?_)
          rw [← he, List.drop_of_length_le (by omega)]; rfl
    · refine br_t (show ((v.cs.length : Int) != 0) = true by rw [len_ne]; simpa using h1) (pure_done fun _ => ?_)
      unfold valE; rw [if_neg k0, if_pos k2, if_pos h1]; rfl
  by_cases k1 : v.k = 1
  · unfold vlV
    rw [k1]
    refine calls_at (tab_ok _) Try.func21 rfl tRChk1 (ρ := ⟨[], [], [], [v.cs.length, c1, v.ns.length, c2], [a1, a2]⟩) (ids := []) rfl (Facts.initP rfl oneNil) ?_
    have val : ∀ (b : Prop), (v.cs = [] ∨ 8 < v.cs.length ∨ v.ns ≠ []) → valE v = 25 := fun _ h => by unfold valE; rw [if_neg k0, if_neg k2, if_pos k1, if_pos h]
    by_cases h3 : v.ns = []
    · refine br_f (show ((v.ns.length : Int) != 0) = false by rw [len_ne]; simpa using h3) ?_
      by_cases h1 : v.cs = []
      · refine br_t (show ((v.cs.length : Int) == 0) = true by rw [h1]; rfl) (pure_done fun _ => ?_)
        rw [val True (.inl h1)]; rfl
      refine br_f (show ((v.cs.length : Int) == 0) = false by have := List.length_pos_iff.2 h1; simp only [beq_eq_false_iff_ne]; omega) ?_
      by_cases h2 : 8 < v.cs.length
      · refine br_t (show decide ((v.cs.length : Int) > 8) = true from decide_eq_true (by omega)) (pure_done fun _ => ?_)
        rw [val True (.inr (.inl h2))]; rfl
      refine br_f (show decide ((v.cs.length : Int) > 8) = false from decide_eq_false (by omega)) ?_
      have hE : valE v = firstE v.cs := by unfold valE; rw [if_neg k0, if_neg k2, if_pos k1, if_neg (by simp [h1, h3]; omega)]
      rw [hE]
      refine loop_i (ChI v) (fun vs => v.cs.length - (vs.i.headD 0).toNat) (fun ids w2 hp hf => ⟨HX.nil, HXok.none _ _, 0, by omega, rfl, rfl, rfl⟩) ?_
      rintro vs hx' hcnt ⟨k, hk1, he, rfl, rfl⟩
      by_cases hk : k < v.cs.length
      · refine br_t (show decide ((k : Int) < (v.cs.length : Int)) = true from decide_eq_true (by omega)) ?_
        obtain ⟨c, hc⟩ : ∃ b, v.cs[k]? = some b := ⟨_, List.getElem?_eq_getElem hk⟩
        obtain ⟨s1, c1⟩ := c_elt H.c hc
        refine need_i ⟨s1, (show (0 : Int) ≤ k by omega), (show (k : Int) < v.cs.length by omega)⟩ ?_
        refine ⟨⟨c.is, [], [], [], []⟩, fun ids => c1 _ (fun q => q), ⟨rfl, oneNil⟩, ?_⟩
        refine node_val ⟨[cmdV c], [], [], [], []⟩ (fun w => rcmd_any c w) (fun _ => rfl) (fun _ => rfl) rfl rfl rfl oneNil ?_
        have hfe := firstE_drop hc
        rw [he] at hfe
        by_cases hz : cmdV c = 0
        · refine br_f (show (cmdV c != 0) = false by simpa using hz) ?_
          rw [if_neg (by simpa using hz)] at hfe
          have hwk : IntKind.i64.wrap ((k : Int) + 1) = ((k + 1 : Nat) : Int) := by rw [wrap_i64 (by omega)]; omega
          intro ids w2 hp hf
          refine ⟨HX.nil, HXok.none _ _, _, rfl, ⟨k + 1, by omega, hfe.symm, by rw [← hwk]; rfl, rfl⟩, ?_⟩
          show v.cs.length - (IntKind.i64.wrap ((k : Int) + 1)).toNat < v.cs.length - ((k : Int)).toNat
          rw [hwk]; omega
        · refine br_t (show (cmdV c != 0) = true by simpa using hz) (pure_done fun _ => ?_)
          rw [if_pos hz] at hfe
          rw [hfe]; rfl
      · refine br_f (show decide ((k : Int) < (v.cs.length : Int)) = false from decide_eq_false (by omega)) (pure_done fun _ => ?_)
        rw [← he, List.drop_of_length_le (by omega)]; rfl
    · refine br_t (show ((v.ns.length : Int) != 0) = true by rw [len_ne]; simpa using h3) (pure_done fun _ => ?_)
      rw [val True (.inr (.inr h3))]; rfl
  · refine calls_at (tab_ok _) Try.func21 rfl tRChk (ρ := ⟨[v.k], [], [], [v.cs.length, c1, v.ns.length, c2], [a1, a2]⟩) (ids := []) rfl (Facts.initP rfl oneNil) ?_
    have hE : valE v = 25 := by unfold valE; rw [if_neg k0, if_neg k2, if_neg k1]
    by_cases hn : v.k < 0
    · refine br_t (show decide (v.k < 0) = true from decide_eq_true hn) (pure_done fun _ => ?_)
      rw [hE]; rfl
    · refine br_f (show decide (v.k < 0) = false from decide_eq_false hn) ?_
      refine br_t (show decide (v.k > 2) = true from decide_eq_true (by omega)) (pure_done fun _ => ?_)
      rw [hE]; rfl
def ItI (xs ys : List Int) (vs : Vals) (hx : HX) : Prop := ∃ k : Nat, k ≤ xs.length ∧ xs.take k = ys.take k ∧ vs = ⟨[(k : Int)], [], [], [], []⟩ ∧ hx = HX.nil
theorem ints_at {w : World} {a : Option Addr} {xs : List Int} (h : Ints w a xs) {i : Nat} {x : Int} (hi : xs[i]? = some x) : a.isSome = true ∧ ∀ (N : Nat → Prop), ¬ N ((a.getD ⟨0, 0, none⟩).block) → CellsAt w (.pointer (some (((a.getD ⟨0, 0, none⟩).add (i * 1)).add 0))) [.int .i64 x] N := ints_elt h hi
def cmdEq (c d : CmD) : Bool := (c.sess == d.sess) && ((c.seq == d.seq) && ((c.ack == d.ack) && ((c.op.kind == d.op.kind) && ((c.op.reg == d.op.reg) && ((c.op.tg == d.op.tg) && ((c.op.re == d.op.re) && (c.op.im == d.op.im)))))))
theorem cmdEq_iff (c d : CmD) : cmdEq c d = true ↔ c = d := by
  obtain ⟨a1, a2, a3, ⟨a4, a5, a6, a7, a8⟩⟩ := c
  obtain ⟨b1, b2, b3, ⟨b4, b5, b6, b7, b8⟩⟩ := d
  simp [cmdEq]
open Classical in
noncomputable def vlSame (v u : Vl) : Bool := decide (v = u)
theorem vlSame_f {v u : Vl} (h : ¬ v = u) : vlSame v u = false := @decide_eq_false _ (Classical.propDecidable _) h
theorem vlSame_t {v u : Vl} (h : v = u) : vlSame v u = true := @decide_eq_true _ (Classical.propDecidable _) h
theorem ccells_ne {cs : List CmD} (h : cs ≠ []) : ccells cs ≠ [] := fun q => by
  cases cs with
  | nil => exact h rfl
  | cons c r => simp [ccells, CmD.cells] at q
theorem info_cmd : (Try.prog.info? 43).map (fun i => (i.zero, i.size, i.bytes)) = some (some (.agg #[.int .i64 0, .int .i64 0, .int .i64 0, .int .i64 0, .int .i64 0, .int .i64 0, .int .i64 0, .int .i64 0]), 8, 64) := by kernel_rfl
theorem info_int1 : (Try.prog.info? 3).map (fun i => (i.zero, i.size, i.bytes)) = some (some (.int .i64 0), 1, 8) := by kernel_rfl
def crow (a : Option Addr) (n c : Nat) (cs : List CmD) : HX := HX.rw 8 43 a n c (ccells cs)
def nrow (a : Option Addr) (n c : Nat) (ns : List Int) : HX := HX.rw 1 3 a n c (ns.map (Value.int .i64))
theorem cmd_one (c : CmD) : ∀ v ∈ c.cells, v.oneCell' = true := fun v hv => by
  simp only [CmD.cells, List.mem_cons, List.not_mem_nil, or_false] at hv
  rcases hv with rfl | rfl | rfl | rfl | rfl | rfl | rfl | rfl <;> rfl
theorem rw_ltx {sz e n cap : Nat} {a : Option Addr} {xs : List Value} {w : World} (h : (HX.rw sz e a n cap xs).X w) {k : Nat} (h1 : cap ≠ 0) (h2 : abk a = some k) : k < w.heap.size := by
  obtain ⟨g, _, rfl, q, _⟩ := rw_open h h1
  cases h2; exact q
def vlX (v : Vl) (a1 a2 : Option Addr) : HX := (HX.cl a1 (ccells v.cs)).and (HX.cl a2 (v.ns.map (Value.int .i64)))
structure VlFit (v : Vl) : Prop where
  n : ∀ n ∈ v.ns, I64 n
  l1 : v.cs.length ≤ 2199023255552
  l2 : v.ns.length ≤ 17592186044416
theorem VlFit.at_ {v : Vl} (h : VlFit v) {a1 a2 : Option Addr} {w : World} (hX : (vlX v a1 a2).X w) : VlAt w v a1 a2 := ⟨hX.1, Ints.of_cells (by have := h.l2; omega) h.n hX.2, h.l1, h.l2⟩
theorem VlAt.X {v : Vl} {a1 a2 : Option Addr} {w : World} (H : VlAt w v a1 a2) : (vlX v a1 a2).X w := ⟨H.c, H.n.cells⟩
theorem VlAt.fit {v : Vl} {a1 a2 : Option Addr} {w : World} (H : VlAt w v a1 a2) : VlFit v := ⟨H.n.fits, H.l1, H.l2⟩
theorem vlX_sep {v : Vl} {a1 a2 : Option Addr} {w : World} (h : (vlX v a1 a2).X w) : ∀ k, (vlX v a1 a2).F k → k < w.heap.size := fun k hk => hk.elim (cl_sep h.1 k) (cl_sep h.2 k)
section
variable {C : Cfg} {ρ : Env} {pre : List Nat} {hx : HX} {L : Stack} {m m' : Mem} {args : List SV} {r : SV} {t : Tree}
end
theorem ccells_one (cs : List CmD) : ∀ v ∈ ccells cs, v.oneCell' = true := fun v hv => by
  obtain ⟨c, _, h⟩ := List.mem_flatMap.1 hv
  exact cmd_one c v h
theorem rw_fresh {b : Option Addr} {n d sz e : Nat} {cs : List Value} {w : World} {N : Nat} (hx : (HX.rw sz e b n d cs).X w) (hk : ∀ k, d ≠ 0 → abk b = some k → N ≤ k) : ∀ k, (HX.cl b cs).F k → N ≤ k := by
  rintro k ⟨hne, rfl⟩
  have hc : d ≠ 0 := fun q => by
    rcases hx with ⟨_, _, h3⟩ | ⟨h3, _⟩
    · exact hne h3
    · exact h3 q
  obtain ⟨g, _, rfl, _⟩ := rw_open hx hc
  exact hk g hc rfl
set_option maxRecDepth 100000 in
theorem tCpVal : (runF ⟨tt, fns, {}⟩ (Try.f23.body.getD .skip) Try.f23.results.toList (entry Try.f23.ntmps [.agg [.int .i64 (.var 0), .sl 0 (.var 0) (.var 1), .sl 1 (.var 2) (.var 3)]] [] ⟨1, 0, 0, 4, 2⟩)) =
  (.gen (.call ⟨(.builtin .append), #[(.tmp 8), (.tmp 10)], #[32, 32]⟩) 32 [(8, (.lf .nilsl)), (10, (.lf (tSl 0 0 1)))] ⟨[(35, [(tVi 0), (tSl 0 0 1), (tSl 1 2 3)]), (35, [(tLi 0), .nilsl, .nilsl]), (35, [(tVi 0), .nilsl, .nilsl])], ⟨1, 0, 0, 4, 2⟩⟩ (.some (.lf (tSl 2 4 5))) ⟨[(35, [(tVi 0), (tSl 0 0 1), (tSl 1 2 3)]), (35, [(tLi 0), .nilsl, .nilsl]), (35, [(tVi 0), .nilsl, .nilsl])], ⟨1, 0, 0, 6, 3⟩⟩ (.gen (.call ⟨(.builtin .append), #[(.tmp 14), (.tmp 16)], #[33, 33]⟩) 33 [(14, (.lf .nilsl)), (16, (.lf (tSl 1 2 3)))] ⟨[(35, [(tVi 0), (tSl 0 0 1), (tSl 1 2 3)]), (35, [(tLi 0), .nilsl, .nilsl]), (35, [(tVi 0), (tSl 2 4 5), .nilsl])], ⟨1, 0, 0, 6, 3⟩⟩ (.some (.lf (tSl 3 6 7))) ⟨[(35, [(tVi 0), (tSl 0 0 1), (tSl 1 2 3)]), (35, [(tLi 0), .nilsl, .nilsl]), (35, [(tVi 0), (tSl 2 4 5), .nilsl])], ⟨1, 0, 0, 8, 4⟩⟩ (.done (.agg [(tVi 0), (tSl 2 4 5), (tSl 3 6 7)]) ⟨[(35, [(tVi 0), (tSl 0 0 1), (tSl 1 2 3)]), (35, [(tVi 0), (tSl 2 4 5), (tSl 3 6 7)]), (35, [(tVi 0), (tSl 2 4 5), (tSl 3 6 7)])], ⟨1, 0, 0, 8, 4⟩⟩))) := by kernel_rfl
def cmDat (c : CmD) : Dat := .parts [.int .i64 c.sess, .int .i64 c.seq, .int .i64 c.ack, .parts [.int .i64 c.op.kind, .int .i64 c.op.reg, .int .i64 c.op.tg, .int .i64 c.op.re, .int .i64 c.op.im]]
def CmFit (c : CmD) : Prop := ∀ i ∈ c.is, I64 i
theorem opn_int {w : World} {d : Dat} (h : d.In Try.prog w 3) : ∃ k : Int, d = .int .i64 k ∧ I64 k := by
  obtain ⟨k, rfl, hk⟩ := in_int Try.underlying3 h
  exact ⟨k, rfl, I64.of_wf hk⟩
theorem opn_cmd {w : World} {d : Dat} (h : d.In Try.prog w 43) : ∃ c : CmD, d = cmDat c ∧ CmFit c := by
  obtain ⟨ds, rfl, g⟩ := in_struct Try.underlying43 h
  obtain ⟨d0, r0, rfl, h0, g0⟩ := inEach_cons g
  obtain ⟨d1, r1, rfl, h1, g1⟩ := inEach_cons g0
  obtain ⟨d2, r2, rfl, h2, g2⟩ := inEach_cons g1
  obtain ⟨d3, r3, rfl, h3, g3⟩ := inEach_cons g2
  obtain rfl := inEach_nil g3
  obtain ⟨es, rfl, f⟩ := in_struct Try.underlying41 h3
  obtain ⟨e0, s0, rfl, k0, f1⟩ := inEach_cons f
  obtain ⟨e1, s1, rfl, k1, f2⟩ := inEach_cons f1
  obtain ⟨e2, s2, rfl, k2, f3⟩ := inEach_cons f2
  obtain ⟨e3, s3, rfl, k3, f4⟩ := inEach_cons f3
  obtain ⟨e4, s4, rfl, k4, f5⟩ := inEach_cons f4
  obtain rfl := inEach_nil f5
  obtain ⟨x0, rfl, p0⟩ := opn_int h0
  obtain ⟨x1, rfl, p1⟩ := opn_int h1
  obtain ⟨x2, rfl, p2⟩ := opn_int h2
  obtain ⟨y0, rfl, q0⟩ := opn_int k0
  obtain ⟨y1, rfl, q1⟩ := opn_int k1
  obtain ⟨y2, rfl, q2⟩ := opn_int k2
  obtain ⟨y3, rfl, q3⟩ := opn_int k3
  obtain ⟨y4, rfl, q4⟩ := opn_int k4
  refine ⟨⟨x0, x1, x2, ⟨y0, y1, y2, y3, y4⟩⟩, rfl, fun i hi => ?_⟩
  simp only [CmD.is, List.mem_cons, List.not_mem_nil, or_false] at hi
  rcases hi with rfl | rfl | rfl | rfl | rfl | rfl | rfl | rfl <;> assumption
theorem dat_cells : ∀ cs : List CmD, Dat.cellsAll (cs.map cmDat) = ccells cs
  | [] => rfl
  | c :: r => by
    show Dat.cellsAll (cmDat c :: r.map cmDat) = c.cells ++ ccells r
    rw [← dat_cells r]; rfl
theorem dat_ints : ∀ ns : List Int, Dat.cellsAll (ns.map fun n => Dat.int .i64 n) = ns.map (Value.int .i64)
  | [] => rfl
  | n :: r => by rw [List.map_cons, List.map_cons, ← dat_ints r]; rfl
theorem bytes_cmd : Try.prog.bytesOf 43 = 64 := by kernel_rfl
theorem bytes_int : Try.prog.bytesOf 3 = 8 := by kernel_rfl
theorem reach_is : reachBytes ≤ 140737488355328 := by unfold reachBytes; decide
theorem opn_vl {w : World} {d : Dat} (h : d.In Try.prog w 35) : ∃ (v : Vl) (a1 : Option Addr) (c1 : Nat) (a2 : Option Addr) (c2 : Nat), d.cells = [.int .i64 v.k, .slice a1 v.cs.length c1, .slice a2 v.ns.length c2] ∧ VlAt w v a1 a2 ∧ I64 v.k ∧ ∀ c ∈ v.cs, CmFit c := by
  obtain ⟨ds, rfl, g⟩ := in_struct Try.underlying35 h
  obtain ⟨d0, r0, rfl, h0, g0⟩ := inEach_cons g
  obtain ⟨d1, r1, rfl, h1, g1⟩ := inEach_cons g0
  obtain ⟨d2, r2, rfl, h2, g2⟩ := inEach_cons g1
  obtain rfl := inEach_nil g2
  obtain ⟨k, rfl, hk⟩ := opn_int h0
  obtain ⟨a1, c1, ds1, rfl, l1, m1, b1, C1, I1⟩ := in_slice Try.underlying32 h1
  obtain ⟨a2, c2, ds2, rfl, l2, m2, b2, C2, I2⟩ := in_slice Try.underlying33 h2
  obtain ⟨cs, rfl, hcs⟩ := list_map_of cmDat CmFit ds1 (fun d hd => opn_cmd (I1 d hd))
  obtain ⟨ns, rfl, hns⟩ := list_map_of (fun n => Dat.int .i64 n) I64 ds2 (fun d hd => opn_int (I2 d hd))
  have hr := reach_is
  rw [bytes_cmd, List.length_map] at b1
  rw [bytes_int, List.length_map] at b2
  rw [dat_cells] at C1
  rw [dat_ints] at C2
  have hc1 : cs.length ≤ 2199023255552 := by omega
  have hn1 : ns.length ≤ 17592186044416 := by omega
  refine ⟨⟨k, cs, ns⟩, a1, c1, a2, c2, ?_, ⟨C1, Ints.of_cells (Nat.le_trans hn1 (by decide)) hns C2, hc1, hn1⟩, hk, hcs⟩
  show [Value.int .i64 k] ++ ([Value.slice a1 (cs.map cmDat).length c1] ++ ([Value.slice a2 (ns.map _).length c2] ++ [])) = _
  rw [List.length_map, List.length_map]; rfl
set_option maxRecDepth 100000 in
theorem tEqC : (runF ⟨tt, fns, { loops := [(4, ⟨[(13, .int .i64)], []⟩)] }⟩ (Try.f40.body.getD .skip) Try.f40.results.toList (entry Try.f40.ntmps [.lf (.sl 0 (.var 0) (.var 1)), .lf (.sl 1 (.var 2) (.var 3))] [] ⟨0, 0, 0, 4, 2⟩)) =
  (.br (.cmp .neq (.nat 0) (.nat 2)) (.done (.lf (.bool (.lit .false))) ⟨[], ⟨0, 0, 0, 4, 2⟩⟩) (.loop 4 ⟨[(.lit 0)], [], [], [], []⟩ ⟨[], ⟨0, 0, 0, 4, 2⟩⟩ ⟨[], ⟨1, 0, 0, 4, 2⟩⟩ (.br (.cmp .lss (.var 0) (.nat 0)) (.need (.inb 0 (.var 0) (.nat 0)) (.need (.inb 1 (.var 0) (.nat 2)) (.par (.ld .false (.adr 0 (.var 0) 8 0) [(tVi 1), (tVi 2), (tVi 3), (tVi 4), (tVi 5), (tVi 6), (tVi 7), (tVi 8)] ⟨[], ⟨1, 0, 0, 4, 2⟩⟩ ⟨[], ⟨9, 0, 0, 4, 2⟩⟩ (.ld .false (.adr 1 (.var 0) 8 0) [(tVi 9), (tVi 10), (tVi 11), (tVi 12), (tVi 13), (tVi 14), (tVi 15), (tVi 16)] ⟨[], ⟨9, 0, 0, 4, 2⟩⟩ ⟨[], ⟨17, 0, 0, 4, 2⟩⟩ (.br (.not (.and (.cmp .eql (.var 1) (.var 9)) (.and (.cmp .eql (.var 2) (.var 10)) (.and (.cmp .eql (.var 3) (.var 11)) (.and (.cmp .eql (.var 4) (.var 12)) (.and (.cmp .eql (.var 5) (.var 13)) (.and (.cmp .eql (.var 6) (.var 14)) (.and (.cmp .eql (.var 7) (.var 15)) (.cmp .eql (.var 8) (.var 16)))))))))) (.done (.lf (.bool (.lit .false))) ⟨[], ⟨17, 0, 0, 4, 2⟩⟩) (.again 4 ⟨[(.op .add .i64 (.var 0) (.lit 1))], [], [], [], []⟩ ⟨[], ⟨17, 0, 0, 4, 2⟩⟩)))) (.ld .false (.adr 1 (.var 0) 8 0) [(tVi 1), (tVi 2), (tVi 3), (tVi 4), (tVi 5), (tVi 6), (tVi 7), (tVi 8)] ⟨[], ⟨1, 0, 0, 4, 2⟩⟩ ⟨[], ⟨9, 0, 0, 4, 2⟩⟩ (.ld .false (.adr 0 (.var 0) 8 0) [(tVi 9), (tVi 10), (tVi 11), (tVi 12), (tVi 13), (tVi 14), (tVi 15), (tVi 16)] ⟨[], ⟨9, 0, 0, 4, 2⟩⟩ ⟨[], ⟨17, 0, 0, 4, 2⟩⟩ (.br (.not (.and (.cmp .eql (.var 9) (.var 1)) (.and (.cmp .eql (.var 10) (.var 2)) (.and (.cmp .eql (.var 11) (.var 3)) (.and (.cmp .eql (.var 12) (.var 4)) (.and (.cmp .eql (.var 13) (.var 5)) (.and (.cmp .eql (.var 14) (.var 6)) (.and (.cmp .eql (.var 15) (.var 7)) (.cmp .eql (.var 16) (.var 8)))))))))) (.done (.lf (.bool (.lit .false))) ⟨[], ⟨17, 0, 0, 4, 2⟩⟩) (.again 4 ⟨[(.op .add .i64 (.var 0) (.lit 1))], [], [], [], []⟩ ⟨[], ⟨17, 0, 0, 4, 2⟩⟩))))))) (.done (.lf (.bool (.lit .true))) ⟨[], ⟨1, 0, 0, 4, 2⟩⟩)))) := by kernel_rfl
noncomputable def csSame (xs ys : List CmD) : Bool := @decide (xs = ys) (Classical.propDecidable _)
theorem csSame_f {xs ys : List CmD} (h : ¬ xs = ys) : csSame xs ys = false := @decide_eq_false _ (Classical.propDecidable _) h
theorem csSame_t {xs ys : List CmD} (h : xs = ys) : csSame xs ys = true := @decide_eq_true _ (Classical.propDecidable _) h
def IcI (xs ys : List CmD) (vs : Vals) (hx : HX) : Prop := ∃ k : Nat, k ≤ xs.length ∧ xs.take k = ys.take k ∧ vs = ⟨[(k : Int)], [], [], [], []⟩ ∧ hx = HX.nil
theorem eqc_any (a : Option Addr) (cap : Nat) (xs : List CmD) (a2 : Option Addr) (cap2 : Nat) (ys : List CmD) (w : World) (H : Cells w a (ccells xs)) (H2 : Cells w a2 (ccells ys)) (hl : xs.length ≤ 140737488355328) : Calls Try.prog 40 #[.slice a xs.length cap, .slice a2 ys.length cap2] w (PureAt w (.bool (csSame xs ys))) := by
  refine calls_at (tab_ok _) Try.func40 rfl tEqC (ρ := ⟨[], [], [], [xs.length, cap, ys.length, cap2], [a, a2]⟩) (ids := []) rfl (Facts.initP rfl oneNil) ?_
  by_cases hlen : xs.length = ys.length
  · refine br_f (show ((xs.length : Int) != (ys.length : Int)) = false by simp [hlen]) ?_
    refine loop_i (IcI xs ys) (fun vs => xs.length - (vs.i.headD 0).toNat) (fun ids w2 hp hf => ⟨HX.nil, HXok.none _ _, 0, by omega, rfl, rfl, rfl⟩) ?_
    rintro vs hx' hcnt ⟨k, hk1, he, rfl, rfl⟩
    by_cases hk : k < xs.length
    · refine br_t (show decide ((k : Int) < (xs.length : Int)) = true from decide_eq_true (by omega)) ?_
      obtain ⟨x, hx⟩ : ∃ b, xs[k]? = some b := ⟨_, List.getElem?_eq_getElem hk⟩
      obtain ⟨y, hy⟩ : ∃ b, ys[k]? = some b := ⟨_, List.getElem?_eq_getElem (by omega)⟩
      obtain ⟨s1, c1⟩ := c_elt H hx
      obtain ⟨s2, c2⟩ := c_elt H2 hy
      have hst := take_stepV hx hy he
      have hwk : IntKind.i64.wrap ((k : Int) + 1) = ((k + 1 : Nat) : Int) := by rw [wrap_i64 (by omega)]; omega
      refine need_i ⟨s1, (show (0 : Int) ≤ k by omega), (show (k : Int) < xs.length by omega)⟩ ?_
      refine need_i ⟨s2, (show (0 : Int) ≤ k by omega), (show (k : Int) < ys.length by omega)⟩ ?_
      by_cases hxy : x = y
      · have e1 := hst.2 hxy
        have hce : (!cmdEq x y) = false := by rw [(cmdEq_iff x y).2 hxy]; rfl
        have fin : ∀ {es : Vec} {m : Mem} {ρ : Env} {L : Stack}, (∀ ids, es.den ρ ids = ⟨[IntKind.i64.wrap ((k : Int) + 1)], [], [], [], []⟩) → (Tree.again 4 es m).holds ⟨Try.prog, w, fun _ => False, PureAt w (.bool (csSame xs ys))⟩ ρ [] HX.nil ((4, fun vs' hx'' => IcI xs ys vs' hx'' ∧ xs.length - (vs'.i.headD 0).toNat < xs.length - ((⟨[(k : Int)], [], [], [], []⟩ : Vals).i.headD 0).toNat) :: L) := by
          intro es m ρ L hes ids w2 hp hf
          refine ⟨HX.nil, HXok.none _ _, _, rfl, ?_⟩
          rw [hes]
          refine ⟨⟨k + 1, by omega, e1, by rw [hwk], rfl⟩, ?_⟩
          show xs.length - (IntKind.i64.wrap ((k : Int) + 1)).toNat < xs.length - ((k : Int)).toNat
          rw [hwk]; omega
        refine par_i ?_ ?_
        · refine ⟨⟨x.is, [], [], [], []⟩, fun ids => c1 _ (fun q => q), ⟨rfl, oneNil⟩, ?_⟩
          refine ⟨⟨y.is, [], [], [], []⟩, fun ids => c2 _ (fun q => q), ⟨rfl, oneNil⟩, ?_⟩
          exact br_f (Eq.trans (b := !cmdEq x y) (by kernel_rfl) hce) (fin (fun _ => rfl))
        · refine ⟨⟨y.is, [], [], [], []⟩, fun ids => c2 _ (fun q => q), ⟨rfl, oneNil⟩, ?_⟩
          refine ⟨⟨x.is, [], [], [], []⟩, fun ids => c1 _ (fun q => q), ⟨rfl, oneNil⟩, ?_⟩
          exact br_f (Eq.trans (b := !cmdEq x y) (by kernel_rfl) hce) (fin (fun _ => rfl))
      · have hce : (!cmdEq x y) = true := by
          have : cmdEq x y = false := by
            cases h : cmdEq x y with
            | false => rfl
            | true => exact absurd ((cmdEq_iff x y).1 h) hxy
          rw [this]; rfl
        have hne : ¬ xs = ys := fun e => hxy (by rw [e] at hx; rw [hx] at hy; exact Option.some.inj hy)
        have fin : ∀ {m : Mem} {ρ : Env} {L : Stack} {hx : HX}, (Tree.done (.lf (.bool (.lit false))) m).holds ⟨Try.prog, w, fun _ => False, PureAt w (.bool (csSame xs ys))⟩ ρ [] hx L := pure_done fun _ => by rw [csSame_f hne]; rfl
        refine par_i ?_ ?_
        · refine ⟨⟨x.is, [], [], [], []⟩, fun ids => c1 _ (fun q => q), ⟨rfl, oneNil⟩, ?_⟩
          refine ⟨⟨y.is, [], [], [], []⟩, fun ids => c2 _ (fun q => q), ⟨rfl, oneNil⟩, ?_⟩
          exact br_t (Eq.trans (b := !cmdEq x y) (by kernel_rfl) hce) fin
        · refine ⟨⟨y.is, [], [], [], []⟩, fun ids => c2 _ (fun q => q), ⟨rfl, oneNil⟩, ?_⟩
          refine ⟨⟨x.is, [], [], [], []⟩, fun ids => c1 _ (fun q => q), ⟨rfl, oneNil⟩, ?_⟩
          exact br_t (Eq.trans (b := !cmdEq x y) (by kernel_rfl) hce) fin
    · refine br_f (show decide ((k : Int) < (xs.length : Int)) = false from decide_eq_false (by omega)) (pure_done fun _ => ?_)
      have e : xs = ys := by rw [List.take_of_length_le (by omega), List.take_of_length_le (by omega)] at he; exact he
      rw [csSame_t e]; rfl
  · refine br_t (show ((xs.length : Int) != (ys.length : Int)) = true by simp only [bne_iff_ne, ne_eq]; omega) (pure_done fun _ => ?_)
    rw [csSame_f (fun e => hlen (by rw [e]))]; rfl
set_option maxRecDepth 100000 in
theorem tEqN : (runF ⟨tt, fns, { loops := [(4, ⟨[(13, .int .i64)], []⟩)] }⟩ (Try.f41.body.getD .skip) Try.f41.results.toList (entry Try.f41.ntmps [.lf (.sl 0 (.var 0) (.var 1)), .lf (.sl 1 (.var 2) (.var 3))] [] ⟨0, 0, 0, 4, 2⟩)) =
  (.br (.cmp .neq (.nat 0) (.nat 2)) (.done (.lf (.bool (.lit .false))) ⟨[], ⟨0, 0, 0, 4, 2⟩⟩) (.loop 4 ⟨[(.lit 0)], [], [], [], []⟩ ⟨[], ⟨0, 0, 0, 4, 2⟩⟩ ⟨[], ⟨1, 0, 0, 4, 2⟩⟩ (.br (.cmp .lss (.var 0) (.nat 0)) (.need (.inb 0 (.var 0) (.nat 0)) (.need (.inb 1 (.var 0) (.nat 2)) (.par (.ld .false (.adr 0 (.var 0) 1 0) [(tVi 1)] ⟨[], ⟨1, 0, 0, 4, 2⟩⟩ ⟨[], ⟨2, 0, 0, 4, 2⟩⟩ (.ld .false (.adr 1 (.var 0) 1 0) [(tVi 2)] ⟨[], ⟨2, 0, 0, 4, 2⟩⟩ ⟨[], ⟨3, 0, 0, 4, 2⟩⟩ (.br (.cmp .neq (.var 1) (.var 2)) (.done (.lf (.bool (.lit .false))) ⟨[], ⟨3, 0, 0, 4, 2⟩⟩) (.again 4 ⟨[(.op .add .i64 (.var 0) (.lit 1))], [], [], [], []⟩ ⟨[], ⟨3, 0, 0, 4, 2⟩⟩)))) (.ld .false (.adr 1 (.var 0) 1 0) [(tVi 1)] ⟨[], ⟨1, 0, 0, 4, 2⟩⟩ ⟨[], ⟨2, 0, 0, 4, 2⟩⟩ (.ld .false (.adr 0 (.var 0) 1 0) [(tVi 2)] ⟨[], ⟨2, 0, 0, 4, 2⟩⟩ ⟨[], ⟨3, 0, 0, 4, 2⟩⟩ (.br (.cmp .neq (.var 2) (.var 1)) (.done (.lf (.bool (.lit .false))) ⟨[], ⟨3, 0, 0, 4, 2⟩⟩) (.again 4 ⟨[(.op .add .i64 (.var 0) (.lit 1))], [], [], [], []⟩ ⟨[], ⟨3, 0, 0, 4, 2⟩⟩))))))) (.done (.lf (.bool (.lit .true))) ⟨[], ⟨1, 0, 0, 4, 2⟩⟩)))) := by kernel_rfl
theorem eqn_any (a : Option Addr) (cap : Nat) (xs : List Int) (a2 : Option Addr) (cap2 : Nat) (ys : List Int) (w : World) (H : Ints w a xs) (H2 : Ints w a2 ys) (hl : xs.length ≤ 140737488355328) : Calls Try.prog 41 #[.slice a xs.length cap, .slice a2 ys.length cap2] w (PureAt w (.bool (decide (xs = ys)))) := by
  refine calls_at (tab_ok _) Try.func41 rfl tEqN (ρ := ⟨[], [], [], [xs.length, cap, ys.length, cap2], [a, a2]⟩) (ids := []) rfl (Facts.initP rfl oneNil) ?_
  by_cases hlen : xs.length = ys.length
  · refine br_f (show ((xs.length : Int) != (ys.length : Int)) = false by simp [hlen]) ?_
    refine loop_i (ItI xs ys) (fun vs => xs.length - (vs.i.headD 0).toNat) (fun ids w2 hp hf => ⟨HX.nil, HXok.none _ _, 0, by omega, rfl, rfl, rfl⟩) ?_
    rintro vs hx' hcnt ⟨k, hk1, he, rfl, rfl⟩
    by_cases hk : k < xs.length
    · refine br_t (show decide ((k : Int) < (xs.length : Int)) = true from decide_eq_true (by omega)) ?_
      obtain ⟨x, hx⟩ : ∃ b, xs[k]? = some b := ⟨_, List.getElem?_eq_getElem hk⟩
      obtain ⟨y, hy⟩ : ∃ b, ys[k]? = some b := ⟨_, List.getElem?_eq_getElem (by omega)⟩
      obtain ⟨s1, c1⟩ := ints_at H hx
      obtain ⟨s2, c2⟩ := ints_at H2 hy
      have hst := take_stepV hx hy he
      have hwk : IntKind.i64.wrap ((k : Int) + 1) = ((k + 1 : Nat) : Int) := by rw [wrap_i64 (by omega)]; omega
      refine need_i ⟨s1, (show (0 : Int) ≤ k by omega), (show (k : Int) < xs.length by omega)⟩ ?_
      refine need_i ⟨s2, (show (0 : Int) ≤ k by omega), (show (k : Int) < ys.length by omega)⟩ ?_
      by_cases hxy : x = y
      · have e1 := hst.2 hxy
        have fin : ∀ {es : Vec} {m : Mem} {ρ : Env} {L : Stack}, (∀ ids, es.den ρ ids = ⟨[IntKind.i64.wrap ((k : Int) + 1)], [], [], [], []⟩) → (Tree.again 4 es m).holds ⟨Try.prog, w, fun _ => False, PureAt w (.bool (decide (xs = ys)))⟩ ρ [] HX.nil ((4, fun vs' hx'' => ItI xs ys vs' hx'' ∧ xs.length - (vs'.i.headD 0).toNat < xs.length - ((⟨[(k : Int)], [], [], [], []⟩ : Vals).i.headD 0).toNat) :: L) := by
          intro es m ρ L hes ids w2 hp hf
          refine ⟨HX.nil, HXok.none _ _, _, rfl, ?_⟩
          rw [hes]
          refine ⟨⟨k + 1, by omega, e1, by rw [hwk], rfl⟩, ?_⟩
          show xs.length - (IntKind.i64.wrap ((k : Int) + 1)).toNat < xs.length - ((k : Int)).toNat
          rw [hwk]; omega
        refine par_i ?_ ?_
        · refine ⟨⟨[x], [], [], [], []⟩, fun ids => c1 _ (fun q => q), ⟨rfl, oneNil⟩, ?_⟩
          refine ⟨⟨[y], [], [], [], []⟩, fun ids => c2 _ (fun q => q), ⟨rfl, oneNil⟩, ?_⟩
          exact br_f (show (x != y) = false by simpa using hxy) (fin (fun _ => rfl))
        · refine ⟨⟨[y], [], [], [], []⟩, fun ids => c2 _ (fun q => q), ⟨rfl, oneNil⟩, ?_⟩
          refine ⟨⟨[x], [], [], [], []⟩, fun ids => c1 _ (fun q => q), ⟨rfl, oneNil⟩, ?_⟩
          exact br_f (show (x != y) = false by simpa using hxy) (fin (fun _ => rfl))
      · have hne : ¬ xs = ys := fun e => hxy (by rw [e] at hx; rw [hx] at hy; exact Option.some.inj hy)
        have fin : ∀ {m : Mem} {ρ : Env} {L : Stack} {hx : HX}, (Tree.done (.lf (.bool (.lit false))) m).holds ⟨Try.prog, w, fun _ => False, PureAt w (.bool (decide (xs = ys)))⟩ ρ [] hx L := pure_done fun _ => by rw [decide_eq_false hne]; rfl
        refine par_i ?_ ?_
        · refine ⟨⟨[x], [], [], [], []⟩, fun ids => c1 _ (fun q => q), ⟨rfl, oneNil⟩, ?_⟩
          refine ⟨⟨[y], [], [], [], []⟩, fun ids => c2 _ (fun q => q), ⟨rfl, oneNil⟩, ?_⟩
          exact br_t (show (x != y) = true by simpa using hxy) fin
        · refine ⟨⟨[y], [], [], [], []⟩, fun ids => c2 _ (fun q => q), ⟨rfl, oneNil⟩, ?_⟩
          refine ⟨⟨[x], [], [], [], []⟩, fun ids => c1 _ (fun q => q), ⟨rfl, oneNil⟩, ?_⟩
          exact br_t (show (x != y) = true by simpa using hxy) fin
    · refine br_f (show decide ((k : Int) < (xs.length : Int)) = false from decide_eq_false (by omega)) (pure_done fun _ => ?_)
      have e : xs = ys := by rw [List.take_of_length_le (by omega), List.take_of_length_le (by omega)] at he; exact he
      rw [decide_eq_true e]; rfl
  · refine br_t (show ((xs.length : Int) != (ys.length : Int)) = true by simp only [bne_iff_ne, ne_eq]; omega) (pure_done fun _ => ?_)
    rw [decide_eq_false (fun e => hlen (by rw [e]))]; rfl
abbrev tVSamem0 : Mem := ⟨[(35, [(tVi 0), (tSl 0 0 1), (tSl 1 2 3)]), (35, [(tVi 1), (tSl 2 4 5), (tSl 3 6 7)])], ⟨2, 0, 0, 8, 4⟩⟩
abbrev tVSamem1 : Mem := ⟨[(35, [(tVi 0), (tSl 0 0 1), (tSl 1 2 3)]), (35, [(tVi 1), (tSl 2 4 5), (tSl 3 6 7)])], ⟨2, 1, 0, 8, 4⟩⟩
abbrev tVSamem2 : Mem := ⟨[(35, [(tVi 0), (tSl 0 0 1), (tSl 1 2 3)]), (35, [(tVi 1), (tSl 2 4 5), (tSl 3 6 7)])], ⟨2, 2, 0, 8, 4⟩⟩
set_option maxRecDepth 100000 in
theorem tVSame : (runF ⟨tt, fns, { }⟩ (Try.f25.body.getD .skip) Try.f25.results.toList (entry Try.f25.ntmps [.agg [.int .i64 (.var 0), .sl 0 (.var 0) (.var 1), .sl 1 (.var 2) (.var 3)], .agg [.int .i64 (.var 1), .sl 2 (.var 4) (.var 5), .sl 3 (.var 6) (.var 7)]] [] ⟨2, 0, 0, 8, 4⟩)) =
  (.br (.cmp .eql (.var 0) (.var 1)) (.call 40 [(.lf (tSl 0 0 1)), (.lf (tSl 2 4 5))] tVSamem0 (.lf (.bool (.var 0))) tVSamem1 (.br (.var 0) (.call 41 [(.lf (tSl 1 2 3)), (.lf (tSl 3 6 7))] tVSamem1 (.lf (.bool (.var 1))) tVSamem2 (.done (.lf (.bool (.var 1))) tVSamem2)) (.done (.lf (.bool (.lit .false))) tVSamem1))) (.done (.lf (.bool (.lit .false))) tVSamem0)) := by kernel_rfl
theorem vsame_any (v : Vl) (a1 : Option Addr) (c1 : Nat) (a2 : Option Addr) (c2 : Nat) (u : Vl) (b1 : Option Addr) (d1 : Nat) (b2 : Option Addr) (d2 : Nat) (w : World) (H : VlAt w v a1 a2) (H2 : VlAt w u b1 b2) : Calls Try.prog 25 #[vlV v a1 c1 a2 c2, vlV u b1 d1 b2 d2] w (PureAt w (.bool (vlSame v u))) := by
  have hl1 := H.l1
  have hl2 := H.l2
  refine calls_at (tab_ok _) Try.func25 rfl tVSame (ρ := ⟨[v.k, u.k], [], [], [v.cs.length, c1, v.ns.length, c2, u.cs.length, d1, u.ns.length, d2], [a1, a2, b1, b2]⟩) (ids := []) (hx := (vlX v a1 a2).and (vlX u b1 b2)) rfl (Facts.initq rfl oneNil ⟨H.X, H2.X⟩ (fun k hk => hk.elim (vlX_sep H.X k) (vlX_sep H2.X k))) ?_
  by_cases hk : v.k = u.k
  · refine br_t (show (v.k == u.k) = true by simpa using hk) ?_
    refine node_pure ⟨[], [csSame v.cs u.cs], [], [], []⟩ rfl rfl rfl oneNil (fun ids w2 hp hf => eqc_any a1 c1 v.cs b1 d1 u.cs w2 hf.x.1.1 hf.x.2.1 (by omega)) ?_
    by_cases hc : v.cs = u.cs
    · refine br_t (csSame_t hc) ?_
      refine node_pure ⟨[], [decide (v.ns = u.ns)], [], [], []⟩ rfl rfl rfl oneNil (fun ids w2 hp hf => eqn_any a2 c2 v.ns b2 d2 u.ns w2 (H.fit.at_ hf.x.1).n (H2.fit.at_ hf.x.2).n (by omega)) ?_
      refine pure_done (fun _ => ?_)
      show Value.bool (decide (v.ns = u.ns)) = _
      by_cases hn : v.ns = u.ns
      · rw [decide_eq_true hn, vlSame_t (by cases v; cases u; simp_all)]
      · rw [decide_eq_false hn, vlSame_f (fun e => hn (by rw [e]))]
    · refine br_f (csSame_f hc) (pure_done (fun _ => ?_))
      rw [vlSame_f (fun e => hc (by rw [e]))]; rfl
  · refine br_f (show (v.k == u.k) = false by simpa using hk) (pure_done (fun _ => ?_))
    rw [vlSame_f (fun e => hk (by rw [e]))]; rfl
def ClNew (w : World) (n : Nat) (xs : List Value) (e : Ending) (w' : World) : Prop := ∃ a' c', e = .returned (.slice a' n c') ∧ (HX.cl a' xs).X w' ∧ (∀ k, (HX.cl a' xs).F k → w.heap.size ≤ k) ∧ Below w.heap.size w w'
theorem none_nil {w : World} {xs : List Value} (h : Cells w none xs) : xs = [] := by
  cases xs with
  | nil => rfl
  | cons x r => exact absurd (h (by simp)).1 (by simp [PlainA])
set_option maxRecDepth 100000 in
theorem tSCloneC : (runF ⟨tt, fns, { }⟩ (Try.f42.body.getD .skip) Try.f42.results.toList (entry Try.f42.ntmps [.lf (.sl 0 (.var 0) (.var 1))] [] ⟨0, 0, 0, 2, 1⟩)) =
  (.br (.anone 0) (.done (.lf .nilsl) ⟨[], ⟨0, 0, 0, 2, 1⟩⟩) (.gen (.call ⟨(.builtin .append), #[(.tmp 5), (.tmp 6)], #[32, 32]⟩) 32 [(5, (.lf (.nsl 0 0 0 0))), (6, (.lf (tSl 0 0 1)))] ⟨[(43, [])], ⟨0, 0, 0, 2, 1⟩⟩ (.some (.lf (tSl 1 2 3))) ⟨[(43, [])], ⟨0, 0, 0, 4, 2⟩⟩ (.done (.lf (tSl 1 2 3)) ⟨[(43, [])], ⟨0, 0, 0, 4, 2⟩⟩))) := by kernel_rfl
set_option maxRecDepth 100000 in
theorem tSCloneN : (runF ⟨tt, fns, { }⟩ (Try.f32.body.getD .skip) Try.f32.results.toList (entry Try.f32.ntmps [.lf (.sl 0 (.var 0) (.var 1))] [] ⟨0, 0, 0, 2, 1⟩)) =
  (.br (.anone 0) (.done (.lf .nilsl) ⟨[], ⟨0, 0, 0, 2, 1⟩⟩) (.gen (.call ⟨(.builtin .append), #[(.tmp 5), (.tmp 6)], #[33, 33]⟩) 33 [(5, (.lf (.nsl 0 0 0 0))), (6, (.lf (tSl 0 0 1)))] ⟨[(3, [])], ⟨0, 0, 0, 2, 1⟩⟩ (.some (.lf (tSl 1 2 3))) ⟨[(3, [])], ⟨0, 0, 0, 4, 2⟩⟩ (.done (.lf (tSl 1 2 3)) ⟨[(3, [])], ⟨0, 0, 0, 4, 2⟩⟩))) := by kernel_rfl
theorem scloneN_any (a : Option Addr) (cap : Nat) (ns : List Int) (w : World) (H : Cells w a (ns.map (Value.int .i64))) (hl : ns.length ≤ 17592186044416) : Calls Try.prog 32 #[.slice a ns.length cap] w (ClNew w ns.length (ns.map (Value.int .i64))) := by
  refine calls_at (tab_ok _) Try.func32 rfl tSCloneN (ρ := ⟨[], [], [], [ns.length, cap], [a]⟩) (ids := []) (hx := HX.cl a (ns.map (Value.int .i64))) rfl (Facts.initq rfl oneNil H (cl_sep H)) ?_
  by_cases h : a.isNone = true
  · refine br_t h ?_
    obtain rfl : a = none := by simpa using h
    have e := none_nil H
    have e2 : ns = [] := by simpa using e
    subst e2
    intro ids w2 hp hf
    exact ⟨none, 0, rfl, fun h => by simp at h, fun k hk => absurd rfl hk.1, hf.chg.below⟩
  · refine br_f (show a.isNone = false by cases a with | none => exact absurd rfl h | some x => rfl) ?_
    refine node_clones (sz := 1) (xs := ns.map (Value.int .i64)) rfl Try.underlying33 info_int1 rfl (by decide) 0 rfl (fun _ => a) ns.length cap (by rw [List.length_map, Nat.mul_one]) (fun ids w2 hp hf => hf.x) (fun x hx => by obtain ⟨n, _, rfl⟩ := List.mem_map.1 hx; rfl) (by unfold maxLen; omega) (by omega) (fun _ => rfl) (fun _ => rfl) (fun _ _ _ => rfl) rfl rfl (fun _ _ => rfl) ?_
    intro a' c' hfr ids w2 hp hf
    exact ⟨a', c', rfl, rw_cells hf.x.2, rw_fresh hf.x.2 (fun k h1 h2 => (hfr k h1 h2).1), hf.chg.below⟩
section
variable {C : Cfg} {ρ : Env} {pre : List Nat} {hx : HX} {L : Stack} {m m' : Mem} {args : List SV} {r : SV} {t : Tree}
theorem node_cl {f : Nat} {n : Nat} {xs : List Value} (AS : List Nat → Array Value) (vs : Option Addr → Nat → Vals) (hargs : ∀ ids, (args.map (SV.den ρ ids)).toArray = AS ids) (hcall : ∀ ids w, pre <+: ids → Facts C m ρ ids hx w → Calls C.P f (AS ids) w (ClNew w n xs))
    (hr : ∀ a' c' ids, r.den (ρ.add (vs a' c')) ids = .slice a' n c') (hhp : m'.hp = m.hp) (hfit : hpFits m.c m.hp.length m.hp = true) (hc : ∀ a' c', (ρ.add (vs a' c')).cnt = m'.c) (h1 : ∀ a' c' v, v ∈ (vs a' c').v → v.oneCell' = true)
    (h : ∀ a' c', (∀ k, (HX.cl a' xs).F k → C.W.heap.size ≤ k ∧ ¬ hx.F k) → t.holds C (ρ.add (vs a' c')) pre (hx.and (HX.cl a' xs)) L) : (Tree.call f args m r m' t).holds C ρ pre hx L := by
  refine node_out AS (fun u hy => ∃ a' c', u = vs a' c' ∧ hy = HX.cl a' xs) hargs (fun ids w hp hf => ?_) hhp hfit ?_ ?_
  · refine (hcall ids w hp hf).mono ?_
    rintro e w' ⟨a', c', rfl, hX, hge, hb⟩
    exact ⟨_, _, ⟨a', c', rfl, rfl⟩, by rw [hr], hX, fun k hk => ⟨hge k hk, cl_sep hX k hk⟩, hb⟩
  · rintro u hy ⟨a', c', rfl, rfl⟩
    exact ⟨hc _ _, h1 _ _⟩
  · rintro u hy ⟨a', c', rfl, rfl⟩ hfr
    exact h a' c' hfr
end
abbrev tVClonem0 : Mem := ⟨[(35, [(tVi 0), (tSl 2 4 5), (tSl 3 6 7)]), (35, [(tVi 0), (tSl 2 4 5), (tSl 3 6 7)])], ⟨1, 0, 0, 8, 4⟩⟩
abbrev tVClonem1 : Mem := ⟨[(35, [(tVi 0), (tSl 0 0 1), (tSl 1 2 3)]), (35, [(tLi 0), .nilsl, .nilsl])], ⟨1, 0, 0, 4, 2⟩⟩
abbrev tVClonem2 : Mem := ⟨[(35, [(tVi 0), (tSl 0 0 1), (tSl 1 2 3)]), (35, [(tLi 0), .nilsl, .nilsl])], ⟨1, 0, 0, 6, 3⟩⟩
abbrev tVClonem3 : Mem := ⟨[(35, [(tVi 0), (tSl 0 0 1), (tSl 1 2 3)]), (35, [(tLi 0), .nilsl, .nilsl])], ⟨1, 0, 0, 8, 4⟩⟩
set_option maxRecDepth 100000 in
theorem tVClone : (runF ⟨tt, fns, { }⟩ (Try.f26.body.getD .skip) Try.f26.results.toList (entry Try.f26.ntmps [.agg [.int .i64 (.var 0), .sl 0 (.var 0) (.var 1), .sl 1 (.var 2) (.var 3)]] [] ⟨1, 0, 0, 4, 2⟩)) =
  (.par (.par (.call 42 [(.lf (tSl 0 0 1))] tVClonem1 (.lf (tSl 2 4 5)) tVClonem2 (.call 32 [(.lf (tSl 1 2 3))] tVClonem2 (.lf (tSl 3 6 7)) tVClonem3 (.done (.agg [(tVi 0), (tSl 2 4 5), (tSl 3 6 7)]) tVClonem0))) (.call 42 [(.lf (tSl 0 0 1))] tVClonem1 (.lf (tSl 2 4 5)) tVClonem2 (.call 32 [(.lf (tSl 1 2 3))] tVClonem2 (.lf (tSl 3 6 7)) tVClonem3 (.done (.agg [(tVi 0), (tSl 2 4 5), (tSl 3 6 7)]) tVClonem0)))) (.call 42 [(.lf (tSl 0 0 1))] tVClonem1 (.lf (tSl 2 4 5)) tVClonem2 (.call 32 [(.lf (tSl 1 2 3))] tVClonem2 (.lf (tSl 3 6 7)) tVClonem3 (.done (.agg [(tVi 0), (tSl 2 4 5), (tSl 3 6 7)]) tVClonem0)))) := by kernel_rfl
theorem row_isS {b : Option Addr} {n d sz e : Nat} {cs : List Value} {w : World} (hx : (HX.rw sz e b n d cs).X w) (hne : cs ≠ []) : b.isSome = true := by
  have hc : d ≠ 0 := fun q => by
    rcases hx with ⟨_, _, h3⟩ | ⟨h3, _⟩
    · exact hne h3
    · exact h3 q
  obtain ⟨g, _, rfl, _⟩ := rw_open hx hc
  rfl
def VlRow (w : World) (v : Vl) (e : Ending) (w' : World) : Prop := ∃ a1 c1 a2 c2, e = .returned (vlV v a1 c1 a2 c2) ∧ (crow a1 v.cs.length c1 v.cs).X w' ∧ (nrow a2 v.ns.length c2 v.ns).X w' ∧ (∀ k, (crow a1 v.cs.length c1 v.cs).F k → w.heap.size ≤ k) ∧ (∀ k, (nrow a2 v.ns.length c2 v.ns).F k → w.heap.size ≤ k ∧ ¬ (crow a1 v.cs.length c1 v.cs).F k) ∧ Below w.heap.size w w'
theorem cpvr_any (v : Vl) (a1 : Option Addr) (c1 : Nat) (a2 : Option Addr) (c2 : Nat) (w : World) (H : VlAt w v a1 a2) : Calls Try.prog 23 #[vlV v a1 c1 a2 c2] w (VlRow w v) := by
  have l1 := H.l1
  have l2 := H.l2
  refine calls_at (tab_ok _) Try.func23 rfl tCpVal (ρ := ⟨[v.k], [], [], [v.cs.length, c1, v.ns.length, c2], [a1, a2]⟩) (ids := []) (hx := vlX v a1 a2) rfl (Facts.initq rfl oneNil H.X (vlX_sep H.X)) ?_
  refine node_appends (xs := []) rfl Try.underlying32 info_cmd rfl (by decide) none 0 0 (fun _ => a1) v.cs.length c1 (ccells v.cs) (ccells_len _) (fun ids w _ _ => HX.rw_nil _ _ _ w) (fun ids w2 hp hf => hf.x.1) (ccells_one _) (fun w h => ⟨h, fun _ q => q⟩) (fun k h => absurd rfl h) (fun k h => absurd rfl h) (fun k h => absurd rfl h) (by unfold maxLen; omega) (by omega) (by intros; kernel_rfl) (by intros; kernel_rfl) (by intros; kernel_rfl) (by intros; kernel_rfl) (by intros; kernel_rfl) (by intros; kernel_rfl) ?_
  intro b1 d1 _ hd1 hw1
  refine node_appends (xs := []) rfl Try.underlying33 info_int1 rfl (by decide) none 0 0 (fun _ => a2) v.ns.length c2 (v.ns.map (Value.int .i64)) (by rw [List.length_map]; omega) (fun ids w _ _ => HX.rw_nil _ _ _ w) (fun ids w2 hp hf => hf.x.1.2) (fun x hx => by obtain ⟨n, _, rfl⟩ := List.mem_map.1 hx; rfl) (fun w h => ⟨h, fun _ q => q⟩) (fun k h => absurd rfl h) (fun k h => absurd rfl h) (fun k h => absurd rfl h) (by unfold maxLen; omega) (by omega) (by intros; kernel_rfl) (by intros; kernel_rfl) (by intros; kernel_rfl) (by intros; kernel_rfl) (by intros; kernel_rfl) (by intros; kernel_rfl) ?_
  intro b2 d2 _ hd2 hw2 ids w2 hp hf
  have e1 := hf.x.1.2
  have e2 := hf.x.2
  rw [List.nil_append] at e1 e2
  have z1 : 0 + v.cs.length = v.cs.length := Nat.zero_add _
  have z2 : 0 + v.ns.length = v.ns.length := Nat.zero_add _
  rw [z1] at e1
  rw [z2] at e2
  refine ⟨b1, d1, b2, d2, ?_, e1, e2, ?_, ?_, hf.chg.below⟩
  · show Ending.returned (.agg #[.int .i64 v.k, .slice b1 (0 + v.cs.length) d1, .slice b2 (0 + v.ns.length) d2]) = _
    rw [Nat.zero_add, Nat.zero_add]; rfl
  · rintro k ⟨h1, h2⟩
    exact (hw1 k h1 h2).elim (fun q => absurd rfl q.1) (fun q => q.1)
  · rintro k ⟨h1, h2⟩
    exact ⟨(hw2 k h1 h2).elim (fun q => absurd rfl q.1) (fun q => q.1), fun q => hd2 k h1 h2 (.inr q)⟩
end Go.Proofs.Ytbedoemdjlollaa

namespace Go.Proofs.Ytbedoemdjlollaa
open Go.ChangeShapes Go.WideShapes Go.ChangeAt Go.RowKit Go.Syn Go.Eng
set_option linter.unusedVariables false
set_option linter.unusedSimpArgs false
set_option maxRecDepth 100000
structure Im where
  ep : Int
  mem : List Int
  sl : Int
  regs : List Int
  tb : List SsD
def rg (r : List Int) (i : Nat) : Int := r.getD i 0
def rgs (r : List Int) : List Int := [rg r 0, rg r 1, rg r 2, rg r 3, rg r 4, rg r 5, rg r 6, rg r 7, rg r 8, rg r 9, rg r 10, rg r 11, rg r 12, rg r 13, rg r 14, rg r 15]
theorem rgs_of {r : List Int} (h : r.length = 16) : rgs r = r := by
  obtain ⟨a0, a1, a2, a3, a4, a5, a6, a7, a8, a9, a10, a11, a12, a13, a14, a15, rfl⟩ := list16 r h
  rfl
def imC (I : Im) (a1 : Option Addr) (c1 : Nat) (a2 : Option Addr) (c2 : Nat) : List Value :=
  [.int .i64 I.ep, .slice a1 I.mem.length c1, .int .i64 I.sl, .int .i64 (rg I.regs 0), .int .i64 (rg I.regs 1), .int .i64 (rg I.regs 2), .int .i64 (rg I.regs 3), .int .i64 (rg I.regs 4), .int .i64 (rg I.regs 5), .int .i64 (rg I.regs 6), .int .i64 (rg I.regs 7), .int .i64 (rg I.regs 8), .int .i64 (rg I.regs 9), .int .i64 (rg I.regs 10), .int .i64 (rg I.regs 11), .int .i64 (rg I.regs 12), .int .i64 (rg I.regs 13), .int .i64 (rg I.regs 14), .int .i64 (rg I.regs 15), .slice a2 I.tb.length c2]
def imV (I : Im) (a1 : Option Addr) (c1 : Nat) (a2 : Option Addr) (c2 : Nat) : Value := .agg (imC I a1 c1 a2 c2).toArray
def imI (I : Im) : List Int := [I.ep, I.sl, rg I.regs 0, rg I.regs 1, rg I.regs 2, rg I.regs 3, rg I.regs 4, rg I.regs 5, rg I.regs 6, rg I.regs 7, rg I.regs 8, rg I.regs 9, rg I.regs 10, rg I.regs 11, rg I.regs 12, rg I.regs 13, rg I.regs 14, rg I.regs 15]
def im0 : Im := ⟨0, [], 0, [0, 0, 0, 0, 0, 0, 0, 0, 0, 0, 0, 0, 0, 0, 0, 0], []⟩
structure ImAt (w : World) (I : Im) (a1 a2 : Option Addr) (es : List SE) : Prop where
  tb : es.map SE.s = I.tb
  mem : Ints w a1 I.mem
  tab : TbAt w a2 es
  reg : I.regs.length = 16
theorem ImAt.keep {w w' : World} {I : Im} {a1 a2 : Option Addr} {es : List SE} (h : ImAt w I a1 a2 es) (hb : ∀ k, k < w.heap.size → w'.heap[k]? = w.heap[k]?) : ImAt w' I a1 a2 es :=
  ⟨h.tb, Ints.loc h.mem (fun hne => hb _ (by have := cl_sep h.mem.cells (blk a1) ⟨by simpa using hne, rfl⟩; exact this)), h.tab.keep hb, h.reg⟩
theorem ImAt.len {w : World} {I : Im} {a1 a2 : Option Addr} {es : List SE} (h : ImAt w I a1 a2 es) : es.length = I.tb.length := by rw [← h.tb, List.length_map]
def validI (I : Im) : Bool := decide (0 ≤ I.ep) && decide (I.ep ≤ 1099511627776) && decide (0 ≤ I.sl) && decide (I.sl ≤ 1099511627776) && decide (checkV I.mem = 0) && validL I.regs && validT I.tb
structure VI (I : Im) : Prop where
  ep0 : 0 ≤ I.ep
  ep1 : I.ep ≤ 1099511627776
  sl0 : 0 ≤ I.sl
  sl1 : I.sl ≤ 1099511627776
  mem : setOkB I.mem = true
  regs : validL I.regs = true
  tb : VT I.tb
theorem check_zero {xs : List Int} : checkV xs = 0 ↔ setOkB xs = true := by
  unfold checkV; split <;> simp_all
theorem validI_iff (I : Im) : validI I = true ↔ VI I := by
  unfold validI
  simp only [Bool.and_eq_true, decide_eq_true_eq, check_zero, validT_iff]
  exact ⟨fun ⟨⟨⟨⟨⟨⟨a, b⟩, c⟩, d⟩, e⟩, f⟩, g⟩ => ⟨a, b, c, d, e, f, g⟩, fun h => ⟨⟨⟨⟨⟨⟨h.ep0, h.ep1⟩, h.sl0⟩, h.sl1⟩, h.mem⟩, h.regs⟩, h.tb⟩⟩
structure AnD where
  sess : Int
  seq : Int
  k : Int
  re : Int
  im : Int
def AnD.cells (a : AnD) : List Value := [.int .i64 a.sess, .int .i64 a.seq, .int .i64 a.k, .int .i64 a.re, .int .i64 a.im]
def ancells (l : List AnD) : List Value := l.flatMap AnD.cells
theorem an_len (a : AnD) : a.cells.length = 5 := rfl
theorem ancells_snoc (l : List AnD) (a : AnD) : ancells l ++ a.cells = ancells (l ++ [a]) := by unfold ancells; rw [List.flatMap_append]; simp
theorem an_one (a : AnD) : ∀ v ∈ a.cells, v.oneCell' = true := fun v hv => by
  unfold AnD.cells at hv
  simp only [List.mem_cons, List.not_mem_nil, or_false] at hv
  rcases hv with rfl | rfl | rfl | rfl | rfl <;> rfl
theorem info_ans : (Try.prog.info? 64).map (fun i => (i.zero, i.size, i.bytes)) = some (some (.agg #[.int .i64 0, .int .i64 0, .int .i64 0, .int .i64 0, .int .i64 0]), 5, 40) := by kernel_rfl
structure RunR where
  i : Im
  k : Int
  re : Int
  im : Int
def runV (I : Im) (c : CmD) : RunR :=
  if (askV I.tb c.sess c.seq c.ack).d then ⟨⟨I.ep, I.mem, I.sl, I.regs, (askV I.tb c.sess c.seq c.ack).t⟩, (askV I.tb c.sess c.seq c.ack).k, (askV I.tb c.sess c.seq c.ack).re, (askV I.tb c.sess c.seq c.ack).im⟩
  else ⟨⟨I.ep, I.mem, I.sl, (applyM I.regs c.op).1, keepV (askV I.tb c.sess c.seq c.ack).t c.sess c.seq (applyM I.regs c.op).2.1 (applyM I.regs c.op).2.2.1 (applyM I.regs c.op).2.2.2⟩, (applyM I.regs c.op).2.1, (applyM I.regs c.op).2.2.1, (applyM I.regs c.op).2.2.2⟩
theorem runV_mem (I : Im) (c : CmD) : (runV I c).i.mem = I.mem ∧ (runV I c).i.ep = I.ep ∧ (runV I c).i.sl = I.sl := by unfold runV; split <;> exact ⟨rfl, rfl, rfl⟩
theorem runV_len {I : Im} (c : CmD) (h : I.regs.length = 16) : (runV I c).i.regs.length = 16 := by
  unfold runV; split
  · exact h
  · exact (applyM_len _ _).trans h
def stepV (p : Im × List AnD) (c : CmD) : Im × List AnD := ((runV p.1 c).i, p.2 ++ [⟨c.sess, c.seq, (runV p.1 c).k, (runV p.1 c).re, (runV p.1 c).im⟩])
def runAll (I : Im) (cs : List CmD) : Im × List AnD := cs.foldl stepV (I, [])
theorem runAll_step (I : Im) {cs : List CmD} {k : Nat} {c : CmD} (h : cs[k]? = some c) : runAll I (cs.take (k + 1)) = stepV (runAll I (cs.take k)) c := by
  unfold runAll
  rw [List.take_add_one, h, List.foldl_append]; rfl
theorem runAll_keep (I : Im) (cs : List CmD) : ∀ p : Im × List AnD, (cs.foldl stepV p).1.mem = p.1.mem ∧ (cs.foldl stepV p).1.ep = p.1.ep ∧ (cs.foldl stepV p).1.sl = p.1.sl ∧ (cs.foldl stepV p).2.length = p.2.length + cs.length := by
  induction cs with
  | nil => intro p; exact ⟨rfl, rfl, rfl, rfl⟩
  | cons c r ih =>
    intro p
    obtain ⟨h1, h2, h3, h4⟩ := ih (stepV p c)
    obtain ⟨g1, g2, g3⟩ := runV_mem p.1 c
    refine ⟨h1.trans g1, h2.trans g2, h3.trans g3, ?_⟩
    rw [List.foldl_cons, h4]
    simp only [stepV, List.length_append, List.length_cons, List.length_nil]; omega
theorem opB_of {c : CmD} (h : cmdV c = 0) : 1 ≤ c.sess ∧ c.sess ≤ 1073741824 ∧ 1 ≤ c.seq ∧ c.seq ≤ 1099511627776 ∧ 0 ≤ c.ack ∧ c.ack < c.seq ∧ opB c.op = true := by
  unfold cmdV at h
  split at h
  · cases h
  · split at h
    · exact ⟨by omega, by omega, by omega, by omega, by omega, by omega, by assumption⟩
    · cases h
theorem applyM_valid {xs : List Int} (hx : xs.length = 16) (h : validL xs = true) (o : OpD) : validL (applyM xs o).1 = true := by
  unfold applyM
  split
  · rename_i hc
    simp only [Bool.and_eq_true] at hc
    obtain ⟨_, r12, _⟩ := (opB_iff _).1 hc.2
    split
    · exact h
    · split
      · rename_i hf
        refine valid_put ?_ _ hf
        split
        · exact valid_put h _ (valid_reg h _ (by omega))
        · exact h
      · exact h
  · exact h
theorem apply_kind {xs : List Int} {o : OpD} (h : validL xs = true) (h2 : opB o = true) : 1 ≤ (applyM xs o).2.1 ∧ (applyM xs o).2.1 ≤ 3 := by
  unfold applyM
  rw [if_pos (by rw [h, h2]; rfl)]
  split
  · exact ⟨by show (1 : Int) ≤ _; simp, by simp⟩
  · split
    · exact ⟨by show (1 : Int) ≤ _; simp, by simp⟩
    · exact ⟨by show (1 : Int) ≤ _; simp, by simp⟩
theorem VI.run {I : Im} (h : VI I) (hr : I.regs.length = 16) {c : CmD} (hc : cmdV c = 0) : VI (runV I c).i := by
  obtain ⟨c1, c2, c3, c4, c5, c6, c7⟩ := opB_of hc
  have ht := h.tb.ask (sess := c.sess) (seq := c.seq) (ack := c.ack) c1 c2 (by omega)
  unfold runV
  split
  · exact ⟨h.ep0, h.ep1, h.sl0, h.sl1, h.mem, h.regs, ht⟩
  · obtain ⟨k1, k2⟩ := apply_kind h.regs c7
    exact ⟨h.ep0, h.ep1, h.sl0, h.sl1, h.mem, applyM_valid hr h.regs _, ht.keep c4 k1 k2⟩
theorem firstE_all : ∀ {cs : List CmD}, firstE cs = 0 → ∀ c ∈ cs, cmdV c = 0
  | [], _, c, hc => by cases hc
  | d :: r, h, c, hc => by
    unfold firstE at h
    split at h
    · exact absurd h (by assumption)
    · rename_i hd
      rcases List.mem_cons.1 hc with rfl | hc
      · exact Classical.byContradiction hd
      · exact firstE_all h c hc
theorem VI.all {I : Im} (h : VI I) (hr : I.regs.length = 16) {cs : List CmD} (hc : ∀ c ∈ cs, cmdV c = 0) : ∀ k, VI (runAll I (cs.take k)).1 ∧ (runAll I (cs.take k)).1.regs.length = 16 := fun k => by
  induction k with
  | zero => exact ⟨h, hr⟩
  | succ k ih =>
    rcases Nat.lt_or_ge k cs.length with q | q
    · have e := List.getElem?_eq_getElem q
      rw [runAll_step I e]
      exact ⟨ih.1.run ih.2 (hc _ (List.mem_of_getElem? e)), runV_len _ ih.2⟩
    · rw [List.take_of_length_le (by omega)]; rw [List.take_of_length_le (by omega)] at ih; exact ih
structure ExR where
  i : Im
  an : List AnD
  e : Int
def goI (I : Im) (slot : Int) (v : Vl) : Im := if v.k = 2 then ⟨I.ep + 1, v.ns, slot, I.regs, I.tb⟩ else ⟨I.ep, I.mem, slot, I.regs, I.tb⟩
def execV (I : Im) (slot : Int) (v : Vl) : ExR :=
  if validI I = false then ⟨im0, [], 44⟩ else
  if slot ≠ I.sl + 1 ∨ 1099511627776 < slot ∨ (v.k = 2 ∧ 1099511627776 ≤ I.ep) then ⟨im0, [], 61⟩ else
  if valE v ≠ 0 then ⟨im0, [], valE v⟩ else ⟨(runAll (goI I slot v) v.cs).1, (runAll (goI I slot v) v.cs).2, 0⟩
end Go.Proofs.Ytbedoemdjlollaa

namespace Go.Proofs.Ytbedoemdjlollaa
open Go.ChangeShapes Go.WideShapes Go.ChangeAt Go.RowKit Go.Syn Go.Eng
set_option linter.unusedVariables false
set_option linter.unusedSimpArgs false
set_option maxRecDepth 100000
def imX (I : Im) (a1 a2 : Option Addr) (c2 : Nat) (es : List SE) : HX := (HX.cl a1 (I.mem.map (Value.int .i64))).and (tabR a2 c2 es)
def ImNew (w : World) (V : Value → Value) (I : Im) (e : Ending) (w' : World) : Prop := ∃ a1 c1 a2 c2 es, es.map SE.s = I.tb ∧ e = .returned (V (imV I a1 c1 a2 c2)) ∧ Dj a2 c2 es ∧ (∀ q, (tabR a2 c2 es).F q → ¬ (HX.cl a1 (I.mem.map (Value.int .i64))).F q) ∧ (imX I a1 a2 c2 es).X w' ∧ (∀ k, (imX I a1 a2 c2 es).F k → w.heap.size ≤ k) ∧ Below w.heap.size w w'
theorem imX_lt {I : Im} {a1 a2 : Option Addr} {c2 : Nat} {es : List SE} {w : World} (h : (imX I a1 a2 c2 es).X w) : ∀ k, (imX I a1 a2 c2 es).F k → k < w.heap.size := fun k hk => hk.elim (cl_sep h.1 k) (tabR_lt h.2 k)
structure ImFit (I : Im) : Prop where
  mem : ∀ x ∈ I.mem, I64 x
  len : I.mem.length ≤ 17592186044416
  reg : I.regs.length = 16
theorem ImFit.at_ {I : Im} (h : ImFit I) {a1 a2 : Option Addr} {c2 : Nat} {es : List SE} {w : World} (he : es.map SE.s = I.tb) (hX : (imX I a1 a2 c2 es).X w) : ImAt w I a1 a2 es :=
  ⟨he, Ints.of_cells (by have := h.len; omega) h.mem hX.1, tabR_at hX.2, h.reg⟩
theorem cl_nil (w : World) (a : Option Addr) : (HX.cl a []).X w := fun h => absurd h (Nat.lt_irrefl 0)
section
variable {C : Cfg} {ρ : Env} {pre : List Nat} {hx : HX} {L : Stack} {m m' : Mem} {args : List SV} {r : SV} {t : Tree}
theorem node_im {f : Nat} {V : Value → Value} {I : Im} (AS : List Nat → Array Value) (vs : Option Addr → Nat → Option Addr → Nat → Vals) (hargs : ∀ ids, (args.map (SV.den ρ ids)).toArray = AS ids) (hcall : ∀ ids w, pre <+: ids → Facts C m ρ ids hx w → Calls C.P f (AS ids) w (ImNew w V I))
    (hr : ∀ a1 c1 a2 c2 ids, r.den (ρ.add (vs a1 c1 a2 c2)) ids = V (imV I a1 c1 a2 c2)) (hhp : m'.hp = m.hp) (hfit : hpFits m.c m.hp.length m.hp = true) (hc : ∀ a1 c1 a2 c2, (ρ.add (vs a1 c1 a2 c2)).cnt = m'.c) (h1 : ∀ a1 c1 a2 c2 v, v ∈ (vs a1 c1 a2 c2).v → v.oneCell' = true)
    (h : ∀ a1 c1 a2 c2 es, es.map SE.s = I.tb → Dj a2 c2 es → Sm a2 es → (∀ q, (tabR a2 c2 es).F q → ¬ (HX.cl a1 (I.mem.map (Value.int .i64))).F q) → (∀ k, (imX I a1 a2 c2 es).F k → C.W.heap.size ≤ k ∧ ¬ hx.F k) → t.holds C (ρ.add (vs a1 c1 a2 c2)) pre (hx.and (imX I a1 a2 c2 es)) L) : (Tree.call f args m r m' t).holds C ρ pre hx L := by
  refine node_out AS (fun u hy => ∃ a1 c1 a2 c2 es, es.map SE.s = I.tb ∧ Dj a2 c2 es ∧ Sm a2 es ∧ (∀ q, (tabR a2 c2 es).F q → ¬ (HX.cl a1 (I.mem.map (Value.int .i64))).F q) ∧ u = vs a1 c1 a2 c2 ∧ hy = imX I a1 a2 c2 es) hargs (fun ids w hp hf => ?_) hhp hfit ?_ ?_
  · refine (hcall ids w hp hf).mono ?_
    rintro e w' ⟨a1, c1, a2, c2, es, h1, rfl, h2, hd, hX, hge, hb⟩
    exact ⟨_, _, ⟨a1, c1, a2, c2, es, h1, h2, ⟨fun q => rw_sm hX.2.2 (sec_ne q), fun e he q => rw_sm (hX.2.1 e he) (kc_ne q)⟩, hd, rfl, rfl⟩, by rw [hr], hX, fun k hk => ⟨hge k hk, imX_lt hX k hk⟩, hb⟩
  · rintro u hy ⟨a1, c1, a2, c2, es, _, _, _, _, rfl, rfl⟩
    exact ⟨hc _ _ _ _, h1 _ _ _ _⟩
  · rintro u hy ⟨a1, c1, a2, c2, es, q1, q2, q3, q4, rfl, rfl⟩ hfr
    exact h a1 c1 a2 c2 es q1 q2 q3 q4 hfr
end
theorem xfirst_any (a : Option Addr) (cap : Nat) (xs : List Int) (w : World) (H : Ints w a xs) (hl : xs.length ≤ 17592186044416) : Calls Try.prog 15 #[.slice a xs.length cap] w (ImNew w id ⟨0, xs, 0, im0.regs, []⟩) := by
  refine calls_at (tab_ok _) Try.func15 rfl tXFirst (ρ := ⟨[], [], [], [xs.length, cap], [a]⟩) (ids := []) (hx := HX.nil) rfl (Facts.initP rfl oneNil) ?_
  refine node_cl (n := xs.length) (xs := xs.map (Value.int .i64)) (fun _ => #[.slice a xs.length cap]) (fun a' c' => ⟨[], [], [], [xs.length, c'], [a']⟩) (by intros; kernel_rfl) (fun ids w2 hp hf => scloneN_any a cap xs w2 (cl_stay H.cells (fun k hk => hf.chg.block k hk (fun q => q))) hl) (by intros; kernel_rfl) (by kernel_rfl) (by kernel_rfl) (by intros; kernel_rfl) (fun _ _ => oneNil) ?_
  intro a1 c1 hn
  intro ids w2 hp hf
  refine ⟨a1, c1, none, 0, [], rfl, by kernel_rfl, ⟨fun i j e e' _ h => by simp at h, fun e he => (by cases he)⟩, (fun q hq => by
    rcases hq with ⟨e, he, _⟩ | hq
    · cases he
    · exact absurd rfl hq.1), ⟨hf.x.2, ⟨fun e he => (by cases he), HX.rw_nil _ _ _ _⟩⟩, ?_, hf.chg.below⟩
  rintro k (hk | ⟨e, he, _⟩ | hk)
  · exact (hn k hk).1
  · cases he
  · exact absurd rfl hk.1
theorem xvalid_any (I : Im) (a1 : Option Addr) (c1 : Nat) (a2 : Option Addr) (c2 : Nat) (es : List SE) (w : World) (H : ImAt w I a1 a2 es) (hl : es.length ≤ 4611686018427387904) : Calls Try.prog 34 #[imV I a1 c1 a2 c2] w (PureAt w (.bool (validI I))) := by
  refine calls_at (tab_ok _) Try.func34 rfl tXValid (ρ := ⟨imI I, [], [], [I.mem.length, c1, I.tb.length, c2], [a1, a2]⟩) (ids := []) (hx := HX.nil) (by kernel_rfl) (Facts.initP rfl oneNil) ?_
  obtain ⟨V, eV⟩ : ∃ V, V = validI I := ⟨_, rfl⟩
  rw [← eV]
  have keep : ∀ {m : Mem} {ρ : Env} {ids : List Nat} {hx : HX} {w2 : World} {R : Ending → World → Prop}, Facts ⟨Try.prog, w, fun _ => False, R⟩ m ρ ids hx w2 → ImAt w2 I a1 a2 es := fun hf => H.keep (fun k hk => hf.chg.block k hk (fun q => q))
  unfold validI at eV
  by_cases h1 : 0 ≤ I.ep
  case' neg => exact br_F (decide (I.ep ≥ 0)) (by kernel_rfl) (decide_eq_false h1) (pure_done (by intros; rw [show V = false from by rw [eV]; simp [h1]]; kernel_rfl))
  refine br_T (decide (I.ep ≥ 0)) (by kernel_rfl) (decide_eq_true h1) ?_
  by_cases h2 : I.ep ≤ 1099511627776
  case' neg => exact br_F (decide (I.ep ≤ 1099511627776)) (by kernel_rfl) (decide_eq_false h2) (pure_done (by intros; rw [show V = false from by rw [eV]; simp [h2]]; kernel_rfl))
  refine br_T (decide (I.ep ≤ 1099511627776)) (by kernel_rfl) (decide_eq_true h2) ?_
  by_cases h3 : 0 ≤ I.sl
  case' neg => exact br_F (decide (I.sl ≥ 0)) (by kernel_rfl) (decide_eq_false h3) (pure_done (by intros; rw [show V = false from by rw [eV]; simp [h3]]; kernel_rfl))
  refine br_T (decide (I.sl ≥ 0)) (by kernel_rfl) (decide_eq_true h3) ?_
  by_cases h4 : I.sl ≤ 1099511627776
  case' neg => exact br_F (decide (I.sl ≤ 1099511627776)) (by kernel_rfl) (decide_eq_false h4) (pure_done (by intros; rw [show V = false from by rw [eV]; simp [h4]]; kernel_rfl))
  refine br_T (decide (I.sl ≤ 1099511627776)) (by kernel_rfl) (decide_eq_true h4) ?_
  refine node_P ⟨[checkV I.mem], [], [], [], []⟩ #[.slice a1 I.mem.length c1] (.int .i64 (checkV I.mem)) (by intros; kernel_rfl) (by intros; kernel_rfl) (by kernel_rfl) (by kernel_rfl) (by kernel_rfl) oneNil (fun ids w2 hp hf => (check_any a1 c1 I.mem w2 (keep hf).mem).mono fun e w3 h => ⟨h.1, h.2 ▸ Below.refl _ _⟩) ?_
  by_cases h5 : checkV I.mem = 0
  case' neg => exact br_F (checkV I.mem == 0) (by kernel_rfl) (by simpa using h5) (pure_done (by intros; rw [show V = false from by rw [eV]; simp [h5]]; kernel_rfl))
  refine br_T (checkV I.mem == 0) (by kernel_rfl) (by simpa using h5) ?_
  refine node_P ⟨[], [validL I.regs], [], [], []⟩ #[.agg ((rgs I.regs).map (Value.int .i64)).toArray] (.bool (validL I.regs)) (by intros; kernel_rfl) (by intros; kernel_rfl) (by kernel_rfl) (by kernel_rfl) (by kernel_rfl) oneNil (fun ids w2 hp hf => by have := valid_any (rgs I.regs) rfl w2; rw [rgs_of H.reg] at this ⊢; exact this) ?_
  by_cases h6 : validL I.regs = true
  case' neg => exact br_F (validL I.regs) (by kernel_rfl) (by simpa using h6) (pure_done (by intros; rw [show V = false from by rw [eV]; simp [h6]]; kernel_rfl))
  refine br_T (validL I.regs) (by kernel_rfl) h6 ?_
  refine node_P ⟨[], [validT I.tb], [], [], []⟩ #[.slice a2 I.tb.length c2] (.bool (validT I.tb)) (by intros; kernel_rfl) (by intros; kernel_rfl) (by kernel_rfl) (by kernel_rfl) (by kernel_rfl) oneNil (fun ids w2 hp hf => by have := tvalid_any a2 c2 es w2 (keep hf).tab hl; rw [H.tb, H.len] at this; exact this) ?_
  exact pure_done (by intros; rw [show V = validT I.tb from by rw [eV]; simp [h1, h2, h3, h4, h5, h6]]; kernel_rfl)
theorem VI.fit {I : Im} (h : VI I) : I.mem.length ≤ 7 ∧ I.tb.length ≤ 16 := ⟨by
  have := setOkB_iff.1 h.mem; exact this.2.1, h.tb.len⟩
theorem xclone_any (I : Im) (a1 : Option Addr) (c1 : Nat) (a2 : Option Addr) (c2 : Nat) (es : List SE) (w : World) (H : ImAt w I a1 a2 es) (hl : I.mem.length ≤ 17592186044416) (hl2 : es.length ≤ 1000000) (hk : ∀ e ∈ es, e.s.kept.length ≤ 1000000) : Calls Try.prog 35 #[imV I a1 c1 a2 c2] w (ImNew w id I) := by
  refine calls_at (tab_ok _) Try.func35 rfl tXClone (ρ := ⟨imI I, [], [], [I.mem.length, c1, I.tb.length, c2], [a1, a2]⟩) (ids := []) (hx := HX.nil) (by kernel_rfl) (Facts.initP rfl oneNil) ?_
  have keep : ∀ {m : Mem} {ρ : Env} {ids : List Nat} {hx : HX} {w2 : World} {R : Ending → World → Prop}, Facts ⟨Try.prog, w, fun _ => False, R⟩ m ρ ids hx w2 → ImAt w2 I a1 a2 es := fun hf => H.keep (fun k hk => hf.chg.block k hk (fun q => q))
  refine node_cl (n := I.mem.length) (xs := I.mem.map (Value.int .i64)) (fun _ => #[.slice a1 I.mem.length c1]) (fun a' c' => ⟨[], [], [], [I.mem.length, c'], [a']⟩) (by intros; kernel_rfl) (fun ids w2 hp hf => scloneN_any a1 c1 I.mem w2 (keep hf).mem.cells hl) (by intros; kernel_rfl) (by kernel_rfl) (by kernel_rfl) (by intros; kernel_rfl) (fun _ _ => oneNil) ?_
  intro b1 d1 hn1
  refine node_tb (V := id) (tb := I.tb) (fun _ => #[.slice a2 I.tb.length c2]) (fun a' c' => ⟨[], [], [], [I.tb.length, c'], [a']⟩) (by intros; kernel_rfl) (fun ids w2 hp hf => by
    have := tclone_any a2 c2 es w2 (keep hf).tab hl2 hk
    rw [H.tb, H.len] at this; exact this) (by intros; kernel_rfl) (by kernel_rfl) (by kernel_rfl) (by intros; kernel_rfl) (fun _ _ => oneNil) ?_
  intro b2 d2 es2 hm hdj hsm hn2
  intro ids w2 hp hf
  refine ⟨b1, d1, b2, d2, es2, hm, by kernel_rfl, hdj, fun q hq hk => (hn2 q hq).2 (.inr hk), ⟨hf.x.1.2, hf.x.2⟩, ?_, hf.chg.below⟩
  rintro k (hk | hk)
  · exact (hn1 k hk).1
  · exact (hn2 k hk).1
end Go.Proofs.Ytbedoemdjlollaa
