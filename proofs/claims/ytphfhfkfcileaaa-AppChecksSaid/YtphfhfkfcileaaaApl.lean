/- Contracts of the registers' layer and of its reference. -/
import Derived.Test.YtphfhfkfcileaaaReg
namespace Go.Proofs.Ytphfhfkfcileaaa
open Go.ChangeShapes Go.WideShapes Go.ChangeAt Go.RowKit Go.Syn Go.Eng
set_option linter.unusedVariables false
set_option linter.unusedSimpArgs false
set_option maxRecDepth 10000
theorem valid_any (xs : List Int) (hx : xs.length = 16) (w : World) : Calls Try.prog 14 #[.agg (xs.map (Value.int .i64)).toArray] w (PureAt w (.bool (validL xs))) := by
  obtain ⟨a0, a1, a2, a3, a4, a5, a6, a7, a8, a9, a10, a11, a12, a13, a14, a15, rfl⟩ := list16 xs hx
  refine calls_at (tab_ok _) Try.func14 rfl tValid (ρ := ⟨[a0, a1, a2, a3, a4, a5, a6, a7, a8, a9, a10, a11, a12, a13, a14, a15], [], [], [], []⟩) (ids := []) rfl (Facts.initP rfl oneNil) ?_
  rw [show validL [a0, a1, a2, a3, a4, a5, a6, a7, a8, a9, a10, a11, a12, a13, a14, a15] = (fitB a0 a1 && (fitB a2 a3 && (fitB a4 a5 && (fitB a6 a7 && (fitB a8 a9 && (fitB a10 a11 && (fitB a12 a13 && (fitB a14 a15 && true)))))))) from rfl]
  refine node_val ⟨[], [fitB a0 a1], [numV a0 a1], [], []⟩ (fun w => pure_of (of_any a0 a1 w)) (by intros; kernel_rfl) (by intros; kernel_rfl) rfl rfl rfl (one1 (numV_one a0 a1)) ?_
  cases h0 : fitB a0 a1 with
  | false => exact br_t rfl (pure_done fun _ => rfl)
  | true =>
    refine br_f rfl ?_
    refine node_val ⟨[], [fitB a2 a3], [numV a2 a3], [], []⟩ (fun w => pure_of (of_any a2 a3 w)) (by intros; kernel_rfl) (by intros; kernel_rfl) rfl rfl rfl (one1 (numV_one a2 a3)) ?_
    cases h1 : fitB a2 a3 with
    | false => exact br_t rfl (pure_done fun _ => rfl)
    | true =>
      refine br_f rfl ?_
      refine node_val ⟨[], [fitB a4 a5], [numV a4 a5], [], []⟩ (fun w => pure_of (of_any a4 a5 w)) (by intros; kernel_rfl) (by intros; kernel_rfl) rfl rfl rfl (one1 (numV_one a4 a5)) ?_
      cases h2 : fitB a4 a5 with
      | false => exact br_t rfl (pure_done fun _ => rfl)
      | true =>
        refine br_f rfl ?_
        refine node_val ⟨[], [fitB a6 a7], [numV a6 a7], [], []⟩ (fun w => pure_of (of_any a6 a7 w)) (by intros; kernel_rfl) (by intros; kernel_rfl) rfl rfl rfl (one1 (numV_one a6 a7)) ?_
        cases h3 : fitB a6 a7 with
        | false => exact br_t rfl (pure_done fun _ => rfl)
        | true =>
          refine br_f rfl ?_
          refine node_val ⟨[], [fitB a8 a9], [numV a8 a9], [], []⟩ (fun w => pure_of (of_any a8 a9 w)) (by intros; kernel_rfl) (by intros; kernel_rfl) rfl rfl rfl (one1 (numV_one a8 a9)) ?_
          cases h4 : fitB a8 a9 with
          | false => exact br_t rfl (pure_done fun _ => rfl)
          | true =>
            refine br_f rfl ?_
            refine node_val ⟨[], [fitB a10 a11], [numV a10 a11], [], []⟩ (fun w => pure_of (of_any a10 a11 w)) (by intros; kernel_rfl) (by intros; kernel_rfl) rfl rfl rfl (one1 (numV_one a10 a11)) ?_
            cases h5 : fitB a10 a11 with
            | false => exact br_t rfl (pure_done fun _ => rfl)
            | true =>
              refine br_f rfl ?_
              refine node_val ⟨[], [fitB a12 a13], [numV a12 a13], [], []⟩ (fun w => pure_of (of_any a12 a13 w)) (by intros; kernel_rfl) (by intros; kernel_rfl) rfl rfl rfl (one1 (numV_one a12 a13)) ?_
              cases h6 : fitB a12 a13 with
              | false => exact br_t rfl (pure_done fun _ => rfl)
              | true =>
                refine br_f rfl ?_
                refine node_val ⟨[], [fitB a14 a15], [numV a14 a15], [], []⟩ (fun w => pure_of (of_any a14 a15 w)) (by intros; kernel_rfl) (by intros; kernel_rfl) rfl rfl rfl (one1 (numV_one a14 a15)) ?_
                cases h7 : fitB a14 a15 with
                | false => exact br_t rfl (pure_done fun _ => rfl)
                | true =>
                  refine br_f rfl ?_
                  exact pure_done fun _ => rfl
theorem refValid_any (xs : List Int) (hx : xs.length = 16) (w : World) : Calls Try.prog 15 #[.agg (xs.map (Value.int .i64)).toArray] w (PureAt w (.bool (validL xs))) := by
  obtain ⟨a0, a1, a2, a3, a4, a5, a6, a7, a8, a9, a10, a11, a12, a13, a14, a15, rfl⟩ := list16 xs hx
  refine calls_at (tab_ok _) Try.func15 rfl tRefValid (ρ := ⟨[a0, a1, a2, a3, a4, a5, a6, a7, a8, a9, a10, a11, a12, a13, a14, a15], [], [], [], []⟩) (ids := []) rfl (Facts.initP rfl oneNil) ?_
  rw [show validL [a0, a1, a2, a3, a4, a5, a6, a7, a8, a9, a10, a11, a12, a13, a14, a15] = (fitB a0 a1 && (fitB a2 a3 && (fitB a4 a5 && (fitB a6 a7 && (fitB a8 a9 && (fitB a10 a11 && (fitB a12 a13 && (fitB a14 a15 && true)))))))) from rfl]
  refine node_val ⟨[], [fitB a0 a1], [], [], []⟩ (fun w => pure_of (ref03_any a0 a1 w)) (by intros; kernel_rfl) (by intros; kernel_rfl) rfl rfl rfl oneNil ?_
  cases h0 : fitB a0 a1 with
  | false => exact br_t rfl (pure_done fun _ => rfl)
  | true =>
    refine br_f rfl ?_
    refine node_val ⟨[], [fitB a2 a3], [], [], []⟩ (fun w => pure_of (ref03_any a2 a3 w)) (by intros; kernel_rfl) (by intros; kernel_rfl) rfl rfl rfl oneNil ?_
    cases h1 : fitB a2 a3 with
    | false => exact br_t rfl (pure_done fun _ => rfl)
    | true =>
      refine br_f rfl ?_
      refine node_val ⟨[], [fitB a4 a5], [], [], []⟩ (fun w => pure_of (ref03_any a4 a5 w)) (by intros; kernel_rfl) (by intros; kernel_rfl) rfl rfl rfl oneNil ?_
      cases h2 : fitB a4 a5 with
      | false => exact br_t rfl (pure_done fun _ => rfl)
      | true =>
        refine br_f rfl ?_
        refine node_val ⟨[], [fitB a6 a7], [], [], []⟩ (fun w => pure_of (ref03_any a6 a7 w)) (by intros; kernel_rfl) (by intros; kernel_rfl) rfl rfl rfl oneNil ?_
        cases h3 : fitB a6 a7 with
        | false => exact br_t rfl (pure_done fun _ => rfl)
        | true =>
          refine br_f rfl ?_
          refine node_val ⟨[], [fitB a8 a9], [], [], []⟩ (fun w => pure_of (ref03_any a8 a9 w)) (by intros; kernel_rfl) (by intros; kernel_rfl) rfl rfl rfl oneNil ?_
          cases h4 : fitB a8 a9 with
          | false => exact br_t rfl (pure_done fun _ => rfl)
          | true =>
            refine br_f rfl ?_
            refine node_val ⟨[], [fitB a10 a11], [], [], []⟩ (fun w => pure_of (ref03_any a10 a11 w)) (by intros; kernel_rfl) (by intros; kernel_rfl) rfl rfl rfl oneNil ?_
            cases h5 : fitB a10 a11 with
            | false => exact br_t rfl (pure_done fun _ => rfl)
            | true =>
              refine br_f rfl ?_
              refine node_val ⟨[], [fitB a12 a13], [], [], []⟩ (fun w => pure_of (ref03_any a12 a13 w)) (by intros; kernel_rfl) (by intros; kernel_rfl) rfl rfl rfl oneNil ?_
              cases h6 : fitB a12 a13 with
              | false => exact br_t rfl (pure_done fun _ => rfl)
              | true =>
                refine br_f rfl ?_
                refine node_val ⟨[], [fitB a14 a15], [], [], []⟩ (fun w => pure_of (ref03_any a14 a15 w)) (by intros; kernel_rfl) (by intros; kernel_rfl) rfl rfl rfl oneNil ?_
                cases h7 : fitB a14 a15 with
                | false => exact br_t rfl (pure_done fun _ => rfl)
                | true =>
                  refine br_f rfl ?_
                  exact pure_done fun _ => rfl
theorem reads_any (o : OpD) (w : World) : Calls Try.prog 16 #[.agg o.cells.toArray] w (PureAt w (.bool (o.kind == 1))) := by
  refine calls_at (tab_ok _) Try.func16 rfl tReads (ρ := ⟨[o.kind, o.reg, o.tg, o.re, o.im], [], [], [], []⟩) (ids := []) rfl (Facts.initP rfl oneNil) ?_
  exact pure_done fun _ => rfl
theorem applyM_bad {xs : List Int} {o : OpD} (h : (validL xs && opB o) = false) : applyM xs o = (xs, 0, 0, 0) := by unfold applyM; rw [h]; rfl
theorem applyM_miss {xs : List Int} {o : OpD} (h : validL xs = true) (h2 : opB o = true) (h3 : o.kind = 7) (h4 : ¬ regOf xs o.reg.toNat = (o.re, o.im)) : applyM xs o = (xs, 3, (regOf xs o.reg.toNat).1, (regOf xs o.reg.toNat).2) := by
  unfold applyM; rw [h, h2]; simp only [Bool.and_self, if_true]; rw [if_pos ⟨h3, h4⟩]
theorem applyM_over {xs : List Int} {o : OpD} (h : validL xs = true) (h2 : opB o = true) (h3 : o.kind ≠ 7) (h4 : fitB (newReg xs o).1 (newReg xs o).2 = false) : applyM xs o = (xs, 2, 0, 0) := by
  unfold applyM; rw [h, h2]; simp only [Bool.and_self, if_true]; rw [if_neg (fun q => h3 q.1), h4]; rfl
theorem applyM_val {xs : List Int} {o : OpD} (h : validL xs = true) (h2 : opB o = true) (h3 : o.kind = 7 → regOf xs o.reg.toNat = (o.re, o.im)) {q : Int × Int} (hq : newReg xs o = q) (h4 : fitB q.1 q.2 = true) : applyM xs o = (put2 (if o.kind = 6 then put2 xs o.tg.toNat (regOf xs o.reg.toNat) else xs) o.reg.toNat q, 1, q.1, q.2) := by
  unfold applyM; rw [h, h2, hq]; simp only [Bool.and_self, if_true]; rw [if_neg (fun q => q.2 (h3 q.1)), if_pos h4]
theorem parts_num {q : Int × Int} (h : fitB q.1 q.2 = true) (w : World) : Calls Try.prog 23 #[numV q.1 q.2] w (PureAt w (.tuple #[.int .i64 q.1, .int .i64 q.2, .bool true])) := by
  obtain ⟨ha, hb⟩ := fit_abs h
  have := parts_any (isI_of ha) (isI_of hb) (by omega) (by omega) w
  unfold partsV at this
  rw [h] at this
  rw [numV_eq h]
  exact this
theorem swap_eq {xs : List Int} {i j : Nat} (hi : 2 * i + 1 < xs.length) (hj : 2 * j + 1 < xs.length) : regOf (put2 (put2 xs i (regOf xs j)) j (regOf xs i)) i = regOf xs j ∧ put2 (put2 (put2 xs i (regOf xs j)) j (regOf xs i)) i (regOf xs j) = put2 (put2 xs j (regOf xs i)) i (regOf xs j) := by
  by_cases e : i = j
  · subst e
    rw [put2_put2, regOf_put2 hi, put2_put2]
    exact ⟨rfl, rfl⟩
  · have e2 : put2 (put2 xs i (regOf xs j)) j (regOf xs i) = put2 (put2 xs j (regOf xs i)) i (regOf xs j) := put2_comm xs e _ _
    rw [e2, regOf_put2 (by rw [put2_len]; exact hi)]
    exact ⟨rfl, put2_put2 _ _ _ _⟩

set_option maxHeartbeats 4000000 in
theorem apply_any (xs : List Int) (hx : xs.length = 16) (o : OpD) (w : World) : Calls Try.prog 11 #[.agg (xs.map (Value.int .i64)).toArray, .agg o.cells.toArray] w (PureAt w (resV (applyM xs o))) := by
  obtain ⟨a0, a1, a2, a3, a4, a5, a6, a7, a8, a9, a10, a11, a12, a13, a14, a15, rfl⟩ := list16 xs hx
  obtain ⟨kind, reg, tg, re, im⟩ := o
  refine calls_at (tab_ok _) Try.func11 rfl tApply (ρ := ⟨[a0, a1, a2, a3, a4, a5, a6, a7, a8, a9, a10, a11, a12, a13, a14, a15, kind, reg, tg, re, im], [], [], [], []⟩) (ids := []) rfl (Facts.initP rfl oneNil) ?_
  refine node_val ⟨[], [validL [a0, a1, a2, a3, a4, a5, a6, a7, a8, a9, a10, a11, a12, a13, a14, a15]], [], [], []⟩ (fun w => valid_any [a0, a1, a2, a3, a4, a5, a6, a7, a8, a9, a10, a11, a12, a13, a14, a15] rfl w) (by intros; kernel_rfl) (by intros; kernel_rfl) rfl rfl rfl oneNil ?_
  cases hv : validL [a0, a1, a2, a3, a4, a5, a6, a7, a8, a9, a10, a11, a12, a13, a14, a15] with
  | false =>
    rw [applyM_bad (by rw [hv]; rfl)]
    exact br_t rfl (pure_done fun _ => rfl)
  | true =>
  refine br_f rfl ?_
  refine node_val ⟨[if opB ⟨kind, reg, tg, re, im⟩ then 0 else 22], [], [], [], []⟩ (fun w => opCheck_any ⟨kind, reg, tg, re, im⟩ w) (by intros; kernel_rfl) (by intros; kernel_rfl) rfl rfl rfl oneNil ?_
  cases ho : opB ⟨kind, reg, tg, re, im⟩ with
  | false =>
    rw [applyM_bad (by rw [hv, ho]; rfl)]
    exact br_t rfl (pure_done fun _ => rfl)
  | true =>
  refine br_f rfl ?_
  obtain ⟨k12, r12, t1, t2, hf, h6⟩ := (opB_iff _).1 ho
  dsimp only at k12 r12 t1 t2 hf h6
  have tle : tg ≤ 7 := by
    unfold mostV at t2
    split at t2
    · omega
    · split at t2 <;> omega
  obtain ⟨i, rfl⟩ : ∃ i : Nat, reg = (i : Int) := ⟨reg.toNat, by omega⟩
  obtain ⟨j, rfl⟩ : ∃ j : Nat, tg = (j : Int) := ⟨tg.toNat, by omega⟩
  have hi : i < 8 := by omega
  have hj : j < 8 := by omega
  have hI : (0 : Int) ≤ i ∧ (i : Int) < 8 := by omega
  have hJ : (0 : Int) ≤ j ∧ (j : Int) < 8 := by omega
  have hli : 2 * i + 1 < ([a0, a1, a2, a3, a4, a5, a6, a7, a8, a9, a10, a11, a12, a13, a14, a15] : List Int).length := by simp only [List.length_cons, List.length_nil]; omega
  have hlj : 2 * j + 1 < ([a0, a1, a2, a3, a4, a5, a6, a7, a8, a9, a10, a11, a12, a13, a14, a15] : List Int).length := by simp only [List.length_cons, List.length_nil]; omega
  have hp := valid_reg hv i hli
  have hqj := valid_reg hv j hlj
  have hV := fun q h3 hq h4 => applyM_val (o := ⟨kind, (i : Int), (j : Int), re, im⟩) hv ho (q := q) h3 hq h4
  have hO := applyM_over (o := ⟨kind, (i : Int), (j : Int), re, im⟩) hv ho
  have hS := applyM_miss (o := ⟨kind, (i : Int), (j : Int), re, im⟩) hv ho
  dsimp only [Int.toNat_natCast] at hV hO hS
  generalize hP : regOf [a0, a1, a2, a3, a4, a5, a6, a7, a8, a9, a10, a11, a12, a13, a14, a15] i = p at *
  refine need_i hI ?_
  refine node_reg2 [a0, a1, a2, a3, a4, a5, a6, a7, a8, a9, a10, a11, a12, a13, a14, a15] i ⟨[p.1, p.2], [], [], [], []⟩ hli rfl (by intros; kernel_rfl) (by intros; kernel_rfl) (by rw [hP]; intros; kernel_rfl) rfl oneNil ?_
  refine node_val ⟨[], [], [numV p.1 p.2], [], []⟩ (fun w => number_any p.1 p.2 w) (by intros; kernel_rfl) (by intros; kernel_rfl) rfl rfl rfl (one1 (numV_one _ _)) ?_
  refine node_val ⟨[], [], [numV re im], [], []⟩ (fun w => number_any re im w) (by intros; kernel_rfl) (by intros; kernel_rfl) rfl rfl rfl (one1 (numV_one _ _)) ?_
  by_cases k2 : kind = 2
  · subst k2
    refine br_t rfl ?_
    refine node_val ⟨[(re, im).1, (re, im).2], [true], [], [], []⟩ (fun w => parts_num (q := (re, im)) hf w) (by intros; kernel_rfl) (by intros; kernel_rfl) rfl rfl rfl oneNil ?_
    refine need_i hI ?_
    obtain ⟨t0, t1, t2, t3, t4, t5, t6, t7, t8, t9, t10, t11, t12, t13, t14, t15, ht0⟩ := list16 (put2 [a0, a1, a2, a3, a4, a5, a6, a7, a8, a9, a10, a11, a12, a13, a14, a15] i (re, im)) (by rw [put2_len]; rfl)
    refine node_put (n := 0) [a0, a1, a2, a3, a4, a5, a6, a7, a8, a9, a10, a11, a12, a13, a14, a15] [t0, t1, t2, t3, t4, t5, t6, t7, t8, t9, t10, t11, t12, t13, t14, t15] i (re, im) ⟨[t0, t1, t2, t3, t4, t5, t6, t7, t8, t9, t10, t11, t12, t13, t14, t15], [], [], [], []⟩ ht0 hli rfl (by intros; kernel_rfl) (by kernel_rfl) (by intros; kernel_rfl) (by intros; kernel_rfl) rfl (by intros; kernel_rfl) rfl rfl oneNil ?_
    have hm := hV (re, im) (fun q => absurd q (by decide)) (by simp [newReg]) hf
    rw [if_neg (by decide), ht0] at hm
    rw [hm]
    exact pure_done (by intros; kernel_rfl)
  refine br_f (show (kind == 2) = false by simpa using k2) ?_
  by_cases k3 : kind = 3
  · subst k3
    refine br_t rfl ?_
    generalize hQ : ((p.1 + re, p.2 + im) : Int × Int) = q
    refine node_val (V := .tuple #[numV q.1 q.2, .bool (fitB q.1 q.2)]) ⟨[], [fitB q.1 q.2], [numV q.1 q.2], [], []⟩ (fun w => by rw [← hQ]; exact add_any hp hf w) (by intros; kernel_rfl) (by intros; kernel_rfl) rfl rfl rfl (one1 (numV_one _ _)) ?_
    cases hfq : fitB q.1 q.2 with
    | false =>
      have hn : newReg [a0, a1, a2, a3, a4, a5, a6, a7, a8, a9, a10, a11, a12, a13, a14, a15] ⟨3, (i : Int), (j : Int), re, im⟩ = q := by rw [← hQ]; simp [newReg, hP]
      rw [hO (by decide) (by rw [hn]; exact hfq)]
      exact br_t rfl (pure_done (by intros; kernel_rfl))
    | true =>
      refine br_f rfl ?_
      refine node_val ⟨[q.1, q.2], [true], [], [], []⟩ (fun w => parts_num (q := q) hfq w) (by intros; kernel_rfl) (by intros; kernel_rfl) rfl rfl rfl oneNil ?_
      refine need_i hI ?_
      obtain ⟨t0, t1, t2, t3, t4, t5, t6, t7, t8, t9, t10, t11, t12, t13, t14, t15, ht0⟩ := list16 (put2 [a0, a1, a2, a3, a4, a5, a6, a7, a8, a9, a10, a11, a12, a13, a14, a15] i q) (by rw [put2_len]; rfl)
      refine node_put (n := 0) [a0, a1, a2, a3, a4, a5, a6, a7, a8, a9, a10, a11, a12, a13, a14, a15] [t0, t1, t2, t3, t4, t5, t6, t7, t8, t9, t10, t11, t12, t13, t14, t15] i q ⟨[t0, t1, t2, t3, t4, t5, t6, t7, t8, t9, t10, t11, t12, t13, t14, t15], [], [], [], []⟩ ht0 hli rfl (by intros; kernel_rfl) (by kernel_rfl) (by intros; kernel_rfl) (by intros; kernel_rfl) rfl (by intros; kernel_rfl) rfl rfl oneNil ?_
      have hm := hV q (fun q => absurd q (by decide)) (by rw [← hQ]; simp [newReg, hP]) hfq
      rw [if_neg (by decide), ht0] at hm
      rw [hm]
      exact pure_done (by intros; kernel_rfl)
  refine br_f (show (kind == 3) = false by simpa using k3) ?_
  by_cases k4 : kind = 4
  · subst k4
    refine br_t rfl ?_
    generalize hQ : ((p.1 * re - p.2 * im, p.1 * im + p.2 * re) : Int × Int) = q
    refine node_val (V := .tuple #[numV q.1 q.2, .bool (fitB q.1 q.2)]) ⟨[], [fitB q.1 q.2], [numV q.1 q.2], [], []⟩ (fun w => by rw [← hQ]; exact mul_any hp hf w) (by intros; kernel_rfl) (by intros; kernel_rfl) rfl rfl rfl (one1 (numV_one _ _)) ?_
    cases hfq : fitB q.1 q.2 with
    | false =>
      have hn : newReg [a0, a1, a2, a3, a4, a5, a6, a7, a8, a9, a10, a11, a12, a13, a14, a15] ⟨4, (i : Int), (j : Int), re, im⟩ = q := by rw [← hQ]; simp [newReg, hP]
      rw [hO (by decide) (by rw [hn]; exact hfq)]
      exact br_t rfl (pure_done (by intros; kernel_rfl))
    | true =>
      refine br_f rfl ?_
      refine node_val ⟨[q.1, q.2], [true], [], [], []⟩ (fun w => parts_num (q := q) hfq w) (by intros; kernel_rfl) (by intros; kernel_rfl) rfl rfl rfl oneNil ?_
      refine need_i hI ?_
      obtain ⟨t0, t1, t2, t3, t4, t5, t6, t7, t8, t9, t10, t11, t12, t13, t14, t15, ht0⟩ := list16 (put2 [a0, a1, a2, a3, a4, a5, a6, a7, a8, a9, a10, a11, a12, a13, a14, a15] i q) (by rw [put2_len]; rfl)
      refine node_put (n := 0) [a0, a1, a2, a3, a4, a5, a6, a7, a8, a9, a10, a11, a12, a13, a14, a15] [t0, t1, t2, t3, t4, t5, t6, t7, t8, t9, t10, t11, t12, t13, t14, t15] i q ⟨[t0, t1, t2, t3, t4, t5, t6, t7, t8, t9, t10, t11, t12, t13, t14, t15], [], [], [], []⟩ ht0 hli rfl (by intros; kernel_rfl) (by kernel_rfl) (by intros; kernel_rfl) (by intros; kernel_rfl) rfl (by intros; kernel_rfl) rfl rfl oneNil ?_
      have hm := hV q (fun q => absurd q (by decide)) (by rw [← hQ]; simp [newReg, hP]) hfq
      rw [if_neg (by decide), ht0] at hm
      rw [hm]
      exact pure_done (by intros; kernel_rfl)
  refine br_f (show (kind == 4) = false by simpa using k4) ?_
  by_cases k5 : kind = 5
  · subst k5
    refine br_t rfl ?_
    generalize hQ : (turnN j p : Int × Int) = q
    refine node_val (V := .tuple #[numV q.1 q.2, .bool (fitB q.1 q.2)]) ⟨[], [fitB q.1 q.2], [numV q.1 q.2], [], []⟩ (fun w => by rw [← hQ]; exact turn_any hp j (by rw [show mostV 5 = 3 from rfl] at t2; omega) w) (by intros; kernel_rfl) (by intros; kernel_rfl) rfl rfl rfl (one1 (numV_one _ _)) ?_
    cases hfq : fitB q.1 q.2 with
    | false =>
      have hn : newReg [a0, a1, a2, a3, a4, a5, a6, a7, a8, a9, a10, a11, a12, a13, a14, a15] ⟨5, (i : Int), (j : Int), re, im⟩ = q := by rw [← hQ]; simp [newReg, hP]
      rw [hO (by decide) (by rw [hn]; exact hfq)]
      exact br_t rfl (pure_done (by intros; kernel_rfl))
    | true =>
      refine br_f rfl ?_
      refine node_val ⟨[q.1, q.2], [true], [], [], []⟩ (fun w => parts_num (q := q) hfq w) (by intros; kernel_rfl) (by intros; kernel_rfl) rfl rfl rfl oneNil ?_
      refine need_i hI ?_
      obtain ⟨t0, t1, t2, t3, t4, t5, t6, t7, t8, t9, t10, t11, t12, t13, t14, t15, ht0⟩ := list16 (put2 [a0, a1, a2, a3, a4, a5, a6, a7, a8, a9, a10, a11, a12, a13, a14, a15] i q) (by rw [put2_len]; rfl)
      refine node_put (n := 0) [a0, a1, a2, a3, a4, a5, a6, a7, a8, a9, a10, a11, a12, a13, a14, a15] [t0, t1, t2, t3, t4, t5, t6, t7, t8, t9, t10, t11, t12, t13, t14, t15] i q ⟨[t0, t1, t2, t3, t4, t5, t6, t7, t8, t9, t10, t11, t12, t13, t14, t15], [], [], [], []⟩ ht0 hli rfl (by intros; kernel_rfl) (by kernel_rfl) (by intros; kernel_rfl) (by intros; kernel_rfl) rfl (by intros; kernel_rfl) rfl rfl oneNil ?_
      have hm := hV q (fun q => absurd q (by decide)) (by rw [← hQ]; simp [newReg, hP]) hfq
      rw [if_neg (by decide), ht0] at hm
      rw [hm]
      exact pure_done (by intros; kernel_rfl)
  refine br_f (show (kind == 5) = false by simpa using k5) ?_
  by_cases k6 : kind = 6
  · subst k6
    refine br_t rfl ?_
    generalize hQ : regOf [a0, a1, a2, a3, a4, a5, a6, a7, a8, a9, a10, a11, a12, a13, a14, a15] j = q at *
    obtain ⟨hs1, hs2⟩ := swap_eq hli hlj
    rw [hP, hQ] at hs1 hs2
    refine need_i hJ ?_
    refine need_i hI ?_
    refine par_i ?_ ?_
    · refine node_reg2 [a0, a1, a2, a3, a4, a5, a6, a7, a8, a9, a10, a11, a12, a13, a14, a15] j ⟨[q.1, q.2], [], [], [], []⟩ hlj rfl (by intros; kernel_rfl) (by intros; kernel_rfl) (by rw [hQ]; intros; kernel_rfl) rfl oneNil ?_
      refine node_reg2 [a0, a1, a2, a3, a4, a5, a6, a7, a8, a9, a10, a11, a12, a13, a14, a15] i ⟨[p.1, p.2], [], [], [], []⟩ hli rfl (by intros; kernel_rfl) (by intros; kernel_rfl) (by rw [hP]; intros; kernel_rfl) rfl oneNil ?_
      refine need_i hI ?_
      obtain ⟨u0, u1, u2, u3, u4, u5, u6, u7, u8, u9, u10, u11, u12, u13, u14, u15, hu0⟩ := list16 (put2 [a0, a1, a2, a3, a4, a5, a6, a7, a8, a9, a10, a11, a12, a13, a14, a15] i q) (by rw [put2_len]; rfl)
      refine node_put (n := 0) [a0, a1, a2, a3, a4, a5, a6, a7, a8, a9, a10, a11, a12, a13, a14, a15] [u0, u1, u2, u3, u4, u5, u6, u7, u8, u9, u10, u11, u12, u13, u14, u15] i q ⟨[u0, u1, u2, u3, u4, u5, u6, u7, u8, u9, u10, u11, u12, u13, u14, u15], [], [], [], []⟩ hu0 hli rfl (by intros; kernel_rfl) (by kernel_rfl) (by intros; kernel_rfl) (by intros; kernel_rfl) rfl (by intros; kernel_rfl) rfl rfl oneNil ?_
      refine need_i hJ ?_
      obtain ⟨s0, s1, s2, s3, s4, s5, s6, s7, s8, s9, s10, s11, s12, s13, s14, s15, hs0⟩ := list16 (put2 [u0, u1, u2, u3, u4, u5, u6, u7, u8, u9, u10, u11, u12, u13, u14, u15] j p) (by rw [put2_len]; rfl)
      refine node_put (n := 0) [u0, u1, u2, u3, u4, u5, u6, u7, u8, u9, u10, u11, u12, u13, u14, u15] [s0, s1, s2, s3, s4, s5, s6, s7, s8, s9, s10, s11, s12, s13, s14, s15] j p ⟨[s0, s1, s2, s3, s4, s5, s6, s7, s8, s9, s10, s11, s12, s13, s14, s15], [], [], [], []⟩ hs0 hlj rfl (by intros; kernel_rfl) (by kernel_rfl) (by intros; kernel_rfl) (by intros; kernel_rfl) rfl (by intros; kernel_rfl) rfl rfl oneNil ?_
      rw [← hu0] at hs0
      rw [hs0] at hs1 hs2
      refine need_i hI ?_
      refine node_reg2 [s0, s1, s2, s3, s4, s5, s6, s7, s8, s9, s10, s11, s12, s13, s14, s15] i ⟨[q.1, q.2], [], [], [], []⟩ hli rfl (by intros; kernel_rfl) (by intros; kernel_rfl) (by rw [hs1]; intros; kernel_rfl) rfl oneNil ?_
      refine node_val ⟨[], [], [numV q.1 q.2], [], []⟩ (fun w => number_any q.1 q.2 w) (by intros; kernel_rfl) (by intros; kernel_rfl) rfl rfl rfl (one1 (numV_one _ _)) ?_
      refine node_val ⟨[q.1, q.2], [true], [], [], []⟩ (fun w => parts_num (q := q) hqj w) (by intros; kernel_rfl) (by intros; kernel_rfl) rfl rfl rfl oneNil ?_
      refine need_i hI ?_
      obtain ⟨t0, t1, t2, t3, t4, t5, t6, t7, t8, t9, t10, t11, t12, t13, t14, t15, ht0⟩ := list16 (put2 [s0, s1, s2, s3, s4, s5, s6, s7, s8, s9, s10, s11, s12, s13, s14, s15] i q) (by rw [put2_len]; rfl)
      refine node_put (n := 0) [s0, s1, s2, s3, s4, s5, s6, s7, s8, s9, s10, s11, s12, s13, s14, s15] [t0, t1, t2, t3, t4, t5, t6, t7, t8, t9, t10, t11, t12, t13, t14, t15] i q ⟨[t0, t1, t2, t3, t4, t5, t6, t7, t8, t9, t10, t11, t12, t13, t14, t15], [], [], [], []⟩ ht0 hli rfl (by intros; kernel_rfl) (by kernel_rfl) (by intros; kernel_rfl) (by intros; kernel_rfl) rfl (by intros; kernel_rfl) rfl rfl oneNil ?_
      have hm := hV q (fun q => absurd q (by decide)) (by simp [newReg, hQ]) hqj
      rw [if_pos rfl, ← hs2, ht0] at hm
      rw [hm]
      exact pure_done (by intros; kernel_rfl)
    · refine node_reg2 [a0, a1, a2, a3, a4, a5, a6, a7, a8, a9, a10, a11, a12, a13, a14, a15] i ⟨[p.1, p.2], [], [], [], []⟩ hli rfl (by intros; kernel_rfl) (by intros; kernel_rfl) (by rw [hP]; intros; kernel_rfl) rfl oneNil ?_
      refine node_reg2 [a0, a1, a2, a3, a4, a5, a6, a7, a8, a9, a10, a11, a12, a13, a14, a15] j ⟨[q.1, q.2], [], [], [], []⟩ hlj rfl (by intros; kernel_rfl) (by intros; kernel_rfl) (by rw [hQ]; intros; kernel_rfl) rfl oneNil ?_
      refine need_i hI ?_
      obtain ⟨u0, u1, u2, u3, u4, u5, u6, u7, u8, u9, u10, u11, u12, u13, u14, u15, hu0⟩ := list16 (put2 [a0, a1, a2, a3, a4, a5, a6, a7, a8, a9, a10, a11, a12, a13, a14, a15] i q) (by rw [put2_len]; rfl)
      refine node_put (n := 0) [a0, a1, a2, a3, a4, a5, a6, a7, a8, a9, a10, a11, a12, a13, a14, a15] [u0, u1, u2, u3, u4, u5, u6, u7, u8, u9, u10, u11, u12, u13, u14, u15] i q ⟨[u0, u1, u2, u3, u4, u5, u6, u7, u8, u9, u10, u11, u12, u13, u14, u15], [], [], [], []⟩ hu0 hli rfl (by intros; kernel_rfl) (by kernel_rfl) (by intros; kernel_rfl) (by intros; kernel_rfl) rfl (by intros; kernel_rfl) rfl rfl oneNil ?_
      refine need_i hJ ?_
      obtain ⟨s0, s1, s2, s3, s4, s5, s6, s7, s8, s9, s10, s11, s12, s13, s14, s15, hs0⟩ := list16 (put2 [u0, u1, u2, u3, u4, u5, u6, u7, u8, u9, u10, u11, u12, u13, u14, u15] j p) (by rw [put2_len]; rfl)
      refine node_put (n := 0) [u0, u1, u2, u3, u4, u5, u6, u7, u8, u9, u10, u11, u12, u13, u14, u15] [s0, s1, s2, s3, s4, s5, s6, s7, s8, s9, s10, s11, s12, s13, s14, s15] j p ⟨[s0, s1, s2, s3, s4, s5, s6, s7, s8, s9, s10, s11, s12, s13, s14, s15], [], [], [], []⟩ hs0 hlj rfl (by intros; kernel_rfl) (by kernel_rfl) (by intros; kernel_rfl) (by intros; kernel_rfl) rfl (by intros; kernel_rfl) rfl rfl oneNil ?_
      rw [← hu0] at hs0
      rw [hs0] at hs1 hs2
      refine need_i hI ?_
      refine node_reg2 [s0, s1, s2, s3, s4, s5, s6, s7, s8, s9, s10, s11, s12, s13, s14, s15] i ⟨[q.1, q.2], [], [], [], []⟩ hli rfl (by intros; kernel_rfl) (by intros; kernel_rfl) (by rw [hs1]; intros; kernel_rfl) rfl oneNil ?_
      refine node_val ⟨[], [], [numV q.1 q.2], [], []⟩ (fun w => number_any q.1 q.2 w) (by intros; kernel_rfl) (by intros; kernel_rfl) rfl rfl rfl (one1 (numV_one _ _)) ?_
      refine node_val ⟨[q.1, q.2], [true], [], [], []⟩ (fun w => parts_num (q := q) hqj w) (by intros; kernel_rfl) (by intros; kernel_rfl) rfl rfl rfl oneNil ?_
      refine need_i hI ?_
      obtain ⟨t0, t1, t2, t3, t4, t5, t6, t7, t8, t9, t10, t11, t12, t13, t14, t15, ht0⟩ := list16 (put2 [s0, s1, s2, s3, s4, s5, s6, s7, s8, s9, s10, s11, s12, s13, s14, s15] i q) (by rw [put2_len]; rfl)
      refine node_put (n := 0) [s0, s1, s2, s3, s4, s5, s6, s7, s8, s9, s10, s11, s12, s13, s14, s15] [t0, t1, t2, t3, t4, t5, t6, t7, t8, t9, t10, t11, t12, t13, t14, t15] i q ⟨[t0, t1, t2, t3, t4, t5, t6, t7, t8, t9, t10, t11, t12, t13, t14, t15], [], [], [], []⟩ ht0 hli rfl (by intros; kernel_rfl) (by kernel_rfl) (by intros; kernel_rfl) (by intros; kernel_rfl) rfl (by intros; kernel_rfl) rfl rfl oneNil ?_
      have hm := hV q (fun q => absurd q (by decide)) (by simp [newReg, hQ]) hqj
      rw [if_pos rfl, ← hs2, ht0] at hm
      rw [hm]
      exact pure_done (by intros; kernel_rfl)
  refine br_f (show (kind == 6) = false by simpa using k6) ?_
  by_cases k7 : kind = 7
  · subst k7
    refine br_t rfl ?_
    obtain ⟨pa, pb⟩ := p
    obtain ⟨ha, hb⟩ := fit_abs hp
    obtain ⟨hc, hd⟩ := fit_abs hf
    refine node_bin (x := numV pa pb) (y := numV re im) (V := .bool (!(pa == re && pb == im))) ⟨[], [!(pa == re && pb == im)], [], [], []⟩ (by intros; kernel_rfl) (by intros; kernel_rfl) (fun _ => by rw [numV_eq hp, numV_eq hf]; rfl) (fun w => ?_) (by intros; kernel_rfl) rfl rfl rfl oneNil ?_
    · rw [numV_eq hp, numV_eq hf, run_neq_complex, isI_order (isI_of ha) (isI_of hc), isI_order (isI_of hb) (isI_of hd)]
      have ce : ∀ x y : Int, (some (compare x y) == some Ordering.eq) = (x == y) := fun x y => by rw [Bool.eq_iff_iff]; simp
      rw [ce, ce]
    cases hq : (pa == re && pb == im) with
    | false =>
      refine br_t rfl ?_
      rw [hS rfl (fun e => by cases e; simp at hq)]
      refine need_i hI ?_
      refine need_i hI ?_
      have fin : ∀ {m : Mem} {ρ : Env} {v : SV} {L : Stack}, (∀ ids, v.den ρ ids = resV ([a0, a1, a2, a3, a4, a5, a6, a7, a8, a9, a10, a11, a12, a13, a14, a15], 3, pa, pb)) → (Tree.done v m).holds ⟨Try.prog, w, fun _ => False, PureAt w (resV ([a0, a1, a2, a3, a4, a5, a6, a7, a8, a9, a10, a11, a12, a13, a14, a15], 3, pa, pb))⟩ ρ [] HX.nil L := fun h => pure_done h
      refine par_i ?_ (par_i ?_ (par_i ?_ ?_))
      · refine node_rega [a0, a1, a2, a3, a4, a5, a6, a7, a8, a9, a10, a11, a12, a13, a14, a15] i ⟨[pa], [], [], [], []⟩ hli rfl (by intros; kernel_rfl) (by intros; kernel_rfl) (by rw [hP]; intros; kernel_rfl) rfl oneNil ?_
        refine par_i ?_ ?_
        · refine node_regb [a0, a1, a2, a3, a4, a5, a6, a7, a8, a9, a10, a11, a12, a13, a14, a15] i ⟨[pb], [], [], [], []⟩ hli rfl (by intros; kernel_rfl) (by intros; kernel_rfl) (by rw [hP]; intros; kernel_rfl) rfl oneNil ?_
          exact fin (by intros; kernel_rfl)
        · refine node_regb [a0, a1, a2, a3, a4, a5, a6, a7, a8, a9, a10, a11, a12, a13, a14, a15] i ⟨[pb], [], [], [], []⟩ hli rfl (by intros; kernel_rfl) (by intros; kernel_rfl) (by rw [hP]; intros; kernel_rfl) rfl oneNil ?_
          exact fin (by intros; kernel_rfl)
      · refine node_regb [a0, a1, a2, a3, a4, a5, a6, a7, a8, a9, a10, a11, a12, a13, a14, a15] i ⟨[pb], [], [], [], []⟩ hli rfl (by intros; kernel_rfl) (by intros; kernel_rfl) (by rw [hP]; intros; kernel_rfl) rfl oneNil ?_
        refine par_i ?_ ?_
        · refine node_rega [a0, a1, a2, a3, a4, a5, a6, a7, a8, a9, a10, a11, a12, a13, a14, a15] i ⟨[pa], [], [], [], []⟩ hli rfl (by intros; kernel_rfl) (by intros; kernel_rfl) (by rw [hP]; intros; kernel_rfl) rfl oneNil ?_
          exact fin (by intros; kernel_rfl)
        · refine node_rega [a0, a1, a2, a3, a4, a5, a6, a7, a8, a9, a10, a11, a12, a13, a14, a15] i ⟨[pa], [], [], [], []⟩ hli rfl (by intros; kernel_rfl) (by intros; kernel_rfl) (by rw [hP]; intros; kernel_rfl) rfl oneNil ?_
          exact fin (by intros; kernel_rfl)
      · refine node_rega [a0, a1, a2, a3, a4, a5, a6, a7, a8, a9, a10, a11, a12, a13, a14, a15] i ⟨[pa], [], [], [], []⟩ hli rfl (by intros; kernel_rfl) (by intros; kernel_rfl) (by rw [hP]; intros; kernel_rfl) rfl oneNil ?_
        refine node_regb [a0, a1, a2, a3, a4, a5, a6, a7, a8, a9, a10, a11, a12, a13, a14, a15] i ⟨[pb], [], [], [], []⟩ hli rfl (by intros; kernel_rfl) (by intros; kernel_rfl) (by rw [hP]; intros; kernel_rfl) rfl oneNil ?_
        exact fin (by intros; kernel_rfl)
      · refine node_regb [a0, a1, a2, a3, a4, a5, a6, a7, a8, a9, a10, a11, a12, a13, a14, a15] i ⟨[pb], [], [], [], []⟩ hli rfl (by intros; kernel_rfl) (by intros; kernel_rfl) (by rw [hP]; intros; kernel_rfl) rfl oneNil ?_
        refine node_rega [a0, a1, a2, a3, a4, a5, a6, a7, a8, a9, a10, a11, a12, a13, a14, a15] i ⟨[pa], [], [], [], []⟩ hli rfl (by intros; kernel_rfl) (by intros; kernel_rfl) (by rw [hP]; intros; kernel_rfl) rfl oneNil ?_
        exact fin (by intros; kernel_rfl)
    | true =>
      refine br_f rfl ?_
      generalize hQ : regOf [a0, a1, a2, a3, a4, a5, a6, a7, a8, a9, a10, a11, a12, a13, a14, a15] j = q at *
      refine need_i hJ ?_
      refine node_reg2 [a0, a1, a2, a3, a4, a5, a6, a7, a8, a9, a10, a11, a12, a13, a14, a15] j ⟨[q.1, q.2], [], [], [], []⟩ hlj rfl (by intros; kernel_rfl) (by intros; kernel_rfl) (by rw [hQ]; intros; kernel_rfl) rfl oneNil ?_
      refine node_val ⟨[], [], [numV q.1 q.2], [], []⟩ (fun w => number_any q.1 q.2 w) (by intros; kernel_rfl) (by intros; kernel_rfl) rfl rfl rfl (one1 (numV_one _ _)) ?_
      refine node_val ⟨[q.1, q.2], [true], [], [], []⟩ (fun w => parts_num (q := q) hqj w) (by intros; kernel_rfl) (by intros; kernel_rfl) rfl rfl rfl oneNil ?_
      refine need_i hI ?_
      obtain ⟨t0, t1, t2, t3, t4, t5, t6, t7, t8, t9, t10, t11, t12, t13, t14, t15, ht0⟩ := list16 (put2 [a0, a1, a2, a3, a4, a5, a6, a7, a8, a9, a10, a11, a12, a13, a14, a15] i q) (by rw [put2_len]; rfl)
      refine node_put (n := 0) [a0, a1, a2, a3, a4, a5, a6, a7, a8, a9, a10, a11, a12, a13, a14, a15] [t0, t1, t2, t3, t4, t5, t6, t7, t8, t9, t10, t11, t12, t13, t14, t15] i q ⟨[t0, t1, t2, t3, t4, t5, t6, t7, t8, t9, t10, t11, t12, t13, t14, t15], [], [], [], []⟩ ht0 hli rfl (by intros; kernel_rfl) (by kernel_rfl) (by intros; kernel_rfl) (by intros; kernel_rfl) rfl (by intros; kernel_rfl) rfl rfl oneNil ?_
      have hm := hV q (fun _ => by simpa using hq) (by simp [newReg, hQ]) hqj
      rw [if_neg (by decide), ht0] at hm
      rw [hm]
      exact pure_done (by intros; kernel_rfl)
  refine br_f (show (kind == 7) = false by simpa using k7) ?_
  obtain rfl : kind = 1 := by omega
  refine node_val ⟨[p.1, p.2], [true], [], [], []⟩ (fun w => parts_num (q := p) hp w) (by intros; kernel_rfl) (by intros; kernel_rfl) rfl rfl rfl oneNil ?_
  refine need_i hI ?_
  obtain ⟨t0, t1, t2, t3, t4, t5, t6, t7, t8, t9, t10, t11, t12, t13, t14, t15, ht0⟩ := list16 (put2 [a0, a1, a2, a3, a4, a5, a6, a7, a8, a9, a10, a11, a12, a13, a14, a15] i p) (by rw [put2_len]; rfl)
  refine node_put (n := 0) [a0, a1, a2, a3, a4, a5, a6, a7, a8, a9, a10, a11, a12, a13, a14, a15] [t0, t1, t2, t3, t4, t5, t6, t7, t8, t9, t10, t11, t12, t13, t14, t15] i p ⟨[t0, t1, t2, t3, t4, t5, t6, t7, t8, t9, t10, t11, t12, t13, t14, t15], [], [], [], []⟩ ht0 hli rfl (by intros; kernel_rfl) (by kernel_rfl) (by intros; kernel_rfl) (by intros; kernel_rfl) rfl (by intros; kernel_rfl) rfl rfl oneNil ?_
  have hm := hV p (fun q => absurd q (by decide)) (by simp [newReg, hP]) hp
  rw [if_neg (by decide), ht0] at hm
  rw [hm]
  exact pure_done (by intros; kernel_rfl)
set_option maxHeartbeats 4000000 in
theorem refApply_any (xs : List Int) (hx : xs.length = 16) (o : OpD) (w : World) : Calls Try.prog 10 #[.agg (xs.map (Value.int .i64)).toArray, .agg o.cells.toArray] w (PureAt w (resV (applyM xs o))) := by
  obtain ⟨a0, a1, a2, a3, a4, a5, a6, a7, a8, a9, a10, a11, a12, a13, a14, a15, rfl⟩ := list16 xs hx
  obtain ⟨kind, reg, tg, re, im⟩ := o
  refine calls_at (tab_ok _) Try.func10 rfl tRefApply (ρ := ⟨[a0, a1, a2, a3, a4, a5, a6, a7, a8, a9, a10, a11, a12, a13, a14, a15, kind, reg, tg, re, im], [], [], [], []⟩) (ids := []) rfl (Facts.initP rfl oneNil) ?_
  refine node_val ⟨[], [validL [a0, a1, a2, a3, a4, a5, a6, a7, a8, a9, a10, a11, a12, a13, a14, a15]], [], [], []⟩ (fun w => refValid_any [a0, a1, a2, a3, a4, a5, a6, a7, a8, a9, a10, a11, a12, a13, a14, a15] rfl w) (by intros; kernel_rfl) (by intros; kernel_rfl) rfl rfl rfl oneNil ?_
  cases hv : validL [a0, a1, a2, a3, a4, a5, a6, a7, a8, a9, a10, a11, a12, a13, a14, a15] with
  | false =>
    rw [applyM_bad (by rw [hv]; rfl)]
    exact br_t rfl (pure_done fun _ => rfl)
  | true =>
  refine br_f rfl ?_
  refine node_val ⟨[], [opB ⟨kind, reg, tg, re, im⟩], [], [], []⟩ (fun w => refOp_pure ⟨kind, reg, tg, re, im⟩ w) (by intros; kernel_rfl) (by intros; kernel_rfl) rfl rfl rfl oneNil ?_
  cases ho : opB ⟨kind, reg, tg, re, im⟩ with
  | false =>
    rw [applyM_bad (by rw [hv, ho]; rfl)]
    exact br_t rfl (pure_done fun _ => rfl)
  | true =>
  refine br_f rfl ?_
  obtain ⟨k12, r12, t1, t2, hf, h6⟩ := (opB_iff _).1 ho
  dsimp only at k12 r12 t1 t2 hf h6
  have tle : tg ≤ 7 := by
    unfold mostV at t2
    split at t2
    · omega
    · split at t2 <;> omega
  obtain ⟨i, rfl⟩ : ∃ i : Nat, reg = (i : Int) := ⟨reg.toNat, by omega⟩
  obtain ⟨j, rfl⟩ : ∃ j : Nat, tg = (j : Int) := ⟨tg.toNat, by omega⟩
  have hi : i < 8 := by omega
  have hj : j < 8 := by omega
  have hI : (0 : Int) ≤ i ∧ (i : Int) < 8 := by omega
  have hJ : (0 : Int) ≤ j ∧ (j : Int) < 8 := by omega
  have hli : 2 * i + 1 < ([a0, a1, a2, a3, a4, a5, a6, a7, a8, a9, a10, a11, a12, a13, a14, a15] : List Int).length := by simp only [List.length_cons, List.length_nil]; omega
  have hlj : 2 * j + 1 < ([a0, a1, a2, a3, a4, a5, a6, a7, a8, a9, a10, a11, a12, a13, a14, a15] : List Int).length := by simp only [List.length_cons, List.length_nil]; omega
  have hp := valid_reg hv i hli
  have hqj := valid_reg hv j hlj
  have hV := fun q h3 hq h4 => applyM_val (o := ⟨kind, (i : Int), (j : Int), re, im⟩) hv ho (q := q) h3 hq h4
  have hO := applyM_over (o := ⟨kind, (i : Int), (j : Int), re, im⟩) hv ho
  have hS := applyM_miss (o := ⟨kind, (i : Int), (j : Int), re, im⟩) hv ho
  dsimp only [Int.toNat_natCast] at hV hO hS
  generalize hP : regOf [a0, a1, a2, a3, a4, a5, a6, a7, a8, a9, a10, a11, a12, a13, a14, a15] i = p at *
  refine need_i hI ?_
  refine node_rega [a0, a1, a2, a3, a4, a5, a6, a7, a8, a9, a10, a11, a12, a13, a14, a15] i ⟨[p.1], [], [], [], []⟩ hli rfl (by intros; kernel_rfl) (by intros; kernel_rfl) (by rw [hP]; intros; kernel_rfl) rfl oneNil ?_
  refine need_i hI ?_
  refine node_regb [a0, a1, a2, a3, a4, a5, a6, a7, a8, a9, a10, a11, a12, a13, a14, a15] i ⟨[p.2], [], [], [], []⟩ hli rfl (by intros; kernel_rfl) (by intros; kernel_rfl) (by rw [hP]; intros; kernel_rfl) rfl oneNil ?_
  by_cases k2 : kind = 2
  · subst k2
    refine br_t rfl ?_
    refine node_val ⟨[], [fitB (re, im).1 (re, im).2], [], [], []⟩ (fun w => pure_of (ref03_any (re, im).1 (re, im).2 w)) (by intros; kernel_rfl) (by intros; kernel_rfl) rfl rfl rfl oneNil ?_
    refine br_f (show (!fitB (re, im).1 (re, im).2) = false by rw [hf]; rfl) ?_
    refine need_i hI ?_
    obtain ⟨t0, t1, t2, t3, t4, t5, t6, t7, t8, t9, t10, t11, t12, t13, t14, t15, ht0⟩ := list16 (put2 [a0, a1, a2, a3, a4, a5, a6, a7, a8, a9, a10, a11, a12, a13, a14, a15] i (re, im)) (by rw [put2_len]; rfl)
    refine node_put (n := 0) [a0, a1, a2, a3, a4, a5, a6, a7, a8, a9, a10, a11, a12, a13, a14, a15] [t0, t1, t2, t3, t4, t5, t6, t7, t8, t9, t10, t11, t12, t13, t14, t15] i (re, im) ⟨[t0, t1, t2, t3, t4, t5, t6, t7, t8, t9, t10, t11, t12, t13, t14, t15], [], [], [], []⟩ ht0 hli rfl (by intros; kernel_rfl) (by kernel_rfl) (by intros; kernel_rfl) (by intros; kernel_rfl) rfl (by intros; kernel_rfl) rfl rfl oneNil ?_
    have hm := hV (re, im) (fun q => absurd q (by decide)) (by simp [newReg]) hf
    rw [if_neg (by decide), ht0] at hm
    rw [hm]
    exact pure_done (by intros; kernel_rfl)
  refine br_f (show (kind == 2) = false by simpa using k2) ?_
  by_cases k3 : kind = 3
  · subst k3
    refine br_t rfl ?_
    obtain ⟨pa, pb⟩ := p
    obtain ⟨ha, hb⟩ := fit_abs hp
    obtain ⟨hc, hd⟩ := fit_abs hf
    dsimp only at ha hb hc hd
    have w1 : ifn .add .i64 pa re = pa + re := wrap_i64 (by omega)
    have w2 : ifn .add .i64 pb im = pb + im := wrap_i64 (by omega)
    have hArgs : ∀ (ids : List Nat), #[Value.int .i64 (ifn .add .i64 pa re), Value.int .i64 (ifn .add .i64 pb im)] = #[Value.int .i64 (pa + re), Value.int .i64 (pb + im)] := fun _ => by rw [w1, w2]
    have hVal : ∀ (ids : List Nat), Value.agg #[Value.int .i64 (ifn .add .i64 pa re), Value.int .i64 (ifn .add .i64 pb im)] = .agg #[Value.int .i64 (pa + re), Value.int .i64 (pb + im)] := fun _ => by rw [w1, w2]
    have hDone : ∀ (ts : List Int) (ids : List Nat), Value.tuple #[.agg (ts.map (Value.int .i64)).toArray, .agg #[.int .i64 1, .int .i64 (ifn .add .i64 pa re), .int .i64 (ifn .add .i64 pb im)]] = resV (ts, 1, pa + re, pb + im) := fun _ _ => by rw [w1, w2]; rfl
    generalize hQ : ((pa + re, pb + im) : Int × Int) = q at *
    refine node_val ⟨[], [fitB q.1 q.2], [], [], []⟩ (fun w => pure_of (ref03_any q.1 q.2 w)) (fun ids => by rw [← hQ]; exact hArgs ids) (by intros; kernel_rfl) rfl rfl rfl oneNil ?_
    cases hfq : fitB q.1 q.2 with
    | false =>
      have hn : newReg [a0, a1, a2, a3, a4, a5, a6, a7, a8, a9, a10, a11, a12, a13, a14, a15] ⟨3, (i : Int), (j : Int), re, im⟩ = q := by rw [← hQ]; simp [newReg, hP]
      rw [hO (by decide) (by rw [hn]; exact hfq)]
      exact br_t rfl (pure_done (by intros; kernel_rfl))
    | true =>
      refine br_f rfl ?_
      refine need_i hI ?_
      obtain ⟨t0, t1, t2, t3, t4, t5, t6, t7, t8, t9, t10, t11, t12, t13, t14, t15, ht0⟩ := list16 (put2 [a0, a1, a2, a3, a4, a5, a6, a7, a8, a9, a10, a11, a12, a13, a14, a15] i q) (by rw [put2_len]; rfl)
      refine node_put (n := 0) [a0, a1, a2, a3, a4, a5, a6, a7, a8, a9, a10, a11, a12, a13, a14, a15] [t0, t1, t2, t3, t4, t5, t6, t7, t8, t9, t10, t11, t12, t13, t14, t15] i q ⟨[t0, t1, t2, t3, t4, t5, t6, t7, t8, t9, t10, t11, t12, t13, t14, t15], [], [], [], []⟩ ht0 hli rfl (by intros; kernel_rfl) (by kernel_rfl) (by intros; kernel_rfl) (fun ids => by rw [← hQ]; exact hVal ids) rfl (by intros; kernel_rfl) rfl rfl oneNil ?_
      have hm := hV q (fun q => absurd q (by decide)) (by rw [← hQ]; simp [newReg, hP]) hfq
      rw [if_neg (by decide), ht0] at hm
      rw [hm]
      exact pure_done (fun ids => hDone [t0, t1, t2, t3, t4, t5, t6, t7, t8, t9, t10, t11, t12, t13, t14, t15] ids)
  refine br_f (show (kind == 3) = false by simpa using k3) ?_
  by_cases k4 : kind = 4
  · subst k4
    refine br_t rfl ?_
    obtain ⟨pa, pb⟩ := p
    obtain ⟨ha, hb⟩ := fit_abs hp
    obtain ⟨hc, hd⟩ := fit_abs hf
    dsimp only at ha hb hc hd
    have m1 := mul_abs ha hc
    have m2 := mul_abs hb hd
    have m3 := mul_abs ha hd
    have m4 := mul_abs hb hc
    have v1 : ifn .mul .i64 pa re = pa * re := wrap_i64 (by omega)
    have v2 : ifn .mul .i64 pb im = pb * im := wrap_i64 (by omega)
    have v3 : ifn .mul .i64 pa im = pa * im := wrap_i64 (by omega)
    have v4 : ifn .mul .i64 pb re = pb * re := wrap_i64 (by omega)
    have w1 : ifn .sub .i64 (ifn .mul .i64 pa re) (ifn .mul .i64 pb im) = pa * re - pb * im := by rw [v1, v2]; exact wrap_i64 (by omega)
    have w2 : ifn .add .i64 (ifn .mul .i64 pa im) (ifn .mul .i64 pb re) = pa * im + pb * re := by rw [v3, v4]; exact wrap_i64 (by omega)
    have hArgs : ∀ (ids : List Nat), #[Value.int .i64 (ifn .sub .i64 (ifn .mul .i64 pa re) (ifn .mul .i64 pb im)), Value.int .i64 (ifn .add .i64 (ifn .mul .i64 pa im) (ifn .mul .i64 pb re))] = #[Value.int .i64 (pa * re - pb * im), Value.int .i64 (pa * im + pb * re)] := fun _ => by rw [w1, w2]
    have hVal : ∀ (ids : List Nat), Value.agg #[Value.int .i64 (ifn .sub .i64 (ifn .mul .i64 pa re) (ifn .mul .i64 pb im)), Value.int .i64 (ifn .add .i64 (ifn .mul .i64 pa im) (ifn .mul .i64 pb re))] = .agg #[Value.int .i64 (pa * re - pb * im), Value.int .i64 (pa * im + pb * re)] := fun _ => by rw [w1, w2]
    have hDone : ∀ (ts : List Int) (ids : List Nat), Value.tuple #[.agg (ts.map (Value.int .i64)).toArray, .agg #[.int .i64 1, .int .i64 (ifn .sub .i64 (ifn .mul .i64 pa re) (ifn .mul .i64 pb im)), .int .i64 (ifn .add .i64 (ifn .mul .i64 pa im) (ifn .mul .i64 pb re))]] = resV (ts, 1, pa * re - pb * im, pa * im + pb * re) := fun _ _ => by rw [w1, w2]; rfl
    generalize hQ : ((pa * re - pb * im, pa * im + pb * re) : Int × Int) = q at *
    refine node_val ⟨[], [fitB q.1 q.2], [], [], []⟩ (fun w => pure_of (ref03_any q.1 q.2 w)) (fun ids => by rw [← hQ]; exact hArgs ids) (by intros; kernel_rfl) rfl rfl rfl oneNil ?_
    cases hfq : fitB q.1 q.2 with
    | false =>
      have hn : newReg [a0, a1, a2, a3, a4, a5, a6, a7, a8, a9, a10, a11, a12, a13, a14, a15] ⟨4, (i : Int), (j : Int), re, im⟩ = q := by rw [← hQ]; simp [newReg, hP]
      rw [hO (by decide) (by rw [hn]; exact hfq)]
      exact br_t rfl (pure_done (by intros; kernel_rfl))
    | true =>
      refine br_f rfl ?_
      refine need_i hI ?_
      obtain ⟨t0, t1, t2, t3, t4, t5, t6, t7, t8, t9, t10, t11, t12, t13, t14, t15, ht0⟩ := list16 (put2 [a0, a1, a2, a3, a4, a5, a6, a7, a8, a9, a10, a11, a12, a13, a14, a15] i q) (by rw [put2_len]; rfl)
      refine node_put (n := 0) [a0, a1, a2, a3, a4, a5, a6, a7, a8, a9, a10, a11, a12, a13, a14, a15] [t0, t1, t2, t3, t4, t5, t6, t7, t8, t9, t10, t11, t12, t13, t14, t15] i q ⟨[t0, t1, t2, t3, t4, t5, t6, t7, t8, t9, t10, t11, t12, t13, t14, t15], [], [], [], []⟩ ht0 hli rfl (by intros; kernel_rfl) (by kernel_rfl) (by intros; kernel_rfl) (fun ids => by rw [← hQ]; exact hVal ids) rfl (by intros; kernel_rfl) rfl rfl oneNil ?_
      have hm := hV q (fun q => absurd q (by decide)) (by rw [← hQ]; simp [newReg, hP]) hfq
      rw [if_neg (by decide), ht0] at hm
      rw [hm]
      exact pure_done (fun ids => hDone [t0, t1, t2, t3, t4, t5, t6, t7, t8, t9, t10, t11, t12, t13, t14, t15] ids)
  refine br_f (show (kind == 4) = false by simpa using k4) ?_
  by_cases k5 : kind = 5
  · subst k5
    refine br_t rfl ?_
    obtain ⟨pa, pb⟩ := p
    obtain ⟨ha, hb⟩ := fit_abs hp
    obtain ⟨hc, hd⟩ := fit_abs hf
    dsimp only at ha hb hc hd
    generalize hQ : (turnN j (pa, pb) : Int × Int) = q at *
    refine node_val ⟨[q.1, q.2], [], [], [], []⟩ (fun w => by have := turn3_any hp j (by rw [show mostV 5 = 3 from rfl] at t2; omega) w; rw [hQ] at this; exact this) (by intros; kernel_rfl) (by intros; kernel_rfl) rfl rfl rfl oneNil ?_
    refine node_val ⟨[], [fitB q.1 q.2], [], [], []⟩ (fun w => pure_of (ref03_any q.1 q.2 w)) (by intros; kernel_rfl) (by intros; kernel_rfl) rfl rfl rfl oneNil ?_
    cases hfq : fitB q.1 q.2 with
    | false =>
      have hn : newReg [a0, a1, a2, a3, a4, a5, a6, a7, a8, a9, a10, a11, a12, a13, a14, a15] ⟨5, (i : Int), (j : Int), re, im⟩ = q := by rw [← hQ]; simp [newReg, hP]
      rw [hO (by decide) (by rw [hn]; exact hfq)]
      exact br_t rfl (pure_done (by intros; kernel_rfl))
    | true =>
      refine br_f rfl ?_
      refine need_i hI ?_
      obtain ⟨t0, t1, t2, t3, t4, t5, t6, t7, t8, t9, t10, t11, t12, t13, t14, t15, ht0⟩ := list16 (put2 [a0, a1, a2, a3, a4, a5, a6, a7, a8, a9, a10, a11, a12, a13, a14, a15] i q) (by rw [put2_len]; rfl)
      refine node_put (n := 0) [a0, a1, a2, a3, a4, a5, a6, a7, a8, a9, a10, a11, a12, a13, a14, a15] [t0, t1, t2, t3, t4, t5, t6, t7, t8, t9, t10, t11, t12, t13, t14, t15] i q ⟨[t0, t1, t2, t3, t4, t5, t6, t7, t8, t9, t10, t11, t12, t13, t14, t15], [], [], [], []⟩ ht0 hli rfl (by intros; kernel_rfl) (by kernel_rfl) (by intros; kernel_rfl) (by intros; kernel_rfl) rfl (by intros; kernel_rfl) rfl rfl oneNil ?_
      have hm := hV q (fun q => absurd q (by decide)) (by rw [← hQ]; simp [newReg, hP]) hfq
      rw [if_neg (by decide), ht0] at hm
      rw [hm]
      exact pure_done (by intros; kernel_rfl)
  refine br_f (show (kind == 5) = false by simpa using k5) ?_
  by_cases k6 : kind = 6
  · subst k6
    refine br_t rfl ?_
    generalize hQ : regOf [a0, a1, a2, a3, a4, a5, a6, a7, a8, a9, a10, a11, a12, a13, a14, a15] j = q at *
    refine need_i hJ ?_
    refine node_rega [a0, a1, a2, a3, a4, a5, a6, a7, a8, a9, a10, a11, a12, a13, a14, a15] j ⟨[q.1], [], [], [], []⟩ hlj rfl (by intros; kernel_rfl) (by intros; kernel_rfl) (by rw [hQ]; intros; kernel_rfl) rfl oneNil ?_
    refine need_i hJ ?_
    refine node_regb [a0, a1, a2, a3, a4, a5, a6, a7, a8, a9, a10, a11, a12, a13, a14, a15] j ⟨[q.2], [], [], [], []⟩ hlj rfl (by intros; kernel_rfl) (by intros; kernel_rfl) (by rw [hQ]; intros; kernel_rfl) rfl oneNil ?_
    refine need_i hI ?_
    refine node_reg2 [a0, a1, a2, a3, a4, a5, a6, a7, a8, a9, a10, a11, a12, a13, a14, a15] i ⟨[p.1, p.2], [], [], [], []⟩ hli rfl (by intros; kernel_rfl) (by intros; kernel_rfl) (by rw [hP]; intros; kernel_rfl) rfl oneNil ?_
    refine need_i hJ ?_
    obtain ⟨u0, u1, u2, u3, u4, u5, u6, u7, u8, u9, u10, u11, u12, u13, u14, u15, hu0⟩ := list16 (put2 [a0, a1, a2, a3, a4, a5, a6, a7, a8, a9, a10, a11, a12, a13, a14, a15] j p) (by rw [put2_len]; rfl)
    refine node_put (n := 0) [a0, a1, a2, a3, a4, a5, a6, a7, a8, a9, a10, a11, a12, a13, a14, a15] [u0, u1, u2, u3, u4, u5, u6, u7, u8, u9, u10, u11, u12, u13, u14, u15] j p ⟨[u0, u1, u2, u3, u4, u5, u6, u7, u8, u9, u10, u11, u12, u13, u14, u15], [], [], [], []⟩ hu0 hlj rfl (by intros; kernel_rfl) (by kernel_rfl) (by intros; kernel_rfl) (by intros; kernel_rfl) rfl (by intros; kernel_rfl) rfl rfl oneNil ?_
    refine node_val ⟨[], [fitB q.1 q.2], [], [], []⟩ (fun w => pure_of (ref03_any q.1 q.2 w)) (by intros; kernel_rfl) (by intros; kernel_rfl) rfl rfl rfl oneNil ?_
    refine br_f (show (!fitB q.1 q.2) = false by rw [hqj]; rfl) ?_
    refine need_i hI ?_
    obtain ⟨t0, t1, t2, t3, t4, t5, t6, t7, t8, t9, t10, t11, t12, t13, t14, t15, ht0⟩ := list16 (put2 [u0, u1, u2, u3, u4, u5, u6, u7, u8, u9, u10, u11, u12, u13, u14, u15] i q) (by rw [put2_len]; rfl)
    refine node_put (n := 0) [u0, u1, u2, u3, u4, u5, u6, u7, u8, u9, u10, u11, u12, u13, u14, u15] [t0, t1, t2, t3, t4, t5, t6, t7, t8, t9, t10, t11, t12, t13, t14, t15] i q ⟨[t0, t1, t2, t3, t4, t5, t6, t7, t8, t9, t10, t11, t12, t13, t14, t15], [], [], [], []⟩ ht0 hli rfl (by intros; kernel_rfl) (by kernel_rfl) (by intros; kernel_rfl) (by intros; kernel_rfl) rfl (by intros; kernel_rfl) rfl rfl oneNil ?_
    have hm := hV q (fun q => absurd q (by decide)) (by simp [newReg, hQ]) hqj
    rw [if_pos rfl, hu0, ht0] at hm
    rw [hm]
    exact pure_done (by intros; kernel_rfl)
  refine br_f (show (kind == 6) = false by simpa using k6) ?_
  by_cases k7 : kind = 7
  · subst k7
    refine br_t rfl ?_
    obtain ⟨pa, pb⟩ := p
    by_cases e1 : pa = re
    · refine br_f (show (pa != re) = false by simpa using e1) ?_
      by_cases e2 : pb = im
      · refine br_f (show (pb != im) = false by simpa using e2) ?_
        generalize hQ : regOf [a0, a1, a2, a3, a4, a5, a6, a7, a8, a9, a10, a11, a12, a13, a14, a15] j = q at *
        refine need_i hJ ?_
        refine node_rega [a0, a1, a2, a3, a4, a5, a6, a7, a8, a9, a10, a11, a12, a13, a14, a15] j ⟨[q.1], [], [], [], []⟩ hlj rfl (by intros; kernel_rfl) (by intros; kernel_rfl) (by rw [hQ]; intros; kernel_rfl) rfl oneNil ?_
        refine need_i hJ ?_
        refine node_regb [a0, a1, a2, a3, a4, a5, a6, a7, a8, a9, a10, a11, a12, a13, a14, a15] j ⟨[q.2], [], [], [], []⟩ hlj rfl (by intros; kernel_rfl) (by intros; kernel_rfl) (by rw [hQ]; intros; kernel_rfl) rfl oneNil ?_
        refine node_val ⟨[], [fitB q.1 q.2], [], [], []⟩ (fun w => pure_of (ref03_any q.1 q.2 w)) (by intros; kernel_rfl) (by intros; kernel_rfl) rfl rfl rfl oneNil ?_
        refine br_f (show (!fitB q.1 q.2) = false by rw [hqj]; rfl) ?_
        refine need_i hI ?_
        obtain ⟨t0, t1, t2, t3, t4, t5, t6, t7, t8, t9, t10, t11, t12, t13, t14, t15, ht0⟩ := list16 (put2 [a0, a1, a2, a3, a4, a5, a6, a7, a8, a9, a10, a11, a12, a13, a14, a15] i q) (by rw [put2_len]; rfl)
        refine node_put (n := 0) [a0, a1, a2, a3, a4, a5, a6, a7, a8, a9, a10, a11, a12, a13, a14, a15] [t0, t1, t2, t3, t4, t5, t6, t7, t8, t9, t10, t11, t12, t13, t14, t15] i q ⟨[t0, t1, t2, t3, t4, t5, t6, t7, t8, t9, t10, t11, t12, t13, t14, t15], [], [], [], []⟩ ht0 hli rfl (by intros; kernel_rfl) (by kernel_rfl) (by intros; kernel_rfl) (by intros; kernel_rfl) rfl (by intros; kernel_rfl) rfl rfl oneNil ?_
        have hm := hV q (fun _ => by rw [e1, e2]) (by simp [newReg, hQ]) hqj
        rw [if_neg (by decide), ht0] at hm
        rw [hm]
        exact pure_done (by intros; kernel_rfl)
      · refine br_t (show (pb != im) = true by simpa using e2) ?_
        rw [hS rfl (fun e => by cases e; exact e2 rfl)]
        exact pure_done (by intros; kernel_rfl)
    · refine br_t (show (pa != re) = true by simpa using e1) ?_
      rw [hS rfl (fun e => by cases e; exact e1 rfl)]
      exact pure_done (by intros; kernel_rfl)
  refine br_f (show (kind == 7) = false by simpa using k7) ?_
  obtain rfl : kind = 1 := by omega
  refine node_val ⟨[], [fitB p.1 p.2], [], [], []⟩ (fun w => pure_of (ref03_any p.1 p.2 w)) (by intros; kernel_rfl) (by intros; kernel_rfl) rfl rfl rfl oneNil ?_
  refine br_f (show (!fitB p.1 p.2) = false by rw [hp]; rfl) ?_
  refine need_i hI ?_
  obtain ⟨t0, t1, t2, t3, t4, t5, t6, t7, t8, t9, t10, t11, t12, t13, t14, t15, ht0⟩ := list16 (put2 [a0, a1, a2, a3, a4, a5, a6, a7, a8, a9, a10, a11, a12, a13, a14, a15] i p) (by rw [put2_len]; rfl)
  refine node_put (n := 0) [a0, a1, a2, a3, a4, a5, a6, a7, a8, a9, a10, a11, a12, a13, a14, a15] [t0, t1, t2, t3, t4, t5, t6, t7, t8, t9, t10, t11, t12, t13, t14, t15] i p ⟨[t0, t1, t2, t3, t4, t5, t6, t7, t8, t9, t10, t11, t12, t13, t14, t15], [], [], [], []⟩ ht0 hli rfl (by intros; kernel_rfl) (by kernel_rfl) (by intros; kernel_rfl) (by intros; kernel_rfl) rfl (by intros; kernel_rfl) rfl rfl oneNil ?_
  have hm := hV p (fun q => absurd q (by decide)) (by simp [newReg, hP]) hp
  rw [if_neg (by decide), ht0] at hm
  rw [hm]
  exact pure_done (by intros; kernel_rfl)
end Go.Proofs.Ytphfhfkfcileaaa
