/- The walks of layer 4's laws, second part. -/
import Derived.Test.YtphfhfkfcileaaaAppL
namespace Go.Proofs.Ytphfhfkfcileaaa
open Go.ChangeShapes Go.WideShapes Go.ChangeAt Go.RowKit Go.Syn Go.Eng
set_option linter.unusedVariables false
set_option linter.unusedSimpArgs false
set_option maxRecDepth 10000
theorem fit_of {a b : Int} (ha : a.natAbs ≤ 1048576) (hb : b.natAbs ≤ 1048576) : fitB a b = true := by
  unfold fitB
  exact decide_eq_true (by omega)
theorem and7 (x : Int) : 0 ≤ ifn .and .i64 x 7 ∧ ifn .and .i64 x 7 ≤ 7 := and_small (x := x) (n := 7) (by decide)
theorem and1023 (x : Int) : 0 ≤ ifn .and .i64 x 1023 ∧ ifn .and .i64 x 1023 ≤ 1023 := and_small (x := x) (n := 1023) (by decide)
theorem turn_step {xs : List Int} (hx : xs.length = 16) (h : validL xs = true) {R : Int} (hR : 0 ≤ R ∧ R ≤ 7) : ∃ r, applyM xs ⟨5, R, 1, 0, 0⟩ = (put2 xs R.toNat (-(regOf xs R.toNat).2, (regOf xs R.toNat).1), r) := by
  have hp := valid_reg h R.toNat (by omega)
  obtain ⟨ha, hb⟩ := fit_abs hp
  have hf : fitB (-(regOf xs R.toNat).2) (regOf xs R.toNat).1 = true := fit_of (by omega) (by omega)
  have ho : opB ⟨5, R, 1, 0, 0⟩ = true := (opB_iff _).2 ⟨by dsimp only; decide, hR, by dsimp only; decide, by dsimp only; decide, rfl, .inr ⟨rfl, rfl⟩⟩
  refine ⟨_, (applyM_val (q := (-(regOf xs R.toNat).2, (regOf xs R.toNat).1)) h ho (fun q => absurd q (by dsimp only; decide)) rfl hf)⟩
theorem turn_four {xs : List Int} (hx : xs.length = 16) (h : validL xs = true) {R : Int} (hR : 0 ≤ R ∧ R ≤ 7) : (applyM (applyM (applyM (applyM xs ⟨5, R, 1, 0, 0⟩).1 ⟨5, R, 1, 0, 0⟩).1 ⟨5, R, 1, 0, 0⟩).1 ⟨5, R, 1, 0, 0⟩).1 = xs := by
  have step : ∀ ys : List Int, ys.length = 16 → validL ys = true → (applyM ys ⟨5, R, 1, 0, 0⟩).1 = put2 ys R.toNat (-(regOf ys R.toNat).2, (regOf ys R.toNat).1) ∧ (applyM ys ⟨5, R, 1, 0, 0⟩).1.length = 16 ∧ validL (applyM ys ⟨5, R, 1, 0, 0⟩).1 = true := fun ys hy hv => by
    obtain ⟨r, e⟩ := turn_step hy hv hR
    exact ⟨by rw [e], by rw [applyM_len, hy], applyM_valid hy hv _⟩
  obtain ⟨e1, l1, v1⟩ := step xs hx h
  obtain ⟨e2, l2, v2⟩ := step _ l1 v1
  obtain ⟨e3, l3, v3⟩ := step _ l2 v2
  obtain ⟨e4, l4, v4⟩ := step _ l3 v3
  have hi : 2 * R.toNat + 1 < xs.length := by omega
  rw [e4, e3, e2, e1]
  simp only [put2_put2, regOf_put2 hi]
  have e : ((- -(regOf xs R.toNat).1, - -(regOf xs R.toNat).2) : Int × Int) = regOf xs R.toNat := by rw [Int.neg_neg, Int.neg_neg]
  rw [e]
  exact put2_self hi
theorem swap_step {xs : List Int} (hx : xs.length = 16) (h : validL xs = true) {R S : Int} (hR : 0 ≤ R ∧ R ≤ 7) (hS : 0 ≤ S ∧ S ≤ 7) : (applyM xs ⟨6, R, S, 0, 0⟩).1 = put2 (put2 xs S.toNat (regOf xs R.toNat)) R.toNat (regOf xs S.toNat) := by
  have hp := valid_reg h S.toNat (by omega)
  have ho : opB ⟨6, R, S, 0, 0⟩ = true := (opB_iff _).2 ⟨by dsimp only; decide, hR, hS.1, hS.2, rfl, .inr ⟨rfl, rfl⟩⟩
  have := applyM_val (q := regOf xs S.toNat) h ho (fun q => absurd q (by dsimp only; decide)) rfl hp
  rw [this]; rfl
theorem swap_two {xs : List Int} (hx : xs.length = 16) (h : validL xs = true) {R S : Int} (hR : 0 ≤ R ∧ R ≤ 7) (hS : 0 ≤ S ∧ S ≤ 7) : (applyM (applyM xs ⟨6, R, S, 0, 0⟩).1 ⟨6, R, S, 0, 0⟩).1 = xs := by
  have e := swap_step hx h hR hS
  have hl := applyM_len xs ⟨6, R, S, 0, 0⟩
  have hv := applyM_valid hx h ⟨6, R, S, 0, 0⟩
  rw [swap_step (by omega) hv hR hS, e]
  have hi : 2 * R.toNat + 1 < xs.length := by omega
  have hj : 2 * S.toNat + 1 < xs.length := by omega
  by_cases q : S.toNat = R.toNat
  · simp only [q, put2_put2, regOf_put2 hi]
    exact put2_self hi
  · have e1 : regOf (put2 (put2 xs S.toNat (regOf xs R.toNat)) R.toNat (regOf xs S.toNat)) R.toNat = regOf xs S.toNat := regOf_put2 (by rw [put2_len]; exact hi) _
    have e2 : regOf (put2 (put2 xs S.toNat (regOf xs R.toNat)) R.toNat (regOf xs S.toNat)) S.toNat = regOf xs R.toNat := by
      rw [regOf_put2_ne (fun e => q e.symm), regOf_put2 hj]
    rw [e1, e2, put2_comm _ (fun e => q e.symm) (regOf xs S.toNat) (regOf xs S.toNat), put2_put2, put2_put2]
    rw [put2_comm _ q, put2_self hi, put2_self hj]
theorem add_two {xs : List Int} (hx : xs.length = 16) (h : validL xs = true) {R a b c d : Int} (hR : 0 ≤ R ∧ R ≤ 7) (ha : a.natAbs ≤ 999) (hb : b.natAbs ≤ 999) (hc : c = -a) (hd : d = -b) :
    ((applyM xs ⟨3, R, 0, a, b⟩).2.1 = 1 → (applyM (applyM xs ⟨3, R, 0, a, b⟩).1 ⟨3, R, 0, c, d⟩).1 = xs) ∧ (¬ (applyM xs ⟨3, R, 0, a, b⟩).2.1 = 1 → (applyM xs ⟨3, R, 0, a, b⟩).1 = xs) := by
  have hi : 2 * R.toNat + 1 < xs.length := by omega
  have hp := valid_reg h R.toNat hi
  have ho : ∀ {e f : Int}, e.natAbs ≤ 999 → f.natAbs ≤ 999 → opB ⟨3, R, 0, e, f⟩ = true := fun he hf => (opB_iff _).2 ⟨by dsimp only; decide, hR, by dsimp only; decide, by dsimp only; decide, fit_of (show _ ≤ 1048576 by dsimp only; omega) (show _ ≤ 1048576 by dsimp only; omega), .inl (.inr (.inl rfl))⟩
  have hn : newReg xs ⟨3, R, 0, a, b⟩ = ((regOf xs R.toNat).1 + a, (regOf xs R.toNat).2 + b) := by simp [newReg]
  cases hf : fitB ((regOf xs R.toNat).1 + a) ((regOf xs R.toNat).2 + b) with
  | false =>
    have e := applyM_over h (ho ha hb) (by dsimp only; decide) (by rw [hn]; exact hf)
    rw [e]
    exact ⟨fun q => absurd q (by dsimp only; decide), fun _ => rfl⟩
  | true =>
    have e := applyM_val h (ho ha hb) (fun q => absurd q (by dsimp only; decide)) hn hf
    have hv := applyM_valid hx h ⟨3, R, 0, a, b⟩
    rw [if_neg (by dsimp only; decide)] at e
    rw [e] at hv
    rw [e]
    refine ⟨fun _ => ?_, fun q => absurd rfl q⟩
    dsimp only at hv ⊢
    have hr : regOf (put2 xs R.toNat ((regOf xs R.toNat).1 + a, (regOf xs R.toNat).2 + b)) R.toNat = ((regOf xs R.toNat).1 + a, (regOf xs R.toNat).2 + b) := regOf_put2 hi _
    have hn2 : newReg (put2 xs R.toNat ((regOf xs R.toNat).1 + a, (regOf xs R.toNat).2 + b)) ⟨3, R, 0, c, d⟩ = regOf xs R.toNat := by
      have e0 : newReg (put2 xs R.toNat ((regOf xs R.toNat).1 + a, (regOf xs R.toNat).2 + b)) ⟨3, R, 0, c, d⟩ = ((regOf xs R.toNat).1 + a + c, (regOf xs R.toNat).2 + b + d) := by simp [newReg, hr]
      rw [e0, hc, hd]
      refine Prod.ext ?_ ?_ <;> (simp only; omega)
    have e2 := applyM_val hv (ho (by omega) (by omega)) (fun q => absurd q (by dsimp only; decide)) hn2 hp
    rw [if_neg (by dsimp only; decide)] at e2
    rw [e2]
    dsimp only
    rw [put2_put2]
    exact put2_self hi
/-- Another register, whatever it holds. -/
theorem apart_eq {xs : List Int} (hx : xs.length = 16) (h : validL xs = true) (o : OpD) {k : Nat} (hk : k < 8) {z : Int × Int} (hz : fitB z.1 z.2 = true) (h1 : (k : Int) ≠ o.reg) (h2 : (k : Int) ≠ o.tg) :
    applyM (put2 xs k z) o = (put2 (applyM xs o).1 k z, (applyM xs o).2) := by
  have hv : validL (put2 xs k z) = true := valid_put h k hz
  cases ho : opB o with
  | false => rw [applyM_bad (by rw [ho]; simp), applyM_bad (by rw [ho]; simp)]
  | true =>
    obtain ⟨k12, r12, t0, _⟩ := (opB_iff _).1 ho
    have g1 : regOf (put2 xs k z) o.reg.toNat = regOf xs o.reg.toNat := regOf_put2_ne (by omega) z
    have g2 : regOf (put2 xs k z) o.tg.toNat = regOf xs o.tg.toNat := regOf_put2_ne (by omega) z
    have g3 : newReg (put2 xs k z) o = newReg xs o := by unfold newReg; rw [g1, g2]
    unfold applyM
    rw [hv, h, ho, g1, g3]
    simp only [Bool.and_self, if_true]
    split
    · rfl
    · split
      · refine Prod.ext ?_ rfl
        show put2 (if o.kind = 6 then _ else _) _ _ = put2 (put2 (if o.kind = 6 then _ else _) _ _) k z
        split
        · rw [put2_comm xs (show k ≠ o.tg.toNat by omega), put2_comm _ (show k ≠ o.reg.toNat by omega)]
        · rw [put2_comm _ (show k ≠ o.reg.toNat by omega)]
      · rfl
theorem apart_else {xs : List Int} (o : OpD) {i : Nat} (h1 : (i : Int) ≠ o.reg) (h2 : o.kind ≠ 6 ∨ (i : Int) ≠ o.tg) : regOf (applyM xs o).1 i = regOf xs i := by
  unfold applyM
  split
  · rename_i hc
    simp only [Bool.and_eq_true] at hc
    obtain ⟨k12, r12, t0, _⟩ := (opB_iff _).1 hc.2
    split
    · rfl
    · split
      · show regOf (put2 (if o.kind = 6 then _ else _) _ _) i = _
        rw [regOf_put2_ne (by omega)]
        split
        · rw [regOf_put2_ne (by omega)]
        · rfl
      · rfl
  · rfl

set_option maxHeartbeats 4000000 in
theorem takes_walk (re im mine : Int) (w : World) : Calls Try.prog 6 #[.int .i64 re, .int .i64 im, .int .i64 mine] w fun e w' => e = .returned (.bool true) ∧ Below w.heap.size w w' := by
  have sA := and1023 re
  have sB := and1023 im
  have sM := and1023 mine
  refine calls_at (R := PureAt w (.bool true)) (tab_ok _) Try.func6 rfl tTakes (ρ := ⟨[re, im, mine], [], [], [], []⟩) (ids := []) rfl (Facts.initP rfl oneNil) ?_
  refine node_val ⟨[], [true], [], [], []⟩ (fun w => head_any w) (by intros; kernel_rfl) (by intros; kernel_rfl) rfl rfl rfl oneNil ?_
  refine br_f rfl ?_
  have fA : fitB (ifn .and .i64 re 1023) (ifn .and .i64 im 1023) = true := fit_of (by omega) (by omega)
  have fM : fitB (ifn .and .i64 mine 1023) 0 = true := fit_of (by omega) (by decide)
  have f0 : fitB 0 0 = true := rfl
  obtain ⟨A, hA⟩ : ∃ A, A = ifn .and .i64 re 1023 := ⟨_, rfl⟩
  obtain ⟨B, hB⟩ : ∃ B, B = ifn .and .i64 im 1023 := ⟨_, rfl⟩
  obtain ⟨M, hMM⟩ : ∃ M, M = ifn .and .i64 mine 1023 := ⟨_, rfl⟩
  have fA' := fA; have fM' := fM
  rw [← hA, ← hB] at fA'
  rw [← hMM] at fM'
  have v0 : validL [0, 0, 0, 0, 0, 0, 0, 0, 0, 0, 0, 0, 0, 0, 0, 0] = true := rfl
  have v1 : validL [0, 0, A, B, 0, 0, 0, 0, 0, 0, 0, 0, 0, 0, 0, 0] = true := by simp only [validL, fA', f0, Bool.and_self]
  have v2 : validL [0, 0, A, B, M, 0, 0, 0, 0, 0, 0, 0, 0, 0, 0, 0] = true := by simp only [validL, fA', fM', f0, Bool.and_self]
  have v3 : validL [0, 0, M, 0, M, 0, 0, 0, 0, 0, 0, 0, 0, 0, 0, 0] = true := by simp only [validL, fM', f0, Bool.and_self]
  have o1 : opB ⟨2, 1, 0, A, B⟩ = true := (opB_iff _).2 ⟨by dsimp only; decide, by dsimp only; decide, by dsimp only; decide, by dsimp only; decide, fA', .inl (.inl rfl)⟩
  have o2 : opB ⟨2, 2, 0, M, 0⟩ = true := (opB_iff _).2 ⟨by dsimp only; decide, by dsimp only; decide, by dsimp only; decide, by dsimp only; decide, fM', .inl (.inl rfl)⟩
  have o3 : opB ⟨7, 1, 2, A, B⟩ = true := (opB_iff _).2 ⟨by dsimp only; decide, by dsimp only; decide, by dsimp only; decide, by dsimp only; decide, fA', .inl (.inr (.inr (.inr rfl)))⟩
  have h1 : applyM [0, 0, 0, 0, 0, 0, 0, 0, 0, 0, 0, 0, 0, 0, 0, 0] ⟨2, 1, 0, A, B⟩ = ([0, 0, A, B, 0, 0, 0, 0, 0, 0, 0, 0, 0, 0, 0, 0], 1, A, B) := (applyM_val (q := (A, B)) v0 o1 (fun q => absurd q (by dsimp only; decide)) rfl fA').trans rfl
  have h2 : applyM [0, 0, A, B, 0, 0, 0, 0, 0, 0, 0, 0, 0, 0, 0, 0] ⟨2, 2, 0, M, 0⟩ = ([0, 0, A, B, M, 0, 0, 0, 0, 0, 0, 0, 0, 0, 0, 0], 1, M, 0) := (applyM_val (q := (M, 0)) v1 o2 (fun q => absurd q (by dsimp only; decide)) rfl fM').trans rfl
  have h3 : applyM [0, 0, A, B, M, 0, 0, 0, 0, 0, 0, 0, 0, 0, 0, 0] ⟨7, 1, 2, A, B⟩ = ([0, 0, M, 0, M, 0, 0, 0, 0, 0, 0, 0, 0, 0, 0, 0], 1, M, 0) := (applyM_val (q := (M, 0)) v2 o3 (fun q => rfl) rfl fM').trans rfl
  refine node_val (V := resV ([0, 0, A, B, 0, 0, 0, 0, 0, 0, 0, 0, 0, 0, 0, 0], 1, A, B)) ⟨[0, 0, A, B, 0, 0, 0, 0, 0, 0, 0, 0, 0, 0, 0, 0, 1, A, B], [], [], [], []⟩ (fun w => by rw [← h1]; exact apply_any [0, 0, 0, 0, 0, 0, 0, 0, 0, 0, 0, 0, 0, 0, 0, 0] rfl ⟨2, 1, 0, A, B⟩ w) (by simp only [hA, hB, hMM]; intros; kernel_rfl) (by intros; kernel_rfl) rfl rfl rfl oneNil ?_
  refine node_val (V := resV ([0, 0, A, B, M, 0, 0, 0, 0, 0, 0, 0, 0, 0, 0, 0], 1, M, 0)) ⟨[0, 0, A, B, M, 0, 0, 0, 0, 0, 0, 0, 0, 0, 0, 0, 1, M, 0], [], [], [], []⟩ (fun w => by rw [← h2]; exact apply_any [0, 0, A, B, 0, 0, 0, 0, 0, 0, 0, 0, 0, 0, 0, 0] rfl ⟨2, 2, 0, M, 0⟩ w) (by simp only [hA, hB, hMM]; intros; kernel_rfl) (by intros; kernel_rfl) rfl rfl rfl oneNil ?_
  refine node_val (V := resV ([0, 0, M, 0, M, 0, 0, 0, 0, 0, 0, 0, 0, 0, 0, 0], 1, M, 0)) ⟨[0, 0, M, 0, M, 0, 0, 0, 0, 0, 0, 0, 0, 0, 0, 0, 1, M, 0], [], [], [], []⟩ (fun w => by rw [← h3]; exact apply_any [0, 0, A, B, M, 0, 0, 0, 0, 0, 0, 0, 0, 0, 0, 0] rfl ⟨7, 1, 2, A, B⟩ w) (by simp only [hA, hB, hMM]; intros; kernel_rfl) (by intros; kernel_rfl) rfl rfl rfl oneNil ?_
  have e1 : (M == A) = (ifn .and .i64 mine 1023 == ifn .and .i64 re 1023) := by rw [hA, hMM]
  have e2 : (B == 0) = (ifn .and .i64 im 1023 == 0) := by rw [hB]
  have e3 : (M != M) = (M != ifn .and .i64 mine 1023) := by rw [← hMM]
  have e4 : (M == M) = (M == ifn .and .i64 mine 1023) := by rw [← hMM]
  by_cases hq : M = A ∧ B = 0
  · have h4 : applyM [0, 0, M, 0, M, 0, 0, 0, 0, 0, 0, 0, 0, 0, 0, 0] ⟨7, 1, 2, A, B⟩ = ([0, 0, M, 0, M, 0, 0, 0, 0, 0, 0, 0, 0, 0, 0, 0], 1, M, 0) := (applyM_val (q := (M, 0)) v3 o3 (fun q => by rw [← hq.1, hq.2]; rfl) rfl fM').trans rfl
    refine node_val (V := resV ([0, 0, M, 0, M, 0, 0, 0, 0, 0, 0, 0, 0, 0, 0, 0], 1, M, 0)) ⟨[0, 0, M, 0, M, 0, 0, 0, 0, 0, 0, 0, 0, 0, 0, 0, 1, M, 0], [], [], [], []⟩ (fun w => by rw [← h4]; exact apply_any [0, 0, M, 0, M, 0, 0, 0, 0, 0, 0, 0, 0, 0, 0, 0] rfl ⟨7, 1, 2, A, B⟩ w) (by simp only [hA, hB, hMM]; intros; kernel_rfl) (by intros; kernel_rfl) rfl rfl rfl oneNil ?_
    refine br_f rfl (br_f (e3.symm.trans (by simp)) (br_f rfl ?_))
    refine br_t (e1.symm.trans (by simpa using hq.1)) ?_
    refine br_t (show (((1 : Int) == 1) == (ifn .and .i64 im 1023 == 0)) = true by rw [← e2, hq.2]; rfl) ?_
    exact br_t rfl (pure_done fun _ => rfl)
  · have h4 : applyM [0, 0, M, 0, M, 0, 0, 0, 0, 0, 0, 0, 0, 0, 0, 0] ⟨7, 1, 2, A, B⟩ = ([0, 0, M, 0, M, 0, 0, 0, 0, 0, 0, 0, 0, 0, 0, 0], 3, M, 0) := (applyM_miss v3 o3 rfl (fun q => hq (by
      have q : ((M, 0) : Int × Int) = (A, B) := q
      cases q; exact ⟨rfl, rfl⟩))).trans rfl
    refine node_val (V := resV ([0, 0, M, 0, M, 0, 0, 0, 0, 0, 0, 0, 0, 0, 0, 0], 3, M, 0)) ⟨[0, 0, M, 0, M, 0, 0, 0, 0, 0, 0, 0, 0, 0, 0, 0, 3, M, 0], [], [], [], []⟩ (fun w => by rw [← h4]; exact apply_any [0, 0, M, 0, M, 0, 0, 0, 0, 0, 0, 0, 0, 0, 0, 0] rfl ⟨7, 1, 2, A, B⟩ w) (by simp only [hA, hB, hMM]; intros; kernel_rfl) (by intros; kernel_rfl) rfl rfl rfl oneNil ?_
    refine br_f rfl (br_f (e3.symm.trans (by simp)) (br_f rfl ?_))
    by_cases hm : M = A
    · refine br_t (e1.symm.trans (by simpa using hm)) ?_
      refine br_t (show (((3 : Int) == 1) == (ifn .and .i64 im 1023 == 0)) = true by rw [← e2, show (B == 0) = false by simpa using fun q => hq ⟨hm, q⟩]; rfl) ?_
      exact br_f rfl (br_t rfl (pure_done fun _ => congrArg Value.bool (e4.symm.trans (by simp))))
    · refine br_f (e1.symm.trans (by simpa using hm)) ?_
      refine br_t rfl ?_
      exact br_f rfl (br_t rfl (pure_done fun _ => congrArg Value.bool (e4.symm.trans (by simp))))
set_option maxHeartbeats 4000000 in
theorem twice_walk (a : Option Addr) (cap : Nat) (os : List OpD) (Reg To Re Im : Int) (w : World) (hC : Cells w a (Dat.cellsAll (os.map OpD.dat))) (hl : os.length ≤ 9223372036854775807) : Calls Try.prog 4 #[.slice a os.length cap, .int .i64 Reg, .int .i64 To, .int .i64 Re, .int .i64 Im] w (PureAt w (.bool true)) := by
  refine calls_at (tab_ok _) Try.func4 rfl tTwice (ρ := ⟨[Reg, To, Re, Im], [], [], [os.length, cap], [a]⟩) (ids := []) rfl (Facts.initP rfl oneNil) ?_
  refine node_val ⟨[], [true], [], [], []⟩ (fun w => head_any w) (by intros; kernel_rfl) (by intros; kernel_rfl) rfl rfl rfl oneNil ?_
  refine br_f rfl ?_
  refine loop_i (StI os.length) (fun vs => os.length - (vs.i.headD 0).toNat) (fun ids w2 hp hf => ⟨HX.nil, HXok.none _ _, 0, [0, 0, 0, 0, 0, 0, 0, 0, 0, 0, 0, 0, 0, 0, 0, 0], by omega, rfl, rfl, by kernel_rfl, rfl⟩) ?_
  rintro vs hx' hcnt ⟨k, xs, hk1, hx2, hv, rfl, rfl⟩
  obtain ⟨b0, b1, b2, b3, b4, b5, b6, b7, b8, b9, b10, b11, b12, b13, b14, b15, rfl⟩ := list16 xs hx2
  by_cases hk : k < os.length
  · have hwk : IntKind.i64.wrap ((k : Int) + 1) = ((k + 1 : Nat) : Int) := by rw [wrap_i64 (by omega)]; omega
    refine br_t (show decide ((k : Int) < (os.length : Int)) = true by simpa using hk) ?_
    obtain ⟨s, hs⟩ : ∃ s, os[k]? = some s := ⟨_, List.getElem?_eq_getElem hk⟩
    obtain ⟨s1, c1⟩ := cells_elt hC OpD.len (by decide) hs
    refine need_i ⟨s1, (show (0 : Int) ≤ k by omega), (show (k : Int) < os.length by omega)⟩ ?_
    obtain ⟨kind, reg, tg, re, im⟩ := s
    refine ⟨⟨[kind, reg, tg, re, im], [], [], [], []⟩, fun ids => c1 _ (fun h => h), ⟨rfl, oneNil⟩, ?_⟩
    have hval := applyM_valid rfl hv ⟨kind, reg, tg, re, im⟩
    obtain ⟨t0, t1, t2, t3, t4, t5, t6, t7, t8, t9, t10, t11, t12, t13, t14, t15, r0, r1, r2, ht⟩ := list_form [b0, b1, b2, b3, b4, b5, b6, b7, b8, b9, b10, b11, b12, b13, b14, b15] ⟨kind, reg, tg, re, im⟩ rfl
    rw [ht] at hval
    refine node_val (V := resV ([t0, t1, t2, t3, t4, t5, t6, t7, t8, t9, t10, t11, t12, t13, t14, t15], r0, r1, r2)) ⟨[t0, t1, t2, t3, t4, t5, t6, t7, t8, t9, t10, t11, t12, t13, t14, t15, r0, r1, r2], [], [], [], []⟩ (fun w => by rw [← ht]; exact apply_any [b0, b1, b2, b3, b4, b5, b6, b7, b8, b9, b10, b11, b12, b13, b14, b15] rfl ⟨kind, reg, tg, re, im⟩ w) (by intros; kernel_rfl) (by intros; kernel_rfl) rfl rfl rfl oneNil ?_
    intro ids w2 hp hf
    refine ⟨HX.nil, HXok.none _ _, _, rfl, ⟨k + 1, [t0, t1, t2, t3, t4, t5, t6, t7, t8, t9, t10, t11, t12, t13, t14, t15], by omega, rfl, hval, by rw [← hwk]; kernel_rfl, rfl⟩, ?_⟩
    show os.length - (IntKind.i64.wrap ((k : Int) + 1)).toNat < os.length - ((k : Int)).toNat
    rw [hwk]; omega
  refine br_f (show decide ((k : Int) < (os.length : Int)) = false by simpa using hk) ?_
  have sR := and7 Reg
  have sS := and7 To
  have hR : 0 ≤ ifn .and .i64 Reg 7 ∧ ifn .and .i64 Reg 7 ≤ 7 := by omega
  have hS : 0 ≤ ifn .and .i64 To 7 ∧ ifn .and .i64 To 7 ≤ 7 := by omega
  have hb := Int.tmod_lt_of_pos Re (show (0 : Int) < 1000 by decide)
  have small : ∀ x : Int, (ifn .rem .i64 x 1000).natAbs ≤ 999 := fun x => by
    show (x.tmod 1000).natAbs ≤ 999
    have : (x.tmod 1000).natAbs = x.natAbs % 1000 := Int.natAbs_tmod x 1000
    omega
  have neg : ∀ x : Int, ifn .sub .i64 0 (ifn .rem .i64 x 1000) = -(ifn .rem .i64 x 1000) := fun x => by
    have := small x
    show IntKind.i64.wrap (0 - _) = _
    rw [wrap_i64 (by omega)]; omega
  have hturn := turn_four hx2 hv hR
  have hswap := swap_two hx2 hv hR hS
  obtain ⟨hadd1, hadd2⟩ := add_two hx2 hv hR (small Re) (small Im) (neg Re) (neg Im)
  obtain ⟨c0, c1, c2, c3, c4, c5, c6, c7, c8, c9, c10, c11, c12, c13, c14, c15, cr0, cr1, cr2, hc⟩ := list_form [b0, b1, b2, b3, b4, b5, b6, b7, b8, b9, b10, b11, b12, b13, b14, b15] ⟨5, ifn .and .i64 Reg 7, 1, 0, 0⟩ rfl
  rw [hc] at hturn
  refine node_val (V := resV ([c0, c1, c2, c3, c4, c5, c6, c7, c8, c9, c10, c11, c12, c13, c14, c15], cr0, cr1, cr2)) ⟨[c0, c1, c2, c3, c4, c5, c6, c7, c8, c9, c10, c11, c12, c13, c14, c15, cr0, cr1, cr2], [], [], [], []⟩ (fun w => by rw [← hc]; exact apply_any [b0, b1, b2, b3, b4, b5, b6, b7, b8, b9, b10, b11, b12, b13, b14, b15] rfl ⟨5, ifn .and .i64 Reg 7, 1, 0, 0⟩ w) (by intros; kernel_rfl) (by intros; kernel_rfl) rfl rfl rfl oneNil ?_
  obtain ⟨d0, d1, d2, d3, d4, d5, d6, d7, d8, d9, d10, d11, d12, d13, d14, d15, dr0, dr1, dr2, hd⟩ := list_form [c0, c1, c2, c3, c4, c5, c6, c7, c8, c9, c10, c11, c12, c13, c14, c15] ⟨5, ifn .and .i64 Reg 7, 1, 0, 0⟩ rfl
  rw [hd] at hturn
  refine node_val (V := resV ([d0, d1, d2, d3, d4, d5, d6, d7, d8, d9, d10, d11, d12, d13, d14, d15], dr0, dr1, dr2)) ⟨[d0, d1, d2, d3, d4, d5, d6, d7, d8, d9, d10, d11, d12, d13, d14, d15, dr0, dr1, dr2], [], [], [], []⟩ (fun w => by rw [← hd]; exact apply_any [c0, c1, c2, c3, c4, c5, c6, c7, c8, c9, c10, c11, c12, c13, c14, c15] rfl ⟨5, ifn .and .i64 Reg 7, 1, 0, 0⟩ w) (by intros; kernel_rfl) (by intros; kernel_rfl) rfl rfl rfl oneNil ?_
  obtain ⟨e0, e1, e2, e3, e4, e5, e6, e7, e8, e9, e10, e11, e12, e13, e14, e15, er0, er1, er2, he⟩ := list_form [d0, d1, d2, d3, d4, d5, d6, d7, d8, d9, d10, d11, d12, d13, d14, d15] ⟨5, ifn .and .i64 Reg 7, 1, 0, 0⟩ rfl
  rw [he] at hturn
  refine node_val (V := resV ([e0, e1, e2, e3, e4, e5, e6, e7, e8, e9, e10, e11, e12, e13, e14, e15], er0, er1, er2)) ⟨[e0, e1, e2, e3, e4, e5, e6, e7, e8, e9, e10, e11, e12, e13, e14, e15, er0, er1, er2], [], [], [], []⟩ (fun w => by rw [← he]; exact apply_any [d0, d1, d2, d3, d4, d5, d6, d7, d8, d9, d10, d11, d12, d13, d14, d15] rfl ⟨5, ifn .and .i64 Reg 7, 1, 0, 0⟩ w) (by intros; kernel_rfl) (by intros; kernel_rfl) rfl rfl rfl oneNil ?_
  obtain ⟨f0, f1, f2, f3, f4, f5, f6, f7, f8, f9, f10, f11, f12, f13, f14, f15, fr0, fr1, fr2, hf⟩ := list_form [e0, e1, e2, e3, e4, e5, e6, e7, e8, e9, e10, e11, e12, e13, e14, e15] ⟨5, ifn .and .i64 Reg 7, 1, 0, 0⟩ rfl
  rw [hf] at hturn
  refine node_val (V := resV ([f0, f1, f2, f3, f4, f5, f6, f7, f8, f9, f10, f11, f12, f13, f14, f15], fr0, fr1, fr2)) ⟨[f0, f1, f2, f3, f4, f5, f6, f7, f8, f9, f10, f11, f12, f13, f14, f15, fr0, fr1, fr2], [], [], [], []⟩ (fun w => by rw [← hf]; exact apply_any [e0, e1, e2, e3, e4, e5, e6, e7, e8, e9, e10, e11, e12, e13, e14, e15] rfl ⟨5, ifn .and .i64 Reg 7, 1, 0, 0⟩ w) (by intros; kernel_rfl) (by intros; kernel_rfl) rfl rfl rfl oneNil ?_
  dsimp only at hturn
  obtain ⟨g0, g1, g2, g3, g4, g5, g6, g7, g8, g9, g10, g11, g12, g13, g14, g15, gr0, gr1, gr2, hg⟩ := list_form [b0, b1, b2, b3, b4, b5, b6, b7, b8, b9, b10, b11, b12, b13, b14, b15] ⟨6, ifn .and .i64 Reg 7, ifn .and .i64 To 7, 0, 0⟩ rfl
  rw [hg] at hswap
  refine node_val (V := resV ([g0, g1, g2, g3, g4, g5, g6, g7, g8, g9, g10, g11, g12, g13, g14, g15], gr0, gr1, gr2)) ⟨[g0, g1, g2, g3, g4, g5, g6, g7, g8, g9, g10, g11, g12, g13, g14, g15, gr0, gr1, gr2], [], [], [], []⟩ (fun w => by rw [← hg]; exact apply_any [b0, b1, b2, b3, b4, b5, b6, b7, b8, b9, b10, b11, b12, b13, b14, b15] rfl ⟨6, ifn .and .i64 Reg 7, ifn .and .i64 To 7, 0, 0⟩ w) (by intros; kernel_rfl) (by intros; kernel_rfl) rfl rfl rfl oneNil ?_
  obtain ⟨h0, h1, h2, h3, h4, h5, h6, h7, h8, h9, h10, h11, h12, h13, h14, h15, hr0, hr1, hr2, hh⟩ := list_form [g0, g1, g2, g3, g4, g5, g6, g7, g8, g9, g10, g11, g12, g13, g14, g15] ⟨6, ifn .and .i64 Reg 7, ifn .and .i64 To 7, 0, 0⟩ rfl
  rw [hh] at hswap
  refine node_val (V := resV ([h0, h1, h2, h3, h4, h5, h6, h7, h8, h9, h10, h11, h12, h13, h14, h15], hr0, hr1, hr2)) ⟨[h0, h1, h2, h3, h4, h5, h6, h7, h8, h9, h10, h11, h12, h13, h14, h15, hr0, hr1, hr2], [], [], [], []⟩ (fun w => by rw [← hh]; exact apply_any [g0, g1, g2, g3, g4, g5, g6, g7, g8, g9, g10, g11, g12, g13, g14, g15] rfl ⟨6, ifn .and .i64 Reg 7, ifn .and .i64 To 7, 0, 0⟩ w) (by intros; kernel_rfl) (by intros; kernel_rfl) rfl rfl rfl oneNil ?_
  dsimp only at hswap
  obtain ⟨p0, p1, p2, p3, p4, p5, p6, p7, p8, p9, p10, p11, p12, p13, p14, p15, pr0, pr1, pr2, hp⟩ := list_form [b0, b1, b2, b3, b4, b5, b6, b7, b8, b9, b10, b11, b12, b13, b14, b15] ⟨3, ifn .and .i64 Reg 7, 0, ifn .rem .i64 Re 1000, ifn .rem .i64 Im 1000⟩ rfl
  rw [hp] at hadd1 hadd2
  refine node_val (V := resV ([p0, p1, p2, p3, p4, p5, p6, p7, p8, p9, p10, p11, p12, p13, p14, p15], pr0, pr1, pr2)) ⟨[p0, p1, p2, p3, p4, p5, p6, p7, p8, p9, p10, p11, p12, p13, p14, p15, pr0, pr1, pr2], [], [], [], []⟩ (fun w => by rw [← hp]; exact apply_any [b0, b1, b2, b3, b4, b5, b6, b7, b8, b9, b10, b11, b12, b13, b14, b15] rfl ⟨3, ifn .and .i64 Reg 7, 0, ifn .rem .i64 Re 1000, ifn .rem .i64 Im 1000⟩ w) (by intros; kernel_rfl) (by intros; kernel_rfl) rfl rfl rfl oneNil ?_
  by_cases hz1 : pr0 = 1
  · refine br_t (show (pr0 == 1) = true by simpa using hz1) ?_
    have hadd := hadd1 hz1
    obtain ⟨q0, q1, q2, q3, q4, q5, q6, q7, q8, q9, q10, q11, q12, q13, q14, q15, qr0, qr1, qr2, hq⟩ := list_form [p0, p1, p2, p3, p4, p5, p6, p7, p8, p9, p10, p11, p12, p13, p14, p15] ⟨3, ifn .and .i64 Reg 7, 0, ifn .sub .i64 0 (ifn .rem .i64 Re 1000), ifn .sub .i64 0 (ifn .rem .i64 Im 1000)⟩ rfl
    rw [hq] at hadd
    refine node_val (V := resV ([q0, q1, q2, q3, q4, q5, q6, q7, q8, q9, q10, q11, q12, q13, q14, q15], qr0, qr1, qr2)) ⟨[q0, q1, q2, q3, q4, q5, q6, q7, q8, q9, q10, q11, q12, q13, q14, q15, qr0, qr1, qr2], [], [], [], []⟩ (fun w => by rw [← hq]; exact apply_any [p0, p1, p2, p3, p4, p5, p6, p7, p8, p9, p10, p11, p12, p13, p14, p15] rfl ⟨3, ifn .and .i64 Reg 7, 0, ifn .sub .i64 0 (ifn .rem .i64 Re 1000), ifn .sub .i64 0 (ifn .rem .i64 Im 1000)⟩ w) (by intros; kernel_rfl) (by intros; kernel_rfl) rfl rfl rfl oneNil ?_
    refine br_t (Eq.trans (b := eqB [f0, f1, f2, f3, f4, f5, f6, f7, f8, f9, f10, f11, f12, f13, f14, f15] [b0, b1, b2, b3, b4, b5, b6, b7, b8, b9, b10, b11, b12, b13, b14, b15]) (by kernel_rfl) (by rw [hturn, eqB_self])) ?_
    refine br_t (Eq.trans (b := eqB [h0, h1, h2, h3, h4, h5, h6, h7, h8, h9, h10, h11, h12, h13, h14, h15] [b0, b1, b2, b3, b4, b5, b6, b7, b8, b9, b10, b11, b12, b13, b14, b15]) (by kernel_rfl) (by rw [hswap, eqB_self])) ?_
    exact pure_done fun _ => congrArg Value.bool (Eq.trans (b := eqB [q0, q1, q2, q3, q4, q5, q6, q7, q8, q9, q10, q11, q12, q13, q14, q15] [b0, b1, b2, b3, b4, b5, b6, b7, b8, b9, b10, b11, b12, b13, b14, b15]) (by kernel_rfl) (by rw [show [q0, q1, q2, q3, q4, q5, q6, q7, q8, q9, q10, q11, q12, q13, q14, q15] = [b0, b1, b2, b3, b4, b5, b6, b7, b8, b9, b10, b11, b12, b13, b14, b15] from hadd, eqB_self]))
  · refine br_f (show (pr0 == 1) = false by simpa using hz1) ?_
    have hadd := hadd2 hz1
    refine br_t (Eq.trans (b := eqB [f0, f1, f2, f3, f4, f5, f6, f7, f8, f9, f10, f11, f12, f13, f14, f15] [b0, b1, b2, b3, b4, b5, b6, b7, b8, b9, b10, b11, b12, b13, b14, b15]) (by kernel_rfl) (by rw [hturn, eqB_self])) ?_
    refine br_t (Eq.trans (b := eqB [h0, h1, h2, h3, h4, h5, h6, h7, h8, h9, h10, h11, h12, h13, h14, h15] [b0, b1, b2, b3, b4, b5, b6, b7, b8, b9, b10, b11, b12, b13, b14, b15]) (by kernel_rfl) (by rw [hswap, eqB_self])) ?_
    exact pure_done fun _ => congrArg Value.bool (Eq.trans (b := eqB [p0, p1, p2, p3, p4, p5, p6, p7, p8, p9, p10, p11, p12, p13, p14, p15] [b0, b1, b2, b3, b4, b5, b6, b7, b8, b9, b10, b11, b12, b13, b14, b15]) (by kernel_rfl) (by rw [show [p0, p1, p2, p3, p4, p5, p6, p7, p8, p9, p10, p11, p12, p13, p14, p15] = [b0, b1, b2, b3, b4, b5, b6, b7, b8, b9, b10, b11, b12, b13, b14, b15] from hadd, eqB_self]))
theorem twice_args (a : Option Addr) (cap : Nat) (ds : List Dat) (Reg To Re Im : Int) (w : World) (hC : Cells w a (Dat.cellsAll ds)) (hds : ∀ d ∈ ds, d.In Try.prog w 29) (hl : ds.length ≤ 9223372036854775807) (hb : ds.length * Try.prog.bytesOf 29 ≤ reachBytes) (i1 : I64 Reg) (i2 : I64 To) (i3 : I64 Re) (i4 : I64 Im) :
    Calls Try.prog 4 #[.slice a ds.length cap, .int .i64 Reg, .int .i64 To, .int .i64 Re, .int .i64 Im] w fun e w' => e = .returned (.bool true) ∧ Below w.heap.size w w' := by
  obtain ⟨os, rfl, _⟩ := list_map_of OpD.dat (fun _ => True) ds (fun d hd => open_opd (hds d hd))
  rw [List.length_map] at hl ⊢
  exact twice_walk a cap os Reg To Re Im w hC hl
theorem takes_args (re im mine : Int) (w : World) (i1 : I64 re) (i2 : I64 im) (i3 : I64 mine) : Calls Try.prog 6 #[.int .i64 re, .int .i64 im, .int .i64 mine] w fun e w' => e = .returned (.bool true) ∧ Below w.heap.size w w' := takes_walk re im mine w
def IdxI (vs : Vals) (hx : HX) : Prop := ∃ (k : Nat), k ≤ 8 ∧ vs = ⟨[(k : Int)], [], [], [], []⟩ ∧ hx = HX.nil
set_option maxHeartbeats 8000000 in
theorem apart_walk (a : Option Addr) (cap : Nat) (os : List OpD) (op : OpD) (Kx Rx : Int) (w : World) (hC : Cells w a (Dat.cellsAll (os.map OpD.dat))) (hl : os.length ≤ 9223372036854775807) : Calls Try.prog 5 #[.slice a os.length cap, .agg op.cells.toArray, .int .i64 Kx, .int .i64 Rx] w (PureAt w (.bool true)) := by
  obtain ⟨okind, oreg, otg, ore, oim⟩ := op
  refine calls_at (tab_ok _) Try.func5 rfl tApart (ρ := ⟨[okind, oreg, otg, ore, oim, Kx, Rx], [], [], [os.length, cap], [a]⟩) (ids := []) rfl (Facts.initP rfl oneNil) ?_
  refine node_val ⟨[], [true], [], [], []⟩ (fun w => head_any w) (by intros; kernel_rfl) (by intros; kernel_rfl) rfl rfl rfl oneNil ?_
  refine br_f rfl ?_
  refine loop_i (StI os.length) (fun vs => os.length - (vs.i.headD 0).toNat) (fun ids w2 hp hf => ⟨HX.nil, HXok.none _ _, 0, [0, 0, 0, 0, 0, 0, 0, 0, 0, 0, 0, 0, 0, 0, 0, 0], by omega, rfl, rfl, by kernel_rfl, rfl⟩) ?_
  rintro vs hx' hcnt ⟨k, xs, hk1, hx2, hv, rfl, rfl⟩
  obtain ⟨b0, b1, b2, b3, b4, b5, b6, b7, b8, b9, b10, b11, b12, b13, b14, b15, rfl⟩ := list16 xs hx2
  by_cases hk : k < os.length
  · have hwk : IntKind.i64.wrap ((k : Int) + 1) = ((k + 1 : Nat) : Int) := by rw [wrap_i64 (by omega)]; omega
    refine br_t (show decide ((k : Int) < (os.length : Int)) = true by simpa using hk) ?_
    obtain ⟨s, hs⟩ : ∃ s, os[k]? = some s := ⟨_, List.getElem?_eq_getElem hk⟩
    obtain ⟨s1, c1⟩ := cells_elt hC OpD.len (by decide) hs
    refine need_i ⟨s1, (show (0 : Int) ≤ k by omega), (show (k : Int) < os.length by omega)⟩ ?_
    obtain ⟨kind, reg, tg, re, im⟩ := s
    refine ⟨⟨[kind, reg, tg, re, im], [], [], [], []⟩, fun ids => c1 _ (fun h => h), ⟨rfl, oneNil⟩, ?_⟩
    have hval := applyM_valid rfl hv ⟨kind, reg, tg, re, im⟩
    obtain ⟨t0, t1, t2, t3, t4, t5, t6, t7, t8, t9, t10, t11, t12, t13, t14, t15, r0, r1, r2, ht⟩ := list_form [b0, b1, b2, b3, b4, b5, b6, b7, b8, b9, b10, b11, b12, b13, b14, b15] ⟨kind, reg, tg, re, im⟩ rfl
    rw [ht] at hval
    refine node_val (V := resV ([t0, t1, t2, t3, t4, t5, t6, t7, t8, t9, t10, t11, t12, t13, t14, t15], r0, r1, r2)) ⟨[t0, t1, t2, t3, t4, t5, t6, t7, t8, t9, t10, t11, t12, t13, t14, t15, r0, r1, r2], [], [], [], []⟩ (fun w => by rw [← ht]; exact apply_any [b0, b1, b2, b3, b4, b5, b6, b7, b8, b9, b10, b11, b12, b13, b14, b15] rfl ⟨kind, reg, tg, re, im⟩ w) (by intros; kernel_rfl) (by intros; kernel_rfl) rfl rfl rfl oneNil ?_
    intro ids w2 hp hf
    refine ⟨HX.nil, HXok.none _ _, _, rfl, ⟨k + 1, [t0, t1, t2, t3, t4, t5, t6, t7, t8, t9, t10, t11, t12, t13, t14, t15], by omega, rfl, hval, by rw [← hwk]; kernel_rfl, rfl⟩, ?_⟩
    show os.length - (IntKind.i64.wrap ((k : Int) + 1)).toNat < os.length - ((k : Int)).toNat
    rw [hwk]; omega
  refine br_f (show decide ((k : Int) < (os.length : Int)) = false by simpa using hk) ?_
  have sK := and7 Kx
  have sX := and1023 Rx
  have helse := fun (i : Nat) h1 h2 => apart_else (xs := [b0, b1, b2, b3, b4, b5, b6, b7, b8, b9, b10, b11, b12, b13, b14, b15]) ⟨okind, oreg, otg, ore, oim⟩ (i := i) h1 h2
  have hap := fun h1 h2 => apart_eq hx2 hv ⟨okind, oreg, otg, ore, oim⟩ (k := (ifn .and .i64 Kx 7).toNat) (by omega) (z := (ifn .and .i64 Rx 1023, 1)) (fit_of (show (ifn .and .i64 Rx 1023).natAbs ≤ 1048576 by omega) (show (1 : Int).natAbs ≤ 1048576 by decide)) h1 h2
  obtain ⟨c0, c1, c2, c3, c4, c5, c6, c7, c8, c9, c10, c11, c12, c13, c14, c15, cr0, cr1, cr2, hc⟩ := list_form [b0, b1, b2, b3, b4, b5, b6, b7, b8, b9, b10, b11, b12, b13, b14, b15] ⟨okind, oreg, otg, ore, oim⟩ rfl
  rw [hc] at helse hap
  dsimp only at helse hap
  refine node_val (V := resV ([c0, c1, c2, c3, c4, c5, c6, c7, c8, c9, c10, c11, c12, c13, c14, c15], cr0, cr1, cr2)) ⟨[c0, c1, c2, c3, c4, c5, c6, c7, c8, c9, c10, c11, c12, c13, c14, c15, cr0, cr1, cr2], [], [], [], []⟩ (fun w => by rw [← hc]; exact apply_any [b0, b1, b2, b3, b4, b5, b6, b7, b8, b9, b10, b11, b12, b13, b14, b15] rfl ⟨okind, oreg, otg, ore, oim⟩ w) (by intros; kernel_rfl) (by intros; kernel_rfl) rfl rfl rfl oneNil ?_
  refine loop_i IdxI (fun vs => 8 - (vs.i.headD 0).toNat) (fun ids w2 hp hf => ⟨HX.nil, HXok.none _ _, 0, by omega, by kernel_rfl, rfl⟩) ?_
  rintro vs hx' hcnt2 ⟨i, hi8, rfl, rfl⟩
  by_cases hi : i < 8
  · refine br_t (show decide ((i : Int) < 8) = true from decide_eq_true (by omega)) ?_
    have hwi : IntKind.i64.wrap ((i : Int) + 1) = ((i + 1 : Nat) : Int) := by rw [wrap_i64 (by omega)]; omega
    have hI : (0 : Int) ≤ i ∧ (i : Int) < 8 := by omega
    have hlb : 2 * i + 1 < ([b0, b1, b2, b3, b4, b5, b6, b7, b8, b9, b10, b11, b12, b13, b14, b15] : List Int).length := by simp only [List.length_cons, List.length_nil]; omega
    have hlc : 2 * i + 1 < ([c0, c1, c2, c3, c4, c5, c6, c7, c8, c9, c10, c11, c12, c13, c14, c15] : List Int).length := by simp only [List.length_cons, List.length_nil]; omega
    have fin : ∀ {key : Nat} {es : Vec} {m : Mem} {ρ : Env} {pre : List Nat} {L : Stack}, key = 12 → (∀ ids, es.den ρ ids = ⟨[IntKind.i64.wrap ((i : Int) + 1)], [], [], [], []⟩) → (Tree.again key es m).holds ⟨Try.prog, w, fun _ => False, PureAt w (.bool true)⟩ ρ pre HX.nil ((12, fun vs' hx'' => IdxI vs' hx'' ∧ 8 - (vs'.i.headD 0).toNat < 8 - ((⟨[(i : Int)], [], [], [], []⟩ : Vals).i.headD 0).toNat) :: L) := by
      intro key es m ρ pre L hkey hes ids w2 hp hf
      subst hkey
      refine ⟨HX.nil, HXok.none _ _, _, rfl, ?_⟩
      rw [hes]
      refine ⟨⟨i + 1, by omega, by rw [hwi], rfl⟩, ?_⟩
      show 8 - (IntKind.i64.wrap ((i : Int) + 1)).toNat < 8 - ((i : Int)).toNat
      rw [hwi]; omega
    by_cases h1 : (i : Int) = oreg
    · refine br_f (show ((i : Int) != oreg) = false by simpa using h1) ?_
      exact fin rfl (by intros; kernel_rfl)
    refine br_t (show ((i : Int) != oreg) = true by simpa using h1) ?_
    by_cases h6 : okind = 6
    · refine br_f (show (okind != 6) = false by simpa using h6) ?_
      by_cases h2 : (i : Int) = otg
      · refine br_f (show ((i : Int) != otg) = false by simpa using h2) ?_
        exact fin rfl (by intros; kernel_rfl)
      refine br_t (show ((i : Int) != otg) = true by simpa using h2) ?_
      have hh : okind ≠ 6 ∨ (i : Int) ≠ otg := .inr h2
      have he := helse i h1 hh
      refine need_i hI (need_i hI (par_i ?_ ?_))
      · refine node_reg2 [c0, c1, c2, c3, c4, c5, c6, c7, c8, c9, c10, c11, c12, c13, c14, c15] i ⟨[(regOf [b0, b1, b2, b3, b4, b5, b6, b7, b8, b9, b10, b11, b12, b13, b14, b15] i).1, (regOf [b0, b1, b2, b3, b4, b5, b6, b7, b8, b9, b10, b11, b12, b13, b14, b15] i).2], [], [], [], []⟩ hlc rfl (by intros; kernel_rfl) (by intros; kernel_rfl) (by rw [he]; intros; kernel_rfl) rfl oneNil ?_
        refine node_reg2 [b0, b1, b2, b3, b4, b5, b6, b7, b8, b9, b10, b11, b12, b13, b14, b15] i ⟨[(regOf [b0, b1, b2, b3, b4, b5, b6, b7, b8, b9, b10, b11, b12, b13, b14, b15] i).1, (regOf [b0, b1, b2, b3, b4, b5, b6, b7, b8, b9, b10, b11, b12, b13, b14, b15] i).2], [], [], [], []⟩ hlb rfl (by intros; kernel_rfl) (by intros; kernel_rfl) (by intros; kernel_rfl) rfl oneNil ?_
        refine br_f (show (!(((regOf [b0, b1, b2, b3, b4, b5, b6, b7, b8, b9, b10, b11, b12, b13, b14, b15] i).1 == (regOf [b0, b1, b2, b3, b4, b5, b6, b7, b8, b9, b10, b11, b12, b13, b14, b15] i).1) && ((regOf [b0, b1, b2, b3, b4, b5, b6, b7, b8, b9, b10, b11, b12, b13, b14, b15] i).2 == (regOf [b0, b1, b2, b3, b4, b5, b6, b7, b8, b9, b10, b11, b12, b13, b14, b15] i).2))) = false by simp) ?_
        exact fin rfl (by intros; kernel_rfl)
      · refine node_reg2 [b0, b1, b2, b3, b4, b5, b6, b7, b8, b9, b10, b11, b12, b13, b14, b15] i ⟨[(regOf [b0, b1, b2, b3, b4, b5, b6, b7, b8, b9, b10, b11, b12, b13, b14, b15] i).1, (regOf [b0, b1, b2, b3, b4, b5, b6, b7, b8, b9, b10, b11, b12, b13, b14, b15] i).2], [], [], [], []⟩ hlb rfl (by intros; kernel_rfl) (by intros; kernel_rfl) (by intros; kernel_rfl) rfl oneNil ?_
        refine node_reg2 [c0, c1, c2, c3, c4, c5, c6, c7, c8, c9, c10, c11, c12, c13, c14, c15] i ⟨[(regOf [b0, b1, b2, b3, b4, b5, b6, b7, b8, b9, b10, b11, b12, b13, b14, b15] i).1, (regOf [b0, b1, b2, b3, b4, b5, b6, b7, b8, b9, b10, b11, b12, b13, b14, b15] i).2], [], [], [], []⟩ hlc rfl (by intros; kernel_rfl) (by intros; kernel_rfl) (by rw [he]; intros; kernel_rfl) rfl oneNil ?_
        refine br_f (show (!(((regOf [b0, b1, b2, b3, b4, b5, b6, b7, b8, b9, b10, b11, b12, b13, b14, b15] i).1 == (regOf [b0, b1, b2, b3, b4, b5, b6, b7, b8, b9, b10, b11, b12, b13, b14, b15] i).1) && ((regOf [b0, b1, b2, b3, b4, b5, b6, b7, b8, b9, b10, b11, b12, b13, b14, b15] i).2 == (regOf [b0, b1, b2, b3, b4, b5, b6, b7, b8, b9, b10, b11, b12, b13, b14, b15] i).2))) = false by simp) ?_
        exact fin rfl (by intros; kernel_rfl)
    · refine br_t (show (okind != 6) = true by simpa using h6) ?_
      have hh : okind ≠ 6 ∨ (i : Int) ≠ otg := .inl h6
      have he := helse i h1 hh
      refine need_i hI (need_i hI (par_i ?_ ?_))
      · refine node_reg2 [c0, c1, c2, c3, c4, c5, c6, c7, c8, c9, c10, c11, c12, c13, c14, c15] i ⟨[(regOf [b0, b1, b2, b3, b4, b5, b6, b7, b8, b9, b10, b11, b12, b13, b14, b15] i).1, (regOf [b0, b1, b2, b3, b4, b5, b6, b7, b8, b9, b10, b11, b12, b13, b14, b15] i).2], [], [], [], []⟩ hlc rfl (by intros; kernel_rfl) (by intros; kernel_rfl) (by rw [he]; intros; kernel_rfl) rfl oneNil ?_
        refine node_reg2 [b0, b1, b2, b3, b4, b5, b6, b7, b8, b9, b10, b11, b12, b13, b14, b15] i ⟨[(regOf [b0, b1, b2, b3, b4, b5, b6, b7, b8, b9, b10, b11, b12, b13, b14, b15] i).1, (regOf [b0, b1, b2, b3, b4, b5, b6, b7, b8, b9, b10, b11, b12, b13, b14, b15] i).2], [], [], [], []⟩ hlb rfl (by intros; kernel_rfl) (by intros; kernel_rfl) (by intros; kernel_rfl) rfl oneNil ?_
        refine br_f (show (!(((regOf [b0, b1, b2, b3, b4, b5, b6, b7, b8, b9, b10, b11, b12, b13, b14, b15] i).1 == (regOf [b0, b1, b2, b3, b4, b5, b6, b7, b8, b9, b10, b11, b12, b13, b14, b15] i).1) && ((regOf [b0, b1, b2, b3, b4, b5, b6, b7, b8, b9, b10, b11, b12, b13, b14, b15] i).2 == (regOf [b0, b1, b2, b3, b4, b5, b6, b7, b8, b9, b10, b11, b12, b13, b14, b15] i).2))) = false by simp) ?_
        exact fin rfl (by intros; kernel_rfl)
      · refine node_reg2 [b0, b1, b2, b3, b4, b5, b6, b7, b8, b9, b10, b11, b12, b13, b14, b15] i ⟨[(regOf [b0, b1, b2, b3, b4, b5, b6, b7, b8, b9, b10, b11, b12, b13, b14, b15] i).1, (regOf [b0, b1, b2, b3, b4, b5, b6, b7, b8, b9, b10, b11, b12, b13, b14, b15] i).2], [], [], [], []⟩ hlb rfl (by intros; kernel_rfl) (by intros; kernel_rfl) (by intros; kernel_rfl) rfl oneNil ?_
        refine node_reg2 [c0, c1, c2, c3, c4, c5, c6, c7, c8, c9, c10, c11, c12, c13, c14, c15] i ⟨[(regOf [b0, b1, b2, b3, b4, b5, b6, b7, b8, b9, b10, b11, b12, b13, b14, b15] i).1, (regOf [b0, b1, b2, b3, b4, b5, b6, b7, b8, b9, b10, b11, b12, b13, b14, b15] i).2], [], [], [], []⟩ hlc rfl (by intros; kernel_rfl) (by intros; kernel_rfl) (by rw [he]; intros; kernel_rfl) rfl oneNil ?_
        refine br_f (show (!(((regOf [b0, b1, b2, b3, b4, b5, b6, b7, b8, b9, b10, b11, b12, b13, b14, b15] i).1 == (regOf [b0, b1, b2, b3, b4, b5, b6, b7, b8, b9, b10, b11, b12, b13, b14, b15] i).1) && ((regOf [b0, b1, b2, b3, b4, b5, b6, b7, b8, b9, b10, b11, b12, b13, b14, b15] i).2 == (regOf [b0, b1, b2, b3, b4, b5, b6, b7, b8, b9, b10, b11, b12, b13, b14, b15] i).2))) = false by simp) ?_
        exact fin rfl (by intros; kernel_rfl)
  refine br_f (show decide ((i : Int) < 8) = false from decide_eq_false (by omega)) ?_
  by_cases g1 : (ifn .and .i64 Kx 7) = oreg
  · exact br_t (show ((ifn .and .i64 Kx 7) == oreg) = true by simpa using g1) (pure_done fun _ => rfl)
  refine br_f (show ((ifn .and .i64 Kx 7) == oreg) = false by simpa using g1) ?_
  by_cases g2 : (ifn .and .i64 Kx 7) = otg
  · exact br_t (show ((ifn .and .i64 Kx 7) == otg) = true by simpa using g2) (pure_done fun _ => rfl)
  refine br_f (show ((ifn .and .i64 Kx 7) == otg) = false by simpa using g2) ?_
  have hap := hap (by omega) (by omega)
  have hJ : (0 : Int) ≤ (ifn .and .i64 Kx 7) ∧ (ifn .and .i64 Kx 7) < 8 := by omega
  have hKi : (ifn .and .i64 Kx 7) = (((ifn .and .i64 Kx 7).toNat : Nat) : Int) := by omega
  have hlb : 2 * (ifn .and .i64 Kx 7).toNat + 1 < ([b0, b1, b2, b3, b4, b5, b6, b7, b8, b9, b10, b11, b12, b13, b14, b15] : List Int).length := by simp only [List.length_cons, List.length_nil]; omega
  have hlc : 2 * (ifn .and .i64 Kx 7).toNat + 1 < ([c0, c1, c2, c3, c4, c5, c6, c7, c8, c9, c10, c11, c12, c13, c14, c15] : List Int).length := by simp only [List.length_cons, List.length_nil]; omega
  refine need_i hJ ?_
  obtain ⟨u0, u1, u2, u3, u4, u5, u6, u7, u8, u9, u10, u11, u12, u13, u14, u15, hu0⟩ := list16 (put2 [b0, b1, b2, b3, b4, b5, b6, b7, b8, b9, b10, b11, b12, b13, b14, b15] (ifn .and .i64 Kx 7).toNat (ifn .and .i64 Rx 1023, 1)) (by rw [put2_len]; rfl)
  refine node_put (n := 4) [b0, b1, b2, b3, b4, b5, b6, b7, b8, b9, b10, b11, b12, b13, b14, b15] [u0, u1, u2, u3, u4, u5, u6, u7, u8, u9, u10, u11, u12, u13, u14, u15] (ifn .and .i64 Kx 7).toNat (ifn .and .i64 Rx 1023, 1) ⟨[u0, u1, u2, u3, u4, u5, u6, u7, u8, u9, u10, u11, u12, u13, u14, u15], [], [], [], []⟩ hu0 hlb rfl (by intros; kernel_rfl) (by kernel_rfl) (by intros; kernel_rfl) (by intros; kernel_rfl) rfl (by intros; kernel_rfl) rfl rfl oneNil ?_
  rw [hu0] at hap
  obtain ⟨v0, v1, v2, v3, v4, v5, v6, v7, v8, v9, v10, v11, v12, v13, v14, v15, vr0, vr1, vr2, hvv⟩ := list_form [u0, u1, u2, u3, u4, u5, u6, u7, u8, u9, u10, u11, u12, u13, u14, u15] ⟨okind, oreg, otg, ore, oim⟩ rfl
  rw [hvv] at hap
  refine node_val (V := resV ([v0, v1, v2, v3, v4, v5, v6, v7, v8, v9, v10, v11, v12, v13, v14, v15], vr0, vr1, vr2)) ⟨[v0, v1, v2, v3, v4, v5, v6, v7, v8, v9, v10, v11, v12, v13, v14, v15, vr0, vr1, vr2], [], [], [], []⟩ (fun w => by rw [← hvv]; exact apply_any [u0, u1, u2, u3, u4, u5, u6, u7, u8, u9, u10, u11, u12, u13, u14, u15] rfl ⟨okind, oreg, otg, ore, oim⟩ w) (by intros; kernel_rfl) (by intros; kernel_rfl) rfl rfl rfl oneNil ?_
  obtain ⟨hap1, hap2⟩ := Prod.mk.inj hap
  have hlv : 2 * (ifn .and .i64 Kx 7).toNat + 1 < ([v0, v1, v2, v3, v4, v5, v6, v7, v8, v9, v10, v11, v12, v13, v14, v15] : List Int).length := by simp only [List.length_cons, List.length_nil]; omega
  have hback : put2 [v0, v1, v2, v3, v4, v5, v6, v7, v8, v9, v10, v11, v12, v13, v14, v15] (ifn .and .i64 Kx 7).toNat (regOf [c0, c1, c2, c3, c4, c5, c6, c7, c8, c9, c10, c11, c12, c13, c14, c15] (ifn .and .i64 Kx 7).toNat) = [c0, c1, c2, c3, c4, c5, c6, c7, c8, c9, c10, c11, c12, c13, c14, c15] := by rw [hap1, put2_put2]; exact put2_self hlc
  refine need_i hJ ?_
  refine node_reg2 [c0, c1, c2, c3, c4, c5, c6, c7, c8, c9, c10, c11, c12, c13, c14, c15] (ifn .and .i64 Kx 7).toNat ⟨[(regOf [c0, c1, c2, c3, c4, c5, c6, c7, c8, c9, c10, c11, c12, c13, c14, c15] (ifn .and .i64 Kx 7).toNat).1, (regOf [c0, c1, c2, c3, c4, c5, c6, c7, c8, c9, c10, c11, c12, c13, c14, c15] (ifn .and .i64 Kx 7).toNat).2], [], [], [], []⟩ hlc rfl hKi (by intros; kernel_rfl) (by intros; kernel_rfl) rfl oneNil ?_
  refine need_i hJ ?_
  refine node_put (n := 5) [v0, v1, v2, v3, v4, v5, v6, v7, v8, v9, v10, v11, v12, v13, v14, v15] [c0, c1, c2, c3, c4, c5, c6, c7, c8, c9, c10, c11, c12, c13, c14, c15] (ifn .and .i64 Kx 7).toNat (regOf [c0, c1, c2, c3, c4, c5, c6, c7, c8, c9, c10, c11, c12, c13, c14, c15] (ifn .and .i64 Kx 7).toNat) ⟨[c0, c1, c2, c3, c4, c5, c6, c7, c8, c9, c10, c11, c12, c13, c14, c15], [], [], [], []⟩ hback hlv rfl (by intros; kernel_rfl) (by kernel_rfl) (by intros; kernel_rfl) (by intros; kernel_rfl) rfl (by intros; kernel_rfl) rfl rfl oneNil ?_
  cases hap2
  refine br_t (show ((cr0 == cr0) && ((cr1 == cr1) && (cr2 == cr2))) = true by simp) ?_
  exact pure_done fun _ => congrArg Value.bool (Eq.trans (b := eqB [c0, c1, c2, c3, c4, c5, c6, c7, c8, c9, c10, c11, c12, c13, c14, c15] [c0, c1, c2, c3, c4, c5, c6, c7, c8, c9, c10, c11, c12, c13, c14, c15]) (by kernel_rfl) (eqB_self _))
theorem apart_args (a : Option Addr) (cap : Nat) (ds : List Dat) (y : Dat) (Kx Rx : Int) (w : World) (hC : Cells w a (Dat.cellsAll ds)) (hds : ∀ d ∈ ds, d.In Try.prog w 29) (hl : ds.length ≤ 9223372036854775807) (hb : ds.length * Try.prog.bytesOf 29 ≤ reachBytes) (h2 : y.In Try.prog w 29) (i1 : I64 Kx) (i2 : I64 Rx) :
    Calls Try.prog 5 #[.slice a ds.length cap, .agg y.cells.toArray, .int .i64 Kx, .int .i64 Rx] w fun e w' => e = .returned (.bool true) ∧ Below w.heap.size w w' := by
  obtain ⟨os, rfl, _⟩ := list_map_of OpD.dat (fun _ => True) ds (fun d hd => open_opd (hds d hd))
  obtain ⟨s, rfl, _⟩ := open_opd h2
  rw [List.length_map] at hl ⊢
  exact apart_walk a cap os s Kx Rx w hC hl
end Go.Proofs.Ytphfhfkfcileaaa
