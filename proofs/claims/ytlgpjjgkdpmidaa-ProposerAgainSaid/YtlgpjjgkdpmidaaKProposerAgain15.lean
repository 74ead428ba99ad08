/- Part 15 of the texts of a proof about the given program: what the statement's proof needs of them. -/
import Derived.Test.YtlgpjjgkdpmidaaRows
import Derived.Laws.Cover2
import Derived.Laws.ComplexArith
import Derived.Deep.DeepCutAuto
import Derived.KernelRfl
import Derived.Test.YtlgpjjgkdpmidaaKProposerAgain14
namespace Go.Syn
structure OpD where
  kind : Int
  reg : Int
  tg : Int
  re : Int
  im : Int
def OpD.cells (o : OpD) : List Value := [.int .i64 o.kind, .int .i64 o.reg, .int .i64 o.tg, .int .i64 o.re, .int .i64 o.im]
def fitB (re im : Int) : Bool := decide (-1048576 ≤ re ∧ re ≤ 1048576 ∧ -1048576 ≤ im ∧ im ≤ 1048576)
def numV (re im : Int) : Value := if fitB re im then .complex .f64 (floatOfInt .f64 re) (floatOfInt .f64 im) else .complex .f64 0 0
def inB (x lo hi : Int) : Bool := decide (lo ≤ x ∧ x ≤ hi)
def bareB (re im : Int) : Bool := decide (re = 0 ∧ im = 0)
def opB (o : OpD) : Bool :=
  inB o.reg 0 7 &&
  if o.kind = 1 then bareB o.re o.im && decide (o.tg = 0)
  else if o.kind = 2 ∨ o.kind = 3 ∨ o.kind = 4 then fitB o.re o.im && decide (o.tg = 0)
  else if o.kind = 5 then bareB o.re o.im && inB o.tg 0 3
  else if o.kind = 6 then bareB o.re o.im && inB o.tg 0 7
  else if o.kind = 7 then fitB o.re o.im && inB o.tg 0 7
  else false
end Go.Syn
namespace Go.Proofs.Ytlgpjjgkdpmidaa
open Go.ChangeShapes Go.WideShapes Go.ChangeAt Go.RowKit Go.Syn
set_option linter.unusedVariables false
set_option linter.unusedSimpArgs false

theorem within_any (x lo hi : Int) (w : World) : Calls Try.prog 82 #[.int .i64 x, .int .i64 lo, .int .i64 hi] w fun e w' => e = .returned (.bool (inB x lo hi)) ∧ w = w' := by
  have E := Lib.hid (show inB x lo hi = decide (lo ≤ x ∧ x ≤ hi) from rfl)
  go_enter Try.func82, Try.ntmps82
  go_wp2
  all_goals
    go_ret
    exact ⟨by rw [E.out]; exact ret_bool (by simp; try omega), rfl⟩

theorem of_any (re im : Int) (w : World) : Calls Try.prog 83 #[.int .i64 re, .int .i64 im] w fun e w' => e = .returned (.tuple #[numV re im, .bool (fitB re im)]) ∧ w = w' := by
  have E := Lib.hid (show fitB re im = decide (-1048576 ≤ re ∧ re ≤ 1048576 ∧ -1048576 ≤ im ∧ im ≤ 1048576) from rfl)
  by_cases h : -1048576 ≤ re ∧ re ≤ 1048576 ∧ -1048576 ≤ im ∧ im ≤ 1048576
  · have F1 := Lib.hid (show fitB re im = true by rw [E.out]; exact decide_eq_true h)
    have F2 := Lib.hid (show numV re im = .complex .f64 (floatOfInt .f64 re) (floatOfInt .f64 im) by unfold numV; rw [if_pos F1.out])
    rw [F1.out, F2.out]
    obtain ⟨h1, h2, h3, h4⟩ := h
    go_enter Try.func83, Try.ntmps83
    go_wp2
    all_goals first
      | (exfalso; omega)
      | exact bodyPost_ret (v := .tuple #[.complex .f64 (floatOfInt .f64 re) (floatOfInt .f64 im), .bool true]) (by simp [results, Try.results83, go_sem]) rfl ⟨rfl, rfl⟩
  · have F1 := Lib.hid (show fitB re im = false by rw [E.out]; exact decide_eq_false h)
    have F2 := Lib.hid (show numV re im = .complex .f64 0 0 by unfold numV; rw [if_neg (by rw [F1.out]; simp)])
    rw [F1.out, F2.out]
    go_enter Try.func83, Try.ntmps83
    go_wp2
    all_goals first
      | (exfalso; omega)
      | exact bodyPost_ret (v := .tuple #[.complex .f64 0 0, .bool false]) (by simp [results, Try.results83, go_sem]) rfl ⟨rfl, rfl⟩

set_option maxHeartbeats 2000000 in
theorem opCheck_any (o : OpD) (w : World) : Calls Try.prog 71 #[.agg o.cells.toArray] w fun e w' => e = .returned (.int .i64 (if opB o then 0 else 22)) ∧ Below w.heap.size w w' := by
  obtain ⟨kind, reg, tg, re, im⟩ := o
  have E := Lib.hid (show opB ⟨kind, reg, tg, re, im⟩ = (inB reg 0 7 && if kind = 1 then bareB re im && decide (tg = 0) else if kind = 2 ∨ kind = 3 ∨ kind = 4 then fitB re im && decide (tg = 0) else if kind = 5 then bareB re im && inB tg 0 3 else if kind = 6 then bareB re im && inB tg 0 7 else if kind = 7 then fitB re im && inB tg 0 7 else false) from rfl)
  have EB := Lib.hid (show bareB re im = decide (re = 0 ∧ im = 0) from rfl)
  simp only [OpD.cells]
  generalize opB ⟨kind, reg, tg, re, im⟩ = R at *
  have W := Lib.hid (fun x lo hi => within_any x lo hi)
  have kinds : kind = 1 ∨ kind = 2 ∨ kind = 3 ∨ kind = 4 ∨ kind = 5 ∨ kind = 6 ∨ kind = 7 ∨ (kind < 1 ∨ 7 < kind) := by omega
  by_cases h0 : re = 0 ∧ im = 0
  · obtain ⟨rfl, rfl⟩ := h0
    have B0 : bareB 0 0 = true := rfl
    rw [B0] at E
    clear B0 EB
    go_enter Try.func71, Try.ntmps71
    go_wp2_with fail
    refine (within_any _ _ _ _).mono ?_; rintro e w' ⟨rfl, rfl⟩
    go_wp2_with fail
    refine (of_any _ _ _).mono ?_; rintro e w' ⟨rfl, rfl⟩
    generalize inB reg 0 7 = r1 at *
    generalize fitB 0 0 = f at *
    generalize numV 0 0 = z at *
    rcases kinds with rfl | rfl | rfl | rfl | rfl | rfl | rfl | hk
    all_goals
      go_wp2_with (go_at_call 82; refine (within_any _ _ _ _).mono ?_; rintro e w' ⟨rfl, rfl⟩)
      all_goals first
        | (exfalso; omega)
        | (go_ret
           refine ⟨?_, by exact (by repeat (first | exact Below.refl _ _ | assumption | (refine Below.setCell ?_ (by first | omega | (simp; omega) | (simp; done)) _) | (refine below_drewN ?_ _) | (refine Below.drew ?_) | (refine Below.allocW ?_ _) | (refine Below.alloc ?_ (by first | omega | (simp; omega) | (simp; done)) _)))⟩
           have e := E.out
           first
             | (simp_all; done)
             | (simp_all; omega)
             | (rw [if_neg (by omega), if_neg (by omega), if_neg (by omega), if_neg (by omega), if_neg (by omega)] at e; simp_all)
             | go_show)
  · have B0 : bareB re im = false := by rw [EB.out]; exact decide_eq_false h0
    rw [B0] at E
    clear B0 EB
    by_cases hre : re = 0
    · subst hre
      have hi : (im == 0) = false := by simpa using h0
      clear h0
      go_enter Try.func71, Try.ntmps71
      go_wp2_with fail
      refine (within_any _ _ _ _).mono ?_; rintro e w' ⟨rfl, rfl⟩
      go_wp2_with fail
      refine (of_any _ _ _).mono ?_; rintro e w' ⟨rfl, rfl⟩
      generalize inB reg 0 7 = r1 at *
      generalize fitB 0 im = f at *
      generalize numV 0 im = z at *
      rcases kinds with rfl | rfl | rfl | rfl | rfl | rfl | rfl | hk
      all_goals
        go_wp2_with (go_at_call 82; refine (within_any _ _ _ _).mono ?_; rintro e w' ⟨rfl, rfl⟩)
        all_goals first
          | (exfalso; omega)
          | (go_ret
             refine ⟨?_, by exact (by repeat (first | exact Below.refl _ _ | assumption | (refine Below.setCell ?_ (by first | omega | (simp; omega) | (simp; done)) _) | (refine below_drewN ?_ _) | (refine Below.drew ?_) | (refine Below.allocW ?_ _) | (refine Below.alloc ?_ (by first | omega | (simp; omega) | (simp; done)) _)))⟩
             have e := E.out
             first
               | (simp_all; done)
               | (simp_all; omega)
               | (rw [if_neg (by omega), if_neg (by omega), if_neg (by omega), if_neg (by omega), if_neg (by omega)] at e; simp_all)
               | go_show)
    · have hi : (re == 0) = false := by simpa using hre
      clear h0
      go_enter Try.func71, Try.ntmps71
      go_wp2_with fail
      refine (within_any _ _ _ _).mono ?_; rintro e w' ⟨rfl, rfl⟩
      go_wp2_with fail
      refine (of_any _ _ _).mono ?_; rintro e w' ⟨rfl, rfl⟩
      generalize inB reg 0 7 = r1 at *
      generalize fitB re im = f at *
      generalize numV re im = z at *
      rcases kinds with rfl | rfl | rfl | rfl | rfl | rfl | rfl | hk
      all_goals
        go_wp2_with (go_at_call 82; refine (within_any _ _ _ _).mono ?_; rintro e w' ⟨rfl, rfl⟩)
        all_goals first
          | (exfalso; omega)
          | (go_ret
             refine ⟨?_, by exact (by repeat (first | exact Below.refl _ _ | assumption | (refine Below.setCell ?_ (by first | omega | (simp; omega) | (simp; done)) _) | (refine below_drewN ?_ _) | (refine Below.drew ?_) | (refine Below.allocW ?_ _) | (refine Below.alloc ?_ (by first | omega | (simp; omega) | (simp; done)) _)))⟩
             have e := E.out
             first
               | (simp_all; done)
               | (simp_all; omega)
               | (rw [if_neg (by omega), if_neg (by omega), if_neg (by omega), if_neg (by omega), if_neg (by omega)] at e; simp_all)
               | go_show)
end Go.Proofs.Ytlgpjjgkdpmidaa

namespace Go.Proofs.Ytlgpjjgkdpmidaa
open Go.ChangeShapes Go.WideShapes Go.ChangeAt Go.RowKit Go.Syn Go.Eng
set_option linter.unusedVariables false
set_option linter.unusedSimpArgs false
end Go.Proofs.Ytlgpjjgkdpmidaa

namespace Go.Syn
structure CmD where
  sess : Int
  seq : Int
  ack : Int
  op : OpD
def CmD.is (c : CmD) : List Int := [c.sess, c.seq, c.ack, c.op.kind, c.op.reg, c.op.tg, c.op.re, c.op.im]
def CmD.cells (c : CmD) : List Value := [.int .i64 c.sess, .int .i64 c.seq, .int .i64 c.ack, .int .i64 c.op.kind, .int .i64 c.op.reg, .int .i64 c.op.tg, .int .i64 c.op.re, .int .i64 c.op.im]
def cmdV (c : CmD) : Int := if c.sess < 1 ∨ 1073741824 < c.sess ∨ c.seq < 1 ∨ 1099511627776 < c.seq ∨ c.ack < 0 ∨ c.seq ≤ c.ack then 23 else if opB c.op then 0 else 22
def ccells (cs : List CmD) : List Value := cs.flatMap CmD.cells
def firstE : List CmD → Int
  | [] => 0
  | c :: r => if cmdV c ≠ 0 then cmdV c else firstE r
structure Vl where
  k : Int
  cs : List CmD
  ns : List Int
def valE (v : Vl) : Int :=
  if v.k = 0 then (if v.cs ≠ [] ∨ v.ns ≠ [] then 25 else 0)
  else if v.k = 2 then (if v.cs ≠ [] then 25 else checkV v.ns)
  else if v.k = 1 then (if v.cs = [] ∨ 8 < v.cs.length ∨ v.ns ≠ [] then 25 else firstE v.cs) else 25
end Go.Syn
namespace Go.Proofs.Ytlgpjjgkdpmidaa
open Go.ChangeShapes Go.WideShapes Go.ChangeAt Go.RowKit Go.Syn Go.Eng
set_option linter.unusedVariables false
set_option linter.unusedSimpArgs false
set_option maxRecDepth 100000
def vlV (v : Vl) (a1 : Option Addr) (c1 : Nat) (a2 : Option Addr) (c2 : Nat) : Value := .agg #[.int .i64 v.k, .slice a1 v.cs.length c1, .slice a2 v.ns.length c2]
structure VlAt (w : World) (v : Vl) (a1 a2 : Option Addr) : Prop where
  c : Cells w a1 (ccells v.cs)
  n : Ints w a2 v.ns
  l1 : v.cs.length ≤ 2199023255552
  l2 : v.ns.length ≤ 17592186044416
theorem ccells_len : ∀ (cs : List CmD), (ccells cs).length = cs.length * 8
  | [] => rfl
  | v :: r => by
    show (CmD.cells v ++ ccells r).length = _
    rw [List.length_append, ccells_len r, List.length_cons]
    show 8 + _ = _; omega
theorem ccells_get : ∀ {vs : List CmD} {i : Nat} {v : CmD}, vs[i]? = some v → ∀ j u, v.cells[j]? = some u → (ccells vs)[i * 8 + j]? = some u
  | q :: r, 0, p, h, j, u, hu => by
    simp only [List.getElem?_cons_zero, Option.some.injEq] at h
    subst h
    show (CmD.cells q ++ ccells r)[0 * 8 + j]? = _
    have hj : j < q.cells.length := by
      rcases Nat.lt_or_ge j q.cells.length with g | g
      · exact g
      · rw [List.getElem?_eq_none g] at hu; cases hu
    rw [Nat.zero_mul, Nat.zero_add, List.getElem?_append_left hj]; exact hu
  | q :: r, i + 1, p, h, j, u, hu => by
    have := ccells_get (vs := r) (i := i) (by simpa using h) j u hu
    show (CmD.cells q ++ ccells r)[(i + 1) * 8 + j]? = _
    rw [List.getElem?_append_right (by show 8 ≤ _; omega)]
    rw [← this]
    congr 1
    show (i + 1) * 8 + j - 8 = _
    omega
theorem c_elt {w : World} {a : Option Addr} {cs : List CmD} (h : Cells w a (ccells cs)) {i : Nat} {c : CmD} (hi : cs[i]? = some c) :
    a.isSome = true ∧ ∀ (N : Nat → Prop), ¬ N ((a.getD ⟨0, 0, none⟩).block) → CellsAt w (.pointer (some (((a.getD ⟨0, 0, none⟩).add (i * 8)).add 0))) c.cells N :=
  cl_elt h c.cells (fun j u hj => ccells_get hi j u hj) (by simp [CmD.cells])
theorem cmd_any (c : CmD) (w : World) : Calls Try.prog 66 #[.agg c.cells.toArray] w (PureAt w (.int .i64 (cmdV c))) := by
  obtain ⟨x0, x1, x2, o⟩ := c
  refine calls_at (tab_ok _) Try.func66 rfl tCmd (ρ := ⟨[x0, x1, x2, o.kind, o.reg, o.tg, o.re, o.im], [], [], [], []⟩) (ids := []) rfl (Facts.initP rfl oneNil) ?_
  have bad : ∀ {m : Mem} {ρ : Env} {pre : List Nat} {hx : HX} {L : Stack}, (x0 < 1 ∨ 1073741824 < x0 ∨ x1 < 1 ∨ 1099511627776 < x1 ∨ x2 < 0 ∨ x1 ≤ x2) → (Tree.done (.lf (.int .i64 (.lit 23))) m).holds ⟨Try.prog, w, fun _ => False, PureAt w (.int .i64 (cmdV ⟨x0, x1, x2, o⟩))⟩ ρ pre hx L := fun h => pure_done fun _ => by
    unfold cmdV; dsimp only; rw [if_pos h]; rfl
  refine br_i (fun h => bad (.inl (of_decide_eq_true (show decide (x0 < 1) = true from h)))) (fun h1 => ?_)
  refine br_i (fun h => bad (.inr (.inl (of_decide_eq_true (show decide (x0 > 1073741824) = true from h))))) (fun h2 => ?_)
  refine br_i (fun h => bad (.inr (.inr (.inl (of_decide_eq_true (show decide (x1 < 1) = true from h)))))) (fun h3 => ?_)
  refine br_i (fun h => bad (.inr (.inr (.inr (.inl (of_decide_eq_true (show decide (x1 > 1099511627776) = true from h))))))) (fun h4 => ?_)
  refine br_i (fun h => bad (.inr (.inr (.inr (.inr (.inl (of_decide_eq_true (show decide (x2 < 0) = true from h)))))))) (fun h5 => ?_)
  refine br_i (fun h => bad (.inr (.inr (.inr (.inr (.inr (of_decide_eq_true (show decide (x2 ≥ x1) = true from h)))))))) (fun h6 => ?_)
  have h1 := of_decide_eq_false (show decide (x0 < 1) = false from h1)
  have h2 := of_decide_eq_false (show decide (x0 > 1073741824) = false from h2)
  have h3 := of_decide_eq_false (show decide (x1 < 1) = false from h3)
  have h4 := of_decide_eq_false (show decide (x1 > 1099511627776) = false from h4)
  have h5 := of_decide_eq_false (show decide (x2 < 0) = false from h5)
  have h6 := of_decide_eq_false (show decide (x2 ≥ x1) = false from h6)
  refine node_val ⟨[if opB o then 0 else 22], [], [], [], []⟩ (fun w => opCheck_any o w) (fun _ => rfl) (fun _ => rfl) rfl rfl rfl oneNil (pure_done fun _ => ?_)
  have hne : ¬ (x0 < 1 ∨ 1073741824 < x0 ∨ x1 < 1 ∨ 1099511627776 < x1 ∨ x2 < 0 ∨ x1 ≤ x2) := by omega
  unfold cmdV; dsimp only; rw [if_neg hne]; rfl
theorem firstE_drop {cs : List CmD} {k : Nat} {c : CmD} (h : cs[k]? = some c) : firstE (cs.drop k) = if cmdV c ≠ 0 then cmdV c else firstE (cs.drop (k + 1)) := by
  have hlt : k < cs.length := by
    rcases Nat.lt_or_ge k cs.length with q | q
    · exact q
    · rw [List.getElem?_eq_none q] at h; cases h
  rw [List.drop_eq_getElem_cons hlt]
  rw [List.getElem?_eq_getElem hlt] at h
  rw [Option.some.inj h]; rfl
def ChI (v : Vl) (vs : Vals) (hx : HX) : Prop := ∃ k : Nat, k ≤ v.cs.length ∧ firstE (v.cs.drop k) = firstE v.cs ∧ vs = ⟨[(k : Int)], [], [], [], []⟩ ∧ hx = HX.nil
section
variable {w : World} {ρ : Env} {pre : List Nat} {m m' : Mem} {t : Tree} {R : Ending → World → Prop}
end
theorem len_pos {α : Type} {l : List α} : decide ((l.length : Int) > 0) = decide (l ≠ []) := by
  cases l with
  | nil => rfl
  | cons a r => simp
theorem vchk_any (v : Vl) (a1 : Option Addr) (c1 : Nat) (a2 : Option Addr) (c2 : Nat) (w : World) (H : VlAt w v a1 a2) : Calls Try.prog 47 #[vlV v a1 c1 a2 c2] w (PureAt w (.int .i64 (valE v))) := by
  have hl1 := H.l1
  refine calls_at (tab_ok _) Try.func47 rfl tChk (ρ := ⟨[v.k], [], [], [v.cs.length, c1, v.ns.length, c2], [a1, a2]⟩) (ids := []) rfl (Facts.initP rfl oneNil) ?_
  by_cases k0 : v.k = 0
  · refine br_t (show (v.k == 0) = true by simpa using k0) ?_
    by_cases h1 : v.cs = []
    · refine br_f (show decide ((v.cs.length : Int) > 0) = false by rw [len_pos]; simpa using h1) ?_
      by_cases h2 : v.ns = []
      · refine br_f (show decide ((v.ns.length : Int) > 0) = false by rw [len_pos]; simpa using h2) (pure_done fun _ => ?_)
        unfold valE; rw [if_pos k0, if_neg (by simp [h1, h2])]; rfl
      · refine br_t (show decide ((v.ns.length : Int) > 0) = true by rw [len_pos]; simpa using h2) (pure_done fun _ => ?_)
        unfold valE; rw [if_pos k0, if_pos (.inr h2)]; rfl
    · refine br_t (show decide ((v.cs.length : Int) > 0) = true by rw [len_pos]; simpa using h1) (pure_done fun _ => ?_)
      unfold valE; rw [if_pos k0, if_pos (.inl h1)]; rfl
  refine br_f (show (v.k == 0) = false by simpa using k0) ?_
  by_cases k2 : v.k = 2
  · refine br_t (show (v.k == 2) = true by simpa using k2) ?_
    by_cases h1 : v.cs = []
    · refine br_f (show decide ((v.cs.length : Int) > 0) = false by rw [len_pos]; simpa using h1) ?_
      refine node_pure ⟨[checkV v.ns], [], [], [], []⟩ rfl rfl rfl oneNil (fun ids w2 hp hf => ?_) (pure_done fun _ => ?_)
      · exact (check_any a2 c2 v.ns w2 (H.n.ext hf.chg.below)).mono fun e w' h => ⟨h.1, by rw [← h.2]; exact Below.refl _ _⟩
      · unfold valE; rw [if_neg k0, if_pos k2, if_neg (by simpa using h1)]; rfl
    · refine br_t (show decide ((v.cs.length : Int) > 0) = true by rw [len_pos]; simpa using h1) (pure_done fun _ => ?_)
      unfold valE; rw [if_neg k0, if_pos k2, if_pos h1]; rfl
  refine br_f (show (v.k == 2) = false by simpa using k2) ?_
  by_cases k1 : v.k = 1
  · refine br_t (show (v.k == 1) = true by simpa using k1) ?_
    have val : ∀ (b : Prop), (v.cs = [] ∨ 8 < v.cs.length ∨ v.ns ≠ []) → valE v = 25 := fun _ h => by unfold valE; rw [if_neg k0, if_neg k2, if_pos k1, if_pos h]
    by_cases h1 : v.cs = []
    · refine br_t (show decide ((v.cs.length : Int) < 1) = true by rw [h1]; rfl) (pure_done fun _ => ?_)
      rw [val True (.inl h1)]; rfl
    refine br_f (show decide ((v.cs.length : Int) < 1) = false from decide_eq_false (by have := List.length_pos_iff.2 h1; omega)) ?_
    by_cases h2 : 8 < v.cs.length
    · refine br_t (show decide ((v.cs.length : Int) > 8) = true from decide_eq_true (by omega)) (pure_done fun _ => ?_)
      rw [val True (.inr (.inl h2))]; rfl
    refine br_f (show decide ((v.cs.length : Int) > 8) = false from decide_eq_false (by omega)) ?_
    by_cases h3 : v.ns = []
    · refine br_f (show decide ((v.ns.length : Int) > 0) = false by rw [len_pos]; simpa using h3) ?_
      have hE : valE v = firstE v.cs := by unfold valE; rw [if_neg k0, if_neg k2, if_pos k1, if_neg (by simp [h1, h3]; omega)]
      rw [hE]
      refine loop_i (ChI v) (fun vs => v.cs.length - (vs.i.headD 0).toNat) (fun ids w2 hp hf => ⟨HX.nil, HXok.none _ _, 0, by omega, rfl, rfl, rfl⟩) ?_
      rintro vs hx' hcnt ⟨k, hk1, he, rfl, rfl⟩
      by_cases hk : k < v.cs.length
      · refine br_t (show decide ((k : Int) < (v.cs.length : Int)) = true from decide_eq_true (by omega)) ?_
        obtain ⟨c, hc⟩ : ∃ b, v.cs[k]? = some b := ⟨_, List.getElem?_eq_getElem hk⟩
        obtain ⟨s1, c1⟩ := c_elt H.c hc
        refine need_i ⟨s1, (show (0 : Int) ≤ k by omega), (show (k : Int) < v.cs.length by omega)⟩ ?_
        refine ⟨⟨c.is, [], [], [], []⟩, fun ids => c1 _ (fun q => q), ⟨rfl, oneNil⟩, ?_⟩
        refine node_val ⟨[cmdV c], [], [], [], []⟩ (fun w => cmd_any c w) (fun _ => rfl) (fun _ => rfl) rfl rfl rfl oneNil ?_
        have hfe := firstE_drop hc
        rw [he] at hfe
        by_cases hz : cmdV c = 0
        · refine br_f (show (cmdV c != 0) = false by simpa using hz) ?_
          rw [if_neg (by simpa using hz)] at hfe
          have hwk : IntKind.i64.wrap ((k : Int) + 1) = ((k + 1 : Nat) : Int) := by rw [wrap_i64 (by omega)]; omega
          intro ids w2 hp hf
          refine ⟨HX.nil, HXok.none _ _, _, rfl, ⟨k + 1, by omega, hfe.symm, by rw [← hwk]; rfl, rfl⟩, ?_⟩
          show v.cs.length - (IntKind.i64.wrap ((k : Int) + 1)).toNat < v.cs.length - ((k : Int)).toNat
          rw [hwk]; omega
        · refine br_t (show (cmdV c != 0) = true by simpa using hz) (pure_done fun _ => ?_)
          rw [if_pos hz] at hfe
          rw [hfe]; rfl
      · refine br_f (show decide ((k : Int) < (v.cs.length : Int)) = false from decide_eq_false (by omega)) (pure_done fun _ => ?_)
        rw [← he, List.drop_of_length_le (by omega)]; rfl
    · refine br_t (show decide ((v.ns.length : Int) > 0) = true by rw [len_pos]; simpa using h3) (pure_done fun _ => ?_)
      rw [val True (.inr (.inr h3))]; rfl
  refine br_f (show (v.k == 1) = false by simpa using k1) (pure_done fun _ => ?_)
  unfold valE; rw [if_neg k0, if_neg k2, if_neg k1]; rfl
end Go.Proofs.Ytlgpjjgkdpmidaa

namespace Go.Proofs.Ytlgpjjgkdpmidaa
open Go.ChangeShapes Go.WideShapes Go.ChangeAt Go.RowKit Go.Syn Go.Eng
set_option linter.unusedVariables false
set_option linter.unusedSimpArgs false
set_option maxRecDepth 100000
theorem ints_at {w : World} {a : Option Addr} {xs : List Int} (h : Ints w a xs) {i : Nat} {x : Int} (hi : xs[i]? = some x) : a.isSome = true ∧ ∀ (N : Nat → Prop), ¬ N ((a.getD ⟨0, 0, none⟩).block) → CellsAt w (.pointer (some (((a.getD ⟨0, 0, none⟩).add (i * 1)).add 0))) [.int .i64 x] N := ints_elt h hi
open Classical in
theorem ccells_ne {cs : List CmD} (h : cs ≠ []) : ccells cs ≠ [] := fun q => by
  cases cs with
  | nil => exact h rfl
  | cons c r => simp [ccells, CmD.cells] at q
theorem info_cmd : (Try.prog.info? 36).map (fun i => (i.zero, i.size, i.bytes)) = some (some (.agg #[.int .i64 0, .int .i64 0, .int .i64 0, .int .i64 0, .int .i64 0, .int .i64 0, .int .i64 0, .int .i64 0]), 8, 64) := by kernel_rfl
theorem info_int1 : (Try.prog.info? 3).map (fun i => (i.zero, i.size, i.bytes)) = some (some (.int .i64 0), 1, 8) := by kernel_rfl
theorem cmd_one (c : CmD) : ∀ v ∈ c.cells, v.oneCell' = true := fun v hv => by
  simp only [CmD.cells, List.mem_cons, List.not_mem_nil, or_false] at hv
  rcases hv with rfl | rfl | rfl | rfl | rfl | rfl | rfl | rfl <;> rfl
theorem rw_ltx {sz e n cap : Nat} {a : Option Addr} {xs : List Value} {w : World} (h : (HX.rw sz e a n cap xs).X w) {k : Nat} (h1 : cap ≠ 0) (h2 : abk a = some k) : k < w.heap.size := by
  obtain ⟨g, _, rfl, q, _⟩ := rw_open h h1
  cases h2; exact q
def vlX (v : Vl) (a1 a2 : Option Addr) : HX := (HX.cl a1 (ccells v.cs)).and (HX.cl a2 (v.ns.map (Value.int .i64)))
structure VlFit (v : Vl) : Prop where
  n : ∀ n ∈ v.ns, I64 n
  l1 : v.cs.length ≤ 2199023255552
  l2 : v.ns.length ≤ 17592186044416
theorem VlFit.at_ {v : Vl} (h : VlFit v) {a1 a2 : Option Addr} {w : World} (hX : (vlX v a1 a2).X w) : VlAt w v a1 a2 := ⟨hX.1, Ints.of_cells (by have := h.l2; omega) h.n hX.2, h.l1, h.l2⟩
theorem VlAt.X {v : Vl} {a1 a2 : Option Addr} {w : World} (H : VlAt w v a1 a2) : (vlX v a1 a2).X w := ⟨H.c, H.n.cells⟩
theorem VlAt.fit {v : Vl} {a1 a2 : Option Addr} {w : World} (H : VlAt w v a1 a2) : VlFit v := ⟨H.n.fits, H.l1, H.l2⟩
theorem vlX_sep {v : Vl} {a1 a2 : Option Addr} {w : World} (h : (vlX v a1 a2).X w) : ∀ k, (vlX v a1 a2).F k → k < w.heap.size := fun k hk => hk.elim (cl_sep h.1 k) (cl_sep h.2 k)
def VlNew (w : World) (V : Value → Value) (v : Vl) (e : Ending) (w' : World) : Prop := ∃ a1 c1 a2 c2, e = .returned (V (vlV v a1 c1 a2 c2)) ∧ (vlX v a1 a2).X w' ∧ (∀ k, (vlX v a1 a2).F k → w.heap.size ≤ k) ∧ Below w.heap.size w w'
section
variable {C : Cfg} {ρ : Env} {pre : List Nat} {hx : HX} {L : Stack} {m m' : Mem} {args : List SV} {r : SV} {t : Tree}
theorem node_vl {f : Nat} {V : Value → Value} {v : Vl} (AS : List Nat → Array Value) (vs : Option Addr → Nat → Option Addr → Nat → Vals) (hargs : ∀ ids, (args.map (SV.den ρ ids)).toArray = AS ids) (hcall : ∀ ids w, pre <+: ids → Facts C m ρ ids hx w → Calls C.P f (AS ids) w (VlNew w V v))
    (hr : ∀ a1 c1 a2 c2 ids, r.den (ρ.add (vs a1 c1 a2 c2)) ids = V (vlV v a1 c1 a2 c2)) (hhp : m'.hp = m.hp) (hfit : hpFits m.c m.hp.length m.hp = true) (hc : ∀ a1 c1 a2 c2, (ρ.add (vs a1 c1 a2 c2)).cnt = m'.c) (h1 : ∀ a1 c1 a2 c2 v, v ∈ (vs a1 c1 a2 c2).v → v.oneCell' = true)
    (h : ∀ a1 c1 a2 c2, (∀ k, (vlX v a1 a2).F k → C.W.heap.size ≤ k ∧ ¬ hx.F k) → t.holds C (ρ.add (vs a1 c1 a2 c2)) pre (hx.and (vlX v a1 a2)) L) : (Tree.call f args m r m' t).holds C ρ pre hx L := by
  refine node_out AS (fun u hy => ∃ a1 c1 a2 c2, u = vs a1 c1 a2 c2 ∧ hy = vlX v a1 a2) hargs (fun ids w hp hf => ?_) hhp hfit ?_ ?_
  · refine (hcall ids w hp hf).mono ?_
    rintro e w' ⟨a1, c1, a2, c2, rfl, hX, hge, hb⟩
    exact ⟨_, _, ⟨a1, c1, a2, c2, rfl, rfl⟩, by rw [hr], hX, fun k hk => ⟨hge k hk, vlX_sep hX k hk⟩, hb⟩
  · rintro u hy ⟨a1, c1, a2, c2, rfl, rfl⟩
    exact ⟨hc _ _ _ _, h1 _ _ _ _⟩
  · rintro u hy ⟨a1, c1, a2, c2, rfl, rfl⟩ hfr
    exact h a1 c1 a2 c2 hfr
end
theorem ccells_one (cs : List CmD) : ∀ v ∈ ccells cs, v.oneCell' = true := fun v hv => by
  obtain ⟨c, _, h⟩ := List.mem_flatMap.1 hv
  exact cmd_one c v h
theorem rw_fresh {b : Option Addr} {n d sz e : Nat} {cs : List Value} {w : World} {N : Nat} (hx : (HX.rw sz e b n d cs).X w) (hk : ∀ k, d ≠ 0 → abk b = some k → N ≤ k) : ∀ k, (HX.cl b cs).F k → N ≤ k := by
  rintro k ⟨hne, rfl⟩
  have hc : d ≠ 0 := fun q => by
    rcases hx with ⟨_, _, h3⟩ | ⟨h3, _⟩
    · exact hne h3
    · exact h3 q
  obtain ⟨g, _, rfl, _⟩ := rw_open hx hc
  exact hk g hc rfl
def ClNew (w : World) (n : Nat) (xs : List Value) (e : Ending) (w' : World) : Prop := ∃ a' c', e = .returned (.slice a' n c') ∧ (HX.cl a' xs).X w' ∧ (∀ k, (HX.cl a' xs).F k → w.heap.size ≤ k) ∧ Below w.heap.size w w'
theorem none_nil {w : World} {xs : List Value} (h : Cells w none xs) : xs = [] := by
  cases xs with
  | nil => rfl
  | cons x r => exact absurd (h (by simp)).1 (by simp [PlainA])
set_option maxRecDepth 100000 in
theorem tSCloneC : (runF ⟨tt, fns, { }⟩ (Try.f63.body.getD .skip) Try.f63.results.toList (entry Try.f63.ntmps [.lf (.sl 0 (.var 0) (.var 1))] [] ⟨0, 0, 0, 2, 1⟩)) =
  (.br (.anone 0) (.done (.lf .nilsl) ⟨[], ⟨0, 0, 0, 2, 1⟩⟩) (.gen (.call ⟨(.builtin .append), #[(.tmp 5), (.tmp 6)], #[29, 29]⟩) 29 [(5, (.lf (.nsl 0 0 0 0))), (6, (.lf (tSl 0 0 1)))] ⟨[(36, [])], ⟨0, 0, 0, 2, 1⟩⟩ (.some (.lf (tSl 1 2 3))) ⟨[(36, [])], ⟨0, 0, 0, 4, 2⟩⟩ (.done (.lf (tSl 1 2 3)) ⟨[(36, [])], ⟨0, 0, 0, 4, 2⟩⟩))) := by kernel_rfl
theorem scloneC_any (a : Option Addr) (cap : Nat) (cs : List CmD) (w : World) (H : Cells w a (ccells cs)) (hl : cs.length ≤ 2199023255552) : Calls Try.prog 63 #[.slice a cs.length cap] w (ClNew w cs.length (ccells cs)) := by
  refine calls_at (tab_ok _) Try.func63 rfl tSCloneC (ρ := ⟨[], [], [], [cs.length, cap], [a]⟩) (ids := []) (hx := HX.cl a (ccells cs)) rfl (Facts.initq rfl oneNil H (cl_sep H)) ?_
  by_cases h : a.isNone = true
  · refine br_t h ?_
    obtain rfl : a = none := by simpa using h
    have e := none_nil H
    have e2 : cs = [] := Classical.byContradiction fun q => ccells_ne q e
    subst e2
    intro ids w2 hp hf
    exact ⟨none, 0, rfl, fun h => by simp [ccells] at h, fun k hk => absurd rfl hk.1, hf.chg.below⟩
  · refine br_f (show a.isNone = false by cases a with | none => exact absurd rfl h | some x => rfl) ?_
    refine node_clones (sz := 8) (xs := ccells cs) rfl Try.underlying29 info_cmd rfl (by decide) 0 rfl (fun _ => a) cs.length cap (ccells_len _) (fun ids w2 hp hf => hf.x) (ccells_one cs) (by unfold maxLen; omega) (by omega) (fun _ => rfl) (fun _ => rfl) (fun _ _ _ => rfl) rfl rfl (fun _ _ => rfl) ?_
    intro a' c' hfr ids w2 hp hf
    exact ⟨a', c', rfl, rw_cells hf.x.2, rw_fresh hf.x.2 (fun k h1 h2 => (hfr k h1 h2).1), hf.chg.below⟩
set_option maxRecDepth 100000 in
theorem tSCloneN : (runF ⟨tt, fns, { }⟩ (Try.f64.body.getD .skip) Try.f64.results.toList (entry Try.f64.ntmps [.lf (.sl 0 (.var 0) (.var 1))] [] ⟨0, 0, 0, 2, 1⟩)) =
  (.br (.anone 0) (.done (.lf .nilsl) ⟨[], ⟨0, 0, 0, 2, 1⟩⟩) (.gen (.call ⟨(.builtin .append), #[(.tmp 5), (.tmp 6)], #[26, 26]⟩) 26 [(5, (.lf (.nsl 0 0 0 0))), (6, (.lf (tSl 0 0 1)))] ⟨[(3, [])], ⟨0, 0, 0, 2, 1⟩⟩ (.some (.lf (tSl 1 2 3))) ⟨[(3, [])], ⟨0, 0, 0, 4, 2⟩⟩ (.done (.lf (tSl 1 2 3)) ⟨[(3, [])], ⟨0, 0, 0, 4, 2⟩⟩))) := by kernel_rfl
theorem scloneN_any (a : Option Addr) (cap : Nat) (ns : List Int) (w : World) (H : Cells w a (ns.map (Value.int .i64))) (hl : ns.length ≤ 17592186044416) : Calls Try.prog 64 #[.slice a ns.length cap] w (ClNew w ns.length (ns.map (Value.int .i64))) := by
  refine calls_at (tab_ok _) Try.func64 rfl tSCloneN (ρ := ⟨[], [], [], [ns.length, cap], [a]⟩) (ids := []) (hx := HX.cl a (ns.map (Value.int .i64))) rfl (Facts.initq rfl oneNil H (cl_sep H)) ?_
  by_cases h : a.isNone = true
  · refine br_t h ?_
    obtain rfl : a = none := by simpa using h
    have e := none_nil H
    have e2 : ns = [] := by simpa using e
    subst e2
    intro ids w2 hp hf
    exact ⟨none, 0, rfl, fun h => by simp at h, fun k hk => absurd rfl hk.1, hf.chg.below⟩
  · refine br_f (show a.isNone = false by cases a with | none => exact absurd rfl h | some x => rfl) ?_
    refine node_clones (sz := 1) (xs := ns.map (Value.int .i64)) rfl Try.underlying26 info_int1 rfl (by decide) 0 rfl (fun _ => a) ns.length cap (by rw [List.length_map, Nat.mul_one]) (fun ids w2 hp hf => hf.x) (fun x hx => by obtain ⟨n, _, rfl⟩ := List.mem_map.1 hx; rfl) (by unfold maxLen; omega) (by omega) (fun _ => rfl) (fun _ => rfl) (fun _ _ _ => rfl) rfl rfl (fun _ _ => rfl) ?_
    intro a' c' hfr ids w2 hp hf
    exact ⟨a', c', rfl, rw_cells hf.x.2, rw_fresh hf.x.2 (fun k h1 h2 => (hfr k h1 h2).1), hf.chg.below⟩
section
variable {C : Cfg} {ρ : Env} {pre : List Nat} {hx : HX} {L : Stack} {m m' : Mem} {args : List SV} {r : SV} {t : Tree}
theorem node_cl {f : Nat} {n : Nat} {xs : List Value} (AS : List Nat → Array Value) (vs : Option Addr → Nat → Vals) (hargs : ∀ ids, (args.map (SV.den ρ ids)).toArray = AS ids) (hcall : ∀ ids w, pre <+: ids → Facts C m ρ ids hx w → Calls C.P f (AS ids) w (ClNew w n xs))
    (hr : ∀ a' c' ids, r.den (ρ.add (vs a' c')) ids = .slice a' n c') (hhp : m'.hp = m.hp) (hfit : hpFits m.c m.hp.length m.hp = true) (hc : ∀ a' c', (ρ.add (vs a' c')).cnt = m'.c) (h1 : ∀ a' c' v, v ∈ (vs a' c').v → v.oneCell' = true)
    (h : ∀ a' c', (∀ k, (HX.cl a' xs).F k → C.W.heap.size ≤ k ∧ ¬ hx.F k) → t.holds C (ρ.add (vs a' c')) pre (hx.and (HX.cl a' xs)) L) : (Tree.call f args m r m' t).holds C ρ pre hx L := by
  refine node_out AS (fun u hy => ∃ a' c', u = vs a' c' ∧ hy = HX.cl a' xs) hargs (fun ids w hp hf => ?_) hhp hfit ?_ ?_
  · refine (hcall ids w hp hf).mono ?_
    rintro e w' ⟨a', c', rfl, hX, hge, hb⟩
    exact ⟨_, _, ⟨a', c', rfl, rfl⟩, by rw [hr], hX, fun k hk => ⟨hge k hk, cl_sep hX k hk⟩, hb⟩
  · rintro u hy ⟨a', c', rfl, rfl⟩
    exact ⟨hc _ _, h1 _ _⟩
  · rintro u hy ⟨a', c', rfl, rfl⟩ hfr
    exact h a' c' hfr
end
abbrev tVClonem0 : Mem := ⟨[(31, [(tVi 0), (tSl 2 4 5), (tSl 3 6 7)]), (31, [(tVi 0), (tSl 2 4 5), (tSl 3 6 7)])], ⟨1, 0, 0, 8, 4⟩⟩
abbrev tVClonem1 : Mem := ⟨[(31, [(tVi 0), (tSl 0 0 1), (tSl 1 2 3)]), (31, [(tLi 0), .nilsl, .nilsl])], ⟨1, 0, 0, 4, 2⟩⟩
abbrev tVClonem2 : Mem := ⟨[(31, [(tVi 0), (tSl 0 0 1), (tSl 1 2 3)]), (31, [(tLi 0), .nilsl, .nilsl])], ⟨1, 0, 0, 6, 3⟩⟩
abbrev tVClonem3 : Mem := ⟨[(31, [(tVi 0), (tSl 0 0 1), (tSl 1 2 3)]), (31, [(tLi 0), .nilsl, .nilsl])], ⟨1, 0, 0, 8, 4⟩⟩
set_option maxRecDepth 100000 in
theorem tVClone : (runF ⟨tt, fns, { }⟩ (Try.f41.body.getD .skip) Try.f41.results.toList (entry Try.f41.ntmps [.agg [.int .i64 (.var 0), .sl 0 (.var 0) (.var 1), .sl 1 (.var 2) (.var 3)]] [] ⟨1, 0, 0, 4, 2⟩)) =
  (.par (.par (.call 63 [(.lf (tSl 0 0 1))] tVClonem1 (.lf (tSl 2 4 5)) tVClonem2 (.call 64 [(.lf (tSl 1 2 3))] tVClonem2 (.lf (tSl 3 6 7)) tVClonem3 (.done (.agg [(tVi 0), (tSl 2 4 5), (tSl 3 6 7)]) tVClonem0))) (.call 63 [(.lf (tSl 0 0 1))] tVClonem1 (.lf (tSl 2 4 5)) tVClonem2 (.call 64 [(.lf (tSl 1 2 3))] tVClonem2 (.lf (tSl 3 6 7)) tVClonem3 (.done (.agg [(tVi 0), (tSl 2 4 5), (tSl 3 6 7)]) tVClonem0)))) (.call 63 [(.lf (tSl 0 0 1))] tVClonem1 (.lf (tSl 2 4 5)) tVClonem2 (.call 64 [(.lf (tSl 1 2 3))] tVClonem2 (.lf (tSl 3 6 7)) tVClonem3 (.done (.agg [(tVi 0), (tSl 2 4 5), (tSl 3 6 7)]) tVClonem0)))) := by kernel_rfl
theorem vclone_any (v : Vl) (a1 : Option Addr) (c1 : Nat) (a2 : Option Addr) (c2 : Nat) (w : World) (H : VlAt w v a1 a2) : Calls Try.prog 41 #[vlV v a1 c1 a2 c2] w (VlNew w id v) := by
  refine calls_at (tab_ok _) Try.func41 rfl tVClone (ρ := ⟨[v.k], [], [], [v.cs.length, c1, v.ns.length, c2], [a1, a2]⟩) (ids := []) (hx := vlX v a1 a2) rfl (Facts.initq rfl oneNil H.X (vlX_sep H.X)) ?_
  refine par_i (par_i ?_ ?_) ?_
  all_goals
    refine node_cl (n := v.cs.length) (xs := ccells v.cs) (fun _ => #[.slice a1 v.cs.length c1]) (fun a' c' => ⟨[], [], [], [v.cs.length, c'], [a']⟩) (by intros; kernel_rfl) (fun ids w2 hp hf => scloneC_any a1 c1 v.cs w2 hf.x.1 H.l1) (by intros; kernel_rfl) (by intros; kernel_rfl) (by intros; kernel_rfl) (by intros; kernel_rfl) (fun _ _ => oneNil) ?_
    intro b1 d1 hf1
    refine node_cl (n := v.ns.length) (xs := v.ns.map (Value.int .i64)) (fun _ => #[.slice a2 v.ns.length c2]) (fun a' c' => ⟨[], [], [], [v.ns.length, c'], [a']⟩) (by intros; kernel_rfl) (fun ids w2 hp hf => scloneN_any a2 c2 v.ns w2 hf.x.1.2 H.l2) (by intros; kernel_rfl) (by intros; kernel_rfl) (by intros; kernel_rfl) (by intros; kernel_rfl) (fun _ _ => oneNil) ?_
    intro b2 d2 hf2 ids w2 hp hf
    exact ⟨b1, d1, b2, d2, rfl, ⟨hf.x.1.2, hf.x.2⟩, fun k hk => hk.elim (fun q => (hf1 k q).1) (fun q => (hf2 k q).1), hf.chg.below⟩
theorem row_isS {b : Option Addr} {n d sz e : Nat} {cs : List Value} {w : World} (hx : (HX.rw sz e b n d cs).X w) (hne : cs ≠ []) : b.isSome = true := by
  have hc : d ≠ 0 := fun q => by
    rcases hx with ⟨_, _, h3⟩ | ⟨h3, _⟩
    · exact hne h3
    · exact h3 q
  obtain ⟨g, _, rfl, _⟩ := rw_open hx hc
  rfl
end Go.Proofs.Ytlgpjjgkdpmidaa

namespace Go.Eng
open Go.RowKit Go.Syn Go.MapKept Go.Proofs.Ytlgpjjgkdpmidaa
set_option linter.unusedVariables false
set_option linter.unusedSimpArgs false
structure Vo (α : Type) where
  s : Int
  r : Int
  n : Int
  v : α
def Vo.map {α β : Type} (f : α → β) (x : Vo α) : Vo β := ⟨x.s, x.r, x.n, f x.v⟩
structure Pr (α : Type) where
  me : Int
  window : Int
  phase : Int
  r : Int
  n : Int
  frm : Int
  next : Int
  mem : List Int
  said : List Int
  fresh : List Int
  best : List (Int × Vo α)
  out : List (Int × α)
  queue : List α
  stop : Bool
section
variable {α β : Type}
def Pr.map (f : α → β) (D : Pr α) : Pr β := ⟨D.me, D.window, D.phase, D.r, D.n, D.frm, D.next, D.mem, D.said, D.fresh, mmap (Vo.map f) D.best, mmap f D.out, D.queue.map f, D.stop⟩
def Pr.new (me window : Int) (mem : List Int) : Pr α := ⟨me, max 1 (min window 16), 0, 0, 0, 0, 0, mem, [], [], [], [], [], false⟩
def Pr.down (D : Pr α) : Pr α := { D with phase := 0, frm := 0, next := 0, said := [], fresh := [], best := [], out := [], queue := [], stop := false }
def Pr.begin (D : Pr α) (r n frm : Int) : Pr α := { D.down with phase := 1, r := r, n := n, frm := frm }
def Pr.ask (kd : α → Int) (D : Pr α) (s : Int) (v : α) : Pr α := { D with out := mput D.out s v, fresh := D.fresh ++ [s], stop := D.stop || kd v == 2 }
def Pr.told (D : Pr α) (s r n : Int) (v : α) : Pr α := { D with best := mput D.best s ⟨s, r, n, v⟩ }
def Pr.say (D : Pr α) (node : Int) : Pr α := { D with said := D.said ++ [node] }
def topOf (best : List (Int × Vo α)) (x : Int) : Int := best.foldl (fun a p => max a (p.1 + 1)) x
def Pr.bestV (z : α) (D : Pr α) (s : Int) : α := ((mlk D.best s).map Vo.v).getD z
def Pr.askTo (kd : α → Int) (z : α) : Nat → Int → Pr α → Pr α
  | 0, _, D => D
  | k + 1, s, D => Pr.askTo kd z k (s + 1) (D.ask kd s (D.bestV z s))
def Pr.lead (kd : α → Int) (z : α) (D : Pr α) : Pr α :=
  let D1 := { D with phase := 2, next := topOf D.best D.frm }
  { Pr.askTo kd z (D1.next - D1.frm).toNat D1.frm D1 with best := [] }
def Pr.fill (kd : α → Int) (ex : Int) : Nat → Pr α → Pr α
  | 0, D => D
  | k + 1, D => match D.queue with
    | [] => D
    | v :: q => if D.next - D.window ≤ ex ∧ D.next ≤ 1099511627776 then Pr.fill kd ex k { D.ask kd D.next v with queue := q, next := D.next + 1 } else D
def Pr.msgs (D : Pr α) : List (Int × α) := D.fresh.filterMap fun s => (mlk D.out s).map fun v => (s, v)
def Pr.goes (kd : α → Int) (ex : Int) (D : Pr α) : Pr α × List (Int × α) :=
  if D.phase = 2 then let D1 := Pr.fill kd ex D.queue.length D; ({ D1 with fresh := [] }, D1.msgs) else (D, [])
def Pr.decided (D : Pr α) (s : Int) : Pr α := { D with out := mdel D.out s }
def Pr.top (D : Pr α) : Int := if D.phase = 2 then D.next - 1 else 0
theorem map_ask (f : α → β) (kd : β → Int) (D : Pr α) (s : Int) (v : α) : (D.ask (fun x => kd (f x)) s v).map f = (D.map f).ask kd s (f v) := by
  unfold Pr.ask Pr.map
  simp only [mput_map]
theorem map_bestV (f : α → β) (z : α) (D : Pr α) (s : Int) : f (D.bestV z s) = (D.map f).bestV (f z) s := by
  unfold Pr.bestV Pr.map
  simp only [mlk_map]
  cases mlk D.best s <;> rfl
theorem map_askTo (f : α → β) (kd : β → Int) (z : α) : ∀ (k : Nat) (s : Int) (D : Pr α), (Pr.askTo (fun x => kd (f x)) z k s D).map f = Pr.askTo kd (f z) k s (D.map f)
  | 0, _, _ => rfl
  | k + 1, s, D => by
    show (Pr.askTo _ z k (s + 1) _).map f = Pr.askTo kd (f z) k (s + 1) _
    rw [map_askTo f kd z k, map_ask, map_bestV f]
theorem topOf_map (f : α → β) (best : List (Int × Vo α)) (x : Int) : topOf (mmap (Vo.map f) best) x = topOf best x := by
  unfold topOf mmap
  rw [List.foldl_map]
theorem map_lead (f : α → β) (kd : β → Int) (z : α) (D : Pr α) : (D.lead (fun x => kd (f x)) z).map f = (D.map f).lead kd (f z) := by
  unfold Pr.lead
  dsimp only
  have h : ∀ (E : Pr α), ({ E with best := [] } : Pr α).map f = { E.map f with best := [] } := fun E => rfl
  rw [h, map_askTo]
  have h2 : ({ D with phase := 2, next := topOf D.best D.frm } : Pr α).map f = { D.map f with phase := 2, next := topOf (D.map f).best (D.map f).frm } := by
    unfold Pr.map; dsimp only; rw [topOf_map]
  have h3 : topOf (D.map f).best (D.map f).frm = topOf D.best D.frm := topOf_map f D.best D.frm
  rw [h2, h3]; rfl
theorem map_fill (f : α → β) (kd : β → Int) (ex : Int) : ∀ (k : Nat) (D : Pr α), (Pr.fill (fun x => kd (f x)) ex k D).map f = Pr.fill kd ex k (D.map f)
  | 0, _ => rfl
  | k + 1, D => by
    unfold Pr.fill
    cases hq : D.queue with
    | nil =>
      rw [show (D.map f).queue = [] by show D.queue.map f = []; rw [hq]; rfl]
    | cons v q =>
      rw [show (D.map f).queue = f v :: q.map f by show D.queue.map f = _; rw [hq]; rfl]
      dsimp only
      show (if D.next - D.window ≤ ex ∧ D.next ≤ 1099511627776 then _ else _ : Pr α).map f = if D.next - D.window ≤ ex ∧ D.next ≤ 1099511627776 then _ else _
      split
      · rw [map_fill f kd ex k]
        have := map_ask f kd D D.next v
        have e : ({ D.ask (fun x => kd (f x)) D.next v with queue := q, next := D.next + 1 } : Pr α).map f = { (D.map f).ask kd (D.map f).next (f v) with queue := q.map f, next := (D.map f).next + 1 } := by
          rw [show (D.map f).next = D.next from rfl, ← this]; rfl
        rw [e]
      · rfl
theorem map_decided (f : α → β) (D : Pr α) (s : Int) : (D.decided s).map f = (D.map f).decided s := by
  unfold Pr.decided Pr.map
  simp only [mdel_map]
theorem map_told (f : α → β) (D : Pr α) (s r n : Int) (v : α) : (D.told s r n v).map f = (D.map f).told s r n (f v) := by
  unfold Pr.told Pr.map
  simp only
  rw [show (⟨s, r, n, f v⟩ : Vo β) = Vo.map f ⟨s, r, n, v⟩ from rfl, mput_map]
end
end Go.Eng

namespace Go.Eng
open Go.RowKit Go.Syn Go.MapKept
set_option linter.unusedVariables false
section
variable {P : Program} {W w w' : World} {M : Nat → Prop} {R : Ending → World → Prop} {C : Cfg} {ρ : Env} {pre ids : List Nat} {hx : HX} {L : Stack} {m m' : Mem} {t f : Tree} {b : BE}
theorem br_D {p : Prop} [Decidable p] (e : b.den ρ = decide p) (ht : p → t.holds C ρ pre hx L) (hf : ¬ p → f.holds C ρ pre hx L) : (Tree.br b t f).holds C ρ pre hx L :=
  br_i (fun h => ht (of_decide_eq_true (e ▸ h))) (fun h => hf (of_decide_eq_false (e ▸ h)))
theorem br_B (c : Bool) (e : b.den ρ = c) (ht : c = true → t.holds C ρ pre hx L) (hf : c = false → f.holds C ρ pre hx L) : (Tree.br b t f).holds C ρ pre hx L :=
  br_i (fun h => ht (e ▸ h)) (fun h => hf (e ▸ h))
theorem Facts.same1 {bk ty : Nat} {cs : List LV} {us : List Value} {r : List (Nat × List LV)} {n : Cnt} {N : Nat → Prop} (hf : Facts ⟨P, W, N, R⟩ ⟨(ty, cs) :: r, n⟩ ρ ids hx w) (hp : [bk] <+: ids) (hW : Blk W bk us ty) (hc : cellsDen ρ ids cs = us) : w.heap[bk]? = W.heap[bk]? := by
  have h := hf.blk 0 ty cs rfl
  rw [idAt0 hp, hc] at h
  exact h.trans hW.symm
theorem pure1_done {bk ty : Nat} {cs : List LV} {us : List Value} {r : List (Nat × List LV)} {n : Cnt} {V : Value} {v : SV} (hW : Blk W bk us ty) (hv : ∀ ids, v.den ρ ids = V) (hc : ∀ ids, cellsDen ρ ids cs = us) :
    (Tree.done v ⟨(ty, cs) :: r, n⟩).holds ⟨P, W, fun x => x = bk, PureAt W V⟩ ρ [bk] hx L := fun ids w2 hp hf =>
  ⟨by rw [hv], (hf.chg.same (hf.same1 hp hW (hc _))).below⟩
end
instance : Std.Associative HX.and := ⟨HX.and_assoc⟩
instance : Std.Commutative HX.and := ⟨HX.and_comm⟩
end Go.Eng
namespace Go.Proofs.Ytlgpjjgkdpmidaa
open Go.ChangeShapes Go.WideShapes Go.ChangeAt Go.RowKit Go.Syn Go.Eng Go.MapKept
set_option linter.unusedVariables false
set_option linter.unusedSimpArgs false
set_option maxRecDepth 100000
structure Pv where
  v : Vl
  a1 : Option Addr
  c1 : Nat
  a2 : Option Addr
  c2 : Nat
def Pv.val (p : Pv) : Value := vlV p.v p.a1 p.c1 p.a2 p.c2
def Pv.hx (p : Pv) : HX := vlX p.v p.a1 p.a2
def Pv.cells (p : Pv) : List Value := [.int .i64 p.v.k, .slice p.a1 p.v.cs.length p.c1, .slice p.a2 p.v.ns.length p.c2]
def vz : Vl := ⟨0, [], []⟩
def pz : Pv := ⟨vz, none, 0, none, 0⟩
theorem vz_fit : VlFit vz := ⟨(fun n h => by cases h), by decide, by decide⟩
def kdP (p : Pv) : Int := p.v.k
def voV (x : Vo Pv) : Value := .agg #[.int .i64 x.s, .int .i64 x.r, .int .i64 x.n, .int .i64 x.v.v.k, .slice x.v.a1 x.v.v.cs.length x.v.c1, .slice x.v.a2 x.v.v.ns.length x.v.c2]
def qcs (q : List Pv) : List Value := q.flatMap Pv.cells
structure PA where
  am : Option Addr
  cm : Nat
  as_ : Option Addr
  cs : Nat
  bb : Nat
  bo : Nat
  af : Option Addr
  cf : Nat
  aq : Option Addr
  cq : Nat
  G : List HX
def irow (a : Option Addr) (cap : Nat) (xs : List Int) : HX := HX.rw 1 3 a xs.length cap (xs.map (Value.int .i64))
def qrow (a : Option Addr) (cap : Nat) (q : List Pv) : HX := HX.tw 3 31 a q.length cap (qcs q)
def prX (D : Pr Pv) (a : PA) : HX := (((((HX.all a.G).and (HX.vmap a.bb (mmap voV D.best))).and (HX.vmap a.bo (mmap Pv.val D.out))).and (irow a.as_ a.cs D.said)).and (irow a.af a.cf D.fresh)).and (qrow a.aq a.cq D.queue)
def pcs (D : Pr Pv) (a : PA) : List HX := [HX.all a.G, HX.vmap a.bb (mmap voV D.best), HX.vmap a.bo (mmap Pv.val D.out), irow a.as_ a.cs D.said, irow a.af a.cf D.fresh, qrow a.aq a.cq D.queue]
theorem pcs_F {D : Pr Pv} {a : PA} {b : HX} (hb : b ∈ pcs D a) {k : Nat} (hk : b.F k) : (prX D a).F k := by
  simp only [pcs, List.mem_cons, List.not_mem_nil, or_false] at hb
  rcases hb with rfl | rfl | rfl | rfl | rfl | rfl
  · exact .inl (.inl (.inl (.inl (.inl hk))))
  · exact .inl (.inl (.inl (.inl (.inr hk))))
  · exact .inl (.inl (.inl (.inr hk)))
  · exact .inl (.inl (.inr hk))
  · exact .inl (.inr hk)
  · exact .inr hk
structure POk (D : Pr Pv) (a : PA) : Prop where
  gm : HX.ints a.am D.mem ∈ a.G
  gz : pz.hx ∈ a.G
  gb : ∀ p ∈ D.best, p.2.v.hx ∈ a.G ∧ VlFit p.2.v.v
  go : ∀ p ∈ D.out, p.2.hx ∈ a.G ∧ VlFit p.2.v
  gq : ∀ p ∈ D.queue, p.hx ∈ a.G ∧ VlFit p.v
  dj : Dj (pcs D a)
def prC (D : Pr Pv) (a : PA) : List Value := [.int .i64 D.me, .slice a.am D.mem.length a.cm, .int .i64 D.window, .int .i64 D.phase, .int .i64 D.r, .int .i64 D.n, .int .i64 D.frm, .slice a.as_ D.said.length a.cs, .map (some a.bb), .int .i64 D.next, .map (some a.bo), .slice a.af D.fresh.length a.cf, .slice a.aq D.queue.length a.cq, .bool D.stop]
def PrO (nb : Nat) (P : Pr Vl) (h : HX) : Prop := ∃ D a, D.map Pv.v = P ∧ POk D a ∧ ¬ (prX D a).F nb ∧ h = (HX.blk nb (.cells (prC D a).toArray 77 (0, 0))).and (prX D a)
def PrMut (w : World) (F : Nat → Prop) (nb : Nat) (P' : Pr Vl) (V : Value) (e : Ending) (w' : World) : Prop := e = .returned V ∧ ∃ F', (HX.obj F' (PrO nb P')).X w' ∧ (∀ k, F' k → (F k ∨ w.heap.size ≤ k) ∧ k < w'.heap.size) ∧ Chg F w w'
def PSet (w : World) (nb : Nat) (D : Pr Pv) (a : PA) (D' : Pr Pv) (e : Ending) (w' : World) : Prop := e = .returned (.tuple #[]) ∧ ∃ a', POk D' a' ∧ Blk w' nb (prC D' a') 77 ∧ (prX D' a').X w' ∧ (∀ k, (prX D' a').F k → ((prX D a).F k ∨ w.heap.size ≤ k) ∧ k < w'.heap.size) ∧ Chg (fun k => k = nb ∨ (prX D a).F k) w w'
section
variable {D D' : Pr Pv} {a a' : PA} {nb : Nat} {w : World}
theorem pset_done {cs : List LV} {r : List (Nat × List LV)} {n : Cnt} {v : SV} {ρ : Env} {hx : HX} {S : Stack} (hok : POk D' a') (hX : ∀ w, hx.X w → (prX D' a').X w) (hF : ∀ k, (prX D' a').F k → hx.F k ∧ ((prX D a).F k ∨ w.heap.size ≤ k)) (hc : ∀ ids, cellsDen ρ ids cs = prC D' a') (hv : ∀ ids, v.den ρ ids = .tuple #[]) :
    (Tree.done v ⟨(77, cs) :: r, n⟩).holds ⟨Try.prog, w, fun k => k = nb ∨ (prX D a).F k, PSet w nb D a D'⟩ ρ [nb] hx S := fun ids w2 hp hf => by
  have h := hf.blk 0 77 cs rfl
  rw [idAt0 hp, hc] at h
  exact ⟨by rw [hv], a', hok, h, hX w2 hf.x, fun k hk => ⟨(hF k hk).2, (hf.sep k (hF k hk).1).1⟩, hf.chg⟩
theorem pr_done {F : Nat → Prop} {P' : Pr Vl} {cs : List LV} {r : List (Nat × List LV)} {n : Cnt} {V : Value} {v : SV} {ρ : Env} {hx : HX} {S : Stack} (hP : D'.map Pv.v = P') (hok : POk D' a') (hX : ∀ w, hx.X w → (prX D' a').X w) (hF : ∀ k, (prX D' a').F k → hx.F k) (hF2 : ∀ k, (prX D' a').F k → F k ∨ w.heap.size ≤ k) (hnb : F nb) (hc : ∀ ids, cellsDen ρ ids cs = prC D' a') (hv : ∀ ids, v.den ρ ids = V) :
    (Tree.done v ⟨(77, cs) :: r, n⟩).holds ⟨Try.prog, w, F, PrMut w F nb P' V⟩ ρ [nb] hx S := fun ids w2 hp hf => by
  have h := hf.blk 0 77 cs rfl
  rw [idAt0 hp, hc] at h
  have hmem : nb ∈ ids := by obtain ⟨x, rfl⟩ := hp; simp
  refine ⟨by rw [hv], fun k => k = nb ∨ (prX D' a').F k, ⟨_, ⟨D', a', hP, hok, fun q => (hf.sep nb (hF nb q)).2 hmem, rfl⟩, ⟨h, hX w2 hf.x⟩, fun k hk => hk⟩, fun k hk => ?_, hf.chg⟩
  rcases hk with rfl | hk
  · exact ⟨.inl hnb, hf.id_lt hmem⟩
  · exact ⟨hF2 k hk, (hf.sep k (hF k hk)).1⟩
theorem pobj_open {F : Nat → Prop} {P : Pr Vl} (h : (HX.obj F (PrO nb P)).X w) : ∃ D a, D.map Pv.v = P ∧ POk D a ∧ ¬ (prX D a).F nb ∧ Blk w nb (prC D a) 77 ∧ (prX D a).X w ∧ F nb ∧ ∀ k, (prX D a).F k → F k := by
  obtain ⟨h, ⟨D, a, hP, hok, hnb, rfl⟩, ⟨hB, hX⟩, hsub⟩ := h
  exact ⟨D, a, hP, hok, hnb, hB, hX, hsub nb (.inl rfl), fun k hk => hsub k (.inr hk)⟩
theorem row0_F {sz e k : Nat} {b : Option Addr} {n : Nat} {xs : List Value} (h : (HX.rw sz e b n 0 xs).F k) : False := h.1 rfl
theorem tow0_F {sz e k : Nat} {b : Option Addr} {n : Nat} {xs : List Value} (h : (HX.tw sz e b n 0 xs).F k) : False := h.1 rfl
theorem down_any (hB : Blk w nb (prC D a) 77) (hX : (prX D a).X w) (hok : POk D a) (hnb : ¬ (prX D a).F nb) (hD : ∀ k, (prX D a).F k → k < w.heap.size) : Calls Try.prog 28 #[.pointer (some ⟨nb, 0, none⟩)] w (PSet w nb D a D.down) := by
  refine calls_at (tab_ok _) Try.func28 rfl tPDown (ρ := ⟨[D.me, D.window, D.phase, D.r, D.n, D.frm, D.next], [D.stop], [.map (some a.bb), .map (some a.bo)], [D.mem.length, a.cm, D.said.length, a.cs, D.fresh.length, a.cf, D.queue.length, a.cq], [a.am, a.as_, a.af, a.aq]⟩) (ids := [nb]) (hx := prX D a) rfl (Facts.initx (M := fun k => k = nb ∨ (prX D a).F k) rfl (fun v hv => by simp only [List.mem_cons, List.not_mem_nil, or_false] at hv; rcases hv with rfl | rfl <;> rfl) hB rfl (.inl rfl) hX (fun k hk => ⟨hD k hk, fun e => hnb (e ▸ hk)⟩)) ?_
  refine node_vmake (by intros; kernel_rfl) (by kernel_rfl) (by kernel_rfl) (by intros; kernel_rfl) ?_
  intro b1 h1 h2
  refine node_vmake (by intros; kernel_rfl) (by kernel_rfl) (by kernel_rfl) (by intros; kernel_rfl) ?_
  intro b2 h3 h4
  have hb : b2 ≠ b1 := fun e => h4 (.inr e)
  have h4 : ¬ (prX D a).F b2 := fun q => h4 (.inl q)
  refine pset_done (D' := D.down) (a' := { a with as_ := none, cs := 0, bb := b1, bo := b2, af := none, cf := 0, aq := none, cq := 0 }) ⟨hok.gm, hok.gz, (fun p hp => by cases hp), (fun p hp => by cases hp), (fun p hp => by cases hp), ?_⟩ (fun w h => ⟨⟨⟨⟨⟨h.1.1.1.1.1.1.1, h.1.2⟩, h.2⟩, HX.rw_nil _ _ _ _⟩, HX.rw_nil _ _ _ _⟩, HX.tw_nil _ _ _ _⟩) (fun k hk => ?_) (by intros; kernel_rfl) (by intros; kernel_rfl)
  · have d1 := hok.dj.set (i := 1) (a' := HX.vmap b1 []) rfl fun k hk => .inr fun b hb q => h2 (by rw [show k = b1 from hk] at q; exact pcs_F hb q)
    have d2 := d1.set (i := 2) (a' := HX.vmap b2 []) rfl fun k hk => .inr fun b hb2 q => by
      rw [show k = b2 from hk] at q
      simp only [pcs, List.set_cons_succ, List.set_cons_zero, List.mem_cons, List.not_mem_nil, or_false] at hb2
      rcases hb2 with rfl | rfl | rfl | rfl | rfl | rfl
      · exact h4 (pcs_F (D := D) (a := a) (by simp [pcs]) q)
      · exact hb q
      · exact h4 (pcs_F (D := D) (a := a) (by simp [pcs]) q)
      · exact h4 (pcs_F (D := D) (a := a) (by simp [pcs]) q)
      · exact h4 (pcs_F (D := D) (a := a) (by simp [pcs]) q)
      · exact h4 (pcs_F (D := D) (a := a) (by simp [pcs]) q)
    have d3 := d2.set (i := 3) (a' := irow none 0 []) rfl fun k hk => (row0_F hk).elim
    have d4 := d3.set (i := 4) (a' := irow none 0 []) rfl fun k hk => (row0_F hk).elim
    exact d4.set (i := 5) (a' := qrow none 0 []) rfl fun k hk => (tow0_F hk).elim
  · rcases hk with ((((hk | hk) | hk) | hk) | hk) | hk
    · exact ⟨.inl (.inl (.inl (.inl (.inl (.inl (.inl hk)))))), .inl (.inl (.inl (.inl (.inl (.inl hk)))))⟩
    · exact ⟨.inl (.inr hk), .inr (by rw [show k = b1 from hk]; exact h1)⟩
    · exact ⟨.inr hk, .inr (by rw [show k = b2 from hk]; exact h3)⟩
    · exact (row0_F hk).elim
    · exact (row0_F hk).elim
    · exact (tow0_F hk).elim
end
end Go.Proofs.Ytlgpjjgkdpmidaa

namespace Go.Proofs.Ytlgpjjgkdpmidaa
open Go.ChangeShapes Go.WideShapes Go.ChangeAt Go.RowKit Go.Syn Go.Eng Go.MapKept
set_option linter.unusedVariables false
set_option linter.unusedSimpArgs false
set_option maxRecDepth 100000
section
variable {D D' : Pr Pv} {a a' : PA} {nb : Nat} {w : World}
theorem dj_at (h : Dj (pcs D a)) {i : Nat} {x : HX} (hi : (pcs D a)[i]? = some x) {k : Nat} (hk : x.F k) (j : Nat) {y : HX} (hj : (pcs D a)[j]? = some y) (hij : i ≠ j) : ¬ y.F k := h i j x y hi hj hij k hk
theorem bo_apart (h : Dj (pcs D a)) : ¬ (((((HX.all a.G).and (HX.vmap a.bb (mmap voV D.best))).and (irow a.as_ a.cs D.said)).and (irow a.af a.cf D.fresh)).and (qrow a.aq a.cq D.queue)).F a.bo := by
  rintro ((((q | q) | q) | q) | q)
  · exact dj_at h (i := 2) rfl (k := a.bo) rfl 0 rfl (by decide) q
  · exact dj_at h (i := 2) rfl (k := a.bo) rfl 1 rfl (by decide) q
  · exact dj_at h (i := 2) rfl (k := a.bo) rfl 3 rfl (by decide) q
  · exact dj_at h (i := 2) rfl (k := a.bo) rfl 4 rfl (by decide) q
  · exact dj_at h (i := 2) rfl (k := a.bo) rfl 5 rfl (by decide) q
theorem ask_any (s : Int) (p : Pv) (hB : Blk w nb (prC D a) 77) (hX : (prX D a).X w) (hok : POk D a) (hnb : ¬ (prX D a).F nb) (hD : ∀ k, (prX D a).F k → k < w.heap.size) (hp : p.hx ∈ a.G) (hfit : VlFit p.v) (hl : D.fresh.length ≤ 1000000) : Calls Try.prog 44 #[.pointer (some ⟨nb, 0, none⟩), .int .i64 s, p.val] w (PSet w nb D a (D.ask kdP s p)) := by
  refine calls_at (tab_ok _) Try.func44 rfl tPAsk (ρ := ⟨[D.me, D.window, D.phase, D.r, D.n, D.frm, D.next, p.v.k, s], [D.stop], [.map (some a.bb), .map (some a.bo)], [D.mem.length, a.cm, D.said.length, a.cs, D.fresh.length, a.cf, D.queue.length, a.cq, p.v.cs.length, p.c1, p.v.ns.length, p.c2], [a.am, a.as_, a.af, a.aq, p.a1, p.a2]⟩) (ids := [nb]) (hx := prX D a) rfl (Facts.initx (M := fun k => k = nb ∨ (prX D a).F k) rfl (fun v hv => by simp only [List.mem_cons, List.not_mem_nil, or_false] at hv; rcases hv with rfl | rfl <;> rfl) hB rfl (.inl rfl) hX (fun k hk => ⟨hD k hk, fun e => hnb (e ▸ hk)⟩)) ?_
  have ed : prX D a = (((((HX.all a.G).and (HX.vmap a.bb (mmap voV D.best))).and (irow a.as_ a.cs D.said)).and (irow a.af a.cf D.fresh)).and (qrow a.aq a.cq D.queue)).and (HX.vmap a.bo (mmap Pv.val D.out)) := by unfold prX; ac_rfl
  refine holds_eq ed ?_
  refine node_vput (mt := 75) (kt := 3) (et := 31) a.bo (mmap Pv.val D.out) s p.val (.inr (.inr (pcs_F (b := HX.vmap a.bo (mmap Pv.val D.out)) (by simp [pcs]) rfl))) (bo_apart hok.dj) (by intros; kernel_rfl) (by intros; kernel_rfl) (by intros; kernel_rfl) Try.underlying75 Try.underlying3 (by kernel_rfl) (by kernel_rfl) (by kernel_rfl) ?_
  rw [vput_is, mput_map]
  obtain ⟨R, eR⟩ : ∃ R, R = ((((HX.all a.G).and (HX.vmap a.bb (mmap voV D.best))).and (HX.vmap a.bo (mmap Pv.val (mput D.out s p)))).and (irow a.as_ a.cs D.said)).and (qrow a.aq a.cq D.queue) := ⟨_, rfl⟩
  have e2 : (((((HX.all a.G).and (HX.vmap a.bb (mmap voV D.best))).and (irow a.as_ a.cs D.said)).and (irow a.af a.cf D.fresh)).and (qrow a.aq a.cq D.queue)).and (HX.vmap a.bo (mmap Pv.val (mput D.out s p))) = R.and (irow a.af a.cf D.fresh) := by rw [eR]; ac_rfl
  refine holds_eq e2 ?_
  refine node_pushs (e := 3) (sz := 1) rfl Try.underlying26 info_int1 rfl (by decide) a.af D.fresh.length a.cf (D.fresh.map (Value.int .i64)) [.int .i64 s] 2 (by intros; kernel_rfl) (by intros; kernel_rfl) rfl (by intros; kernel_rfl) rfl (fun v hv => by simp only [List.mem_singleton] at hv; subst hv; rfl) (fun k q1 q2 => ?_) (fun k q1 q2 => .inr (.inr (pcs_F (b := irow a.af a.cf D.fresh) (by simp [pcs]) ⟨q1, q2⟩))) (by unfold maxLen; omega) (by omega) (by intros; kernel_rfl) (by kernel_rfl) (by kernel_rfl) (by intros; kernel_rfl) ?_
  · have hk : (irow a.af a.cf D.fresh).F k := ⟨q1, q2⟩
    rw [eR]
    rintro ((((q | q) | q) | q) | q)
    · exact dj_at hok.dj (i := 4) rfl hk 0 rfl (by decide) q
    · exact dj_at hok.dj (i := 4) rfl hk 1 rfl (by decide) q
    · exact dj_at hok.dj (i := 4) rfl hk 2 rfl (by decide) q
    · exact dj_at hok.dj (i := 4) rfl hk 3 rfl (by decide) q
    · exact dj_at hok.dj (i := 4) rfl hk 5 rfl (by decide) q
  intro af' cf' hc' hr' hor'
  obtain ⟨D', eD⟩ : ∃ D', D' = D.ask kdP s p := ⟨_, rfl⟩
  have hrow : HX.rw 1 3 af' (D.fresh.length + 1) cf' (D.fresh.map (Value.int .i64) ++ [.int .i64 s]) = irow af' cf' (D.fresh ++ [s]) := by
    unfold irow; rw [List.length_append, List.map_append]; rfl
  have hFr : ∀ k, (irow af' cf' (D.fresh ++ [s])).F k → (irow a.af a.cf D.fresh).F k ∨ (w.heap.size ≤ k ∧ ¬ (R.and (irow a.af a.cf D.fresh)).F k) := fun k hk => by
    rcases hor' with ⟨r1, r2⟩ | ⟨g, r1, r2, r3⟩
    · exact .inl ⟨r1, by rw [← r2]; exact hk.2⟩
    · have : g = k := Option.some.inj (r1.symm.trans hk.2)
      subst this
      exact .inr ⟨r2, r3⟩
  have hok' : POk (D.ask kdP s p) { a with af := af', cf := cf' } := by
    refine ⟨hok.gm, hok.gz, hok.gb, (fun q hq => ?_), hok.gq, ?_⟩
    · rcases mput_mem hq with rfl | hq
      · exact ⟨hp, hfit⟩
      · exact hok.go q hq.1
    · have d1 := hok.dj.set (i := 2) (a' := HX.vmap a.bo (mmap Pv.val (mput D.out s p))) rfl fun k hk => .inl hk
      refine d1.set (i := 4) (a' := irow af' cf' (D.fresh ++ [s])) rfl fun k hk => (hFr k hk).imp id fun q b hb z => q.2 ?_
      simp only [pcs, List.set_cons_succ, List.set_cons_zero, List.mem_cons, List.not_mem_nil, or_false] at hb
      rw [eR]
      rcases hb with rfl | rfl | rfl | rfl | rfl | rfl
      · exact .inl (.inl (.inl (.inl (.inl z))))
      · exact .inl (.inl (.inl (.inl (.inr z))))
      · exact .inl (.inl (.inl (.inr z)))
      · exact .inl (.inl (.inr z))
      · exact .inr z
      · exact .inl (.inr z)
  have fin : ∀ {cs : List LV} {rr : List (Nat × List LV)} {n : Cnt} {v : SV} {ρ : Env} {S : Stack}, (∀ ids, cellsDen ρ ids cs = prC D' { a with af := af', cf := cf' }) → (∀ ids, v.den ρ ids = .tuple #[]) → (Tree.done v ⟨(77, cs) :: rr, n⟩).holds ⟨Try.prog, w, fun k => k = nb ∨ (prX D a).F k, PSet w nb D a D'⟩ ρ [nb] (R.and (HX.rw 1 3 af' (D.fresh.length + 1) cf' (D.fresh.map (Value.int .i64) ++ [.int .i64 s]))) S := fun {cs rr n v ρ S} hc hv => by
    rw [hrow]
    refine pset_done (a' := { a with af := af', cf := cf' }) (by rw [eD]; exact hok') (fun w h => ?_) (fun k hk => ?_) hc hv
    · rw [eR] at h
      rw [eD]
      exact ⟨⟨h.1.1, h.2⟩, h.1.2⟩
    · rw [eD] at hk
      rw [eR]
      rcases hk with ((((hk | hk) | hk) | hk) | hk) | hk
      · exact ⟨.inl (.inl (.inl (.inl (.inl hk)))), .inl (.inl (.inl (.inl (.inl (.inl hk)))))⟩
      · exact ⟨.inl (.inl (.inl (.inl (.inr hk)))), .inl (.inl (.inl (.inl (.inl (.inr hk)))))⟩
      · exact ⟨.inl (.inl (.inl (.inr hk))), .inl (.inl (.inl (.inl (.inr hk))))⟩
      · exact ⟨.inl (.inl (.inr hk)), .inl (.inl (.inl (.inr hk)))⟩
      · exact ⟨.inr hk, (hFr k hk).elim (fun q => .inl (.inl (.inr q))) fun q => .inr q.1⟩
      · exact ⟨.inl (.inr hk), .inl (.inr hk)⟩
  rw [← eD]
  refine br_B D.stop (by kernel_rfl) (fun h => ?_) (fun h => ?_)
  · refine fin (fun ids => ?_) (by intros; kernel_rfl)
    rw [eD]
    unfold prC Pr.ask
    dsimp only
    rw [List.length_append, h]; rfl
  · refine fin (fun ids => ?_) (by intros; kernel_rfl)
    rw [eD]
    unfold prC Pr.ask
    dsimp only
    rw [List.length_append, h]; rfl
theorem prep_any (hB : Blk w nb (prC D a) 77) (hX : (prX D a).X w) (hnb : ¬ (prX D a).F nb) (hD : ∀ k, (prX D a).F k → k < w.heap.size) : Calls Try.prog 31 #[.pointer (some ⟨nb, 0, none⟩)] w (PureAt w (.agg #[.int .i64 1, .int .i64 0, .int .i64 0, .int .i64 0, .int .i64 D.r, .int .i64 D.n, .int .i64 D.frm, .int .i64 0, .int .i64 0, .int .i64 0, .slice none 0 0, .slice none 0 0, .slice none 0 0, .int .i64 0, .int .i64 0, .int .i64 0, .int .i64 0, .int .i64 0, .int .i64 0, .int .i64 0, .int .i64 0, .int .i64 0, .int .i64 0, .int .i64 0, .slice none 0 0])) := by
  refine calls_at (tab_ok _) Try.func31 rfl tPPrep (ρ := ⟨[D.me, D.window, D.phase, D.r, D.n, D.frm, D.next], [D.stop], [.map (some a.bb), .map (some a.bo)], [D.mem.length, a.cm, D.said.length, a.cs, D.fresh.length, a.cf, D.queue.length, a.cq], [a.am, a.as_, a.af, a.aq]⟩) (ids := [nb]) (hx := prX D a) rfl (Facts.initx (M := fun k => k = nb) rfl (fun v hv => by simp only [List.mem_cons, List.not_mem_nil, or_false] at hv; rcases hv with rfl | rfl <;> rfl) hB rfl rfl hX (fun k hk => ⟨hD k hk, fun e => hnb (e ▸ hk)⟩)) ?_
  exact pure1_done hB (by intros; kernel_rfl) (by intros; kernel_rfl)
theorem ptop_any (hB : Blk w nb (prC D a) 77) (hX : (prX D a).X w) (hnb : ¬ (prX D a).F nb) (hD : ∀ k, (prX D a).F k → k < w.heap.size) (h1 : 0 ≤ D.next ∧ D.next ≤ 1099511627778) : Calls Try.prog 21 #[.pointer (some ⟨nb, 0, none⟩)] w (PureAt w (.int .i64 D.top)) := by
  refine calls_at (tab_ok _) Try.func21 rfl tPTop (ρ := ⟨[D.me, D.window, D.phase, D.r, D.n, D.frm, D.next], [D.stop], [.map (some a.bb), .map (some a.bo)], [D.mem.length, a.cm, D.said.length, a.cs, D.fresh.length, a.cf, D.queue.length, a.cq], [a.am, a.as_, a.af, a.aq]⟩) (ids := [nb]) (hx := prX D a) rfl (Facts.initx (M := fun k => k = nb) rfl (fun v hv => by simp only [List.mem_cons, List.not_mem_nil, or_false] at hv; rcases hv with rfl | rfl <;> rfl) hB rfl rfl hX (fun k hk => ⟨hD k hk, fun e => hnb (e ▸ hk)⟩)) ?_
  refine br_B (D.phase != 2) (by kernel_rfl) (fun h => ?_) (fun h => ?_)
  · have h : D.phase ≠ 2 := by simpa using h
    refine pure1_done hB (fun _ => ?_) (by intros; kernel_rfl)
    unfold Pr.top; rw [if_neg h]; rfl
  · have h : D.phase = 2 := by simpa using h
    refine pure1_done hB (fun _ => ?_) (by intros; kernel_rfl)
    unfold Pr.top; rw [if_pos h]
    show Value.int .i64 (IntKind.i64.wrap (D.next - 1)) = _
    rw [wrap_i64 (by omega)]
theorem pstop_any (hB : Blk w nb (prC D a) 77) (hX : (prX D a).X w) (hnb : ¬ (prX D a).F nb) (hD : ∀ k, (prX D a).F k → k < w.heap.size) : Calls Try.prog 23 #[.pointer (some ⟨nb, 0, none⟩)] w (PureAt w (.bool D.stop)) := by
  refine calls_at (tab_ok _) Try.func23 rfl tPStop (ρ := ⟨[D.me, D.window, D.phase, D.r, D.n, D.frm, D.next], [D.stop], [.map (some a.bb), .map (some a.bo)], [D.mem.length, a.cm, D.said.length, a.cs, D.fresh.length, a.cf, D.queue.length, a.cq], [a.am, a.as_, a.af, a.aq]⟩) (ids := [nb]) (hx := prX D a) rfl (Facts.initx (M := fun k => k = nb) rfl (fun v hv => by simp only [List.mem_cons, List.not_mem_nil, or_false] at hv; rcases hv with rfl | rfl <;> rfl) hB rfl rfl hX (fun k hk => ⟨hD k hk, fun e => hnb (e ▸ hk)⟩)) ?_
  exact pure1_done hB (by intros; kernel_rfl) (by intros; kernel_rfl)
theorem dec_any {F : Nat → Prop} {P : Pr Vl} (s : Int) (H0 : (HX.obj F (PrO nb P)).X w) (hF : ∀ k, F k → k < w.heap.size) : Calls Try.prog 19 #[.pointer (some ⟨nb, 0, none⟩), .int .i64 s] w (PrMut w F nb (P.decided s) (.tuple #[])) := by
  obtain ⟨D, a, hP, hok, hnb, hB, hX, Fnb, hsub⟩ := pobj_open H0
  refine calls_at (tab_ok _) Try.func19 rfl tPDec (ρ := ⟨[D.me, D.window, D.phase, D.r, D.n, D.frm, D.next, s], [D.stop], [.map (some a.bb), .map (some a.bo)], [D.mem.length, a.cm, D.said.length, a.cs, D.fresh.length, a.cf, D.queue.length, a.cq], [a.am, a.as_, a.af, a.aq]⟩) (ids := [nb]) (hx := prX D a) rfl (Facts.initx (M := F) rfl (fun v hv => by simp only [List.mem_cons, List.not_mem_nil, or_false] at hv; rcases hv with rfl | rfl <;> rfl) hB rfl Fnb hX (fun k hk => ⟨hF k (hsub k hk), fun e => hnb (e ▸ hk)⟩)) ?_
  have ed : prX D a = (((((HX.all a.G).and (HX.vmap a.bb (mmap voV D.best))).and (irow a.as_ a.cs D.said)).and (irow a.af a.cf D.fresh)).and (qrow a.aq a.cq D.queue)).and (HX.vmap a.bo (mmap Pv.val D.out)) := by unfold prX; ac_rfl
  refine holds_eq ed ?_
  have hbo : (prX D a).F a.bo := pcs_F (b := HX.vmap a.bo (mmap Pv.val D.out)) (by simp [pcs]) rfl
  refine node_vdel (mt := 75) (kt := 3) (et := 31) rfl a.bo (mmap Pv.val D.out) s rfl (.inr (hsub _ hbo)) (bo_apart hok.dj) (by intros; kernel_rfl) (by intros; kernel_rfl) Try.underlying75 Try.underlying3 (by intros; kernel_rfl) (by kernel_rfl) (by kernel_rfl) (by kernel_rfl) ?_
  rw [show vdel (mmap Pv.val D.out) s = mmap Pv.val (mdel D.out s) from mdel_map _ _ _]
  obtain ⟨D', eD⟩ : ∃ D', D' = D.decided s := ⟨_, rfl⟩
  have e2 : (((((HX.all a.G).and (HX.vmap a.bb (mmap voV D.best))).and (irow a.as_ a.cs D.said)).and (irow a.af a.cf D.fresh)).and (qrow a.aq a.cq D.queue)).and (HX.vmap a.bo (mmap Pv.val (mdel D.out s))) = prX D' a := by rw [eD]; unfold prX Pr.decided; dsimp only; ac_rfl
  refine holds_eq e2 ?_
  refine pr_done (D' := D') (a' := a) (by rw [eD, map_decided, hP]) (by rw [eD]; exact ⟨hok.gm, hok.gz, hok.gb, (fun q hq => hok.go q (mdel_in.1 hq).1), hok.gq, hok.dj.set (i := 2) (a' := HX.vmap a.bo (mmap Pv.val (mdel D.out s))) rfl fun k hk => .inl hk⟩) (fun w h => h) (fun k hk => hk) (fun k hk => .inl (hsub k ?_)) Fnb (fun ids => by rw [eD]; kernel_rfl) (by intros; kernel_rfl)
  rw [eD] at hk
  exact hk
end
end Go.Proofs.Ytlgpjjgkdpmidaa

namespace Go.Proofs.Ytlgpjjgkdpmidaa
open Go.ChangeShapes Go.WideShapes Go.ChangeAt Go.RowKit Go.Syn Go.Eng Go.MapKept
set_option linter.unusedVariables false
set_option linter.unusedSimpArgs false
set_option maxRecDepth 100000
theorem and_nil (h : HX) : h.and HX.nil = h := HX.ext (by funext k; exact propext ⟨fun q => q.elim id False.elim, .inl⟩) (by funext w; exact propext ⟨fun q => q.1, fun q => ⟨q, trivial⟩⟩)
section
variable {w : World} {nb : Nat}
theorem downG_any (me window ph r n fr nx : Int) (am : Option Addr) (ml cm : Nat) (as_ : Option Addr) (sl cs : Nat) (af : Option Addr) (fl cf : Nat) (aq : Option Addr) (ql cq : Nat) (st : Bool) (vb vo : Value) (h1 : vb.oneCell' = true) (h2 : vo.oneCell' = true)
    (hB : Blk w nb [.int .i64 me, .slice am ml cm, .int .i64 window, .int .i64 ph, .int .i64 r, .int .i64 n, .int .i64 fr, .slice as_ sl cs, vb, .int .i64 nx, vo, .slice af fl cf, .slice aq ql cq, .bool st] 77) :
    Calls Try.prog 28 #[.pointer (some ⟨nb, 0, none⟩)] w (fun e w' => e = .returned (.tuple #[]) ∧ ∃ b1 b2, w.heap.size ≤ b1 ∧ w.heap.size ≤ b2 ∧ b1 ≠ b2 ∧ b1 < w'.heap.size ∧ b2 < w'.heap.size ∧ VMap w' b1 [] ∧ VMap w' b2 [] ∧ Blk w' nb [.int .i64 me, .slice am ml cm, .int .i64 window, .int .i64 0, .int .i64 r, .int .i64 n, .int .i64 0, .slice none 0 0, .map (some b1), .int .i64 0, .map (some b2), .slice none 0 0, .slice none 0 0, .bool false] 77 ∧ Chg (fun k => k = nb) w w') := by
  refine calls_at (tab_ok _) Try.func28 rfl tPDown (ρ := ⟨[me, window, ph, r, n, fr, nx], [st], [vb, vo], [ml, cm, sl, cs, fl, cf, ql, cq], [am, as_, af, aq]⟩) (ids := [nb]) (hx := HX.nil) rfl (Facts.initx (M := fun k => k = nb) rfl (fun v hv => by simp only [List.mem_cons, List.not_mem_nil, or_false] at hv; rcases hv with rfl | rfl <;> assumption) hB rfl rfl trivial (fun k hk => hk.elim)) ?_
  refine node_vmake (by intros; kernel_rfl) (by kernel_rfl) (by kernel_rfl) (by intros; kernel_rfl) ?_
  intro b1 g1 g2
  refine node_vmake (by intros; kernel_rfl) (by kernel_rfl) (by kernel_rfl) (by intros; kernel_rfl) ?_
  intro b2 g3 g4 ids w2 hp hf
  have h := hf.blk 0 77 _ rfl
  rw [idAt0 hp] at h
  exact ⟨rfl, b1, b2, g1, g3, fun e => g4 (.inr e.symm), (hf.sep b1 (.inl (.inr rfl))).1, (hf.sep b2 (.inr rfl)).1, hf.x.1.2, hf.x.2, h, hf.chg⟩
def PrNew (w : World) (P' : Pr Vl) (e : Ending) (w' : World) : Prop := ∃ nb F', e = .returned (.pointer (some ⟨nb, 0, none⟩)) ∧ (HX.obj F' (PrO nb P')).X w' ∧ (∀ k, F' k → w.heap.size ≤ k ∧ k < w'.heap.size) ∧ Below w.heap.size w w'
theorem pnew_any (me window : Int) (a : Option Addr) (cap : Nat) (mem : List Int) (w : World) (H : Ints w a mem) (hok : setOkB mem = true ∧ hasB mem me = true) :
    Calls Try.prog 8 #[.int .i64 me, .slice a mem.length cap, .int .i64 window] w (PrNew w (Pr.new me window mem)) := by
  refine calls_at (tab_ok _) Try.func8 rfl tPNew (ρ := ⟨[me, window], [], [], [mem.length, cap], [a]⟩) (ids := []) (hx := HX.ints a mem) rfl (Facts.initq rfl oneNil H (fun k hk => by rw [hk.2]; exact (H.at_ (List.length_pos_iff.2 hk.1)).2.1)) ?_
  have hck : checkV mem = 0 := by unfold checkV; rw [if_pos hok.1]
  refine node_PI ⟨[0], [], [], [], []⟩ (fun _ => #[.slice a mem.length cap]) (.int .i64 0) (by intros; kernel_rfl) (by intros; kernel_rfl) (by kernel_rfl) (by kernel_rfl) (by kernel_rfl) oneNil (fun ids w2 hp hf => ?_) ?_
  · have := check_any a cap mem w2 hf.x
    rw [hck] at this; exact pure_same this
  refine br_F false (by kernel_rfl) rfl ?_
  refine node_PI ⟨[], [true], [], [], []⟩ (fun _ => #[.slice a mem.length cap, .int .i64 me]) (.bool true) (by intros; kernel_rfl) (by intros; kernel_rfl) (by kernel_rfl) (by kernel_rfl) (by kernel_rfl) oneNil (fun ids w2 hp hf => ?_) ?_
  · have := containsI_any a cap mem me w2 hf.x
    rw [hok.2] at this; exact pure_same this
  refine br_F false (by kernel_rfl) rfl ?_
  have hS := setOkB_iff.1 hok.1
  refine node_appnil (st := 73) (st2 := 26) (e := 3) (e2 := 3) rfl Try.underlying73 Try.underlying26 info_int1 a cap mem (fun w h => h) hS.1 (by have := hS.2.1; omega) (by intros; kernel_rfl) (by intros; kernel_rfl) (by intros; kernel_rfl) (by kernel_rfl) (by kernel_rfl) (by intros; kernel_rfl) ?_
  intro i cap' hi1 hi2
  refine holds_eq (and_nil _).symm ?_
  obtain ⟨W', eW⟩ : ∃ W', W' = max 1 (min window 16) := ⟨_, rfl⟩
  refine node_touch (fun ids => #[.pointer (some ⟨idAt ids 0, 0, none⟩)]) (fun vs h' => ∃ b1 b2, b1 ≠ b2 ∧ vs = ⟨[me, W', 0, 0, 0, 0, 0], [false], [.map (some b1), .map (some b2)], [mem.length, cap', 0, 0, 0, 0, 0, 0], [some ⟨i, 0, none⟩, none, none, none]⟩ ∧ h' = (HX.vmap b1 []).and (HX.vmap b2 [])) rfl rfl (by intros; kernel_rfl) (fun ids w2 hp hf => ?_) (fun k hk => hk.elim) (by kernel_rfl) (fun vs h' hQ => ?_) ?_
  · have hb := hf.blk 0 _ _ rfl
    refine (downG_any me W' 0 0 0 0 0 (some ⟨i, 0, none⟩) mem.length cap' none 0 0 none 0 0 none 0 0 false (.map none) (.map none) rfl rfl (by rw [eW]; exact hb)).mono ?_
    rintro e w' ⟨rfl, b1, b2, g1, g2, g3, g4, g5, g6, g7, g8, g9⟩
    refine ⟨_, _, ⟨b1, b2, g3, rfl, rfl⟩, rfl, g8, ⟨g6, g7⟩, fun k hk => ?_, ⟨g9.os, g9.tape, g9.output, g9.size, fun k hk hne => g9.block k hk fun e => hne (.inl e)⟩⟩
    rcases hk with hk | hk
    · rw [show k = b1 from hk]; exact ⟨.inr g1, g4⟩
    · rw [show k = b2 from hk]; exact ⟨.inr g2, g5⟩
  · obtain ⟨b1, b2, _, rfl, _⟩ := hQ
    exact ⟨by kernel_rfl, (fun v hv => by simp only [List.mem_cons, List.not_mem_nil, or_false] at hv; rcases hv with rfl | rfl <;> rfl)⟩
  rintro vs h' ⟨b1, b2, hb12, rfl, rfl⟩ hdis ids w2 hp hf
  have hb := hf.blk 0 _ _ rfl
  have h0 : idAt ids 0 ∈ ids := idAt_mem (by rw [hf.len]; exact Nat.zero_lt_one)
  have hid : w.heap.size ≤ idAt ids 0 := (hf.own _ h0).elim id False.elim
  have hne : mem ≠ [] := List.length_pos_iff.1 hS.1
  have Fi : (HX.ints (some ⟨i, 0, none⟩) mem).F i := ⟨hne, rfl⟩
  have s1 := hf.sep i (.inl (.inr Fi))
  have s2 := hf.sep b1 (.inr (.inl rfl))
  have s3 := hf.sep b2 (.inr (.inr rfl))
  have n1 : b1 ≠ i := fun e => (hdis b1 (.inl rfl)).1 (.inr (e ▸ Fi))
  have n2 : b2 ≠ i := fun e => (hdis b2 (.inr rfl)).1 (.inr (e ▸ Fi))
  obtain ⟨a', ea⟩ : ∃ a' : PA, a' = ⟨some ⟨i, 0, none⟩, cap', none, 0, b1, b2, none, 0, none, 0, [HX.ints (some ⟨i, 0, none⟩) mem, pz.hx]⟩ := ⟨_, rfl⟩
  have hGF : ∀ k, (HX.all [HX.ints (some ⟨i, 0, none⟩) mem, pz.hx]).F k → k = i := fun k ⟨x, hx, hk⟩ => by
    rcases List.mem_cons.1 hx with rfl | hx
    · exact hk.2
    · rw [List.mem_singleton.1 hx] at hk
      exact (hk.elim (fun q => absurd rfl q.1) (fun q => absurd rfl q.1) : False).elim
  have hF : ∀ k, (prX (Pr.new me window mem) a').F k → k = i ∨ k = b1 ∨ k = b2 := fun k hk => by
    rw [ea] at hk
    rcases hk with ((((hk | hk) | hk) | hk) | hk) | hk
    · exact .inl (hGF k hk)
    · exact .inr (.inl hk)
    · exact .inr (.inr hk)
    · exact (row0_F hk).elim
    · exact (row0_F hk).elim
    · exact (tow0_F hk).elim
  refine ⟨idAt ids 0, fun k => k = idAt ids 0 ∨ k = i ∨ k = b1 ∨ k = b2, rfl, ⟨_, ⟨Pr.new me window mem, a', rfl, ?_, fun q => ?_, rfl⟩, ⟨?_, ?_⟩, fun k hk => hk.imp id (hF k)⟩, fun k hk => ?_, hf.chg.below⟩
  · rw [ea]
    refine ⟨.head _, .tail _ (.head _), (fun p hp => by cases hp), (fun p hp => by cases hp), (fun p hp => by cases hp), ?_⟩
    intro p q x y hx hy hpq k hk hk2
    have key : ∀ {p : Nat} {x : HX}, (pcs (Pr.new me window mem) ⟨some ⟨i, 0, none⟩, cap', none, 0, b1, b2, none, 0, none, 0, [HX.ints (some ⟨i, 0, none⟩) mem, pz.hx]⟩)[p]? = some x → ∀ k, x.F k → (p = 0 ∧ k = i) ∨ (p = 1 ∧ k = b1) ∨ (p = 2 ∧ k = b2) := fun {p x} hx k hk => by
      match p, hx with
      | 0, hx => cases hx; exact .inl ⟨rfl, hGF k hk⟩
      | 1, hx => cases hx; exact .inr (.inl ⟨rfl, hk⟩)
      | 2, hx => cases hx; exact .inr (.inr ⟨rfl, hk⟩)
      | 3, hx => cases hx; exact (row0_F hk).elim
      | 4, hx => cases hx; exact (row0_F hk).elim
      | 5, hx => cases hx; exact (tow0_F hk).elim
      | n + 6, hx => simp [pcs] at hx
    rcases key hx k hk with ⟨e1, e2⟩ | ⟨e1, e2⟩ | ⟨e1, e2⟩ <;> rcases key hy k hk2 with ⟨e3, e4⟩ | ⟨e3, e4⟩ | ⟨e3, e4⟩ <;> omega
  · rcases hF _ q with e | e | e
    · exact s1.2 (e ▸ h0)
    · exact s2.2 (e ▸ h0)
    · exact s3.2 (e ▸ h0)
  · rw [ea]
    have hb2 : Blk w2 (idAt ids 0) _ 77 := hb
    refine Eq.trans hb2 ?_
    unfold prC Pr.new
    dsimp only
    rw [← eW]; rfl
  · rw [ea]
    refine ⟨⟨⟨⟨⟨fun x hx => ?_, hf.x.2.1⟩, hf.x.2.2⟩, HX.rw_nil _ _ _ _⟩, HX.rw_nil _ _ _ _⟩, HX.tw_nil _ _ _ _⟩
    rcases List.mem_cons.1 hx with rfl | hx
    · exact hf.x.1.2
    · rw [List.mem_singleton.1 hx]
      exact ⟨(fun h => by simp [pz, vz, ccells] at h), (fun h => by simp [pz, vz] at h)⟩
  · rcases hk with rfl | rfl | rfl | rfl
    · exact ⟨hid, hf.id_lt h0⟩
    · exact ⟨hi1, s1.1⟩
    · exact ⟨(hdis _ (.inl rfl)).2.elim id False.elim, s2.1⟩
    · exact ⟨(hdis _ (.inr rfl)).2.elim id False.elim, s3.1⟩
end
end Go.Proofs.Ytlgpjjgkdpmidaa

namespace Go.Eng
open Go.RowKit Go.Syn Go.MapKept Go.Proofs.Ytlgpjjgkdpmidaa
set_option linter.unusedVariables false
def Pr.submit (P : Pr Vl) (v : Vl) : Pr Vl × Int := if valE v ≠ 0 then (P, valE v) else if P.phase ≠ 2 then (P, 65) else if 32 ≤ P.queue.length then (P, 64) else if P.stop = true then (P, 64) else ({ P with queue := P.queue ++ [v], stop := v.k == 2 }, 0)
end Go.Eng
namespace Go.Proofs.Ytlgpjjgkdpmidaa
open Go.ChangeShapes Go.WideShapes Go.ChangeAt Go.RowKit Go.Syn Go.Eng Go.MapKept
set_option linter.unusedVariables false
set_option linter.unusedSimpArgs false
set_option maxRecDepth 100000
theorem nil_and (h : HX) : HX.nil.and h = h := (HX.and_comm _ _).trans (and_nil h)
theorem info_val : (Try.prog.info? 31).map (fun i => (i.zero, i.size, i.bytes)) = some (some (.agg #[.int .i64 0, .slice none 0 0, .slice none 0 0]), 3, 56) := by kernel_rfl
def prVs (D : Pr Pv) (a : PA) : Vals := ⟨[D.me, D.window, D.phase, D.r, D.n, D.frm, D.next], [D.stop], [.map (some a.bb), .map (some a.bo)], [D.mem.length, a.cm, D.said.length, a.cs, D.fresh.length, a.cf, D.queue.length, a.cq], [a.am, a.as_, a.af, a.aq]⟩
theorem pcell_one (p : Pv) : ∀ v ∈ p.cells, v.oneCell' = true := fun v hv => by
  simp only [Pv.cells, List.mem_cons, List.not_mem_nil, or_false] at hv
  rcases hv with rfl | rfl | rfl <;> rfl
section
variable {C : Cfg} {ρ : Env} {pre : List Nat} {rest : HX} {L : Stack} {m m' : Mem} {args : List SV} {r : SV} {t : Tree} {f : Nat}
theorem node_pset {D D' : Pr Pv} {a : PA} {cs0 cs' : List LV} {hp0 : List (Nat × List LV)} (AS : List Nat → Array Value) (hhp : m.hp = (77, cs0) :: hp0) (hhp' : m'.hp = (77, cs') :: hp0) (hargs : ∀ ids, (args.map (SV.den ρ ids)).toArray = AS ids) (hc0 : ∀ ids, cellsDen ρ ids cs0 = prC D a)
    (hcall : ∀ ids w, pre <+: ids → Facts C m ρ ids (rest.and (prX D a)) w → Blk w (idAt ids 0) (prC D a) 77 → ¬ (prX D a).F (idAt ids 0) → (∀ k, (prX D a).F k → k < w.heap.size) → Calls C.P f (AS ids) w (PSet w (idAt ids 0) D a D'))
    (hr : ∀ a' ids, r.den (ρ.add (prVs D' a')) ids = .tuple #[]) (hcs : ∀ a' ids, cellsDen (ρ.add (prVs D' a')) ids cs' = prC D' a') (hdis : ∀ k, (prX D a).F k → ¬ rest.F k ∧ (C.W.heap.size ≤ k ∨ C.M k)) (hfit : hpFits m.c m.hp.length m.hp = true) (hc : ∀ a', (ρ.add (prVs D' a')).cnt = m'.c)
    (h : ∀ a', POk D' a' → (∀ k, (prX D' a').F k → ¬ rest.F k ∧ (C.W.heap.size ≤ k ∨ C.M k)) → t.holds C (ρ.add (prVs D' a')) pre (rest.and (prX D' a')) L) : (Tree.call f args m r m' t).holds C ρ pre (rest.and (prX D a)) L := by
  refine node_touch (h0 := prX D a) AS (fun vs h' => ∃ a', POk D' a' ∧ vs = prVs D' a' ∧ h' = prX D' a') hhp hhp' hargs (fun ids w hp hf => ?_) hdis hfit (fun vs h' ⟨a', _, e1, _⟩ => ?_) (fun vs h' ⟨a', h1, e1, e2⟩ hd => ?_)
  · have hb := hf.blk 0 77 cs0 (by rw [hhp]; rfl)
    rw [hc0] at hb
    have hm0 : idAt ids 0 ∈ ids := idAt_mem (ids := ids) (n := 0) (by rw [hf.len, hhp]; simp)
    refine (hcall ids w hp hf hb (fun q => (hf.sep _ (.inr q)).2 hm0) (fun k hk => (hf.sep k (.inr hk)).1)).mono ?_
    rintro e w' ⟨rfl, a', g1, g2, g3, g4, g5⟩
    exact ⟨prVs D' a', prX D' a', ⟨a', g1, rfl, rfl⟩, by rw [hr], by rw [hcs]; exact g2, g3, g4, g5⟩
  · rw [e1]
    exact ⟨hc a', fun v hv => by
      have hv : v ∈ [Value.map (some a'.bb), Value.map (some a'.bo)] := hv
      simp only [List.mem_cons, List.not_mem_nil, or_false] at hv
      rcases hv with rfl | rfl <;> rfl⟩
  · rw [e1]
    rw [e2] at hd ⊢
    exact h a' h1 hd
end
section
variable {w : World} {nb : Nat} {F : Nat → Prop} {P : Pr Vl}
theorem sub_any (v : Vl) (a1 : Option Addr) (c1 : Nat) (a2 : Option Addr) (c2 : Nat) (H0 : (HX.obj F (PrO nb P)).X w) (hF : ∀ k, F k → k < w.heap.size) (H : VlAt w v a1 a2) (hv : ∀ k, (vlX v a1 a2).F k → ¬ F k) :
    Calls Try.prog 17 #[.pointer (some ⟨nb, 0, none⟩), vlV v a1 c1 a2 c2] w (PrMut w F nb (P.submit v).1 (.int .i64 (P.submit v).2)) := by
  obtain ⟨D, a, hP, hok, hnb, hB, hX, Fnb, hsub⟩ := pobj_open H0
  have hsep : ∀ k, ((vlX v a1 a2).and (prX D a)).F k → k < w.heap.size ∧ k ≠ nb := fun k hk => hk.elim (fun q => ⟨vlX_sep H.X k q, fun e => hv k q (e ▸ Fnb)⟩) (fun q => ⟨hF k (hsub k q), fun e => hnb (e ▸ q)⟩)
  refine calls_at (tab_ok _) Try.func17 rfl tPSub (ρ := ⟨[D.me, D.window, D.phase, D.r, D.n, D.frm, D.next, v.k], [D.stop], [.map (some a.bb), .map (some a.bo)], [D.mem.length, a.cm, D.said.length, a.cs, D.fresh.length, a.cf, D.queue.length, a.cq, v.cs.length, c1, v.ns.length, c2], [a.am, a.as_, a.af, a.aq, a1, a2]⟩) (ids := [nb]) (hx := (vlX v a1 a2).and (prX D a)) rfl (Facts.initx (M := F) rfl (fun v hv => by simp only [List.mem_cons, List.not_mem_nil, or_false] at hv; rcases hv with rfl | rfl <;> rfl) hB rfl Fnb ⟨H.X, hX⟩ hsep) ?_
  have same : ∀ {m : Cnt} {rr : List (Nat × List LV)} {ρ : Env} {S : Stack} {cs : List LV} {sv : SV} {e : Int}, P.submit v = (P, e) → (∀ ids, cellsDen ρ ids cs = prC D a) → (∀ ids, sv.den ρ ids = .int .i64 e) → (Tree.done sv ⟨(77, cs) :: rr, m⟩).holds ⟨Try.prog, w, F, PrMut w F nb (P.submit v).1 (.int .i64 (P.submit v).2)⟩ ρ [nb] ((vlX v a1 a2).and (prX D a)) S := fun h hc hs => by
    rw [h]
    exact pr_done hP hok (fun w h => h.2) (fun k hk => .inr hk) (fun k hk => .inl (hsub k hk)) Fnb hc hs
  have hph : P.phase = D.phase := by rw [← hP]; rfl
  have hql : P.queue.length = D.queue.length := by rw [← hP]; show (D.queue.map Pv.v).length = _; rw [List.length_map]
  have hst : P.stop = D.stop := by rw [← hP]; rfl
  refine node_PI ⟨[valE v], [], [], [], []⟩ (fun _ => #[vlV v a1 c1 a2 c2]) (.int .i64 (valE v)) (by intros; kernel_rfl) (by intros; kernel_rfl) (by kernel_rfl) (by kernel_rfl) (by kernel_rfl) oneNil (fun ids w2 hp hf => vchk_any v a1 c1 a2 c2 w2 (H.fit.at_ hf.x.1)) ?_
  refine br_B (valE v != 0) (by kernel_rfl) (fun h => ?_) (fun h => ?_)
  · have h : valE v ≠ 0 := by simpa using h
    refine node_PI ⟨[valE v], [], [], [], []⟩ (fun _ => #[vlV v a1 c1 a2 c2]) (.int .i64 (valE v)) (by intros; kernel_rfl) (by intros; kernel_rfl) (by kernel_rfl) (by kernel_rfl) (by kernel_rfl) oneNil (fun ids w2 hp hf => vchk_any v a1 c1 a2 c2 w2 (H.fit.at_ hf.x.1)) ?_
    exact same (by unfold Pr.submit; rw [if_pos h]) (by intros; kernel_rfl) (by intros; kernel_rfl)
  have h1 : ¬ valE v ≠ 0 := by simpa using h
  refine br_B (D.phase != 2) (by kernel_rfl) (fun h => ?_) (fun h => ?_)
  · have h : D.phase ≠ 2 := by simpa using h
    exact same (by unfold Pr.submit; rw [if_neg h1, if_pos (by rw [hph]; exact h)]) (by intros; kernel_rfl) (by intros; kernel_rfl)
  have h2 : ¬ P.phase ≠ 2 := by rw [hph]; simpa using h
  refine br_D (p := (D.queue.length : Int) ≥ 32) (by kernel_rfl) (fun h => ?_) (fun h => ?_)
  · exact same (by unfold Pr.submit; rw [if_neg h1, if_neg h2, if_pos (by omega)]) (by intros; kernel_rfl) (by intros; kernel_rfl)
  have h3 : ¬ 32 ≤ P.queue.length := by omega
  refine br_B D.stop (by kernel_rfl) (fun h => ?_) (fun h => ?_)
  · exact same (by unfold Pr.submit; rw [if_neg h1, if_neg h2, if_neg h3, if_pos (by rw [hst]; exact h)]) (by intros; kernel_rfl) (by intros; kernel_rfl)
  have hS : P.submit v = ({ P with queue := P.queue ++ [v], stop := v.k == 2 }, 0) := by unfold Pr.submit; rw [if_neg h1, if_neg h2, if_neg h3, if_neg (by rw [hst, h]; decide)]
  rw [hS]
  clear same hS
  refine par_i ?x ?y
  case' x =>
    refine node_vl (V := id) (v := v) (fun _ => #[vlV v a1 c1 a2 c2]) (fun b1 d1 b2 d2 => ⟨[v.k], [], [], [v.cs.length, d1, v.ns.length, d2], [b1, b2]⟩) (by intros; kernel_rfl) (fun ids w2 hp hf => vclone_any v a1 c1 a2 c2 w2 (H.fit.at_ hf.x.1)) (by intros; kernel_rfl) (by kernel_rfl) (by kernel_rfl) (by intros; kernel_rfl) (fun _ _ _ _ => oneNil) ?_
    intro b1 d1 b2 d2 hfr
  case' y =>
    refine node_vl (V := id) (v := v) (fun _ => #[vlV v a1 c1 a2 c2]) (fun b1 d1 b2 d2 => ⟨[v.k], [], [], [v.cs.length, d1, v.ns.length, d2], [b1, b2]⟩) (by intros; kernel_rfl) (fun ids w2 hp hf => vclone_any v a1 c1 a2 c2 w2 (H.fit.at_ hf.x.1)) (by intros; kernel_rfl) (by kernel_rfl) (by kernel_rfl) (by intros; kernel_rfl) (fun _ _ _ _ => oneNil) ?_
    intro b1 d1 b2 d2 hfr
    refine par_i ?_ ?_
  all_goals
    obtain ⟨p, ep⟩ : ∃ p : Pv, p = ⟨v, b1, d1, b2, d2⟩ := ⟨_, rfl⟩
    have epx : vlX v b1 b2 = p.hx := by rw [ep]; rfl
    rw [epx] at hfr ⊢
    obtain ⟨R, eR⟩ : ∃ R, R = (((((vlX v a1 a2).and p.hx).and (HX.all a.G)).and (HX.vmap a.bb (mmap voV D.best))).and (HX.vmap a.bo (mmap Pv.val D.out))).and ((irow a.as_ a.cs D.said).and (irow a.af a.cf D.fresh)) := ⟨_, rfl⟩
    have e1 : ((vlX v a1 a2).and (prX D a)).and p.hx = R.and (qrow a.aq a.cq D.queue) := by rw [eR]; unfold prX; ac_rfl
    refine holds_eq e1 ?_
    refine node_pusht (e := 31) (sz := 3) rfl Try.underlying57 info_val rfl (by decide) a.aq D.queue.length a.cq (qcs D.queue) p.cells 2 (by intros; kernel_rfl) (by intros; kernel_rfl) rfl (fun ids => by rw [ep]; kernel_rfl) rfl (pcell_one p) (fun k q1 q2 => ?_) (fun k q1 q2 => .inr (hsub k (pcs_F (b := qrow a.aq a.cq D.queue) (by simp [pcs]) ⟨q1, q2⟩))) (by unfold maxLen; omega) (by omega) (by intros; kernel_rfl) (by kernel_rfl) (by kernel_rfl) (by intros; kernel_rfl) ?_
    · have hk : (qrow a.aq a.cq D.queue).F k := ⟨q1, q2⟩
      have hkX : (prX D a).F k := pcs_F (b := qrow a.aq a.cq D.queue) (by simp [pcs]) hk
      rw [eR]
      rintro (((((q | q) | q) | q) | q) | (q | q))
      · exact hv k q (hsub k hkX)
      · exact (hfr k q).2 (.inr hkX)
      · exact dj_at hok.dj (i := 5) rfl hk 0 rfl (by decide) q
      · exact dj_at hok.dj (i := 5) rfl hk 1 rfl (by decide) q
      · exact dj_at hok.dj (i := 5) rfl hk 2 rfl (by decide) q
      · exact dj_at hok.dj (i := 5) rfl hk 3 rfl (by decide) q
      · exact dj_at hok.dj (i := 5) rfl hk 4 rfl (by decide) q
    intro aq' cq' hc' hr' hor'
    obtain ⟨D', eD⟩ : ∃ D' : Pr Pv, D' = { D with queue := D.queue ++ [p], stop := p.v.k == 2 } := ⟨_, rfl⟩
    have hrow : HX.tw 3 31 aq' (D.queue.length + 1) cq' (qcs D.queue ++ p.cells) = qrow aq' cq' (D.queue ++ [p]) := by
      unfold qrow qcs; rw [List.length_append, List.flatMap_append]; simp
    have hFr : ∀ k, (qrow aq' cq' (D.queue ++ [p])).F k → (qrow a.aq a.cq D.queue).F k ∨ (w.heap.size ≤ k ∧ ¬ (R.and (qrow a.aq a.cq D.queue)).F k) := fun k hk => by
      rcases hor' with ⟨r1, r2⟩ | ⟨g, r1, r2, r3⟩
      · exact .inl ⟨r1, by rw [← r2]; exact hk.2⟩
      · have : g = k := Option.some.inj (r1.symm.trans hk.2)
        subst this
        exact .inr ⟨r2, r3⟩
    have hin : ∀ b ∈ pcs D a, ∀ k, b.F k → (R.and (qrow a.aq a.cq D.queue)).F k := fun b hb k hk => by
      rw [← e1]; exact .inl (.inr (pcs_F hb hk))
    have hG : ∀ k, (HX.all (p.hx :: a.G)).F k → (HX.all a.G).F k ∨ p.hx.F k := fun k ⟨x, hx, hk⟩ => by
      rcases List.mem_cons.1 hx with rfl | hx
      · exact .inr hk
      · exact .inl ⟨x, hx, hk⟩
    have hok' : POk D' { a with aq := aq', cq := cq', G := p.hx :: a.G } := by
      rw [eD]
      refine ⟨.tail _ hok.gm, .tail _ hok.gz, (fun q hq => ⟨.tail _ (hok.gb q hq).1, (hok.gb q hq).2⟩), (fun q hq => ⟨.tail _ (hok.go q hq).1, (hok.go q hq).2⟩), (fun q hq => ?_), ?_⟩
      · rcases List.mem_append.1 hq with hq | hq
        · exact ⟨.tail _ (hok.gq q hq).1, (hok.gq q hq).2⟩
        · rw [List.mem_singleton.1 hq]
          exact ⟨.head _, by rw [ep]; exact H.fit⟩
      · have d1 := hok.dj.set (i := 0) (a' := HX.all (p.hx :: a.G)) rfl fun k hk => (hG k hk).imp id fun q b hb z => (hfr k q).2 (.inr (pcs_F hb z))
        refine d1.set (i := 5) (a' := qrow aq' cq' (D.queue ++ [p])) rfl fun k hk => (hFr k hk).imp id fun q b hb z => q.2 ?_
        simp only [pcs, List.set_cons_zero, List.mem_cons, List.not_mem_nil, or_false] at hb
        rcases hb with rfl | rfl | rfl | rfl | rfl | rfl
        · rcases hG k z with z | z
          · exact hin _ (by simp [pcs]) k z
          · rw [← e1]; exact .inr z
        · exact hin _ (by simp [pcs]) k z
        · exact hin _ (by simp [pcs]) k z
        · exact hin _ (by simp [pcs]) k z
        · exact hin _ (by simp [pcs]) k z
        · exact hin _ (by simp [pcs]) k z
    rw [hrow]
    refine pr_done (D' := D') (a' := { a with aq := aq', cq := cq', G := p.hx :: a.G }) ?_ hok' (fun w h => ?_) (fun k hk => ?_) (fun k hk => ?_) Fnb (fun ids => ?_) (by intros; kernel_rfl)
    · rw [eD, ← hP]
      unfold Pr.map
      dsimp only
      rw [List.map_append, ep]; rfl
    · rw [eR] at h
      rw [eD]
      refine ⟨⟨⟨⟨⟨fun x hx => ?_, h.1.1.1.2⟩, h.1.1.2⟩, h.1.2.1⟩, h.1.2.2⟩, h.2⟩
      rcases List.mem_cons.1 hx with rfl | hx
      · exact h.1.1.1.1.1.2
      · exact h.1.1.1.1.2 x hx
    · rw [eD] at hk
      rw [eR]
      rcases hk with ((((hk | hk) | hk) | hk) | hk) | hk
      · exact (hG k hk).elim (fun q => .inl (.inl (.inl (.inl (.inr q))))) fun q => .inl (.inl (.inl (.inl (.inl (.inr q)))))
      · exact .inl (.inl (.inl (.inr hk)))
      · exact .inl (.inl (.inr hk))
      · exact .inl (.inr (.inl hk))
      · exact .inl (.inr (.inr hk))
      · exact .inr hk
    · rw [eD] at hk
      rcases hk with ((((hk | hk) | hk) | hk) | hk) | hk
      · exact (hG k hk).elim (fun q => .inl (hsub k (pcs_F (D := D) (a := a) (by simp [pcs]) q))) fun q => .inr (hfr k q).1
      · exact .inl (hsub k (pcs_F (D := D) (a := a) (b := HX.vmap a.bb (mmap voV D.best)) (by simp [pcs]) hk))
      · exact .inl (hsub k (pcs_F (D := D) (a := a) (b := HX.vmap a.bo (mmap Pv.val D.out)) (by simp [pcs]) hk))
      · exact .inl (hsub k (pcs_F (D := D) (a := a) (b := irow a.as_ a.cs D.said) (by simp [pcs]) hk))
      · exact .inl (hsub k (pcs_F (D := D) (a := a) (b := irow a.af a.cf D.fresh) (by simp [pcs]) hk))
      · exact (hFr k hk).elim (fun q => .inl (hsub k (pcs_F (D := D) (a := a) (b := qrow a.aq a.cq D.queue) (by simp [pcs]) q))) fun q => .inr q.1
    · rw [eD]
      unfold prC
      dsimp only
      rw [List.length_append, ep]; kernel_rfl
end
end Go.Proofs.Ytlgpjjgkdpmidaa

namespace Go.Proofs.Ytlgpjjgkdpmidaa
open Go.ChangeShapes Go.WideShapes Go.ChangeAt Go.RowKit Go.Syn Go.Eng Go.MapKept
set_option linter.unusedVariables false
set_option linter.unusedSimpArgs false
set_option maxRecDepth 100000
def prepM (r n frm : Int) : Value := .agg #[.int .i64 1, .int .i64 0, .int .i64 0, .int .i64 0, .int .i64 r, .int .i64 n, .int .i64 frm, .int .i64 0, .int .i64 0, .int .i64 0, .slice none 0 0, .slice none 0 0, .slice none 0 0, .int .i64 0, .int .i64 0, .int .i64 0, .int .i64 0, .int .i64 0, .int .i64 0, .int .i64 0, .int .i64 0, .int .i64 0, .int .i64 0, .int .i64 0, .slice none 0 0]
def accM (r n slot : Int) (k x y : Value) : Value := .agg #[.int .i64 4, .int .i64 0, .int .i64 0, .int .i64 0, .int .i64 r, .int .i64 n, .int .i64 slot, .int .i64 0, .int .i64 0, k, x, y, .slice none 0 0, .int .i64 0, .int .i64 0, .int .i64 0, .int .i64 0, .int .i64 0, .int .i64 0, .int .i64 0, .int .i64 0, .int .i64 0, .int .i64 0, .int .i64 0, .slice none 0 0]
def accV (r n slot : Int) (v : Value) : Value := match v with | .agg cs => accM r n slot (cs.getD 0 (.int .i64 0)) (cs.getD 1 (.int .i64 0)) (cs.getD 2 (.int .i64 0)) | v => v
section
variable {w : World} {nb : Nat} {F : Nat → Prop} {P : Pr Vl} {D : Pr Pv} {a : PA}
theorem camp_any (r n frm : Int) (H0 : (HX.obj F (PrO nb P)).X w) (hF : ∀ k, F k → k < w.heap.size) (h1 : 1 ≤ frm ∧ frm ≤ 1099511627776) (h2 : balB r n = true) (h3 : n = P.me) (h4 : ¬ compareV r n P.r P.n ≤ 0) :
    Calls Try.prog 9 #[.pointer (some ⟨nb, 0, none⟩), .agg #[.int .i64 r, .int .i64 n], .int .i64 frm] w (PrMut w F nb (P.begin r n frm) (.tuple #[prepM r n frm, .int .i64 0])) := by
  obtain ⟨D, a, hP, hok, hnb, hB, hX, Fnb, hsub⟩ := pobj_open H0
  refine calls_at (tab_ok _) Try.func9 rfl tPCamp (ρ := ⟨[D.me, D.window, D.phase, D.r, D.n, D.frm, D.next, r, n, frm], [D.stop], [.map (some a.bb), .map (some a.bo)], [D.mem.length, a.cm, D.said.length, a.cs, D.fresh.length, a.cf, D.queue.length, a.cq], [a.am, a.as_, a.af, a.aq]⟩) (ids := [nb]) (hx := prX D a) rfl (Facts.initx (M := F) rfl (fun v hv => by simp only [List.mem_cons, List.not_mem_nil, or_false] at hv; rcases hv with rfl | rfl <;> rfl) hB rfl Fnb hX (fun k hk => ⟨hF k (hsub k hk), fun e => hnb (e ▸ hk)⟩)) ?_
  have hme : n = D.me := by rw [h3, ← hP]; rfl
  have h4 : ¬ compareV r n D.r D.n ≤ 0 := by rw [← hP] at h4; exact h4
  refine br_D (p := frm < 1) (by kernel_rfl) (fun h => absurd h (by omega)) (fun _ => ?_)
  refine br_D (p := frm > 1099511627776) (by kernel_rfl) (fun h => absurd h (by omega)) (fun _ => ?_)
  refine node_PI ⟨[], [true], [], [], []⟩ (fun _ => #[.agg #[.int .i64 r, .int .i64 n]]) (.bool true) (by intros; kernel_rfl) (by intros; kernel_rfl) (by kernel_rfl) (by kernel_rfl) (by kernel_rfl) oneNil (fun ids w2 hp hf => ?_) ?_
  · have := valid_any r n w2
    rw [h2] at this; exact this
  refine br_F false (by kernel_rfl) rfl ?_
  refine br_F (n != D.me) (by kernel_rfl) (by rw [hme]; simp) ?_
  refine node_PI ⟨[compareV r n D.r D.n], [], [], [], []⟩ (fun _ => #[.agg #[.int .i64 r, .int .i64 n], .agg #[.int .i64 D.r, .int .i64 D.n]]) (.int .i64 (compareV r n D.r D.n)) (by intros; kernel_rfl) (by intros; kernel_rfl) (by kernel_rfl) (by kernel_rfl) (by kernel_rfl) oneNil (fun ids w2 hp hf => compare_any r n D.r D.n w2) ?_
  refine br_D (p := compareV r n D.r D.n ≤ 0) (by kernel_rfl) (fun h => absurd h h4) (fun _ => ?_)
  refine holds_eq (nil_and _).symm ?_
  refine node_pset (D := D) (D' := D.down) (a := a) (fun ids => #[.pointer (some ⟨idAt ids 0, 0, none⟩)]) rfl rfl (by intros; kernel_rfl) (by intros; kernel_rfl) (fun ids w2 hp hf hb hn hs => down_any hb hf.x.2 hok hn hs) (by intros; kernel_rfl) (by intros; kernel_rfl) (fun k hk => ⟨fun q => q, .inr (hsub k hk)⟩) (by kernel_rfl) (by intros; kernel_rfl) ?_
  intro a' hok' hdis
  refine node_PI ⟨[1, 0, 0, 0, r, n, frm, 0, 0, 0, 0, 0, 0, 0, 0, 0, 0, 0, 0, 0, 0], [], [], [0, 0, 0, 0, 0, 0, 0, 0], [none, none, none, none]⟩ (fun ids => #[.pointer (some ⟨idAt ids 0, 0, none⟩)]) (prepM r n frm) (by intros; kernel_rfl) (by intros; kernel_rfl) (by kernel_rfl) (by kernel_rfl) (by kernel_rfl) oneNil (fun ids w2 hp hf => ?_) ?_
  · have hb := hf.blk 0 77 _ rfl
    have hm0 : idAt ids 0 ∈ ids := idAt_mem (ids := ids) (n := 0) (by rw [hf.len]; simp)
    have hb : Blk w2 (idAt ids 0) (prC (D.begin r n frm) a') 77 := hb
    exact prep_any (D := D.begin r n frm) (a := a') hb hf.x.2 (fun q => (hf.sep _ (.inr q)).2 hm0) (fun k hk => (hf.sep k (.inr hk)).1)
  refine pr_done (D' := D.begin r n frm) (a' := a') (by rw [← hP]; rfl) ⟨hok'.gm, hok'.gz, hok'.gb, hok'.go, hok'.gq, hok'.dj⟩ (fun w h => h.2) (fun k hk => .inr hk) (fun k hk => ((hdis k hk).2).symm) Fnb (by intros; kernel_rfl) (by intros; kernel_rfl)
theorem acc_any (slot : Int) (hB : Blk w nb (prC D a) 77) (hX : (prX D a).X w) (hok : POk D a) (hnb : ¬ (prX D a).F nb) (hD : ∀ k, (prX D a).F k → k < w.heap.size) : Calls Try.prog 45 #[.pointer (some ⟨nb, 0, none⟩), .int .i64 slot] w (VlNew w (accV D.r D.n slot) ((mlk D.out slot).getD pz).v) := by
  obtain ⟨p, ep⟩ : ∃ p, p = (mlk D.out slot).getD pz := ⟨_, rfl⟩
  have hp : p.hx ∈ a.G ∧ VlFit p.v := by
    rw [ep]
    cases e : mlk D.out slot with
    | none => exact ⟨hok.gz, vz_fit⟩
    | some x => exact hok.go _ (mlk_mem e)
  refine calls_at (tab_ok _) Try.func45 rfl tPAcc (ρ := ⟨[D.me, D.window, D.phase, D.r, D.n, D.frm, D.next, slot], [D.stop], [.map (some a.bb), .map (some a.bo)], [D.mem.length, a.cm, D.said.length, a.cs, D.fresh.length, a.cf, D.queue.length, a.cq], [a.am, a.as_, a.af, a.aq]⟩) (ids := [nb]) (hx := prX D a) rfl (Facts.initx (M := fun k => k = nb) rfl (fun v hv => by simp only [List.mem_cons, List.not_mem_nil, or_false] at hv; rcases hv with rfl | rfl <;> rfl) hB rfl rfl hX (fun k hk => ⟨hD k hk, fun e => hnb (e ▸ hk)⟩)) ?_
  refine node_vlook1 (z := pz.val) (mt := 75) (kt := 3) (et := 31) ⟨[p.v.k], [], [], [p.v.cs.length, p.c1, p.v.ns.length, p.c2], [p.a1, p.a2]⟩ a.bo (mmap Pv.val D.out) slot (fun w h => h.1.1.1.2) (by intros; kernel_rfl) (by intros; kernel_rfl) Try.underlying75 Try.underlying3 (fun w => by kernel_rfl) (fun ids => ?_) (by kernel_rfl) (by kernel_rfl) (by kernel_rfl) oneNil ?_
  · have : (vlk (mmap Pv.val D.out) slot).getD pz.val = p.val := by
      rw [vlk_is, mlk_map, ep]
      cases mlk D.out slot <;> rfl
    exact Eq.trans (b := p.val) (by kernel_rfl) this.symm
  rw [← ep]
  refine node_vl (V := id) (v := p.v) (fun _ => #[p.val]) (fun b1 d1 b2 d2 => ⟨[p.v.k], [], [], [p.v.cs.length, d1, p.v.ns.length, d2], [b1, b2]⟩) (by intros; kernel_rfl) (fun ids w2 hp2 hf => vclone_any _ _ _ _ _ w2 (hp.2.at_ (hf.x.1.1.1.1.1 _ hp.1))) (by intros; kernel_rfl) (by kernel_rfl) (by kernel_rfl) (by intros; kernel_rfl) (fun _ _ _ _ => oneNil) ?_
  intro b1 d1 b2 d2 hfr ids w2 hp2 hf
  exact ⟨b1, d1, b2, d2, rfl, hf.x.2, fun k hk => (hfr k hk).1, (hf.chg.same (hf.same1 hp2 hB rfl)).below⟩
end
end Go.Proofs.Ytlgpjjgkdpmidaa

namespace Go.Proofs.Ytlgpjjgkdpmidaa
open Go.ChangeShapes Go.WideShapes Go.ChangeAt Go.RowKit Go.Syn Go.Eng Go.MapKept
set_option linter.unusedVariables false
set_option linter.unusedSimpArgs false
set_option maxRecDepth 100000
theorem mdel_lt {α : Type} {m : List (Int × α)} {p : Int × α} (h : p ∈ m) : (mdel m p.1).length < m.length := by
  unfold mdel
  refine Nat.lt_of_le_of_ne (List.length_filter_le _ _) fun e => ?_
  have := List.length_filter_eq_length_iff.1 e p h
  simp at this
theorem top_ge {α : Type} : ∀ (best : List (Int × Vo α)) (x : Int), x ≤ topOf best x ∧ (∀ p ∈ best, p.1 + 1 ≤ topOf best x) ∧ (topOf best x = x ∨ ∃ p ∈ best, topOf best x = p.1 + 1)
  | [], x => ⟨Int.le_refl _, (fun p hp => by cases hp), .inl rfl⟩
  | q :: r, x => by
    obtain ⟨h1, h2, h3⟩ := top_ge r (max x (q.1 + 1))
    have e : topOf (q :: r) x = topOf r (max x (q.1 + 1)) := rfl
    rw [e]
    refine ⟨by omega, fun p hp => ?_, ?_⟩
    · rcases List.mem_cons.1 hp with rfl | hp
      · omega
      · exact h2 p hp
    · rcases h3 with h3 | ⟨p, hp, h3⟩
      · rcases Int.le_total x (q.1 + 1) with h | h
        · exact .inr ⟨q, List.mem_cons_self, by omega⟩
        · exact .inl (by omega)
      · exact .inr ⟨p, List.mem_cons_of_mem _ hp, h3⟩
theorem top_is {α : Type} {best : List (Int × Vo α)} {x y : Int} (h1 : x ≤ y) (h2 : ∀ p ∈ best, p.1 + 1 ≤ y) (h3 : y = x ∨ ∃ p ∈ best, y = p.1 + 1) : topOf best x = y := by
  obtain ⟨g1, g2, g3⟩ := top_ge best x
  refine Int.le_antisymm ?_ ?_
  · rcases g3 with g3 | ⟨p, hp, g3⟩
    · omega
    · have := h2 p hp; omega
  · rcases h3 with h3 | ⟨p, hp, h3⟩
    · omega
    · have := g2 p hp; omega
section
variable {D D' : Pr Pv} {a a' : PA} {nb : Nat} {w : World}
theorem pset_done2 {cs : List LV} {r : List (Nat × List LV)} {n : Cnt} {v : SV} {ρ : Env} {hx : HX} {S : Stack} (hok : POk D' a') (hX : ∀ w, hx.X w → (prX D' a').X w) (hF : ∀ k, (prX D' a').F k → hx.F k ∧ (w.heap.size ≤ k ∨ (k = nb ∨ (prX D a).F k))) (hc : ∀ ids, cellsDen ρ ids cs = prC D' a') (hv : ∀ ids, v.den ρ ids = .tuple #[]) :
    (Tree.done v ⟨(77, cs) :: r, n⟩).holds ⟨Try.prog, w, fun k => k = nb ∨ (prX D a).F k, PSet w nb D a D'⟩ ρ [nb] hx S := fun ids w2 hp hf => by
  have h := hf.blk 0 77 cs rfl
  have hmem : nb ∈ ids := by obtain ⟨x, rfl⟩ := hp; simp
  rw [idAt0 hp, hc] at h
  refine ⟨by rw [hv], a', hok, h, hX w2 hf.x, fun k hk => ⟨?_, (hf.sep k (hF k hk).1).1⟩, hf.chg⟩
  rcases (hF k hk).2 with q | q | q
  · exact .inr q
  · exact absurd hmem (q ▸ (hf.sep k (hF k hk).1).2)
  · exact .inl q
def Ld2 (D : Pr Pv) (a : PA) (it : Nat) (vs : Vals) (hx : HX) (m : Nat) : Prop := ∃ (y : Int) (ls : List (Int × Vo Pv)) (last : Option (Int × Value)), m = ls.length ∧ D.frm ≤ y ∧ (∀ p ∈ D.best, p ∈ ls ∨ p.1 + 1 ≤ y) ∧ (y = D.frm ∨ ∃ p ∈ D.best, y = p.1 + 1) ∧ (∀ p ∈ ls, p ∈ D.best) ∧ vs = prVs { D with phase := 2, next := y } a ∧ hx = (prX D a).and (HX.rng it a.bb (mmap voV D.best) (mmap voV ls) last)
def Ld6 (w : World) (nb : Nat) (D : Pr Pv) (a : PA) (y : Int) (vs : Vals) (hx : HX) (m : Nat) : Prop := ∃ (s : Int) (Dc : Pr Pv) (ac : PA), m = (y - s).toNat ∧ D.frm ≤ s ∧ s ≤ y ∧ vs = ⟨s :: (prVs Dc ac).i, (prVs Dc ac).b, (prVs Dc ac).v, (prVs Dc ac).n, (prVs Dc ac).a⟩ ∧ POk Dc ac ∧ Dc.next = y ∧ Dc.best = D.best ∧ (Dc.fresh.length : Int) ≤ D.fresh.length + (s - D.frm) ∧ Pr.askTo kdP pz (y - s).toNat s Dc = Pr.askTo kdP pz (y - D.frm).toNat D.frm { D with phase := 2, next := y } ∧ (∀ k, (prX Dc ac).F k → w.heap.size ≤ k ∨ (k = nb ∨ (prX D a).F k)) ∧ hx = HX.nil.and (prX Dc ac)
theorem lead_any (hB : Blk w nb (prC D a) 77) (hX : (prX D a).X w) (hok : POk D a) (hnb : ¬ (prX D a).F nb) (hD : ∀ k, (prX D a).F k → k < w.heap.size) (hfr : 1 ≤ D.frm ∧ D.frm ≤ 1099511627776) (hbb : ∀ p ∈ D.best, D.frm ≤ p.1 ∧ p.1 ≤ D.frm + 63) (hl : D.fresh.length ≤ 1000) : Calls Try.prog 43 #[.pointer (some ⟨nb, 0, none⟩)] w (PSet w nb D a (D.lead kdP pz)) := by
  refine calls_at (tab_ok _) Try.func43 rfl tPLead (ρ := ⟨[D.me, D.window, D.phase, D.r, D.n, D.frm, D.next], [D.stop], [.map (some a.bb), .map (some a.bo)], [D.mem.length, a.cm, D.said.length, a.cs, D.fresh.length, a.cf, D.queue.length, a.cq], [a.am, a.as_, a.af, a.aq]⟩) (ids := [nb]) (hx := prX D a) rfl (Facts.initx (M := fun k => k = nb ∨ (prX D a).F k) rfl (fun v hv => by simp only [List.mem_cons, List.not_mem_nil, or_false] at hv; rcases hv with rfl | rfl <;> rfl) hB rfl (.inl rfl) hX (fun k hk => ⟨hD k hk, fun e => hnb (e ▸ hk)⟩)) ?_
  obtain ⟨y, ey⟩ : ∃ y, y = topOf D.best D.frm := ⟨_, rfl⟩
  obtain ⟨g1, g2, g3⟩ := top_ge D.best D.frm
  rw [← ey] at g1 g2 g3
  have hy : y ≤ D.frm + 64 := by
    rcases g3 with g3 | ⟨p, hp, g3⟩
    · omega
    · have := (hbb p hp).2; omega
  have elead : D.lead kdP pz = { Pr.askTo kdP pz (y - D.frm).toNat D.frm { D with phase := 2, next := y } with best := [] } := by rw [ey]; rfl
  rw [elead]
  refine ⟨fun vs hx' => vs = prVs { D with phase := 2, next := y } a ∧ hx' = prX D a, ?_, ?_⟩
  · refine node_vrangeX (mt := 74) (kt := 3) (et := 49) a.bb (mmap voV D.best) (fun w h => h.1.1.1.1.2) (pcs_F (b := HX.vmap a.bb (mmap voV D.best)) (by simp [pcs]) rfl) (by intros; kernel_rfl) Try.underlying74 (by intros; kernel_rfl) (by kernel_rfl) (by kernel_rfl) (by intros; kernel_rfl) ?_
    intro it hi1 hi2
    refine ⟨Ld2 D a it, fun ids w2 hp hf => ⟨_, D.best.length, ⟨hf.x, hf.sep⟩, D.frm, D.best, none, rfl, Int.le_refl _, fun p hp => .inl hp, .inl rfl, fun p hp => hp, by kernel_rfl, rfl⟩, ?_⟩
    rintro vs hx' n hcnt ⟨z, ls, last, rfl, q1, q2, q3, q4, rfl, rfl⟩
    refine node_vnext it a.bb (mmap voV D.best) (mmap voV ls) last hi1 hi2 (by intros; kernel_rfl) (by kernel_rfl) (by kernel_rfl) (fun h0 => ?_) (fun k v h1 h2 => ?_)
    · refine ⟨⟨[0, 0, 0, 0, 0], [false], [], [0, 0, 0, 0], [none, none]⟩, (by intros; kernel_rfl), by kernel_rfl, oneNil, br_F false (by kernel_rfl) rfl ?_⟩
      have h0 : ls = [] := by unfold mmap at h0; exact List.map_eq_nil_iff.1 h0
      have ez : z = y := by
        rw [ey]
        exact (top_is q1 (fun p hp => (q2 p hp).elim (fun r => by rw [h0] at r; cases r) id) q3).symm
      exact again_V (prVs { D with phase := 2, next := z } a) rfl (by intros; kernel_rfl) (prX D a) (fun w2 ids hf => ⟨hf.x.1, fun k hk => hf.sep k (.inl hk)⟩) ⟨by rw [ez], rfl⟩
    · obtain ⟨⟨k2, x⟩, hp1, hp2⟩ := List.mem_map.1 h1
      obtain ⟨rfl, rfl⟩ := Prod.mk.inj hp2
      have hb2 := hbb _ (q4 _ hp1)
      refine ⟨⟨[k2, x.s, x.r, x.n, x.v.v.k], [true], [], [x.v.v.cs.length, x.v.c1, x.v.v.ns.length, x.v.c2], [x.v.a1, x.v.a2]⟩, (by intros; kernel_rfl), by kernel_rfl, oneNil, br_T true (by kernel_rfl) rfl ?_⟩
      refine node_ventry ⟨[k2, x.s, x.r, x.n, x.v.v.k], [], [], [x.v.v.cs.length, x.v.c1, x.v.v.ns.length, x.v.c2], [x.v.a1, x.v.a2]⟩ it a.bb _ _ k2 (voV x) (by intros; kernel_rfl) (by intros; kernel_rfl) (by kernel_rfl) (by kernel_rfl) (by kernel_rfl) oneNil ?_
      have hw : IntKind.i64.wrap (k2 + 1) = k2 + 1 := wrap_i64 (by have : D.frm ≤ k2 ∧ k2 ≤ D.frm + 63 := hb2; omega)
      refine again_V (prVs { D with phase := 2, next := max z (k2 + 1) } a) rfl (fun ids => by rw [← hw]; kernel_rfl) _ (fun w2 ids hf => ⟨hf.x, hf.sep⟩) ⟨(mdel ls k2).length, mdel_lt hp1, max z (k2 + 1), mdel ls k2, some (k2, voV x), rfl, by omega, fun p hp => ?_, ?_, fun p hp => q4 p (mdel_in.1 hp).1, rfl, ?_⟩
      · by_cases e : p.1 = k2
        · exact .inr (by omega)
        · exact (q2 p hp).imp (fun r => mdel_in.2 ⟨r, e⟩) (by omega)
      · rcases Int.le_total z (k2 + 1) with h | h
        · exact .inr ⟨_, q4 _ hp1, by show max z (k2 + 1) = k2 + 1; omega⟩
        · rw [show max z (k2 + 1) = z by omega]; exact q3
      · rw [vdel_is, mdel_map]
  rintro vs hx' hcnt ⟨rfl, rfl⟩
  refine ⟨Ld6 w nb D a y, fun ids w2 hp hf => ⟨HX.nil.and (prX D a), (y - D.frm).toNat, ⟨⟨trivial, hf.x⟩, fun k hk => hk.elim False.elim (hf.sep k)⟩, D.frm, { D with phase := 2, next := y }, a, rfl, Int.le_refl _, g1, by kernel_rfl, ⟨hok.gm, hok.gz, hok.gb, hok.go, hok.gq, hok.dj⟩, rfl, rfl, by show (D.fresh.length : Int) ≤ _; omega, rfl, fun k hk => .inr (.inr hk), rfl⟩, ?_⟩
  rintro vs hx' n hcnt2 ⟨s, Dc, ac, rfl, q1, q2, rfl, hokc, q3, q4, q5, q6, q7, rfl⟩
  refine br_D (p := s < Dc.next) (by kernel_rfl) (fun h => ?_) (fun h => ?_)
  · rw [q3] at h
    obtain ⟨x, ex⟩ : ∃ x : Vo Pv, x = (mlk Dc.best s).getD ⟨0, 0, 0, pz⟩ := ⟨_, rfl⟩
    have exv : x.v = Dc.bestV pz s := by
      rw [ex]; unfold Pr.bestV
      cases mlk Dc.best s <;> rfl
    have hxv : x.v.hx ∈ ac.G ∧ VlFit x.v.v := by
      rw [ex]
      cases e : mlk Dc.best s with
      | none => exact ⟨hokc.gz, vz_fit⟩
      | some u => exact hokc.gb _ (mlk_mem e)
    refine node_vlook1 (z := voV ⟨0, 0, 0, pz⟩) (mt := 74) (kt := 3) (et := 49) ⟨[x.s, x.r, x.n, x.v.v.k], [], [], [x.v.v.cs.length, x.v.c1, x.v.v.ns.length, x.v.c2], [x.v.a1, x.v.a2]⟩ ac.bb (mmap voV Dc.best) s (fun w h => h.2.1.1.1.1.2) (by intros; kernel_rfl) (by intros; kernel_rfl) Try.underlying74 Try.underlying3 (fun w => by kernel_rfl) (fun ids => ?_) (by kernel_rfl) (by kernel_rfl) (by kernel_rfl) oneNil ?_
    · have : (vlk (mmap voV Dc.best) s).getD (voV ⟨0, 0, 0, pz⟩) = voV x := by
        rw [vlk_is, mlk_map, ex]
        cases mlk Dc.best s <;> rfl
      exact Eq.trans (b := voV x) (by kernel_rfl) this.symm
    refine node_pset (D := Dc) (D' := Dc.ask kdP s x.v) (a := ac) (fun ids => #[.pointer (some ⟨idAt ids 0, 0, none⟩), .int .i64 s, x.v.val]) rfl rfl (by intros; kernel_rfl) (by intros; kernel_rfl) (fun ids w2 hp hf hb hn hs => ask_any s x.v hb hf.x.2 hokc hn hs hxv.1 hxv.2 (by omega)) (by intros; kernel_rfl) (by intros; kernel_rfl) (fun k hk => ⟨fun q => q, q7 k hk⟩) (by kernel_rfl) (by intros; kernel_rfl) ?_
    intro a2 hok2 hdis
    have hw : IntKind.i64.wrap (s + 1) = s + 1 := wrap_i64 (by omega)
    obtain ⟨m0, em⟩ : ∃ m0, (y - s).toNat = m0 + 1 := ⟨(y - s - 1).toNat, by omega⟩
    refine again_V ⟨(s + 1) :: (prVs (Dc.ask kdP s x.v) a2).i, (prVs (Dc.ask kdP s x.v) a2).b, (prVs (Dc.ask kdP s x.v) a2).v, (prVs (Dc.ask kdP s x.v) a2).n, (prVs (Dc.ask kdP s x.v) a2).a⟩ rfl (fun ids => by rw [← hw]; kernel_rfl) _ (fun w2 ids hf => ⟨hf.x, hf.sep⟩) ⟨(y - (s + 1)).toNat, by omega, s + 1, Dc.ask kdP s x.v, a2, rfl, by omega, by omega, rfl, hok2, q3, q4, ?_, ?_, fun k hk => (hdis k hk).2, rfl⟩
    · show ((Dc.fresh ++ [s]).length : Int) ≤ _
      rw [List.length_append]
      simp only [List.length_cons, List.length_nil]; omega
    · rw [← q6, em, show (y - (s + 1)).toNat = m0 by omega, exv]; rfl
  · rw [q3] at h
    refine node_vmake (by intros; kernel_rfl) (by kernel_rfl) (by kernel_rfl) (by intros; kernel_rfl) ?_
    intro b hb1 hb2
    have q6 : Dc = Pr.askTo kdP pz (y - D.frm).toNat D.frm { D with phase := 2, next := y } := by
      rw [← q6, show (y - s).toNat = 0 by omega]; rfl
    rw [← q6]
    refine pset_done2 (D' := { Dc with best := [] }) (a' := { ac with bb := b }) ⟨hokc.gm, hokc.gz, (fun p hp => by cases hp), hokc.go, hokc.gq, hokc.dj.set (i := 1) (a' := HX.vmap b []) rfl fun k hk => .inr fun c hc z => hb2 (.inr (by rw [show k = b from hk] at z; exact pcs_F hc z))⟩ (fun w h => ⟨⟨⟨⟨⟨h.1.2.1.1.1.1.1, h.2⟩, h.1.2.1.1.1.2⟩, h.1.2.1.1.2⟩, h.1.2.1.2⟩, h.1.2.2⟩) (fun k hk => ?_) (by intros; kernel_rfl) (by intros; kernel_rfl)
    rcases hk with ((((hk | hk) | hk) | hk) | hk) | hk
    · have z : (prX Dc ac).F k := .inl (.inl (.inl (.inl (.inl hk))))
      exact ⟨.inl (.inr z), q7 k z⟩
    · exact ⟨.inr hk, .inl (by rw [show k = b from hk]; exact hb1)⟩
    · have z : (prX Dc ac).F k := .inl (.inl (.inl (.inr hk)))
      exact ⟨.inl (.inr z), q7 k z⟩
    · have z : (prX Dc ac).F k := .inl (.inl (.inr hk))
      exact ⟨.inl (.inr z), q7 k z⟩
    · have z : (prX Dc ac).F k := .inl (.inr hk)
      exact ⟨.inl (.inr z), q7 k z⟩
    · have z : (prX Dc ac).F k := .inr hk
      exact ⟨.inl (.inr z), q7 k z⟩
end
end Go.Proofs.Ytlgpjjgkdpmidaa
