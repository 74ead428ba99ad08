/- Commands; contract of synodref06.CheckCmd (out of XVal1). -/
import Derived.Test.YthgkgllllomeeaaAppS
import Derived.Test.YthgkgllllomeeaaEng17
import Derived.Test.YthgkgllllomeeaaDat
namespace Go.Syn
structure CmD where
  sess : Int
  seq : Int
  ack : Int
  op : OpD
def CmD.is (c : CmD) : List Int := [c.sess, c.seq, c.ack, c.op.kind, c.op.reg, c.op.tg, c.op.re, c.op.im]
def CmD.cells (c : CmD) : List Value := [.int .i64 c.sess, .int .i64 c.seq, .int .i64 c.ack, .int .i64 c.op.kind, .int .i64 c.op.reg, .int .i64 c.op.tg, .int .i64 c.op.re, .int .i64 c.op.im]
def cmdV (c : CmD) : Int := if c.sess < 1 ∨ 1073741824 < c.sess ∨ c.seq < 1 ∨ 1099511627776 < c.seq ∨ c.ack < 0 ∨ c.seq ≤ c.ack then 23 else if opB c.op then 0 else 22
def ccells (cs : List CmD) : List Value := cs.flatMap CmD.cells
end Go.Syn
namespace Go.Proofs.Ythgkgllllomeeaa
open Go.ChangeShapes Go.WideShapes Go.ChangeAt Go.RowKit Go.Syn Go.Eng
set_option linter.unusedVariables false
set_option linter.unusedSimpArgs false
set_option maxRecDepth 100000
set_option maxRecDepth 100000 in
theorem tRCmd : (runF ⟨tt, fns, {}⟩ (Try.f7.body.getD .skip) Try.f7.results.toList (entry Try.f7.ntmps [.agg [.int .i64 (.var 0), .int .i64 (.var 1), .int .i64 (.var 2), .int .i64 (.var 3), .int .i64 (.var 4), .int .i64 (.var 5), .int .i64 (.var 6), .int .i64 (.var 7)]] [] ⟨8, 0, 0, 0, 0⟩)) =
  (.br (.cmp .lss (.var 0) (.lit 1)) (.done (.lf (.int .i64 (.lit 23))) ⟨[(29, [(.int .i64 (.var 0)), (.int .i64 (.var 1)), (.int .i64 (.var 2)), (.int .i64 (.var 3)), (.int .i64 (.var 4)), (.int .i64 (.var 5)), (.int .i64 (.var 6)), (.int .i64 (.var 7))])], ⟨8, 0, 0, 0, 0⟩⟩) (.br (.cmp .gtr (.var 0) (.lit 1073741824)) (.done (.lf (.int .i64 (.lit 23))) ⟨[(29, [(.int .i64 (.var 0)), (.int .i64 (.var 1)), (.int .i64 (.var 2)), (.int .i64 (.var 3)), (.int .i64 (.var 4)), (.int .i64 (.var 5)), (.int .i64 (.var 6)), (.int .i64 (.var 7))])], ⟨8, 0, 0, 0, 0⟩⟩) (.br (.cmp .lss (.var 1) (.lit 1)) (.done (.lf (.int .i64 (.lit 23))) ⟨[(29, [(.int .i64 (.var 0)), (.int .i64 (.var 1)), (.int .i64 (.var 2)), (.int .i64 (.var 3)), (.int .i64 (.var 4)), (.int .i64 (.var 5)), (.int .i64 (.var 6)), (.int .i64 (.var 7))])], ⟨8, 0, 0, 0, 0⟩⟩) (.br (.cmp .gtr (.var 1) (.lit 1099511627776)) (.done (.lf (.int .i64 (.lit 23))) ⟨[(29, [(.int .i64 (.var 0)), (.int .i64 (.var 1)), (.int .i64 (.var 2)), (.int .i64 (.var 3)), (.int .i64 (.var 4)), (.int .i64 (.var 5)), (.int .i64 (.var 6)), (.int .i64 (.var 7))])], ⟨8, 0, 0, 0, 0⟩⟩) (.br (.cmp .lss (.var 2) (.lit 0)) (.done (.lf (.int .i64 (.lit 23))) ⟨[(29, [(.int .i64 (.var 0)), (.int .i64 (.var 1)), (.int .i64 (.var 2)), (.int .i64 (.var 3)), (.int .i64 (.var 4)), (.int .i64 (.var 5)), (.int .i64 (.var 6)), (.int .i64 (.var 7))])], ⟨8, 0, 0, 0, 0⟩⟩) (.br (.cmp .geq (.var 2) (.var 1)) (.done (.lf (.int .i64 (.lit 23))) ⟨[(29, [(.int .i64 (.var 0)), (.int .i64 (.var 1)), (.int .i64 (.var 2)), (.int .i64 (.var 3)), (.int .i64 (.var 4)), (.int .i64 (.var 5)), (.int .i64 (.var 6)), (.int .i64 (.var 7))])], ⟨8, 0, 0, 0, 0⟩⟩) (.call 18 [(.agg [(.int .i64 (.var 3)), (.int .i64 (.var 4)), (.int .i64 (.var 5)), (.int .i64 (.var 6)), (.int .i64 (.var 7))])] ⟨[(29, [(.int .i64 (.var 0)), (.int .i64 (.var 1)), (.int .i64 (.var 2)), (.int .i64 (.var 3)), (.int .i64 (.var 4)), (.int .i64 (.var 5)), (.int .i64 (.var 6)), (.int .i64 (.var 7))])], ⟨8, 0, 0, 0, 0⟩⟩ (.lf (.bool (.var 0))) ⟨[(29, [(.int .i64 (.var 0)), (.int .i64 (.var 1)), (.int .i64 (.var 2)), (.int .i64 (.var 3)), (.int .i64 (.var 4)), (.int .i64 (.var 5)), (.int .i64 (.var 6)), (.int .i64 (.var 7))])], ⟨8, 1, 0, 0, 0⟩⟩ (.br (.not (.var 0)) (.done (.lf (.int .i64 (.lit 22))) ⟨[(29, [(.int .i64 (.var 0)), (.int .i64 (.var 1)), (.int .i64 (.var 2)), (.int .i64 (.var 3)), (.int .i64 (.var 4)), (.int .i64 (.var 5)), (.int .i64 (.var 6)), (.int .i64 (.var 7))])], ⟨8, 1, 0, 0, 0⟩⟩) (.done (.lf (.int .i64 (.lit 0))) ⟨[(29, [(.int .i64 (.var 0)), (.int .i64 (.var 1)), (.int .i64 (.var 2)), (.int .i64 (.var 3)), (.int .i64 (.var 4)), (.int .i64 (.var 5)), (.int .i64 (.var 6)), (.int .i64 (.var 7))])], ⟨8, 1, 0, 0, 0⟩⟩))))))))) := by kernel_rfl
theorem ccells_len : ∀ (cs : List CmD), (ccells cs).length = cs.length * 8
  | [] => rfl
  | v :: r => by
    show (CmD.cells v ++ ccells r).length = _
    rw [List.length_append, ccells_len r, List.length_cons]
    show 8 + _ = _; omega
theorem ccells_get : ∀ {vs : List CmD} {i : Nat} {v : CmD}, vs[i]? = some v → ∀ j u, v.cells[j]? = some u → (ccells vs)[i * 8 + j]? = some u
  | q :: r, 0, p, h, j, u, hu => by
    simp only [List.getElem?_cons_zero, Option.some.injEq] at h
    subst h
    show (CmD.cells q ++ ccells r)[0 * 8 + j]? = _
    have hj : j < q.cells.length := by
      rcases Nat.lt_or_ge j q.cells.length with g | g
      · exact g
      · rw [List.getElem?_eq_none g] at hu; cases hu
    rw [Nat.zero_mul, Nat.zero_add, List.getElem?_append_left hj]; exact hu
  | q :: r, i + 1, p, h, j, u, hu => by
    have := ccells_get (vs := r) (i := i) (by simpa using h) j u hu
    show (CmD.cells q ++ ccells r)[(i + 1) * 8 + j]? = _
    rw [List.getElem?_append_right (by show 8 ≤ _; omega)]
    rw [← this]
    congr 1
    show (i + 1) * 8 + j - 8 = _
    omega
theorem c_elt {w : World} {a : Option Addr} {cs : List CmD} (h : Cells w a (ccells cs)) {i : Nat} {c : CmD} (hi : cs[i]? = some c) :
    a.isSome = true ∧ ∀ (N : Nat → Prop), ¬ N ((a.getD ⟨0, 0, none⟩).block) → CellsAt w (.pointer (some (((a.getD ⟨0, 0, none⟩).add (i * 8)).add 0))) c.cells N :=
  cl_elt h c.cells (fun j u hj => ccells_get hi j u hj) (by simp [CmD.cells])
theorem rcmd_any (c : CmD) (w : World) : Calls Try.prog 7 #[.agg c.cells.toArray] w (PureAt w (.int .i64 (cmdV c))) := by
  obtain ⟨x0, x1, x2, o⟩ := c
  refine calls_at (tab_ok _) Try.func7 rfl tRCmd (ρ := ⟨[x0, x1, x2, o.kind, o.reg, o.tg, o.re, o.im], [], [], [], []⟩) (ids := []) rfl (Facts.initP rfl oneNil) ?_
  have bad : ∀ {m : Mem} {ρ : Env} {pre : List Nat} {hx : HX} {L : Stack}, (x0 < 1 ∨ 1073741824 < x0 ∨ x1 < 1 ∨ 1099511627776 < x1 ∨ x2 < 0 ∨ x1 ≤ x2) → (Tree.done (.lf (.int .i64 (.lit 23))) m).holds ⟨Try.prog, w, fun _ => False, PureAt w (.int .i64 (cmdV ⟨x0, x1, x2, o⟩))⟩ ρ pre hx L := fun h => pure_done fun _ => by
    unfold cmdV; dsimp only; rw [if_pos h]; rfl
  refine br_i (fun h => bad (.inl (of_decide_eq_true (show decide (x0 < 1) = true from h)))) (fun h1 => ?_)
  refine br_i (fun h => bad (.inr (.inl (of_decide_eq_true (show decide (x0 > 1073741824) = true from h))))) (fun h2 => ?_)
  refine br_i (fun h => bad (.inr (.inr (.inl (of_decide_eq_true (show decide (x1 < 1) = true from h)))))) (fun h3 => ?_)
  refine br_i (fun h => bad (.inr (.inr (.inr (.inl (of_decide_eq_true (show decide (x1 > 1099511627776) = true from h))))))) (fun h4 => ?_)
  refine br_i (fun h => bad (.inr (.inr (.inr (.inr (.inl (of_decide_eq_true (show decide (x2 < 0) = true from h)))))))) (fun h5 => ?_)
  refine br_i (fun h => bad (.inr (.inr (.inr (.inr (.inr (of_decide_eq_true (show decide (x2 ≥ x1) = true from h)))))))) (fun h6 => ?_)
  have h1 := of_decide_eq_false (show decide (x0 < 1) = false from h1)
  have h2 := of_decide_eq_false (show decide (x0 > 1073741824) = false from h2)
  have h3 := of_decide_eq_false (show decide (x1 < 1) = false from h3)
  have h4 := of_decide_eq_false (show decide (x1 > 1099511627776) = false from h4)
  have h5 := of_decide_eq_false (show decide (x2 < 0) = false from h5)
  have h6 := of_decide_eq_false (show decide (x2 ≥ x1) = false from h6)
  refine node_val ⟨[], [opB o], [], [], []⟩ (fun w => refOp_pure o w) (fun _ => rfl) (fun _ => rfl) rfl rfl rfl oneNil ?_
  cases ho : opB o with
  | false =>
    refine br_t rfl (pure_done fun _ => ?_)
    have hne : ¬ (x0 < 1 ∨ 1073741824 < x0 ∨ x1 < 1 ∨ 1099511627776 < x1 ∨ x2 < 0 ∨ x1 ≤ x2) := by omega
    unfold cmdV; dsimp only; rw [if_neg hne, ho]; rfl
  | true =>
    refine br_f rfl (pure_done fun _ => ?_)
    have hne : ¬ (x0 < 1 ∨ 1073741824 < x0 ∨ x1 < 1 ∨ 1099511627776 < x1 ∨ x2 < 0 ∨ x1 ≤ x2) := by omega
    unfold cmdV; dsimp only; rw [if_neg hne, ho]; rfl
/-- A command, opened. -/
def cmDat (c : CmD) : Dat := .parts [.int .i64 c.sess, .int .i64 c.seq, .int .i64 c.ack, .parts [.int .i64 c.op.kind, .int .i64 c.op.reg, .int .i64 c.op.tg, .int .i64 c.op.re, .int .i64 c.op.im]]
def CmFit (c : CmD) : Prop := ∀ i ∈ c.is, I64 i
theorem opn_int {w : World} {d : Dat} (h : d.In Try.prog w 3) : ∃ k : Int, d = .int .i64 k ∧ I64 k := by
  obtain ⟨k, rfl, hk⟩ := in_int Try.underlying3 h
  exact ⟨k, rfl, I64.of_wf hk⟩
theorem opn_cmd {w : World} {d : Dat} (h : d.In Try.prog w 29) : ∃ c : CmD, d = cmDat c ∧ CmFit c := by
  obtain ⟨ds, rfl, g⟩ := in_struct Try.underlying29 h
  obtain ⟨d0, r0, rfl, h0, g0⟩ := inEach_cons g
  obtain ⟨d1, r1, rfl, h1, g1⟩ := inEach_cons g0
  obtain ⟨d2, r2, rfl, h2, g2⟩ := inEach_cons g1
  obtain ⟨d3, r3, rfl, h3, g3⟩ := inEach_cons g2
  obtain rfl := inEach_nil g3
  obtain ⟨es, rfl, f⟩ := in_struct Try.underlying27 h3
  obtain ⟨e0, s0, rfl, k0, f1⟩ := inEach_cons f
  obtain ⟨e1, s1, rfl, k1, f2⟩ := inEach_cons f1
  obtain ⟨e2, s2, rfl, k2, f3⟩ := inEach_cons f2
  obtain ⟨e3, s3, rfl, k3, f4⟩ := inEach_cons f3
  obtain ⟨e4, s4, rfl, k4, f5⟩ := inEach_cons f4
  obtain rfl := inEach_nil f5
  obtain ⟨x0, rfl, p0⟩ := opn_int h0
  obtain ⟨x1, rfl, p1⟩ := opn_int h1
  obtain ⟨x2, rfl, p2⟩ := opn_int h2
  obtain ⟨y0, rfl, q0⟩ := opn_int k0
  obtain ⟨y1, rfl, q1⟩ := opn_int k1
  obtain ⟨y2, rfl, q2⟩ := opn_int k2
  obtain ⟨y3, rfl, q3⟩ := opn_int k3
  obtain ⟨y4, rfl, q4⟩ := opn_int k4
  refine ⟨⟨x0, x1, x2, ⟨y0, y1, y2, y3, y4⟩⟩, rfl, fun i hi => ?_⟩
  simp only [CmD.is, List.mem_cons, List.not_mem_nil, or_false] at hi
  rcases hi with rfl | rfl | rfl | rfl | rfl | rfl | rfl | rfl <;> assumption
theorem dat_cells : ∀ cs : List CmD, Dat.cellsAll (cs.map cmDat) = ccells cs
  | [] => rfl
  | c :: r => by
    show Dat.cellsAll (cmDat c :: r.map cmDat) = c.cells ++ ccells r
    rw [← dat_cells r]; rfl
theorem bytes_cmd : Try.prog.bytesOf 29 = 64 := by kernel_rfl
end Go.Proofs.Ythgkgllllomeeaa
