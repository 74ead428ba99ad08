/- The net: List, New, nil nets, the head. -/
import Derived.Test.YteeecfdcebcbbaaNetN
namespace Go.Proofs.Yteeecfdcebcbbaa
open Go.ChangeShapes Go.WideShapes Go.ChangeAt Go.RowKit Go.Syn Go.Eng
set_option linter.unusedVariables false
set_option linter.unusedSimpArgs false
set_option maxRecDepth 100000 in
theorem tNNew : (runF ⟨tt, fns, {}⟩ (Try.f7.body.getD .skip) Try.f7.results.toList (entry Try.f7.ntmps [] [] ⟨0, 0, 0, 0, 0⟩)) =
  (.done (.lf (.ptr 0 0)) ⟨[(49, [.nilsl])], ⟨0, 0, 0, 0, 0⟩⟩) := by kernel_rfl
set_option maxRecDepth 100000 in
theorem tNPut0 : (runF ⟨tt, fns, {}⟩ (Try.f8.body.getD .skip) Try.f8.results.toList (entry Try.f8.ntmps [.lf .nilp, .agg [.int .i64 (.var 0), .int .i64 (.var 1), .sl 0 (.var 0) (.var 1)]] [] ⟨2, 0, 0, 2, 1⟩)) =
  (.done (.lf (.int .i64 (.lit 1))) ⟨[(30, [(.int .i64 (.var 0)), (.int .i64 (.var 1)), (.sl 0 (.var 0) (.var 1))])], ⟨2, 0, 0, 2, 1⟩⟩) := by kernel_rfl
set_option maxRecDepth 100000 in
theorem tNLen0 : (runF ⟨tt, fns, {}⟩ (Try.f11.body.getD .skip) Try.f11.results.toList (entry Try.f11.ntmps [.lf .nilp] [] ⟨0, 0, 0, 0, 0⟩)) =
  (.done (.lf (.int .i64 (.lit 0))) ⟨[], ⟨0, 0, 0, 0, 0⟩⟩) := by kernel_rfl
set_option maxRecDepth 100000 in
theorem tNHas0 : (runF ⟨tt, fns, {}⟩ (Try.f21.body.getD .skip) Try.f21.results.toList (entry Try.f21.ntmps [.lf .nilp, .lf (.int .i64 (.var 0))] [] ⟨1, 0, 0, 0, 0⟩)) =
  (.done (.lf (.bool (.lit .false))) ⟨[], ⟨1, 0, 0, 0, 0⟩⟩) := by kernel_rfl
set_option maxRecDepth 100000 in
theorem tNTake0 : (runF ⟨tt, fns, {}⟩ (Try.f12.body.getD .skip) Try.f12.results.toList (entry Try.f12.ntmps [.lf .nilp, .lf (.int .i64 (.var 0))] [] ⟨1, 0, 0, 0, 0⟩)) =
  (.call 21 [(.lf .nilp), (.lf (.int .i64 (.var 0)))] ⟨[(30, [(.int .i64 (.lit 0)), (.int .i64 (.lit 0)), .nilsl])], ⟨1, 0, 0, 0, 0⟩⟩ (.lf (.bool (.var 0))) ⟨[(30, [(.int .i64 (.lit 0)), (.int .i64 (.lit 0)), .nilsl])], ⟨1, 1, 0, 0, 0⟩⟩ (.br (.not (.var 0)) (.done (.tup [(.true, [(.int .i64 (.lit 0)), (.int .i64 (.lit 0)), .nilsl]), (.false, [(.bool (.lit .false))])]) ⟨[(30, [(.int .i64 (.lit 0)), (.int .i64 (.lit 0)), .nilsl])], ⟨1, 1, 0, 0, 0⟩⟩) (.fail "op" 7))) := by kernel_rfl
set_option maxRecDepth 100000 in
theorem tNCopy0 : (runF ⟨tt, fns, {}⟩ (Try.f10.body.getD .skip) Try.f10.results.toList (entry Try.f10.ntmps [.lf .nilp, .lf (.int .i64 (.var 0))] [] ⟨1, 0, 0, 0, 0⟩)) =
  (.call 21 [(.lf .nilp), (.lf (.int .i64 (.var 0)))] ⟨[], ⟨1, 0, 0, 0, 0⟩⟩ (.lf (.bool (.var 0))) ⟨[], ⟨1, 1, 0, 0, 0⟩⟩ (.br (.var 0) (.fail "op" 9) (.done (.lf (.bool (.lit .false))) ⟨[], ⟨1, 1, 0, 0, 0⟩⟩))) := by kernel_rfl
set_option maxRecDepth 100000 in
theorem tNLose0 : (runF ⟨tt, fns, {}⟩ (Try.f18.body.getD .skip) Try.f18.results.toList (entry Try.f18.ntmps [.lf .nilp, .lf (.int .i64 (.var 0))] [] ⟨1, 0, 0, 0, 0⟩)) =
  (.call 11 [(.lf .nilp)] ⟨[(3, [(.int .i64 (.var 0))])], ⟨1, 0, 0, 0, 0⟩⟩ (.lf (.int .i64 (.var 1))) ⟨[(3, [(.int .i64 (.var 0))])], ⟨2, 0, 0, 0, 0⟩⟩ (.call 11 [(.lf .nilp)] ⟨[(3, [(.int .i64 (.var 0))])], ⟨2, 0, 0, 0, 0⟩⟩ (.lf (.int .i64 (.var 2))) ⟨[(3, [(.int .i64 (.var 0))])], ⟨3, 0, 0, 0, 0⟩⟩ (.done (.lf (.int .i64 (.op .sub .i64 (.var 1) (.var 2)))) ⟨[(3, [(.int .i64 (.var 0))])], ⟨3, 0, 0, 0, 0⟩⟩))) := by kernel_rfl
set_option maxRecDepth 100000 in
theorem tNList0 : (runF ⟨tt, fns, {}⟩ (Try.f19.body.getD .skip) Try.f19.results.toList (entry Try.f19.ntmps [.lf .nilp] [] ⟨0, 0, 0, 0, 0⟩)) =
  (.done (.lf .nilsl) ⟨[], ⟨0, 0, 0, 0, 0⟩⟩) := by kernel_rfl
theorem nnew_any (w : World) : Calls Try.prog 7 #[] w (NewB w 49 [.slice none 0 0]) := by
  refine calls_at (tab_ok _) Try.func7 rfl tNNew (ρ := ⟨[], [], [], [], []⟩) (ids := []) rfl (Facts.initP rfl oneNil) ?_
  exact new_done rfl (fun _ => rfl) (fun _ => rfl)
theorem len_nil (w : World) : Calls Try.prog 11 #[.pointer none] w (PureAt w (.int .i64 0)) := by
  refine calls_at (tab_ok _) Try.func11 rfl tNLen0 (ρ := ⟨[], [], [], [], []⟩) (ids := []) rfl (Facts.initP rfl oneNil) ?_
  exact pure_done (fun _ => rfl)
theorem has_nil (i : Int) (w : World) : Calls Try.prog 21 #[.pointer none, .int .i64 i] w (PureAt w (.bool false)) := by
  refine calls_at (tab_ok _) Try.func21 rfl tNHas0 (ρ := ⟨[i], [], [], [], []⟩) (ids := []) rfl (Facts.initP rfl oneNil) ?_
  exact pure_done (fun _ => rfl)
theorem put_nil (w : World) : Calls Try.prog 8 #[.pointer none, .agg #[.int .i64 1, .int .i64 1, .slice none 0 0]] w (PureAt w (.int .i64 1)) := by
  refine calls_at (tab_ok _) Try.func8 rfl tNPut0 (ρ := ⟨[1, 1], [], [], [0, 0], [none]⟩) (ids := []) rfl (Facts.initP rfl oneNil) ?_
  exact pure_done (fun _ => rfl)
theorem take_nil (i : Int) (w : World) : Calls Try.prog 12 #[.pointer none, .int .i64 i] w (PureAt w (.tuple #[.agg #[.int .i64 0, .int .i64 0, .slice none 0 0], .bool false])) := by
  refine calls_at (tab_ok _) Try.func12 rfl tNTake0 (ρ := ⟨[i], [], [], [], []⟩) (ids := []) rfl (Facts.initP rfl oneNil) ?_
  refine node_val ⟨[], [false], [], [], []⟩ (fun w => has_nil i w) (fun _ => rfl) (fun _ => rfl) rfl rfl rfl oneNil ?_
  exact br_t rfl (pure_done (fun _ => rfl))
theorem copy_nil (i : Int) (w : World) : Calls Try.prog 10 #[.pointer none, .int .i64 i] w (PureAt w (.bool false)) := by
  refine calls_at (tab_ok _) Try.func10 rfl tNCopy0 (ρ := ⟨[i], [], [], [], []⟩) (ids := []) rfl (Facts.initP rfl oneNil) ?_
  refine node_val ⟨[], [false], [], [], []⟩ (fun w => has_nil i w) (fun _ => rfl) (fun _ => rfl) rfl rfl rfl oneNil ?_
  exact br_f rfl (pure_done (fun _ => rfl))
theorem list_nil (w : World) : Calls Try.prog 19 #[.pointer none] w (PureAt w (.slice none 0 0)) := by
  refine calls_at (tab_ok _) Try.func19 rfl tNList0 (ρ := ⟨[], [], [], [], []⟩) (ids := []) rfl (Facts.initP rfl oneNil) ?_
  exact pure_done (fun _ => rfl)
theorem lose_nil (i : Int) (w : World) : Calls Try.prog 18 #[.pointer none, .int .i64 i] w (PureAt w (.int .i64 0)) := by
  refine calls_at (tab_ok _) Try.func18 rfl tNLose0 (ρ := ⟨[i], [], [], [], []⟩) (ids := []) rfl (Facts.initP rfl oneNil) ?_
  refine node_val ⟨[0], [], [], [], []⟩ (fun w => len_nil w) (fun _ => rfl) (fun _ => rfl) rfl rfl rfl oneNil ?_
  exact node_val ⟨[0], [], [], [], []⟩ (fun w => len_nil w) (fun _ => rfl) (fun _ => rfl) rfl rfl rfl oneNil (pure_done fun _ => rfl)
/-- The packets, cloned. -/
def ListR (w : World) (D : List PkD) (e : Ending) (w' : World) : Prop :=
  ∃ a2 c2 qs, qs.map Pk.d = D ∧ e = .returned (.slice a2 qs.length c2) ∧ (netHX a2 c2 qs).X w' ∧ Apart a2 c2 qs ∧ (∀ k, (netHX a2 c2 qs).F k → w.heap.size ≤ k ∧ k < w'.heap.size) ∧ Below w.heap.size w w'
def LiI (W : World) (a : Option Addr) (cap : Nat) (ps : List Pk) (vs : Vals) (hx : HX) : Prop :=
  ∃ (k : Nat) (a2 : Option Addr) (c2 : Nat) (qs : List Pk), k ≤ ps.length ∧ qs.map Pk.d = (ps.take k).map Pk.d ∧ Apart a2 c2 qs ∧ (∀ j, (netHX a2 c2 qs).F j → W.heap.size ≤ j) ∧ vs = ⟨[(k : Int)], [], [], [qs.length, c2], [a2]⟩ ∧ hx = (netHX a cap ps).and (netHX a2 c2 qs)
def bsOk (ps : List Pk) : Prop := ∀ p ∈ ps, p.bs.length ≤ 140737488355328
set_option maxRecDepth 100000 in
theorem list_any (nb : Nat) (a : Option Addr) (cap : Nat) (ps : List Pk) (w : World) (H : NetAt w nb a cap ps) (hn : ps.length ≤ 1000000) (hb : bsOk ps) : Calls Try.prog 19 #[.pointer (some ⟨nb, 0, none⟩)] w (ListR w (ps.map Pk.d)) := by
  refine calls_at (tab_ok _) Try.func19 rfl tNList (ρ := ⟨[], [], [], [ps.length, cap], [a]⟩) (ids := [nb]) (hx := netHX a cap ps) (M := fun x => x = nb) rfl (Facts.initx rfl oneNil H.blk rfl rfl H.mem H.sep) ?_
  refine loop_i (LiI w a cap ps) (fun vs => ps.length - (vs.i.headD 0).toNat) (fun ids w2 hp hf => ⟨(netHX a cap ps).and (netHX none 0 []), ⟨⟨hf.x, ⟨fun p hp => by simp at hp, HX.rw_nil _ _ _ _⟩⟩, fun b hbb => ?_⟩, 0, none, 0, [], by omega, rfl, fun k q => absurd rfl q, fun j hj => ?_, rfl, rfl⟩) ?_
  · rcases hbb with hbb | ⟨p, hp, _⟩ | hbb
    · exact hf.sep b hbb
    · simp at hp
    · exact absurd rfl hbb.1
  · rcases hj with ⟨p, hp, _⟩ | hj
    · simp at hp
    · exact absurd rfl hj.1
  rintro vs hx' hcnt ⟨k, a2, c2, qs, hk1, hD, hap, hnew, rfl, rfl⟩
  have hwk : IntKind.i64.wrap ((k : Int) + 1) = ((k + 1 : Nat) : Int) := by rw [wrap_i64 (by omega)]; omega
  have hqk : qs.length = k := by have := congrArg List.length hD; simp at this; omega
  by_cases hk : k < ps.length
  · refine br_t (show decide ((k : Int) < (ps.length : Int)) = true by simpa using hk) ?_
    obtain ⟨p, hpk⟩ : ∃ p, ps[k]? = some p := ⟨_, List.getElem?_eq_getElem hk⟩
    have hpm := List.mem_of_getElem? hpk
    refine need_i ⟨net_some H.mem hpk, (show (0 : Int) ≤ k by omega), (show (k : Int) < ps.length by omega)⟩ ?_
    refine node_ld ⟨[p.f, p.t], [], [], [p.bs.length, p.c], [p.a]⟩ (fun ids w2 hp hf => (net_elt hf.x.1 hpk).2 _ (fun e => e)) (fun ids w2 hf => ⟨rfl, oneNil⟩) ?_
    refine node_newbs (bs := p.bs) (cap := p.c) (sa := fun _ => p.a) (fun w a h => clone_any a p.c p.bs w h (hb p hpm)) (fun ids w2 hp hf => hf.x.1.1 p hpm) (fun _ => rfl) (fun _ _ _ => rfl) rfl rfl (fun _ _ => rfl) ?_
    intro a3 c3 hcl
    have hclF : ∀ j, (HX.cl a3 (bcells p.bs)).F j → w.heap.size ≤ j ∧ ¬ ((netHX a cap ps).and (netHX a2 c2 qs)).F j := fun j hj => by
      obtain ⟨q, rfl⟩ := hj
      exact hcl fun e => q (by rw [e]; rfl)
    have eq1 : ((netHX a cap ps).and (netHX a2 c2 qs)).and (HX.cl a3 (bcells p.bs)) = (((netHX a cap ps).and (HX.dats qs)).and (HX.cl a3 (bcells p.bs))).and (HX.rw 3 30 a2 qs.length c2 (pcells qs)) := by
      rw [show netHX a2 c2 qs = (HX.dats qs).and (HX.rw 3 30 a2 qs.length c2 (pcells qs)) from rfl, ← HX.and_assoc]
      exact HX.and_right_comm _ _ _
    rw [eq1]
    refine node_pushs (sz := 3) (vs := [.int .i64 p.f, .int .i64 p.t, .slice a3 p.bs.length c3]) rfl Try.underlying38 info_pk rfl (by decide) a2 qs.length c2 (pcells qs) 2 (fun _ => rfl) (fun _ => rfl) rfl (fun _ => rfl) rfl (by simp [Value.oneCell']) (fun j h5 h6 hF => ?_) (fun j h5 h6 => .inl (hnew j (.inr ⟨h5, h6⟩))) (by unfold maxLen; omega) (by omega) (fun _ _ _ => rfl) rfl rfl (fun _ _ => rfl) ?_
    · rcases hF with (hF | hF) | hF
      · have := (H.sep j hF).1; have := hnew j (.inr ⟨h5, h6⟩); omega
      · exact hap j h5 h6 hF
      · exact (hclF j hF).2 (.inr (.inr ⟨h5, h6⟩))
    intro a4 c4 hc4 hd4 hfr ids w2 hp hf
    have epc : pcells (qs ++ [(⟨p.f, p.t, a3, c3, p.bs⟩ : Pk)]) = pcells qs ++ [.int .i64 p.f, .int .i64 p.t, .slice a3 p.bs.length c3] := by simp [pcells, Pk.cells]
    have el : (qs ++ [(⟨p.f, p.t, a3, c3, p.bs⟩ : Pk)]).length = qs.length + 1 := by simp
    have hdF : ∀ j, (HX.dats (qs ++ [(⟨p.f, p.t, a3, c3, p.bs⟩ : Pk)])).F j → (((netHX a cap ps).and (HX.dats qs)).and (HX.cl a3 (bcells p.bs))).F j ∧ w.heap.size ≤ j := fun j hj => by
      obtain ⟨q, hq, h5, rfl⟩ := hj
      rcases List.mem_append.1 hq with hq | hq
      · exact ⟨.inl (.inr ⟨q, hq, h5, rfl⟩), hnew _ (.inl ⟨q, hq, h5, rfl⟩)⟩
      · simp only [List.mem_singleton] at hq; subst hq
        have : (HX.cl a3 (bcells p.bs)).F (blk a3) := ⟨fun e => h5 (bcells_nil.1 e), rfl⟩
        exact ⟨.inr this, (hclF _ this).1⟩
    refine ⟨(netHX a cap ps).and (netHX a4 c4 (qs ++ [(⟨p.f, p.t, a3, c3, p.bs⟩ : Pk)])), ⟨⟨hf.x.1.1.1, fun q hq => ?_, by rw [epc, el]; exact hf.x.2⟩, fun b hbb => ?_⟩, _, rfl, ⟨k + 1, a4, c4, qs ++ [(⟨p.f, p.t, a3, c3, p.bs⟩ : Pk)], by omega, ?_, fun j _ hj hF => hd4 j hj (hdF j hF).1, fun j hj => ?_, ?_, rfl⟩, ?_⟩
    · rcases List.mem_append.1 hq with hq | hq
      · exact hf.x.1.1.2 q hq
      · simp only [List.mem_singleton] at hq; subst hq; exact hf.x.1.2
    · rcases hbb with hbb | hbb | hbb
      · exact hf.sep b (.inl (.inl (.inl hbb)))
      · exact hf.sep b (.inl (hdF b hbb).1)
      · exact hf.sep b (.inr hbb)
    · rw [List.map_append, hD, List.take_add_one, hpk]; simp [Pk.d]
    · rcases hj with hj | hj
      · exact (hdF j hj).2
      · rcases hfr with ⟨q1, q2⟩ | ⟨g, q1, q2, _⟩
        · exact hnew j (.inr ⟨q1, by rw [← q2]; exact hj.2⟩)
        · have := hj.2
          rw [q1] at this; cases this; exact q2
    · show (⟨[IntKind.i64.wrap ((k : Int) + 1)], [], [], [qs.length + 1, c4], [a4]⟩ : Vals) = _
      rw [hwk, el]
    · show ps.length - (IntKind.i64.wrap ((k : Int) + 1)).toNat < ps.length - ((k : Int)).toNat
      rw [hwk]; omega
  · refine br_f (show decide ((k : Int) < (ps.length : Int)) = false by simpa using hk) ?_
    intro ids w2 hp hf
    have h0 := hf.blkAt 0 rfl
    rw [idAt0 hp] at h0
    exact ⟨a2, c2, qs, by rw [hD, List.take_of_length_le (by omega)], rfl, hf.x.2, hap, fun j hj => ⟨hnew j hj, (hf.sep j (.inr hj)).1⟩, (Chg.same hf.chg (h0.trans H.blk.symm)).below⟩
end Go.Proofs.Yteeecfdcebcbbaa
