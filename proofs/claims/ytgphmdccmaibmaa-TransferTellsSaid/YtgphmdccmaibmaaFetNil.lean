/- TransferNil. -/
import Derived.Test.YtgphmdccmaibmaaTrN
import Derived.Test.YtgphmdccmaibmaaMsgD
import Derived.Test.YtgphmdccmaibmaaFetN
namespace Go.Proofs.Ytgphmdccmaibmaa
open Go.ChangeShapes Go.WideShapes Go.ChangeAt Go.RowKit Go.Syn Go.Eng
set_option linter.unusedVariables false
set_option linter.unusedSimpArgs false
section
variable {C : Cfg} {ρ : Env} {pre : List Nat} {hx : HX} {L : Stack} {m m' : Mem} {args : List SV} {r : SV} {t : Tree}
/-- A call that is pure, its arguments and its answer told. -/
theorem node_pv {f : Nat} (vs : Vals) (AS : Array Value) (V : Value) (hcall : ∀ w, Calls C.P f AS w (PureAt w V)) (hargs : ∀ ids, (args.map (SV.den ρ ids)).toArray = AS) (hr : ∀ ids, r.den (ρ.add vs) ids = V) (hhp : m'.hp = m.hp) (hfit : hpFits m.c m.hp.length m.hp = true) (hc : (ρ.add vs).cnt = m'.c) (h1 : ∀ v, v ∈ vs.v → v.oneCell' = true)
    (h : t.holds C (ρ.add vs) pre hx L) : (Tree.call f args m r m' t).holds C ρ pre hx L :=
  node_pure vs hhp hfit hc h1 (fun ids w hp hf => by rw [hargs, hr]; exact hcall w) h
/-- A copy of a message. -/
theorem node_cpm (q : Mg) (hP : C.P = Try.prog) (hok : ∀ ids w, pre <+: ids → Facts C m ρ ids hx w → MgOk w q) (hargs : ∀ ids, (args.map (SV.den ρ ids)).toArray = #[.agg q.v])
    (hr : ∀ a0 c0 a1 c1 av cv ad cd ids, r.den (ρ.add ⟨q.i.is, [], [], [q.n0, c0, q.n1, c1, q.vs.length, cv, q.bs.length, cd], [a0, a1, av, ad]⟩) ids = .agg (mgV q.i (.slice a0 q.n0 c0) (.slice a1 q.n1 c1) (.slice av q.vs.length cv) (.slice ad q.bs.length cd)))
    (hhp : m'.hp = m.hp) (hfit : hpFits m.c m.hp.length m.hp = true) (hc : ∀ a0 c0 a1 c1 av cv ad cd, (ρ.add ⟨q.i.is, [], [], [q.n0, c0, q.n1, c1, q.vs.length, cv, q.bs.length, cd], [a0, a1, av, ad]⟩).cnt = m'.c)
    (h : ∀ a0 c0 a1 c1 av cv ad cd, (q.bs ≠ [] → C.W.heap.size ≤ blk ad ∧ ¬ hx.F (blk ad)) → t.holds C (ρ.add ⟨q.i.is, [], [], [q.n0, c0, q.n1, c1, q.vs.length, cv, q.bs.length, cd], [a0, a1, av, ad]⟩) pre (hx.and (HX.cl ad (bcells q.bs))) L) : (Tree.call 15 args m r m' t).holds C ρ pre hx L := by
  intro ids w hp hf
  rw [hargs, hP]
  refine (cpm_any q w (hok ids w hp hf)).mono ?_
  rintro e w' ⟨a0, c0, a1, c1, av, cv, ad, cd, rfl, hX, hge, hcl, hbel⟩
  have hg : w.grownBy w' none := ⟨hbel.os, hbel.tape, hbel.output, hbel.size, fun k hk _ => hbel.block k hk⟩
  refine ⟨_, ids, _, by rw [← hr a0 c0 a1 c1 av cv ad cd ids], List.prefix_refl _, hf.turn (hx' := hx.and (HX.cl ad (bcells q.bs))) hg (fun b e => by cases e) ⟨hx.loc w w' hf.x fun k hk => hbel.block k (hf.sep k hk).1, hX⟩ (fun k hk => ?_) hhp hfit (hc _ _ _ _ _ _ _ _) oneNil, holds_pre t hp (h a0 c0 a1 c1 av cv ad cd (fun hne => ⟨Nat.le_trans hf.chg.size (hge hne), fun q => by have := (hf.sep _ q).1; have := hge hne; omega⟩))⟩
  rcases hk with hk | hk
  · exact .inl hk
  · refine .inr ⟨?_, cl_sep hX k hk⟩
    obtain ⟨h1, rfl⟩ := hk
    exact hge (fun q => h1 (by rw [q]; rfl))
end
theorem ndrop_any (n : Int) (w : World) : Calls Try.prog 17 #[.pointer none, .int .i64 n] w (PureAt w (.tuple #[])) := by
  refine calls_at (tab_ok _) Try.func17 rfl tNDrop (ρ := ⟨[n], [], [], [], []⟩) (ids := []) rfl (Facts.initP rfl oneNil) (pure_done fun _ => rfl)
theorem npull_any (w : World) : Calls Try.prog 12 #[.pointer none] w (PureAt w (.tuple #[.int .i64 0, .agg (msgV 0 0 0 (.slice none 0 0)), .bool false])) := by
  refine calls_at (tab_ok _) Try.func12 rfl tNPull (ρ := ⟨[], [], [], [], []⟩) (ids := []) rfl (Facts.initP rfl oneNil) (pure_done fun _ => rfl)
theorem npart_any (i : Mi) (a0 : Option Addr) (n0 c0 : Nat) (a1 : Option Addr) (n1 c1 : Nat) (av : Option Addr) (nv cv : Nat) (ad : Option Addr) (nd cd : Nat) (w : World) : Calls Try.prog 14 #[.pointer none, .agg (mgV i (.slice a0 n0 c0) (.slice a1 n1 c1) (.slice av nv cv) (.slice ad nd cd))] w (PureAt w (.tuple #[.slice none 0 0, .int .i64 0, .int .i64 1])) := by
  refine calls_at (tab_ok _) Try.func14 rfl tNPart (ρ := ⟨i.is, [], [], [n0, c0, n1, c1, nv, cv, nd, cd], [a0, a1, av, ad]⟩) (ids := []) rfl (Facts.initP rfl oneNil) (pure_done fun _ => rfl)
theorem noff_any (i : Mi) (a0 : Option Addr) (n0 c0 : Nat) (a1 : Option Addr) (n1 c1 : Nat) (av : Option Addr) (nv cv : Nat) (ad : Option Addr) (nd cd : Nat) (x y : Int) (w : World) : Calls Try.prog 9 #[.pointer none, .int .i64 x, .agg (mgV i (.slice a0 n0 c0) (.slice a1 n1 c1) (.slice av nv cv) (.slice ad nd cd)), .int .i64 y] w (PureAt w (.bool false)) := by
  refine calls_at (tab_ok _) Try.func9 rfl tNOff (ρ := ⟨i.is ++ [x, y], [], [], [n0, c0, n1, c1, nv, cv, nd, cd], [a0, a1, av, ad]⟩) (ids := []) rfl (Facts.initP rfl oneNil) (pure_done fun _ => rfl)
set_option maxRecDepth 100000 in
theorem nil_walk (q : Mg) (n : Int) (w : World) (H : MgOk w q) : Calls Try.prog 4 #[.agg q.v, .int .i64 n] w fun e w' => e = .returned (.bool true) ∧ Below w.heap.size w w' := by
  have keep : ∀ {m : Mem} {ρ : Env} {ids : List Nat} {hx : HX} {w2 : World} {R : Ending → World → Prop}, Facts ⟨Try.prog, w, fun _ => False, R⟩ m ρ ids hx w2 → MgOk w2 q := fun hf => H.keep (fun k hk => hf.chg.block k hk (fun q => q))
  refine calls_at (tab_ok _) Try.func4 rfl tTNil (ρ := ⟨q.i.is ++ [n], [], [], [q.n0, q.c0, q.n1, q.c1, q.vs.length, q.cv, q.bs.length, q.cd], [q.a0, q.a1, q.av, q.ad]⟩) (ids := []) rfl (Facts.initP rfl oneNil) ?_
  refine node_pv ⟨[], [], [], [], []⟩ _ _ (fun w => ndrop_any n w) (by intros; kernel_rfl) (by intros; kernel_rfl) (by intros; kernel_rfl) (by intros; kernel_rfl) (by intros; kernel_rfl) oneNil ?_
  refine node_pv ⟨[0, 0, 0, 0, 0, 0, 0, 0, 0, 0, 0, 0, 0, 0, 0, 0, 0, 0, 0, 0, 0, 0], [false], [], [0, 0, 0, 0, 0, 0, 0, 0], [none, none, none, none]⟩ _ _ (fun w => npull_any w) (by intros; kernel_rfl) (by intros; kernel_rfl) (by intros; kernel_rfl) (by intros; kernel_rfl) (by intros; kernel_rfl) oneNil ?_
  refine node_cpm q rfl (fun ids w2 hp hf => keep hf) (by intros; kernel_rfl) (by intros; kernel_rfl) (by intros; kernel_rfl) (by intros; kernel_rfl) (by intros; kernel_rfl) ?_
  intro a0 c0 a1 c1 av cv ad cd _
  refine node_pv ⟨[0, 1], [], [], [0, 0], [none]⟩ _ _ (fun w => npart_any q.i a0 q.n0 c0 a1 q.n1 c1 av q.vs.length cv ad q.bs.length cd w) (by intros; kernel_rfl) (by intros; kernel_rfl) (by intros; kernel_rfl) (by intros; kernel_rfl) (by intros; kernel_rfl) oneNil ?_
  refine node_pv ⟨[], [true], [], [], []⟩ _ _ (fun w => thead_any w) (by intros; kernel_rfl) (by intros; kernel_rfl) (by intros; kernel_rfl) (by intros; kernel_rfl) (by intros; kernel_rfl) oneNil ?_
  refine br_t (by kernel_rfl) (br_t (by kernel_rfl) ?_)
  refine node_cpm q rfl (fun ids w2 hp hf => keep hf) (by intros; kernel_rfl) (by intros; kernel_rfl) (by intros; kernel_rfl) (by intros; kernel_rfl) (by intros; kernel_rfl) ?_
  intro b0 d0 b1 d1 bv dv bd dd _
  refine node_pv ⟨[], [false], [], [], []⟩ _ _ (fun w => noff_any q.i b0 q.n0 d0 b1 q.n1 d1 bv q.vs.length dv bd q.bs.length dd n n w) (by intros; kernel_rfl) (by intros; kernel_rfl) (by intros; kernel_rfl) (by intros; kernel_rfl) (by intros; kernel_rfl) oneNil ?_
  exact br_t (by kernel_rfl) (br_t (by kernel_rfl) (br_t (by kernel_rfl) (pure_done (by intros; kernel_rfl))))
theorem tnil_args (d : Dat) (n : Int) (w : World) (hd : d.In Try.prog w 41) (hn : I64 n) : Calls Try.prog 4 #[.agg d.cells.toArray, .int .i64 n] w fun e w' => e = .returned (.bool true) ∧ Below w.heap.size w w' := by
  obtain ⟨m, e, H⟩ := opn_msg hd
  rw [e]
  exact nil_walk m n w H
end Go.Proofs.Ytgphmdccmaibmaa
