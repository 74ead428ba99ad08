/- LearnerRuns. -/
import Derived.Test.YthmlhnkdiafpkaaLnM
namespace Go.Proofs.Ythmlhnkdiafpkaa
open Go.ChangeShapes Go.WideShapes Go.ChangeAt Go.RowKit Go.Syn Go.Eng Go.MapKept
set_option linter.unusedVariables false
set_option linter.unusedSimpArgs false
set_option maxRecDepth 100000
/-! ### A nil learner -/
section
variable {w : World}
theorem openN_any (slot : Int) (v : Vl) (a1 : Option Addr) (c1 : Nat) (a2 : Option Addr) (c2 : Nat) : Calls Try.prog 31 #[.pointer none, .int .i64 slot, vlV v a1 c1 a2 c2] w (PureAt w (.bool false)) := by
  refine calls_at (tab_ok _) Try.func31 rfl tLOpenN (ρ := ⟨[slot, v.k], [], [], [v.cs.length, c1, v.ns.length, c2], [a1, a2]⟩) (ids := []) rfl (Facts.initP rfl oneNil) ?_
  exact pure_done (by intros; kernel_rfl)
theorem votedN_any (node slot r n : Int) (v : Vl) (a1 : Option Addr) (c1 : Nat) (a2 : Option Addr) (c2 : Nat) : Calls Try.prog 12 #[.pointer none, .int .i64 node, .agg #[.int .i64 slot, .int .i64 r, .int .i64 n, .int .i64 v.k, .slice a1 v.cs.length c1, .slice a2 v.ns.length c2]] w (PureAt w (.bool false)) := by
  refine calls_at (tab_ok _) Try.func12 rfl tLVotedN (ρ := ⟨[node, slot, r, n, v.k], [], [], [v.cs.length, c1, v.ns.length, c2], [a1, a2]⟩) (ids := []) rfl (Facts.initP rfl oneNil) ?_
  refine node_P ⟨[], [false], [], [], []⟩ #[.pointer none, .int .i64 slot, vlV v a1 c1 a2 c2] (.bool false) (by intros; kernel_rfl) (by intros; kernel_rfl) (by kernel_rfl) (by kernel_rfl) (by kernel_rfl) oneNil (fun ids w2 hp hf => openN_any slot v a1 c1 a2 c2) ?_
  exact br_T true (by kernel_rfl) rfl (pure_done (by intros; kernel_rfl))
theorem toldN_any (slot : Int) (v : Vl) (a1 : Option Addr) (c1 : Nat) (a2 : Option Addr) (c2 : Nat) : Calls Try.prog 10 #[.pointer none, .int .i64 slot, vlV v a1 c1 a2 c2] w (PureAt w (.bool false)) := by
  refine calls_at (tab_ok _) Try.func10 rfl tLToldN (ρ := ⟨[slot, v.k], [], [], [v.cs.length, c1, v.ns.length, c2], [a1, a2]⟩) (ids := []) rfl (Facts.initP rfl oneNil) ?_
  refine node_P ⟨[], [false], [], [], []⟩ #[.pointer none, .int .i64 slot, vlV v a1 c1 a2 c2] (.bool false) (by intros; kernel_rfl) (by intros; kernel_rfl) (by kernel_rfl) (by kernel_rfl) (by kernel_rfl) oneNil (fun ids w2 hp hf => openN_any slot v a1 c1 a2 c2) ?_
  exact br_T true (by kernel_rfl) rfl (pure_done (by intros; kernel_rfl))
theorem lnextN_any : Calls Try.prog 13 #[.pointer none] w (PureAt w (.tuple #[.int .i64 0, vlV vz none 0 none 0, .bool false])) := by
  refine calls_at (tab_ok _) Try.func13 rfl tLNextN (ρ := ⟨[], [], [], [], []⟩) (ids := []) rfl (Facts.initP rfl oneNil) ?_
  exact pure_done (by intros; kernel_rfl)
theorem passN_any : Calls Try.prog 15 #[.pointer none] w (PureAt w (.bool false)) := by
  refine calls_at (tab_ok _) Try.func15 rfl tLPassN (ρ := ⟨[], [], [], [], []⟩) (ids := []) rfl (Facts.initP rfl oneNil) ?_
  refine node_P ⟨[0, 0], [false], [], [0, 0, 0, 0], [none, none]⟩ #[.pointer none] (.tuple #[.int .i64 0, vlV vz none 0 none 0, .bool false]) (by intros; kernel_rfl) (by intros; kernel_rfl) (by kernel_rfl) (by kernel_rfl) (by kernel_rfl) oneNil (fun ids w2 hp hf => lnextN_any) ?_
  exact br_F false (by kernel_rfl) rfl (pure_done (by intros; kernel_rfl))
theorem lsizeN_any : Calls Try.prog 16 #[.pointer none] w (PureAt w (.int .i64 0)) := by
  refine calls_at (tab_ok _) Try.func16 rfl tLSizeN (ρ := ⟨[], [], [], [], []⟩) (ids := []) rfl (Facts.initP rfl oneNil) ?_
  exact pure_done (by intros; kernel_rfl)
theorem lmissN_any (most : Int) : Calls Try.prog 23 #[.pointer none, .int .i64 most] w (PureAt w (.slice none 0 0)) := by
  refine calls_at (tab_ok _) Try.func23 rfl tLMissN (ρ := ⟨[most], [], [], [], []⟩) (ids := []) rfl (Facts.initP rfl oneNil) ?_
  exact pure_done (by intros; kernel_rfl)
theorem jumpN_any (next : Int) : Calls Try.prog 24 #[.pointer none, .int .i64 next] w (PureAt w (.bool false)) := by
  refine calls_at (tab_ok _) Try.func24 rfl tLJumpN (ρ := ⟨[next], [], [], [], []⟩) (ids := []) rfl (Facts.initP rfl oneNil) ?_
  exact pure_done (by intros; kernel_rfl)
end
section
variable {W : World} {M : Nat → Prop} {RR : Ending → World → Prop} {ρ : Env} {pre : List Nat} {rest hx : HX} {S : Stack} {m m' : Mem} {args : List SV} {r : SV} {t : Tree} {F : Nat → Prop} {nb i : Nat} {L : Ln} {A : RA}
def raVs (A : RA) : Vals := ⟨[A.next, A.top], [true], [], [A.mem.length, A.cm, A.ks.length, A.ck, A.ds.length, A.cd], [A.am, A.ak, A.ad]⟩
/-- A step on both sides. -/
theorem node_call (o : OpL) (hS : RunS i L A) (hi : i ≤ 200) (hown : OwnF W M (rest.and A.hx) F) (hat : ∀ ids w, pre <+: ids → Facts ⟨Try.prog, W, M, RR⟩ m ρ ids ((rest.and A.hx).and (lnX F nb L)) w → OpOk w o ∧ ∀ k, (vlX o.p.v o.p.a1 o.p.a2).F k → rest.F k) (hargs : ∀ ids, (args.map (SV.den ρ ids)).toArray = #[.pointer (some ⟨nb, 0, none⟩), A.val, .agg o.cells.toArray])
    (hrW : ∀ k, rest.F k → k < W.heap.size) (hr : ∀ A' ids, r.den (ρ.add (raVs A')) ids = .tuple #[A'.val, .bool true]) (hhp : m'.hp = m.hp) (hfit : hpFits m.c m.hp.length m.hp = true) (hc : ∀ A', (ρ.add (raVs A')).cnt = m'.c)
    (h : ∀ L' A' F', RunS (i + 1) L' A' → (∀ k, A'.hx.F k → A.hx.F k ∨ W.heap.size ≤ k) → OwnF W M (rest.and A'.hx) F' → t.holds ⟨Try.prog, W, M, RR⟩ (ρ.add (raVs A')) pre ((rest.and A'.hx).and (lnX F' nb L')) S) : (Tree.call 25 args m r m' t).holds ⟨Try.prog, W, M, RR⟩ ρ pre ((rest.and A.hx).and (lnX F nb L)) S := by
  intro ids w hp hf
  rw [hargs]
  obtain ⟨ho, hvF⟩ := hat ids w hp hf
  refine (call_any o hS hi hf.x.1.2 hf.x.2 (fun k hk => (hf.sep k (.inr hk)).1) (fun k hk => ⟨fun q => (hown k hk).1 (.inr q), fun q => (hown k hk).1 (.inl (hvF k q))⟩) ho).mono ?_
  rintro e w' ⟨L', A', F', rfl, hS', hXL, hXA, hge, hA, hch⟩
  refine ⟨raVs A', ids, (rest.and A'.hx).and (lnX F' nb L'), by rw [hr], List.prefix_refl _, hf.turnF (hx' := (rest.and A'.hx).and (lnX F' nb L')) hch (fun b hb => ⟨.inr hb, (hown b hb).2⟩) ⟨⟨rest.loc w w' hf.x.1.1 fun k hk => hch.block k (hf.sep k (.inl (.inl hk))).1 fun q => (hown k q).1 (.inl hk), hXA⟩, hXL⟩ (fun k hk => ?_) hhp hfit (hc _) oneNil, holds_pre t hp (h L' A' F' hS' (fun k hk => (hA k hk).1.imp id fun q => Nat.le_trans hf.chg.size q) fun k hk => ⟨?_, ?_⟩)⟩
  · rcases hk with (hk | hk) | hk
    · exact ⟨.inl (.inl (.inl hk)), Nat.lt_of_lt_of_le (hf.sep k (.inl (.inl hk))).1 hch.size⟩
    · exact ⟨(hA k hk).1.elim (fun q => .inl (.inl (.inr q))) .inr, RA.sep hXA k hk⟩
    · exact ⟨(hge k hk).1.elim (fun q => .inl (.inr q)) .inr, (hge k hk).2⟩
  · rintro (q | q)
    · rcases (hge k hk).1 with z | z
      · exact (hown k z).1 (.inl q)
      · have := hrW k q
        have := hf.chg.size
        have : W.heap.size ≤ w.heap.size := this
        omega
    · exact (hA k q).2 hk
  · exact (hge k hk).1.elim (fun z => (hown k z).2) fun z => .inl (Nat.le_trans hf.chg.size z)
end
theorem fit_known {A : RA} (ok : A.Ok) (s : Int) : VlFit (A.known s).1 := by
  unfold RA.known
  split
  · rename_i d hd; exact ok.d d (List.mem_of_find?_eq_some hd)
  · exact vz_fit
def LrI (w : World) (B : HX) (nb : Nat) (vs : Vals) (hx : HX) (n : Nat) : Prop := ∃ (i : Nat) (L : Ln) (A : RA) (F : Nat → Prop), n = 100 - i ∧ i ≤ 100 ∧ vs = ⟨[(i : Int), A.next, A.top], [], [], [A.mem.length, A.cm, A.ks.length, A.ck, A.ds.length, A.cd], [A.am, A.ak, A.ad]⟩ ∧ RunS i L A ∧ OwnF w (fun _ => False) (B.and A.hx) F ∧ (∀ k, A.hx.F k → w.heap.size ≤ k) ∧ hx = (B.and A.hx).and (lnX F nb L)
set_option maxHeartbeats 4000000 in
theorem runs_walk (am : Option Addr) (cm : Nat) (ms : List Int) (from_ : Int) (ao : Option Addr) (co : Nat) (os : List OpL) (w : World) (Hm : Ints w am ms) (sm : ms.length * 8 ≤ 140737488351232) (Ho : Cells w ao (ocells os)) (hos : ∀ o ∈ os, OpOk w o) (so : os.length ≤ 4611686018427387903) :
    Calls Try.prog 6 #[.slice am ms.length cm, .int .i64 from_, .slice ao os.length co] w (PureAt w (.bool true)) := by
  have hsc := sc_X Ho hos
  obtain ⟨B, eB⟩ : ∃ x, x = (HX.ints am ms).and (scX ao os) := ⟨_, rfl⟩
  have BM : ∀ {w}, B.X w → Ints w am ms := fun h => by rw [eB] at h; exact h.1
  have BX : ∀ {w}, B.X w → (scX ao os).X w := fun h => by rw [eB] at h; exact h.2
  have BF : ∀ {k}, (scX ao os).F k → B.F k := fun h => by rw [eB]; exact .inr h
  have Bs : ∀ k, B.F k → k < w.heap.size := fun k hk => by
    rw [eB] at hk
    rcases hk with hk | hk
    · rw [hk.2]; exact (Hm.at_ (List.length_pos_iff.2 hk.1)).2.1
    · exact sc_lt hsc k hk
  refine calls_at (tab_ok _) Try.func6 rfl tLRuns (ρ := ⟨[from_], [], [], [ms.length, cm, os.length, co], [am, ao]⟩) (ids := []) (hx := B) rfl (Facts.initq rfl oneNil (by rw [eB]; exact ⟨Hm, hsc⟩) Bs) ?_
  refine node_P ⟨[], [true], [], [], []⟩ #[] (.bool true) (by intros; kernel_rfl) (by intros; kernel_rfl) (by kernel_rfl) (by kernel_rfl) (by kernel_rfl) oneNil (fun ids w2 hp hf => head_any w2) ?_
  refine br_F false (by kernel_rfl) rfl ?_
  by_cases hok : setOkB ms = true ∧ 1 ≤ from_ ∧ from_ ≤ 1099511627776
  · refine node_rwn (V := fun x => .tuple #[.agg #[x, .int .i64 from_, .int .i64 0, .slice none 0 0, .slice none 0 0], .bool true]) (sz := 1) (e := 3) (n := ms.length) (xs := ms.map (Value.int .i64)) (fun _ => #[.slice am ms.length cm, .int .i64 from_]) (fun a' c' => ⟨[from_, 0], [true], [], [ms.length, c', 0, 0, 0, 0], [a', none, none]⟩) (by intros; kernel_rfl) (fun ids w2 hp hf => ?_) (by intros; kernel_rfl) (by kernel_rfl) (by kernel_rfl) (by intros; kernel_rfl) (fun _ _ => oneNil) ?_
    · refine (rnew_any am cm ms from_ w2 (BM hf.x) sm).mono ?_
      intro e w' h
      rw [if_pos hok] at h
      obtain ⟨a', c', rfl, h1, h2, h3⟩ := h
      exact ⟨a', c', rfl, h1, h2, h3⟩
    intro am' cm' _ hfr1
    refine node_clones (sz := 1) (xs := ms.map (Value.int .i64)) rfl Try.underlying26 info_int1 rfl (by decide) 1 rfl (fun _ => am) ms.length cm (by rw [List.length_map, Nat.mul_one]) (fun ids w2 hp hf => (BM hf.x.1).cells) (fun x hx => by obtain ⟨n, _, rfl⟩ := List.mem_map.1 hx; rfl) (by unfold maxLen; omega) (by omega) (by intros; kernel_rfl) (by intros; kernel_rfl) (by intros; kernel_rfl) (by kernel_rfl) (by kernel_rfl) (by intros; kernel_rfl) ?_
    intro a2 c2 hfr2
    refine node_lnew (fun _ => a2) c2 ms from_ (by intros; kernel_rfl) (fun ids w2 hp hf => Ints.of_cells (by omega) Hm.fits (rw_cells hf.x.2)) hok (by intros; kernel_rfl) (by kernel_rfl) (by kernel_rfl) (by intros; kernel_rfl) ?_
    intro nb F0 hown0
    refine node_pnn (some ⟨nb, 0, none⟩) ⟨[], [true], [], [], []⟩ Try.underlying24 (by intros; kernel_rfl) (by intros; kernel_rfl) (by intros; kernel_rfl) (by kernel_rfl) (by kernel_rfl) (by kernel_rfl) oneNil ?_
    refine br_F (!(true == true)) (by kernel_rfl) rfl ?_
    refine node_pnil (some ⟨nb, 0, none⟩) ⟨[], [false], [], [], []⟩ Try.underlying24 (by intros; kernel_rfl) (by intros; kernel_rfl) (by intros; kernel_rfl) (by kernel_rfl) (by kernel_rfl) (by kernel_rfl) oneNil ?_
    refine br_F false (by kernel_rfl) rfl ?_
    obtain ⟨A0, eA0⟩ : ∃ A0 : RA, A0 = ⟨am', cm', ms, from_, 0, none, 0, [], none, 0, []⟩ := ⟨_, rfl⟩
    have A0F : ∀ {w2}, (HX.rw 1 3 am' ms.length cm' (ms.map (Value.int .i64))).X w2 → ∀ k, A0.hx.F k → cm' ≠ 0 ∧ abk am' = some k := fun hX k hk => by
      rw [eA0] at hk
      rcases RA.F_of hk with z | z | z | ⟨y, hy, _⟩ | ⟨y, hy, _⟩
      · refine (rw_cl hX).2 k ⟨fun q => ?_, z.2⟩
        have z1 : ms ≠ [] := z.1
        exact z1 (by simpa using q)
      · exact absurd rfl z.1
      · exact absurd rfl z.1
      · cases hy
      · cases hy
    refine ⟨LrI w B nb, fun ids w2 hp hf => ⟨(B.and A0.hx).and (lnX F0 nb (Ln.new ms from_)), 100, ⟨⟨⟨hf.x.1.1.1, ?_⟩, hf.x.2⟩, fun k hk => ?_⟩, 0, Ln.new ms from_, A0, F0, rfl, by omega, by rw [eA0]; kernel_rfl, ?_, fun k hk => ⟨fun q => ?_, (hown0 k hk).2⟩, fun k hk => ?_, rfl⟩, ?_⟩
    · rw [eA0]
      exact RA.X_of (show Ints w2 am' ms from Ints.of_cells (by omega) Hm.fits (rw_cells hf.x.1.1.2)) (cl_nil _ _) (cl_nil _ _) (fun k hk => by cases hk) (fun k hk => by cases hk)
    · rcases hk with (q | q) | q
      · exact hf.sep k (.inl (.inl (.inl q)))
      · exact hf.sep k (.inl (.inl (.inr (A0F hf.x.1.1.2 k q))))
      · exact hf.sep k (.inr q)
    · exact RunS.new ms from_ (setOkB_iff.1 hok.1) hok.2.1 (by omega) A0 (by rw [eA0]; exact ⟨rfl, rfl, rfl, rfl, rfl⟩)
    · rcases q with q | q
      · exact (hown0 k hk).1 (.inl (.inl q))
      · exact (hown0 k hk).1 (.inl (.inr (A0F hf.x.1.1.2 k q)))
    · have := A0F hf.x.1.1.2 k hk
      exact (hfr1 k this.1 this.2).1
    rintro vs hx' cnt hcnt ⟨i, L, A, F, rfl, hi, rfl, hS, hown, hAn, rfl⟩
    have hdone : ∀ {m : Mem} {ρ : Env} {pre : List Nat} {hx : HX} {S : Stack}, (Tree.done (.lf (.bool (.lit true))) m).holds ⟨Try.prog, w, fun _ => False, PureAt w (.bool true)⟩ ρ pre hx S := pure_out (fun _ => id) (by intros; kernel_rfl)
    refine br_D (p := (i : Int) < (os.length : Int)) (by kernel_rfl) (fun hk => ?_) (fun hk => hdone)
    refine br_D (p := (i : Int) < 100) (by kernel_rfl) (fun hk2 => ?_) (fun hk => hdone)
    have hk : i < os.length := by omega
    obtain ⟨o, ho⟩ : ∃ b, os[i]? = some b := ⟨_, List.getElem?_eq_getElem hk⟩
    have hom := List.mem_of_getElem? ho
    obtain ⟨s1, q1⟩ := oc_elt Ho ho
    refine need_k (ao.isSome = true ∧ 0 ≤ (i : Int) ∧ (i : Int) < (os.length : Int)) (by kernel_rfl) ⟨s1, by omega, by omega⟩ ?_
    refine holds_env (ρ' := ⟨[from_, from_, 0, (i : Int), A.next, A.top], [true, true, true, false], [.pointer (some ⟨nb, 0, none⟩)], [ms.length, cm, os.length, co, ms.length, cm', 0, 0, 0, 0, ms.length, c2, A.mem.length, A.cm, A.ks.length, A.ck, A.ds.length, A.cd], [am, ao, am', none, none, a2, A.am, A.ak, A.ad]⟩) (by kernel_rfl) ?_
    have hat : ∀ {w2 : World}, ((B.and A.hx).and (lnX F nb L)).X w2 → OpOk w2 o ∧ ∀ k, (vlX o.p.v o.p.a1 o.p.a2).F k → B.F k := fun h => ⟨⟨sc_at (BX h.1.1) hos hom, (hos o hom).slot, (hos o hom).m⟩, fun k hk => BF (sc_F hom hk)⟩
    have hwi : IntKind.i64.wrap ((i : Int) + 1) = ((i + 1 : Nat) : Int) := by rw [wrap_i64 (by omega)]; omega
    refine par_i ?p1 ?p2
    case' p1 =>
      refine node_ld0 (k := ⟨6, 4, 1, 18, 9⟩) ⟨[o.k, o.node, o.slot, o.r, o.n, o.p.v.k, o.m], [], [], [o.p.v.cs.length, o.p.c1, o.p.v.ns.length, o.p.c2], [o.p.a1, o.p.a2]⟩ (.pointer (some (((ao.getD ⟨0, 0, none⟩).add (i * 9)).add 0))) o.cells (by intros; kernel_rfl) (by intros; kernel_rfl) q1 ⟨by kernel_rfl, (fun v hv => by simp only [List.mem_singleton] at hv; subst hv; rfl)⟩ (by kernel_rfl) oneNil ?_
      refine par_i ?_ ?_
    case' p2 => refine node_ld0 (k := ⟨6, 4, 1, 18, 9⟩) ⟨[o.k, o.node, o.slot, o.r, o.n, o.p.v.k, o.m], [], [], [o.p.v.cs.length, o.p.c1, o.p.v.ns.length, o.p.c2], [o.p.a1, o.p.a2]⟩ (.pointer (some (((ao.getD ⟨0, 0, none⟩).add (i * 9)).add 0))) o.cells (by intros; kernel_rfl) (by intros; kernel_rfl) q1 ⟨by kernel_rfl, (fun v hv => by simp only [List.mem_singleton] at hv; subst hv; rfl)⟩ (by kernel_rfl) oneNil ?_
    all_goals
      refine node_call o hS (by omega) hown (fun ids w2 hp hf => hat hf.x) (by intros; kernel_rfl) Bs (by intros; kernel_rfl) (by kernel_rfl) (by kernel_rfl) (by intros; kernel_rfl) ?_
      intro L1 A1 F1 hS1 hA1 hown1
      have hA1n : ∀ k, A1.hx.F k → w.heap.size ≤ k := fun k hk => (hA1 k hk).elim (hAn k) id
      have ok1 := hS1.ok (by omega)
      refine br_F false (by kernel_rfl) rfl ?_
      refine node_lval (V := fun x => .tuple #[x, .bool (A1.known A1.next).2]) (v := (A1.known A1.next).1) #[A1.val, .int .i64 A1.next] hown1 (fun b1 d1 b2 d2 => ⟨[(A1.known A1.next).1.k], [(A1.known A1.next).2], [], [(A1.known A1.next).1.cs.length, d1, (A1.known A1.next).1.ns.length, d2], [b1, b2]⟩) (by intros; kernel_rfl) (fun ids w2 hp hf => rknown_any A1.next w2 ok1 hf.x.1.2) (by intros; kernel_rfl) (by kernel_rfl) (by kernel_rfl) (by intros; kernel_rfl) (fun _ _ _ _ => oneNil) ?_
      intro b1 d1 b2 d2 f1 hown2
      obtain ⟨u, q, eu⟩ : ∃ u q, A1.known A1.next = (u, q) := ⟨_, _, rfl⟩
      have eL : L1.known L1.next = (u, q) := by rw [← hS1.rel.known, ← hS1.rel.next]; exact eu
      have uf : VlFit u := by have := fit_known ok1 A1.next; rw [eu] at this; exact this
      rw [eu] at f1 hown2 ⊢
      obtain ⟨R, eR⟩ : ∃ R, R = (B.and A1.hx).and (vlX u b1 b2) := ⟨_, rfl⟩
      rw [← eR] at hown2 ⊢
      have Rx : ∀ {w2}, R.X w2 → (B.X w2 ∧ A1.hx.X w2) ∧ (vlX u b1 b2).X w2 := fun h => by rw [eR] at h; exact h
      refine node_vrowl (V := fun x => .tuple #[.int .i64 L1.next, x, .bool q]) (v := u) (fun _ => #[.pointer (some ⟨nb, 0, none⟩)]) (fun e1 g1 e2 g2 => ⟨[L1.next, u.k], [q], [], [u.cs.length, g1, u.ns.length, g2], [e1, e2]⟩) hown2 (by intros; kernel_rfl) (fun ids w2 hp hf => ?_) (by intros; kernel_rfl) (by kernel_rfl) (by kernel_rfl) (by intros; kernel_rfl) (fun _ _ _ _ => oneNil) ?_
      · obtain ⟨D, hok, hnb, hB, hX, Fnb, hsub⟩ := obj_open hf.x.2
        have := lnext_row hB hX hok hnb (fun k hk => sep_of hf k (hsub k hk))
        rw [eL] at this; exact this
      intro e1 g1 e2 g2 f2 f3 hown3
      refine br_F (L1.next != A1.next) (by kernel_rfl) (by rw [hS1.rel.next]; simp) ?_
      refine br_F (!(q == q)) (by kernel_rfl) (by simp) ?_
      refine node_PI ⟨[], [true], [], [], []⟩ (fun _ => #[vlV u e1 g1 e2 g2, vlV u b1 d1 b2 d2]) (.bool true) (by intros; kernel_rfl) (by intros; kernel_rfl) (by kernel_rfl) (by kernel_rfl) (by kernel_rfl) oneNil (fun ids w2 hp hf => ?_) ?_
      · have := samev_any u e1 g1 e2 g2 u b1 d1 b2 d2 w2 (rows_at uf hf.x.1.2.1 hf.x.1.2.2) (uf.at_ (Rx hf.x.1.1).2)
        rw [vlSame_t rfl] at this
        exact this
      refine br_F false (by kernel_rfl) rfl ?_
      refine node_lsize hS1.inv L1.size rfl (by intros; kernel_rfl) (by intros; kernel_rfl) (by kernel_rfl) (by kernel_rfl) (by kernel_rfl) ?_
      refine node_PI ⟨[(L1.size : Int)], [], [], [], []⟩ (fun _ => #[A1.val]) (.int .i64 (L1.size : Int)) (by intros; kernel_rfl) (by intros; kernel_rfl) (by kernel_rfl) (by kernel_rfl) (by kernel_rfl) oneNil (fun ids w2 hp hf => ?_) ?_
      · have := rsize_any w2 ok1 (Rx hf.x.1.1).1.2
        rw [hS1.rel.size hS1.inv] at this; exact this
      refine br_F ((L1.size : Int) != (L1.size : Int)) (by kernel_rfl) (by simp) ?_
      have ee : ((R.and ((crow e1 u.cs.length g1 u.cs).and (nrow e2 u.ns.length g2 u.ns))).and (lnX F1 nb L1)) = ((R.and (nrow e2 u.ns.length g2 u.ns)).and (lnX F1 nb L1)).and (crow e1 u.cs.length g1 u.cs) := by ac_rfl
      refine holds_eq ee ?_
      refine sq_loop e1 u.cs.length g1 (ccells u.cs) (ccells_len _) uf.l1 (by kernel_rfl) (by intros; kernel_rfl) (by intros; kernel_rfl) (by intros; kernel_rfl) (by intros; kernel_rfl) (by intros; kernel_rfl) (by intros; kernel_rfl) (fun k h1 h2 => ⟨?_, .inl (f2 k ⟨h1, h2⟩).1⟩) (by kernel_rfl) (by kernel_rfl) (by intros; kernel_rfl) ?_
      · have hc : (crow e1 u.cs.length g1 u.cs).F k := ⟨h1, h2⟩
        rintro ((q | q) | q)
        · exact (f2 k hc).2 q
        · exact (f3 k q).2.2 hc
        · exact (hown3 k q).1 (.inr (.inl hc))
      intro k xs J
      refine again_V ⟨[IntKind.i64.wrap ((i : Int) + 1), A1.next, A1.top], [], [], [A1.mem.length, A1.cm, A1.ks.length, A1.ck, A1.ds.length, A1.cd], [A1.am, A1.ak, A1.ad]⟩ rfl (by intros; kernel_rfl) ((B.and A1.hx).and (lnX F1 nb L1)) (fun w2 ids hf => ⟨⟨(Rx hf.x.1.1.1).1, hf.x.1.2⟩, fun k hk => ?_⟩) ⟨100 - (i + 1), by omega, i + 1, L1, A1, F1, rfl, by omega, by rw [hwi], hS1, hown1, hA1n, rfl⟩
      rcases hk with hk | hk
      · exact hf.sep k (.inl (.inl (.inl (by rw [eR]; exact .inl hk))))
      · exact hf.sep k (.inl (.inr hk))
  · -- no learner
    refine node_PI ⟨[0, 0], [false], [], [0, 0, 0, 0, 0, 0], [none, none, none]⟩ (fun _ => #[.slice am ms.length cm, .int .i64 from_]) (.tuple #[(⟨none, 0, [], 0, 0, none, 0, [], none, 0, []⟩ : RA).val, .bool false]) (by intros; kernel_rfl) (by intros; kernel_rfl) (by kernel_rfl) (by kernel_rfl) (by kernel_rfl) oneNil (fun ids w2 hp hf => ?_) ?_
    · refine (rnew_any am cm ms from_ w2 (BM hf.x) sm).mono ?_
      intro e w' h
      rw [if_neg hok] at h
      exact h
    refine node_clones (sz := 1) (xs := ms.map (Value.int .i64)) rfl Try.underlying26 info_int1 rfl (by decide) 1 rfl (fun _ => am) ms.length cm (by rw [List.length_map, Nat.mul_one]) (fun ids w2 hp hf => (BM hf.x).cells) (fun x hx => by obtain ⟨n, _, rfl⟩ := List.mem_map.1 hx; rfl) (by unfold maxLen; omega) (by omega) (by intros; kernel_rfl) (by intros; kernel_rfl) (by intros; kernel_rfl) (by kernel_rfl) (by kernel_rfl) (by intros; kernel_rfl) ?_
    intro a2 c2 hfr2
    refine node_PI ⟨[], [], [.pointer none], [], []⟩ (fun _ => #[.slice a2 ms.length c2, .int .i64 from_]) (.pointer none) (by intros; kernel_rfl) (by intros; kernel_rfl) (by kernel_rfl) (by kernel_rfl) (by kernel_rfl) (fun v hv => by simp only [List.mem_singleton] at hv; subst hv; rfl) (fun ids w2 hp hf => ?_) ?_
    · refine (lnew_any a2 c2 ms from_ w2 (Ints.of_cells (by omega) Hm.fits (rw_cells hf.x.2))).mono ?_
      intro e w' h
      rw [if_neg hok] at h
      exact h
    refine node_pnn none ⟨[], [false], [], [], []⟩ Try.underlying24 (by intros; kernel_rfl) (by intros; kernel_rfl) (by intros; kernel_rfl) (by kernel_rfl) (by kernel_rfl) (by kernel_rfl) oneNil ?_
    refine br_F (!(false == false)) (by kernel_rfl) rfl ?_
    refine node_pnil none ⟨[], [true], [], [], []⟩ Try.underlying24 (by intros; kernel_rfl) (by intros; kernel_rfl) (by intros; kernel_rfl) (by kernel_rfl) (by kernel_rfl) (by kernel_rfl) oneNil ?_
    refine br_T true (by kernel_rfl) rfl ?_
    refine node_PI ⟨[0, 0], [false], [], [0, 0, 0, 0], [none, none]⟩ (fun _ => #[.pointer none]) (.tuple #[.int .i64 0, vlV vz none 0 none 0, .bool false]) (by intros; kernel_rfl) (by intros; kernel_rfl) (by kernel_rfl) (by kernel_rfl) (by kernel_rfl) oneNil (fun ids w2 hp hf => lnextN_any) ?_
    refine br_T true (by kernel_rfl) rfl ?_
    refine node_PI ⟨[1, 1, 1, 0], [], [], [0, 0, 0, 0], [none, none]⟩ (fun _ => #[.int .i64 1, .int .i64 1, vlV vz none 0 none 0]) (.agg #[.int .i64 1, .int .i64 1, .int .i64 1, .int .i64 0, .slice none 0 0, .slice none 0 0]) (by intros; kernel_rfl) (by intros; kernel_rfl) (by kernel_rfl) (by kernel_rfl) (by kernel_rfl) oneNil (fun ids w2 hp hf => vote_any 1 1 vz none 0 none 0 w2) ?_
    refine node_PI ⟨[], [false], [], [], []⟩ (fun _ => #[.pointer none, .int .i64 1, .agg #[.int .i64 1, .int .i64 1, .int .i64 1, .int .i64 vz.k, .slice none vz.cs.length 0, .slice none vz.ns.length 0]]) (.bool false) (by intros; kernel_rfl) (by intros; kernel_rfl) (by kernel_rfl) (by kernel_rfl) (by kernel_rfl) oneNil (fun ids w2 hp hf => votedN_any 1 1 1 1 vz none 0 none 0) ?_
    refine br_T true (by kernel_rfl) rfl ?_
    refine node_PI ⟨[], [false], [], [], []⟩ (fun _ => #[.pointer none, .int .i64 1, vlV vz none 0 none 0]) (.bool false) (by intros; kernel_rfl) (by intros; kernel_rfl) (by kernel_rfl) (by kernel_rfl) (by kernel_rfl) oneNil (fun ids w2 hp hf => toldN_any 1 vz none 0 none 0) ?_
    refine br_T true (by kernel_rfl) rfl ?_
    refine node_PI ⟨[], [false], [], [], []⟩ (fun _ => #[.pointer none]) (.bool false) (by intros; kernel_rfl) (by intros; kernel_rfl) (by kernel_rfl) (by kernel_rfl) (by kernel_rfl) oneNil (fun ids w2 hp hf => passN_any) ?_
    refine br_T true (by kernel_rfl) rfl ?_
    refine node_PI ⟨[], [], [], [0, 0], [none]⟩ (fun _ => #[.pointer none, .int .i64 9]) (.slice none 0 0) (by intros; kernel_rfl) (by intros; kernel_rfl) (by kernel_rfl) (by kernel_rfl) (by kernel_rfl) oneNil (fun ids w2 hp hf => lmissN_any 9) ?_
    refine br_T true (by kernel_rfl) rfl ?_
    refine node_PI ⟨[0], [], [], [], []⟩ (fun _ => #[.pointer none]) (.int .i64 0) (by intros; kernel_rfl) (by intros; kernel_rfl) (by kernel_rfl) (by kernel_rfl) (by kernel_rfl) oneNil (fun ids w2 hp hf => lsizeN_any) ?_
    refine br_T true (by kernel_rfl) rfl ?_
    refine node_PI ⟨[], [false], [], [], []⟩ (fun _ => #[.pointer none, .int .i64 3]) (.bool false) (by intros; kernel_rfl) (by intros; kernel_rfl) (by kernel_rfl) (by kernel_rfl) (by kernel_rfl) oneNil (fun ids w2 hp hf => jumpN_any 3) ?_
    exact pure_out (fun _ => id) (by intros; kernel_rfl)
theorem runs_args (am : Option Addr) (cm : Nat) (ms : List Int) (from_ : Int) (a : Option Addr) (cap : Nat) (ds : List Dat) (w : World) (Hm : Ints w am ms) (sm : ms.length * 8 ≤ 140737488351232) (ht : I64 from_) (h1 : Cells w a (Dat.cellsAll ds)) (h2 : ∀ d ∈ ds, d.In Try.prog w 36) (h3 : ds.length ≤ 9223372036854775807) (h4 : ds.length * Try.prog.bytesOf 36 ≤ reachBytes) : Calls Try.prog 6 #[.slice am ms.length cm, .int .i64 from_, .slice a ds.length cap] w (PureAt w (.bool true)) := by
  obtain ⟨os, e1, e2, hos⟩ := opn_ops ds h2
  rw [e2] at h1
  rw [← e1] at h3 h4 ⊢
  refine runs_walk am cm ms from_ a cap os w Hm sm h1 hos ?_
  have : Try.prog.bytesOf 36 = 104 := by kernel_rfl
  rw [this] at h4
  have := reach_is
  omega
end Go.Proofs.Ythmlhnkdiafpkaa
