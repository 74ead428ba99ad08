/- ask, prepare, accept, Decided, Waiting, Top, Stopping, New, Submit. -/
import Derived.Test.YtlgpjjgkdpmidaaPrA
namespace Go.Proofs.Ytlgpjjgkdpmidaa
open Go.ChangeShapes Go.WideShapes Go.ChangeAt Go.RowKit Go.Syn Go.Eng Go.MapKept
set_option linter.unusedVariables false
set_option linter.unusedSimpArgs false
set_option maxRecDepth 100000
section
variable {D D' : Pr Pv} {a a' : PA} {nb : Nat} {w : World}
/-- What is apart from the piece i. -/
theorem dj_at (h : Dj (pcs D a)) {i : Nat} {x : HX} (hi : (pcs D a)[i]? = some x) {k : Nat} (hk : x.F k) (j : Nat) {y : HX} (hj : (pcs D a)[j]? = some y) (hij : i ≠ j) : ¬ y.F k := h i j x y hi hj hij k hk
theorem bo_apart (h : Dj (pcs D a)) : ¬ (((((HX.all a.G).and (HX.vmap a.bb (mmap voV D.best))).and (irow a.as_ a.cs D.said)).and (irow a.af a.cf D.fresh)).and (qrow a.aq a.cq D.queue)).F a.bo := by
  rintro ((((q | q) | q) | q) | q)
  · exact dj_at h (i := 2) rfl (k := a.bo) rfl 0 rfl (by decide) q
  · exact dj_at h (i := 2) rfl (k := a.bo) rfl 1 rfl (by decide) q
  · exact dj_at h (i := 2) rfl (k := a.bo) rfl 3 rfl (by decide) q
  · exact dj_at h (i := 2) rfl (k := a.bo) rfl 4 rfl (by decide) q
  · exact dj_at h (i := 2) rfl (k := a.bo) rfl 5 rfl (by decide) q
theorem ask_any (s : Int) (p : Pv) (hB : Blk w nb (prC D a) 77) (hX : (prX D a).X w) (hok : POk D a) (hnb : ¬ (prX D a).F nb) (hD : ∀ k, (prX D a).F k → k < w.heap.size) (hp : p.hx ∈ a.G) (hfit : VlFit p.v) (hl : D.fresh.length ≤ 1000000) : Calls Try.prog 44 #[.pointer (some ⟨nb, 0, none⟩), .int .i64 s, p.val] w (PSet w nb D a (D.ask kdP s p)) := by
  refine calls_at (tab_ok _) Try.func44 rfl tPAsk (ρ := ⟨[D.me, D.window, D.phase, D.r, D.n, D.frm, D.next, p.v.k, s], [D.stop], [.map (some a.bb), .map (some a.bo)], [D.mem.length, a.cm, D.said.length, a.cs, D.fresh.length, a.cf, D.queue.length, a.cq, p.v.cs.length, p.c1, p.v.ns.length, p.c2], [a.am, a.as_, a.af, a.aq, p.a1, p.a2]⟩) (ids := [nb]) (hx := prX D a) rfl (Facts.initx (M := fun k => k = nb ∨ (prX D a).F k) rfl (fun v hv => by simp only [List.mem_cons, List.not_mem_nil, or_false] at hv; rcases hv with rfl | rfl <;> rfl) hB rfl (.inl rfl) hX (fun k hk => ⟨hD k hk, fun e => hnb (e ▸ hk)⟩)) ?_
  have ed : prX D a = (((((HX.all a.G).and (HX.vmap a.bb (mmap voV D.best))).and (irow a.as_ a.cs D.said)).and (irow a.af a.cf D.fresh)).and (qrow a.aq a.cq D.queue)).and (HX.vmap a.bo (mmap Pv.val D.out)) := by unfold prX; ac_rfl
  refine holds_eq ed ?_
  refine node_vput (mt := 75) (kt := 3) (et := 31) a.bo (mmap Pv.val D.out) s p.val (.inr (.inr (pcs_F (b := HX.vmap a.bo (mmap Pv.val D.out)) (by simp [pcs]) rfl))) (bo_apart hok.dj) (by intros; kernel_rfl) (by intros; kernel_rfl) (by intros; kernel_rfl) Try.underlying75 Try.underlying3 (by kernel_rfl) (by kernel_rfl) (by kernel_rfl) ?_
  rw [vput_is, mput_map]
  obtain ⟨R, eR⟩ : ∃ R, R = ((((HX.all a.G).and (HX.vmap a.bb (mmap voV D.best))).and (HX.vmap a.bo (mmap Pv.val (mput D.out s p)))).and (irow a.as_ a.cs D.said)).and (qrow a.aq a.cq D.queue) := ⟨_, rfl⟩
  have e2 : (((((HX.all a.G).and (HX.vmap a.bb (mmap voV D.best))).and (irow a.as_ a.cs D.said)).and (irow a.af a.cf D.fresh)).and (qrow a.aq a.cq D.queue)).and (HX.vmap a.bo (mmap Pv.val (mput D.out s p))) = R.and (irow a.af a.cf D.fresh) := by rw [eR]; ac_rfl
  refine holds_eq e2 ?_
  refine node_pushs (e := 3) (sz := 1) rfl Try.underlying26 info_int1 rfl (by decide) a.af D.fresh.length a.cf (D.fresh.map (Value.int .i64)) [.int .i64 s] 2 (by intros; kernel_rfl) (by intros; kernel_rfl) rfl (by intros; kernel_rfl) rfl (fun v hv => by simp only [List.mem_singleton] at hv; subst hv; rfl) (fun k q1 q2 => ?_) (fun k q1 q2 => .inr (.inr (pcs_F (b := irow a.af a.cf D.fresh) (by simp [pcs]) ⟨q1, q2⟩))) (by unfold maxLen; omega) (by omega) (by intros; kernel_rfl) (by kernel_rfl) (by kernel_rfl) (by intros; kernel_rfl) ?_
  · have hk : (irow a.af a.cf D.fresh).F k := ⟨q1, q2⟩
    rw [eR]
    rintro ((((q | q) | q) | q) | q)
    · exact dj_at hok.dj (i := 4) rfl hk 0 rfl (by decide) q
    · exact dj_at hok.dj (i := 4) rfl hk 1 rfl (by decide) q
    · exact dj_at hok.dj (i := 4) rfl hk 2 rfl (by decide) q
    · exact dj_at hok.dj (i := 4) rfl hk 3 rfl (by decide) q
    · exact dj_at hok.dj (i := 4) rfl hk 5 rfl (by decide) q
  intro af' cf' hc' hr' hor'
  obtain ⟨D', eD⟩ : ∃ D', D' = D.ask kdP s p := ⟨_, rfl⟩
  have hrow : HX.rw 1 3 af' (D.fresh.length + 1) cf' (D.fresh.map (Value.int .i64) ++ [.int .i64 s]) = irow af' cf' (D.fresh ++ [s]) := by
    unfold irow; rw [List.length_append, List.map_append]; rfl
  have hFr : ∀ k, (irow af' cf' (D.fresh ++ [s])).F k → (irow a.af a.cf D.fresh).F k ∨ (w.heap.size ≤ k ∧ ¬ (R.and (irow a.af a.cf D.fresh)).F k) := fun k hk => by
    rcases hor' with ⟨r1, r2⟩ | ⟨g, r1, r2, r3⟩
    · exact .inl ⟨r1, by rw [← r2]; exact hk.2⟩
    · have : g = k := Option.some.inj (r1.symm.trans hk.2)
      subst this
      exact .inr ⟨r2, r3⟩
  have hok' : POk (D.ask kdP s p) { a with af := af', cf := cf' } := by
    refine ⟨hok.gm, hok.gz, hok.gb, (fun q hq => ?_), hok.gq, ?_⟩
    · rcases mput_mem hq with rfl | hq
      · exact ⟨hp, hfit⟩
      · exact hok.go q hq.1
    · have d1 := hok.dj.set (i := 2) (a' := HX.vmap a.bo (mmap Pv.val (mput D.out s p))) rfl fun k hk => .inl hk
      refine d1.set (i := 4) (a' := irow af' cf' (D.fresh ++ [s])) rfl fun k hk => (hFr k hk).imp id fun q b hb z => q.2 ?_
      simp only [pcs, List.set_cons_succ, List.set_cons_zero, List.mem_cons, List.not_mem_nil, or_false] at hb
      rw [eR]
      rcases hb with rfl | rfl | rfl | rfl | rfl | rfl
      · exact .inl (.inl (.inl (.inl (.inl z))))
      · exact .inl (.inl (.inl (.inl (.inr z))))
      · exact .inl (.inl (.inl (.inr z)))
      · exact .inl (.inl (.inr z))
      · exact .inr z
      · exact .inl (.inr z)
  have fin : ∀ {cs : List LV} {rr : List (Nat × List LV)} {n : Cnt} {v : SV} {ρ : Env} {S : Stack}, (∀ ids, cellsDen ρ ids cs = prC D' { a with af := af', cf := cf' }) → (∀ ids, v.den ρ ids = .tuple #[]) → (Tree.done v ⟨(77, cs) :: rr, n⟩).holds ⟨Try.prog, w, fun k => k = nb ∨ (prX D a).F k, PSet w nb D a D'⟩ ρ [nb] (R.and (HX.rw 1 3 af' (D.fresh.length + 1) cf' (D.fresh.map (Value.int .i64) ++ [.int .i64 s]))) S := fun {cs rr n v ρ S} hc hv => by
    rw [hrow]
    refine pset_done (a' := { a with af := af', cf := cf' }) (by rw [eD]; exact hok') (fun w h => ?_) (fun k hk => ?_) hc hv
    · rw [eR] at h
      rw [eD]
      exact ⟨⟨h.1.1, h.2⟩, h.1.2⟩
    · rw [eD] at hk
      rw [eR]
      rcases hk with ((((hk | hk) | hk) | hk) | hk) | hk
      · exact ⟨.inl (.inl (.inl (.inl (.inl hk)))), .inl (.inl (.inl (.inl (.inl (.inl hk)))))⟩
      · exact ⟨.inl (.inl (.inl (.inl (.inr hk)))), .inl (.inl (.inl (.inl (.inl (.inr hk)))))⟩
      · exact ⟨.inl (.inl (.inl (.inr hk))), .inl (.inl (.inl (.inl (.inr hk))))⟩
      · exact ⟨.inl (.inl (.inr hk)), .inl (.inl (.inl (.inr hk)))⟩
      · exact ⟨.inr hk, (hFr k hk).elim (fun q => .inl (.inl (.inr q))) fun q => .inr q.1⟩
      · exact ⟨.inl (.inr hk), .inl (.inr hk)⟩
  rw [← eD]
  refine br_B D.stop (by kernel_rfl) (fun h => ?_) (fun h => ?_)
  · refine fin (fun ids => ?_) (by intros; kernel_rfl)
    rw [eD]
    unfold prC Pr.ask
    dsimp only
    rw [List.length_append, h]; rfl
  · refine fin (fun ids => ?_) (by intros; kernel_rfl)
    rw [eD]
    unfold prC Pr.ask
    dsimp only
    rw [List.length_append, h]; rfl
/-- Reading methods. -/
theorem prep_any (hB : Blk w nb (prC D a) 77) (hX : (prX D a).X w) (hnb : ¬ (prX D a).F nb) (hD : ∀ k, (prX D a).F k → k < w.heap.size) : Calls Try.prog 31 #[.pointer (some ⟨nb, 0, none⟩)] w (PureAt w (.agg #[.int .i64 1, .int .i64 0, .int .i64 0, .int .i64 0, .int .i64 D.r, .int .i64 D.n, .int .i64 D.frm, .int .i64 0, .int .i64 0, .int .i64 0, .slice none 0 0, .slice none 0 0, .slice none 0 0, .int .i64 0, .int .i64 0, .int .i64 0, .int .i64 0, .int .i64 0, .int .i64 0, .int .i64 0, .int .i64 0, .int .i64 0, .int .i64 0, .int .i64 0, .slice none 0 0])) := by
  refine calls_at (tab_ok _) Try.func31 rfl tPPrep (ρ := ⟨[D.me, D.window, D.phase, D.r, D.n, D.frm, D.next], [D.stop], [.map (some a.bb), .map (some a.bo)], [D.mem.length, a.cm, D.said.length, a.cs, D.fresh.length, a.cf, D.queue.length, a.cq], [a.am, a.as_, a.af, a.aq]⟩) (ids := [nb]) (hx := prX D a) rfl (Facts.initx (M := fun k => k = nb) rfl (fun v hv => by simp only [List.mem_cons, List.not_mem_nil, or_false] at hv; rcases hv with rfl | rfl <;> rfl) hB rfl rfl hX (fun k hk => ⟨hD k hk, fun e => hnb (e ▸ hk)⟩)) ?_
  exact pure1_done hB (by intros; kernel_rfl) (by intros; kernel_rfl)
theorem ptop_any (hB : Blk w nb (prC D a) 77) (hX : (prX D a).X w) (hnb : ¬ (prX D a).F nb) (hD : ∀ k, (prX D a).F k → k < w.heap.size) (h1 : 0 ≤ D.next ∧ D.next ≤ 1099511627778) : Calls Try.prog 21 #[.pointer (some ⟨nb, 0, none⟩)] w (PureAt w (.int .i64 D.top)) := by
  refine calls_at (tab_ok _) Try.func21 rfl tPTop (ρ := ⟨[D.me, D.window, D.phase, D.r, D.n, D.frm, D.next], [D.stop], [.map (some a.bb), .map (some a.bo)], [D.mem.length, a.cm, D.said.length, a.cs, D.fresh.length, a.cf, D.queue.length, a.cq], [a.am, a.as_, a.af, a.aq]⟩) (ids := [nb]) (hx := prX D a) rfl (Facts.initx (M := fun k => k = nb) rfl (fun v hv => by simp only [List.mem_cons, List.not_mem_nil, or_false] at hv; rcases hv with rfl | rfl <;> rfl) hB rfl rfl hX (fun k hk => ⟨hD k hk, fun e => hnb (e ▸ hk)⟩)) ?_
  refine br_B (D.phase != 2) (by kernel_rfl) (fun h => ?_) (fun h => ?_)
  · have h : D.phase ≠ 2 := by simpa using h
    refine pure1_done hB (fun _ => ?_) (by intros; kernel_rfl)
    unfold Pr.top; rw [if_neg h]; rfl
  · have h : D.phase = 2 := by simpa using h
    refine pure1_done hB (fun _ => ?_) (by intros; kernel_rfl)
    unfold Pr.top; rw [if_pos h]
    show Value.int .i64 (IntKind.i64.wrap (D.next - 1)) = _
    rw [wrap_i64 (by omega)]
theorem pstop_any (hB : Blk w nb (prC D a) 77) (hX : (prX D a).X w) (hnb : ¬ (prX D a).F nb) (hD : ∀ k, (prX D a).F k → k < w.heap.size) : Calls Try.prog 23 #[.pointer (some ⟨nb, 0, none⟩)] w (PureAt w (.bool D.stop)) := by
  refine calls_at (tab_ok _) Try.func23 rfl tPStop (ρ := ⟨[D.me, D.window, D.phase, D.r, D.n, D.frm, D.next], [D.stop], [.map (some a.bb), .map (some a.bo)], [D.mem.length, a.cm, D.said.length, a.cs, D.fresh.length, a.cf, D.queue.length, a.cq], [a.am, a.as_, a.af, a.aq]⟩) (ids := [nb]) (hx := prX D a) rfl (Facts.initx (M := fun k => k = nb) rfl (fun v hv => by simp only [List.mem_cons, List.not_mem_nil, or_false] at hv; rcases hv with rfl | rfl <;> rfl) hB rfl rfl hX (fun k hk => ⟨hD k hk, fun e => hnb (e ▸ hk)⟩)) ?_
  exact pure1_done hB (by intros; kernel_rfl) (by intros; kernel_rfl)
theorem wait_any (hB : Blk w nb (prC D a) 77) (hX : (prX D a).X w) (hnb : ¬ (prX D a).F nb) (hD : ∀ k, (prX D a).F k → k < w.heap.size) (hl : D.out.length ≤ 4611686018427387904) : Calls Try.prog 20 #[.pointer (some ⟨nb, 0, none⟩)] w (PureAt w (.tuple #[.int .i64 (D.queue.length : Int), .int .i64 (D.out.length : Int)])) := by
  refine calls_at (tab_ok _) Try.func20 rfl tPWait (ρ := ⟨[D.me, D.window, D.phase, D.r, D.n, D.frm, D.next], [D.stop], [.map (some a.bb), .map (some a.bo)], [D.mem.length, a.cm, D.said.length, a.cs, D.fresh.length, a.cf, D.queue.length, a.cq], [a.am, a.as_, a.af, a.aq]⟩) (ids := [nb]) (hx := prX D a) rfl (Facts.initx (M := fun k => k = nb) rfl (fun v hv => by simp only [List.mem_cons, List.not_mem_nil, or_false] at hv; rcases hv with rfl | rfl <;> rfl) hB rfl rfl hX (fun k hk => ⟨hD k hk, fun e => hnb (e ▸ hk)⟩)) ?_
  refine node_vlen (mt := 75) (kt := 3) (et := 31) ⟨[(D.out.length : Int)], [], [], [], []⟩ rfl a.bo (mmap Pv.val D.out) (fun w h => h.1.1.1.2) (by intros; kernel_rfl) Try.underlying75 (fun ids => by unfold mmap; rw [List.length_map]; kernel_rfl) (by unfold mmap; rw [List.length_map]; exact hl) (by kernel_rfl) (by kernel_rfl) (by kernel_rfl) oneNil ?_
  exact pure1_done hB (by intros; kernel_rfl) (by intros; kernel_rfl)
theorem dec_any {F : Nat → Prop} {P : Pr Vl} (s : Int) (H0 : (HX.obj F (PrO nb P)).X w) (hF : ∀ k, F k → k < w.heap.size) : Calls Try.prog 19 #[.pointer (some ⟨nb, 0, none⟩), .int .i64 s] w (PrMut w F nb (P.decided s) (.tuple #[])) := by
  obtain ⟨D, a, hP, hok, hnb, hB, hX, Fnb, hsub⟩ := pobj_open H0
  refine calls_at (tab_ok _) Try.func19 rfl tPDec (ρ := ⟨[D.me, D.window, D.phase, D.r, D.n, D.frm, D.next, s], [D.stop], [.map (some a.bb), .map (some a.bo)], [D.mem.length, a.cm, D.said.length, a.cs, D.fresh.length, a.cf, D.queue.length, a.cq], [a.am, a.as_, a.af, a.aq]⟩) (ids := [nb]) (hx := prX D a) rfl (Facts.initx (M := F) rfl (fun v hv => by simp only [List.mem_cons, List.not_mem_nil, or_false] at hv; rcases hv with rfl | rfl <;> rfl) hB rfl Fnb hX (fun k hk => ⟨hF k (hsub k hk), fun e => hnb (e ▸ hk)⟩)) ?_
  have ed : prX D a = (((((HX.all a.G).and (HX.vmap a.bb (mmap voV D.best))).and (irow a.as_ a.cs D.said)).and (irow a.af a.cf D.fresh)).and (qrow a.aq a.cq D.queue)).and (HX.vmap a.bo (mmap Pv.val D.out)) := by unfold prX; ac_rfl
  refine holds_eq ed ?_
  have hbo : (prX D a).F a.bo := pcs_F (b := HX.vmap a.bo (mmap Pv.val D.out)) (by simp [pcs]) rfl
  refine node_vdel (mt := 75) (kt := 3) (et := 31) rfl a.bo (mmap Pv.val D.out) s rfl (.inr (hsub _ hbo)) (bo_apart hok.dj) (by intros; kernel_rfl) (by intros; kernel_rfl) Try.underlying75 Try.underlying3 (by intros; kernel_rfl) (by kernel_rfl) (by kernel_rfl) (by kernel_rfl) ?_
  rw [show vdel (mmap Pv.val D.out) s = mmap Pv.val (mdel D.out s) from mdel_map _ _ _]
  obtain ⟨D', eD⟩ : ∃ D', D' = D.decided s := ⟨_, rfl⟩
  have e2 : (((((HX.all a.G).and (HX.vmap a.bb (mmap voV D.best))).and (irow a.as_ a.cs D.said)).and (irow a.af a.cf D.fresh)).and (qrow a.aq a.cq D.queue)).and (HX.vmap a.bo (mmap Pv.val (mdel D.out s))) = prX D' a := by rw [eD]; unfold prX Pr.decided; dsimp only; ac_rfl
  refine holds_eq e2 ?_
  refine pr_done (D' := D') (a' := a) (by rw [eD, map_decided, hP]) (by rw [eD]; exact ⟨hok.gm, hok.gz, hok.gb, (fun q hq => hok.go q (mdel_in.1 hq).1), hok.gq, hok.dj.set (i := 2) (a' := HX.vmap a.bo (mmap Pv.val (mdel D.out s))) rfl fun k hk => .inl hk⟩) (fun w h => h) (fun k hk => hk) (fun k hk => .inl (hsub k ?_)) Fnb (fun ids => by rw [eD]; kernel_rfl) (by intros; kernel_rfl)
  rw [eD] at hk
  exact hk
end
end Go.Proofs.Ytlgpjjgkdpmidaa
