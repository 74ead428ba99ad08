/- Submit, Campaign. -/
import Derived.Test.YtlgpjjgkdpmidaaPrC
namespace Go.Eng
open Go.RowKit Go.Syn Go.MapKept Go.Proofs.Ytlgpjjgkdpmidaa
set_option linter.unusedVariables false
def Pr.submit (P : Pr Vl) (v : Vl) : Pr Vl × Int := if valE v ≠ 0 then (P, valE v) else if P.phase ≠ 2 then (P, 65) else if 32 ≤ P.queue.length then (P, 64) else if P.stop = true then (P, 64) else ({ P with queue := P.queue ++ [v], stop := v.k == 2 }, 0)
end Go.Eng
namespace Go.Proofs.Ytlgpjjgkdpmidaa
open Go.ChangeShapes Go.WideShapes Go.ChangeAt Go.RowKit Go.Syn Go.Eng Go.MapKept
set_option linter.unusedVariables false
set_option linter.unusedSimpArgs false
set_option maxRecDepth 100000
theorem nil_and (h : HX) : HX.nil.and h = h := (HX.and_comm _ _).trans (and_nil h)
theorem info_val : (Try.prog.info? 31).map (fun i => (i.zero, i.size, i.bytes)) = some (some (.agg #[.int .i64 0, .slice none 0 0, .slice none 0 0]), 3, 56) := by kernel_rfl
def prVs (D : Pr Pv) (a : PA) : Vals := ⟨[D.me, D.window, D.phase, D.r, D.n, D.frm, D.next], [D.stop], [.map (some a.bb), .map (some a.bo)], [D.mem.length, a.cm, D.said.length, a.cs, D.fresh.length, a.cf, D.queue.length, a.cq], [a.am, a.as_, a.af, a.aq]⟩
theorem pcell_one (p : Pv) : ∀ v ∈ p.cells, v.oneCell' = true := fun v hv => by
  simp only [Pv.cells, List.mem_cons, List.not_mem_nil, or_false] at hv
  rcases hv with rfl | rfl | rfl <;> rfl
section
variable {C : Cfg} {ρ : Env} {pre : List Nat} {rest : HX} {L : Stack} {m m' : Mem} {args : List SV} {r : SV} {t : Tree} {f : Nat}
/-- A method that is told in full, called by another. -/
theorem node_pset {D D' : Pr Pv} {a : PA} {cs0 cs' : List LV} {hp0 : List (Nat × List LV)} (AS : List Nat → Array Value) (hhp : m.hp = (77, cs0) :: hp0) (hhp' : m'.hp = (77, cs') :: hp0) (hargs : ∀ ids, (args.map (SV.den ρ ids)).toArray = AS ids) (hc0 : ∀ ids, cellsDen ρ ids cs0 = prC D a)
    (hcall : ∀ ids w, pre <+: ids → Facts C m ρ ids (rest.and (prX D a)) w → Blk w (idAt ids 0) (prC D a) 77 → ¬ (prX D a).F (idAt ids 0) → (∀ k, (prX D a).F k → k < w.heap.size) → Calls C.P f (AS ids) w (PSet w (idAt ids 0) D a D'))
    (hr : ∀ a' ids, r.den (ρ.add (prVs D' a')) ids = .tuple #[]) (hcs : ∀ a' ids, cellsDen (ρ.add (prVs D' a')) ids cs' = prC D' a') (hdis : ∀ k, (prX D a).F k → ¬ rest.F k ∧ (C.W.heap.size ≤ k ∨ C.M k)) (hfit : hpFits m.c m.hp.length m.hp = true) (hc : ∀ a', (ρ.add (prVs D' a')).cnt = m'.c)
    (h : ∀ a', POk D' a' → (∀ k, (prX D' a').F k → ¬ rest.F k ∧ (C.W.heap.size ≤ k ∨ C.M k)) → t.holds C (ρ.add (prVs D' a')) pre (rest.and (prX D' a')) L) : (Tree.call f args m r m' t).holds C ρ pre (rest.and (prX D a)) L := by
  refine node_touch (h0 := prX D a) AS (fun vs h' => ∃ a', POk D' a' ∧ vs = prVs D' a' ∧ h' = prX D' a') hhp hhp' hargs (fun ids w hp hf => ?_) hdis hfit (fun vs h' ⟨a', _, e1, _⟩ => ?_) (fun vs h' ⟨a', h1, e1, e2⟩ hd => ?_)
  · have hb := hf.blk 0 77 cs0 (by rw [hhp]; rfl)
    rw [hc0] at hb
    have hm0 : idAt ids 0 ∈ ids := idAt_mem (ids := ids) (n := 0) (by rw [hf.len, hhp]; simp)
    refine (hcall ids w hp hf hb (fun q => (hf.sep _ (.inr q)).2 hm0) (fun k hk => (hf.sep k (.inr hk)).1)).mono ?_
    rintro e w' ⟨rfl, a', g1, g2, g3, g4, g5⟩
    exact ⟨prVs D' a', prX D' a', ⟨a', g1, rfl, rfl⟩, by rw [hr], by rw [hcs]; exact g2, g3, g4, g5⟩
  · rw [e1]
    exact ⟨hc a', fun v hv => by
      have hv : v ∈ [Value.map (some a'.bb), Value.map (some a'.bo)] := hv
      simp only [List.mem_cons, List.not_mem_nil, or_false] at hv
      rcases hv with rfl | rfl <;> rfl⟩
  · rw [e1]
    rw [e2] at hd ⊢
    exact h a' h1 hd
end
section
variable {w : World} {nb : Nat} {F : Nat → Prop} {P : Pr Vl}
theorem sub_any (v : Vl) (a1 : Option Addr) (c1 : Nat) (a2 : Option Addr) (c2 : Nat) (H0 : (HX.obj F (PrO nb P)).X w) (hF : ∀ k, F k → k < w.heap.size) (H : VlAt w v a1 a2) (hv : ∀ k, (vlX v a1 a2).F k → ¬ F k) :
    Calls Try.prog 17 #[.pointer (some ⟨nb, 0, none⟩), vlV v a1 c1 a2 c2] w (PrMut w F nb (P.submit v).1 (.int .i64 (P.submit v).2)) := by
  obtain ⟨D, a, hP, hok, hnb, hB, hX, Fnb, hsub⟩ := pobj_open H0
  have hsep : ∀ k, ((vlX v a1 a2).and (prX D a)).F k → k < w.heap.size ∧ k ≠ nb := fun k hk => hk.elim (fun q => ⟨vlX_sep H.X k q, fun e => hv k q (e ▸ Fnb)⟩) (fun q => ⟨hF k (hsub k q), fun e => hnb (e ▸ q)⟩)
  refine calls_at (tab_ok _) Try.func17 rfl tPSub (ρ := ⟨[D.me, D.window, D.phase, D.r, D.n, D.frm, D.next, v.k], [D.stop], [.map (some a.bb), .map (some a.bo)], [D.mem.length, a.cm, D.said.length, a.cs, D.fresh.length, a.cf, D.queue.length, a.cq, v.cs.length, c1, v.ns.length, c2], [a.am, a.as_, a.af, a.aq, a1, a2]⟩) (ids := [nb]) (hx := (vlX v a1 a2).and (prX D a)) rfl (Facts.initx (M := F) rfl (fun v hv => by simp only [List.mem_cons, List.not_mem_nil, or_false] at hv; rcases hv with rfl | rfl <;> rfl) hB rfl Fnb ⟨H.X, hX⟩ hsep) ?_
  have same : ∀ {m : Cnt} {rr : List (Nat × List LV)} {ρ : Env} {S : Stack} {cs : List LV} {sv : SV} {e : Int}, P.submit v = (P, e) → (∀ ids, cellsDen ρ ids cs = prC D a) → (∀ ids, sv.den ρ ids = .int .i64 e) → (Tree.done sv ⟨(77, cs) :: rr, m⟩).holds ⟨Try.prog, w, F, PrMut w F nb (P.submit v).1 (.int .i64 (P.submit v).2)⟩ ρ [nb] ((vlX v a1 a2).and (prX D a)) S := fun h hc hs => by
    rw [h]
    exact pr_done hP hok (fun w h => h.2) (fun k hk => .inr hk) (fun k hk => .inl (hsub k hk)) Fnb hc hs
  have hph : P.phase = D.phase := by rw [← hP]; rfl
  have hql : P.queue.length = D.queue.length := by rw [← hP]; show (D.queue.map Pv.v).length = _; rw [List.length_map]
  have hst : P.stop = D.stop := by rw [← hP]; rfl
  refine node_PI ⟨[valE v], [], [], [], []⟩ (fun _ => #[vlV v a1 c1 a2 c2]) (.int .i64 (valE v)) (by intros; kernel_rfl) (by intros; kernel_rfl) (by kernel_rfl) (by kernel_rfl) (by kernel_rfl) oneNil (fun ids w2 hp hf => vchk_any v a1 c1 a2 c2 w2 (H.fit.at_ hf.x.1)) ?_
  refine br_B (valE v != 0) (by kernel_rfl) (fun h => ?_) (fun h => ?_)
  · have h : valE v ≠ 0 := by simpa using h
    refine node_PI ⟨[valE v], [], [], [], []⟩ (fun _ => #[vlV v a1 c1 a2 c2]) (.int .i64 (valE v)) (by intros; kernel_rfl) (by intros; kernel_rfl) (by kernel_rfl) (by kernel_rfl) (by kernel_rfl) oneNil (fun ids w2 hp hf => vchk_any v a1 c1 a2 c2 w2 (H.fit.at_ hf.x.1)) ?_
    exact same (by unfold Pr.submit; rw [if_pos h]) (by intros; kernel_rfl) (by intros; kernel_rfl)
  have h1 : ¬ valE v ≠ 0 := by simpa using h
  refine br_B (D.phase != 2) (by kernel_rfl) (fun h => ?_) (fun h => ?_)
  · have h : D.phase ≠ 2 := by simpa using h
    exact same (by unfold Pr.submit; rw [if_neg h1, if_pos (by rw [hph]; exact h)]) (by intros; kernel_rfl) (by intros; kernel_rfl)
  have h2 : ¬ P.phase ≠ 2 := by rw [hph]; simpa using h
  refine br_D (p := (D.queue.length : Int) ≥ 32) (by kernel_rfl) (fun h => ?_) (fun h => ?_)
  · exact same (by unfold Pr.submit; rw [if_neg h1, if_neg h2, if_pos (by omega)]) (by intros; kernel_rfl) (by intros; kernel_rfl)
  have h3 : ¬ 32 ≤ P.queue.length := by omega
  refine br_B D.stop (by kernel_rfl) (fun h => ?_) (fun h => ?_)
  · exact same (by unfold Pr.submit; rw [if_neg h1, if_neg h2, if_neg h3, if_pos (by rw [hst]; exact h)]) (by intros; kernel_rfl) (by intros; kernel_rfl)
  have hS : P.submit v = ({ P with queue := P.queue ++ [v], stop := v.k == 2 }, 0) := by unfold Pr.submit; rw [if_neg h1, if_neg h2, if_neg h3, if_neg (by rw [hst, h]; decide)]
  rw [hS]
  clear same hS
  refine par_i ?x ?y
  case' x =>
    refine node_vl (V := id) (v := v) (fun _ => #[vlV v a1 c1 a2 c2]) (fun b1 d1 b2 d2 => ⟨[v.k], [], [], [v.cs.length, d1, v.ns.length, d2], [b1, b2]⟩) (by intros; kernel_rfl) (fun ids w2 hp hf => vclone_any v a1 c1 a2 c2 w2 (H.fit.at_ hf.x.1)) (by intros; kernel_rfl) (by kernel_rfl) (by kernel_rfl) (by intros; kernel_rfl) (fun _ _ _ _ => oneNil) ?_
    intro b1 d1 b2 d2 hfr
  case' y =>
    refine node_vl (V := id) (v := v) (fun _ => #[vlV v a1 c1 a2 c2]) (fun b1 d1 b2 d2 => ⟨[v.k], [], [], [v.cs.length, d1, v.ns.length, d2], [b1, b2]⟩) (by intros; kernel_rfl) (fun ids w2 hp hf => vclone_any v a1 c1 a2 c2 w2 (H.fit.at_ hf.x.1)) (by intros; kernel_rfl) (by kernel_rfl) (by kernel_rfl) (by intros; kernel_rfl) (fun _ _ _ _ => oneNil) ?_
    intro b1 d1 b2 d2 hfr
    refine par_i ?_ ?_
  all_goals
    obtain ⟨p, ep⟩ : ∃ p : Pv, p = ⟨v, b1, d1, b2, d2⟩ := ⟨_, rfl⟩
    have epx : vlX v b1 b2 = p.hx := by rw [ep]; rfl
    rw [epx] at hfr ⊢
    obtain ⟨R, eR⟩ : ∃ R, R = (((((vlX v a1 a2).and p.hx).and (HX.all a.G)).and (HX.vmap a.bb (mmap voV D.best))).and (HX.vmap a.bo (mmap Pv.val D.out))).and ((irow a.as_ a.cs D.said).and (irow a.af a.cf D.fresh)) := ⟨_, rfl⟩
    have e1 : ((vlX v a1 a2).and (prX D a)).and p.hx = R.and (qrow a.aq a.cq D.queue) := by rw [eR]; unfold prX; ac_rfl
    refine holds_eq e1 ?_
    refine node_pusht (e := 31) (sz := 3) rfl Try.underlying57 info_val rfl (by decide) a.aq D.queue.length a.cq (qcs D.queue) p.cells 2 (by intros; kernel_rfl) (by intros; kernel_rfl) rfl (fun ids => by rw [ep]; kernel_rfl) rfl (pcell_one p) (fun k q1 q2 => ?_) (fun k q1 q2 => .inr (hsub k (pcs_F (b := qrow a.aq a.cq D.queue) (by simp [pcs]) ⟨q1, q2⟩))) (by unfold maxLen; omega) (by omega) (by intros; kernel_rfl) (by kernel_rfl) (by kernel_rfl) (by intros; kernel_rfl) ?_
    · have hk : (qrow a.aq a.cq D.queue).F k := ⟨q1, q2⟩
      have hkX : (prX D a).F k := pcs_F (b := qrow a.aq a.cq D.queue) (by simp [pcs]) hk
      rw [eR]
      rintro (((((q | q) | q) | q) | q) | (q | q))
      · exact hv k q (hsub k hkX)
      · exact (hfr k q).2 (.inr hkX)
      · exact dj_at hok.dj (i := 5) rfl hk 0 rfl (by decide) q
      · exact dj_at hok.dj (i := 5) rfl hk 1 rfl (by decide) q
      · exact dj_at hok.dj (i := 5) rfl hk 2 rfl (by decide) q
      · exact dj_at hok.dj (i := 5) rfl hk 3 rfl (by decide) q
      · exact dj_at hok.dj (i := 5) rfl hk 4 rfl (by decide) q
    intro aq' cq' hc' hr' hor'
    obtain ⟨D', eD⟩ : ∃ D' : Pr Pv, D' = { D with queue := D.queue ++ [p], stop := p.v.k == 2 } := ⟨_, rfl⟩
    have hrow : HX.tw 3 31 aq' (D.queue.length + 1) cq' (qcs D.queue ++ p.cells) = qrow aq' cq' (D.queue ++ [p]) := by
      unfold qrow qcs; rw [List.length_append, List.flatMap_append]; simp
    have hFr : ∀ k, (qrow aq' cq' (D.queue ++ [p])).F k → (qrow a.aq a.cq D.queue).F k ∨ (w.heap.size ≤ k ∧ ¬ (R.and (qrow a.aq a.cq D.queue)).F k) := fun k hk => by
      rcases hor' with ⟨r1, r2⟩ | ⟨g, r1, r2, r3⟩
      · exact .inl ⟨r1, by rw [← r2]; exact hk.2⟩
      · have : g = k := Option.some.inj (r1.symm.trans hk.2)
        subst this
        exact .inr ⟨r2, r3⟩
    have hin : ∀ b ∈ pcs D a, ∀ k, b.F k → (R.and (qrow a.aq a.cq D.queue)).F k := fun b hb k hk => by
      rw [← e1]; exact .inl (.inr (pcs_F hb hk))
    have hG : ∀ k, (HX.all (p.hx :: a.G)).F k → (HX.all a.G).F k ∨ p.hx.F k := fun k ⟨x, hx, hk⟩ => by
      rcases List.mem_cons.1 hx with rfl | hx
      · exact .inr hk
      · exact .inl ⟨x, hx, hk⟩
    have hok' : POk D' { a with aq := aq', cq := cq', G := p.hx :: a.G } := by
      rw [eD]
      refine ⟨.tail _ hok.gm, .tail _ hok.gz, (fun q hq => ⟨.tail _ (hok.gb q hq).1, (hok.gb q hq).2⟩), (fun q hq => ⟨.tail _ (hok.go q hq).1, (hok.go q hq).2⟩), (fun q hq => ?_), ?_⟩
      · rcases List.mem_append.1 hq with hq | hq
        · exact ⟨.tail _ (hok.gq q hq).1, (hok.gq q hq).2⟩
        · rw [List.mem_singleton.1 hq]
          exact ⟨.head _, by rw [ep]; exact H.fit⟩
      · have d1 := hok.dj.set (i := 0) (a' := HX.all (p.hx :: a.G)) rfl fun k hk => (hG k hk).imp id fun q b hb z => (hfr k q).2 (.inr (pcs_F hb z))
        refine d1.set (i := 5) (a' := qrow aq' cq' (D.queue ++ [p])) rfl fun k hk => (hFr k hk).imp id fun q b hb z => q.2 ?_
        simp only [pcs, List.set_cons_zero, List.mem_cons, List.not_mem_nil, or_false] at hb
        rcases hb with rfl | rfl | rfl | rfl | rfl | rfl
        · rcases hG k z with z | z
          · exact hin _ (by simp [pcs]) k z
          · rw [← e1]; exact .inr z
        · exact hin _ (by simp [pcs]) k z
        · exact hin _ (by simp [pcs]) k z
        · exact hin _ (by simp [pcs]) k z
        · exact hin _ (by simp [pcs]) k z
        · exact hin _ (by simp [pcs]) k z
    rw [hrow]
    refine pr_done (D' := D') (a' := { a with aq := aq', cq := cq', G := p.hx :: a.G }) ?_ hok' (fun w h => ?_) (fun k hk => ?_) (fun k hk => ?_) Fnb (fun ids => ?_) (by intros; kernel_rfl)
    · rw [eD, ← hP]
      unfold Pr.map
      dsimp only
      rw [List.map_append, ep]; rfl
    · rw [eR] at h
      rw [eD]
      refine ⟨⟨⟨⟨⟨fun x hx => ?_, h.1.1.1.2⟩, h.1.1.2⟩, h.1.2.1⟩, h.1.2.2⟩, h.2⟩
      rcases List.mem_cons.1 hx with rfl | hx
      · exact h.1.1.1.1.1.2
      · exact h.1.1.1.1.2 x hx
    · rw [eD] at hk
      rw [eR]
      rcases hk with ((((hk | hk) | hk) | hk) | hk) | hk
      · exact (hG k hk).elim (fun q => .inl (.inl (.inl (.inl (.inr q))))) fun q => .inl (.inl (.inl (.inl (.inl (.inr q)))))
      · exact .inl (.inl (.inl (.inr hk)))
      · exact .inl (.inl (.inr hk))
      · exact .inl (.inr (.inl hk))
      · exact .inl (.inr (.inr hk))
      · exact .inr hk
    · rw [eD] at hk
      rcases hk with ((((hk | hk) | hk) | hk) | hk) | hk
      · exact (hG k hk).elim (fun q => .inl (hsub k (pcs_F (D := D) (a := a) (by simp [pcs]) q))) fun q => .inr (hfr k q).1
      · exact .inl (hsub k (pcs_F (D := D) (a := a) (b := HX.vmap a.bb (mmap voV D.best)) (by simp [pcs]) hk))
      · exact .inl (hsub k (pcs_F (D := D) (a := a) (b := HX.vmap a.bo (mmap Pv.val D.out)) (by simp [pcs]) hk))
      · exact .inl (hsub k (pcs_F (D := D) (a := a) (b := irow a.as_ a.cs D.said) (by simp [pcs]) hk))
      · exact .inl (hsub k (pcs_F (D := D) (a := a) (b := irow a.af a.cf D.fresh) (by simp [pcs]) hk))
      · exact (hFr k hk).elim (fun q => .inl (hsub k (pcs_F (D := D) (a := a) (b := qrow a.aq a.cq D.queue) (by simp [pcs]) q))) fun q => .inr q.1
    · rw [eD]
      unfold prC
      dsimp only
      rw [List.length_append, ep]; kernel_rfl
end
end Go.Proofs.Ytlgpjjgkdpmidaa
