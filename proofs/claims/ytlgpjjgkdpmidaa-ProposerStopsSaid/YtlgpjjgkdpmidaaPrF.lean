/- lead: what was voted for is taken up. -/
import Derived.Test.YtlgpjjgkdpmidaaPrE
namespace Go.Proofs.Ytlgpjjgkdpmidaa
open Go.ChangeShapes Go.WideShapes Go.ChangeAt Go.RowKit Go.Syn Go.Eng Go.MapKept
set_option linter.unusedVariables false
set_option linter.unusedSimpArgs false
set_option maxRecDepth 100000
theorem mdel_le {α : Type} (m : List (Int × α)) (k : Int) : (mdel m k).length ≤ m.length := List.length_filter_le _ _
theorem mdel_lt {α : Type} {m : List (Int × α)} {p : Int × α} (h : p ∈ m) : (mdel m p.1).length < m.length := by
  unfold mdel
  refine Nat.lt_of_le_of_ne (List.length_filter_le _ _) fun e => ?_
  have := List.length_filter_eq_length_iff.1 e p h
  simp at this
theorem top_ge {α : Type} : ∀ (best : List (Int × Vo α)) (x : Int), x ≤ topOf best x ∧ (∀ p ∈ best, p.1 + 1 ≤ topOf best x) ∧ (topOf best x = x ∨ ∃ p ∈ best, topOf best x = p.1 + 1)
  | [], x => ⟨Int.le_refl _, (fun p hp => by cases hp), .inl rfl⟩
  | q :: r, x => by
    obtain ⟨h1, h2, h3⟩ := top_ge r (max x (q.1 + 1))
    have e : topOf (q :: r) x = topOf r (max x (q.1 + 1)) := rfl
    rw [e]
    refine ⟨by omega, fun p hp => ?_, ?_⟩
    · rcases List.mem_cons.1 hp with rfl | hp
      · omega
      · exact h2 p hp
    · rcases h3 with h3 | ⟨p, hp, h3⟩
      · rcases Int.le_total x (q.1 + 1) with h | h
        · exact .inr ⟨q, List.mem_cons_self, by omega⟩
        · exact .inl (by omega)
      · exact .inr ⟨p, List.mem_cons_of_mem _ hp, h3⟩
theorem top_is {α : Type} {best : List (Int × Vo α)} {x y : Int} (h1 : x ≤ y) (h2 : ∀ p ∈ best, p.1 + 1 ≤ y) (h3 : y = x ∨ ∃ p ∈ best, y = p.1 + 1) : topOf best x = y := by
  obtain ⟨g1, g2, g3⟩ := top_ge best x
  refine Int.le_antisymm ?_ ?_
  · rcases g3 with g3 | ⟨p, hp, g3⟩
    · omega
    · have := h2 p hp; omega
  · rcases h3 with h3 | ⟨p, hp, h3⟩
    · omega
    · have := g2 p hp; omega
section
variable {D D' : Pr Pv} {a a' : PA} {nb : Nat} {w : World}
theorem pset_done2 {cs : List LV} {r : List (Nat × List LV)} {n : Cnt} {v : SV} {ρ : Env} {hx : HX} {S : Stack} (hok : POk D' a') (hX : ∀ w, hx.X w → (prX D' a').X w) (hF : ∀ k, (prX D' a').F k → hx.F k ∧ (w.heap.size ≤ k ∨ (k = nb ∨ (prX D a).F k))) (hc : ∀ ids, cellsDen ρ ids cs = prC D' a') (hv : ∀ ids, v.den ρ ids = .tuple #[]) :
    (Tree.done v ⟨(77, cs) :: r, n⟩).holds ⟨Try.prog, w, fun k => k = nb ∨ (prX D a).F k, PSet w nb D a D'⟩ ρ [nb] hx S := fun ids w2 hp hf => by
  have h := hf.blk 0 77 cs rfl
  have hmem : nb ∈ ids := by obtain ⟨x, rfl⟩ := hp; simp
  rw [idAt0 hp, hc] at h
  refine ⟨by rw [hv], a', hok, h, hX w2 hf.x, fun k hk => ⟨?_, (hf.sep k (hF k hk).1).1⟩, hf.chg⟩
  rcases (hF k hk).2 with q | q | q
  · exact .inr q
  · exact absurd hmem (q ▸ (hf.sep k (hF k hk).1).2)
  · exact .inl q
def Ld2 (D : Pr Pv) (a : PA) (it : Nat) (vs : Vals) (hx : HX) (m : Nat) : Prop := ∃ (y : Int) (ls : List (Int × Vo Pv)) (last : Option (Int × Value)), m = ls.length ∧ D.frm ≤ y ∧ (∀ p ∈ D.best, p ∈ ls ∨ p.1 + 1 ≤ y) ∧ (y = D.frm ∨ ∃ p ∈ D.best, y = p.1 + 1) ∧ (∀ p ∈ ls, p ∈ D.best) ∧ vs = prVs { D with phase := 2, next := y } a ∧ hx = (prX D a).and (HX.rng it a.bb (mmap voV D.best) (mmap voV ls) last)
def Ld6 (w : World) (nb : Nat) (D : Pr Pv) (a : PA) (y : Int) (vs : Vals) (hx : HX) (m : Nat) : Prop := ∃ (s : Int) (Dc : Pr Pv) (ac : PA), m = (y - s).toNat ∧ D.frm ≤ s ∧ s ≤ y ∧ vs = ⟨s :: (prVs Dc ac).i, (prVs Dc ac).b, (prVs Dc ac).v, (prVs Dc ac).n, (prVs Dc ac).a⟩ ∧ POk Dc ac ∧ Dc.next = y ∧ Dc.best = D.best ∧ (Dc.fresh.length : Int) ≤ D.fresh.length + (s - D.frm) ∧ Pr.askTo kdP pz (y - s).toNat s Dc = Pr.askTo kdP pz (y - D.frm).toNat D.frm { D with phase := 2, next := y } ∧ (∀ k, (prX Dc ac).F k → w.heap.size ≤ k ∨ (k = nb ∨ (prX D a).F k)) ∧ hx = HX.nil.and (prX Dc ac)
theorem lead_any (hB : Blk w nb (prC D a) 77) (hX : (prX D a).X w) (hok : POk D a) (hnb : ¬ (prX D a).F nb) (hD : ∀ k, (prX D a).F k → k < w.heap.size) (hfr : 1 ≤ D.frm ∧ D.frm ≤ 1099511627776) (hbb : ∀ p ∈ D.best, D.frm ≤ p.1 ∧ p.1 ≤ D.frm + 63) (hl : D.fresh.length ≤ 1000) : Calls Try.prog 43 #[.pointer (some ⟨nb, 0, none⟩)] w (PSet w nb D a (D.lead kdP pz)) := by
  refine calls_at (tab_ok _) Try.func43 rfl tPLead (ρ := ⟨[D.me, D.window, D.phase, D.r, D.n, D.frm, D.next], [D.stop], [.map (some a.bb), .map (some a.bo)], [D.mem.length, a.cm, D.said.length, a.cs, D.fresh.length, a.cf, D.queue.length, a.cq], [a.am, a.as_, a.af, a.aq]⟩) (ids := [nb]) (hx := prX D a) rfl (Facts.initx (M := fun k => k = nb ∨ (prX D a).F k) rfl (fun v hv => by simp only [List.mem_cons, List.not_mem_nil, or_false] at hv; rcases hv with rfl | rfl <;> rfl) hB rfl (.inl rfl) hX (fun k hk => ⟨hD k hk, fun e => hnb (e ▸ hk)⟩)) ?_
  obtain ⟨y, ey⟩ : ∃ y, y = topOf D.best D.frm := ⟨_, rfl⟩
  obtain ⟨g1, g2, g3⟩ := top_ge D.best D.frm
  rw [← ey] at g1 g2 g3
  have hy : y ≤ D.frm + 64 := by
    rcases g3 with g3 | ⟨p, hp, g3⟩
    · omega
    · have := (hbb p hp).2; omega
  have elead : D.lead kdP pz = { Pr.askTo kdP pz (y - D.frm).toNat D.frm { D with phase := 2, next := y } with best := [] } := by rw [ey]; rfl
  rw [elead]
  refine ⟨fun vs hx' => vs = prVs { D with phase := 2, next := y } a ∧ hx' = prX D a, ?_, ?_⟩
  · refine node_vrangeX (mt := 74) (kt := 3) (et := 49) a.bb (mmap voV D.best) (fun w h => h.1.1.1.1.2) (pcs_F (b := HX.vmap a.bb (mmap voV D.best)) (by simp [pcs]) rfl) (by intros; kernel_rfl) Try.underlying74 (by intros; kernel_rfl) (by kernel_rfl) (by kernel_rfl) (by intros; kernel_rfl) ?_
    intro it hi1 hi2
    refine ⟨Ld2 D a it, fun ids w2 hp hf => ⟨_, D.best.length, ⟨hf.x, hf.sep⟩, D.frm, D.best, none, rfl, Int.le_refl _, fun p hp => .inl hp, .inl rfl, fun p hp => hp, by kernel_rfl, rfl⟩, ?_⟩
    rintro vs hx' n hcnt ⟨z, ls, last, rfl, q1, q2, q3, q4, rfl, rfl⟩
    refine node_vnext it a.bb (mmap voV D.best) (mmap voV ls) last hi1 hi2 (by intros; kernel_rfl) (by kernel_rfl) (by kernel_rfl) (fun h0 => ?_) (fun k v h1 h2 => ?_)
    · refine ⟨⟨[0, 0, 0, 0, 0], [false], [], [0, 0, 0, 0], [none, none]⟩, (by intros; kernel_rfl), by kernel_rfl, oneNil, br_F false (by kernel_rfl) rfl ?_⟩
      have h0 : ls = [] := by unfold mmap at h0; exact List.map_eq_nil_iff.1 h0
      have ez : z = y := by
        rw [ey]
        exact (top_is q1 (fun p hp => (q2 p hp).elim (fun r => by rw [h0] at r; cases r) id) q3).symm
      exact again_V (prVs { D with phase := 2, next := z } a) rfl (by intros; kernel_rfl) (prX D a) (fun w2 ids hf => ⟨hf.x.1, fun k hk => hf.sep k (.inl hk)⟩) ⟨by rw [ez], rfl⟩
    · obtain ⟨⟨k2, x⟩, hp1, hp2⟩ := List.mem_map.1 h1
      obtain ⟨rfl, rfl⟩ := Prod.mk.inj hp2
      have hb2 := hbb _ (q4 _ hp1)
      refine ⟨⟨[k2, x.s, x.r, x.n, x.v.v.k], [true], [], [x.v.v.cs.length, x.v.c1, x.v.v.ns.length, x.v.c2], [x.v.a1, x.v.a2]⟩, (by intros; kernel_rfl), by kernel_rfl, oneNil, br_T true (by kernel_rfl) rfl ?_⟩
      refine node_ventry ⟨[k2, x.s, x.r, x.n, x.v.v.k], [], [], [x.v.v.cs.length, x.v.c1, x.v.v.ns.length, x.v.c2], [x.v.a1, x.v.a2]⟩ it a.bb _ _ k2 (voV x) (by intros; kernel_rfl) (by intros; kernel_rfl) (by kernel_rfl) (by kernel_rfl) (by kernel_rfl) oneNil ?_
      have hw : IntKind.i64.wrap (k2 + 1) = k2 + 1 := wrap_i64 (by have : D.frm ≤ k2 ∧ k2 ≤ D.frm + 63 := hb2; omega)
      refine again_V (prVs { D with phase := 2, next := max z (k2 + 1) } a) rfl (fun ids => by rw [← hw]; kernel_rfl) _ (fun w2 ids hf => ⟨hf.x, hf.sep⟩) ⟨(mdel ls k2).length, mdel_lt hp1, max z (k2 + 1), mdel ls k2, some (k2, voV x), rfl, by omega, fun p hp => ?_, ?_, fun p hp => q4 p (mdel_in.1 hp).1, rfl, ?_⟩
      · by_cases e : p.1 = k2
        · exact .inr (by omega)
        · exact (q2 p hp).imp (fun r => mdel_in.2 ⟨r, e⟩) (by omega)
      · rcases Int.le_total z (k2 + 1) with h | h
        · exact .inr ⟨_, q4 _ hp1, by show max z (k2 + 1) = k2 + 1; omega⟩
        · rw [show max z (k2 + 1) = z by omega]; exact q3
      · rw [vdel_is, mdel_map]
  rintro vs hx' hcnt ⟨rfl, rfl⟩
  refine ⟨Ld6 w nb D a y, fun ids w2 hp hf => ⟨HX.nil.and (prX D a), (y - D.frm).toNat, ⟨⟨trivial, hf.x⟩, fun k hk => hk.elim False.elim (hf.sep k)⟩, D.frm, { D with phase := 2, next := y }, a, rfl, Int.le_refl _, g1, by kernel_rfl, ⟨hok.gm, hok.gz, hok.gb, hok.go, hok.gq, hok.dj⟩, rfl, rfl, by show (D.fresh.length : Int) ≤ _; omega, rfl, fun k hk => .inr (.inr hk), rfl⟩, ?_⟩
  rintro vs hx' n hcnt2 ⟨s, Dc, ac, rfl, q1, q2, rfl, hokc, q3, q4, q5, q6, q7, rfl⟩
  refine br_D (p := s < Dc.next) (by kernel_rfl) (fun h => ?_) (fun h => ?_)
  · rw [q3] at h
    obtain ⟨x, ex⟩ : ∃ x : Vo Pv, x = (mlk Dc.best s).getD ⟨0, 0, 0, pz⟩ := ⟨_, rfl⟩
    have exv : x.v = Dc.bestV pz s := by
      rw [ex]; unfold Pr.bestV
      cases mlk Dc.best s <;> rfl
    have hxv : x.v.hx ∈ ac.G ∧ VlFit x.v.v := by
      rw [ex]
      cases e : mlk Dc.best s with
      | none => exact ⟨hokc.gz, vz_fit⟩
      | some u => exact hokc.gb _ (mlk_mem e)
    refine node_vlook1 (z := voV ⟨0, 0, 0, pz⟩) (mt := 74) (kt := 3) (et := 49) ⟨[x.s, x.r, x.n, x.v.v.k], [], [], [x.v.v.cs.length, x.v.c1, x.v.v.ns.length, x.v.c2], [x.v.a1, x.v.a2]⟩ ac.bb (mmap voV Dc.best) s (fun w h => h.2.1.1.1.1.2) (by intros; kernel_rfl) (by intros; kernel_rfl) Try.underlying74 Try.underlying3 (fun w => by kernel_rfl) (fun ids => ?_) (by kernel_rfl) (by kernel_rfl) (by kernel_rfl) oneNil ?_
    · have : (vlk (mmap voV Dc.best) s).getD (voV ⟨0, 0, 0, pz⟩) = voV x := by
        rw [vlk_is, mlk_map, ex]
        cases mlk Dc.best s <;> rfl
      exact Eq.trans (b := voV x) (by kernel_rfl) this.symm
    refine node_pset (D := Dc) (D' := Dc.ask kdP s x.v) (a := ac) (fun ids => #[.pointer (some ⟨idAt ids 0, 0, none⟩), .int .i64 s, x.v.val]) rfl rfl (by intros; kernel_rfl) (by intros; kernel_rfl) (fun ids w2 hp hf hb hn hs => ask_any s x.v hb hf.x.2 hokc hn hs hxv.1 hxv.2 (by omega)) (by intros; kernel_rfl) (by intros; kernel_rfl) (fun k hk => ⟨fun q => q, q7 k hk⟩) (by kernel_rfl) (by intros; kernel_rfl) ?_
    intro a2 hok2 hdis
    have hw : IntKind.i64.wrap (s + 1) = s + 1 := wrap_i64 (by omega)
    obtain ⟨m0, em⟩ : ∃ m0, (y - s).toNat = m0 + 1 := ⟨(y - s - 1).toNat, by omega⟩
    refine again_V ⟨(s + 1) :: (prVs (Dc.ask kdP s x.v) a2).i, (prVs (Dc.ask kdP s x.v) a2).b, (prVs (Dc.ask kdP s x.v) a2).v, (prVs (Dc.ask kdP s x.v) a2).n, (prVs (Dc.ask kdP s x.v) a2).a⟩ rfl (fun ids => by rw [← hw]; kernel_rfl) _ (fun w2 ids hf => ⟨hf.x, hf.sep⟩) ⟨(y - (s + 1)).toNat, by omega, s + 1, Dc.ask kdP s x.v, a2, rfl, by omega, by omega, rfl, hok2, q3, q4, ?_, ?_, fun k hk => (hdis k hk).2, rfl⟩
    · show ((Dc.fresh ++ [s]).length : Int) ≤ _
      rw [List.length_append]
      simp only [List.length_cons, List.length_nil]; omega
    · rw [← q6, em, show (y - (s + 1)).toNat = m0 by omega, exv]; rfl
  · rw [q3] at h
    refine node_vmake (by intros; kernel_rfl) (by kernel_rfl) (by kernel_rfl) (by intros; kernel_rfl) ?_
    intro b hb1 hb2
    have q6 : Dc = Pr.askTo kdP pz (y - D.frm).toNat D.frm { D with phase := 2, next := y } := by
      rw [← q6, show (y - s).toNat = 0 by omega]; rfl
    rw [← q6]
    refine pset_done2 (D' := { Dc with best := [] }) (a' := { ac with bb := b }) ⟨hokc.gm, hokc.gz, (fun p hp => by cases hp), hokc.go, hokc.gq, hokc.dj.set (i := 1) (a' := HX.vmap b []) rfl fun k hk => .inr fun c hc z => hb2 (.inr (by rw [show k = b from hk] at z; exact pcs_F hc z))⟩ (fun w h => ⟨⟨⟨⟨⟨h.1.2.1.1.1.1.1, h.2⟩, h.1.2.1.1.1.2⟩, h.1.2.1.1.2⟩, h.1.2.1.2⟩, h.1.2.2⟩) (fun k hk => ?_) (by intros; kernel_rfl) (by intros; kernel_rfl)
    rcases hk with ((((hk | hk) | hk) | hk) | hk) | hk
    · have z : (prX Dc ac).F k := .inl (.inl (.inl (.inl (.inl hk))))
      exact ⟨.inl (.inr z), q7 k z⟩
    · exact ⟨.inr hk, .inl (by rw [show k = b from hk]; exact hb1)⟩
    · have z : (prX Dc ac).F k := .inl (.inl (.inl (.inr hk)))
      exact ⟨.inl (.inr z), q7 k z⟩
    · have z : (prX Dc ac).F k := .inl (.inl (.inr hk))
      exact ⟨.inl (.inr z), q7 k z⟩
    · have z : (prX Dc ac).F k := .inl (.inr hk)
      exact ⟨.inl (.inr z), q7 k z⟩
    · have z : (prX Dc ac).F k := .inr hk
      exact ⟨.inl (.inr z), q7 k z⟩
end
end Go.Proofs.Ytlgpjjgkdpmidaa
