/- Part 15 of the texts of a proof about the given program: what the statement's proof needs of them. -/
import Derived.Test.YtlgpjjgkdpmidaaKProposerBound14
namespace Go.Proofs.Ytlgpjjgkdpmidaa
open Go.ChangeShapes Go.WideShapes Go.ChangeAt Go.RowKit Go.Syn Go.Eng Go.MapKept
set_option linter.unusedVariables false
set_option linter.unusedSimpArgs false
set_option maxRecDepth 100000
theorem mdel_lt {α : Type} {m : List (Int × α)} {p : Int × α} (h : p ∈ m) : (mdel m p.1).length < m.length := by
  unfold mdel
  refine Nat.lt_of_le_of_ne (List.length_filter_le _ _) fun e => ?_
  have := List.length_filter_eq_length_iff.1 e p h
  simp at this
theorem top_ge {α : Type} : ∀ (best : List (Int × Vo α)) (x : Int), x ≤ topOf best x ∧ (∀ p ∈ best, p.1 + 1 ≤ topOf best x) ∧ (topOf best x = x ∨ ∃ p ∈ best, topOf best x = p.1 + 1)
  | [], x => ⟨Int.le_refl _, (fun p hp => by cases hp), .inl rfl⟩
  | q :: r, x => by
    obtain ⟨h1, h2, h3⟩ := top_ge r (max x (q.1 + 1))
    have e : topOf (q :: r) x = topOf r (max x (q.1 + 1)) := rfl
    rw [e]
    refine ⟨by omega, fun p hp => ?_, ?_⟩
    · rcases List.mem_cons.1 hp with rfl | hp
      · omega
      · exact h2 p hp
    · rcases h3 with h3 | ⟨p, hp, h3⟩
      · rcases Int.le_total x (q.1 + 1) with h | h
        · exact .inr ⟨q, List.mem_cons_self, by omega⟩
        · exact .inl (by omega)
      · exact .inr ⟨p, List.mem_cons_of_mem _ hp, h3⟩
theorem top_is {α : Type} {best : List (Int × Vo α)} {x y : Int} (h1 : x ≤ y) (h2 : ∀ p ∈ best, p.1 + 1 ≤ y) (h3 : y = x ∨ ∃ p ∈ best, y = p.1 + 1) : topOf best x = y := by
  obtain ⟨g1, g2, g3⟩ := top_ge best x
  refine Int.le_antisymm ?_ ?_
  · rcases g3 with g3 | ⟨p, hp, g3⟩
    · omega
    · have := h2 p hp; omega
  · rcases h3 with h3 | ⟨p, hp, h3⟩
    · omega
    · have := g2 p hp; omega
section
variable {D D' : Pr Pv} {a a' : PA} {nb : Nat} {w : World}
theorem pset_done2 {cs : List LV} {r : List (Nat × List LV)} {n : Cnt} {v : SV} {ρ : Env} {hx : HX} {S : Stack} (hok : POk D' a') (hX : ∀ w, hx.X w → (prX D' a').X w) (hF : ∀ k, (prX D' a').F k → hx.F k ∧ (w.heap.size ≤ k ∨ (k = nb ∨ (prX D a).F k))) (hc : ∀ ids, cellsDen ρ ids cs = prC D' a') (hv : ∀ ids, v.den ρ ids = .tuple #[]) :
    (Tree.done v ⟨(77, cs) :: r, n⟩).holds ⟨Try.prog, w, fun k => k = nb ∨ (prX D a).F k, PSet w nb D a D'⟩ ρ [nb] hx S := fun ids w2 hp hf => by
  have h := hf.blk 0 77 cs rfl
  have hmem : nb ∈ ids := by obtain ⟨x, rfl⟩ := hp; simp
  rw [idAt0 hp, hc] at h
  refine ⟨by rw [hv], a', hok, h, hX w2 hf.x, fun k hk => ⟨?_, (hf.sep k (hF k hk).1).1⟩, hf.chg⟩
  rcases (hF k hk).2 with q | q | q
  · exact .inr q
  · exact absurd hmem (q ▸ (hf.sep k (hF k hk).1).2)
  · exact .inl q
def Ld2 (D : Pr Pv) (a : PA) (it : Nat) (vs : Vals) (hx : HX) (m : Nat) : Prop := ∃ (y : Int) (ls : List (Int × Vo Pv)) (last : Option (Int × Value)), m = ls.length ∧ D.frm ≤ y ∧ (∀ p ∈ D.best, p ∈ ls ∨ p.1 + 1 ≤ y) ∧ (y = D.frm ∨ ∃ p ∈ D.best, y = p.1 + 1) ∧ (∀ p ∈ ls, p ∈ D.best) ∧ vs = prVs { D with phase := 2, next := y } a ∧ hx = (prX D a).and (HX.rng it a.bb (mmap voV D.best) (mmap voV ls) last)
def Ld6 (w : World) (nb : Nat) (D : Pr Pv) (a : PA) (y : Int) (vs : Vals) (hx : HX) (m : Nat) : Prop := ∃ (s : Int) (Dc : Pr Pv) (ac : PA), m = (y - s).toNat ∧ D.frm ≤ s ∧ s ≤ y ∧ vs = ⟨s :: (prVs Dc ac).i, (prVs Dc ac).b, (prVs Dc ac).v, (prVs Dc ac).n, (prVs Dc ac).a⟩ ∧ POk Dc ac ∧ Dc.next = y ∧ Dc.best = D.best ∧ (Dc.fresh.length : Int) ≤ D.fresh.length + (s - D.frm) ∧ Pr.askTo kdP pz (y - s).toNat s Dc = Pr.askTo kdP pz (y - D.frm).toNat D.frm { D with phase := 2, next := y } ∧ (∀ k, (prX Dc ac).F k → w.heap.size ≤ k ∨ (k = nb ∨ (prX D a).F k)) ∧ hx = HX.nil.and (prX Dc ac)
theorem lead_any (hB : Blk w nb (prC D a) 77) (hX : (prX D a).X w) (hok : POk D a) (hnb : ¬ (prX D a).F nb) (hD : ∀ k, (prX D a).F k → k < w.heap.size) (hfr : 1 ≤ D.frm ∧ D.frm ≤ 1099511627776) (hbb : ∀ p ∈ D.best, D.frm ≤ p.1 ∧ p.1 ≤ D.frm + 63) (hl : D.fresh.length ≤ 1000) : Calls Try.prog 43 #[.pointer (some ⟨nb, 0, none⟩)] w (PSet w nb D a (D.lead kdP pz)) := by
  refine calls_at (tab_ok _) Try.func43 rfl tPLead (ρ := ⟨[D.me, D.window, D.phase, D.r, D.n, D.frm, D.next], [D.stop], [.map (some a.bb), .map (some a.bo)], [D.mem.length, a.cm, D.said.length, a.cs, D.fresh.length, a.cf, D.queue.length, a.cq], [a.am, a.as_, a.af, a.aq]⟩) (ids := [nb]) (hx := prX D a) rfl (Facts.initx (M := fun k => k = nb ∨ (prX D a).F k) rfl (fun v hv => by simp only [List.mem_cons, List.not_mem_nil, or_false] at hv; rcases hv with rfl | rfl <;> rfl) hB rfl (.inl rfl) hX (fun k hk => ⟨hD k hk, fun e => hnb (e ▸ hk)⟩)) ?_
  obtain ⟨y, ey⟩ : ∃ y, y = topOf D.best D.frm := ⟨_, rfl⟩
  obtain ⟨g1, g2, g3⟩ := top_ge D.best D.frm
  rw [← ey] at g1 g2 g3
  have hy : y ≤ D.frm + 64 := by
    rcases g3 with g3 | ⟨p, hp, g3⟩
    · omega
    · have := (hbb p hp).2; omega
  have elead : D.lead kdP pz = { Pr.askTo kdP pz (y - D.frm).toNat D.frm { D with phase := 2, next := y } with best := [] } := by rw [ey]; rfl
  rw [elead]
  refine ⟨fun vs hx' => vs = prVs { D with phase := 2, next := y } a ∧ hx' = prX D a, ?_, ?_⟩
  · refine node_vrangeX (mt := 74) (kt := 3) (et := 49) a.bb (mmap voV D.best) (fun w h => h.1.1.1.1.2) (pcs_F (b := HX.vmap a.bb (mmap voV D.best)) (by simp [pcs]) rfl) (by intros; kernel_rfl) Try.underlying74 (by intros; kernel_rfl) (by kernel_rfl) (by kernel_rfl) (by intros; kernel_rfl) ?_
    intro it hi1 hi2
    refine ⟨Ld2 D a it, fun ids w2 hp hf => ⟨_, D.best.length, ⟨hf.x, hf.sep⟩, D.frm, D.best, none, rfl, Int.le_refl _, fun p hp => .inl hp, .inl rfl, fun p hp => hp, by kernel_rfl, rfl⟩, ?_⟩
    rintro vs hx' n hcnt ⟨z, ls, last, rfl, q1, q2, q3, q4, rfl, rfl⟩
    refine node_vnext it a.bb (mmap voV D.best) (mmap voV ls) last hi1 hi2 (by intros; kernel_rfl) (by kernel_rfl) (by kernel_rfl) (fun h0 => ?_) (fun k v h1 h2 => ?_)
    · refine ⟨⟨[0, 0, 0, 0, 0], [false], [], [0, 0, 0, 0], [none, none]⟩, (by intros; kernel_rfl), by kernel_rfl, oneNil, br_F false (by kernel_rfl) rfl ?_⟩
      have h0 : ls = [] := by unfold mmap at h0; exact List.map_eq_nil_iff.1 h0
      have ez : z = y := by
        rw [ey]
        exact (top_is q1 (fun p hp => (q2 p hp).elim (fun r => by rw [h0] at r; cases r) id) q3).symm
      exact again_V (prVs { D with phase := 2, next := z } a) rfl (by intros; kernel_rfl) (prX D a) (fun w2 ids hf => ⟨hf.x.1, fun k hk => hf.sep k (.inl hk)⟩) ⟨by rw [ez], rfl⟩
    · obtain ⟨⟨k2, x⟩, hp1, hp2⟩ := List.mem_map.1 h1
      obtain ⟨rfl, rfl⟩ := Prod.mk.inj hp2
      have hb2 := hbb _ (q4 _ hp1)
      refine ⟨⟨[k2, x.s, x.r, x.n, x.v.v.k], [true], [], [x.v.v.cs.length, x.v.c1, x.v.v.ns.length, x.v.c2], [x.v.a1, x.v.a2]⟩, (by intros; kernel_rfl), by kernel_rfl, oneNil, br_T true (by kernel_rfl) rfl ?_⟩
      refine node_ventry ⟨[k2, x.s, x.r, x.n, x.v.v.k], [], [], [x.v.v.cs.length, x.v.c1, x.v.v.ns.length, x.v.c2], [x.v.a1, x.v.a2]⟩ it a.bb _ _ k2 (voV x) (by intros; kernel_rfl) (by intros; kernel_rfl) (by kernel_rfl) (by kernel_rfl) (by kernel_rfl) oneNil ?_
      have hw : IntKind.i64.wrap (k2 + 1) = k2 + 1 := wrap_i64 (by have : D.frm ≤ k2 ∧ k2 ≤ D.frm + 63 := hb2; omega)
      refine again_V (prVs { D with phase := 2, next := max z (k2 + 1) } a) rfl (fun ids => by rw [← hw]; kernel_rfl) _ (fun w2 ids hf => ⟨hf.x, hf.sep⟩) ⟨(mdel ls k2).length, mdel_lt hp1, max z (k2 + 1), mdel ls k2, some (k2, voV x), rfl, by omega, fun p hp => ?_, ?_, fun p hp => q4 p (mdel_in.1 hp).1, rfl, ?_⟩
      · by_cases e : p.1 = k2
        · exact .inr (by omega)
        · exact (q2 p hp).imp (fun r => mdel_in.2 ⟨r, e⟩) (by omega)
      · rcases Int.le_total z (k2 + 1) with h | h
        · exact .inr ⟨_, q4 _ hp1, by show max z (k2 + 1) = k2 + 1; omega⟩
        · rw [show max z (k2 + 1) = z by omega]; exact q3
      · rw [vdel_is, mdel_map]
  rintro vs hx' hcnt ⟨rfl, rfl⟩
  refine ⟨Ld6 w nb D a y, fun ids w2 hp hf => ⟨HX.nil.and (prX D a), (y - D.frm).toNat, ⟨⟨trivial, hf.x⟩, fun k hk => hk.elim False.elim (hf.sep k)⟩, D.frm, { D with phase := 2, next := y }, a, rfl, Int.le_refl _, g1, by kernel_rfl, ⟨hok.gm, hok.gz, hok.gb, hok.go, hok.gq, hok.dj⟩, rfl, rfl, by show (D.fresh.length : Int) ≤ _; omega, rfl, fun k hk => .inr (.inr hk), rfl⟩, ?_⟩
  rintro vs hx' n hcnt2 ⟨s, Dc, ac, rfl, q1, q2, rfl, hokc, q3, q4, q5, q6, q7, rfl⟩
  refine br_D (p := s < Dc.next) (by kernel_rfl) (fun h => ?_) (fun h => ?_)
  · rw [q3] at h
    obtain ⟨x, ex⟩ : ∃ x : Vo Pv, x = (mlk Dc.best s).getD ⟨0, 0, 0, pz⟩ := ⟨_, rfl⟩
    have exv : x.v = Dc.bestV pz s := by
      rw [ex]; unfold Pr.bestV
      cases mlk Dc.best s <;> rfl
    have hxv : x.v.hx ∈ ac.G ∧ VlFit x.v.v := by
      rw [ex]
      cases e : mlk Dc.best s with
      | none => exact ⟨hokc.gz, vz_fit⟩
      | some u => exact hokc.gb _ (mlk_mem e)
    refine node_vlook1 (z := voV ⟨0, 0, 0, pz⟩) (mt := 74) (kt := 3) (et := 49) ⟨[x.s, x.r, x.n, x.v.v.k], [], [], [x.v.v.cs.length, x.v.c1, x.v.v.ns.length, x.v.c2], [x.v.a1, x.v.a2]⟩ ac.bb (mmap voV Dc.best) s (fun w h => h.2.1.1.1.1.2) (by intros; kernel_rfl) (by intros; kernel_rfl) Try.underlying74 Try.underlying3 (fun w => by kernel_rfl) (fun ids => ?_) (by kernel_rfl) (by kernel_rfl) (by kernel_rfl) oneNil ?_
    · have : (vlk (mmap voV Dc.best) s).getD (voV ⟨0, 0, 0, pz⟩) = voV x := by
        rw [vlk_is, mlk_map, ex]
        cases mlk Dc.best s <;> rfl
      exact Eq.trans (b := voV x) (by kernel_rfl) this.symm
    refine node_pset (D := Dc) (D' := Dc.ask kdP s x.v) (a := ac) (fun ids => #[.pointer (some ⟨idAt ids 0, 0, none⟩), .int .i64 s, x.v.val]) rfl rfl (by intros; kernel_rfl) (by intros; kernel_rfl) (fun ids w2 hp hf hb hn hs => ask_any s x.v hb hf.x.2 hokc hn hs hxv.1 hxv.2 (by omega)) (by intros; kernel_rfl) (by intros; kernel_rfl) (fun k hk => ⟨fun q => q, q7 k hk⟩) (by kernel_rfl) (by intros; kernel_rfl) ?_
    intro a2 hok2 hdis
    have hw : IntKind.i64.wrap (s + 1) = s + 1 := wrap_i64 (by omega)
    obtain ⟨m0, em⟩ : ∃ m0, (y - s).toNat = m0 + 1 := ⟨(y - s - 1).toNat, by omega⟩
    refine again_V ⟨(s + 1) :: (prVs (Dc.ask kdP s x.v) a2).i, (prVs (Dc.ask kdP s x.v) a2).b, (prVs (Dc.ask kdP s x.v) a2).v, (prVs (Dc.ask kdP s x.v) a2).n, (prVs (Dc.ask kdP s x.v) a2).a⟩ rfl (fun ids => by rw [← hw]; kernel_rfl) _ (fun w2 ids hf => ⟨hf.x, hf.sep⟩) ⟨(y - (s + 1)).toNat, by omega, s + 1, Dc.ask kdP s x.v, a2, rfl, by omega, by omega, rfl, hok2, q3, q4, ?_, ?_, fun k hk => (hdis k hk).2, rfl⟩
    · show ((Dc.fresh ++ [s]).length : Int) ≤ _
      rw [List.length_append]
      simp only [List.length_cons, List.length_nil]; omega
    · rw [← q6, em, show (y - (s + 1)).toNat = m0 by omega, exv]; rfl
  · rw [q3] at h
    refine node_vmake (by intros; kernel_rfl) (by kernel_rfl) (by kernel_rfl) (by intros; kernel_rfl) ?_
    intro b hb1 hb2
    have q6 : Dc = Pr.askTo kdP pz (y - D.frm).toNat D.frm { D with phase := 2, next := y } := by
      rw [← q6, show (y - s).toNat = 0 by omega]; rfl
    rw [← q6]
    refine pset_done2 (D' := { Dc with best := [] }) (a' := { ac with bb := b }) ⟨hokc.gm, hokc.gz, (fun p hp => by cases hp), hokc.go, hokc.gq, hokc.dj.set (i := 1) (a' := HX.vmap b []) rfl fun k hk => .inr fun c hc z => hb2 (.inr (by rw [show k = b from hk] at z; exact pcs_F hc z))⟩ (fun w h => ⟨⟨⟨⟨⟨h.1.2.1.1.1.1.1, h.2⟩, h.1.2.1.1.1.2⟩, h.1.2.1.1.2⟩, h.1.2.1.2⟩, h.1.2.2⟩) (fun k hk => ?_) (by intros; kernel_rfl) (by intros; kernel_rfl)
    rcases hk with ((((hk | hk) | hk) | hk) | hk) | hk
    · have z : (prX Dc ac).F k := .inl (.inl (.inl (.inl (.inl hk))))
      exact ⟨.inl (.inr z), q7 k z⟩
    · exact ⟨.inr hk, .inl (by rw [show k = b from hk]; exact hb1)⟩
    · have z : (prX Dc ac).F k := .inl (.inl (.inl (.inr hk)))
      exact ⟨.inl (.inr z), q7 k z⟩
    · have z : (prX Dc ac).F k := .inl (.inl (.inr hk))
      exact ⟨.inl (.inr z), q7 k z⟩
    · have z : (prX Dc ac).F k := .inl (.inr hk)
      exact ⟨.inl (.inr z), q7 k z⟩
    · have z : (prX Dc ac).F k := .inr hk
      exact ⟨.inl (.inr z), q7 k z⟩
end
end Go.Proofs.Ytlgpjjgkdpmidaa

namespace Go.Proofs.Ytlgpjjgkdpmidaa
open Go.ChangeShapes Go.WideShapes Go.ChangeAt Go.RowKit Go.Syn Go.Eng Go.MapKept
set_option linter.unusedVariables false
set_option linter.unusedSimpArgs false
set_option maxRecDepth 100000
theorem info_msg : (Try.prog.info? 41).map (fun i => (i.zero, i.size, i.bytes)) = some (some (.agg #[.int .i64 0, .int .i64 0, .int .i64 0, .int .i64 0, .int .i64 0, .int .i64 0, .int .i64 0, .int .i64 0, .int .i64 0, .int .i64 0, .slice none 0 0, .slice none 0 0, .slice none 0 0, .int .i64 0, .int .i64 0, .int .i64 0, .int .i64 0, .int .i64 0, .int .i64 0, .int .i64 0, .int .i64 0, .int .i64 0, .int .i64 0, .int .i64 0, .slice none 0 0]), 25, 264) := by kernel_rfl
def mgC (r n : Int) (q : Int × Pv) : List Value := [.int .i64 4, .int .i64 0, .int .i64 0, .int .i64 0, .int .i64 r, .int .i64 n, .int .i64 q.1, .int .i64 0, .int .i64 0, .int .i64 q.2.v.k, .slice q.2.a1 q.2.v.cs.length q.2.c1, .slice q.2.a2 q.2.v.ns.length q.2.c2, .slice none 0 0, .int .i64 0, .int .i64 0, .int .i64 0, .int .i64 0, .int .i64 0, .int .i64 0, .int .i64 0, .int .i64 0, .int .i64 0, .int .i64 0, .int .i64 0, .slice none 0 0]
theorem mgC_one (r n : Int) (q : Int × Pv) : ∀ v ∈ mgC r n q, v.oneCell' = true := fun v hv => by
  simp only [mgC, List.mem_cons, List.not_mem_nil, or_false] at hv
  rcases hv with h | h | h | h | h | h | h | h | h | h | h | h | h | h | h | h | h | h | h | h | h | h | h | h | h <;> (rw [h]; rfl)
def mcells (r n : Int) (mp : List (Int × Pv)) : List Value := mp.flatMap (mgC r n)
def mrow (a : Option Addr) (cap : Nat) (r n : Int) (mp : List (Int × Pv)) : HX := HX.rw 25 41 a mp.length cap (mcells r n mp)
def mall (mp : List (Int × Pv)) : HX := HX.all (mp.map fun q => q.2.hx)
theorem all_snoc (xs : List HX) (x : HX) : HX.all (xs ++ [x]) = (HX.all xs).and x := HX.ext (by
    funext k
    refine propext ⟨fun ⟨y, hy, hk⟩ => ?_, fun h => ?_⟩
    · rcases List.mem_append.1 hy with hy | hy
      · exact .inl ⟨y, hy, hk⟩
      · rw [List.mem_singleton.1 hy] at hk; exact .inr hk
    · rcases h with ⟨y, hy, hk⟩ | hk
      · exact ⟨y, List.mem_append_left _ hy, hk⟩
      · exact ⟨x, List.mem_append_right _ (List.mem_singleton.2 rfl), hk⟩) (by
    funext w
    refine propext ⟨fun h => ⟨fun y hy => h y (List.mem_append_left _ hy), h x (List.mem_append_right _ (List.mem_singleton.2 rfl))⟩, fun h y hy => ?_⟩
    rcases List.mem_append.1 hy with hy | hy
    · exact h.1 y hy
    · rw [List.mem_singleton.1 hy]; exact h.2)
theorem mall_snoc (mp : List (Int × Pv)) (q : Int × Pv) : mall (mp ++ [q]) = (mall mp).and q.2.hx := by unfold mall; rw [List.map_append]; exact all_snoc _ _
def PrGo (w : World) (F : Nat → Prop) (nb : Nat) (P' : Pr Vl) (ms : List (Int × Vl)) (e : Ending) (w' : World) : Prop := ∃ (mp : List (Int × Pv)) (ma : Option Addr) (mc : Nat) (F' : Nat → Prop), mmap Pv.v mp = ms ∧ (∀ q ∈ mp, VlFit q.2.v) ∧ e = .returned (.slice ma mp.length mc) ∧ (HX.obj F' (PrO nb P')).X w' ∧ (mall mp).X w' ∧ (mrow ma mc P'.r P'.n mp).X w' ∧ (∀ k, F' k → (F k ∨ w.heap.size ≤ k) ∧ k < w'.heap.size) ∧ (∀ k, (mall mp).F k → w.heap.size ≤ k ∧ k < w'.heap.size ∧ ¬ F' k) ∧ (∀ k, (mrow ma mc P'.r P'.n mp).F k → w.heap.size ≤ k ∧ k < w'.heap.size ∧ ¬ F' k ∧ ¬ (mall mp).F k) ∧ Chg F w w'
theorem fill_stop {kd : Pv → Int} {ex : Int} {D : Pr Pv} (h : D.queue = [] ∨ ¬ (D.next - D.window ≤ ex ∧ D.next ≤ 1099511627776)) : ∀ k, Pr.fill kd ex k D = D
  | 0 => rfl
  | k + 1 => by
    unfold Pr.fill
    cases hq : D.queue with
    | nil => rfl
    | cons v q =>
      rcases h with h | h
      · rw [h] at hq; cases hq
      · dsimp only; rw [if_neg h]
theorem fill_go {kd : Pv → Int} {ex : Int} {D : Pr Pv} {p : Pv} {q : List Pv} (hq : D.queue = p :: q) (h : D.next - D.window ≤ ex ∧ D.next ≤ 1099511627776) (k : Nat) : Pr.fill kd ex (k + 1) D = Pr.fill kd ex k { D.ask kd D.next p with queue := q, next := D.next + 1 } := by
  simp only [Pr.fill, hq]
  rw [if_pos h]
section
variable {D : Pr Pv} {a : PA} {nb : Nat} {w : World} {F : Nat → Prop}
def Go3 (w : World) (F : Nat → Prop) (D D1 : Pr Pv) (ex : Int) (vs : Vals) (hx : HX) (m : Nat) : Prop := ∃ (Dc : Pr Pv) (ac : PA), m = Dc.queue.length ∧ vs = prVs Dc ac ∧ POk Dc ac ∧ (Dc.queue ≠ [] → ac.aq.isSome = true) ∧ Pr.fill kdP ex Dc.queue.length Dc = D1 ∧ Dc.fresh.length + Dc.queue.length ≤ D.fresh.length + D.queue.length ∧ (Dc.window = D.window ∧ Dc.r = D.r ∧ Dc.n = D.n ∧ D.next ≤ Dc.next ∧ Dc.next ≤ 1099511627777) ∧ (∀ k, (prX Dc ac).F k → w.heap.size ≤ k ∨ F k) ∧ hx = HX.nil.and (prX Dc ac)
def msTo (D : Pr Pv) (j : Nat) : List (Int × Vl) := (D.fresh.take j).filterMap fun s => (mlk (mmap Pv.v D.out) s).map fun v => (s, v)
def GoS (w : World) (base : HX) (D : Pr Pv) (j : Nat) (ma : Option Addr) (mc : Nat) (mp : List (Int × Pv)) (hx : HX) : Prop := mmap Pv.v mp = msTo D j ∧ (∀ q ∈ mp, VlFit q.2.v) ∧ mp.length ≤ j ∧ (∀ k, (mall mp).F k → w.heap.size ≤ k ∧ ¬ base.F k) ∧ (∀ k, mc ≠ 0 → abk ma = some k → w.heap.size ≤ k ∧ ¬ (base.and (mall mp)).F k) ∧ hx = (base.and (mall mp)).and (mrow ma mc D.r D.n mp)
def Go9 (w : World) (base : HX) (D : Pr Pv) (a : PA) (vs : Vals) (hx : HX) (m : Nat) : Prop := (D.fresh ≠ [] → a.af.isSome = true) ∧ ∃ (j : Nat) (ma : Option Addr) (mc : Nat) (mp : List (Int × Pv)), m = D.fresh.length - j ∧ j ≤ D.fresh.length ∧ vs = ⟨[(j : Int)], [], [], [mp.length, mc], [ma]⟩ ∧ GoS w base D j ma mc mp hx
theorem q_cells (h : (qrow a.aq a.cq D.queue).X w) {p : Pv} {q : List Pv} (hq : D.queue = p :: q) : a.aq.isSome = true ∧ CellsAt w (.pointer (some (((a.aq.getD ⟨0, 0, none⟩).add (0 * 3)).add 0))) p.cells (fun _ => False) := by
  have hc := tw_cells h
  obtain ⟨h1, h2⟩ := cl_elt (i := 0) (sz := 3) hc p.cells (fun j u hj => by
    rw [hq]
    show (p.cells ++ qcs q)[0 * 3 + j]? = some u
    have hlt : j < p.cells.length := by
      rcases Nat.lt_or_ge j p.cells.length with g | g
      · exact g
      · rw [List.getElem?_eq_none g] at hj; cases hj
    rw [Nat.zero_mul, Nat.zero_add, List.getElem?_append_left hlt]; exact hj) (by simp [Pv.cells])
  exact ⟨h1, h2 _ id⟩
theorem f_cells (h : (irow a.af a.cf D.fresh).X w) {j : Nat} {s : Int} (hj : D.fresh[j]? = some s) : a.af.isSome = true ∧ CellsAt w (.pointer (some (((a.af.getD ⟨0, 0, none⟩).add (j * 1)).add 0))) [.int .i64 s] (fun _ => False) := by
  have hc := rw_cells h
  obtain ⟨h1, h2⟩ := cl_elt (i := j) (sz := 1) hc [.int .i64 s] (fun k u hk => by
    cases k with
    | zero =>
      simp only [List.getElem?_cons_zero, Option.some.injEq] at hk
      rw [Nat.mul_one, Nat.add_zero, List.getElem?_map, hj, ← hk]; rfl
    | succ k => simp at hk) (by simp)
  exact ⟨h1, h2 _ id⟩
set_option maxHeartbeats 1600000 in
theorem go_any {P : Pr Vl} (ex : Int) (H0 : (HX.obj F (PrO nb P)).X w) (hF : ∀ k, F k → k < w.heap.size) (hex : I64 ex) (hw0 : 1 ≤ P.window ∧ P.window ≤ 16) (hn0 : 0 ≤ P.next ∧ P.next ≤ 1099511627777) (hl : P.fresh.length + P.queue.length ≤ 10000) :
    Calls Try.prog 14 #[.pointer (some ⟨nb, 0, none⟩), .int .i64 ex] w (PrGo w F nb (P.goes Vl.k ex).1 (P.goes Vl.k ex).2) := by
  obtain ⟨D, a, hP, hok, hnb, hB, hX, Fnb, hsub⟩ := pobj_open H0
  refine calls_at (tab_ok _) Try.func14 rfl tPGo (ρ := ⟨[D.me, D.window, D.phase, D.r, D.n, D.frm, D.next, ex], [D.stop], [.map (some a.bb), .map (some a.bo)], [D.mem.length, a.cm, D.said.length, a.cs, D.fresh.length, a.cf, D.queue.length, a.cq], [a.am, a.as_, a.af, a.aq]⟩) (ids := [nb]) (hx := prX D a) rfl (Facts.initx (M := F) rfl (fun v hv => by simp only [List.mem_cons, List.not_mem_nil, or_false] at hv; rcases hv with rfl | rfl <;> rfl) hB rfl Fnb hX (fun k hk => ⟨hF k (hsub k hk), fun e => hnb (e ▸ hk)⟩)) ?_
  have hph : P.phase = D.phase := by rw [← hP]; rfl
  have hw0 : 1 ≤ D.window ∧ D.window ≤ 16 := by rw [← hP] at hw0; exact hw0
  have hn0 : 0 ≤ D.next ∧ D.next ≤ 1099511627777 := by rw [← hP] at hn0; exact hn0
  have hl : D.fresh.length + D.queue.length ≤ 10000 := by
    rw [← hP] at hl
    have : (D.map Pv.v).queue.length = D.queue.length := List.length_map _
    rw [this] at hl; exact hl
  refine br_B (D.phase != 2) (by kernel_rfl) (fun h => ?_) (fun h => ?_)
  · have h : P.phase ≠ 2 := by rw [hph]; simpa using h
    have e : P.goes Vl.k ex = (P, []) := by unfold Pr.goes; rw [if_neg h]
    rw [e]
    intro ids w2 hp hf
    have hb := hf.blk 0 77 _ rfl
    rw [idAt0 hp] at hb
    have hmem : nb ∈ ids := by obtain ⟨x, rfl⟩ := hp; simp
    refine ⟨[], none, 0, fun k => k = nb ∨ (prX D a).F k, rfl, (fun q hq => by cases hq), rfl, ⟨_, ⟨D, a, hP, hok, fun q => (hf.sep nb q).2 hmem, rfl⟩, ⟨hb, hf.x⟩, fun k hk => hk⟩, (fun x hx => by cases hx), HX.rw_nil _ _ _ _, fun k hk => ?_, (fun k ⟨x, hx, _⟩ => by cases hx), (fun k hk => (row0_F hk).elim), hf.chg⟩
    rcases hk with rfl | hk
    · exact ⟨.inl Fnb, hf.id_lt hmem⟩
    · exact ⟨.inl (hsub k hk), (hf.sep k hk).1⟩
  have h : P.phase = 2 := by rw [hph]; simpa using h
  obtain ⟨D1, eD1⟩ : ∃ D1, D1 = Pr.fill kdP ex D.queue.length D := ⟨_, rfl⟩
  have hPg : P.goes Vl.k ex = ({ D1.map Pv.v with fresh := [] }, msTo D1 D1.fresh.length) := by
    have e1 : D1.map Pv.v = Pr.fill Vl.k ex P.queue.length P := by
      rw [eD1, show (kdP : Pv → Int) = fun x => Vl.k (Pv.v x) from rfl, map_fill Pv.v Vl.k ex, hP]
      congr 1
      rw [← hP]; exact (List.length_map _).symm
    unfold Pr.goes
    rw [if_pos h]
    dsimp only
    rw [← e1]
    refine Prod.ext rfl ?_
    unfold Pr.msgs msTo
    rw [List.take_length]; rfl
  rw [hPg]
  refine ⟨fun vs hx' => ∃ a1, vs = prVs D1 a1 ∧ POk D1 a1 ∧ (∀ k, (prX D1 a1).F k → w.heap.size ≤ k ∨ F k) ∧ D1.fresh.length ≤ 10000 ∧ hx' = HX.nil.and (prX D1 a1), ?_, ?_⟩
  · refine ⟨Go3 w F D D1 ex, fun ids w2 hp hf => ⟨HX.nil.and (prX D a), D.queue.length, ⟨⟨trivial, hf.x⟩, fun k hk => hk.elim False.elim (hf.sep k)⟩, D, a, rfl, by kernel_rfl, hok, fun hq => ?_, eD1.symm, Nat.le_refl _, ⟨rfl, rfl, rfl, Int.le_refl _, hn0.2⟩, fun k hk => .inr (hsub k hk), rfl⟩, ?_⟩
    · obtain ⟨p, q, e⟩ := List.exists_cons_of_ne_nil hq
      exact (q_cells hf.x.2 e).1
    rintro vs hx' n hcnt ⟨Dc, ac, rfl, rfl, hokc, hs, hfill, hlen, ⟨g1, g2, g3, g4, g5⟩, hown, rfl⟩
    have out : (Dc.queue = [] ∨ ¬ (Dc.next - Dc.window ≤ ex ∧ Dc.next ≤ 1099511627776)) → ∀ {m : Mem} {ρ : Env} {I : Vals → HX → Prop} {S : Stack} {es : Vec}, (∀ ids, es.den ρ ids = prVs Dc ac) → (Tree.again 7 es m).holds ⟨Try.prog, w, F, PrGo w F nb ({ D1.map Pv.v with fresh := [] } : Pr Vl) (msTo D1 D1.fresh.length)⟩ ρ [nb] (HX.nil.and (prX Dc ac)) ((3, I) :: (7, fun vs hx' => ∃ a1, vs = prVs D1 a1 ∧ POk D1 a1 ∧ (∀ k, (prX D1 a1).F k → w.heap.size ≤ k ∨ F k) ∧ D1.fresh.length ≤ 10000 ∧ hx' = HX.nil.and (prX D1 a1)) :: S) := fun hq {m ρ I S es} hv => by
      have e : Dc = D1 := by rw [← hfill, fill_stop hq]
      refine again_V (prVs Dc ac) rfl hv _ (fun w2 ids hf => ⟨hf.x, hf.sep⟩) ⟨ac, by rw [e], e ▸ hokc, e ▸ hown, ?_, by rw [e]⟩
      rw [← e]; omega
    have hwr : IntKind.i64.wrap (Dc.next - Dc.window) = Dc.next - Dc.window := wrap_i64 (by omega)
    refine br_D (p := (Dc.queue.length : Int) > 0) (by kernel_rfl) (fun h1 => ?_) (fun h1 => out (.inl (List.length_eq_zero_iff.1 (by omega))) (by intros; kernel_rfl))
    refine br_D (p := ex ≥ IntKind.i64.wrap (Dc.next - Dc.window)) (by kernel_rfl) (fun h2 => ?_) (fun h2 => out (.inr (by rw [hwr] at h2; omega)) (by intros; kernel_rfl))
    refine br_D (p := Dc.next ≤ 1099511627776) (by kernel_rfl) (fun h3 => ?_) (fun h3 => out (.inr (by omega)) (by intros; kernel_rfl))
    clear out
    rw [hwr] at h2
    obtain ⟨p, q, hq⟩ : ∃ p q, Dc.queue = p :: q := List.exists_cons_of_ne_nil (by intro e; rw [e] at h1; simp at h1)
    have hs := hs (by rw [hq]; simp)
    have hpG := hokc.gq p (by rw [hq]; exact List.mem_cons_self)
    have hql : Dc.queue.length = q.length + 1 := by rw [hq]; rfl
    refine par_i ?x ?y
    case' x =>
      refine need_k (ac.aq.isSome = true ∧ (0 : Int) ≤ 0 ∧ (0 : Int) < (Dc.queue.length : Int)) (by kernel_rfl) ⟨hs, by omega, by omega⟩ ?_
    case' y =>
      refine need_k (ac.aq.isSome = true ∧ (0 : Int) ≤ 0 ∧ (0 : Int) < (Dc.queue.length : Int)) (by kernel_rfl) ⟨hs, by omega, by omega⟩ ?_
      refine par_i ?_ ?_
    all_goals
      refine node_ldk ⟨[p.v.k], [], [], [p.v.cs.length, p.c1, p.v.ns.length, p.c2], [p.a1, p.a2]⟩ (fun _ => .pointer (some (((ac.aq.getD ⟨0, 0, none⟩).add (0 * 3)).add 0))) p.cells (by intros; kernel_rfl) (by intros; kernel_rfl) (fun ids w2 hp hf => (q_cells hf.x.2.2 hq).2) (by kernel_rfl) oneNil ?_
      refine node_pset (D := Dc) (D' := Dc.ask kdP Dc.next p) (a := ac) (fun ids => #[.pointer (some ⟨idAt ids 0, 0, none⟩), .int .i64 Dc.next, p.val]) rfl rfl (by intros; kernel_rfl) (by intros; kernel_rfl) (fun ids w2 hp hf hb hn hs => ask_any Dc.next p hb hf.x.2 hokc hn hs hpG.1 hpG.2 (by omega)) (by intros; kernel_rfl) (by intros; kernel_rfl) (fun k hk => ⟨fun q => q, hown k hk⟩) (by kernel_rfl) (by intros; kernel_rfl) ?_
      intro a2 hok2 hdis
      refine node_from (e := 31) (sz := 3) (n := Dc.queue.length) (cap := a2.cq) (l := 1) a2.aq Try.underlying57 (by kernel_rfl) info_val (by intros; kernel_rfl) (by intros; kernel_rfl) (by omega) (by intros; kernel_rfl) (by kernel_rfl) (by kernel_rfl) (by kernel_rfl) ?_
      obtain ⟨D2, eD2⟩ : ∃ D2 : Pr Pv, D2 = { Dc.ask kdP Dc.next p with queue := q, next := Dc.next + 1 } := ⟨_, rfl⟩
      obtain ⟨a3, ea3⟩ : ∃ a3 : PA, a3 = { a2 with aq := sliA a2.aq 1 a2.cq 3, cq := a2.cq - 1 } := ⟨_, rfl⟩
      have hwn : IntKind.i64.wrap (Dc.next + 1) = Dc.next + 1 := wrap_i64 (by omega)
      have hdrop : (qcs Dc.queue).drop 3 = qcs q := by rw [hq]; show (p.cells ++ qcs q).drop 3 = _; exact List.drop_left (l₁ := p.cells)
      have hqF : ∀ k, (qrow a3.aq a3.cq q).F k → (qrow a2.aq a2.cq Dc.queue).F k := fun k hk => by
        rw [ea3] at hk
        refine tw_tail_F (n := Dc.queue.length) (xs := qcs Dc.queue) ?_
        rw [hdrop, hql]; exact hk
      have hXF : ∀ k, (prX D2 a3).F k → (prX (Dc.ask kdP Dc.next p) a2).F k := fun k hk => by
        rw [eD2] at hk
        rcases hk with hk | hk
        · rw [ea3] at hk; exact .inl hk
        · exact .inr (hqF k hk)
      have hok3 : POk D2 a3 := by
        rw [eD2, ea3]
        refine ⟨hok2.gm, hok2.gz, hok2.gb, hok2.go, (fun x hx => hok2.gq x (by show x ∈ Dc.queue; rw [hq]; exact List.mem_cons_of_mem _ hx)), ?_⟩
        exact hok2.dj.set (i := 5) (a' := qrow (sliA a2.aq 1 a2.cq 3) (a2.cq - 1) q) rfl fun k hk => .inl (hqF k (by rw [ea3]; exact hk))
      intro ids w2 hp hf
      have hX2 := hf.x.2
      have hX3 : (prX D2 a3).X w2 := by
        rw [eD2, ea3]
        refine ⟨hX2.1, ?_⟩
        have := tw_tail (n := Dc.queue.length) hX2.2 (by omega)
        rw [show (qcs (Dc.ask kdP Dc.next p).queue) = qcs Dc.queue from rfl, hdrop, hql] at this
        exact this
      refine ⟨HX.nil.and (prX D2 a3), ⟨⟨trivial, hX3⟩, fun k hk => hk.elim False.elim fun z => hf.sep k (.inr (hXF k z))⟩, _, rfl, q.length, by omega, D2, a3, by rw [eD2], ?_, hok3, fun hq2 => ?_, ?_, ?_, ?_, fun k hk => (hdis k (hXF k hk)).2, rfl⟩
      · refine Eq.trans (b := (⟨[Dc.me, Dc.window, Dc.phase, Dc.r, Dc.n, Dc.frm, IntKind.i64.wrap (Dc.next + 1)], [(Dc.ask kdP Dc.next p).stop], [.map (some a2.bb), .map (some a2.bo)], [Dc.mem.length, a2.cm, Dc.said.length, a2.cs, (Dc.fresh ++ [Dc.next]).length, a2.cf, Dc.queue.length - 1, a2.cq - 1], [a2.am, a2.as_, a2.af, sliA a2.aq 1 a2.cq 3]⟩ : Vals)) (by kernel_rfl) ?_
        rw [hwn, eD2, ea3, hql]; rfl
      · obtain ⟨x, y, e⟩ := List.exists_cons_of_ne_nil hq2
        exact (q_cells hX3.2 e).1
      · rw [← hfill, hql, fill_go hq ⟨by omega, h3⟩, ← eD2, eD2]
      · rw [eD2]
        show (Dc.fresh ++ [Dc.next]).length + q.length ≤ _
        rw [List.length_append]; simp only [List.length_cons, List.length_nil]; omega
      · rw [eD2]
        exact ⟨g1, g2, g3, (by show D.next ≤ Dc.next + 1; omega), (by show Dc.next + 1 ≤ _; omega)⟩
  rintro vs hx' hcnt ⟨a1, rfl, hok1, hown1, hfl, rfl⟩
  obtain ⟨B, eB⟩ : ∃ B, B = HX.nil.and (prX D1 a1) := ⟨_, rfl⟩
  have Bx : ∀ {w}, B.X w → (prX D1 a1).X w := fun h => by rw [eB] at h; exact h.2
  rw [← eB]
  refine ⟨Go9 w B D1 a1, fun ids w2 hp hf => ⟨(B.and (mall [])).and (mrow none 0 D1.r D1.n []), D1.fresh.length, ⟨⟨⟨hf.x, (fun x hx => by cases hx)⟩, HX.rw_nil _ _ _ _⟩, fun k hk => ?_⟩, fun hq => ?_, 0, none, 0, [], rfl, Nat.zero_le _, by kernel_rfl, rfl, (fun q hq => by cases hq), Nat.le_refl _, (fun k ⟨x, hx, _⟩ => by cases hx), (fun k h => absurd rfl h), rfl⟩, ?_⟩
  · rcases hk with (hk | ⟨x, hx, _⟩) | hk
    · exact hf.sep k hk
    · cases hx
    · exact (row0_F hk).elim
  · obtain ⟨s, q, e⟩ := List.exists_cons_of_ne_nil hq
    exact (f_cells (Bx hf.x).1.2 (j := 0) (s := s) (by rw [e]; rfl)).1
  rintro vs hx' n hcnt2 ⟨hs, j, ma, mc, mp, rfl, hj, rfl, m1, m2, m3, m4, m5, rfl⟩
  refine br_D (p := (j : Int) < (D1.fresh.length : Int)) (by kernel_rfl) (fun hjl => ?_) (fun hjl => ?_)
  · have hjl : j < D1.fresh.length := by omega
    obtain ⟨s, hsj⟩ : ∃ b, D1.fresh[j]? = some b := ⟨_, List.getElem?_eq_getElem hjl⟩
    have hms : msTo D1 (j + 1) = msTo D1 j ++ ((mlk (mmap Pv.v D1.out) s).map fun v => (s, v)).toList := by
      unfold msTo
      rw [List.take_add_one, hsj, List.filterMap_append]
      congr 1
    refine ⟨fun vs hx' => ∃ ma mc mp, vs = ⟨[], [], [], [mp.length, mc], [ma]⟩ ∧ GoS w B D1 (j + 1) ma mc mp hx', ?_, ?_⟩
    · refine need_k (a1.af.isSome = true ∧ 0 ≤ (j : Int) ∧ (j : Int) < (D1.fresh.length : Int)) (by kernel_rfl) ⟨hs (by intro e; rw [e] at hjl; simp at hjl), by omega, by omega⟩ ?_
      refine node_ldk ⟨[s], [], [], [], []⟩ (fun _ => .pointer (some (((a1.af.getD ⟨0, 0, none⟩).add (j * 1)).add 0))) [.int .i64 s] (by intros; kernel_rfl) (by intros; kernel_rfl) (fun ids w2 hp hf => (f_cells (Bx hf.x.1.1).1.2 hsj).2) (by kernel_rfl) oneNil ?_
      obtain ⟨p0, ep0⟩ : ∃ p0, p0 = (mlk D1.out s).getD pz := ⟨_, rfl⟩
      refine node_vlook (z := pz.val) (mt := 75) (kt := 3) (et := 31) ⟨[p0.v.k], [(mlk D1.out s).isSome], [], [p0.v.cs.length, p0.c1, p0.v.ns.length, p0.c2], [p0.a1, p0.a2]⟩ a1.bo (mmap Pv.val D1.out) s (fun w h => (Bx h.1.1).1.1.1.2) (by intros; kernel_rfl) (by intros; kernel_rfl) Try.underlying75 Try.underlying3 (fun w => by kernel_rfl) (fun ids => ?_) (by kernel_rfl) (by kernel_rfl) (by kernel_rfl) oneNil ?_
      · have : Value.tuple #[(vlk (mmap Pv.val D1.out) s).getD pz.val, .bool (vlk (mmap Pv.val D1.out) s).isSome] = .tuple #[p0.val, .bool (mlk D1.out s).isSome] := by
          rw [vlk_is, mlk_map, ep0]
          cases mlk D1.out s <;> rfl
        exact Eq.trans (b := Value.tuple #[p0.val, .bool (mlk D1.out s).isSome]) (by kernel_rfl) this.symm
      refine br_B ((mlk D1.out s).isSome) (by kernel_rfl) (fun hsome => ?_) (fun hsome => ?_)
      · obtain ⟨u, hu⟩ := Option.isSome_iff_exists.1 hsome
        have hp0 : p0 = u := by rw [ep0, hu]; rfl
        have hfit : VlFit p0.v := by rw [hp0]; exact (hok1.go _ (mlk_mem hu)).2
        refine node_vl (V := accV D1.r D1.n s) (v := p0.v) (fun ids => #[.pointer (some ⟨idAt ids 0, 0, none⟩), .int .i64 s]) (fun b1 d1 b2 d2 => ⟨[4, 0, 0, 0, D1.r, D1.n, s, 0, 0, p0.v.k, 0, 0, 0, 0, 0, 0, 0, 0, 0, 0, 0], [], [], [p0.v.cs.length, d1, p0.v.ns.length, d2, 0, 0, 0, 0], [b1, b2, none, none]⟩) (by intros; kernel_rfl) (fun ids w2 hp hf => ?_) (by intros; kernel_rfl) (by kernel_rfl) (by kernel_rfl) (by intros; kernel_rfl) (fun _ _ _ _ => oneNil) ?_
        · have hb := hf.blk 0 77 _ rfl
          have hm0 : idAt ids 0 ∈ ids := idAt_mem (ids := ids) (n := 0) (by rw [hf.len]; simp)
          have hb : Blk w2 (idAt ids 0) (prC D1 a1) 77 := hb
          have := acc_any s hb (Bx hf.x.1.1) hok1 (fun q => (hf.sep _ (.inl (.inl (by rw [eB]; exact .inr q)))).2 hm0) (fun k hk => (hf.sep k (.inl (.inl (by rw [eB]; exact .inr hk)))).1)
          rw [← ep0] at this; exact this
        intro b1 d1 b2 d2 hfr
        obtain ⟨p, ep⟩ : ∃ p : Pv, p = ⟨p0.v, b1, d1, b2, d2⟩ := ⟨_, rfl⟩
        have epx : vlX p0.v b1 b2 = p.hx := by rw [ep]; rfl
        rw [epx] at hfr ⊢
        have e1 : ((B.and (mall mp)).and (mrow ma mc D1.r D1.n mp)).and p.hx = (B.and (mall (mp ++ [(s, p)]))).and (mrow ma mc D1.r D1.n mp) := by rw [mall_snoc]; ac_rfl
        refine holds_eq e1 ?_
        refine node_pushs (e := 41) (sz := 25) rfl Try.underlying52 info_msg rfl (by decide) ma mp.length mc (mcells D1.r D1.n mp) (mgC D1.r D1.n (s, p)) 2 (by intros; kernel_rfl) (by intros; kernel_rfl) rfl (fun ids => by rw [ep]; kernel_rfl) rfl (mgC_one _ _ _) (fun k q1 q2 => ?_) (fun k q1 q2 => .inl (m5 k q1 q2).1) (by unfold maxLen; omega) (by omega) (by intros; kernel_rfl) (by kernel_rfl) (by kernel_rfl) (by intros; kernel_rfl) ?_
        · rw [mall_snoc]
          rintro (z | (z | z))
          · exact (m5 k q1 q2).2 (.inl z)
          · exact (m5 k q1 q2).2 (.inr z)
          · exact (hfr k z).2 (.inr ⟨q1, q2⟩)
        intro ma' mc' hc' hr' hor'
        have hrow : HX.rw 25 41 ma' (mp.length + 1) mc' (mcells D1.r D1.n mp ++ mgC D1.r D1.n (s, p)) = mrow ma' mc' D1.r D1.n (mp ++ [(s, p)]) := by
          unfold mrow mcells; rw [List.length_append, List.flatMap_append]; simp
        rw [hrow]
        refine again_V ⟨[], [], [], [mp.length + 1, mc'], [ma']⟩ rfl (by intros; kernel_rfl) _ (fun w2 ids hf => ⟨hf.x, hf.sep⟩) ⟨ma', mc', mp ++ [(s, p)], by rw [List.length_append]; rfl, ?_, fun x hx => ?_, by rw [List.length_append]; exact Nat.succ_le_succ m3, fun k hk => ?_, fun k q1 q2 => ?_, rfl⟩
        · rw [hms, mlk_map, hu]
          show mmap Pv.v (mp ++ [(s, p)]) = msTo D1 j ++ [(s, u.v)]
          unfold mmap at m1 ⊢
          rw [List.map_append, m1, ep, hp0]; rfl
        · rcases List.mem_append.1 hx with hx | hx
          · exact m2 x hx
          · rw [List.mem_singleton.1 hx, ep]; exact hfit
        · rw [mall_snoc] at hk
          rcases hk with hk | hk
          · exact m4 k hk
          · exact ⟨(hfr k hk).1, fun z => (hfr k hk).2 (.inl (.inl z))⟩
        · refine ⟨?_, hr' k q2⟩
          rcases hor' with ⟨r1, r2⟩ | ⟨g, r1, r2, _⟩
          · exact (m5 k r1 (by rw [← r2]; exact q2)).1
          · rw [r1] at q2; cases q2; exact r2
      · have hnone : mlk D1.out s = none := by cases e : mlk D1.out s with | none => rfl | some x => rw [e] at hsome; cases hsome
        refine again_V ⟨[], [], [], [mp.length, mc], [ma]⟩ rfl (by intros; kernel_rfl) _ (fun w2 ids hf => ⟨hf.x, hf.sep⟩) ⟨ma, mc, mp, rfl, ?_, m2, Nat.le_succ_of_le m3, m4, m5, rfl⟩
        rw [hms, mlk_map, hnone, m1]; exact (List.append_nil _).symm
    · rintro vs hx' hcnt3 ⟨ma', mc', mp', rfl, hG⟩
      have hwj : IntKind.i64.wrap ((j : Int) + 1) = ((j + 1 : Nat) : Int) := by rw [wrap_i64 (by omega)]; omega
      exact again_V ⟨[IntKind.i64.wrap ((j : Int) + 1)], [], [], [mp'.length, mc'], [ma']⟩ rfl (by intros; kernel_rfl) hx' (fun w2 ids hf => ⟨hf.x, hf.sep⟩) ⟨D1.fresh.length - (j + 1), by omega, hs, j + 1, ma', mc', mp', rfl, by omega, by rw [hwj], hG⟩
  · have hjj : j = D1.fresh.length := by omega
    rw [hjj] at m1
    intro ids w2 hp hf
    have hb := hf.blk 0 77 _ rfl
    rw [idAt0 hp] at hb
    have hmem : nb ∈ ids := by obtain ⟨x, rfl⟩ := hp; simp
    have hX1 := Bx hf.x.1.1
    have hBF : ∀ k, (prX D1 a1).F k → B.F k := fun k hk => by rw [eB]; exact .inr hk
    have hF2 : ∀ k, (prX ({ D1 with fresh := [] } : Pr Pv) { a1 with af := none, cf := 0 }).F k → (prX D1 a1).F k := fun k hk => by
      rcases hk with ((((hk | hk) | hk) | hk) | hk) | hk
      · exact .inl (.inl (.inl (.inl (.inl hk))))
      · exact .inl (.inl (.inl (.inl (.inr hk))))
      · exact .inl (.inl (.inl (.inr hk)))
      · exact .inl (.inl (.inr hk))
      · exact (row0_F hk).elim
      · exact .inr hk
    refine ⟨mp, ma, mc, fun k => k = nb ∨ (prX ({ D1 with fresh := [] } : Pr Pv) { a1 with af := none, cf := 0 }).F k, m1, m2, rfl, ⟨_, ⟨{ D1 with fresh := [] }, { a1 with af := none, cf := 0 }, rfl, ⟨hok1.gm, hok1.gz, hok1.gb, hok1.go, hok1.gq, hok1.dj.set (i := 4) (a' := irow none 0 []) rfl fun k hk => (row0_F hk).elim⟩, fun q => (hf.sep nb (.inl (.inl (hBF nb (hF2 nb q))))).2 hmem, rfl⟩, ⟨hb, ⟨⟨hX1.1.1, HX.rw_nil _ _ _ _⟩, hX1.2⟩⟩, fun k hk => hk⟩, hf.x.1.2, hf.x.2, fun k hk => ?_, fun k hk => ⟨(m4 k hk).1, (hf.sep k (.inl (.inr hk))).1, fun z => ?_⟩, fun k hk => ⟨(m5 k hk.1 hk.2).1, (hf.sep k (.inr hk)).1, fun z => ?_, fun z => (m5 k hk.1 hk.2).2 (.inr z)⟩, hf.chg⟩
    · rcases hk with rfl | hk
      · exact ⟨.inl Fnb, hf.id_lt hmem⟩
      · exact ⟨(hown1 k (hF2 k hk)).symm, (hf.sep k (.inl (.inl (hBF k (hF2 k hk))))).1⟩
    · rcases z with rfl | z
      · exact (hf.sep k (.inl (.inr hk))).2 hmem
      · exact (m4 k hk).2 (hBF k (hF2 k z))
    · rcases z with rfl | z
      · exact (hf.sep k (.inr hk)).2 hmem
      · exact (m5 k hk.1 hk.2).2 (.inl (hBF k (hF2 k z)))
end
end Go.Proofs.Ytlgpjjgkdpmidaa

namespace Go.Proofs.Ytlgpjjgkdpmidaa
open Go.ChangeShapes Go.WideShapes Go.ChangeAt Go.RowKit Go.Syn Go.Eng Go.MapKept
set_option linter.unusedVariables false
set_option linter.unusedSimpArgs false
set_option maxRecDepth 100000
def vsE : Int → List (Vo Vl) → Int
  | _, [] => 0
  | frm, x :: r => if x.s < frm ∨ x.s > 1099511627776 then 26 else if balB x.r x.n = false then 27 else if valE x.v ≠ 0 then valE x.v else vsE (x.s + 1) r
def chkVs (frm : Int) (vs : List (Vo Vl)) : Int := if vs.length > 64 then 26 else vsE frm vs
def proE (r n slot low : Int) (vs : List (Vo Vl)) : Int := if (1 ≤ slot ∧ slot ≤ 1099511627776) ∧ 0 ≤ low ∧ low ≤ 1099511627776 then if balB r n = true then chkVs slot vs else 27 else 26
def voC (x : Vo Pv) : List Value := [.int .i64 x.s, .int .i64 x.r, .int .i64 x.n, .int .i64 x.v.v.k, .slice x.v.a1 x.v.v.cs.length x.v.c1, .slice x.v.a2 x.v.v.ns.length x.v.c2]
def vocs (xs : List (Vo Pv)) : List Value := xs.flatMap voC
theorem voc_len (x : Vo Pv) : (voC x).length = 6 := rfl
def voX (a : Option Addr) (xs : List (Vo Pv)) : HX := (HX.cl a (vocs xs)).and (HX.all (xs.map fun x => x.v.hx))
def vlsOf (xs : List (Vo Pv)) : List (Vo Vl) := xs.map (Vo.map Pv.v)
section
variable {w : World} {a : Option Addr} {xs : List (Vo Pv)}
theorem voX_sep (h : (voX a xs).X w) : ∀ k, (voX a xs).F k → k < w.heap.size := fun k hk => by
  rcases hk with hk | ⟨y, hy, hk⟩
  · exact cl_sep h.1 k hk
  · obtain ⟨x, hx, rfl⟩ := List.mem_map.1 hy
    exact vlX_sep (h.2 _ hy) k hk
theorem voX_at (h : (voX a xs).X w) (hf : ∀ x ∈ xs, VlFit x.v.v) {x : Vo Pv} (hx : x ∈ xs) : VlAt w x.v.v x.v.a1 x.v.a2 := (hf x hx).at_ (h.2 _ (List.mem_map.2 ⟨x, hx, rfl⟩))
theorem vo_cells (h : (voX a xs).X w) {i : Nat} {x : Vo Pv} (hi : xs[i]? = some x) (us : List Value) (hu : us = voC x ∨ us = [.int .i64 x.s]) : a.isSome = true ∧ CellsAt w (.pointer (some (((a.getD ⟨0, 0, none⟩).add (i * 6)).add 0))) us (fun _ => False) := by
  obtain ⟨h1, h2⟩ := flat_part voc_len h.1 hi (o := 0) us (fun j u hj => by
    rw [Nat.zero_add]
    rcases hu with rfl | rfl
    · exact hj
    · cases j with
      | zero => exact hj
      | succ j => simp at hj) (by rcases hu with rfl | rfl <;> simp [voC])
  exact ⟨h1, h2 _ id⟩
def CvI (a : Option Addr) (xs : List (Vo Pv)) (f0 : Int) (vs : Vals) (hx : HX) (m : Nat) : Prop := ∃ (k : Nat) (f : Int), m = xs.length - k ∧ k ≤ xs.length ∧ -9223372036854775808 ≤ f ∧ vs = ⟨[f, (k : Int)], [], [], [], []⟩ ∧ vsE f (vlsOf (xs.drop k)) = vsE f0 (vlsOf xs) ∧ hx = voX a xs
theorem chkvs_any (cap : Nat) (f0 : Int) (w : World) (H : (voX a xs).X w) (hf : ∀ x ∈ xs, VlFit x.v.v) (h0 : -9223372036854775808 ≤ f0) : Calls Try.prog 59 #[.slice a xs.length cap, .int .i64 f0] w (PureAt w (.int .i64 (chkVs f0 (vlsOf xs)))) := by
  refine calls_at (tab_ok _) Try.func59 rfl tChkVs (ρ := ⟨[f0], [], [], [xs.length, cap], [a]⟩) (ids := []) (hx := voX a xs) rfl (Facts.initq rfl oneNil H (voX_sep H)) ?_
  have hl : (vlsOf xs).length = xs.length := List.length_map _
  refine br_D (p := (xs.length : Int) > 64) (by kernel_rfl) (fun h => pure_done fun _ => ?_) (fun h => ?_)
  · unfold chkVs; rw [if_pos (by omega)]; rfl
  have hc : chkVs f0 (vlsOf xs) = vsE f0 (vlsOf xs) := by unfold chkVs; rw [if_neg (by omega)]
  rw [hc]
  refine ⟨CvI a xs f0, fun ids w2 hp hf => ⟨_, xs.length, ⟨hf.x, hf.sep⟩, 0, f0, rfl, Nat.zero_le _, h0, rfl, by rw [List.drop_zero], rfl⟩, ?_⟩
  rintro vs hx' n hcnt ⟨k, f, rfl, hk, hf0, rfl, he, rfl⟩
  refine holds_env (ρ' := ⟨[f0, f, (k : Int)], [], [], [xs.length, cap], [a]⟩) rfl ?_
  refine br_D (p := (k : Int) < (xs.length : Int)) (by kernel_rfl) (fun hkl => ?_) (fun hkl => ?_)
  · have hkl : k < xs.length := by omega
    obtain ⟨x, hx⟩ : ∃ b, xs[k]? = some b := ⟨_, List.getElem?_eq_getElem hkl⟩
    have hd : xs.drop k = x :: xs.drop (k + 1) := by
      rw [List.drop_eq_getElem_cons hkl]
      rw [List.getElem?_eq_getElem hkl] at hx
      rw [Option.some.inj hx]
    have he2 : vsE f0 (vlsOf xs) = if x.s < f ∨ x.s > 1099511627776 then 26 else if balB x.r x.n = false then 27 else if valE x.v.v ≠ 0 then valE x.v.v else vsE (x.s + 1) (vlsOf (xs.drop (k + 1))) := by
      rw [← he, hd]; rfl
    obtain ⟨s1, q1⟩ := vo_cells H hx (voC x) (.inl rfl)
    refine need_k (a.isSome = true ∧ 0 ≤ (k : Int) ∧ (k : Int) < (xs.length : Int)) (by kernel_rfl) ⟨s1, by omega, by omega⟩ ?_
    refine node_ld0 (k := ⟨3, 0, 0, 2, 1⟩) ⟨[x.s, x.r, x.n, x.v.v.k], [], [], [x.v.v.cs.length, x.v.c1, x.v.v.ns.length, x.v.c2], [x.v.a1, x.v.a2]⟩ (.pointer (some (((a.getD ⟨0, 0, none⟩).add (k * 6)).add 0))) (voC x) (by intros; kernel_rfl) (by intros; kernel_rfl) q1 ⟨by kernel_rfl, oneNil⟩ (by kernel_rfl) oneNil ?_
    refine br_D (p := x.s < f) (by kernel_rfl) (fun h => pure_done fun _ => by rw [he2, if_pos (.inl h)]; rfl) (fun h1 => ?_)
    refine br_D (p := x.s > 1099511627776) (by kernel_rfl) (fun h => pure_done fun _ => by rw [he2, if_pos (.inr h)]; rfl) (fun h2 => ?_)
    rw [if_neg (by omega)] at he2
    refine node_PI ⟨[], [balB x.r x.n], [], [], []⟩ (fun _ => #[.agg #[.int .i64 x.r, .int .i64 x.n]]) (.bool (balB x.r x.n)) (by intros; kernel_rfl) (by intros; kernel_rfl) (by kernel_rfl) (by kernel_rfl) (by kernel_rfl) oneNil (fun ids w2 hp hf => valid_any x.r x.n w2) ?_
    refine br_B (!(balB x.r x.n)) (by kernel_rfl) (fun h => pure_done fun _ => by rw [he2, if_pos (by simpa using h)]; rfl) (fun h3 => ?_)
    rw [if_neg (by rw [show balB x.r x.n = true by simpa using h3]; decide)] at he2
    refine node_PI ⟨[valE x.v.v], [], [], [], []⟩ (fun _ => #[x.v.val]) (.int .i64 (valE x.v.v)) (by intros; kernel_rfl) (by intros; kernel_rfl) (by kernel_rfl) (by kernel_rfl) (by kernel_rfl) oneNil (fun ids w2 hp hf2 => vchk_any _ _ _ _ _ w2 (voX_at hf2.x hf (List.mem_of_getElem? hx))) ?_
    refine br_B (valE x.v.v != 0) (by kernel_rfl) (fun h => pure_done fun _ => by rw [he2, if_pos (by simpa using h)]; rfl) (fun h4 => ?_)
    rw [if_neg (by simpa using h4)] at he2
    have hwk : IntKind.i64.wrap ((k : Int) + 1) = ((k + 1 : Nat) : Int) := by rw [wrap_i64 (by omega)]; omega
    have hws : IntKind.i64.wrap (x.s + 1) = x.s + 1 := wrap_i64 (by omega)
    exact again_V ⟨[IntKind.i64.wrap (x.s + 1), IntKind.i64.wrap ((k : Int) + 1)], [], [], [], []⟩ rfl (by intros; kernel_rfl) _ (fun w2 ids hf => ⟨hf.x, hf.sep⟩) ⟨xs.length - (k + 1), by omega, k + 1, x.s + 1, rfl, by omega, by omega, by rw [hwk, hws], he2.symm, rfl⟩
  · refine pure_done fun _ => ?_
    rw [← he, List.drop_eq_nil_of_le (by omega)]; rfl
end
def proM (r n slot low : Int) (q : Value) : Value := .agg #[.int .i64 2, .int .i64 0, .int .i64 0, .int .i64 0, .int .i64 r, .int .i64 n, .int .i64 slot, .int .i64 low, .int .i64 0, .int .i64 0, .slice none 0 0, .slice none 0 0, q, .int .i64 0, .int .i64 0, .int .i64 0, .int .i64 0, .int .i64 0, .int .i64 0, .int .i64 0, .int .i64 0, .int .i64 0, .int .i64 0, .int .i64 0, .slice none 0 0]
def mgZ : Value := .agg #[.int .i64 0, .int .i64 0, .int .i64 0, .int .i64 0, .int .i64 0, .int .i64 0, .int .i64 0, .int .i64 0, .int .i64 0, .int .i64 0, .slice none 0 0, .slice none 0 0, .slice none 0 0, .int .i64 0, .int .i64 0, .int .i64 0, .int .i64 0, .int .i64 0, .int .i64 0, .int .i64 0, .int .i64 0, .int .i64 0, .int .i64 0, .int .i64 0, .slice none 0 0]
theorem mwithin_any (x lo hi : Int) (w : World) : Calls Try.prog 56 #[.int .i64 x, .int .i64 lo, .int .i64 hi] w (PureAt w (.bool (decide (lo ≤ x) && decide (x ≤ hi)))) := by
  refine calls_at (tab_ok _) Try.func56 rfl tWithin (ρ := ⟨[x, lo, hi], [], [], [], []⟩) (ids := []) rfl (Facts.initP rfl oneNil) ?_
  by_cases h : lo ≤ x
  · refine br_T (decide (lo ≤ x)) (by kernel_rfl) (decide_eq_true h) ?_
    rw [decide_eq_true h, Bool.true_and]
    exact pure_done (by intros; kernel_rfl)
  · refine br_F (decide (lo ≤ x)) (by kernel_rfl) (decide_eq_false h) ?_
    rw [decide_eq_false h, Bool.false_and]
    exact pure_done (by intros; kernel_rfl)
theorem mwithin_in {x lo hi : Int} (h : lo ≤ x ∧ x ≤ hi) (w : World) : Calls Try.prog 56 #[.int .i64 x, .int .i64 lo, .int .i64 hi] w (PureAt w (.bool true)) := by
  have := mwithin_any x lo hi w
  rw [decide_eq_true h.1, decide_eq_true h.2] at this
  exact this
theorem uses2_any (w : World) : Calls Try.prog 55 #[.int .i64 2] w (PureAt w (.int .i64 39)) := by
  refine calls_at (tab_ok _) Try.func55 rfl tUses2 (ρ := ⟨[], [], [], [], []⟩) (ids := []) rfl (Facts.initP rfl oneNil) (pure_done (by intros; kernel_rfl))
theorem bare2_any (r n slot low : Int) (a : Option Addr) (l c : Nat) (w : World) : Calls Try.prog 58 #[proM r n slot low (.slice a l c), .int .i64 39] w (PureAt w mgZ) := by
  refine calls_at (tab_ok _) Try.func58 rfl tBare2 (ρ := ⟨[r, n, slot, low], [], [], [l, c], [a]⟩) (ids := []) rfl (Facts.initP rfl oneNil) (pure_done (by intros; kernel_rfl))
theorem empty0_any (w : World) : Calls Try.prog 57 #[mgZ] w (PureAt w (.bool true)) := by
  refine calls_at (tab_ok _) Try.func57 rfl tEmpty0 (ρ := ⟨[], [], [], [], []⟩) (ids := []) rfl (Facts.initP rfl oneNil) ?_
  repeat' (first | exact pure_done (by intros; kernel_rfl) | refine br_t (by kernel_rfl) ?_ | refine br_f (by kernel_rfl) ?_)
theorem mchkP_any {a : Option Addr} {xs : List (Vo Pv)} (cap : Nat) (r n slot low : Int) (w : World) (H : (voX a xs).X w) (hf : ∀ x ∈ xs, VlFit x.v.v) : Calls Try.prog 39 #[proM r n slot low (.slice a xs.length cap)] w (PureAt w (.int .i64 (proE r n slot low (vlsOf xs)))) := by
  refine calls_at (tab_ok _) Try.func39 rfl tMChk2 (ρ := ⟨[r, n, slot, low], [], [], [xs.length, cap], [a]⟩) (ids := []) (hx := voX a xs) rfl (Facts.initq rfl oneNil H (voX_sep H)) ?_
  have bad : ∀ {m : Mem} {ρ : Env} {pre : List Nat} {hx : HX} {S : Stack}, ¬ ((1 ≤ slot ∧ slot ≤ 1099511627776) ∧ 0 ≤ low ∧ low ≤ 1099511627776) → (Tree.done (.lf (.int .i64 (.lit 26))) m).holds ⟨Try.prog, w, fun _ => False, PureAt w (.int .i64 (proE r n slot low (vlsOf xs)))⟩ ρ pre hx S := fun h => pure_done fun _ => by unfold proE; rw [if_neg h]; rfl
  refine node_PI ⟨[39], [], [], [], []⟩ (fun _ => #[.int .i64 2]) (.int .i64 39) (by intros; kernel_rfl) (by intros; kernel_rfl) (by kernel_rfl) (by kernel_rfl) (by kernel_rfl) oneNil (fun ids w2 hp hf => uses2_any w2) ?_
  refine ⟨fun vs hx => vs = ⟨[1], [], [], [], []⟩ ∧ hx = voX a xs, br_T true (by kernel_rfl) rfl (again_V ⟨[1], [], [], [], []⟩ rfl (by intros; kernel_rfl) _ (fun w2 ids hf => ⟨hf.x, hf.sep⟩) ⟨rfl, rfl⟩), ?_⟩
  rintro vs hx hcnt ⟨rfl, rfl⟩
  refine br_F false (by kernel_rfl) rfl ?_
  refine node_PI ⟨[], [true], [], [], []⟩ (fun _ => #[.int .i64 0, .int .i64 0, .int .i64 9]) (.bool true) (by intros; kernel_rfl) (by intros; kernel_rfl) (by kernel_rfl) (by kernel_rfl) (by kernel_rfl) oneNil (fun ids w2 hp hf => mwithin_in (by decide) w2) (br_F false (by kernel_rfl) rfl ?_)
  refine node_PI ⟨[], [true], [], [], []⟩ (fun _ => #[.int .i64 0, .int .i64 0, .int .i64 9]) (.bool true) (by intros; kernel_rfl) (by intros; kernel_rfl) (by kernel_rfl) (by kernel_rfl) (by kernel_rfl) oneNil (fun ids w2 hp hf => mwithin_in (by decide) w2) (br_F false (by kernel_rfl) rfl ?_)
  refine node_PI ⟨[], [true], [], [], []⟩ (fun _ => #[.int .i64 0, .int .i64 0, .int .i64 1099511627776]) (.bool true) (by intros; kernel_rfl) (by intros; kernel_rfl) (by kernel_rfl) (by kernel_rfl) (by kernel_rfl) oneNil (fun ids w2 hp hf => mwithin_in (by decide) w2) (br_F false (by kernel_rfl) rfl ?_)
  refine node_PI ⟨[0, 0, 0, 0, 0, 0, 0, 0, 0, 0, 0, 0, 0, 0, 0, 0, 0, 0, 0, 0, 0], [], [], [0, 0, 0, 0, 0, 0, 0, 0], [none, none, none, none]⟩ (fun _ => #[proM r n slot low (.slice a xs.length cap), .int .i64 39]) mgZ (by intros; kernel_rfl) (by intros; kernel_rfl) (by kernel_rfl) (by kernel_rfl) (by kernel_rfl) oneNil (fun ids w2 hp hf => bare2_any r n slot low a xs.length cap w2) ?_
  refine node_PI ⟨[], [true], [], [], []⟩ (fun _ => #[mgZ]) (.bool true) (by intros; kernel_rfl) (by intros; kernel_rfl) (by kernel_rfl) (by kernel_rfl) (by kernel_rfl) oneNil (fun ids w2 hp hf => empty0_any w2) ?_
  refine br_F false (by kernel_rfl) rfl ?_
  refine ⟨fun vs hx => vs = Vals.nil ∧ ((1 ≤ slot ∧ slot ≤ 1099511627776) ∧ 0 ≤ low ∧ low ≤ 1099511627776) ∧ hx = voX a xs, ?_, ?_⟩
  · refine br_T true (by kernel_rfl) rfl ?_
    refine node_PI ⟨[], [decide (1 ≤ slot) && decide (slot ≤ 1099511627776)], [], [], []⟩ (fun _ => #[.int .i64 slot, .int .i64 1, .int .i64 1099511627776]) (.bool (decide (1 ≤ slot) && decide (slot ≤ 1099511627776))) (by intros; kernel_rfl) (by intros; kernel_rfl) (by kernel_rfl) (by kernel_rfl) (by kernel_rfl) oneNil (fun ids w2 hp hf => mwithin_any slot 1 1099511627776 w2) ?_
    refine br_B (!(decide (1 ≤ slot) && decide (slot ≤ 1099511627776))) (by kernel_rfl) (fun h => bad fun q => ?_) (fun h1 => ?_)
    · rw [decide_eq_true q.1.1, decide_eq_true q.1.2] at h; cases h
    have h1 : 1 ≤ slot ∧ slot ≤ 1099511627776 := by simpa using h1
    refine node_PI ⟨[], [decide (0 ≤ low) && decide (low ≤ 1099511627776)], [], [], []⟩ (fun _ => #[.int .i64 low, .int .i64 0, .int .i64 1099511627776]) (.bool (decide (0 ≤ low) && decide (low ≤ 1099511627776))) (by intros; kernel_rfl) (by intros; kernel_rfl) (by kernel_rfl) (by kernel_rfl) (by kernel_rfl) oneNil (fun ids w2 hp hf => mwithin_any low 0 1099511627776 w2) ?_
    refine br_B (!(decide (0 ≤ low) && decide (low ≤ 1099511627776))) (by kernel_rfl) (fun h => bad fun q => ?_) (fun h2 => ?_)
    · rw [decide_eq_true q.2.1, decide_eq_true q.2.2] at h; cases h
    have h2 : 0 ≤ low ∧ low ≤ 1099511627776 := by simpa using h2
    refine node_PI ⟨[], [true], [], [], []⟩ (fun _ => #[.int .i64 0, .int .i64 0, .int .i64 1099511627776]) (.bool true) (by intros; kernel_rfl) (by intros; kernel_rfl) (by kernel_rfl) (by kernel_rfl) (by kernel_rfl) oneNil (fun ids w2 hp hf => mwithin_in (by decide) w2) (br_F false (by kernel_rfl) rfl ?_)
    exact again_V Vals.nil rfl (by intros; kernel_rfl) _ (fun w2 ids hf => ⟨hf.x, hf.sep⟩) ⟨rfl, ⟨h1, h2⟩, rfl⟩
  rintro vs hx hcnt2 ⟨rfl, hok, rfl⟩
  rw [Env.add_nil]
  have hp1 : proE r n slot low (vlsOf xs) = if balB r n = true then chkVs slot (vlsOf xs) else 27 := by unfold proE; rw [if_pos hok]
  rw [hp1]
  refine ⟨fun vs hx => vs = Vals.nil ∧ balB r n = true ∧ hx = voX a xs, ?_, ?_⟩
  · refine br_T true (by kernel_rfl) rfl ?_
    refine node_PI ⟨[], [balB r n], [], [], []⟩ (fun _ => #[.agg #[.int .i64 r, .int .i64 n]]) (.bool (balB r n)) (by intros; kernel_rfl) (by intros; kernel_rfl) (by kernel_rfl) (by kernel_rfl) (by kernel_rfl) oneNil (fun ids w2 hp hf => valid_any r n w2) ?_
    refine br_B (!(balB r n)) (by kernel_rfl) (fun h => pure_done fun _ => ?_) (fun h => ?_)
    · rw [if_neg (by rw [show balB r n = false by simpa using h]; decide)]; rfl
    · exact again_V Vals.nil rfl (by intros; kernel_rfl) _ (fun w2 ids hf => ⟨hf.x, hf.sep⟩) ⟨rfl, by simpa using h, rfl⟩
  rintro vs hx hcnt3 ⟨rfl, hb, rfl⟩
  rw [Env.add_nil, if_pos hb]
  refine br_F false (by kernel_rfl) rfl ?_
  refine br_T true (by kernel_rfl) rfl ?_
  refine node_PI ⟨[chkVs slot (vlsOf xs)], [], [], [], []⟩ (fun _ => #[.slice a xs.length cap, .int .i64 slot]) (.int .i64 (chkVs slot (vlsOf xs))) (by intros; kernel_rfl) (by intros; kernel_rfl) (by kernel_rfl) (by kernel_rfl) (by kernel_rfl) oneNil (fun ids w2 hp hf2 => chkvs_any cap slot w2 hf2.x hf (by omega)) ?_
  exact pure_done (by intros; kernel_rfl)
end Go.Proofs.Ytlgpjjgkdpmidaa

namespace Go.Eng
open Go.RowKit Go.Syn Go.MapKept Go.Proofs.Ytlgpjjgkdpmidaa
set_option linter.unusedVariables false
section
variable {α β : Type}
def balOf (o : Option (Vo α)) : Int × Int := match o with | some y => (y.r, y.n) | none => (0, 0)
def Pr.tell (D : Pr α) (s r n : Int) (v : α) : Pr α := if compareV r n (balOf (mlk D.best s)).1 (balOf (mlk D.best s)).2 > 0 then D.told s r n v else D
theorem map_tell (f : α → β) (D : Pr α) (s r n : Int) (v : α) : (D.tell s r n v).map f = (D.map f).tell s r n (f v) := by
  have h : balOf (mlk (D.map f).best s) = balOf (mlk D.best s) := by
    show balOf (mlk (mmap (Vo.map f) D.best) s) = _
    rw [mlk_map]
    cases mlk D.best s <;> rfl
  unfold Pr.tell
  rw [h]
  split
  · exact map_told f D s r n v
  · rfl
end
def Pr.hear (P : Pr Vl) (xs : List (Vo Vl)) : Pr Vl := xs.foldl (fun P x => P.tell x.s x.r x.n x.v) P
def Pr.promised (P : Pr Vl) (node : Int) (xs : List (Vo Vl)) : Pr Vl × Bool := if enoughB P.mem (P.said ++ [node]) = true then (((P.say node).hear xs).lead Vl.k vz, true) else ((P.say node).hear xs, false)
end Go.Eng
namespace Go.Proofs.Ytlgpjjgkdpmidaa
open Go.ChangeShapes Go.WideShapes Go.ChangeAt Go.RowKit Go.Syn Go.Eng Go.MapKept
set_option linter.unusedVariables false
set_option linter.unusedSimpArgs false
set_option maxRecDepth 100000
theorem all_cons (x : HX) (xs : List HX) : HX.all (x :: xs) = x.and (HX.all xs) := HX.ext (by
    funext k
    refine propext ⟨fun ⟨y, hy, hk⟩ => ?_, fun h => ?_⟩
    · rcases List.mem_cons.1 hy with rfl | hy
      · exact .inl hk
      · exact .inr ⟨y, hy, hk⟩
    · rcases h with hk | ⟨y, hy, hk⟩
      · exact ⟨x, .head _, hk⟩
      · exact ⟨y, .tail _ hy, hk⟩) (by
    funext w
    refine propext ⟨fun h => ⟨h x (.head _), fun y hy => h y (.tail _ hy)⟩, fun h y hy => ?_⟩
    rcases List.mem_cons.1 hy with rfl | hy
    · exact h.1
    · exact h.2 y hy)
theorem vo_cellsN {w : World} {a : Option Addr} {xs : List (Vo Pv)} (h : (voX a xs).X w) {i : Nat} {x : Vo Pv} (hi : xs[i]? = some x) (us : List Value) (hu : us = voC x ∨ us = [.int .i64 x.s]) (N : Nat → Prop) (hN : ∀ k, (voX a xs).F k → ¬ N k) : a.isSome = true ∧ CellsAt w (.pointer (some (((a.getD ⟨0, 0, none⟩).add (i * 6)).add 0))) us N := by
  obtain ⟨h1, h2⟩ := flat_part voc_len h.1 hi (o := 0) us (fun j u hj => by
    rw [Nat.zero_add]
    rcases hu with rfl | rfl
    · exact hj
    · cases j with
      | zero => exact hj
      | succ j => simp at hj) (by rcases hu with rfl | rfl <;> simp [voC])
  refine ⟨h1, h2 N (hN _ (.inl ⟨?_, ?_⟩))⟩
  · cases xs with
    | nil => simp at hi
    | cons y r => simp [vocs, voC]
  · cases a with
    | none => cases h1
    | some z => rfl
def PhI (w : World) (F : Nat → Prop) (av : Option Addr) (xs : List (Vo Pv)) (D1 : Pr Pv) (a1 : PA) (vs : Vals) (hx : HX) (m : Nat) : Prop := ∃ (k : Nat) (best : List (Int × Vo Pv)) (G : List HX), m = xs.length - k ∧ k ≤ xs.length ∧ vs = ⟨[(k : Int)], [], [], [], []⟩ ∧ POk { D1 with best := best } { a1 with G := G } ∧ ({ D1 with best := best } : Pr Pv).map Pv.v = (D1.map Pv.v).hear (vlsOf (xs.take k)) ∧ (∀ p ∈ best, D1.frm ≤ p.1 ∧ p.1 ≤ D1.frm + 63) ∧ (∀ k, (prX { D1 with best := best } { a1 with G := G }).F k → (w.heap.size ≤ k ∨ F k) ∧ ¬ (voX av xs).F k) ∧ hx = (voX av xs).and (prX { D1 with best := best } { a1 with G := G })
def PhJ (w : World) (F : Nat → Prop) (av : Option Addr) (xs : List (Vo Pv)) (D1 : Pr Pv) (a1 : PA) (k : Nat) (vs : Vals) (hx : HX) : Prop := ∃ (best : List (Int × Vo Pv)) (G : List HX), vs = Vals.nil ∧ POk { D1 with best := best } { a1 with G := G } ∧ ({ D1 with best := best } : Pr Pv).map Pv.v = (D1.map Pv.v).hear (vlsOf (xs.take k)) ∧ (∀ p ∈ best, D1.frm ≤ p.1 ∧ p.1 ≤ D1.frm + 63) ∧ (∀ k, (prX { D1 with best := best } { a1 with G := G }).F k → (w.heap.size ≤ k ∨ F k) ∧ ¬ (voX av xs).F k) ∧ hx = (voX av xs).and (prX { D1 with best := best } { a1 with G := G })
section
variable {w : World} {nb : Nat} {F : Nat → Prop} {P : Pr Vl} {av : Option Addr} {xs : List (Vo Pv)}
set_option maxHeartbeats 1600000 in
theorem promise_any (node low : Int) (cv : Nat) (H0 : (HX.obj F (PrO nb P)).X w) (hF : ∀ k, F k → k < w.heap.size) (HV : (voX av xs).X w) (hvF : ∀ k, (voX av xs).F k → ¬ F k) (hvf : ∀ x ∈ xs, VlFit x.v.v)
    (h0 : proE P.r P.n P.frm low (vlsOf xs) = 0) (h1 : P.phase = 1) (h2 : hasB P.mem node = true) (h3 : ∀ x ∈ xs, P.frm ≤ x.s ∧ x.s ≤ P.frm + 63) (h4 : low < P.frm) (h5 : 1 ≤ P.frm ∧ P.frm ≤ 1099511627776) (h6 : ∀ p ∈ P.best, P.frm ≤ p.1 ∧ p.1 ≤ P.frm + 63) (h7 : P.said.length ≤ 1000 ∧ P.fresh.length ≤ 1000 ∧ P.mem.length ≤ 9) (h8 : (∀ x ∈ P.said, I64 x) ∧ I64 node) (hxl : xs.length ≤ 64) :
    Calls Try.prog 13 #[.pointer (some ⟨nb, 0, none⟩), .int .i64 node, proM P.r P.n P.frm low (.slice av xs.length cv)] w (PrMut w F nb (P.promised node (vlsOf xs)).1 (.tuple #[.bool (P.promised node (vlsOf xs)).2, .int .i64 0])) := by
  obtain ⟨D, a, hP, hok, hnb, hB, hX, Fnb, hsub⟩ := pobj_open H0
  subst hP
  have h1 : D.phase = 1 := h1
  have h3 : ∀ x ∈ xs, D.frm ≤ x.s ∧ x.s ≤ D.frm + 63 := h3
  have h4 : low < D.frm := h4
  have h5 : 1 ≤ D.frm ∧ D.frm ≤ 1099511627776 := h5
  have h7 : D.said.length ≤ 1000 ∧ D.fresh.length ≤ 1000 ∧ D.mem.length ≤ 9 := h7
  have h8 : (∀ x ∈ D.said, I64 x) ∧ I64 node := h8
  have h2 : hasB D.mem node = true := h2
  have h6 : ∀ p ∈ D.best, D.frm ≤ p.1 ∧ p.1 ≤ D.frm + 63 := fun p hp => h6 (p.1, Vo.map Pv.v p.2) (List.mem_map.2 ⟨p, hp, rfl⟩)
  have hmX : ∀ {w}, (prX D a).X w → Ints w a.am D.mem := fun h => h.1.1.1.1.1 _ hok.gm
  have hsep : ∀ k, ((voX av xs).and (prX D a)).F k → k < w.heap.size ∧ k ≠ nb := fun k hk => hk.elim (fun q => ⟨voX_sep HV k q, fun e => hvF k q (e ▸ Fnb)⟩) (fun q => ⟨hF k (hsub k q), fun e => hnb (e ▸ q)⟩)
  refine calls_at (tab_ok _) Try.func13 rfl tPProm (ρ := ⟨[D.me, D.window, D.phase, D.r, D.n, D.frm, D.next, node, D.r, D.n, D.frm, low], [D.stop], [.map (some a.bb), .map (some a.bo)], [D.mem.length, a.cm, D.said.length, a.cs, D.fresh.length, a.cf, D.queue.length, a.cq, xs.length, cv], [a.am, a.as_, a.af, a.aq, av]⟩) (ids := [nb]) (hx := (voX av xs).and (prX D a)) rfl (Facts.initx (M := F) rfl (fun v hv => by simp only [List.mem_cons, List.not_mem_nil, or_false] at hv; rcases hv with rfl | rfl <;> rfl) hB rfl Fnb ⟨HV, hX⟩ hsep) ?_
  refine node_PI ⟨[0], [], [], [], []⟩ (fun _ => #[proM D.r D.n D.frm low (.slice av xs.length cv)]) (.int .i64 0) (by intros; kernel_rfl) (by intros; kernel_rfl) (by kernel_rfl) (by kernel_rfl) (by kernel_rfl) oneNil (fun ids w2 hp hf => ?_) ?_
  · have := mchkP_any cv D.r D.n D.frm low w2 hf.x.1 hvf
    rw [show proE D.r D.n D.frm low (vlsOf xs) = 0 from h0] at this; exact this
  refine br_F false (by kernel_rfl) rfl ?_
  refine br_F (D.phase != 1) (by kernel_rfl) (by rw [h1]; rfl) ?_
  refine br_F (!(D.r == D.r && D.n == D.n)) (by kernel_rfl) (by simp) ?_
  refine br_F (D.frm != D.frm) (by kernel_rfl) (by simp) ?_
  refine node_PI ⟨[], [true], [], [], []⟩ (fun _ => #[.slice a.am D.mem.length a.cm, .int .i64 node]) (.bool true) (by intros; kernel_rfl) (by intros; kernel_rfl) (by kernel_rfl) (by kernel_rfl) (by kernel_rfl) oneNil (fun ids w2 hp hf => ?_) ?_
  · have := has_any a.am a.cm D.mem node w2 (hmX hf.x.2)
    rw [h2] at this; exact pure_same this
  refine br_F false (by kernel_rfl) rfl ?_
  refine br_D (p := (xs.length : Int) > 0) (by kernel_rfl) (fun hpos => ?x) (fun hpos => ?y)
  case' x =>
    have hw0 : IntKind.i64.wrap ((xs.length : Int) - 1) = ((xs.length - 1 : Nat) : Int) := by rw [wrap_i64 (by omega)]; omega
    obtain ⟨xl, hxl2⟩ : ∃ b, xs[xs.length - 1]? = some b := ⟨_, List.getElem?_eq_getElem (by omega)⟩
    have hxlm := h3 xl (List.mem_of_getElem? hxl2)
    obtain ⟨s1, q1⟩ := vo_cellsN HV hxl2 [.int .i64 xl.s] (.inr rfl) F hvF
    refine need_k (av.isSome = true ∧ 0 ≤ IntKind.i64.wrap ((xs.length : Int) - 1) ∧ IntKind.i64.wrap ((xs.length : Int) - 1) < (xs.length : Int)) (by kernel_rfl) ⟨s1, by omega, by omega⟩ ?_
    refine node_ld0 (k := ⟨13, 2, 2, 10, 5⟩) ⟨[xl.s], [], [], [], []⟩ (.pointer (some (((av.getD ⟨0, 0, none⟩).add ((IntKind.i64.wrap ((xs.length : Int) - 1)).toNat * 6)).add 0))) [.int .i64 xl.s] (by intros; kernel_rfl) (by intros; kernel_rfl) (by rw [hw0, Int.toNat_natCast]; exact q1) ⟨by kernel_rfl, (fun v hv => by have hv : v ∈ [Value.map (some a.bb), Value.map (some a.bo)] := hv; simp only [List.mem_cons, List.not_mem_nil, or_false] at hv; rcases hv with rfl | rfl <;> rfl)⟩ (by kernel_rfl) oneNil ?_
    have hws : IntKind.i64.wrap (xl.s - D.frm) = xl.s - D.frm := wrap_i64 (by omega)
    refine br_D (p := IntKind.i64.wrap (xl.s - D.frm) ≥ 64) (by kernel_rfl) (fun h => absurd h (by rw [hws]; omega)) (fun _ => ?_)
  all_goals
    refine br_D (p := low ≥ D.frm) (by kernel_rfl) (fun h => absurd h (by omega)) (fun _ => ?_)
    obtain ⟨R, eR⟩ : ∃ R, R = (((((voX av xs).and (HX.all a.G)).and (HX.vmap a.bb (mmap voV D.best))).and (HX.vmap a.bo (mmap Pv.val D.out))).and (irow a.af a.cf D.fresh)).and (qrow a.aq a.cq D.queue) := ⟨_, rfl⟩
    have e1 : (voX av xs).and (prX D a) = R.and (irow a.as_ a.cs D.said) := by rw [eR]; unfold prX; ac_rfl
    refine holds_eq e1 ?_
    refine node_pushs (e := 3) (sz := 1) rfl Try.underlying26 info_int1 rfl (by decide) a.as_ D.said.length a.cs (D.said.map (Value.int .i64)) [.int .i64 node] 2 (by intros; kernel_rfl) (by intros; kernel_rfl) rfl (by intros; kernel_rfl) rfl (fun v hv => by simp only [List.mem_singleton] at hv; subst hv; rfl) (fun k q1 q2 => ?_) (fun k q1 q2 => .inr (hsub k (pcs_F (b := irow a.as_ a.cs D.said) (by simp [pcs]) ⟨q1, q2⟩))) (by unfold maxLen; omega) (by omega) (by intros; kernel_rfl) (by kernel_rfl) (by kernel_rfl) (by intros; kernel_rfl) ?_
    · have hk : (irow a.as_ a.cs D.said).F k := ⟨q1, q2⟩
      have hkX : (prX D a).F k := pcs_F (b := irow a.as_ a.cs D.said) (by simp [pcs]) hk
      rw [eR]
      rintro (((((q | q) | q) | q) | q) | q)
      · exact hvF k q (hsub k hkX)
      · exact dj_at hok.dj (i := 3) rfl hk 0 rfl (by decide) q
      · exact dj_at hok.dj (i := 3) rfl hk 1 rfl (by decide) q
      · exact dj_at hok.dj (i := 3) rfl hk 2 rfl (by decide) q
      · exact dj_at hok.dj (i := 3) rfl hk 4 rfl (by decide) q
      · exact dj_at hok.dj (i := 3) rfl hk 5 rfl (by decide) q
    intro as' cs' hc' hr' hor'
    obtain ⟨D1, eD1⟩ : ∃ D1, D1 = D.say node := ⟨_, rfl⟩
    obtain ⟨a1, ea1⟩ : ∃ a1 : PA, a1 = { a with as_ := as', cs := cs' } := ⟨_, rfl⟩
    have hrow : HX.rw 1 3 as' (D.said.length + 1) cs' (D.said.map (Value.int .i64) ++ [.int .i64 node]) = irow as' cs' (D.said ++ [node]) := by
      unfold irow; rw [List.length_append, List.map_append]; rfl
    have hFr : ∀ k, (irow as' cs' (D.said ++ [node])).F k → (irow a.as_ a.cs D.said).F k ∨ (w.heap.size ≤ k ∧ ¬ (R.and (irow a.as_ a.cs D.said)).F k) := fun k hk => by
      rcases hor' with ⟨r1, r2⟩ | ⟨g, r1, r2, r3⟩
      · exact .inl ⟨r1, by rw [← r2]; exact hk.2⟩
      · have : g = k := Option.some.inj (r1.symm.trans hk.2)
        subst this
        exact .inr ⟨r2, r3⟩
    have hok1 : POk D1 a1 := by
      rw [eD1, ea1]
      refine ⟨hok.gm, hok.gz, hok.gb, hok.go, hok.gq, hok.dj.set (i := 3) (a' := irow as' cs' (D.said ++ [node])) rfl fun k hk => (hFr k hk).imp id fun q b hb z => q.2 ?_⟩
      rw [← e1]; exact .inr (pcs_F hb z)
    have e2 : R.and (HX.rw 1 3 as' (D.said.length + 1) cs' (D.said.map (Value.int .i64) ++ [.int .i64 node])) = (voX av xs).and (prX D1 a1) := by
      rw [hrow, eR, eD1, ea1]; unfold prX Pr.say; dsimp only; ac_rfl
    have hF1 : ∀ k, (prX D1 a1).F k → (w.heap.size ≤ k ∨ F k) ∧ ¬ (voX av xs).F k := fun k hk => by
      have key : (prX D a).F k ∨ (w.heap.size ≤ k ∧ ¬ (R.and (irow a.as_ a.cs D.said)).F k) := by
        rw [eD1, ea1] at hk
        rcases hk with ((((hk | hk) | hk) | hk) | hk) | hk
        · exact .inl (.inl (.inl (.inl (.inl (.inl hk)))))
        · exact .inl (.inl (.inl (.inl (.inl (.inr hk)))))
        · exact .inl (.inl (.inl (.inl (.inr hk))))
        · exact (hFr k hk).imp (fun q => .inl (.inl (.inr q))) id
        · exact .inl (.inl (.inr hk))
        · exact .inl (.inr hk)
      rcases key with q | q
      · exact ⟨.inr (hsub k q), fun z => hvF k z (hsub k q)⟩
      · exact ⟨.inl q.1, fun z => q.2 (by rw [← e1]; exact .inl z)⟩
    refine holds_eq e2 ?_
    refine ⟨PhI w F av xs D1 a1, fun ids w2 hp hf => ⟨_, xs.length, ⟨hf.x, hf.sep⟩, 0, D1.best, a1.G, rfl, Nat.zero_le _, by kernel_rfl, hok1, rfl, by rw [eD1]; exact h6, hF1, rfl⟩, ?_⟩
    rintro vs hx' n hcnt ⟨k, best, G, rfl, hk, rfl, hokc, hmap, hbr, hown, rfl⟩
    have hfrm : D1.frm = D.frm := by rw [eD1]; rfl
    have cells : ∀ (best : List (Int × Vo Pv)) (G : List HX), prC { D1 with best := best } { a1 with G := G } = [.int .i64 D.me, .slice a.am D.mem.length a.cm, .int .i64 D.window, .int .i64 D.phase, .int .i64 D.r, .int .i64 D.n, .int .i64 D.frm, .slice as' (D.said.length + 1) cs', .map (some a.bb), .int .i64 D.next, .map (some a.bo), .slice a.af D.fresh.length a.cf, .slice a.aq D.queue.length a.cq, .bool D.stop] := fun best G => by
      rw [eD1, ea1]
      unfold prC Pr.say
      dsimp only
      rw [List.length_append]; rfl
    refine br_D (p := (k : Int) < (xs.length : Int)) (by kernel_rfl) (fun hkl => ?_) (fun hkl => ?_)
    · obtain ⟨x, hx⟩ : ∃ b, xs[k]? = some b := ⟨_, List.getElem?_eq_getElem (by omega)⟩
      have hxr := h3 x (List.mem_of_getElem? hx)
      have htk : vlsOf (xs.take (k + 1)) = vlsOf (xs.take k) ++ [Vo.map Pv.v x] := by
        unfold vlsOf
        rw [List.take_add_one, hx, List.map_append]; rfl
      obtain ⟨s1, q1⟩ := vo_cellsN HV hx (voC x) (.inl rfl) F hvF
      obtain ⟨y, ey⟩ : ∃ y : Vo Pv, y = (mlk best x.s).getD ⟨0, 0, 0, pz⟩ := ⟨_, rfl⟩
      have hbal : balOf (mlk best x.s) = (y.r, y.n) := by
        rw [ey]
        cases mlk best x.s <;> rfl
      have hmap' : ∀ best' : List (Int × Vo Pv), ({ D1 with best := best' } : Pr Pv) = ({ D1 with best := best } : Pr Pv).tell x.s x.r x.n x.v ∨ (∃ p : Pv, p.v = x.v.v ∧ ({ D1 with best := best' } : Pr Pv) = ({ D1 with best := best } : Pr Pv).tell x.s x.r x.n p) → ({ D1 with best := best' } : Pr Pv).map Pv.v = (D1.map Pv.v).hear (vlsOf (xs.take (k + 1))) := fun best' h => by
        rw [htk]
        unfold Pr.hear at hmap ⊢
        rw [List.foldl_append, ← hmap]
        rcases h with h | ⟨p, hp, h⟩
        · rw [h, map_tell]; rfl
        · rw [h, map_tell, hp]; rfl
      refine ⟨PhJ w F av xs D1 a1 (k + 1), ?_, ?_⟩
      · refine need_k (av.isSome = true ∧ 0 ≤ (k : Int) ∧ (k : Int) < (xs.length : Int)) (by kernel_rfl) ⟨s1, by omega, by omega⟩ ?_
        refine node_ld0 ⟨[x.s, x.r, x.n, x.v.v.k], [], [], [x.v.v.cs.length, x.v.c1, x.v.v.ns.length, x.v.c2], [x.v.a1, x.v.a2]⟩ (.pointer (some (((av.getD ⟨0, 0, none⟩).add (k * 6)).add 0))) (voC x) (by intros; kernel_rfl) (by intros; kernel_rfl) q1 ⟨rfl, (fun v hv => by have hv : v ∈ [Value.map (some a.bb), Value.map (some a.bo)] := hv; simp only [List.mem_cons, List.not_mem_nil, or_false] at hv; rcases hv with rfl | rfl <;> rfl)⟩ (by kernel_rfl) oneNil ?_
        refine node_vlook1 (z := voV ⟨0, 0, 0, pz⟩) (mt := 74) (kt := 3) (et := 49) ⟨[y.s, y.r, y.n, y.v.v.k], [], [], [y.v.v.cs.length, y.v.c1, y.v.v.ns.length, y.v.c2], [y.v.a1, y.v.a2]⟩ a.bb (mmap voV best) x.s (fun w h => by have := h.2.1.1.1.1.2; rw [ea1] at this; exact this) (by intros; kernel_rfl) (by intros; kernel_rfl) Try.underlying74 Try.underlying3 (fun w => by kernel_rfl) (fun ids => ?_) (by kernel_rfl) (by kernel_rfl) (by kernel_rfl) oneNil ?_
        · have : (vlk (mmap voV best) x.s).getD (voV ⟨0, 0, 0, pz⟩) = voV y := by
            rw [vlk_is, mlk_map, ey]
            cases mlk best x.s <;> rfl
          exact Eq.trans (b := voV y) (by kernel_rfl) this.symm
        refine node_PI ⟨[compareV x.r x.n y.r y.n], [], [], [], []⟩ (fun _ => #[.agg #[.int .i64 x.r, .int .i64 x.n], .agg #[.int .i64 y.r, .int .i64 y.n]]) (.int .i64 (compareV x.r x.n y.r y.n)) (by intros; kernel_rfl) (by intros; kernel_rfl) (by kernel_rfl) (by kernel_rfl) (by kernel_rfl) oneNil (fun ids w2 hp hf => compare_any x.r x.n y.r y.n w2) ?_
        refine br_D (p := compareV x.r x.n y.r y.n > 0) (by kernel_rfl) (fun hgt => ?_) (fun hgt => ?_)
        · refine node_vl (V := id) (v := x.v.v) (fun _ => #[x.v.val]) (fun b1 d1 b2 d2 => ⟨[x.v.v.k], [], [], [x.v.v.cs.length, d1, x.v.v.ns.length, d2], [b1, b2]⟩) (by intros; kernel_rfl) (fun ids w2 hp hf => vclone_any _ _ _ _ _ w2 (voX_at hf.x.1 hvf (List.mem_of_getElem? hx))) (by intros; kernel_rfl) (by kernel_rfl) (by kernel_rfl) (by intros; kernel_rfl) (fun _ _ _ _ => oneNil) ?_
          intro b1 d1 b2 d2 hfr
          obtain ⟨p, ep⟩ : ∃ p : Pv, p = ⟨x.v.v, b1, d1, b2, d2⟩ := ⟨_, rfl⟩
          have epx : vlX x.v.v b1 b2 = p.hx := by rw [ep]; rfl
          rw [epx] at hfr ⊢
          obtain ⟨Q, eQ⟩ : ∃ Q, Q = ((((((voX av xs).and p.hx).and (HX.all G)).and (HX.vmap a1.bo (mmap Pv.val D1.out))).and (irow a1.as_ a1.cs D1.said)).and (irow a1.af a1.cf D1.fresh)).and (qrow a1.aq a1.cq D1.queue) := ⟨_, rfl⟩
          have e3 : ((voX av xs).and (prX { D1 with best := best } { a1 with G := G })).and p.hx = Q.and (HX.vmap a1.bb (mmap voV best)) := by rw [eQ]; unfold prX; dsimp only; ac_rfl
          refine holds_eq e3 ?_
          have hbbF : (prX { D1 with best := best } { a1 with G := G }).F a1.bb := .inl (.inl (.inl (.inl (.inr rfl))))
          refine node_vput (mt := 74) (kt := 3) (et := 49) a1.bb (mmap voV best) x.s (voV ⟨x.s, x.r, x.n, p⟩) (hown _ hbbF).1 ?_ (fun ids => by rw [ea1]; kernel_rfl) (by intros; kernel_rfl) (fun ids => by rw [ep]; kernel_rfl) Try.underlying74 Try.underlying3 (by kernel_rfl) (by kernel_rfl) (by kernel_rfl) ?_
          · rw [eQ]
            rintro ((((((q | q) | q) | q) | q) | q) | q)
            · exact (hown _ hbbF).2 q
            · exact (hfr _ q).2 (.inr hbbF)
            · exact dj_at hokc.dj (i := 1) rfl (k := a1.bb) rfl 0 rfl (by decide) q
            · exact dj_at hokc.dj (i := 1) rfl (k := a1.bb) rfl 2 rfl (by decide) q
            · exact dj_at hokc.dj (i := 1) rfl (k := a1.bb) rfl 3 rfl (by decide) q
            · exact dj_at hokc.dj (i := 1) rfl (k := a1.bb) rfl 4 rfl (by decide) q
            · exact dj_at hokc.dj (i := 1) rfl (k := a1.bb) rfl 5 rfl (by decide) q
          rw [vput_is, mput_map]
          obtain ⟨best', eb⟩ : ∃ best', best' = mput best x.s ⟨x.s, x.r, x.n, p⟩ := ⟨_, rfl⟩
          rw [← eb]
          have e4 : Q.and (HX.vmap a1.bb (mmap voV best')) = (voX av xs).and (prX { D1 with best := best' } { a1 with G := p.hx :: G }) := by rw [eQ]; unfold prX; dsimp only; rw [all_cons]; ac_rfl
          refine holds_eq e4 ?_
          have hG : ∀ q, (HX.all (p.hx :: G)).F q → (HX.all G).F q ∨ p.hx.F q := fun q ⟨z, hz, hq⟩ => by
            rcases List.mem_cons.1 hz with rfl | hz
            · exact .inr hq
            · exact .inl ⟨z, hz, hq⟩
          refine again_V Vals.nil rfl (by intros; kernel_rfl) _ (fun w2 ids hf => ⟨hf.x, hf.sep⟩) ⟨best', p.hx :: G, rfl, ⟨.tail _ hokc.gm, .tail _ hokc.gz, fun q hq => ?_, fun q hq => ⟨.tail _ (hokc.go q hq).1, (hokc.go q hq).2⟩, fun q hq => ⟨.tail _ (hokc.gq q hq).1, (hokc.gq q hq).2⟩, ?_⟩, hmap' best' (.inr ⟨p, by rw [ep], ?_⟩), fun q hq => ?_, fun q hq => ?_, rfl⟩
          · have hq : q ∈ best' := hq
            rw [eb] at hq
            rcases mput_mem hq with rfl | hq
            · exact ⟨.head _, by rw [ep]; exact hvf x (List.mem_of_getElem? hx)⟩
            · exact ⟨.tail _ (hokc.gb q hq.1).1, (hokc.gb q hq.1).2⟩
          · have d1 := hokc.dj.set (i := 1) (a' := HX.vmap a1.bb (mmap voV best')) rfl fun q hq => .inl hq
            refine d1.set (i := 0) (a' := HX.all (p.hx :: G)) rfl fun q hq => (hG q hq).imp id fun z c hc hcq => (hfr q z).2 (.inr ?_)
            simp only [pcs, List.set_cons_succ, List.set_cons_zero, List.mem_cons, List.not_mem_nil, or_false] at hc
            rcases hc with rfl | rfl | rfl | rfl | rfl | rfl
            · exact .inl (.inl (.inl (.inl (.inl hcq))))
            · exact .inl (.inl (.inl (.inl (.inr hcq))))
            · exact .inl (.inl (.inl (.inr hcq)))
            · exact .inl (.inl (.inr hcq))
            · exact .inl (.inr hcq)
            · exact .inr hcq
          · unfold Pr.tell
            show _ = if compareV x.r x.n (balOf (mlk best x.s)).1 (balOf (mlk best x.s)).2 > 0 then _ else _
            rw [hbal, if_pos hgt, eb]; rfl
          · rw [eb] at hq
            rcases mput_mem hq with rfl | hq
            · rw [hfrm]; exact hxr
            · exact hbr q hq.1
          · rcases hq with ((((hq | hq) | hq) | hq) | hq) | hq
            · rcases hG q hq with z | z
              · exact hown q (.inl (.inl (.inl (.inl (.inl z)))))
              · exact ⟨.inl (hfr q z).1, fun t => (hfr q z).2 (.inl t)⟩
            · exact hown q (.inl (.inl (.inl (.inl (.inr hq)))))
            · exact hown q (.inl (.inl (.inl (.inr hq))))
            · exact hown q (.inl (.inl (.inr hq)))
            · exact hown q (.inl (.inr hq))
            · exact hown q (.inr hq)
        · refine again_V Vals.nil rfl (by intros; kernel_rfl) _ (fun w2 ids hf => ⟨hf.x, hf.sep⟩) ⟨best, G, rfl, hokc, hmap' best (.inl ?_), hbr, hown, rfl⟩
          unfold Pr.tell
          show _ = if compareV x.r x.n (balOf (mlk best x.s)).1 (balOf (mlk best x.s)).2 > 0 then _ else _
          rw [hbal, if_neg hgt]
      · rintro vs hx' hcnt2 ⟨best', G', rfl, hokc', hmapc, hbr', hown', rfl⟩
        rw [Env.add_nil]
        have hwk : IntKind.i64.wrap ((k : Int) + 1) = ((k + 1 : Nat) : Int) := by rw [wrap_i64 (by omega)]; omega
        exact again_V ⟨[IntKind.i64.wrap ((k : Int) + 1)], [], [], [], []⟩ rfl (by intros; kernel_rfl) _ (fun w2 ids hf => ⟨hf.x, hf.sep⟩) ⟨xs.length - (k + 1), by omega, k + 1, best', G', rfl, by omega, by rw [hwk], hokc', hmapc, hbr', hown', rfl⟩
    · have hks : xs.take k = xs := List.take_of_length_le (by omega)
      rw [hks] at hmap
      have hsm : D1.map Pv.v = (D.map Pv.v).say node := by rw [eD1]; rfl
      rw [hsm] at hmap
      refine node_PI ⟨[], [enoughB D.mem (D.said ++ [node])], [], [], []⟩ (fun _ => #[.slice a.am D.mem.length a.cm, .slice as' (D.said.length + 1) cs']) (.bool (enoughB D.mem (D.said ++ [node]))) (by intros; kernel_rfl) (by intros; kernel_rfl) (by kernel_rfl) (by kernel_rfl) (by kernel_rfl) oneNil (fun ids w2 hp hf => ?_) ?_
      · have hx2 := hf.x.2
        rw [eD1, ea1] at hx2 hokc
        have hI1 : Ints w2 a.am D.mem := hx2.1.1.1.1.1 _ hokc.gm
        have hI2 : Ints w2 as' (D.said ++ [node]) := Ints.of_cells (by rw [List.length_append]; simp only [List.length_cons, List.length_nil]; omega) (fun z hz => (List.mem_append.1 hz).elim (h8.1 z) fun q => by rw [List.mem_singleton.1 q]; exact h8.2) (rw_cells hx2.1.1.2)
        have := enough_any a.am a.cm D.mem as' cs' (D.said ++ [node]) w2 hI1 hI2
        rw [List.length_append] at this
        exact pure_same this
      have hpr : (D.map Pv.v).promised node (vlsOf xs) = if enoughB D.mem (D.said ++ [node]) = true then ((((D.map Pv.v).say node).hear (vlsOf xs)).lead Vl.k vz, true) else (((D.map Pv.v).say node).hear (vlsOf xs), false) := rfl
      refine br_B (!(enoughB D.mem (D.said ++ [node]))) (by kernel_rfl) (fun h => ?_) (fun h => ?_)
      · rw [hpr, if_neg (by rw [show enoughB D.mem (D.said ++ [node]) = false by simpa using h]; decide)]
        exact pr_done (D' := { D1 with best := best }) (a' := { a1 with G := G }) hmap hokc (fun w h => h.2) (fun k hk => .inr hk) (fun k hk => (hown k hk).1.symm) Fnb (fun ids => by rw [cells]; kernel_rfl) (by intros; kernel_rfl)
      · rw [hpr, if_pos (by simpa using h)]
        refine node_pset (D := { D1 with best := best }) (D' := ({ D1 with best := best } : Pr Pv).lead kdP pz) (a := { a1 with G := G }) (fun ids => #[.pointer (some ⟨idAt ids 0, 0, none⟩)]) rfl rfl (by intros; kernel_rfl) (fun ids => by rw [cells]; kernel_rfl) (fun ids w2 hp hf hb hn hs => lead_any hb hf.x.2 hokc hn hs (by show 1 ≤ D1.frm ∧ _; rw [hfrm]; exact h5) hbr (by show D1.fresh.length ≤ 1000; rw [eD1]; exact h7.2.1)) (by intros; kernel_rfl) (by intros; kernel_rfl) (fun k hk => ⟨(hown k hk).2, (hown k hk).1⟩) (by kernel_rfl) (by intros; kernel_rfl) ?_
        intro a2 hok2 hdis
        refine pr_done (D' := ({ D1 with best := best } : Pr Pv).lead kdP pz) (a' := a2) ?_ hok2 (fun w h => h.2) (fun k hk => .inr hk) (fun k hk => (hdis k hk).2.symm) Fnb (by intros; kernel_rfl) (by intros; kernel_rfl)
        rw [show (kdP : Pv → Int) = fun x => Vl.k (Pv.v x) from rfl, map_lead Pv.v Vl.k, hmap]; rfl
end
end Go.Proofs.Ytlgpjjgkdpmidaa

namespace Go.Proofs.Ytlgpjjgkdpmidaa
open Go.ChangeShapes Go.WideShapes Go.ChangeAt Go.RowKit Go.Syn Go.Eng Go.MapKept
set_option linter.unusedVariables false
set_option linter.unusedSimpArgs false
set_option maxRecDepth 100000
def prP (F : Nat → Prop) (nb : Nat) (P : Pr Vl) : HX := HX.obj F (PrO nb P)
def OwnF (W : World) (M : Nat → Prop) (rest : HX) (F : Nat → Prop) : Prop := ∀ k, F k → ¬ rest.F k ∧ (W.heap.size ≤ k ∨ M k)
section
variable {W : World} {M : Nat → Prop} {RR : Ending → World → Prop} {ρ : Env} {pre : List Nat} {rest hx : HX} {S : Stack} {m m' : Mem} {args : List SV} {r : SV} {t : Tree} {F : Nat → Prop} {nb : Nat} {P : Pr Vl}
theorem node_pnew (me window : Int) (a : List Nat → Option Addr) (cap : Nat) (mem : List Int) (hargs : ∀ ids, (args.map (SV.den ρ ids)).toArray = #[.int .i64 me, .slice (a ids) mem.length cap, .int .i64 window]) (hat : ∀ ids w, pre <+: ids → Facts ⟨Try.prog, W, M, RR⟩ m ρ ids hx w → Ints w (a ids) mem) (hok : setOkB mem = true ∧ hasB mem me = true)
    (hr : ∀ v ids, r.den (ρ.add ⟨[], [], [v], [], []⟩) ids = v) (hhp : m'.hp = m.hp) (hfit : hpFits m.c m.hp.length m.hp = true) (hc : ∀ v, (ρ.add ⟨[], [], [v], [], []⟩).cnt = m'.c)
    (h : ∀ nb F, OwnF W M hx F → t.holds ⟨Try.prog, W, M, RR⟩ (ρ.add ⟨[], [], [.pointer (some ⟨nb, 0, none⟩)], [], []⟩) pre (hx.and (prP F nb (Pr.new me window mem))) S) : (Tree.call 8 args m r m' t).holds ⟨Try.prog, W, M, RR⟩ ρ pre hx S := by
  refine node_out (fun ids => #[.int .i64 me, .slice (a ids) mem.length cap, .int .i64 window]) (fun vs h' => ∃ nb F, vs = ⟨[], [], [.pointer (some ⟨nb, 0, none⟩)], [], []⟩ ∧ h' = prP F nb (Pr.new me window mem)) hargs (fun ids w hp hf => ?_) hhp hfit ?_ ?_
  · refine (pnew_any me window (a ids) cap mem w (hat ids w hp hf) hok).mono ?_
    rintro e w' ⟨nb, F', rfl, h1, h2, h3⟩
    exact ⟨_, _, ⟨nb, F', rfl, rfl⟩, by rw [hr], h1, h2, h3⟩
  · rintro vs h' ⟨nb, F', rfl, rfl⟩
    exact ⟨hc _, fun v hv => by simp only [List.mem_singleton] at hv; subst hv; rfl⟩
  · rintro vs h' ⟨nb, F', rfl, rfl⟩ hfr
    exact h nb F' fun k hk => ⟨(hfr k hk).2, .inl (hfr k hk).1⟩
theorem node_pmut {f : Nat} {P' : Pr Vl} {V : Value} (vs : Vals) (AS : List Nat → Array Value) (hown : OwnF W M rest F) (hargs : ∀ ids, (args.map (SV.den ρ ids)).toArray = AS ids)
    (hcall : ∀ ids w, pre <+: ids → Facts ⟨Try.prog, W, M, RR⟩ m ρ ids (rest.and (prP F nb P)) w → Calls Try.prog f (AS ids) w (PrMut w F nb P' V))
    (hr : ∀ ids, r.den (ρ.add vs) ids = V) (hhp : m'.hp = m.hp) (hfit : hpFits m.c m.hp.length m.hp = true) (hc : (ρ.add vs).cnt = m'.c) (h1 : ∀ v, v ∈ vs.v → v.oneCell' = true)
    (h : ∀ F', OwnF W M rest F' → t.holds ⟨Try.prog, W, M, RR⟩ (ρ.add vs) pre (rest.and (prP F' nb P')) S) : (Tree.call f args m r m' t).holds ⟨Try.prog, W, M, RR⟩ ρ pre (rest.and (prP F nb P)) S := by
  refine node_mut AS (fun vs2 h' => vs2 = vs ∧ ∃ F', h' = prP F' nb P') hargs (fun ids w hp hf => ?_) hown hhp hfit (fun vs2 h' q => by rw [q.1]; exact ⟨hc, h1⟩) ?_
  · refine (hcall ids w hp hf).mono ?_
    rintro e w' ⟨rfl, F', q1, q2, q3⟩
    exact ⟨vs, prP F' nb P', ⟨rfl, F', rfl⟩, by rw [hr], q1, q2, q3⟩
  · rintro vs2 h' ⟨rfl, F', rfl⟩ hd
    exact h F' hd
theorem psep_of {ids : List Nat} {w : World} (hf : Facts ⟨Try.prog, W, M, RR⟩ m ρ ids (rest.and (prP F nb P)) w) : ∀ k, F k → k < w.heap.size := fun k hk => (hf.sep k (.inr hk)).1
theorem papart_of {ids : List Nat} {w : World} (hown : OwnF W M rest F) (hf : Facts ⟨Try.prog, W, M, RR⟩ m ρ ids (rest.and (prP F nb P)) w) {X : HX} (hv : ∀ k, X.F k → rest.F k ∨ k ∈ ids) : ∀ k, X.F k → ¬ F k := fun k hk q => (hv k hk).elim (hown k q).1 (hf.sep k (.inr q)).2
theorem node_pcamp (rd nd frm : Int) (vs : Vals) (hown : OwnF W M rest F) (q1 : 1 ≤ frm ∧ frm ≤ 1099511627776) (q2 : balB rd nd = true) (q3 : nd = P.me) (q4 : ¬ compareV rd nd P.r P.n ≤ 0) (hargs : ∀ ids, (args.map (SV.den ρ ids)).toArray = #[.pointer (some ⟨nb, 0, none⟩), .agg #[.int .i64 rd, .int .i64 nd], .int .i64 frm])
    (hr : ∀ ids, r.den (ρ.add vs) ids = .tuple #[prepM rd nd frm, .int .i64 0]) (hhp : m'.hp = m.hp) (hfit : hpFits m.c m.hp.length m.hp = true) (hc : (ρ.add vs).cnt = m'.c) (h1 : ∀ v, v ∈ vs.v → v.oneCell' = true)
    (h : ∀ F', OwnF W M rest F' → t.holds ⟨Try.prog, W, M, RR⟩ (ρ.add vs) pre (rest.and (prP F' nb (P.begin rd nd frm))) S) : (Tree.call 9 args m r m' t).holds ⟨Try.prog, W, M, RR⟩ ρ pre (rest.and (prP F nb P)) S :=
  node_pmut vs (fun ids => #[.pointer (some ⟨nb, 0, none⟩), .agg #[.int .i64 rd, .int .i64 nd], .int .i64 frm]) hown hargs (fun ids w hp hf => camp_any rd nd frm hf.x.2 (psep_of hf) q1 q2 q3 q4) hr hhp hfit hc h1 h
theorem node_ptop (x : Int) (hx' : P.top = x) (hn : 0 ≤ P.next ∧ P.next ≤ 1099511627778) (hargs : ∀ ids, (args.map (SV.den ρ ids)).toArray = #[.pointer (some ⟨nb, 0, none⟩)]) (hr : ∀ ids, r.den (ρ.add ⟨[x], [], [], [], []⟩) ids = .int .i64 x) (hhp : m'.hp = m.hp) (hfit : hpFits m.c m.hp.length m.hp = true) (hc : (ρ.add ⟨[x], [], [], [], []⟩).cnt = m'.c)
    (h : t.holds ⟨Try.prog, W, M, RR⟩ (ρ.add ⟨[x], [], [], [], []⟩) pre (rest.and (prP F nb P)) S) : (Tree.call 21 args m r m' t).holds ⟨Try.prog, W, M, RR⟩ ρ pre (rest.and (prP F nb P)) S := by
  refine node_PI ⟨[x], [], [], [], []⟩ (fun _ => #[.pointer (some ⟨nb, 0, none⟩)]) (.int .i64 x) hargs hr hhp hfit hc oneNil (fun ids w hp hf => ?_) h
  obtain ⟨D, a, hP, hok, hnb, hB, hX, Fnb, hsub⟩ := pobj_open hf.x.2
  subst hP
  rw [← hx']
  exact ptop_any hB hX hnb (fun k hk => psep_of hf k (hsub k hk)) hn
theorem node_pstop (b : Bool) (hb : P.stop = b) (hargs : ∀ ids, (args.map (SV.den ρ ids)).toArray = #[.pointer (some ⟨nb, 0, none⟩)]) (hr : ∀ ids, r.den (ρ.add ⟨[], [b], [], [], []⟩) ids = .bool b) (hhp : m'.hp = m.hp) (hfit : hpFits m.c m.hp.length m.hp = true) (hc : (ρ.add ⟨[], [b], [], [], []⟩).cnt = m'.c)
    (h : t.holds ⟨Try.prog, W, M, RR⟩ (ρ.add ⟨[], [b], [], [], []⟩) pre (rest.and (prP F nb P)) S) : (Tree.call 23 args m r m' t).holds ⟨Try.prog, W, M, RR⟩ ρ pre (rest.and (prP F nb P)) S := by
  refine node_PI ⟨[], [b], [], [], []⟩ (fun _ => #[.pointer (some ⟨nb, 0, none⟩)]) (.bool b) hargs hr hhp hfit hc oneNil (fun ids w hp hf => ?_) h
  obtain ⟨D, a, hP, hok, hnb, hB, hX, Fnb, hsub⟩ := pobj_open hf.x.2
  subst hP
  rw [← hb]
  exact pstop_any hB hX hnb (fun k hk => psep_of hf k (hsub k hk))
theorem node_pgo (ex : Int) (ms : List (Int × Vl)) (P' : Pr Vl) (hown : OwnF W M rest F) (hg : P.goes Vl.k ex = (P', ms)) (hex : I64 ex) (hw0 : 1 ≤ P.window ∧ P.window ≤ 16) (hn0 : 0 ≤ P.next ∧ P.next ≤ 1099511627777) (hl : P.fresh.length + P.queue.length ≤ 10000) (hargs : ∀ ids, (args.map (SV.den ρ ids)).toArray = #[.pointer (some ⟨nb, 0, none⟩), .int .i64 ex])
    (hr : ∀ a' c' ids, r.den (ρ.add ⟨[], [], [], [ms.length, c'], [a']⟩) ids = .slice a' ms.length c') (hhp : m'.hp = m.hp) (hfit : hpFits m.c m.hp.length m.hp = true) (hc : ∀ a' c', (ρ.add ⟨[], [], [], [ms.length, c'], [a']⟩).cnt = m'.c)
    (h : ∀ mp ma mc F', mmap Pv.v mp = ms → mp.length = ms.length → (∀ q ∈ mp, VlFit q.2.v) → OwnF W M ((rest.and (mall mp)).and (mrow ma mc P'.r P'.n mp)) F' → (mp ≠ [] → ma.isSome = true) → t.holds ⟨Try.prog, W, M, RR⟩ (ρ.add ⟨[], [], [], [ms.length, mc], [ma]⟩) pre (((rest.and (mall mp)).and (mrow ma mc P'.r P'.n mp)).and (prP F' nb P')) S) : (Tree.call 14 args m r m' t).holds ⟨Try.prog, W, M, RR⟩ ρ pre (rest.and (prP F nb P)) S := by
  refine node_mut (fun _ => #[.pointer (some ⟨nb, 0, none⟩), .int .i64 ex]) (fun vs h' => ∃ mp ma mc F', mmap Pv.v mp = ms ∧ (∀ q ∈ mp, VlFit q.2.v) ∧ (mp ≠ [] → ma.isSome = true) ∧ (∀ k, F' k → ¬ (mall mp).F k ∧ ¬ (mrow ma mc P'.r P'.n mp).F k) ∧ vs = ⟨[], [], [], [ms.length, mc], [ma]⟩ ∧ h' = ((mall mp).and (mrow ma mc P'.r P'.n mp)).and (prP F' nb P')) hargs (fun ids w hp hf => ?_) hown hhp hfit (fun vs h' q => ?_) ?_
  · refine (go_any ex hf.x.2 (psep_of hf) hex hw0 hn0 hl).mono ?_
    rintro e w' ⟨mp, ma, mc, F', q1, q2, rfl, q3, q4, q5, q6, q7, q8, q9⟩
    rw [hg] at q1 q3 q5 q8
    have q1 : mmap Pv.v mp = ms := q1
    have hlen : mp.length = ms.length := by rw [← q1]; unfold mmap; rw [List.length_map]
    refine ⟨_, _, ⟨mp, ma, mc, F', q1, q2, fun hne => ?_, fun k hk => ⟨fun z => (q7 k z).2.2 hk, fun z => (q8 k z).2.2.1 hk⟩, rfl, rfl⟩, by rw [hr, hlen], ⟨⟨q4, q5⟩, q3⟩, fun k hk => ?_, q9⟩
    · refine row_isS q5 fun z => ?_
      cases mp with
      | nil => exact hne rfl
      | cons y r => simp [mcells, mgC] at z
    · rcases hk with (hk | hk) | hk
      · exact ⟨.inr (q7 k hk).1, (q7 k hk).2.1⟩
      · exact ⟨.inr (q8 k hk).1, (q8 k hk).2.1⟩
      · exact q6 k hk
  · obtain ⟨mp, ma, mc, F', _, _, _, _, rfl, _⟩ := q
    exact ⟨hc _ _, oneNil⟩
  · rintro vs h' ⟨mp, ma, mc, F', q1, q2, q3, q4, rfl, rfl⟩ hd
    have e : rest.and (((mall mp).and (mrow ma mc P'.r P'.n mp)).and (prP F' nb P')) = ((rest.and (mall mp)).and (mrow ma mc P'.r P'.n mp)).and (prP F' nb P') := by ac_rfl
    refine holds_eq e (h mp ma mc F' q1 (by rw [← q1]; unfold mmap; rw [List.length_map]) q2 (fun k hk => ⟨?_, (hd k (.inr hk)).2⟩) q3)
    rintro ((z | z) | z)
    · exact (hd k (.inr hk)).1 z
    · exact (q4 k hk).1 z
    · exact (q4 k hk).2 z
theorem node_pprom (node low : Int) (xs : List (Vo Pv)) (av : List Nat → Option Addr) (cv : Nat) (b : Bool) (hown : OwnF W M rest F) (hb : (P.promised node (vlsOf xs)).2 = b) (hvf : ∀ x ∈ xs, VlFit x.v.v)
    (h0 : proE P.r P.n P.frm low (vlsOf xs) = 0) (h1 : P.phase = 1) (h2 : hasB P.mem node = true) (h3 : ∀ x ∈ xs, P.frm ≤ x.s ∧ x.s ≤ P.frm + 63) (h4 : low < P.frm) (h5 : 1 ≤ P.frm ∧ P.frm ≤ 1099511627776) (h6 : ∀ p ∈ P.best, P.frm ≤ p.1 ∧ p.1 ≤ P.frm + 63) (h7 : P.said.length ≤ 1000 ∧ P.fresh.length ≤ 1000 ∧ P.mem.length ≤ 9) (h8 : (∀ x ∈ P.said, I64 x) ∧ I64 node) (hxl : xs.length ≤ 64)
    (hargs : ∀ ids, (args.map (SV.den ρ ids)).toArray = #[.pointer (some ⟨nb, 0, none⟩), .int .i64 node, proM P.r P.n P.frm low (.slice (av ids) xs.length cv)])
    (hat : ∀ ids w, pre <+: ids → Facts ⟨Try.prog, W, M, RR⟩ m ρ ids (rest.and (prP F nb P)) w → (voX (av ids) xs).X w ∧ ∀ k, (voX (av ids) xs).F k → rest.F k ∨ k ∈ ids)
    (hr : ∀ ids, r.den (ρ.add ⟨[0], [b], [], [], []⟩) ids = .tuple #[.bool b, .int .i64 0]) (hhp : m'.hp = m.hp) (hfit : hpFits m.c m.hp.length m.hp = true) (hc : (ρ.add ⟨[0], [b], [], [], []⟩).cnt = m'.c)
    (h : ∀ F', OwnF W M rest F' → t.holds ⟨Try.prog, W, M, RR⟩ (ρ.add ⟨[0], [b], [], [], []⟩) pre (rest.and (prP F' nb (P.promised node (vlsOf xs)).1)) S) : (Tree.call 13 args m r m' t).holds ⟨Try.prog, W, M, RR⟩ ρ pre (rest.and (prP F nb P)) S :=
  node_pmut ⟨[0], [b], [], [], []⟩ (fun ids => #[.pointer (some ⟨nb, 0, none⟩), .int .i64 node, proM P.r P.n P.frm low (.slice (av ids) xs.length cv)]) hown hargs (fun ids w hp hf => by rw [← hb]; exact promise_any node low cv hf.x.2 (psep_of hf) (hat ids w hp hf).1 (papart_of hown hf (hat ids w hp hf).2) hvf h0 h1 h2 h3 h4 h5 h6 h7 h8 hxl) hr hhp hfit hc oneNil h
end
end Go.Proofs.Ytlgpjjgkdpmidaa

namespace Go.Eng
open Go.RowKit Go.Syn Go.MapKept Go.Proofs.Ytlgpjjgkdpmidaa
set_option linter.unusedVariables false
set_option linter.unusedSimpArgs false
theorem cmp_below (r n s m : Int) : compareV r n s m > 0 ↔ belowB s m r n = true := by
  unfold compareV cmpV belowB
  simp only [decide_eq_true_eq]
  split <;> split <;> (try split) <;> (try split) <;> omega
theorem below_tr {r n s m a b : Int} (h1 : belowB r n s m = true) (h2 : belowB s m a b = true) : belowB r n a b = true := by
  unfold belowB at *
  simp only [decide_eq_true_eq] at *
  omega
theorem below_irr (r n : Int) : belowB r n r n = false := by unfold belowB; exact decide_eq_false (by omega)
theorem tell_eq (P : Pr Vl) (x : Vo Vl) : P.tell x.s x.r x.n x.v = { P with best := (P.tell x.s x.r x.n x.v).best } := by unfold Pr.tell; split <;> rfl
theorem hear_eq : ∀ (xs : List (Vo Vl)) (P : Pr Vl), P.hear xs = { P with best := (P.hear xs).best }
  | [], P => rfl
  | x :: xs, P => by
    have h : P.hear (x :: xs) = (P.tell x.s x.r x.n x.v).hear xs := rfl
    rw [h, hear_eq xs, tell_eq P x]
structure BInv (told : List (Vo Vl)) (best : List (Int × Vo Vl)) : Prop where
  no : ∀ s, mlk best s = none → ∀ w ∈ told, w.s ≠ s
  yes : ∀ s v, mlk best s = some v → v ∈ told ∧ v.s = s ∧ ∀ w ∈ told, w.s = s → belowB v.r v.n w.r w.n = false
theorem BInv.tell {told : List (Vo Vl)} {P : Pr Vl} (h : BInv told P.best) {x : Vo Vl} (hx : balB x.r x.n = true) : BInv (told ++ [x]) (P.tell x.s x.r x.n x.v).best := by
  have hb : belowB 0 0 x.r x.n = true := by
    unfold balB at hx
    have := of_decide_eq_true hx
    unfold belowB
    exact decide_eq_true (by omega)
  unfold Pr.tell
  by_cases hgt : compareV x.r x.n (balOf (mlk P.best x.s)).1 (balOf (mlk P.best x.s)).2 > 0
  · rw [if_pos hgt]
    have hl : ∀ s, mlk (P.told x.s x.r x.n x.v).best s = if s = x.s then some x else mlk P.best s := fun s => mlk_put _ _ _ _
    refine ⟨fun s hs w hw => ?_, fun s v hs => ?_⟩
    · rw [hl] at hs
      split at hs
      · cases hs
      · rename_i hne
        rcases List.mem_append.1 hw with hw | hw
        · exact h.no s hs w hw
        · rw [List.mem_singleton.1 hw]; exact fun q => hne q.symm
    · rw [hl] at hs
      split at hs
      · rename_i he
        cases hs
        refine ⟨List.mem_append_right _ (List.mem_singleton.2 rfl), he.symm, fun w hw hws => ?_⟩
        rcases List.mem_append.1 hw with hw | hw
        · cases hm : mlk P.best x.s with
          | none => exact absurd (hws.trans he) (h.no _ hm w hw)
          | some y =>
            rw [hm] at hgt
            have h1 : belowB y.r y.n x.r x.n = true := (cmp_below _ _ _ _).1 hgt
            have h2 := (h.yes _ _ hm).2.2 w hw (hws.trans he)
            cases hxw : belowB x.r x.n w.r w.n with
            | false => rfl
            | true => rw [below_tr h1 hxw] at h2; cases h2
        · rw [List.mem_singleton.1 hw]; exact below_irr _ _
      · rename_i hne
        obtain ⟨h1, h2, h3⟩ := h.yes s v hs
        refine ⟨List.mem_append_left _ h1, h2, fun w hw hws => ?_⟩
        rcases List.mem_append.1 hw with hw | hw
        · exact h3 w hw hws
        · rw [List.mem_singleton.1 hw] at hws; exact absurd hws.symm hne
  · rw [if_neg hgt]
    refine ⟨fun s hs w hw => ?_, fun s v hs => ?_⟩
    · rcases List.mem_append.1 hw with hw | hw
      · exact h.no s hs w hw
      · rw [List.mem_singleton.1 hw]
        intro q
        rw [q, hs] at hgt
        exact hgt ((cmp_below _ _ _ _).2 hb)
    · obtain ⟨h1, h2, h3⟩ := h.yes s v hs
      refine ⟨List.mem_append_left _ h1, h2, fun w hw hws => ?_⟩
      rcases List.mem_append.1 hw with hw | hw
      · exact h3 w hw hws
      · rw [List.mem_singleton.1 hw] at hws ⊢
        rw [hws, hs] at hgt
        cases hxw : belowB v.r v.n x.r x.n with
        | false => rfl
        | true => exact absurd ((cmp_below _ _ _ _).2 hxw) hgt
theorem BInv.hear : ∀ (xs : List (Vo Vl)) {told : List (Vo Vl)} {P : Pr Vl}, BInv told P.best → (∀ x ∈ xs, balB x.r x.n = true) → BInv (told ++ xs) (P.hear xs).best
  | [], told, P, h, _ => by rw [List.append_nil]; exact h
  | x :: xs, told, P, h, hx => by
    have := BInv.hear xs (h.tell (hx x List.mem_cons_self)) fun y hy => hx y (List.mem_cons_of_mem _ hy)
    rw [List.append_assoc] at this
    exact this
theorem hear_keys {K : Int → Prop} : ∀ (xs : List (Vo Vl)) {P : Pr Vl}, (∀ p ∈ P.best, K p.1) → (∀ x ∈ xs, K x.s) → ∀ p ∈ (P.hear xs).best, K p.1
  | [], P, h, _ => h
  | x :: xs, P, h, hx => hear_keys xs (P := P.tell x.s x.r x.n x.v) (fun p hp => by
    unfold Pr.tell at hp
    split at hp
    · rcases mput_mem hp with rfl | q
      · exact hx x List.mem_cons_self
      · exact h p q.1
    · exact h p hp) fun y hy => hx y (List.mem_cons_of_mem _ hy)
theorem topOf_ge {α : Type} : ∀ (best : List (Int × Vo α)) (x : Int), x ≤ topOf best x ∧ ∀ p ∈ best, p.1 + 1 ≤ topOf best x
  | [], x => ⟨Int.le_refl _, fun p hp => by cases hp⟩
  | q :: r, x => by
    obtain ⟨h1, h2⟩ := topOf_ge r (max x (q.1 + 1))
    have e : topOf (q :: r) x = topOf r (max x (q.1 + 1)) := rfl
    rw [e]
    refine ⟨by omega, fun p hp => ?_⟩
    rcases List.mem_cons.1 hp with rfl | hp
    · omega
    · exact h2 p hp
theorem topOf_le {α : Type} : ∀ (best : List (Int × Vo α)) (x c : Int), x ≤ c → (∀ p ∈ best, p.1 + 1 ≤ c) → topOf best x ≤ c
  | [], x, c, h, _ => h
  | q :: r, x, c, h, h2 => topOf_le r (max x (q.1 + 1)) c (by have := h2 q List.mem_cons_self; omega) fun p hp => h2 p (List.mem_cons_of_mem _ hp)
def slotsL (s : Int) : Nat → List Int
  | 0 => []
  | k + 1 => s :: slotsL (s + 1) k
theorem slotsL_len : ∀ (k : Nat) (s : Int), (slotsL s k).length = k
  | 0, _ => rfl
  | k + 1, s => by show (slotsL (s + 1) k).length + 1 = _; rw [slotsL_len k]
theorem slotsL_get : ∀ (k : Nat) (s : Int) (i : Nat), i < k → (slotsL s k)[i]? = some (s + (i : Int))
  | 0, _, _, h => absurd h (Nat.not_lt_zero _)
  | k + 1, s, 0, _ => by show some s = _; simp
  | k + 1, s, i + 1, h => by
    show (slotsL (s + 1) k)[i]? = _
    rw [slotsL_get k (s + 1) i (by omega)]
    congr 1; omega
theorem slotsL_mem : ∀ (k : Nat) (s t : Int), t ∈ slotsL s k → s ≤ t ∧ t < s + k
  | 0, _, _, h => by cases h
  | k + 1, s, t, h => by
    rcases List.mem_cons.1 h with rfl | h
    · omega
    · have := slotsL_mem k (s + 1) t h; omega
theorem askTo_spec {α : Type} (kd : α → Int) (z : α) : ∀ (k : Nat) (s : Int) (D : Pr α), (Pr.askTo kd z k s D).fresh = D.fresh ++ slotsL s k ∧ (∀ t, mlk (Pr.askTo kd z k s D).out t = if s ≤ t ∧ t < s + k then some (D.bestV z t) else mlk D.out t) ∧ (Pr.askTo kd z k s D).phase = D.phase ∧ (Pr.askTo kd z k s D).queue = D.queue ∧ (Pr.askTo kd z k s D).next = D.next ∧ (Pr.askTo kd z k s D).r = D.r ∧ (Pr.askTo kd z k s D).n = D.n ∧ (Pr.askTo kd z k s D).window = D.window
  | 0, s, D => ⟨by show D.fresh = D.fresh ++ []; simp, fun t => by rw [if_neg (by omega)]; rfl, rfl, rfl, rfl, rfl, rfl, rfl⟩
  | k + 1, s, D => by
    obtain ⟨h1, h2, h3, h4, h5, h6, h7, h8⟩ := askTo_spec kd z k (s + 1) (D.ask kd s (D.bestV z s))
    refine ⟨?_, fun t => ?_, h3, h4, h5, h6, h7, h8⟩
    · show (Pr.askTo kd z k (s + 1) (D.ask kd s (D.bestV z s))).fresh = _
      rw [h1]
      show (D.fresh ++ [s]) ++ _ = D.fresh ++ (s :: slotsL (s + 1) k)
      simp
    · show mlk (Pr.askTo kd z k (s + 1) (D.ask kd s (D.bestV z s))).out t = _
      rw [h2 t]
      have hb : (D.ask kd s (D.bestV z s)).bestV z t = D.bestV z t := rfl
      have ho : mlk (D.ask kd s (D.bestV z s)).out t = if t = s then some (D.bestV z s) else mlk D.out t := mlk_put _ _ _ _
      rw [hb, ho]
      by_cases h : s + 1 ≤ t ∧ t < s + 1 + (k : Int)
      · rw [if_pos h, if_pos (by omega)]
      · rw [if_neg h]
        by_cases ht : t = s
        · rw [if_pos ht, if_pos (by omega), ht]
        · rw [if_neg ht, if_neg (by omega)]
theorem lead_goes {D : Pr Vl} (hq : D.queue = []) (hf : D.fresh = []) (hn : D.frm ≤ topOf D.best D.frm) (ex : Int) :
    ∃ P', (D.lead Vl.k vz).goes Vl.k ex = (P', (slotsL D.frm (topOf D.best D.frm - D.frm).toNat).map fun s => (s, D.bestV vz s)) ∧ P'.r = D.r ∧ P'.n = D.n := by
  obtain ⟨D1, eD1⟩ : ∃ D1 : Pr Vl, D1 = { D with phase := 2, next := topOf D.best D.frm } := ⟨_, rfl⟩
  obtain ⟨k, ek⟩ : ∃ k, k = (topOf D.best D.frm - D.frm).toNat := ⟨_, rfl⟩
  obtain ⟨h1, h2, h3, h4, h5, h6, h7, h8⟩ := askTo_spec Vl.k vz k D.frm D1
  obtain ⟨E, eE⟩ : ∃ E : Pr Vl, E = { Pr.askTo Vl.k vz k D.frm D1 with best := [] } := ⟨_, rfl⟩
  have hL : D.lead Vl.k vz = E := by rw [eE, eD1, ek]; rfl
  have hph : E.phase = 2 := by rw [eE]; show (Pr.askTo Vl.k vz k D.frm D1).phase = 2; rw [h3, eD1]
  have hqu : E.queue = [] := by rw [eE]; show (Pr.askTo Vl.k vz k D.frm D1).queue = []; rw [h4, eD1]; exact hq
  have hfr : E.fresh = slotsL D.frm k := by rw [eE]; show (Pr.askTo Vl.k vz k D.frm D1).fresh = _; rw [h1, eD1]; show D.fresh ++ _ = _; rw [hf]; rfl
  have hou : ∀ t, mlk E.out t = if D.frm ≤ t ∧ t < D.frm + k then some (D1.bestV vz t) else mlk D1.out t := by rw [eE]; exact h2
  have hbv : ∀ t, D1.bestV vz t = D.bestV vz t := by rw [eD1]; exact fun t => rfl
  have hms : E.msgs = (slotsL D.frm k).map fun s => (s, D.bestV vz s) := by
    unfold Pr.msgs
    rw [hfr]
    have : ∀ l : List Int, (∀ t ∈ l, D.frm ≤ t ∧ t < D.frm + k) → l.filterMap (fun s => (mlk E.out s).map fun v => (s, v)) = l.map fun s => (s, D.bestV vz s) := fun l => by
      induction l with
      | nil => intro _; rfl
      | cons t l ih =>
        intro h
        rw [List.map_cons, ← ih fun y hy => h y (List.mem_cons_of_mem _ hy)]
        rw [List.filterMap_cons, hou, if_pos (h t List.mem_cons_self), hbv]; rfl
    exact this _ fun t ht => slotsL_mem _ _ _ ht
  refine ⟨{ E with fresh := [] }, ?_, ?_, ?_⟩
  · have hf0 : Pr.fill Vl.k ex E.queue.length E = E := by rw [hqu]; rfl
    rw [hL]
    unfold Pr.goes
    rw [if_pos hph, hf0]
    show ({ E with fresh := [] }, E.msgs) = _
    rw [hms, ek]
  · rw [eE]; show (Pr.askTo Vl.k vz k D.frm D1).r = _; rw [h6, eD1]
  · rw [eE]; show (Pr.askTo Vl.k vz k D.frm D1).n = _; rw [h7, eD1]
end Go.Eng

namespace Go.Eng
open Go.RowKit Go.Syn Go.MapKept Go.Proofs.Ytlgpjjgkdpmidaa
set_option linter.unusedVariables false
set_option linter.unusedSimpArgs false
def VsOk (frm : Int) (vs : List (Vo Vl)) : Prop := ∀ x ∈ vs, (frm ≤ x.s ∧ x.s ≤ frm + 63) ∧ balB x.r x.n = true
theorem vsE_ok : ∀ (vs : List (Vo Vl)) (f : Int), vsE f vs = 0 → ∀ x ∈ vs, f ≤ x.s ∧ balB x.r x.n = true
  | [], _, _, x, hx => by cases hx
  | y :: r, f, h, x, hx => by
    unfold vsE at h
    split at h
    · cases h
    rename_i h1
    split at h
    · cases h
    rename_i h2
    split at h
    · rename_i h3; exact absurd h h3
    rcases List.mem_cons.1 hx with rfl | hx
    · refine ⟨by omega, ?_⟩
      cases hb : balB x.r x.n with
      | true => rfl
      | false => exact absurd hb h2
    · have := vsE_ok r (y.s + 1) h x hx
      exact ⟨by omega, this.2⟩
theorem proE_ok {r n frm : Int} {vs : List (Vo Vl)} (h : proE r n frm 0 vs = 0) : vs.length ≤ 64 ∧ ∀ x ∈ vs, frm ≤ x.s ∧ balB x.r x.n = true := by
  unfold proE at h
  split at h
  · split at h
    · unfold chkVs at h
      split at h
      · cases h
      · exact ⟨by omega, vsE_ok vs frm h⟩
    · cases h
  · cases h
structure PB (frm : Int) (told : List (Vo Vl)) (i : Nat) (P : Pr Vl) : Prop where
  ph : P.phase = 1
  r : P.r = 549755813888
  n : P.n = 2
  f : P.frm = frm
  mem : P.mem = [1, 2, 3]
  wn : P.window = 4
  said : P.said = (if i = 0 then [] else if i = 1 then [1] else [1, 2])
  fresh : P.fresh = []
  q : P.queue = []
  inv : BInv told P.best
  keys : ∀ p ∈ P.best, frm ≤ p.1 ∧ p.1 ≤ frm + 63
def PSt (frm : Int) (told : List (Vo Vl)) (i : Nat) (P : Pr Vl) : Prop := if i ≤ 1 then PB frm told i P else ∃ D, PB frm told 2 D ∧ P = D.lead Vl.k vz
theorem pb_new (frm : Int) : PSt frm [] 0 ((Pr.new 2 4 [1, 2, 3]).begin 549755813888 2 frm) := by
  unfold PSt
  rw [if_pos (by omega)]
  exact ⟨rfl, rfl, rfl, rfl, rfl, rfl, rfl, rfl, rfl, ⟨(fun s _ w hw => by cases hw), (fun s v h => by cases h)⟩, (fun p hp => by cases hp)⟩
theorem pb_hear {frm : Int} {told vs : List (Vo Vl)} {i : Nat} {P : Pr Vl} (h : PB frm told i P) (hi : i ≤ 1) (hv : VsOk frm vs) : PB frm (told ++ vs) (i + 1) ((P.say ((i : Int) + 1)).hear vs) := by
  have e := hear_eq vs (P.say ((i : Int) + 1))
  obtain ⟨Q, eQ⟩ : ∃ Q, Q = (P.say ((i : Int) + 1)).hear vs := ⟨_, rfl⟩
  have hinv : BInv (told ++ vs) Q.best := by rw [eQ]; exact BInv.hear vs (P := P.say ((i : Int) + 1)) h.inv fun x hx => (hv x hx).2
  have hkeys : ∀ p ∈ Q.best, frm ≤ p.1 ∧ p.1 ≤ frm + 63 := by rw [eQ]; exact hear_keys (K := fun s => frm ≤ s ∧ s ≤ frm + 63) vs (P := P.say ((i : Int) + 1)) h.keys fun x hx => (hv x hx).1
  rw [← eQ] at e ⊢
  obtain ⟨bs, eb⟩ : ∃ b, b = Q.best := ⟨_, rfl⟩
  rw [← eb] at e hinv hkeys
  subst e
  refine ⟨h.ph, h.r, h.n, h.f, h.mem, h.wn, ?_, h.fresh, h.q, hinv, hkeys⟩
  show P.said ++ [(i : Int) + 1] = _
  rw [h.said]
  have : i = 0 ∨ i = 1 := by omega
  rcases this with rfl | rfl <;> rfl
theorem pb_step {frm : Int} {told vs : List (Vo Vl)} {i : Nat} {P : Pr Vl} (h : PB frm told i P) (hi : i ≤ 1) (hv : VsOk frm vs) : PSt frm (told ++ vs) (i + 1) (P.promised ((i : Int) + 1) vs).1 ∧ (P.promised ((i : Int) + 1) vs).2 = ((i : Int) == 1) := by
  have h2 := pb_hear h hi hv
  have : i = 0 ∨ i = 1 := by omega
  rcases this with rfl | rfl
  · have e : P.promised ((0 : Nat) + 1 : Int) vs = ((P.say ((0 : Nat) + 1 : Int)).hear vs, false) := by
      unfold Pr.promised
      rw [if_neg (by rw [h.mem, h.said]; decide)]
    rw [e]
    refine ⟨?_, rfl⟩
    unfold PSt
    rw [if_pos (by omega)]
    exact h2
  · have e : P.promised ((1 : Nat) + 1 : Int) vs = (((P.say ((1 : Nat) + 1 : Int)).hear vs).lead Vl.k vz, true) := by
      unfold Pr.promised
      rw [if_pos (by rw [h.mem, h.said]; decide)]
    rw [e]
    refine ⟨?_, rfl⟩
    unfold PSt
    rw [if_neg (by omega)]
    exact ⟨_, h2, rfl⟩
theorem PSt.one {frm : Int} {told : List (Vo Vl)} {i : Nat} {P : Pr Vl} (h : PSt frm told i P) (hi : i ≤ 1) : PB frm told i P := by
  unfold PSt at h; rwa [if_pos hi] at h
structure PGo (frm : Int) (told : List (Vo Vl)) (ms : List (Int × Vl)) : Prop where
  le : ms.length ≤ 64
  at_ : ∀ j, j < ms.length → ∃ v, ms[j]? = some (frm + (j : Int), v) ∧ ((∀ w ∈ told, w.s ≠ frm + (j : Int)) ∧ v.k = 0 ∨ ∃ y ∈ told, y.s = frm + (j : Int) ∧ y.v = v ∧ ∀ w ∈ told, w.s = frm + (j : Int) → belowB y.r y.n w.r w.n = false)
  top : ∀ w ∈ told, w.s < frm + (ms.length : Int)
theorem mlk_some_mem {α : Type} {m : List (Int × α)} {k : Int} {v : α} (h : mlk m k = some v) : (k, v) ∈ m := mlk_mem h
theorem pb_go {frm : Int} {told : List (Vo Vl)} {P : Pr Vl} (h : PSt frm told 2 P) (hf : 1 ≤ frm ∧ frm ≤ 1000) : ∃ P' ms, P.goes Vl.k 0 = (P', ms) ∧ P'.r = 549755813888 ∧ P'.n = 2 ∧ PGo frm told ms ∧ P.window = 4 ∧ (0 ≤ P.next ∧ P.next ≤ 1099511627777) ∧ P.fresh.length + P.queue.length ≤ 10000 := by
  unfold PSt at h
  rw [if_neg (by omega)] at h
  obtain ⟨D, h, rfl⟩ := h
  have t1 := topOf_ge D.best D.frm
  have t2 := topOf_le D.best D.frm (frm + 64) (by rw [h.f]; omega) fun p hp => by have := h.keys p hp; omega
  rw [h.f] at t1 t2
  obtain ⟨T, eT⟩ : ∃ T, T = topOf D.best frm := ⟨_, rfl⟩
  rw [← eT] at t1 t2
  obtain ⟨P', hg, g1, g2⟩ := lead_goes (D := D) h.q h.fresh (by rw [h.f, ← eT]; exact t1.1) 0
  rw [h.f, ← eT] at hg
  obtain ⟨D1, eD1⟩ : ∃ D1 : Pr Vl, D1 = { D with phase := 2, next := topOf D.best D.frm } := ⟨_, rfl⟩
  obtain ⟨s1, _, _, s4, s5, _, _, s8⟩ := askTo_spec Vl.k vz (topOf D.best D.frm - D.frm).toNat D.frm D1
  obtain ⟨A, eA⟩ : ∃ A, A = Pr.askTo Vl.k vz (topOf D.best D.frm - D.frm).toNat D.frm D1 := ⟨_, rfl⟩
  have eL : D.lead Vl.k vz = { A with best := [] } := by rw [eA, eD1]; rfl
  rw [← eA] at s1 s4 s5 s8
  refine ⟨P', _, hg, g1.trans h.r, g2.trans h.n, ⟨?_, fun j hj => ?_, fun w hw => ?_⟩, ?_, ?_, ?_⟩
  · rw [List.length_map, slotsL_len]; omega
  · rw [List.length_map, slotsL_len] at hj
    rw [List.getElem?_map, slotsL_get _ _ _ hj]
    refine ⟨_, rfl, ?_⟩
    unfold Pr.bestV
    cases hm : mlk D.best (frm + (j : Int)) with
    | none => exact .inl ⟨h.inv.no _ hm, rfl⟩
    | some y =>
      obtain ⟨a1, a2, a3⟩ := h.inv.yes _ _ hm
      exact .inr ⟨y, a1, a2, rfl, a3⟩
  · rw [List.length_map, slotsL_len]
    cases hm : mlk D.best w.s with
    | none => exact absurd rfl (h.inv.no _ hm w hw)
    | some y =>
      have := t1.2 _ (mlk_some_mem hm)
      dsimp only at this
      omega
  · rw [eL]; show A.window = 4; rw [s8, eD1]; exact h.wn
  · rw [eL]; show 0 ≤ A.next ∧ A.next ≤ _; rw [s5, eD1]; show 0 ≤ topOf D.best D.frm ∧ topOf D.best D.frm ≤ _; rw [h.f, ← eT]; omega
  · rw [eL]; show A.fresh.length + A.queue.length ≤ _; rw [s1, s4, eD1]; show (D.fresh ++ _).length + D.queue.length ≤ _; rw [h.fresh, h.q, List.nil_append, slotsL_len, h.f, ← eT]; simp only [List.length_nil]; omega
end Go.Eng
