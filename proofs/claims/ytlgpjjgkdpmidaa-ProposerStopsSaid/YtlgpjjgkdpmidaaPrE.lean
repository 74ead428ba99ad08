/- Campaign, accept. -/
import Derived.Test.YtlgpjjgkdpmidaaPrD
namespace Go.Proofs.Ytlgpjjgkdpmidaa
open Go.ChangeShapes Go.WideShapes Go.ChangeAt Go.RowKit Go.Syn Go.Eng Go.MapKept
set_option linter.unusedVariables false
set_option linter.unusedSimpArgs false
set_option maxRecDepth 100000
def prepM (r n frm : Int) : Value := .agg #[.int .i64 1, .int .i64 0, .int .i64 0, .int .i64 0, .int .i64 r, .int .i64 n, .int .i64 frm, .int .i64 0, .int .i64 0, .int .i64 0, .slice none 0 0, .slice none 0 0, .slice none 0 0, .int .i64 0, .int .i64 0, .int .i64 0, .int .i64 0, .int .i64 0, .int .i64 0, .int .i64 0, .int .i64 0, .int .i64 0, .int .i64 0, .int .i64 0, .slice none 0 0]
/-- The message that asks for a value, of which the value is given. -/
def accM (r n slot : Int) (k x y : Value) : Value := .agg #[.int .i64 4, .int .i64 0, .int .i64 0, .int .i64 0, .int .i64 r, .int .i64 n, .int .i64 slot, .int .i64 0, .int .i64 0, k, x, y, .slice none 0 0, .int .i64 0, .int .i64 0, .int .i64 0, .int .i64 0, .int .i64 0, .int .i64 0, .int .i64 0, .int .i64 0, .int .i64 0, .int .i64 0, .int .i64 0, .slice none 0 0]
def accV (r n slot : Int) (v : Value) : Value := match v with | .agg cs => accM r n slot (cs.getD 0 (.int .i64 0)) (cs.getD 1 (.int .i64 0)) (cs.getD 2 (.int .i64 0)) | v => v
section
variable {w : World} {nb : Nat} {F : Nat → Prop} {P : Pr Vl} {D : Pr Pv} {a : PA}
theorem camp_any (r n frm : Int) (H0 : (HX.obj F (PrO nb P)).X w) (hF : ∀ k, F k → k < w.heap.size) (h1 : 1 ≤ frm ∧ frm ≤ 1099511627776) (h2 : balB r n = true) (h3 : n = P.me) (h4 : ¬ compareV r n P.r P.n ≤ 0) :
    Calls Try.prog 9 #[.pointer (some ⟨nb, 0, none⟩), .agg #[.int .i64 r, .int .i64 n], .int .i64 frm] w (PrMut w F nb (P.begin r n frm) (.tuple #[prepM r n frm, .int .i64 0])) := by
  obtain ⟨D, a, hP, hok, hnb, hB, hX, Fnb, hsub⟩ := pobj_open H0
  refine calls_at (tab_ok _) Try.func9 rfl tPCamp (ρ := ⟨[D.me, D.window, D.phase, D.r, D.n, D.frm, D.next, r, n, frm], [D.stop], [.map (some a.bb), .map (some a.bo)], [D.mem.length, a.cm, D.said.length, a.cs, D.fresh.length, a.cf, D.queue.length, a.cq], [a.am, a.as_, a.af, a.aq]⟩) (ids := [nb]) (hx := prX D a) rfl (Facts.initx (M := F) rfl (fun v hv => by simp only [List.mem_cons, List.not_mem_nil, or_false] at hv; rcases hv with rfl | rfl <;> rfl) hB rfl Fnb hX (fun k hk => ⟨hF k (hsub k hk), fun e => hnb (e ▸ hk)⟩)) ?_
  have hme : n = D.me := by rw [h3, ← hP]; rfl
  have h4 : ¬ compareV r n D.r D.n ≤ 0 := by rw [← hP] at h4; exact h4
  refine br_D (p := frm < 1) (by kernel_rfl) (fun h => absurd h (by omega)) (fun _ => ?_)
  refine br_D (p := frm > 1099511627776) (by kernel_rfl) (fun h => absurd h (by omega)) (fun _ => ?_)
  refine node_PI ⟨[], [true], [], [], []⟩ (fun _ => #[.agg #[.int .i64 r, .int .i64 n]]) (.bool true) (by intros; kernel_rfl) (by intros; kernel_rfl) (by kernel_rfl) (by kernel_rfl) (by kernel_rfl) oneNil (fun ids w2 hp hf => ?_) ?_
  · have := valid_any r n w2
    rw [h2] at this; exact this
  refine br_F false (by kernel_rfl) rfl ?_
  refine br_F (n != D.me) (by kernel_rfl) (by rw [hme]; simp) ?_
  refine node_PI ⟨[compareV r n D.r D.n], [], [], [], []⟩ (fun _ => #[.agg #[.int .i64 r, .int .i64 n], .agg #[.int .i64 D.r, .int .i64 D.n]]) (.int .i64 (compareV r n D.r D.n)) (by intros; kernel_rfl) (by intros; kernel_rfl) (by kernel_rfl) (by kernel_rfl) (by kernel_rfl) oneNil (fun ids w2 hp hf => compare_any r n D.r D.n w2) ?_
  refine br_D (p := compareV r n D.r D.n ≤ 0) (by kernel_rfl) (fun h => absurd h h4) (fun _ => ?_)
  refine holds_eq (nil_and _).symm ?_
  refine node_pset (D := D) (D' := D.down) (a := a) (fun ids => #[.pointer (some ⟨idAt ids 0, 0, none⟩)]) rfl rfl (by intros; kernel_rfl) (by intros; kernel_rfl) (fun ids w2 hp hf hb hn hs => down_any hb hf.x.2 hok hn hs) (by intros; kernel_rfl) (by intros; kernel_rfl) (fun k hk => ⟨fun q => q, .inr (hsub k hk)⟩) (by kernel_rfl) (by intros; kernel_rfl) ?_
  intro a' hok' hdis
  refine node_PI ⟨[1, 0, 0, 0, r, n, frm, 0, 0, 0, 0, 0, 0, 0, 0, 0, 0, 0, 0, 0, 0], [], [], [0, 0, 0, 0, 0, 0, 0, 0], [none, none, none, none]⟩ (fun ids => #[.pointer (some ⟨idAt ids 0, 0, none⟩)]) (prepM r n frm) (by intros; kernel_rfl) (by intros; kernel_rfl) (by kernel_rfl) (by kernel_rfl) (by kernel_rfl) oneNil (fun ids w2 hp hf => ?_) ?_
  · have hb := hf.blk 0 77 _ rfl
    have hm0 : idAt ids 0 ∈ ids := idAt_mem (ids := ids) (n := 0) (by rw [hf.len]; simp)
    have hb : Blk w2 (idAt ids 0) (prC (D.begin r n frm) a') 77 := hb
    exact prep_any (D := D.begin r n frm) (a := a') hb hf.x.2 (fun q => (hf.sep _ (.inr q)).2 hm0) (fun k hk => (hf.sep k (.inr hk)).1)
  refine pr_done (D' := D.begin r n frm) (a' := a') (by rw [← hP]; rfl) ⟨hok'.gm, hok'.gz, hok'.gb, hok'.go, hok'.gq, hok'.dj⟩ (fun w h => h.2) (fun k hk => .inr hk) (fun k hk => ((hdis k hk).2).symm) Fnb (by intros; kernel_rfl) (by intros; kernel_rfl)
theorem acc_any (slot : Int) (hB : Blk w nb (prC D a) 77) (hX : (prX D a).X w) (hok : POk D a) (hnb : ¬ (prX D a).F nb) (hD : ∀ k, (prX D a).F k → k < w.heap.size) : Calls Try.prog 45 #[.pointer (some ⟨nb, 0, none⟩), .int .i64 slot] w (VlNew w (accV D.r D.n slot) ((mlk D.out slot).getD pz).v) := by
  obtain ⟨p, ep⟩ : ∃ p, p = (mlk D.out slot).getD pz := ⟨_, rfl⟩
  have hp : p.hx ∈ a.G ∧ VlFit p.v := by
    rw [ep]
    cases e : mlk D.out slot with
    | none => exact ⟨hok.gz, vz_fit⟩
    | some x => exact hok.go _ (mlk_mem e)
  refine calls_at (tab_ok _) Try.func45 rfl tPAcc (ρ := ⟨[D.me, D.window, D.phase, D.r, D.n, D.frm, D.next, slot], [D.stop], [.map (some a.bb), .map (some a.bo)], [D.mem.length, a.cm, D.said.length, a.cs, D.fresh.length, a.cf, D.queue.length, a.cq], [a.am, a.as_, a.af, a.aq]⟩) (ids := [nb]) (hx := prX D a) rfl (Facts.initx (M := fun k => k = nb) rfl (fun v hv => by simp only [List.mem_cons, List.not_mem_nil, or_false] at hv; rcases hv with rfl | rfl <;> rfl) hB rfl rfl hX (fun k hk => ⟨hD k hk, fun e => hnb (e ▸ hk)⟩)) ?_
  refine node_vlook1 (z := pz.val) (mt := 75) (kt := 3) (et := 31) ⟨[p.v.k], [], [], [p.v.cs.length, p.c1, p.v.ns.length, p.c2], [p.a1, p.a2]⟩ a.bo (mmap Pv.val D.out) slot (fun w h => h.1.1.1.2) (by intros; kernel_rfl) (by intros; kernel_rfl) Try.underlying75 Try.underlying3 (fun w => by kernel_rfl) (fun ids => ?_) (by kernel_rfl) (by kernel_rfl) (by kernel_rfl) oneNil ?_
  · have : (vlk (mmap Pv.val D.out) slot).getD pz.val = p.val := by
      rw [vlk_is, mlk_map, ep]
      cases mlk D.out slot <;> rfl
    exact Eq.trans (b := p.val) (by kernel_rfl) this.symm
  rw [← ep]
  refine node_vl (V := id) (v := p.v) (fun _ => #[p.val]) (fun b1 d1 b2 d2 => ⟨[p.v.k], [], [], [p.v.cs.length, d1, p.v.ns.length, d2], [b1, b2]⟩) (by intros; kernel_rfl) (fun ids w2 hp2 hf => vclone_any _ _ _ _ _ w2 (hp.2.at_ (hf.x.1.1.1.1.1 _ hp.1))) (by intros; kernel_rfl) (by kernel_rfl) (by kernel_rfl) (by intros; kernel_rfl) (fun _ _ _ _ => oneNil) ?_
  intro b1 d1 b2 d2 hfr ids w2 hp2 hf
  exact ⟨b1, d1, b2, d2, rfl, hf.x.2, fun k hk => (hfr k hk).1, (hf.chg.same (hf.same1 hp2 hB rfl)).below⟩
end
end Go.Proofs.Ytlgpjjgkdpmidaa
