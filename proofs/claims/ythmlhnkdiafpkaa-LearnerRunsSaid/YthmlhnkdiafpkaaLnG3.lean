/- The reference's functions: Without, Missing, Size. -/
import Derived.Test.YthmlhnkdiafpkaaLnG2
namespace Go.Proofs.Ythmlhnkdiafpkaa
open Go.ChangeShapes Go.WideShapes Go.ChangeAt Go.RowKit Go.Syn Go.Eng Go.MapKept
set_option linter.unusedVariables false
set_option linter.unusedSimpArgs false
set_option maxRecDepth 100000
section
variable {A : RA} {w : World}
/-- What Without makes of a learner. -/
def WoQ (A : RA) (slot : Int) (b : Bool) (A' : RA) : Prop := A'.mem = A.mem ∧ A'.next = A.next ∧ A'.top = A.top ∧ A'.ks = A.ks.filter (fun k => !b || decide (k.slot > slot)) ∧ A'.ds = A.ds.filter (fun d => decide (d.slot > slot))
theorem rwithout_any (slot : Int) (b : Bool) (w : World) (ok : A.Ok) (H : A.hx.X w) : Calls Try.prog 46 #[A.val, .int .i64 slot, .bool b] w (RaRet w A id (WoQ A slot b)) := by
  have lk := ok.lk
  have ld := ok.ld
  obtain ⟨f, ef⟩ : ∃ x : RD → Bool, x = fun d => decide (d.slot > slot) := ⟨_, rfl⟩
  obtain ⟨g, eg⟩ : ∃ x : RK → Bool, x = fun k => !b || decide (k.slot > slot) := ⟨_, rfl⟩
  refine calls_at (tab_ok _) Try.func46 rfl tRWithout (ρ := ⟨[A.next, A.top, slot], [b], [], [A.mem.length, A.cm, A.ks.length, A.ck, A.ds.length, A.cd], [A.am, A.ak, A.ad]⟩) (ids := []) (hx := A.hx) rfl (Facts.initq rfl oneNil H (RA.sep H)) ?_
  refine ⟨FlD w A.hx A.ds f, fun ids w2 hp hf => ⟨A.hx.and (dRow (some ⟨idAt ids 2, 0, none⟩) 0 []), A.ds.length, ⟨⟨hf.x, HX.rw_nil _ _ _ _⟩, fun k hk => hk.elim (hf.sep k) fun q => absurd rfl q.1⟩, 0, some ⟨idAt ids 2, 0, none⟩, 0, rfl, Nat.zero_le _, rfl, (fun k h => absurd rfl h), rfl⟩, ?_⟩
  rintro vs hx' n hcnt ⟨k, a, cap, rfl, hk, rfl, hO, rfl⟩
  obtain ⟨fs, efs⟩ : ∃ x, x = (A.ds.take k).filter f := ⟨_, rfl⟩
  have hfl : fs.length ≤ 1000 := by rw [efs]; exact Nat.le_trans (filt_le _ _ _) ld
  rw [← efs]
  refine holds_env (ρ' := ⟨[A.next, A.top, slot, (k : Int)], [b], [], [A.mem.length, A.cm, A.ks.length, A.ck, A.ds.length, A.cd, fs.length, cap], [A.am, A.ak, A.ad, a]⟩) rfl ?_
  refine br_D (p := (k : Int) < (A.ds.length : Int)) (by kernel_rfl) (fun hkl => ?_) (fun hkl => ?_)
  · have hkl : k < A.ds.length := by omega
    obtain ⟨d, hd⟩ : ∃ b, A.ds[k]? = some b := ⟨_, List.getElem?_eq_getElem hkl⟩
    obtain ⟨s1, q1⟩ := d_elt (RA.xd H) hd 0 [.int .i64 d.slot] (part_of rfl) (by simp)
    obtain ⟨_, q2⟩ := d_elt (RA.xd H) hd 0 [.int .i64 d.slot, .int .i64 0, .int .i64 0, .int .i64 d.p.v.k, .slice d.p.a1 d.p.v.cs.length d.p.c1, .slice d.p.a2 d.p.v.ns.length d.p.c2] (part_of rfl) (by simp)
    have hst := filt_step (p := f) hd
    rw [← efs] at hst
    refine ⟨JnD w A.hx A.ds f k, ?_, ?_⟩
    · refine need_k (A.ad.isSome = true ∧ 0 ≤ (k : Int) ∧ (k : Int) < (A.ds.length : Int)) (by kernel_rfl) ⟨s1, by omega, by omega⟩ ?_
      refine node_ld0 (k := ⟨4, 1, 0, 8, 4⟩) ⟨[d.slot], [], [], [], []⟩ (.pointer (some (((A.ad.getD ⟨0, 0, none⟩).add (k * 6)).add 0))) [.int .i64 d.slot] (by intros; kernel_rfl) (by intros; kernel_rfl) q1 ⟨by kernel_rfl, oneNil⟩ (by kernel_rfl) oneNil ?_
      refine br_D (p := d.slot > slot) (by kernel_rfl) (fun he => ?_) (fun he => ?_)
      · rw [if_pos (by rw [ef]; exact decide_eq_true he)] at hst
        refine need_k (A.ad.isSome = true ∧ 0 ≤ (k : Int) ∧ (k : Int) < (A.ds.length : Int)) (by kernel_rfl) ⟨s1, by omega, by omega⟩ ?_
        refine node_ld0 (k := ⟨5, 1, 0, 8, 4⟩) ⟨[d.slot, 0, 0, d.p.v.k], [], [], [d.p.v.cs.length, d.p.c1, d.p.v.ns.length, d.p.c2], [d.p.a1, d.p.a2]⟩ (.pointer (some (((A.ad.getD ⟨0, 0, none⟩).add (k * 6)).add 0))) d.cells (by intros; kernel_rfl) (by intros; kernel_rfl) q2 ⟨by kernel_rfl, oneNil⟩ (by kernel_rfl) oneNil ?_
        refine node_pushs (e := 34) (sz := 6) rfl Try.underlying27 info_vot rfl (by decide) a fs.length cap (dcs fs) d.cells 3 (by intros; kernel_rfl) (by intros; kernel_rfl) rfl (by intros; kernel_rfl) rfl (dcell_one d) (fun q q1 q2 => (hO q q1 q2).2) (fun q q1 q2 => .inl (hO q q1 q2).1) (by unfold maxLen; omega) (by omega) (by intros; kernel_rfl) (by kernel_rfl) (by kernel_rfl) (by intros; kernel_rfl) ?_
        intro a' cap' hc' hr' hor'
        refine again_V ⟨[], [], [], [fs.length + 1, cap'], [a']⟩ rfl (by intros; kernel_rfl) (A.hx.and (dRow a' cap' ((A.ds.take (k + 1)).filter f))) (fun w2 ids hf => ⟨⟨hf.x.1, ?_⟩, hf.sep⟩) ⟨a', cap', by rw [hst, List.length_append]; rfl, own_step hO hr' hor', rfl⟩
        have := hf.x.2
        rw [dcs_snoc] at this
        show (HX.rw 6 34 a' _ cap' (dcs _)).X w2
        rw [hst, List.length_append]; exact this
      · rw [if_neg (by rw [ef]; simpa using he), List.append_nil] at hst
        exact again_V ⟨[], [], [], [fs.length, cap], [a]⟩ rfl (by intros; kernel_rfl) (A.hx.and (dRow a cap ((A.ds.take (k + 1)).filter f))) (fun w2 ids hf => ⟨by rw [hst]; exact hf.x, hf.sep⟩) ⟨a, cap, by rw [hst], hO, rfl⟩
    · rintro vs hx' hcnt2 ⟨a', cap', rfl, hO', rfl⟩
      have hwk : IntKind.i64.wrap ((k : Int) + 1) = ((k + 1 : Nat) : Int) := by rw [wrap_i64 (by omega)]; omega
      exact again_V ⟨[IntKind.i64.wrap ((k : Int) + 1)], [], [], [((A.ds.take (k + 1)).filter f).length, cap'], [a']⟩ rfl (by intros; kernel_rfl) _ (fun w2 ids hf => ⟨hf.x, hf.sep⟩) ⟨A.ds.length - (k + 1), by omega, k + 1, a', cap', rfl, by omega, by rw [hwk], hO', rfl⟩
  have hks : A.ds.take k = A.ds := List.take_of_length_le (by omega)
  rw [hks] at efs
  obtain ⟨B, eB⟩ : ∃ x, x = A.hx.and (dRow a cap fs) := ⟨_, rfl⟩
  rw [← eB]
  have Bx : ∀ {w}, B.X w → A.hx.X w ∧ (dRow a cap fs).X w := fun h => by rw [eB] at h; exact h
  refine ⟨FlK w B A.ks g, fun ids w2 hp hf => ⟨B.and (kRow (some ⟨idAt ids 3, 0, none⟩) 0 []), A.ks.length, ⟨⟨hf.x, HX.rw_nil _ _ _ _⟩, fun k hk => hk.elim (hf.sep k) fun q => absurd rfl q.1⟩, 0, some ⟨idAt ids 3, 0, none⟩, 0, rfl, Nat.zero_le _, rfl, (fun k h => absurd rfl h), rfl⟩, ?_⟩
  rintro vs hx' n hcnt2 ⟨j, a3, c3, rfl, hj, rfl, hO3, rfl⟩
  obtain ⟨gs, egs⟩ : ∃ x, x = (A.ks.take j).filter g := ⟨_, rfl⟩
  have hgl : gs.length ≤ 1000 := by rw [egs]; exact Nat.le_trans (filt_le _ _ _) lk
  rw [← egs]
  refine holds_env (ρ' := ⟨[A.next, A.top, slot, (k : Int), (j : Int)], [b], [], [A.mem.length, A.cm, A.ks.length, A.ck, A.ds.length, A.cd, fs.length, cap, gs.length, c3], [A.am, A.ak, A.ad, a, a3]⟩) rfl ?_
  refine br_D (p := (j : Int) < (A.ks.length : Int)) (by kernel_rfl) (fun hjl => ?_) (fun hjl => ?_)
  · have hjl : j < A.ks.length := by omega
    obtain ⟨d, hd⟩ : ∃ b, A.ks[j]? = some b := ⟨_, List.getElem?_eq_getElem hjl⟩
    obtain ⟨s1, q1⟩ := k_elt (RA.xk H) hd 1 [.int .i64 d.slot] (part_of rfl) (by simp)
    obtain ⟨_, q2⟩ := k_elt (RA.xk H) hd 0 d.cells (part_of rfl) (by simp [RK.cells])
    have hst := filt_step (p := g) hd
    rw [← egs] at hst
    have sep0 : ∀ q, c3 ≠ 0 → abk a3 = some q → ¬ B.F q := fun q q1 q2 => (hO3 q q1 q2).2
    refine ⟨JnK w B A.ks g j, ?_, ?_⟩
    · refine br_B (!b) (by kernel_rfl) (fun hb => ?_) (fun hb => ?_)
      · rw [if_pos (by rw [eg]; show (!b || _) = true; rw [hb]; rfl)] at hst
        refine need_k (A.ak.isSome = true ∧ 0 ≤ (j : Int) ∧ (j : Int) < (A.ks.length : Int)) (by kernel_rfl) ⟨s1, by omega, by omega⟩ ?_
        refine node_ld0 (k := ⟨5, 1, 0, 10, 5⟩) ⟨[d.node, d.slot, d.r, d.n, d.p.v.k], [], [], [d.p.v.cs.length, d.p.c1, d.p.v.ns.length, d.p.c2], [d.p.a1, d.p.a2]⟩ (.pointer (some (((A.ak.getD ⟨0, 0, none⟩).add (j * 7)).add 0))) d.cells (by intros; kernel_rfl) (by intros; kernel_rfl) q2 ⟨by kernel_rfl, oneNil⟩ (by kernel_rfl) oneNil ?_
        refine node_pushs (e := 93) (sz := 7) rfl Try.underlying58 info_hrd rfl (by decide) a3 gs.length c3 (kcs gs) d.cells 4 (by intros; kernel_rfl) (by intros; kernel_rfl) rfl (by intros; kernel_rfl) rfl (kcell_one d) sep0 (fun q q1 q2 => .inl (hO3 q q1 q2).1) (by unfold maxLen; omega) (by omega) (by intros; kernel_rfl) (by kernel_rfl) (by kernel_rfl) (by intros; kernel_rfl) ?_
        intro a' cap' hc' hr' hor'
        refine again_V ⟨[], [], [], [gs.length + 1, cap'], [a']⟩ rfl (by intros; kernel_rfl) (B.and (kRow a' cap' ((A.ks.take (j + 1)).filter g))) (fun w2 ids hf => ⟨⟨hf.x.1, ?_⟩, hf.sep⟩) ⟨a', cap', by rw [hst, List.length_append]; rfl, own_step hO3 hr' hor', rfl⟩
        have := hf.x.2
        rw [kcs_snoc] at this
        show (HX.rw 7 93 a' _ cap' (kcs _)).X w2
        rw [hst, List.length_append]; exact this
      · refine need_k (A.ak.isSome = true ∧ 0 ≤ (j : Int) ∧ (j : Int) < (A.ks.length : Int)) (by kernel_rfl) ⟨s1, by omega, by omega⟩ ?_
        refine node_ld0 (k := ⟨5, 1, 0, 10, 5⟩) ⟨[d.slot], [], [], [], []⟩ (.pointer (some (((A.ak.getD ⟨0, 0, none⟩).add (j * 7)).add 1))) [.int .i64 d.slot] (by intros; kernel_rfl) (by intros; kernel_rfl) q1 ⟨by kernel_rfl, oneNil⟩ (by kernel_rfl) oneNil ?_
        refine br_D (p := d.slot > slot) (by kernel_rfl) (fun he => ?_) (fun he => ?_)
        · rw [if_pos (by rw [eg]; show (!b || decide (d.slot > slot)) = true; rw [hb, decide_eq_true he]; rfl)] at hst
          refine need_k (A.ak.isSome = true ∧ 0 ≤ (j : Int) ∧ (j : Int) < (A.ks.length : Int)) (by kernel_rfl) ⟨s1, by omega, by omega⟩ ?_
          refine node_ld0 (k := ⟨6, 1, 0, 10, 5⟩) ⟨[d.node, d.slot, d.r, d.n, d.p.v.k], [], [], [d.p.v.cs.length, d.p.c1, d.p.v.ns.length, d.p.c2], [d.p.a1, d.p.a2]⟩ (.pointer (some (((A.ak.getD ⟨0, 0, none⟩).add (j * 7)).add 0))) d.cells (by intros; kernel_rfl) (by intros; kernel_rfl) q2 ⟨by kernel_rfl, oneNil⟩ (by kernel_rfl) oneNil ?_
          refine node_pushs (e := 93) (sz := 7) rfl Try.underlying58 info_hrd rfl (by decide) a3 gs.length c3 (kcs gs) d.cells 4 (by intros; kernel_rfl) (by intros; kernel_rfl) rfl (by intros; kernel_rfl) rfl (kcell_one d) sep0 (fun q q1 q2 => .inl (hO3 q q1 q2).1) (by unfold maxLen; omega) (by omega) (by intros; kernel_rfl) (by kernel_rfl) (by kernel_rfl) (by intros; kernel_rfl) ?_
          intro a' cap' hc' hr' hor'
          refine again_V ⟨[], [], [], [gs.length + 1, cap'], [a']⟩ rfl (by intros; kernel_rfl) (B.and (kRow a' cap' ((A.ks.take (j + 1)).filter g))) (fun w2 ids hf => ⟨⟨hf.x.1, ?_⟩, hf.sep⟩) ⟨a', cap', by rw [hst, List.length_append]; rfl, own_step hO3 hr' hor', rfl⟩
          have := hf.x.2
          rw [kcs_snoc] at this
          show (HX.rw 7 93 a' _ cap' (kcs _)).X w2
          rw [hst, List.length_append]; exact this
        · rw [if_neg (by rw [eg]; show ¬ (!b || decide (d.slot > slot)) = true; rw [hb, decide_eq_false he]; decide), List.append_nil] at hst
          exact again_V ⟨[], [], [], [gs.length, c3], [a3]⟩ rfl (by intros; kernel_rfl) (B.and (kRow a3 c3 ((A.ks.take (j + 1)).filter g))) (fun w2 ids hf => ⟨by rw [hst]; exact hf.x, hf.sep⟩) ⟨a3, c3, by rw [hst], hO3, rfl⟩
    · rintro vs hx' hcnt2 ⟨a', cap', rfl, hO', rfl⟩
      have hwk : IntKind.i64.wrap ((j : Int) + 1) = ((j + 1 : Nat) : Int) := by rw [wrap_i64 (by omega)]; omega
      exact again_V ⟨[IntKind.i64.wrap ((j : Int) + 1)], [], [], [((A.ks.take (j + 1)).filter g).length, cap'], [a']⟩ rfl (by intros; kernel_rfl) _ (fun w2 ids hf => ⟨hf.x, hf.sep⟩) ⟨A.ks.length - (j + 1), by omega, j + 1, a', cap', rfl, by omega, by rw [hwk], hO', rfl⟩
  · have hjs : A.ks.take j = A.ks := List.take_of_length_le (by omega)
    rw [hjs] at egs
    intro ids w2 hp hf
    have hD := (Bx hf.x.1).2
    have hAX := (Bx hf.x.1).1
    have hK : (kRow a3 c3 gs).X w2 := hf.x.2
    have s1 : ∀ x ∈ fs, x ∈ A.ds := fun x hx => by rw [efs] at hx; exact (List.mem_filter.1 hx).1
    have s2 : ∀ x ∈ gs, x ∈ A.ks := fun x hx => by rw [egs] at hx; exact (List.mem_filter.1 hx).1
    refine ⟨{ A with ak := a3, ck := c3, ks := gs, ad := a, cd := cap, ds := fs }, ⟨rfl, rfl, rfl, by rw [egs, eg], by rw [efs, ef]⟩, rfl, RA.X_of (show Ints w2 A.am A.mem from RA.xm hAX) (rw_cells hK) (rw_cells hD) (fun x hx => RA.X_kv hAX (s2 x hx)) (fun x hx => RA.X_dv hAX (s1 x hx)), fun q hq => ?_, hf.chg.below⟩
    rcases RA.F_of hq with z | z | z | ⟨x, hx, z⟩ | ⟨x, hx, z⟩
    · exact .inl (RA.F_m z)
    · exact .inr (cl_row hK (fun q q1 q2 => (hO3 q q1 q2).1) q z)
    · exact .inr (cl_row hD (fun q q1 q2 => (hO q q1 q2).1) q z)
    · exact .inl (RA.F_kv (s2 x hx) z)
    · exact .inl (RA.F_dv (s1 x hx) z)
/-! ### Missing -/
def rmF (A : RA) (most : Int) : Nat → Int → List Int → List Int
  | 0, _, out => out
  | n + 1, s, out => rmF A most n (s + 1) (if (A.known s).2 = false ∧ (out.length : Int) < most then out ++ [s] else out)
def RA.missing (A : RA) (most : Int) : List Int := rmF A most (A.top - A.next + 1).toNat A.next []
def RmI (w : World) (A : RA) (most : Int) (vs : Vals) (hx : HX) (n : Nat) : Prop := ∃ (s : Int) (a : Option Addr) (cap : Nat) (out : List Int), n = (A.top - s + 1).toNat ∧ A.next ≤ s ∧ s ≤ 1099511627778 ∧ (out.length : Int) ≤ s - A.next ∧ vs = ⟨[s], [], [], [out.length, cap], [a]⟩ ∧ rmF A most n s out = A.missing most ∧ OwnR w A.hx a cap ∧ hx = A.hx.and (HX.rw 1 3 a out.length cap (out.map (Value.int .i64)))
theorem rmissing_any (most : Int) (w : World) (ok : A.Ok) (H : A.hx.X w) : Calls Try.prog 45 #[A.val, .int .i64 most] w (RwNew w id 1 3 (A.missing most).length ((A.missing most).map (Value.int .i64))) := by
  have n1 := ok.n1
  have n2 := ok.n2
  have t0 := ok.t0
  have t2 := ok.t2
  refine calls_at (tab_ok _) Try.func45 rfl tRMissing (ρ := ⟨[A.next, A.top, most], [], [], [A.mem.length, A.cm, A.ks.length, A.ck, A.ds.length, A.cd], [A.am, A.ak, A.ad]⟩) (ids := []) (hx := A.hx) rfl (Facts.initq rfl oneNil H (RA.sep H)) ?_
  refine ⟨RmI w A most, fun ids w2 hp hf => ⟨A.hx.and (HX.rw 1 3 (some ⟨idAt ids 1, 0, none⟩) 0 0 []), _, ⟨⟨hf.x, HX.rw_nil _ _ _ _⟩, fun k hk => hk.elim (hf.sep k) fun q => absurd rfl q.1⟩, A.next, some ⟨idAt ids 1, 0, none⟩, 0, [], rfl, by omega, by omega, by simp, rfl, rfl, (fun k h => absurd rfl h), rfl⟩, ?_⟩
  rintro vs hx' n hcnt ⟨s, a, cap, out, rfl, hs, hs2, hl, rfl, hm, hO, rfl⟩
  refine holds_env (ρ' := ⟨[A.next, A.top, most, s], [], [], [A.mem.length, A.cm, A.ks.length, A.ck, A.ds.length, A.cd, out.length, cap], [A.am, A.ak, A.ad, a]⟩) rfl ?_
  refine br_D (p := s ≤ A.top) (by kernel_rfl) (fun h1 => ?_) (fun h1 => ?_)
  · obtain ⟨out', eo⟩ : ∃ o, o = if (A.known s).2 = false ∧ (out.length : Int) < most then out ++ [s] else out := ⟨_, rfl⟩
    obtain ⟨n0, en⟩ : ∃ n0, (A.top - s + 1).toNat = n0 + 1 := ⟨(A.top - s).toNat, by omega⟩
    have hm2 : rmF A most n0 (s + 1) out' = A.missing most := by rw [← hm, en, eo]; rfl
    have hl2 : (out'.length : Int) ≤ s + 1 - A.next := by
      rw [eo]; split
      · rw [List.length_append]; simp only [List.length_cons, List.length_nil]; omega
      · omega
    refine ⟨fun vs hx' => ∃ (a' : Option Addr) (cap' : Nat), vs = ⟨[], [], [], [out'.length, cap'], [a']⟩ ∧ OwnR w A.hx a' cap' ∧ hx' = A.hx.and (HX.rw 1 3 a' out'.length cap' (out'.map (Value.int .i64))), ?_, ?_⟩
    · refine node_vl (V := fun x => .tuple #[x, .bool (A.known s).2]) (v := (A.known s).1) (fun _ => #[A.val, .int .i64 s]) (fun b1 d1 b2 d2 => ⟨[(A.known s).1.k], [(A.known s).2], [], [(A.known s).1.cs.length, d1, (A.known s).1.ns.length, d2], [b1, b2]⟩) (by intros; kernel_rfl) (fun ids w2 hp hf => rknown_any s w2 ok hf.x.1) (by intros; kernel_rfl) (by kernel_rfl) (by kernel_rfl) (by intros; kernel_rfl) (fun _ _ _ _ => oneNil) ?_
      intro b1 d1 b2 d2 hfr
      refine br_B (!(A.known s).2) (by kernel_rfl) (fun h => ?_) (fun h => ?_)
      · have h : (A.known s).2 = false := by simpa using h
        refine br_D (p := (out.length : Int) < most) (by kernel_rfl) (fun h2 => ?_) (fun h2 => ?_)
        · rw [if_pos ⟨h, h2⟩] at eo
          refine holds_eq (HX.and_right_comm _ _ _) ?_
          refine node_pushs (e := 3) (sz := 1) rfl Try.underlying26 info_int1 rfl (by decide) a out.length cap (out.map (Value.int .i64)) [.int .i64 s] 3 (by intros; kernel_rfl) (by intros; kernel_rfl) rfl (by intros; kernel_rfl) rfl (fun v hv => by simp only [List.mem_singleton] at hv; subst hv; rfl) (fun k q1 q2 z => z.elim (hO k q1 q2).2 fun z => (hfr k z).2 (.inr ⟨q1, q2⟩)) (fun k q1 q2 => .inl (hO k q1 q2).1) (by unfold maxLen; omega) (by omega) (by intros; kernel_rfl) (by kernel_rfl) (by kernel_rfl) (by intros; kernel_rfl) ?_
          intro a' cap' hc' hr' hor'
          refine again_V ⟨[], [], [], [out'.length, cap'], [a']⟩ rfl (fun ids => by rw [eo, List.length_append]; kernel_rfl) (A.hx.and (HX.rw 1 3 a' out'.length cap' (out'.map (Value.int .i64)))) (fun w2 ids hf => ⟨⟨hf.x.1.1, ?_⟩, fun k hk => hf.sep k (hk.elim (fun q => .inl (.inl q)) .inr)⟩) ⟨a', cap', rfl, own_step hO (fun k q z => hr' k q (.inl z)) hor', rfl⟩
          rw [eo, List.length_append, List.map_append]; exact hf.x.2
        · rw [if_neg (fun q => h2 q.2)] at eo
          rw [eo]
          exact again_V ⟨[], [], [], [out.length, cap], [a]⟩ rfl (by intros; kernel_rfl) (A.hx.and (HX.rw 1 3 a out.length cap (out.map (Value.int .i64)))) (fun w2 ids hf => ⟨⟨hf.x.1.1, hf.x.1.2⟩, fun k hk => hf.sep k (.inl hk)⟩) ⟨a, cap, rfl, hO, rfl⟩
      · rw [if_neg (fun q => by rw [q.1] at h; cases h)] at eo
        rw [eo]
        exact again_V ⟨[], [], [], [out.length, cap], [a]⟩ rfl (by intros; kernel_rfl) (A.hx.and (HX.rw 1 3 a out.length cap (out.map (Value.int .i64)))) (fun w2 ids hf => ⟨⟨hf.x.1.1, hf.x.1.2⟩, fun k hk => hf.sep k (.inl hk)⟩) ⟨a, cap, rfl, hO, rfl⟩
    · rintro vs hx' hcnt2 ⟨a', cap', rfl, hO', rfl⟩
      have ew : IntKind.i64.wrap (s + 1) = s + 1 := wrap_i64 (by omega)
      exact again_V ⟨[s + 1], [], [], [out'.length, cap'], [a']⟩ rfl (fun ids => by rw [← ew]; kernel_rfl) _ (fun w2 ids hf => ⟨hf.x, hf.sep⟩) ⟨n0, by omega, s + 1, a', cap', out', by omega, by omega, by omega, hl2, rfl, hm2, hO', rfl⟩
  · have e : A.missing most = out := by
      rw [← hm, show (A.top - s + 1).toNat = 0 by omega]; rfl
    rw [e]
    intro ids w2 hp hf
    exact ⟨a, cap, rfl, hf.x.2, fun k h1 h2 => (hO k h1 h2).1, hf.chg.below⟩
/-! ### Size -/
theorem snoc_rec {α : Type} {p : List α → Prop} (h0 : p []) (h : ∀ xs x, p xs → p (xs ++ [x])) (xs : List α) : p xs := by
  have : ∀ ys : List α, p ys.reverse := fun ys => by
    induction ys with
    | nil => exact h0
    | cons y ys ih => rw [List.reverse_cons]; exact h _ _ ih
  rw [← List.reverse_reverse xs]; exact this _
def dsl (ks : List RK) : List Int := ks.foldl (fun acc k => if acc.all (fun s => s != k.slot) = true then acc ++ [k.slot] else acc) []
def RA.size (A : RA) : Int := A.ds.length + (dsl A.ks).length
theorem dsl_snoc (ks : List RK) (k : RK) : dsl (ks ++ [k]) = if (dsl ks).all (fun s => s != k.slot) = true then dsl ks ++ [k.slot] else dsl ks := by unfold dsl; rw [List.foldl_append]; rfl
theorem dsl_mem (ys : List RK) : ∀ s, s ∈ dsl ys ↔ ∃ k ∈ ys, k.slot = s := by
  refine snoc_rec (p := fun ys => ∀ s, s ∈ dsl ys ↔ ∃ k ∈ ys, k.slot = s) (fun s => by simp [dsl]) (fun zs z ih => ?_) ys
  · intro s
    rw [dsl_snoc]
    split
    · rw [List.mem_append, ih, List.mem_singleton]
      constructor
      · rintro (⟨k, h1, h2⟩ | rfl)
        · exact ⟨k, List.mem_append_left _ h1, h2⟩
        · exact ⟨z, List.mem_append_right _ (List.mem_singleton.2 rfl), rfl⟩
      · rintro ⟨k, h1, rfl⟩
        rcases List.mem_append.1 h1 with h1 | h1
        · exact .inl ⟨k, h1, rfl⟩
        · rw [List.mem_singleton.1 h1]; exact .inr rfl
    · rename_i hn
      rw [ih]
      constructor
      · rintro ⟨k, h1, h2⟩
        exact ⟨k, List.mem_append_left _ h1, h2⟩
      · rintro ⟨k, h1, rfl⟩
        rcases List.mem_append.1 h1 with h1 | h1
        · exact ⟨k, h1, rfl⟩
        · rw [List.mem_singleton.1 h1]
          refine Classical.byContradiction fun q => hn (List.all_eq_true.2 fun t ht => ?_)
          have : t ≠ z.slot := fun e => q ((ih z.slot).1 (e ▸ ht))
          simpa using this
theorem dsl_all (ys : List RK) (s : Int) : (dsl ys).all (fun t => t != s) = ys.all (fun k => k.slot != s) := by
  rw [Bool.eq_iff_iff, List.all_eq_true, List.all_eq_true]
  constructor
  · intro h k hk
    exact h k.slot ((dsl_mem ys _).2 ⟨k, hk, rfl⟩)
  · intro h t ht
    obtain ⟨k, hk, rfl⟩ := (dsl_mem ys _).1 ht
    exact h k hk
theorem dsl_nodup (ys : List RK) : (dsl ys).Nodup := by
  refine snoc_rec (p := fun ys => (dsl ys).Nodup) List.nodup_nil (fun zs z ih => ?_) ys
  · show (dsl (zs ++ [z])).Nodup
    rw [dsl_snoc]
    split
    · rename_i h
      rw [List.nodup_append]
      refine ⟨ih, by simp, fun a ha b hb => ?_⟩
      rw [List.mem_singleton.1 hb]
      have := List.all_eq_true.1 h a ha
      simpa using this
    · exact ih
theorem dsl_le (ys : List RK) : (dsl ys).length ≤ ys.length := by
  refine snoc_rec (p := fun ys => (dsl ys).length ≤ ys.length) (Nat.le_refl _) (fun zs z ih => ?_) ys
  · show (dsl (zs ++ [z])).length ≤ (zs ++ [z]).length
    rw [dsl_snoc, List.length_append]
    split
    · rw [List.length_append]; simp only [List.length_cons, List.length_nil]; omega
    · simp only [List.length_cons, List.length_nil]; omega
def RsI (A : RA) (vs : Vals) (hx : HX) (n : Nat) : Prop := ∃ k : Nat, n = A.ks.length - k ∧ k ≤ A.ks.length ∧ vs = ⟨[(A.ds.length : Int) + (dsl (A.ks.take k)).length, (k : Int)], [], [], [], []⟩ ∧ hx = A.hx
def RsJ (A : RA) (k : Nat) (d : RK) (vs : Vals) (hx : HX) (n : Nat) : Prop := ∃ j : Nat, n = k - j ∧ j ≤ k ∧ vs = ⟨[(j : Int)], [(A.ks.take j).all (fun x => x.slot != d.slot)], [], [], []⟩ ∧ hx = A.hx
theorem rsize_any (w : World) (ok : A.Ok) (H : A.hx.X w) : Calls Try.prog 27 #[A.val] w (PureAt w (.int .i64 A.size)) := by
  have lk := ok.lk
  have ld := ok.ld
  refine calls_at (tab_ok _) Try.func27 rfl tRSize (ρ := ⟨[A.next, A.top], [], [], [A.mem.length, A.cm, A.ks.length, A.ck, A.ds.length, A.cd], [A.am, A.ak, A.ad]⟩) (ids := []) (hx := A.hx) rfl (Facts.initq rfl oneNil H (RA.sep H)) ?_
  refine ⟨RsI A, fun ids w2 hp hf => ⟨_, A.ks.length, ⟨hf.x, hf.sep⟩, 0, rfl, Nat.zero_le _, by rw [show (A.ds.length : Int) + (dsl (A.ks.take 0)).length = (A.ds.length : Int) by simp [dsl]]; rfl, rfl⟩, ?_⟩
  rintro vs hx' n hcnt ⟨k, rfl, hk, rfl, rfl⟩
  obtain ⟨z, ez⟩ : ∃ z : Int, z = (A.ds.length : Int) + (dsl (A.ks.take k)).length := ⟨_, rfl⟩
  have hz : 0 ≤ z ∧ z ≤ 2000 := by
    have := dsl_le (A.ks.take k)
    rw [List.length_take] at this
    omega
  rw [← ez]
  refine holds_env (ρ' := ⟨[A.next, A.top, z, (k : Int)], [], [], [A.mem.length, A.cm, A.ks.length, A.ck, A.ds.length, A.cd], [A.am, A.ak, A.ad]⟩) rfl ?_
  refine br_D (p := (k : Int) < (A.ks.length : Int)) (by kernel_rfl) (fun hkl => ?_) (fun hkl => ?_)
  · have hkl : k < A.ks.length := by omega
    obtain ⟨d, hd⟩ : ∃ b, A.ks[k]? = some b := ⟨_, List.getElem?_eq_getElem hkl⟩
    obtain ⟨s1, q1⟩ := k_elt (RA.xk H) hd 1 [.int .i64 d.slot] (part_of rfl) (by simp)
    obtain ⟨z', ez'⟩ : ∃ z : Int, z = (A.ds.length : Int) + (dsl (A.ks.take (k + 1))).length := ⟨_, rfl⟩
    have hst : z' = if (A.ks.take k).all (fun x => x.slot != d.slot) = true then z + 1 else z := by
      rw [ez', List.take_add_one, hd, Option.toList, dsl_snoc, dsl_all, ez]
      split
      · rw [List.length_append]; simp only [List.length_cons, List.length_nil]; omega
      · rfl
    refine ⟨fun vs hx' => vs = ⟨[z'], [], [], [], []⟩ ∧ hx' = A.hx, ?_, ?_⟩
    · refine ⟨RsJ A k d, fun ids w2 hp hf => ⟨_, k, ⟨hf.x, hf.sep⟩, 0, rfl, Nat.zero_le _, rfl, rfl⟩, ?_⟩
      rintro vs hx' n hcnt2 ⟨j, rfl, hj, rfl, rfl⟩
      obtain ⟨b, eb⟩ : ∃ b, b = (A.ks.take j).all (fun x => x.slot != d.slot) := ⟨_, rfl⟩
      rw [← eb]
      refine holds_env (ρ' := ⟨[A.next, A.top, z, (k : Int), (j : Int)], [b], [], [A.mem.length, A.cm, A.ks.length, A.ck, A.ds.length, A.cd], [A.am, A.ak, A.ad]⟩) rfl ?_
      refine br_D (p := (j : Int) < (k : Int)) (by kernel_rfl) (fun hjk => ?_) (fun hjk => ?_)
      · have hjl : j < A.ks.length := by omega
        obtain ⟨d2, hd2⟩ : ∃ b, A.ks[j]? = some b := ⟨_, List.getElem?_eq_getElem hjl⟩
        obtain ⟨s2, q2⟩ := k_elt (RA.xk H) hd2 1 [.int .i64 d2.slot] (part_of rfl) (by simp)
        have hwj : IntKind.i64.wrap ((j : Int) + 1) = ((j + 1 : Nat) : Int) := by rw [wrap_i64 (by omega)]; omega
        have hb2 : (A.ks.take (j + 1)).all (fun x => x.slot != d.slot) = (b && (d2.slot != d.slot)) := by
          rw [List.take_add_one, hd2, List.all_append, ← eb]
          show (b && (d2.slot != d.slot && true)) = _
          rw [Bool.and_true]
        refine br_B b (by kernel_rfl) (fun hb => ?_) (fun hb => ?_)
        · refine need_k (A.ak.isSome = true ∧ 0 ≤ (j : Int) ∧ (j : Int) < (A.ks.length : Int)) (by kernel_rfl) ⟨s2, by omega, by omega⟩ ?_
          refine node_ld0 (k := ⟨5, 1, 0, 6, 3⟩) ⟨[d2.slot], [], [], [], []⟩ (.pointer (some (((A.ak.getD ⟨0, 0, none⟩).add (j * 7)).add 1))) [.int .i64 d2.slot] (by intros; kernel_rfl) (by intros; kernel_rfl) q2 ⟨by kernel_rfl, oneNil⟩ (by kernel_rfl) oneNil ?_
          refine need_k (A.ak.isSome = true ∧ 0 ≤ (k : Int) ∧ (k : Int) < (A.ks.length : Int)) (by kernel_rfl) ⟨s1, by omega, by omega⟩ ?_
          refine node_ld0 (k := ⟨6, 1, 0, 6, 3⟩) ⟨[d.slot], [], [], [], []⟩ (.pointer (some (((A.ak.getD ⟨0, 0, none⟩).add (k * 7)).add 1))) [.int .i64 d.slot] (by intros; kernel_rfl) (by intros; kernel_rfl) q1 ⟨by kernel_rfl, oneNil⟩ (by kernel_rfl) oneNil ?_
          exact again_V ⟨[IntKind.i64.wrap ((j : Int) + 1)], [d2.slot != d.slot], [], [], []⟩ rfl (by intros; kernel_rfl) _ (fun w2 ids hf => ⟨hf.x, hf.sep⟩) ⟨k - (j + 1), by omega, j + 1, rfl, by omega, by rw [hwj, hb2, hb]; rfl, rfl⟩
        · exact again_V ⟨[IntKind.i64.wrap ((j : Int) + 1)], [false], [], [], []⟩ rfl (by intros; kernel_rfl) _ (fun w2 ids hf => ⟨hf.x, hf.sep⟩) ⟨k - (j + 1), by omega, j + 1, rfl, by omega, by rw [hwj, hb2, hb]; rfl, rfl⟩
      · have e : j = k := by omega
        rw [e] at eb
        rw [← eb] at hst
        have hw : IntKind.i64.wrap (z + 1) = z + 1 := wrap_i64 (by omega)
        refine br_B b (by kernel_rfl) (fun hb => ?_) (fun hb => ?_)
        · rw [if_pos hb] at hst
          exact again_V ⟨[z'], [], [], [], []⟩ rfl (fun ids => by rw [hst, ← hw]; kernel_rfl) _ (fun w2 ids hf => ⟨hf.x, hf.sep⟩) ⟨rfl, rfl⟩
        · rw [if_neg (by rw [hb]; decide)] at hst
          exact again_V ⟨[z'], [], [], [], []⟩ rfl (fun ids => by rw [hst]; kernel_rfl) _ (fun w2 ids hf => ⟨hf.x, hf.sep⟩) ⟨rfl, rfl⟩
    · rintro vs hx' hcnt2 ⟨rfl, rfl⟩
      have hwk : IntKind.i64.wrap ((k : Int) + 1) = ((k + 1 : Nat) : Int) := by rw [wrap_i64 (by omega)]; omega
      exact again_V ⟨[z', IntKind.i64.wrap ((k : Int) + 1)], [], [], [], []⟩ rfl (by intros; kernel_rfl) _ (fun w2 ids hf => ⟨hf.x, hf.sep⟩) ⟨A.ks.length - (k + 1), by omega, k + 1, rfl, by omega, by rw [hwk, ez'], rfl⟩
  · have e : A.size = z := by unfold RA.size; rw [ez, List.take_of_length_le (by omega)]
    rw [e]
    exact pure_done fun _ => rfl
end
end Go.Proofs.Ythmlhnkdiafpkaa
