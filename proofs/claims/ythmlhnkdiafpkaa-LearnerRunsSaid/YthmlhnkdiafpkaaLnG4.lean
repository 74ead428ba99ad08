/- The reference's Voted. -/
import Derived.Test.YthmlhnkdiafpkaaLnG3
namespace Go.Proofs.Ythmlhnkdiafpkaa
open Go.ChangeShapes Go.WideShapes Go.ChangeAt Go.RowKit Go.Syn Go.Eng Go.MapKept
set_option linter.unusedVariables false
set_option linter.unusedSimpArgs false
set_option maxRecDepth 100000
def RK.at_ (node slot : Int) (k : RK) : Bool := k.node == node && k.slot == slot
def RK.hit (slot r n : Int) (v : Vl) (k : RK) : Bool := k.slot == slot && ((k.r == r && k.n == n) && vlEqB k.p.v v)
def RA.badB (A : RA) (node slot r n : Int) : Bool := A.ks.any fun k => k.at_ node slot && !(belowB k.r k.n r n)
def RA.rest (A : RA) (node slot : Int) : List RK := A.ks.filter fun k => !(k.at_ node slot)
def RA.forIt (A : RA) (node slot r n : Int) (v : Vl) : List Int := ((A.rest node slot).filter (RK.hit slot r n v)).map RK.node ++ [node]
def RA.votedB (A : RA) (node slot r n : Int) (v : Vl) : Bool := (A.openB slot v && hasB A.mem node && balB r n) && (!(A.badB node slot r n) && enoughB A.mem (A.forIt node slot r n v))
/-- What Voted makes of a learner. -/
def RVQ (A : RA) (node slot r n : Int) (v : Vl) (A' : RA) : Prop :=
  if (A.openB slot v && hasB A.mem node && balB r n) = true then
    if A.badB node slot r n = true then A' = { A with top := max A.top slot }
    else ∃ p : Pv, p.v = v ∧ A'.mem = A.mem ∧ A'.next = A.next ∧ A'.top = max A.top slot ∧
      if enoughB A.mem (A.forIt node slot r n v) = true then A'.ks = (A.rest node slot ++ [(⟨node, slot, r, n, p⟩ : RK)]).filter (fun k => k.slot != slot) ∧ ∃ p2 : Pv, p2.v = v ∧ A'.ds = A.ds ++ [⟨slot, p2⟩]
      else A'.ks = A.rest node slot ++ [(⟨node, slot, r, n, p⟩ : RK)] ∧ A'.ds = A.ds
  else A' = A
def VtI (w : World) (base : HX) (ks : List RK) (node slot r n : Int) (vs : Vals) (hx : HX) (m : Nat) : Prop := ∃ (k : Nat) (a : Option Addr) (cap : Nat), m = ks.length - k ∧ k ≤ ks.length ∧ (∀ x ∈ ks.take k, (x.at_ node slot && !(belowB x.r x.n r n)) = false) ∧ vs = ⟨[(k : Int)], [], [], [((ks.take k).filter fun k => !(k.at_ node slot)).length, cap], [a]⟩ ∧ OwnR w base a cap ∧ hx = base.and (kRow a cap ((ks.take k).filter fun k => !(k.at_ node slot)))
def VwI (w : World) (base : HX) (ks : List RK) (f : RK → Bool) (vs : Vals) (hx : HX) (m : Nat) : Prop := ∃ (k : Nat) (a : Option Addr) (cap : Nat), m = ks.length - k ∧ k ≤ ks.length ∧ vs = ⟨[(k : Int)], [], [], [(((ks.take k).filter f).map RK.node).length, cap], [a]⟩ ∧ OwnR w base a cap ∧ hx = base.and (HX.rw 1 3 a (((ks.take k).filter f).map RK.node).length cap ((((ks.take k).filter f).map RK.node).map (Value.int .i64)))
def VwJ (w : World) (base : HX) (os : List Int) (vs : Vals) (hx : HX) : Prop := ∃ (a : Option Addr) (cap : Nat), vs = ⟨[], [], [], [os.length, cap], [a]⟩ ∧ OwnR w base a cap ∧ hx = base.and (HX.rw 1 3 a os.length cap (os.map (Value.int .i64)))
section
variable {A : RA} {w : World}
set_option maxHeartbeats 1600000 in
theorem rvoted_any (node slot r n : Int) (v : Vl) (a1 : Option Addr) (c1 : Nat) (a2 : Option Addr) (c2 : Nat) (w : World) (ok : A.Ok) (lk : A.ks.length ≤ 900) (hkn : ∀ k ∈ A.ks, I64 k.node) (H : A.hx.X w) (hv : VlAt w v a1 a2) (n1 : I64 slot) : Calls Try.prog 43 #[A.val, .int .i64 node, .agg #[.int .i64 slot, .int .i64 r, .int .i64 n, .int .i64 v.k, .slice a1 v.cs.length c1, .slice a2 v.ns.length c2]] w (RaRet w A (fun x => .tuple #[x, .bool (A.votedB node slot r n v)]) (RVQ A node slot r n v)) := by
  obtain ⟨B, eB⟩ : ∃ x, x = A.hx.and (vlX v a1 a2) := ⟨_, rfl⟩
  have BA : ∀ {w}, B.X w → A.hx.X w := fun h => by rw [eB] at h; exact h.1
  have BV : ∀ {w}, B.X w → (vlX v a1 a2).X w := fun h => by rw [eB] at h; exact h.2
  refine calls_at (tab_ok _) Try.func43 rfl tRVoted (ρ := ⟨[A.next, A.top, node, slot, r, n, v.k], [], [], [A.mem.length, A.cm, A.ks.length, A.ck, A.ds.length, A.cd, v.cs.length, c1, v.ns.length, c2], [A.am, A.ak, A.ad, a1, a2]⟩) (ids := []) (hx := B) rfl (Facts.initq rfl oneNil (by rw [eB]; exact ⟨H, hv.X⟩) (fun k hk => by rw [eB] at hk; exact hk.elim (RA.sep H k) (vlX_sep hv.X k))) ?_
  have no : ∀ {m : Mem} {ρ : Env} {pre : List Nat} {S : Stack} {s : SV}, (A.openB slot v && hasB A.mem node && balB r n) = false → (∀ ids, s.den ρ ids = .tuple #[A.val, .bool false]) → (Tree.done s m).holds ⟨Try.prog, w, fun _ => False, RaRet w A (fun x => .tuple #[x, .bool (A.votedB node slot r n v)]) (RVQ A node slot r n v)⟩ ρ pre B S := fun h hs ids w2 hp hf => by
    refine ⟨A, by unfold RVQ; rw [if_neg (by rw [h]; decide)], ?_, BA hf.x, fun q z => .inl z, hf.chg.below⟩
    rw [hs]
    unfold RA.votedB
    rw [h]; rfl
  refine node_PI ⟨[], [A.openB slot v], [], [], []⟩ (fun _ => #[A.val, .int .i64 slot, vlV v a1 c1 a2 c2]) (.bool (A.openB slot v)) (by intros; kernel_rfl) (by intros; kernel_rfl) (by kernel_rfl) (by kernel_rfl) (by kernel_rfl) oneNil (fun ids w2 hp hf => ropen_any slot v a1 c1 a2 c2 w2 ok (BA hf.x) (hv.fit.at_ (BV hf.x))) ?_
  refine br_B (!(A.openB slot v)) (by kernel_rfl) (fun h => no (by rw [show A.openB slot v = false by simpa using h]; rfl) (by intros; kernel_rfl)) (fun ho => ?_)
  have ho : A.openB slot v = true := by simpa using ho
  refine node_PI ⟨[], [hasB A.mem node], [], [], []⟩ (fun _ => #[.slice A.am A.mem.length A.cm, .int .i64 node]) (.bool (hasB A.mem node)) (by intros; kernel_rfl) (by intros; kernel_rfl) (by kernel_rfl) (by kernel_rfl) (by kernel_rfl) oneNil (fun ids w2 hp hf => pure_same (refHas_any _ _ _ _ w2 (RA.xm (BA hf.x)))) ?_
  refine br_B (!(hasB A.mem node)) (by kernel_rfl) (fun h => no (by rw [show hasB A.mem node = false by simpa using h, Bool.and_false]; rfl) (by intros; kernel_rfl)) (fun hm => ?_)
  have hm : hasB A.mem node = true := by simpa using hm
  have hin : I64 node := (RA.xm H).fits node (hasB_iff.1 hm)
  refine node_PI ⟨[], [balB r n], [], [], []⟩ (fun _ => #[.agg #[.int .i64 r, .int .i64 n]]) (.bool (balB r n)) (by intros; kernel_rfl) (by intros; kernel_rfl) (by kernel_rfl) (by kernel_rfl) (by kernel_rfl) oneNil (fun ids w2 hp hf => refValid_any r n w2) ?_
  refine br_B (!(balB r n)) (by kernel_rfl) (fun h => no (by rw [show balB r n = false by simpa using h, Bool.and_false]) (by intros; kernel_rfl)) (fun hb => ?_)
  have hb : balB r n = true := by simpa using hb
  clear no
  have hyes : (A.openB slot v && hasB A.mem node && balB r n) = true := by rw [ho, hm, hb]; rfl
  have hopen : A.next ≤ slot ∧ slot ≤ 1099511627776 := by
    have := ho
    unfold RA.openB at this
    rw [Bool.and_eq_true, decide_eq_true_eq] at this
    exact ⟨this.1.1, this.1.2.2.1⟩
  have hA1 := ok.n1
  have t0 := ok.t0
  have t2 := ok.t2
  have ld := ok.ld
  have lm := ok.lm
  obtain ⟨T, eT⟩ : ∃ T, T = max A.top slot := ⟨_, rfl⟩
  have hT : 0 ≤ T ∧ T ≤ 1099511627776 := by omega
  refine ⟨fun vs hx' => vs = ⟨[A.next, T], [], [], [A.mem.length, A.cm, A.ks.length, A.ck, A.ds.length, A.cd], [A.am, A.ak, A.ad]⟩ ∧ hx' = B, ?_, ?_⟩
  · refine br_D (p := slot > A.top) (by kernel_rfl) (fun h2 => ?_) (fun h2 => ?_)
    · exact again_V _ rfl (by intros; kernel_rfl) _ (fun w2 ids hf => ⟨hf.x, hf.sep⟩) ⟨by rw [show T = slot by omega], rfl⟩
    · exact again_V _ rfl (by intros; kernel_rfl) _ (fun w2 ids hf => ⟨hf.x, hf.sep⟩) ⟨by rw [show T = A.top by omega], rfl⟩
  rintro vs B hcnt ⟨rfl, rfl⟩
  have eV : A.votedB node slot r n v = (!(A.badB node slot r n) && enoughB A.mem (A.forIt node slot r n v)) := by unfold RA.votedB; rw [hyes]; rfl
  rw [eV]
  have eQ : ∀ A', (if A.badB node slot r n = true then A' = { A with top := T }
    else ∃ p : Pv, p.v = v ∧ A'.mem = A.mem ∧ A'.next = A.next ∧ A'.top = T ∧
      if enoughB A.mem (A.forIt node slot r n v) = true then A'.ks = (A.rest node slot ++ [(⟨node, slot, r, n, p⟩ : RK)]).filter (fun k => k.slot != slot) ∧ ∃ p2 : Pv, p2.v = v ∧ A'.ds = A.ds ++ [⟨slot, p2⟩]
      else A'.ks = A.rest node slot ++ [(⟨node, slot, r, n, p⟩ : RK)] ∧ A'.ds = A.ds) → RVQ A node slot r n v A' := fun A' h => by
    unfold RVQ; rw [if_pos hyes, ← eT]; exact h
  obtain ⟨g, eg⟩ : ∃ g : RK → Bool, g = fun k => !(k.at_ node slot) := ⟨_, rfl⟩
  refine ⟨VtI w B A.ks node slot r n, fun ids w2 hp hf => ⟨B.and (kRow (some ⟨idAt ids 3, 0, none⟩) 0 []), A.ks.length, ⟨⟨hf.x, HX.rw_nil _ _ _ _⟩, fun k hk => hk.elim (hf.sep k) fun q => absurd rfl q.1⟩, 0, some ⟨idAt ids 3, 0, none⟩, 0, rfl, Nat.zero_le _, (fun x hx => by cases hx), rfl, (fun k h => absurd rfl h), rfl⟩, ?_⟩
  rintro vs hx' cnt hcnt2 ⟨k, a, cap, rfl, hk, hgood, rfl, hO, rfl⟩
  rw [← eg]
  obtain ⟨fs, efs⟩ : ∃ x, x = (A.ks.take k).filter g := ⟨_, rfl⟩
  have hfl : fs.length ≤ 900 := by rw [efs]; exact Nat.le_trans (filt_le _ _ _) lk
  rw [← efs]
  refine holds_env (ρ' := ⟨[A.next, A.top, node, slot, r, n, v.k, A.next, T, (k : Int)], [A.openB slot v, hasB A.mem node, balB r n], [], [A.mem.length, A.cm, A.ks.length, A.ck, A.ds.length, A.cd, v.cs.length, c1, v.ns.length, c2, A.mem.length, A.cm, A.ks.length, A.ck, A.ds.length, A.cd, fs.length, cap], [A.am, A.ak, A.ad, a1, a2, A.am, A.ak, A.ad, a]⟩) rfl ?_
  refine br_D (p := (k : Int) < (A.ks.length : Int)) (by kernel_rfl) (fun hkl => ?_) (fun hkl => ?_)
  · have hkl : k < A.ks.length := by omega
    obtain ⟨d, hd⟩ : ∃ b, A.ks[k]? = some b := ⟨_, List.getElem?_eq_getElem hkl⟩
    have s1 := (k_elt (RA.xk H) hd 0 d.cells (part_of rfl) (by simp [RK.cells])).1
    have hst := filt_step (p := g) hd
    rw [← efs] at hst
    refine ⟨fun vs hx' => JnK w B A.ks g k vs hx' ∧ (d.at_ node slot && !(belowB d.r d.n r n)) = false, ?_, ?_⟩
    · refine need_k (A.ak.isSome = true ∧ 0 ≤ (k : Int) ∧ (k : Int) < (A.ks.length : Int)) (by kernel_rfl) ⟨s1, by omega, by omega⟩ ?_
      refine node_ldk ⟨[d.node, d.slot, d.r, d.n, d.p.v.k], [], [], [d.p.v.cs.length, d.p.c1, d.p.v.ns.length, d.p.c2], [d.p.a1, d.p.a2]⟩ (fun _ => .pointer (some (((A.ak.getD ⟨0, 0, none⟩).add (k * 7)).add 0))) d.cells (by intros; kernel_rfl) (by intros; kernel_rfl) (fun ids w2 hp hf => (k_elt (RA.xk (BA hf.x.1)) hd 0 d.cells (part_of rfl) (by simp [RK.cells])).2) (by kernel_rfl) oneNil ?_
      refine br_B (d.node == node) (by kernel_rfl) (fun he => ?ga) (fun he => ?gb)
      case' ga => refine br_B (d.slot == slot) (by kernel_rfl) (fun he2 => ?gc) (fun he2 => ?gd)
      case gc =>
          have hat : d.at_ node slot = true := by unfold RK.at_; rw [he, he2]; rfl
          refine node_PI ⟨[], [belowB d.r d.n r n], [], [], []⟩ (fun _ => #[.agg #[.int .i64 d.r, .int .i64 d.n], .agg #[.int .i64 r, .int .i64 n]]) (.bool (belowB d.r d.n r n)) (by intros; kernel_rfl) (by intros; kernel_rfl) (by kernel_rfl) (by kernel_rfl) (by kernel_rfl) oneNil (fun ids w2 hp hf => refBelow_any d.r d.n r n w2) ?_
          refine br_B (!(belowB d.r d.n r n)) (by kernel_rfl) (fun hl => ?_) (fun hl => ?_)
          · have hbad : A.badB node slot r n = true := by
              unfold RA.badB
              exact List.any_eq_true.2 ⟨d, List.mem_of_getElem? hd, by rw [hat, hl]; rfl⟩
            intro ids w2 hp hf
            refine ⟨{ A with top := T }, eQ _ (by rw [if_pos hbad]), ?_, BA hf.x.1, fun q z => .inl z, hf.chg.below⟩
            rw [hbad]; rfl
          · rw [if_neg (by rw [eg]; show ¬ (!(d.at_ node slot)) = true; rw [hat]; decide), List.append_nil] at hst
            exact again_V ⟨[], [], [], [fs.length, cap], [a]⟩ rfl (by intros; kernel_rfl) (B.and (kRow a cap ((A.ks.take (k + 1)).filter g))) (fun w2 ids hf => ⟨by rw [hst]; exact hf.x, hf.sep⟩) ⟨⟨a, cap, by rw [hst], hO, rfl⟩, by rw [hl, Bool.and_false]⟩
      case' gd => have hat : d.at_ node slot = false := by unfold RK.at_; rw [he2, Bool.and_false]
      case' gb => have hat : d.at_ node slot = false := by unfold RK.at_; rw [he, Bool.false_and]
      all_goals
        rw [if_pos (by rw [eg]; show (!(d.at_ node slot)) = true; rw [hat]; rfl)] at hst
        refine node_pushs (e := 93) (sz := 7) rfl Try.underlying58 info_hrd rfl (by decide) a fs.length cap (kcs fs) d.cells 5 (by intros; kernel_rfl) (by intros; kernel_rfl) rfl (by intros; kernel_rfl) rfl (kcell_one d) (fun q q1 q2 => (hO q q1 q2).2) (fun q q1 q2 => .inl (hO q q1 q2).1) (by unfold maxLen; omega) (by omega) (by intros; kernel_rfl) (by kernel_rfl) (by kernel_rfl) (by intros; kernel_rfl) ?_
        intro a' cap' hc' hr' hor'
        refine again_V ⟨[], [], [], [fs.length + 1, cap'], [a']⟩ rfl (by intros; kernel_rfl) (B.and (kRow a' cap' ((A.ks.take (k + 1)).filter g))) (fun w2 ids hf => ⟨⟨hf.x.1, ?_⟩, hf.sep⟩) ⟨⟨a', cap', by rw [hst, List.length_append]; rfl, own_step hO hr' hor', rfl⟩, by rw [hat, Bool.false_and]⟩
        have := hf.x.2
        rw [kcs_snoc] at this
        show (HX.rw 7 93 a' _ cap' (kcs _)).X w2
        rw [hst, List.length_append]; exact this
    · rintro vs hx' hcnt3 ⟨⟨a', cap', rfl, hO', rfl⟩, hgd⟩
      have hwk : IntKind.i64.wrap ((k : Int) + 1) = ((k + 1 : Nat) : Int) := by rw [wrap_i64 (by omega)]; omega
      exact again_V ⟨[IntKind.i64.wrap ((k : Int) + 1)], [], [], [((A.ks.take (k + 1)).filter g).length, cap'], [a']⟩ rfl (by intros; kernel_rfl) _ (fun w2 ids hf => ⟨hf.x, hf.sep⟩) ⟨A.ks.length - (k + 1), by omega, k + 1, a', cap', rfl, by omega, (fun x hx => by
        rw [List.take_add_one, hd] at hx
        rcases List.mem_append.1 hx with hx | hx
        · exact hgood x hx
        · rw [show x = d by simpa using hx]; exact hgd), by rw [hwk, eg], hO', by rw [eg]⟩
  have hks : A.ks.take k = A.ks := List.take_of_length_le (by omega)
  rw [hks] at efs hgood
  have hbad : A.badB node slot r n = false := by
    unfold RA.badB
    exact List.any_eq_false.2 fun x hx => by rw [hgood x hx]; decide
  rw [hbad]
  have eR : fs = A.rest node slot := by rw [efs, eg]; rfl
  have hsub : ∀ x ∈ fs, x ∈ A.ks := fun x hx => by rw [efs] at hx; exact (List.mem_filter.1 hx).1
  refine node_vl (V := id) (v := v) (fun _ => #[vlV v a1 c1 a2 c2]) (fun b1 d1 b2 d2 => ⟨[v.k], [], [], [v.cs.length, d1, v.ns.length, d2], [b1, b2]⟩) (by intros; kernel_rfl) (fun ids w2 hp hf => cpvl_any v a1 c1 a2 c2 w2 (hv.fit.at_ (BV hf.x.1))) (by intros; kernel_rfl) (by kernel_rfl) (by kernel_rfl) (by intros; kernel_rfl) (fun _ _ _ _ => oneNil) ?_
  intro b1 d1 b2 d2 hfrV
  refine holds_eq (HX.and_right_comm _ _ _) ?_
  obtain ⟨x, ex⟩ : ∃ x : RK, x = ⟨node, slot, r, n, ⟨v, b1, d1, b2, d2⟩⟩ := ⟨_, rfl⟩
  refine node_pushs (e := 93) (sz := 7) rfl Try.underlying58 info_hrd rfl (by decide) a fs.length cap (kcs fs) x.cells 4 (by intros; kernel_rfl) (by intros; kernel_rfl) rfl (fun ids => by rw [ex]; kernel_rfl) rfl (kcell_one x) (fun q q1 q2 z => z.elim (hO q q1 q2).2 fun z => (hfrV q z).2 (.inr ⟨q1, q2⟩)) (fun q q1 q2 => .inl (hO q q1 q2).1) (by unfold maxLen; omega) (by omega) (by intros; kernel_rfl) (by kernel_rfl) (by kernel_rfl) (by intros; kernel_rfl) ?_
  intro a3 c3 hc3 hr3 hor3
  have hO3 : OwnR w (B.and (vlX v b1 b2)) a3 c3 := own_step (rest := B.and (vlX v b1 b2)) (a := a) (cap := cap) (fun q q1 q2 => ⟨(hO q q1 q2).1, fun z => z.elim (hO q q1 q2).2 fun z => (hfrV q z).2 (.inr ⟨q1, q2⟩)⟩) hr3 hor3
  obtain ⟨ks2, ek2⟩ : ∃ ks2, ks2 = fs ++ [x] := ⟨_, rfl⟩
  have hl2 : ks2.length = fs.length + 1 := by rw [ek2, List.length_append]; rfl
  obtain ⟨B3, eB3⟩ : ∃ B3, B3 = (B.and (vlX v b1 b2)).and (kRow a3 c3 ks2) := ⟨_, rfl⟩
  have hB3 : (B.and (vlX v b1 b2)).and (HX.rw 7 93 a3 (fs.length + 1) c3 (kcs fs ++ x.cells)) = B3 := by rw [eB3, kcs_snoc, ← ek2, ← hl2]; rfl
  refine holds_eq hB3 ?_
  have B3x : ∀ {w2}, B3.X w2 → (A.hx.X w2 ∧ (vlX v a1 a2).X w2) ∧ (vlX v b1 b2).X w2 ∧ (kRow a3 c3 ks2).X w2 := fun h => by rw [eB3] at h; exact ⟨⟨BA h.1.1, BV h.1.1⟩, h.1.2, h.2⟩
  have hval : ∀ {w2}, B3.X w2 → ∀ y ∈ ks2, VlAt w2 y.p.v y.p.a1 y.p.a2 := fun h y hy => by
    rw [ek2] at hy
    rcases List.mem_append.1 hy with hy | hy
    · exact RA.xkv ok (B3x h).1.1 (hsub y hy)
    · rw [List.mem_singleton.1 hy, ex]; exact hv.fit.at_ (B3x h).2.1
  obtain ⟨f, ef⟩ : ∃ f, f = RK.hit slot r n v := ⟨_, rfl⟩
  have hx0 : ks2[fs.length]? = some x := by rw [ek2]; simp
  refine ⟨fun vs hx m => a3.isSome = true ∧ VwI w B3 ks2 f vs hx m, fun ids w2 hp hf => ⟨B3.and (HX.rw 1 3 (some ⟨idAt ids 5, 0, none⟩) 0 0 []), ks2.length, ⟨⟨hf.x, HX.rw_nil _ _ _ _⟩, fun k hk => hk.elim (hf.sep k) fun q => absurd rfl q.1⟩, (k_elt (rw_cells (B3x hf.x).2.2) hx0 0 x.cells (part_of rfl) (by simp [RK.cells])).1, 0, some ⟨idAt ids 5, 0, none⟩, 0, rfl, Nat.zero_le _, rfl, (fun k h => absurd rfl h), rfl⟩, ?_⟩
  rintro vs hx' cnt hcnt3 ⟨hsome, j, a4, c4, rfl, hj, rfl, hO4, rfl⟩
  obtain ⟨os, eos⟩ : ∃ os, os = ((ks2.take j).filter f).map RK.node := ⟨_, rfl⟩
  have hol : os.length ≤ 901 := by rw [eos, List.length_map]; exact Nat.le_trans (filt_le _ _ _) (by omega)
  rw [← eos]
  refine holds_env (ρ' := ⟨[A.next, A.top, node, slot, r, n, v.k, A.next, T, (k : Int), v.k, (j : Int)], [A.openB slot v, hasB A.mem node, balB r n], [], [A.mem.length, A.cm, A.ks.length, A.ck, A.ds.length, A.cd, v.cs.length, c1, v.ns.length, c2, A.mem.length, A.cm, A.ks.length, A.ck, A.ds.length, A.cd, fs.length, cap, v.cs.length, d1, v.ns.length, d2, ks2.length, c3, os.length, c4], [A.am, A.ak, A.ad, a1, a2, A.am, A.ak, A.ad, a, b1, b2, a3, a4]⟩) (by rw [hl2]; rfl) ?_
  refine br_D (p := (j : Int) < (ks2.length : Int)) (by kernel_rfl) (fun hjl => ?_) (fun hjl => ?_)
  · have hjl : j < ks2.length := by omega
    obtain ⟨d, hd⟩ : ∃ b, ks2[j]? = some b := ⟨_, List.getElem?_eq_getElem hjl⟩
    have hdm := List.mem_of_getElem? hd
    have hst := congrArg (List.map RK.node) (filt_step (p := f) hd)
    rw [List.map_append, ← eos] at hst
    obtain ⟨os', eos'⟩ : ∃ os', os' = ((ks2.take (j + 1)).filter f).map RK.node := ⟨_, rfl⟩
    rw [← eos'] at hst
    refine ⟨VwJ w B3 os', ?_, ?_⟩
    · refine need_k (a3.isSome = true ∧ 0 ≤ (j : Int) ∧ (j : Int) < (ks2.length : Int)) (by kernel_rfl) ⟨hsome, by omega, by omega⟩ ?_
      refine node_ldk ⟨[d.node, d.slot, d.r, d.n, d.p.v.k], [], [], [d.p.v.cs.length, d.p.c1, d.p.v.ns.length, d.p.c2], [d.p.a1, d.p.a2]⟩ (fun _ => .pointer (some (((a3.getD ⟨0, 0, none⟩).add (j * 7)).add 0))) d.cells (by intros; kernel_rfl) (by intros; kernel_rfl) (fun ids w2 hp hf => (k_elt (rw_cells (B3x hf.x.1).2.2) hd 0 d.cells (part_of rfl) (by simp [RK.cells])).2) (by kernel_rfl) oneNil ?_
      refine br_B (d.slot == slot) (by kernel_rfl) (fun e1 => ?ha) (fun e1 => ?hb)
      case' ha => refine br_B (d.r == r && d.n == n) (by kernel_rfl) (fun e2 => ?hc) (fun e2 => ?hd)
      case' hc =>
        refine node_PI ⟨[], [vlSame d.p.v v], [], [], []⟩ (fun _ => #[d.p.val, vlV v a1 c1 a2 c2]) (.bool (vlSame d.p.v v)) (by intros; kernel_rfl) (by intros; kernel_rfl) (by kernel_rfl) (by kernel_rfl) (by kernel_rfl) oneNil (fun ids w2 hp hf => samev_any _ _ _ _ _ _ _ _ _ _ w2 (hval hf.x.1 d hdm) (hv.fit.at_ (B3x hf.x.1).1.2)) ?_
        refine br_B (vlSame d.p.v v) (by kernel_rfl) (fun e3 => ?he) (fun e3 => ?hf)
      case he =>
            rw [if_pos (by rw [ef]; unfold RK.hit; rw [e1, e2, ← vlSame_B, e3]; rfl)] at hst
            refine node_pushs (e := 3) (sz := 1) rfl Try.underlying26 info_int1 rfl (by decide) a4 os.length c4 (os.map (Value.int .i64)) [.int .i64 d.node] 7 (by intros; kernel_rfl) (by intros; kernel_rfl) rfl (by intros; kernel_rfl) rfl (fun v hv => by simp only [List.mem_singleton] at hv; subst hv; rfl) (fun q q1 q2 => (hO4 q q1 q2).2) (fun q q1 q2 => .inl (hO4 q q1 q2).1) (by unfold maxLen; omega) (by omega) (by intros; kernel_rfl) (by kernel_rfl) (by kernel_rfl) (by intros; kernel_rfl) ?_
            intro a' cap' hc' hr' hor'
            refine again_V ⟨[], [], [], [os.length + 1, cap'], [a']⟩ rfl (by intros; kernel_rfl) (B3.and (HX.rw 1 3 a' os'.length cap' (os'.map (Value.int .i64)))) (fun w2 ids hf => ⟨⟨hf.x.1, ?_⟩, ?_⟩) ⟨a', cap', by rw [hst, List.length_append]; rfl, own_step hO4 hr' hor', rfl⟩
            · rw [hst, List.length_append, List.map_append]; exact hf.x.2
            · exact hf.sep
      case' hf => have hno : f d = false := by rw [ef]; unfold RK.hit; rw [← vlSame_B, e3, Bool.and_false, Bool.and_false]
      case' hd => have hno : f d = false := by rw [ef]; unfold RK.hit; rw [e2, Bool.false_and, Bool.and_false]
      case' hb => have hno : f d = false := by rw [ef]; unfold RK.hit; rw [e1, Bool.false_and]
      all_goals
        rw [if_neg (by rw [hno]; decide), List.map_nil, List.append_nil] at hst
        exact again_V ⟨[], [], [], [os.length, c4], [a4]⟩ rfl (by intros; kernel_rfl) (B3.and (HX.rw 1 3 a4 os'.length c4 (os'.map (Value.int .i64)))) (fun w2 ids hf => ⟨by rw [hst]; exact hf.x, hf.sep⟩) ⟨a4, c4, by rw [hst], hO4, rfl⟩
    · rintro vs hx' hcnt4 ⟨a', cap', rfl, hO', rfl⟩
      have hwj : IntKind.i64.wrap ((j : Int) + 1) = ((j + 1 : Nat) : Int) := by rw [wrap_i64 (by omega)]; omega
      exact again_V ⟨[IntKind.i64.wrap ((j : Int) + 1)], [], [], [os'.length, cap'], [a']⟩ rfl (by intros; kernel_rfl) _ (fun w2 ids hf => ⟨hf.x, hf.sep⟩) ⟨ks2.length - (j + 1), by omega, hsome, j + 1, a', cap', rfl, by omega, by rw [hwj, eos'], hO', by rw [eos']⟩
  have hoi : ∀ z ∈ os, I64 z := fun z hz => by
    rw [eos] at hz
    obtain ⟨y, hy, rfl⟩ := List.mem_map.1 hz
    have hy := List.mem_of_mem_take (List.mem_filter.1 hy).1
    rw [ek2] at hy
    rcases List.mem_append.1 hy with hy | hy
    · exact hkn y (hsub y hy)
    · rw [List.mem_singleton.1 hy, ex]; exact hin
  have hjs : ks2.take j = ks2 := List.take_of_length_le (by omega)
  have eF : os = A.forIt node slot r n v := by
    rw [eos, hjs, ek2, List.filter_append, eR, ef]
    unfold RA.forIt
    rw [List.map_append]
    congr 1
    have : RK.hit slot r n v x = true := by rw [ex]; unfold RK.hit; simp [vlEqB_iff.2 (rfl : v = v)]
    rw [List.filter_cons_of_pos this, ex]; rfl
  obtain ⟨A2, eA2⟩ : ∃ x : RA, x = { A with top := T, ak := a3, ck := c3, ks := ks2 } := ⟨_, rfl⟩
  have ok2 : A2.Ok := by
    rw [eA2]
    refine ⟨fun y hy => ?_, ok.d, by show ks2.length ≤ 1000; omega, ok.ld, ok.lm, ok.n1, ok.n2, hT.1, hT.2⟩
    have hy : y ∈ ks2 := hy
    rw [ek2] at hy
    rcases List.mem_append.1 hy with hy | hy
    · exact ok.k y (hsub y hy)
    · rw [List.mem_singleton.1 hy, ex]; exact hv.fit
  have A2X : ∀ {w2}, B3.X w2 → A2.hx.X w2 := fun h => by
    have h3 := B3x h
    rw [eA2]
    refine RA.X_of (show Ints _ A.am A.mem from RA.xm h3.1.1) (rw_cells h3.2.2) (show Cells _ A.ad (dcs A.ds) from RA.xd h3.1.1) (fun y hy => ?_) (fun y hy => RA.X_dv h3.1.1 hy)
    have hy : y ∈ ks2 := hy
    rw [ek2] at hy
    rcases List.mem_append.1 hy with hy | hy
    · exact RA.X_kv h3.1.1 (hsub y hy)
    · rw [List.mem_singleton.1 hy, ex]; exact h3.2.1
  have A2F : ∀ {w2}, B3.X w2 → ∀ q, A2.hx.F q → A.hx.F q ∨ w.heap.size ≤ q := fun h q hq => by
    rw [eA2] at hq
    rcases RA.F_of hq with z | z | z | ⟨y, hy, z⟩ | ⟨y, hy, z⟩
    · exact .inl (RA.F_m z)
    · exact .inr (cl_row (B3x h).2.2 (fun q q1 q2 => (hO3 q q1 q2).1) q z)
    · exact .inl (RA.F_d z)
    · have hy : y ∈ ks2 := hy
      rw [ek2] at hy
      rcases List.mem_append.1 hy with hy | hy
      · exact .inl (RA.F_kv (hsub y hy) z)
      · rw [List.mem_singleton.1 hy, ex] at z; exact .inr (hfrV q z).1
    · exact .inl (RA.F_dv hy z)
  have qA2 : ∀ {A' : RA}, (if enoughB A.mem (A.forIt node slot r n v) = true then SetQ A2 slot v A' else A' = A2) → RVQ A node slot r n v A' := fun {A'} h => by
    refine eQ A' ?_
    rw [hbad, if_neg (by decide)]
    refine ⟨⟨v, b1, d1, b2, d2⟩, rfl, ?_⟩
    by_cases he : enoughB A.mem (A.forIt node slot r n v) = true
    · rw [if_pos he] at h ⊢
      obtain ⟨q1, q2, q3, q4, q5⟩ := h
      rw [eA2] at q1 q2 q3 q4 q5
      refine ⟨q1, q2, q3, ?_, q5⟩
      rw [q4, ← eR, ← ex, ← ek2]
    · rw [if_neg he] at h ⊢
      rw [h, eA2]
      exact ⟨rfl, rfl, rfl, by rw [← eR, ← ex, ← ek2], rfl⟩
  have A2v : A2.val = .agg #[.slice A.am A.mem.length A.cm, .int .i64 A.next, .int .i64 T, .slice a3 ks2.length c3, .slice A.ad A.ds.length A.cd] := by rw [eA2]; rfl
  refine node_PI ⟨[], [enoughB A.mem os], [], [], []⟩ (fun _ => #[.slice A.am A.mem.length A.cm, .slice a4 os.length c4]) (.bool (enoughB A.mem os)) (by intros; kernel_rfl) (by intros; kernel_rfl) (by kernel_rfl) (by kernel_rfl) (by kernel_rfl) oneNil (fun ids w2 hp hf => pure_same (refEnough_any _ _ _ _ _ _ w2 (RA.xm (B3x hf.x.1).1.1) (Ints.of_cells (by omega) hoi (rw_cells hf.x.2)) (by omega))) ?_
  refine br_B (!(enoughB A.mem os)) (by kernel_rfl) (fun h => ?_) (fun h => ?_)
  · have h : enoughB A.mem os = false := by simpa using h
    rw [eF] at h
    intro ids w2 hp hf
    refine ⟨A2, qA2 (by rw [if_neg (by rw [h]; decide)]), ?_, A2X hf.x.1, A2F hf.x.1, hf.chg.below⟩
    rw [h, A2v]; rfl
  · have h : enoughB A.mem os = true := by simpa using h
    rw [eF] at h
    refine node_ra (V := id) (A := A2) (Q := SetQ A2 slot v) (fun _ => #[A2.val, .int .i64 slot, vlV v a1 c1 a2 c2]) (fun A' => ⟨[A.next, T], [], [], [A'.mem.length, A'.cm, A'.ks.length, A'.ck, A'.ds.length, A'.cd], [A'.am, A'.ak, A'.ad]⟩) (fun ids => by rw [A2v]; kernel_rfl) (fun q hq => ?_) (fun ids w2 hp hf => rsettle_any slot v a1 c1 a2 c2 w2 ok2 (A2X hf.x.1) (hv.fit.at_ (B3x hf.x.1).1.2)) (fun A' hQ ids => ?_) (by kernel_rfl) (by kernel_rfl) (fun A' _ => by kernel_rfl) (fun _ _ => oneNil) ?_
    · obtain ⟨z0, ez0⟩ := Option.isSome_iff_exists.1 hsome
      rw [eA2] at hq
      rw [eB3, eB]
      rcases RA.F_of hq with z | z | z | ⟨y, hy, z⟩ | ⟨y, hy, z⟩
      · exact .inl (.inl (.inl (.inl (RA.F_m z))))
      · refine .inl (.inr ⟨hc3, ?_⟩)
        rw [ez0]
        have z2 : q = Go.Syn.blk a3 := z.2
        rw [z2, ez0]; rfl
      · exact .inl (.inl (.inl (.inl (RA.F_d z))))
      · have hy : y ∈ ks2 := hy
        rw [ek2] at hy
        rcases List.mem_append.1 hy with hy | hy
        · exact .inl (.inl (.inl (.inl (RA.F_kv (hsub y hy) z))))
        · rw [List.mem_singleton.1 hy, ex] at z; exact .inl (.inl (.inr z))
      · exact .inl (.inl (.inl (.inl (RA.F_dv hy z))))
    · obtain ⟨q1, q2, q3, _⟩ := hQ
      rw [eA2] at q2 q3
      have : A'.val = .agg #[.slice A'.am A'.mem.length A'.cm, .int .i64 A.next, .int .i64 T, .slice A'.ak A'.ks.length A'.ck, .slice A'.ad A'.ds.length A'.cd] := by
        unfold RA.val RA.cells; rw [q2, q3]
      exact Eq.trans (by kernel_rfl) this.symm
    · intro A' hQ hF ids w2 hp hf
      obtain ⟨q1, q2, q3, _⟩ := id hQ
      rw [eA2] at q2 q3
      refine ⟨A', qA2 (by rw [if_pos h]; exact hQ), ?_, hf.x.2, fun q z => (hF q z).elim (fun y => A2F hf.x.1.1 q y) (fun y => .inr y.1), hf.chg.below⟩
      have : A'.val = .agg #[.slice A'.am A'.mem.length A'.cm, .int .i64 A.next, .int .i64 T, .slice A'.ak A'.ks.length A'.ck, .slice A'.ad A'.ds.length A'.cd] := by
        unfold RA.val RA.cells; rw [q2, q3]
      rw [this, h]; rfl
end
end Go.Proofs.Ythmlhnkdiafpkaa
