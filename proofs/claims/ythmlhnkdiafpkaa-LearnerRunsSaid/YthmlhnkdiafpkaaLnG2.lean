/- The reference's functions: settle, Told, Without, Missing, Size. -/
import Derived.Test.YthmlhnkdiafpkaaLnG
namespace Go.Proofs.Ythmlhnkdiafpkaa
open Go.ChangeShapes Go.WideShapes Go.ChangeAt Go.RowKit Go.Syn Go.Eng Go.MapKept
set_option linter.unusedVariables false
set_option linter.unusedSimpArgs false
set_option maxRecDepth 100000
theorem info_hrd : (Try.prog.info? 93).map (fun i => (i.zero, i.size, i.bytes)) = some (some (.agg #[.int .i64 0, .int .i64 0, .int .i64 0, .int .i64 0, .int .i64 0, .slice none 0 0, .slice none 0 0]), 7, 88) := by kernel_rfl
theorem info_vot : (Try.prog.info? 34).map (fun i => (i.zero, i.size, i.bytes)) = some (some (.agg #[.int .i64 0, .int .i64 0, .int .i64 0, .int .i64 0, .slice none 0 0, .slice none 0 0]), 6, 80) := by kernel_rfl
def kRow (a : Option Addr) (cap : Nat) (ks : List RK) : HX := HX.rw 7 93 a ks.length cap (kcs ks)
def dRow (a : Option Addr) (cap : Nat) (ds : List RD) : HX := HX.rw 6 34 a ds.length cap (dcs ds)
theorem own_step {W : World} {rest hx : HX} {a a' : Option Addr} {cap : Nat} (h : OwnR W rest a cap) (hr : ∀ k, abk a' = some k → ¬ rest.F k) (hor : (cap ≠ 0 ∧ abk a' = abk a) ∨ ∃ g, abk a' = some g ∧ W.heap.size ≤ g ∧ ¬ hx.F g) {cap' : Nat} : OwnR W rest a' cap' := fun k q1 q2 => ⟨by
  rcases hor with ⟨r1, r2⟩ | ⟨g, r1, r2, _⟩
  · exact (h k r1 (by rw [← r2]; exact q2)).1
  · rw [r1] at q2; cases q2; exact r2, hr k q2⟩
section
variable {A : RA} {w : World}
/-- A row that is made of the elements that pass. -/
def FlK (w : World) (base : HX) (ks : List RK) (f : RK → Bool) (vs : Vals) (hx : HX) (n : Nat) : Prop := ∃ (k : Nat) (a : Option Addr) (cap : Nat), n = ks.length - k ∧ k ≤ ks.length ∧ vs = ⟨[(k : Int)], [], [], [((ks.take k).filter f).length, cap], [a]⟩ ∧ OwnR w base a cap ∧ hx = base.and (kRow a cap ((ks.take k).filter f))
def FlD (w : World) (base : HX) (ds : List RD) (f : RD → Bool) (vs : Vals) (hx : HX) (n : Nat) : Prop := ∃ (k : Nat) (a : Option Addr) (cap : Nat), n = ds.length - k ∧ k ≤ ds.length ∧ vs = ⟨[(k : Int)], [], [], [((ds.take k).filter f).length, cap], [a]⟩ ∧ OwnR w base a cap ∧ hx = base.and (dRow a cap ((ds.take k).filter f))
def JnK (w : World) (base : HX) (ks : List RK) (f : RK → Bool) (k : Nat) (vs : Vals) (hx : HX) : Prop := ∃ (a : Option Addr) (cap : Nat), vs = ⟨[], [], [], [((ks.take (k + 1)).filter f).length, cap], [a]⟩ ∧ OwnR w base a cap ∧ hx = base.and (kRow a cap ((ks.take (k + 1)).filter f))
def JnD (w : World) (base : HX) (ds : List RD) (f : RD → Bool) (k : Nat) (vs : Vals) (hx : HX) : Prop := ∃ (a : Option Addr) (cap : Nat), vs = ⟨[], [], [], [((ds.take (k + 1)).filter f).length, cap], [a]⟩ ∧ OwnR w base a cap ∧ hx = base.and (dRow a cap ((ds.take (k + 1)).filter f))
theorem filt_le {α : Type} (xs : List α) (k : Nat) (f : α → Bool) : ((xs.take k).filter f).length ≤ xs.length := Nat.le_trans (List.length_filter_le _ _) (by rw [List.length_take]; omega)
/-- What settle makes of a learner. -/
def SetQ (A : RA) (slot : Int) (v : Vl) (A' : RA) : Prop := A'.mem = A.mem ∧ A'.next = A.next ∧ A'.top = A.top ∧ A'.ks = A.ks.filter (fun k => k.slot != slot) ∧ ∃ p : Pv, p.v = v ∧ A'.ds = A.ds ++ [⟨slot, p⟩]
theorem rsettle_any (slot : Int) (v : Vl) (a1 : Option Addr) (c1 : Nat) (a2 : Option Addr) (c2 : Nat) (w : World) (ok : A.Ok) (H : A.hx.X w) (hv : VlAt w v a1 a2) : Calls Try.prog 61 #[A.val, .int .i64 slot, vlV v a1 c1 a2 c2] w (RaRet w A id (SetQ A slot v)) := by
  have lk := ok.lk
  have ld := ok.ld
  obtain ⟨B, eB⟩ : ∃ x, x = A.hx.and (vlX v a1 a2) := ⟨_, rfl⟩
  have BA : ∀ {w}, B.X w → A.hx.X w := fun h => by rw [eB] at h; exact h.1
  have BV : ∀ {w}, B.X w → (vlX v a1 a2).X w := fun h => by rw [eB] at h; exact h.2
  refine calls_at (tab_ok _) Try.func61 rfl tRSettle (ρ := ⟨[A.next, A.top, slot, v.k], [], [], [A.mem.length, A.cm, A.ks.length, A.ck, A.ds.length, A.cd, v.cs.length, c1, v.ns.length, c2], [A.am, A.ak, A.ad, a1, a2]⟩) (ids := []) (hx := B) rfl (Facts.initq rfl oneNil (by rw [eB]; exact ⟨H, hv.X⟩) (fun k hk => by rw [eB] at hk; exact hk.elim (RA.sep H k) (vlX_sep hv.X k))) ?_
  refine ⟨FlK w B A.ks (fun k => k.slot != slot), fun ids w2 hp hf => ⟨B.and (kRow (some ⟨idAt ids 3, 0, none⟩) 0 []), A.ks.length, ⟨⟨hf.x, HX.rw_nil _ _ _ _⟩, fun k hk => hk.elim (hf.sep k) fun q => absurd rfl q.1⟩, 0, some ⟨idAt ids 3, 0, none⟩, 0, rfl, Nat.zero_le _, rfl, (fun k h => absurd rfl h), rfl⟩, ?_⟩
  rintro vs hx' n hcnt ⟨k, a, cap, rfl, hk, rfl, hO, rfl⟩
  obtain ⟨fs, efs⟩ : ∃ x, x = (A.ks.take k).filter (fun k => k.slot != slot) := ⟨_, rfl⟩
  have hfl : fs.length ≤ 1000 := by rw [efs]; exact Nat.le_trans (filt_le _ _ _) lk
  rw [← efs]
  refine holds_env (ρ' := ⟨[A.next, A.top, slot, v.k, (k : Int)], [], [], [A.mem.length, A.cm, A.ks.length, A.ck, A.ds.length, A.cd, v.cs.length, c1, v.ns.length, c2, fs.length, cap], [A.am, A.ak, A.ad, a1, a2, a]⟩) rfl ?_
  refine br_D (p := (k : Int) < (A.ks.length : Int)) (by kernel_rfl) (fun hkl => ?_) (fun hkl => ?_)
  · have hkl : k < A.ks.length := by omega
    obtain ⟨d, hd⟩ : ∃ b, A.ks[k]? = some b := ⟨_, List.getElem?_eq_getElem hkl⟩
    obtain ⟨s1, q1⟩ := k_elt (RA.xk H) hd 1 [.int .i64 d.slot] (part_of rfl) (by simp)
    obtain ⟨_, q2⟩ := k_elt (RA.xk H) hd 0 d.cells (part_of rfl) (by simp [RK.cells])
    have hst := filt_step (p := fun k => k.slot != slot) hd
    rw [← efs] at hst
    refine ⟨JnK w B A.ks (fun k => k.slot != slot) k, ?_, ?_⟩
    · refine need_k (A.ak.isSome = true ∧ 0 ≤ (k : Int) ∧ (k : Int) < (A.ks.length : Int)) (by kernel_rfl) ⟨s1, by omega, by omega⟩ ?_
      refine node_ld0 (k := ⟨5, 0, 0, 12, 6⟩) ⟨[d.slot], [], [], [], []⟩ (.pointer (some (((A.ak.getD ⟨0, 0, none⟩).add (k * 7)).add 1))) [.int .i64 d.slot] (by intros; kernel_rfl) (by intros; kernel_rfl) q1 ⟨by kernel_rfl, oneNil⟩ (by kernel_rfl) oneNil ?_
      refine br_B (d.slot != slot) (by kernel_rfl) (fun he => ?_) (fun he => ?_)
      · rw [if_pos he] at hst
        refine need_k (A.ak.isSome = true ∧ 0 ≤ (k : Int) ∧ (k : Int) < (A.ks.length : Int)) (by kernel_rfl) ⟨s1, by omega, by omega⟩ ?_
        refine node_ld0 (k := ⟨6, 0, 0, 12, 6⟩) ⟨[d.node, d.slot, d.r, d.n, d.p.v.k], [], [], [d.p.v.cs.length, d.p.c1, d.p.v.ns.length, d.p.c2], [d.p.a1, d.p.a2]⟩ (.pointer (some (((A.ak.getD ⟨0, 0, none⟩).add (k * 7)).add 0))) d.cells (by intros; kernel_rfl) (by intros; kernel_rfl) q2 ⟨by kernel_rfl, oneNil⟩ (by kernel_rfl) oneNil ?_
        refine node_pushs (e := 93) (sz := 7) rfl Try.underlying58 info_hrd rfl (by decide) a fs.length cap (kcs fs) d.cells 4 (by intros; kernel_rfl) (by intros; kernel_rfl) rfl (by intros; kernel_rfl) rfl (kcell_one d) (fun q q1 q2 => (hO q q1 q2).2) (fun q q1 q2 => .inl (hO q q1 q2).1) (by unfold maxLen; omega) (by omega) (by intros; kernel_rfl) (by kernel_rfl) (by kernel_rfl) (by intros; kernel_rfl) ?_
        intro a' cap' hc' hr' hor'
        refine again_V ⟨[], [], [], [fs.length + 1, cap'], [a']⟩ rfl (by intros; kernel_rfl) (B.and (kRow a' cap' ((A.ks.take (k + 1)).filter (fun k => k.slot != slot)))) (fun w2 ids hf => ⟨⟨hf.x.1, ?_⟩, hf.sep⟩) ⟨a', cap', by rw [hst, List.length_append]; rfl, own_step hO hr' hor', rfl⟩
        have := hf.x.2
        rw [kcs_snoc] at this
        show (HX.rw 7 93 a' _ cap' (kcs _)).X w2
        rw [hst, List.length_append]; exact this
      · rw [if_neg (by rw [he]; decide), List.append_nil] at hst
        exact again_V ⟨[], [], [], [fs.length, cap], [a]⟩ rfl (by intros; kernel_rfl) (B.and (kRow a cap ((A.ks.take (k + 1)).filter (fun k => k.slot != slot)))) (fun w2 ids hf => ⟨by rw [hst]; exact hf.x, hf.sep⟩) ⟨a, cap, by rw [hst], hO, rfl⟩
    · rintro vs hx' hcnt2 ⟨a', cap', rfl, hO', rfl⟩
      have hwk : IntKind.i64.wrap ((k : Int) + 1) = ((k + 1 : Nat) : Int) := by rw [wrap_i64 (by omega)]; omega
      exact again_V ⟨[IntKind.i64.wrap ((k : Int) + 1)], [], [], [((A.ks.take (k + 1)).filter (fun k => k.slot != slot)).length, cap'], [a']⟩ rfl (by intros; kernel_rfl) _ (fun w2 ids hf => ⟨hf.x, hf.sep⟩) ⟨A.ks.length - (k + 1), by omega, k + 1, a', cap', rfl, by omega, by rw [hwk], hO', rfl⟩
  · have hks : A.ks.take k = A.ks := List.take_of_length_le (by omega)
    rw [hks] at efs
    refine node_clones (sz := 6) (xs := dcs A.ds) rfl Try.underlying27 info_vot rfl (by decide) 4 rfl (fun _ => A.ad) A.ds.length A.cd (dcs_len _) (fun ids w2 hp hf => RA.xd (BA hf.x.1)) (dcs_one _) (by unfold maxLen; omega) (by omega) (by intros; kernel_rfl) (by intros; kernel_rfl) (by intros; kernel_rfl) (by kernel_rfl) (by kernel_rfl) (by intros; kernel_rfl) ?_
    intro ad' cd' hfrD
    refine node_vl (V := id) (v := v) (fun _ => #[vlV v a1 c1 a2 c2]) (fun b1 d1 b2 d2 => ⟨[v.k], [], [], [v.cs.length, d1, v.ns.length, d2], [b1, b2]⟩) (by intros; kernel_rfl) (fun ids w2 hp hf => cpvl_any v a1 c1 a2 c2 w2 (hv.fit.at_ (BV hf.x.1.1))) (by intros; kernel_rfl) (by kernel_rfl) (by kernel_rfl) (by intros; kernel_rfl) (fun _ _ _ _ => oneNil) ?_
    intro b1 d1 b2 d2 hfrV
    refine holds_eq (HX.and_right_comm _ _ _) ?_
    refine node_pushs (e := 34) (sz := 6) rfl Try.underlying27 info_vot rfl (by decide) ad' A.ds.length cd' (dcs A.ds) (RD.cells ⟨slot, ⟨v, b1, d1, b2, d2⟩⟩) 5 (by intros; kernel_rfl) (by intros; kernel_rfl) rfl (by intros; kernel_rfl) rfl (dcell_one _) (fun q q1 q2 z => z.elim (hfrD q q1 q2).2 fun z => (hfrV q z).2 (.inr ⟨q1, q2⟩)) (fun q q1 q2 => .inl (hfrD q q1 q2).1) (by unfold maxLen; omega) (by omega) (by intros; kernel_rfl) (by kernel_rfl) (by kernel_rfl) (by intros; kernel_rfl) ?_
    intro a3 c3 hc3 hr3 hor3 ids w2 hp hf
    have hrowD : OwnR w ((B.and (kRow a cap fs)).and (vlX v b1 b2)) a3 c3 := own_step (rest := (B.and (kRow a cap fs)).and (vlX v b1 b2)) (a := ad') (cap := cd') (fun q q1 q2 => ⟨(hfrD q q1 q2).1, fun z => z.elim (hfrD q q1 q2).2 fun z => (hfrV q z).2 (.inr ⟨q1, q2⟩)⟩) hr3 hor3
    have hD : (HX.rw 6 34 a3 (A.ds.length + 1) c3 (dcs (A.ds ++ [⟨slot, ⟨v, b1, d1, b2, d2⟩⟩]))).X w2 := by
      have := hf.x.2
      rw [dcs_snoc] at this; exact this
    have hK : (kRow a cap fs).X w2 := hf.x.1.1.2
    have hAX := BA hf.x.1.1.1
    have hsub : ∀ x ∈ fs, x ∈ A.ks := fun x hx => by rw [efs] at hx; exact (List.mem_filter.1 hx).1
    refine ⟨{ A with ak := a, ck := cap, ks := fs, ad := a3, cd := c3, ds := A.ds ++ [⟨slot, ⟨v, b1, d1, b2, d2⟩⟩] }, ⟨rfl, rfl, rfl, efs, ⟨v, b1, d1, b2, d2⟩, rfl, rfl⟩, ?_, RA.X_of (show Ints w2 A.am A.mem from RA.xm hAX) (rw_cells hK) (rw_cells hD) (fun x hx => RA.X_kv hAX (hsub x hx)) (fun x hx => ?_), fun q hq => ?_, hf.chg.below⟩
    · show Ending.returned (.agg #[.slice A.am A.mem.length A.cm, .int .i64 A.next, .int .i64 A.top, .slice a fs.length cap, .slice a3 (A.ds.length + 1) c3]) = Ending.returned (.agg #[.slice A.am A.mem.length A.cm, .int .i64 A.next, .int .i64 A.top, .slice a fs.length cap, .slice a3 (A.ds ++ [_]).length c3])
      rw [List.length_append]; rfl
    · rcases List.mem_append.1 hx with hx | hx
      · exact RA.X_dv hAX hx
      · rw [List.mem_singleton.1 hx]; exact hf.x.1.2
    · rcases RA.F_of hq with z | z | z | ⟨x, hx, z⟩ | ⟨x, hx, z⟩
      · exact .inl (RA.F_m z)
      · exact .inr (cl_row hK (fun q q1 q2 => (hO q q1 q2).1) q z)
      · exact .inr (cl_row hD (fun q q1 q2 => (hrowD q q1 q2).1) q z)
      · exact .inl (RA.F_kv (hsub x hx) z)
      · rcases List.mem_append.1 hx with hx | hx
        · exact .inl (RA.F_dv hx z)
        · rw [List.mem_singleton.1 hx] at z
          exact .inr (hfrV q z).1
/-- What Told makes of a learner. -/
def ToldQ (A : RA) (slot : Int) (v : Vl) (A' : RA) : Prop := if A.openB slot v = true then SetQ { A with top := max A.top slot } slot v A' else A' = A
theorem rtold_any (slot : Int) (v : Vl) (a1 : Option Addr) (c1 : Nat) (a2 : Option Addr) (c2 : Nat) (w : World) (ok : A.Ok) (H : A.hx.X w) (hv : VlAt w v a1 a2) (hs : slot ≤ 1099511627776 ∨ A.openB slot v = false) : Calls Try.prog 44 #[A.val, .int .i64 slot, vlV v a1 c1 a2 c2] w (RaRet w A (fun x => .tuple #[x, .bool (A.openB slot v)]) (ToldQ A slot v)) := by
  refine calls_at (tab_ok _) Try.func44 rfl tRTold (ρ := ⟨[A.next, A.top, slot, v.k], [], [], [A.mem.length, A.cm, A.ks.length, A.ck, A.ds.length, A.cd, v.cs.length, c1, v.ns.length, c2], [A.am, A.ak, A.ad, a1, a2]⟩) (ids := []) (hx := A.hx.and (vlX v a1 a2)) rfl (Facts.initq rfl oneNil ⟨H, hv.X⟩ (fun k hk => hk.elim (RA.sep H k) (vlX_sep hv.X k))) ?_
  refine node_PI ⟨[], [A.openB slot v], [], [], []⟩ (fun _ => #[A.val, .int .i64 slot, vlV v a1 c1 a2 c2]) (.bool (A.openB slot v)) (by intros; kernel_rfl) (by intros; kernel_rfl) (by kernel_rfl) (by kernel_rfl) (by kernel_rfl) oneNil (fun ids w2 hp hf => ropen_any slot v a1 c1 a2 c2 w2 ok hf.x.1 (hv.fit.at_ hf.x.2)) ?_
  refine br_B (!(A.openB slot v)) (by kernel_rfl) (fun h => ?_) (fun h => ?_)
  · have h : A.openB slot v = false := by simpa using h
    intro ids w2 hp hf
    refine ⟨A, by unfold ToldQ; rw [if_neg (by rw [h]; decide)], ?_, hf.x.1, fun q z => .inl z, hf.chg.below⟩
    rw [h]; rfl
  have h : A.openB slot v = true := by simpa using h
  obtain ⟨A2, eA2⟩ : ∃ x : RA, x = { A with top := max A.top slot } := ⟨_, rfl⟩
  refine ⟨fun vs hx' => vs = ⟨[A.next, max A.top slot], [], [], [A.mem.length, A.cm, A.ks.length, A.ck, A.ds.length, A.cd], [A.am, A.ak, A.ad]⟩ ∧ hx' = A.hx.and (vlX v a1 a2), ?_, ?_⟩
  · refine br_D (p := slot > A.top) (by kernel_rfl) (fun h2 => ?_) (fun h2 => ?_)
    · exact again_V _ rfl (by intros; kernel_rfl) _ (fun w2 ids hf => ⟨hf.x, hf.sep⟩) ⟨by rw [show max A.top slot = slot by omega], rfl⟩
    · exact again_V _ rfl (by intros; kernel_rfl) _ (fun w2 ids hf => ⟨hf.x, hf.sep⟩) ⟨by rw [show max A.top slot = A.top by omega], rfl⟩
  rintro vs hx' hcnt ⟨rfl, rfl⟩
  have t0 := ok.t0
  have t2 := ok.t2
  have hs2 : slot ≤ 1099511627776 := hs.elim id fun q => by rw [q] at h; cases h
  have ok2 : A2.Ok := by rw [eA2]; exact ⟨ok.k, ok.d, ok.lk, ok.ld, ok.lm, ok.n1, ok.n2, by show 0 ≤ max A.top slot; omega, by show max A.top slot ≤ _; omega⟩
  have ehx : A2.hx = A.hx := by rw [eA2]; rfl
  refine node_ra (V := id) (A := A2) (Q := SetQ A2 slot v) (fun _ => #[A2.val, .int .i64 slot, vlV v a1 c1 a2 c2]) (fun A' => ⟨[A.next, max A.top slot], [], [], [A'.mem.length, A'.cm, A'.ks.length, A'.ck, A'.ds.length, A'.cd], [A'.am, A'.ak, A'.ad]⟩) (fun ids => by rw [eA2]; kernel_rfl) (fun k hk => .inl (by rw [← ehx]; exact hk)) (fun ids w2 hp hf => rsettle_any slot v a1 c1 a2 c2 w2 ok2 (by rw [ehx]; exact hf.x.1) (hv.fit.at_ hf.x.2)) (fun A' hQ ids => ?_) (by kernel_rfl) (by kernel_rfl) (fun A' _ => by kernel_rfl) (fun _ _ => oneNil) ?_
  · obtain ⟨q1, q2, q3, _⟩ := hQ
    rw [eA2] at q2 q3
    have : A'.val = .agg #[.slice A'.am A'.mem.length A'.cm, .int .i64 A.next, .int .i64 (max A.top slot), .slice A'.ak A'.ks.length A'.ck, .slice A'.ad A'.ds.length A'.cd] := by
      unfold RA.val RA.cells; rw [q2, q3]
    exact Eq.trans (by kernel_rfl) this.symm
  · intro A' hQ hF ids w2 hp hf
    obtain ⟨q1, q2, q3, _⟩ := id hQ
    rw [eA2] at q2 q3
    refine ⟨A', by unfold ToldQ; rw [if_pos h, ← eA2]; exact hQ, ?_, hf.x.2, fun q z => (hF q z).imp (fun y => by rw [← ehx]; exact y) (·.1), hf.chg.below⟩
    have : A'.val = .agg #[.slice A'.am A'.mem.length A'.cm, .int .i64 A.next, .int .i64 (max A.top slot), .slice A'.ak A'.ks.length A'.ck, .slice A'.ad A'.ds.length A'.cd] := by
      unfold RA.val RA.cells; rw [q2, q3]
    rw [this, h]; rfl
end
end Go.Proofs.Ythmlhnkdiafpkaa
