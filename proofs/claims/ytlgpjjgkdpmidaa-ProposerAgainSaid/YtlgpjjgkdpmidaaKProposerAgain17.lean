/- Part 17 of the texts of a proof about the given program: what the statement's proof needs of them. -/
import Derived.Shelf.SlSortCmp.NoneTotal
import Derived.Test.YtlgpjjgkdpmidaaKProposerAgain16
namespace Go.Proofs.Ytlgpjjgkdpmidaa
open Go.Shelf Go.ChangeShapes Go.WideShapes Go.ChangeAt Go.RowKit Go.Syn Go.Eng Go.Lib Go.Sort Go.Proofs
set_option linter.unusedVariables false
set_option linter.unusedSimpArgs false
set_option maxRecDepth 100000
def renS : Ren := ⟨fun | 6 => 48 | 14 => 67 | 15 => 68 | 20 => 72 | 21 => 73 | 22 => 74 | 23 => 75 | 24 => 76 | 25 => 77 | 26 => 78 | 27 => 79 | 28 => 80 | 29 => 81 | 46 => 84 | 47 => 85 | 48 => 86 | 49 => 87 | 50 => 88 | 57 => 89 | n => n,
  fun | 22 => 52 | 24 => 41 | 25 => 98 | 39 => 115 | 45 => 119 | 46 => 120 | 50 => 124 | 53 => 127 | 55 => 129 | 66 => 133 | 70 => 137 | 76 => 140 | 77 => 61 | n => n, fun n => n⟩
theorem laysS : SlLaysF0.n6 Try.prog renS where
  mixed := by kernel_rfl
  f6 := ⟨Try.f48.name, by decide, Try.func48.trans (congrArg some (by kernel_rfl))⟩
  f14 := ⟨Try.f67.name, by decide, Try.func67.trans (congrArg some (by kernel_rfl))⟩
  f15 := Try.func68.trans (congrArg some (by kernel_rfl))
  f20 := ⟨Try.f72.name, by decide, Try.func72.trans (congrArg some (by kernel_rfl))⟩
  f21 := ⟨Try.f73.name, by decide, Try.func73.trans (congrArg some (by kernel_rfl))⟩
  f22 := ⟨Try.f74.name, by decide, Try.func74.trans (congrArg some (by kernel_rfl))⟩
  f23 := ⟨Try.f75.name, by decide, Try.func75.trans (congrArg some (by kernel_rfl))⟩
  f24 := ⟨Try.f76.name, by decide, Try.func76.trans (congrArg some (by kernel_rfl))⟩
  f25 := ⟨Try.f77.name, by decide, Try.func77.trans (congrArg some (by kernel_rfl))⟩
  f26 := ⟨Try.f78.name, by decide, Try.func78.trans (congrArg some (by kernel_rfl))⟩
  f27 := ⟨Try.f79.name, by decide, Try.func79.trans (congrArg some (by kernel_rfl))⟩
  f28 := Try.func80.trans (congrArg some (by kernel_rfl))
  f29 := Try.func81.trans (congrArg some (by kernel_rfl))
  f46 := ⟨Try.f84.name, by decide, Try.func84.trans (congrArg some (by kernel_rfl))⟩
  f47 := Try.func85.trans (congrArg some (by kernel_rfl))
  f48 := Try.func86.trans (congrArg some (by kernel_rfl))
  f49 := ⟨Try.f87.name, by decide, Try.func87.trans (congrArg some (by kernel_rfl))⟩
  f50 := ⟨Try.f88.name, by decide, Try.func88.trans (congrArg some (by kernel_rfl))⟩
  f57 := ⟨Try.f89.name, by decide, Try.func89.trans (congrArg some (by kernel_rfl))⟩
  t0 := Try.underlying0
  a0 := Try.isAgg0
  z0 := Try.sizeOf0
  v0 := Try.zeroValue0
  t3 := Try.underlying3
  a3 := Try.isAgg3
  z3 := Try.sizeOf3
  v3 := Try.zeroValue3
  t4 := Try.underlying4
  a4 := Try.isAgg4
  z4 := Try.sizeOf4
  v4 := Try.zeroValue4
  t5 := Try.underlying5
  a5 := Try.isAgg5
  z5 := Try.sizeOf5
  v5 := Try.zeroValue5
  t9 := Try.underlying9
  a9 := Try.isAgg9
  z9 := Try.sizeOf9
  v9 := Try.zeroValue9
  t22 := Try.underlying52
  a22 := Try.isAgg52
  z22 := Try.sizeOf52
  v22 := Try.zeroValue52
  t25 := Try.underlying98
  a25 := Try.isAgg98
  z25 := Try.sizeOf98
  v25 := Try.zeroValue98
  t39 := Try.underlying115
  a39 := Try.isAgg115
  z39 := Try.sizeOf115
  v39 := Try.zeroValue115
  t45 := Try.underlying119
  a45 := Try.isAgg119
  z45 := Try.sizeOf119
  v45 := Try.zeroValue119
  t46 := Try.underlying120
  a46 := Try.isAgg120
  z46 := Try.sizeOf120
  v46 := Try.zeroValue120
  t50 := Try.underlying124
  a50 := Try.isAgg124
  z50 := Try.sizeOf124
  v50 := Try.zeroValue124
  t53 := Try.underlying127
  a53 := Try.isAgg127
  z53 := Try.sizeOf127
  v53 := Try.zeroValue127
  t55 := Try.underlying129
  a55 := Try.isAgg129
  z55 := Try.sizeOf129
  v55 := Try.zeroValue129
  t66 := Try.underlying133
  a66 := Try.isAgg133
  z66 := Try.sizeOf133
  v66 := Try.zeroValue133
  t70 := Try.underlying137
  a70 := Try.isAgg137
  z70 := Try.sizeOf137
  v70 := Try.zeroValue137
  t76 := Try.underlying140
  a76 := Try.isAgg140
  z76 := Try.sizeOf140
  v76 := Try.zeroValue140
  t77 := Try.underlying61
  a77 := Try.isAgg61
  z77 := Try.sizeOf61
  v77 := Try.zeroValue61
def cmpI (x y : Int) : Int := if x < y then -1 else if x > y then 1 else 0
theorem cmpInt_any (x y : Int) (w : World) : Calls Try.prog 50 #[.int .i64 x, .int .i64 y] w fun e w' => e = .returned (.int .i64 (cmpI x y)) ∧ w' = w := by
  have E := Lib.hid (show cmpI x y = (if x < y then -1 else if x > y then 1 else 0) from rfl)
  by_cases h1 : x < y
  · go_enter Try.func50, Try.ntmps50
    go_wp2
    go_ret
    exact ⟨by rw [E.out, if_pos h1]; rfl, rfl⟩
  · by_cases h2 : x > y
    · go_enter Try.func50, Try.ntmps50
      go_wp2
      go_ret
      exact ⟨by rw [E.out, if_neg (by omega), if_pos (by omega)]; rfl, rfl⟩
    · go_enter Try.func50, Try.ntmps50
      go_wp2
      go_ret
      exact ⟨by rw [E.out, if_neg (by omega), if_neg (by omega)]; rfl, rfl⟩
theorem cmp_lt (x y : Int) : decide (cmpI x y < 0) = decide (x < y) := by
  unfold cmpI
  by_cases h1 : x < y
  · rw [if_pos h1, decide_eq_true h1]; rfl
  · rw [if_neg h1, decide_eq_false h1]
    split <;> rfl
instance : Inhabited Pv := ⟨pz⟩
section
variable (r n : Int)
theorem closure_any (p q : Int × Pv) (W : World) : Calls Try.prog 49 #[.agg (mgC r n p).toArray, .agg (mgC r n q).toArray] W fun e w' => e = .returned (.int .i64 (cmpI p.1 q.1)) ∧ ∃ k os', w' = Sort.grow (W.drewN k) os' := by
  have hcon := fun W' => cmpInt_any p.1 q.1 W'
  generalize cmpI p.1 q.1 = z at hcon ⊢
  show Calls Try.prog 49 #[.agg #[.int .i64 4, .int .i64 0, .int .i64 0, .int .i64 0, .int .i64 r, .int .i64 n, .int .i64 p.1, .int .i64 0, .int .i64 0, .int .i64 p.2.v.k, .slice p.2.a1 p.2.v.cs.length p.2.c1, .slice p.2.a2 p.2.v.ns.length p.2.c2, .slice none 0 0, .int .i64 0, .int .i64 0, .int .i64 0, .int .i64 0, .int .i64 0, .int .i64 0, .int .i64 0, .int .i64 0, .int .i64 0, .int .i64 0, .int .i64 0, .slice none 0 0], .agg #[.int .i64 4, .int .i64 0, .int .i64 0, .int .i64 0, .int .i64 r, .int .i64 n, .int .i64 q.1, .int .i64 0, .int .i64 0, .int .i64 q.2.v.k, .slice q.2.a1 q.2.v.cs.length q.2.c1, .slice q.2.a2 q.2.v.ns.length q.2.c2, .slice none 0 0, .int .i64 0, .int .i64 0, .int .i64 0, .int .i64 0, .int .i64 0, .int .i64 0, .int .i64 0, .int .i64 0, .int .i64 0, .int .i64 0, .int .i64 0, .slice none 0 0]] W _
  generalize p.1 = x at hcon ⊢
  generalize q.1 = y at hcon ⊢
  generalize p.2.v.k = p1
  generalize Value.slice p.2.a1 p.2.v.cs.length p.2.c1 = p2
  generalize Value.slice p.2.a2 p.2.v.ns.length p.2.c2 = p3
  generalize q.2.v.k = q1
  generalize Value.slice q.2.a1 q.2.v.cs.length q.2.c1 = q2
  generalize Value.slice q.2.a2 q.2.v.ns.length q.2.c2 = q3
  go_enter Try.func49, Try.ntmps49
  go_wp2_with (go_at_call 50; refine (hcon _).mono ?_; rintro e w' ⟨rfl, rfl⟩)
  go_ret
  exact ⟨rfl, 0, _, by rw [Sort.alloc_eq_grow, Sort.alloc_eq_grow, Sort.grow_grow]; rfl⟩
theorem cmp_lays (g off size : Nat) (w : World) : CmpLays Try.prog 49 #[] (mgC r n) 25 (fun x y => cmpI x.1 y.1) g off size w := fun _ _ _ _ x y => closure_any r n x y _
end
theorem lt_is (x y : Int × Pv) : ltOf (fun x y : Int × Pv => cmpI x.1 y.1) x y = decide (x.1 < y.1) := cmp_lt x.1 y.1
theorem swo_slot : SWO (ltOf fun x y : Int × Pv => cmpI x.1 y.1) where
  irrefl x := by rw [lt_is]; simp
  trans x y z h1 h2 := by rw [lt_is] at *; simp at *; omega
  ntrans x y z h1 h2 := by rw [lt_is] at *; simp at *; omega
theorem sort_any {r n : Int} {mp : List (Int × Pv)} {ma : Option Addr} {mc : Nat} {w : World} (H : (mrow ma mc r n mp).X w) (hl : mp.length ≤ 1000) : Calls Try.prog 48 #[.slice ma mp.length mc, .func (.func 49) #[] #[]] w fun e w' => e = .returned (.tuple #[]) ∧ ∃ mp' : List (Int × Pv), mp'.Perm mp ∧ mp'.Pairwise (fun x y => x.1 ≤ y.1) ∧ (mrow ma mc r n mp').X w' ∧ Chg (mrow ma mc r n mp).F w w' := by
  by_cases hc : mc = 0
  · have hm : mp = [] := by
      rcases H with ⟨_, q, _⟩ | ⟨q, _⟩
      · exact List.length_eq_zero_iff.1 q
      · exact absurd hc q
    subst hm
    refine (AnyF.slices_SortFunc_none laysS ma mc (.func (.func 49) #[] #[]) w).mono ?_
    rintro e w' ⟨rfl, rfl⟩
    exact ⟨rfl, [], List.Perm.refl _, List.Pairwise.nil, H, Chg.refl _ _⟩
  · obtain ⟨g, cur, rfl, hgs, hg, h1, h2, h3, h4⟩ := rw_open H hc
    have hH : HoldsK (mgC r n) 25 w g 0 mp.toArray := rw_holds (enc := mgC r n) (k := 25) (d := mp.toArray) (fun _ => rfl) hg (by simpa [mcells] using h4)
    have eg : ∀ args w, (callFunc 49 args).run Try.prog w = .ok (.enter 49 args) w := enters_of Try.func49 (by kernel_rfl) rfl
    have hcon := AnyQ.slices_SortFunc laysS 25 Try.isAgg41 Try.sizeOf41 (mgC r n) (fun _ => rfl) (mgC_one r n) (fun x y => cmpI x.1 y.1) swo_slot 49 #[] g 0 mc mp.toArray w eg (cmp_lays r n g 0 _ w) hH hgs (by simp; omega)
    refine hcon.mono ?_
    rintro e w' ⟨rfl, d', m, os, hp, hs, rfl⟩
    have hsz : d'.size = mp.length := by rw [hp.1]; simp
    obtain ⟨g1, g2⟩ := sw_row (enc := mgC r n) (k := 25) (fun _ => rfl) (d := d') (cap := mc) hg hc (by rw [hsz]; exact h1) h2 h3 m os
    refine ⟨rfl, d'.toList, ?_, ?_, ?_, ?_⟩
    · have := hp.2.2
      rw [← hp.1, Array.extract_size] at this
      rw [hp.1, Array.extract_size] at this
      simpa using this
    · rw [List.pairwise_iff_getElem]
      intro i j hi hj hij
      have hi : i < d'.size := by simpa using hi
      have hj : j < d'.size := by simpa using hj
      have := hs i j (Nat.zero_le _) hij (by rw [← hp.1]; exact hj)
      rw [lt_is, getElem!_pos d' i hi, getElem!_pos d' j hj] at this
      have := of_decide_eq_false this
      rw [Array.getElem_toList, Array.getElem_toList]
      omega
    · unfold mrow mcells
      rw [Array.length_toList]
      rw [hsz] at g1 ⊢
      exact g1
    · refine ⟨g2.os, g2.tape, g2.output, g2.size, fun b hb hne => g2.block b hb fun q => hne ?_⟩
      rw [q]
      exact ⟨hc, rfl⟩
end Go.Proofs.Ytlgpjjgkdpmidaa

namespace Go.Proofs.Ytlgpjjgkdpmidaa
open Go.ChangeShapes Go.WideShapes Go.ChangeAt Go.RowKit Go.Syn Go.Eng Go.MapKept
set_option linter.unusedVariables false
set_option linter.unusedSimpArgs false
set_option maxRecDepth 100000
theorem perm_del {α : Type} {m : List (Int × α)} {k : Int} {v : α} (hn : NdK m) (h : (k, v) ∈ m) : m.Perm ((k, v) :: mdel m k) := by
  induction m with
  | nil => cases h
  | cons p r ih =>
    simp only [NdK, List.map_cons, List.nodup_cons] at hn
    by_cases hp : p.1 = k
    · have hpv : p = (k, v) := by
        rcases List.mem_cons.1 h with h | h
        · exact h.symm
        · exact absurd (List.mem_map.2 ⟨(k, v), h, rfl⟩) (by rw [← hp]; exact hn.1)
      have hd : mdel (p :: r) k = r := by
        unfold mdel
        rw [List.filter_cons, if_neg (by simp [hp])]
        refine List.filter_eq_self.2 fun q hq => decide_eq_true fun e => hn.1 ?_
        rw [hp, ← e]; exact List.mem_map.2 ⟨q, hq, rfl⟩
      rw [hd, hpv]
    · have hd : mdel (p :: r) k = p :: mdel r k := by
        unfold mdel
        rw [List.filter_cons, if_pos (by simp [hp])]
      have h2 : (k, v) ∈ r := (List.mem_cons.1 h).resolve_left fun e => hp (by rw [← e])
      rw [hd]
      exact ((ih hn.2 h2).cons p).trans (List.Perm.swap _ _ _)
theorem mall_perm {mp mp' : List (Int × Pv)} (h : mp'.Perm mp) : mall mp' = mall mp := HX.ext (by
    funext k
    refine propext ⟨fun ⟨y, hy, hk⟩ => ⟨y, ?_, hk⟩, fun ⟨y, hy, hk⟩ => ⟨y, ?_, hk⟩⟩
    · exact (h.map _).mem_iff.1 hy
    · exact (h.map _).mem_iff.2 hy) (by
    funext w
    exact propext ⟨fun z y hy => z y ((h.map _).mem_iff.2 hy), fun z y hy => z y ((h.map _).mem_iff.1 hy)⟩)
def AgS (w : World) (P : Pr Vl) (e : Ending) (w' : World) : Prop := ∃ (mp : List (Int × Pv)) (ma : Option Addr) (mc : Nat), e = .returned (.slice ma mp.length mc) ∧ (mmap Pv.v mp).Perm P.out ∧ mp.Pairwise (fun x y => x.1 ≤ y.1) ∧ (∀ q ∈ mp, VlFit q.2.v) ∧ (mp ≠ [] → ma.isSome = true) ∧ ((mall mp).and (mrow ma mc P.r P.n mp)).X w' ∧ (∀ k, ((mall mp).and (mrow ma mc P.r P.n mp)).F k → w.heap.size ≤ k ∧ k < w'.heap.size) ∧ Below w.heap.size w w'
section
variable {nb : Nat} {w : World} {F : Nat → Prop}
def Ag7 (w : World) (D : Pr Pv) (a : PA) (it : Nat) (vs : Vals) (hx : HX) (m : Nat) : Prop := ∃ (ls mp : List (Int × Pv)) (last : Option (Int × Value)) (ma : Option Addr) (mc : Nat), m = ls.length ∧ vs = ⟨[], [], [], [mp.length, mc], [ma]⟩ ∧ (mp.map (fun q => (q.1, q.2.v)) ++ ls.map (fun q => (q.1, q.2.v))).Perm (mmap Pv.v D.out) ∧ (∀ p ∈ ls, p ∈ D.out) ∧ NdK ls ∧ (∀ q ∈ mp, VlFit q.2.v) ∧ (mp ≠ [] → mc ≠ 0) ∧ (∀ k, (mall mp).F k → w.heap.size ≤ k ∧ ¬ (prX D a).F k ∧ k ≠ it) ∧ (∀ k, mc ≠ 0 → abk ma = some k → w.heap.size ≤ k ∧ ¬ (prX D a).F k ∧ k ≠ it ∧ ¬ (mall mp).F k) ∧ hx = (((prX D a).and (mall mp)).and (mrow ma mc D.r D.n mp)).and (HX.rng it a.bo (mmap Pv.val D.out) (mmap Pv.val ls) last)
set_option maxHeartbeats 1600000 in
theorem again_any {P : Pr Vl} (H0 : (HX.obj F (PrO nb P)).X w) (hF : ∀ k, F k → k < w.heap.size) (hph : P.phase = 2) (hfr : P.fresh = []) (hnd : NdK P.out) (hl : P.out.length ≤ 1000) :
    Calls Try.prog 25 #[.pointer (some ⟨nb, 0, none⟩)] w (AgS w P) := by
  obtain ⟨D, a, hP, hok, hnb, hB, hX, Fnb, hsub⟩ := pobj_open H0
  refine calls_at (tab_ok _) Try.func25 rfl tPAgain (ρ := ⟨[D.me, D.window, D.phase, D.r, D.n, D.frm, D.next], [D.stop], [.map (some a.bb), .map (some a.bo)], [D.mem.length, a.cm, D.said.length, a.cs, D.fresh.length, a.cf, D.queue.length, a.cq], [a.am, a.as_, a.af, a.aq]⟩) (ids := [nb]) (hx := prX D a) rfl (Facts.initx (M := fun k => k = nb) rfl (fun v hv => by simp only [List.mem_cons, List.not_mem_nil, or_false] at hv; rcases hv with rfl | rfl <;> rfl) hB rfl rfl hX (fun k hk => ⟨hF k (hsub k hk), fun e => hnb (e ▸ hk)⟩)) ?_
  have hph : D.phase = 2 := by rw [← hph, ← hP]; rfl
  have hfr : D.fresh = [] := by rw [← hP] at hfr; exact hfr
  have hout : mmap Pv.v D.out = P.out := by rw [← hP]; rfl
  have hnd : NdK D.out := by rw [← hout] at hnd; unfold NdK at hnd ⊢; rw [keys_map] at hnd; exact hnd
  have hl : D.out.length ≤ 1000 := by rw [← hout] at hl; unfold mmap at hl; rw [List.length_map] at hl; exact hl
  have hPr : P.r = D.r := by rw [← hP]; rfl
  have hPn : P.n = D.n := by rw [← hP]; rfl
  refine br_F (D.phase == 0) (by kernel_rfl) (by rw [hph]; rfl) ?_
  refine br_F (D.phase == 1) (by kernel_rfl) (by rw [hph]; rfl) ?_
  refine node_vrangeX (mt := 75) (kt := 3) (et := 31) a.bo (mmap Pv.val D.out) (fun w h => h.1.1.1.2) (pcs_F (b := HX.vmap a.bo (mmap Pv.val D.out)) (by simp [pcs]) rfl) (by intros; kernel_rfl) Try.underlying75 (by intros; kernel_rfl) (by kernel_rfl) (by kernel_rfl) (by intros; kernel_rfl) ?_
  intro it hi1 hi2
  have hbo : (prX D a).F a.bo := pcs_F (b := HX.vmap a.bo (mmap Pv.val D.out)) (by simp [pcs]) rfl
  refine ⟨Ag7 w D a it, fun ids w2 hp hf => ⟨(((prX D a).and (mall [])).and (mrow none 0 D.r D.n [])).and (HX.rng it a.bo (mmap Pv.val D.out) (mmap Pv.val D.out) none), D.out.length, ⟨⟨⟨⟨hf.x.1, fun x hx => by cases hx⟩, HX.rw_nil _ _ _ _⟩, hf.x.2⟩, fun k hk => ?_⟩, D.out, [], none, none, 0, rfl, by kernel_rfl, List.Perm.refl _, fun p hp => hp, hnd, (fun q hq => by cases hq), (fun h => absurd rfl h), (fun k ⟨x, hx, _⟩ => by cases hx), (fun k h => absurd rfl h), rfl⟩, ?_⟩
  · rcases hk with ((hk | ⟨x, hx, _⟩) | hk) | hk
    · exact hf.sep k (.inl hk)
    · cases hx
    · exact (row0_F hk).elim
    · exact hf.sep k (.inr hk)
  rintro vs hx' n hcnt ⟨ls, mp, last, ma, mc, rfl, rfl, hperm, hls, hnl, hft, hmc, m4, m5, rfl⟩
  have hlen : mp.length + ls.length = D.out.length := by
    have := hperm.length_eq
    unfold mmap at this
    simpa using this
  refine node_vnext it a.bo (mmap Pv.val D.out) (mmap Pv.val ls) last hi1 ?_ (by intros; kernel_rfl) (by kernel_rfl) (by kernel_rfl) (fun h0 => ?_) (fun k v h1 h2 => ?_)
  · rintro ((z | z) | z)
    · exact hi2 z
    · exact (m4 it z).2.2 rfl
    · exact (m5 it z.1 z.2).2.2.1 rfl
  · refine ⟨⟨[0, 0], [false], [], [0, 0, 0, 0], [none, none]⟩, (by intros; kernel_rfl), by kernel_rfl, oneNil, br_F false (by kernel_rfl) rfl ?_⟩
    have h0 : ls = [] := by unfold mmap at h0; exact List.map_eq_nil_iff.1 h0
    rw [h0, List.map_nil, List.append_nil] at hperm
    obtain ⟨R, eR⟩ : ∃ R, R = ((prX D a).and (HX.rng it a.bo (mmap Pv.val D.out) [] last)).and (mall mp) := ⟨_, rfl⟩
    have e1 : (((prX D a).and (mall mp)).and (mrow ma mc D.r D.n mp)).and (HX.rng it a.bo (mmap Pv.val D.out) [] last) = R.and (mrow ma mc D.r D.n mp) := by rw [eR]; ac_rfl
    refine holds_eq e1 ?_
    refine node_mut (fun _ => #[.slice ma mp.length mc, .func (.func 49) #[] #[]]) (fun vs h' => ∃ mp' : List (Int × Pv), mp'.Perm mp ∧ mp'.Pairwise (fun x y => x.1 ≤ y.1) ∧ vs = Vals.nil ∧ h' = mrow ma mc D.r D.n mp') (by intros; kernel_rfl) (fun ids w2 hp hf => ?_) (fun k hk => ?_) (by kernel_rfl) (by kernel_rfl) ?_ ?_
    · refine (sort_any hf.x.2 (by omega)).mono ?_
      rintro e w' ⟨rfl, mp', p1, p2, p3, p4⟩
      exact ⟨Vals.nil, _, ⟨mp', p1, p2, rfl, rfl⟩, (by intros; kernel_rfl), p3, fun k hk => ⟨.inl hk, rw_ltx p3 hk.1 hk.2⟩, p4⟩
    · obtain ⟨q1, q2, q3, q4⟩ := m5 k hk.1 hk.2
      refine ⟨fun z => ?_, .inl q1⟩
      rw [eR] at z
      rcases z with (z | z) | z
      · exact q2 z
      · rcases z with z | z
        · exact q3 z
        · exact q2 (by rw [z]; exact hbo)
      · exact q4 z
    · rintro vs h' ⟨mp', _, _, rfl, rfl⟩
      exact ⟨by kernel_rfl, oneNil⟩
    · rintro vs h' ⟨mp', p1, p2, rfl, rfl⟩ hd ids w2 hp2 hf
      have hRx : (mall mp).X w2 := by have := hf.x.1; rw [eR] at this; exact this.2
      have hl2 := p1.length_eq
      have hpp : (mmap Pv.v mp').Perm P.out := by
        rw [← hout]
        exact (p1.map (fun q : Int × Pv => (q.1, q.2.v))).trans hperm
      refine ⟨mp', ma, mc, by rw [hl2]; rfl, hpp, p2, fun q hq => hft q (p1.mem_iff.1 hq), fun hne => ?_, ⟨by rw [mall_perm p1]; exact hRx, by rw [hPr, hPn]; exact hf.x.2⟩, fun k hk => ?_, (hf.chg.same (hf.same1 hp2 hB rfl)).below⟩
      · exact row_isS hf.x.2 fun z => by
          cases mp' with
          | nil => exact hne rfl
          | cons y r => simp [mcells, mgC] at z
      · rcases hk with hk | hk
        · rw [mall_perm p1] at hk
          exact ⟨(m4 k hk).1, (hf.sep k (.inl (by rw [eR]; exact .inr hk))).1⟩
        · exact ⟨(m5 k hk.1 hk.2).1, (hf.sep k (.inr hk)).1⟩
  · obtain ⟨⟨k2, p⟩, hp1, hp2⟩ := List.mem_map.1 h1
    obtain ⟨rfl, rfl⟩ := Prod.mk.inj hp2
    have hpD := hls _ hp1
    have hmk : mlk D.out k2 = some p := mem_mlk hnd hpD
    have hfit : VlFit p.v := (hok.go _ hpD).2
    refine ⟨⟨[k2, p.v.k], [true], [], [p.v.cs.length, p.c1, p.v.ns.length, p.c2], [p.a1, p.a2]⟩, (by intros; kernel_rfl), by kernel_rfl, oneNil, br_T true (by kernel_rfl) rfl ?_⟩
    refine node_ventry ⟨[k2, p.v.k], [], [], [p.v.cs.length, p.c1, p.v.ns.length, p.c2], [p.a1, p.a2]⟩ it a.bo _ _ k2 p.val (by intros; kernel_rfl) (by intros; kernel_rfl) (by kernel_rfl) (by kernel_rfl) (by kernel_rfl) oneNil ?_
    refine node_PI ⟨[], [false], [], [], []⟩ (fun _ => #[.slice a.af D.fresh.length a.cf, .int .i64 k2]) (.bool false) (by intros; kernel_rfl) (by intros; kernel_rfl) (by kernel_rfl) (by kernel_rfl) (by kernel_rfl) oneNil (fun ids w2 hp hf => ?_) ?_
    · have hI : Ints w2 a.af D.fresh := by rw [hfr]; exact ⟨by decide, (fun x hx => by cases hx), fun h => absurd h (Nat.lt_irrefl 0)⟩
      refine (containsI_any a.af a.cf D.fresh k2 w2 hI).mono ?_
      rintro e w' ⟨rfl, rfl⟩
      exact ⟨by rw [hfr]; rfl, Below.refl _ _⟩
    refine br_T true (by kernel_rfl) rfl ?_
    refine node_vl (V := accV D.r D.n k2) (v := p.v) (fun ids => #[.pointer (some ⟨idAt ids 0, 0, none⟩), .int .i64 k2]) (fun b1 d1 b2 d2 => ⟨[4, 0, 0, 0, D.r, D.n, k2, 0, 0, p.v.k, 0, 0, 0, 0, 0, 0, 0, 0, 0, 0, 0], [], [], [p.v.cs.length, d1, p.v.ns.length, d2, 0, 0, 0, 0], [b1, b2, none, none]⟩) (by intros; kernel_rfl) (fun ids w2 hp hf => ?_) (by intros; kernel_rfl) (by kernel_rfl) (by kernel_rfl) (by intros; kernel_rfl) (fun _ _ _ _ => oneNil) ?_
    · have hb := hf.blk 0 77 _ rfl
      have hm0 : idAt ids 0 ∈ ids := idAt_mem (ids := ids) (n := 0) (by rw [hf.len]; simp)
      have hb : Blk w2 (idAt ids 0) (prC D a) 77 := hb
      have := acc_any k2 hb hf.x.1.1.1 hok (fun q => (hf.sep _ (.inl (.inl (.inl q)))).2 hm0) (fun k hk => (hf.sep k (.inl (.inl (.inl hk)))).1)
      rw [hmk] at this; exact this
    intro b1 d1 b2 d2 hfr2
    obtain ⟨q, eq⟩ : ∃ q : Pv, q = ⟨p.v, b1, d1, b2, d2⟩ := ⟨_, rfl⟩
    have epx : vlX p.v b1 b2 = q.hx := by rw [eq]; rfl
    rw [epx] at hfr2 ⊢
    obtain ⟨RG, eRG⟩ : ∃ R, R = HX.rng it a.bo (mmap Pv.val D.out) (vdel (mmap Pv.val ls) k2) (some (k2, p.val)) := ⟨_, rfl⟩
    rw [← eRG] at hfr2 ⊢
    have e1 : ((((prX D a).and (mall mp)).and (mrow ma mc D.r D.n mp)).and RG).and q.hx = (((prX D a).and RG).and (mall (mp ++ [(k2, q)]))).and (mrow ma mc D.r D.n mp) := by rw [mall_snoc]; ac_rfl
    refine holds_eq e1 ?_
    have RGF : ∀ {k}, RG.F k → k = it ∨ (prX D a).F k := fun h => by
      rw [eRG] at h
      rcases h with h | h
      · exact .inl h
      · exact .inr (by rw [h]; exact hbo)
    refine node_pushs (e := 41) (sz := 25) rfl Try.underlying52 info_msg rfl (by decide) ma mp.length mc (mcells D.r D.n mp) (mgC D.r D.n (k2, q)) 1 (by intros; kernel_rfl) (by intros; kernel_rfl) rfl (fun ids => by rw [eq]; kernel_rfl) rfl (mgC_one _ _ _) (fun k q1 q2 => ?_) (fun k q1 q2 => .inl (m5 k q1 q2).1) (by unfold maxLen; omega) (by omega) (by intros; kernel_rfl) (by kernel_rfl) (by kernel_rfl) (by intros; kernel_rfl) ?_
    · obtain ⟨z1, z2, z3, z4⟩ := m5 k q1 q2
      rw [mall_snoc]
      rintro ((z | z) | (z | z))
      · exact z2 z
      · exact (RGF z).elim z3 z2
      · exact z4 z
      · exact (hfr2 k z).2 (.inl (.inr ⟨q1, q2⟩))
    intro ma' mc' hc' hr' hor'
    have hrow : HX.rw 25 41 ma' (mp.length + 1) mc' (mcells D.r D.n mp ++ mgC D.r D.n (k2, q)) = mrow ma' mc' D.r D.n (mp ++ [(k2, q)]) := by
      unfold mrow mcells; rw [List.length_append, List.flatMap_append]; simp
    rw [hrow]
    have e2 : (((prX D a).and RG).and (mall (mp ++ [(k2, q)]))).and (mrow ma' mc' D.r D.n (mp ++ [(k2, q)])) = (((prX D a).and (mall (mp ++ [(k2, q)]))).and (mrow ma' mc' D.r D.n (mp ++ [(k2, q)]))).and RG := by ac_rfl
    refine holds_eq e2 ?_
    refine again_V ⟨[], [], [], [mp.length + 1, mc'], [ma']⟩ rfl (by intros; kernel_rfl) _ (fun w2 ids hf => ⟨hf.x, hf.sep⟩) ⟨(mdel ls k2).length, ?_, mdel ls k2, mp ++ [(k2, q)], some (k2, p.val), ma', mc', rfl, by rw [List.length_append]; rfl, ?_, fun x hx => hls x (mdel_in.1 hx).1, hnl.del k2, fun x hx => ?_, fun _ => hc', fun k hk => ?_, fun k q1 q2 => ?_, ?_⟩
    · have := (perm_del hnl hp1).length_eq
      rw [List.length_cons] at this; omega
    · refine List.Perm.trans ?_ hperm
      rw [List.map_append, List.append_assoc]
      refine List.Perm.append_left _ ?_
      have := (perm_del hnl hp1).map (fun q : Int × Pv => (q.1, q.2.v))
      rw [eq]
      exact this.symm
    · rcases List.mem_append.1 hx with hx | hx
      · exact hft x hx
      · rw [List.mem_singleton.1 hx, eq]; exact hfit
    · rw [mall_snoc] at hk
      rcases hk with hk | hk
      · exact m4 k hk
      · refine ⟨(hfr2 k hk).1, fun z => (hfr2 k hk).2 (.inl (.inl (.inl z))), fun z => (hfr2 k hk).2 (.inr ?_)⟩
        rw [eRG, z]; exact .inl rfl
    · have hd := hr' k q2
      refine ⟨?_, fun z => hd (.inl (.inl z)), fun z => hd (.inl (.inr (by rw [eRG, z]; exact .inl rfl))), fun z => hd (.inr z)⟩
      rcases hor' with ⟨r1, r2⟩ | ⟨g, r1, r2, _⟩
      · exact (m5 k r1 (by rw [← r2]; exact q2)).1
      · rw [r1] at q2; cases q2; exact r2
    · rw [eRG, vdel_is, mdel_map]
end
end Go.Proofs.Ytlgpjjgkdpmidaa

namespace Go.Eng
open Go.RowKit Go.Syn Go.MapKept Go.Proofs.Ytlgpjjgkdpmidaa
set_option linter.unusedVariables false
set_option linter.unusedSimpArgs false
def updB (f : Nat → Bool) (k : Nat) (b : Bool) : Nat → Bool := fun i => if i = k then b else f i
def allN (n : Nat) : List (Int × Vl) := numb 1 (List.replicate n vz)
theorem allN_mem {n : Nat} {p : Int × Vl} (h : p ∈ allN n) : 1 ≤ p.1 ∧ p.1 ≤ (n : Int) ∧ p.2 = vz := by
  obtain ⟨i, hi, e⟩ := List.mem_iff_getElem.1 h
  have hg := numb_get 1 (List.replicate n vz) i
  have hi' : i < n := by have := hi; unfold allN at this; rw [numb_len, List.length_replicate] at this; exact this
  rw [List.getElem?_replicate, if_pos hi'] at hg
  have : (allN n)[i]? = some p := by rw [List.getElem?_eq_getElem hi, e]
  unfold allN at this
  rw [hg] at this
  cases this
  exact ⟨by show 1 ≤ 1 + (i : Int); omega, by show 1 + (i : Int) ≤ _; omega, rfl⟩
theorem allN_in {n : Nat} {s : Int} (h1 : 1 ≤ s) (h2 : s ≤ (n : Int)) : (s, vz) ∈ allN n := by
  have hg := numb_get 1 (List.replicate n vz) (s - 1).toNat
  rw [List.getElem?_replicate, if_pos (by omega)] at hg
  have := List.mem_of_getElem? hg
  rwa [show (1 : Int) + ((s - 1).toNat : Int) = s by omega] at this
theorem numb_nd {α : Type} : ∀ (l : List α) (s : Int), NdK (numb s l)
  | [], _ => List.Pairwise.nil
  | v :: r, s => by
    unfold NdK
    rw [numb, List.map_cons, List.nodup_cons]
    refine ⟨fun h => ?_, numb_nd r (s + 1)⟩
    obtain ⟨p, hp, e⟩ := List.mem_map.1 h
    have := numb_ge _ _ p hp
    have e : p.1 = s := e
    omega
structure GnS (n : Nat) (g : Nat → Bool) (left : Nat) (P : Pr Vl) : Prop where
  ph : P.phase = 2
  r : P.r = 2
  nn : P.n = 1
  wn : P.window = 16
  nx : P.next = (n : Int) + 1
  fr : P.fresh = []
  q : P.queue = []
  out : P.out = (allN n).filter fun p => !(g p.1.toNat)
  left : left = P.out.length
section
variable {n left : Nat} {g : Nat → Bool} {P : Pr Vl}
theorem GnS.nd (h : GnS n g left P) : NdK P.out := by rw [h.out]; exact (numb_nd _ _).filter _
theorem GnS.mem (h : GnS n g left P) {p : Int × Vl} (hp : p ∈ P.out) : 1 ≤ p.1 ∧ p.1 ≤ (n : Int) ∧ g p.1.toNat = false := by
  rw [h.out] at hp
  obtain ⟨h1, h2⟩ := List.mem_filter.1 hp
  have := allN_mem h1
  exact ⟨this.1, this.2.1, by simpa using h2⟩
theorem GnS.le (h : GnS n g left P) : left ≤ n := by
  rw [h.left, h.out]
  have := List.length_filter_le (fun p : Int × Vl => !(g p.1.toNat)) (allN n)
  have e : (allN n).length = n := by unfold allN; rw [numb_len, List.length_replicate]
  omega
theorem GnS.same (h : GnS n g left P) {d : Int} (hd : ¬ (1 ≤ d ∧ d ≤ (n : Int) ∧ g d.toNat = false)) : GnS n g left (P.decided d) := by
  have e : mdel P.out d = P.out := by
    unfold mdel
    refine List.filter_eq_self.2 fun p hp => decide_eq_true fun q => hd ?_
    have := h.mem hp
    rw [q] at this; exact this
  have e2 : P.decided d = P := by unfold Pr.decided; rw [e]
  rw [e2]; exact h
theorem GnS.step (h : GnS n g left P) {d : Int} (h1 : 1 ≤ d) (h2 : d ≤ (n : Int)) (h3 : g d.toNat = false) : 1 ≤ left ∧ GnS n (updB g d.toNat true) (left - 1) (P.decided d) := by
  have hin : (d, vz) ∈ P.out := by
    rw [h.out]
    exact List.mem_filter.2 ⟨allN_in h1 h2, by show (!(g d.toNat)) = true; rw [h3]; rfl⟩
  have hp := (perm_del h.nd hin).length_eq
  rw [List.length_cons] at hp
  have hl := h.left
  refine ⟨by omega, h.ph, h.r, h.nn, h.wn, h.nx, h.fr, h.q, ?_, by show left - 1 = (mdel P.out d).length; omega⟩
  show mdel P.out d = _
  rw [h.out]
  unfold mdel
  rw [List.filter_filter]
  refine List.filter_congr fun p hp => ?_
  have hb := allN_mem hp
  unfold updB
  by_cases hq : p.1 = d
  · rw [decide_eq_false (by simpa using hq), if_pos (by rw [hq])]; rfl
  · rw [decide_eq_true hq, if_neg (by omega)]; rfl
end
def lead2 : Pr Vl := ⟨1, 16, 2, 2, 1, 1, 1, [1], [1], [], [], [], [], false⟩
theorem lead2_is : (((Pr.new 1 16 [1]).begin 2 1 1).promised 1 []) = (lead2, true) := by kernel_rfl
structure NoS (k : Nat) (P : Pr Vl) : Prop where
  ph : P.phase = 2
  r : P.r = 2
  n : P.n = 1
  wn : P.window = 16
  nx : P.next = 1
  fr : P.fresh = []
  q : P.queue = List.replicate k vz
  ou : P.out = []
  st : P.stop = false
theorem no_sub {k : Nat} {P : Pr Vl} (h : NoS k P) (hk : k ≤ 20) : (P.submit vz).2 = 0 ∧ NoS (k + 1) (P.submit vz).1 := by
  have e : P.submit vz = ({ P with queue := P.queue ++ [vz], stop := false }, 0) := by
    unfold Pr.submit
    rw [if_neg (by decide), if_neg (by rw [h.ph]; decide), if_neg (by rw [h.q, List.length_replicate]; omega), if_neg (by rw [h.st]; decide)]
    rfl
  rw [e]
  refine ⟨rfl, h.ph, h.r, h.n, h.wn, h.nx, h.fr, ?_, h.ou, rfl⟩
  show P.queue ++ [vz] = _
  rw [h.q, List.replicate_succ']
theorem no_go {k : Nat} {P : Pr Vl} (h : NoS k P) (hk : k ≤ 15) : ∃ P', P.goes Vl.k 0 = (P', allN k) ∧ GnS k (fun _ => false) k P' := by
  obtain ⟨j, P', e, s, hf⟩ := goes_spec Vl.k 0 h.ph h.fr
  have hj := s.hj
  rw [h.q, List.length_replicate] at hj
  obtain ⟨a1, a2, a3, a4, a5, a6, a7, a8, a9⟩ := s.same
  have hjk : j = k := by
    rcases s.full with f | f
    · rw [f, h.q, List.length_replicate]
    · refine Nat.le_antisymm hj (Nat.le_of_not_lt fun q => f ?_)
      rw [s.nx, h.wn, h.nx]; omega
  have ht : (List.replicate k vz).take j = List.replicate k vz := List.take_of_length_le (by rw [List.length_replicate, hjk]; exact Nat.le_refl _)
  have hout : P'.out = allN k := by
    have := s.out (by rw [h.ou]; exact fun s _ => rfl)
    rw [h.ou, h.nx, h.q, ht] at this
    exact this
  refine ⟨P', by rw [e, h.nx, h.q, ht]; rfl, a3.trans h.ph, a4.trans h.r, a5.trans h.n, a2.trans h.wn, ?_, hf, ?_, ?_, ?_⟩
  · have := s.nx
    rw [h.nx] at this
    have this : P'.next = _ := this
    omega
  · have := s.q
    rw [h.q, hjk] at this
    have this : P'.queue = _ := this
    rw [this]; exact List.drop_eq_nil_of_le (by rw [List.length_replicate]; exact Nat.le_refl _)
  · rw [hout]; exact (List.filter_eq_self.2 fun p hp => rfl).symm
  · rw [hout]; unfold allN; rw [numb_len, List.length_replicate]
theorem gn_go {n left : Nat} {g : Nat → Bool} {P : Pr Vl} (h : GnS n g left P) : ∃ P', P.goes Vl.k 0 = (P', []) := by
  obtain ⟨j, P', e, s, hf⟩ := goes_spec Vl.k 0 h.ph h.fr
  refine ⟨P', ?_⟩
  rw [e, h.q]
  cases j <;> rfl
end Go.Eng

namespace Go.Proofs.Ytlgpjjgkdpmidaa
open Go.ChangeShapes Go.WideShapes Go.ChangeAt Go.RowKit Go.Syn Go.Eng Go.MapKept
set_option linter.unusedVariables false
set_option linter.unusedSimpArgs false
set_option maxRecDepth 100000
theorem lit1 (w : World) : (Instr.buildSlice 26 1 #[(0, .int .i64 1)]).run Try.prog w = .ok (.slice (some ⟨w.heap.size, 0, none⟩) 1 1) (w.alloc (.cells (([1] : List Int).map (Value.int .i64)).toArray 3)) := by kernel_rfl
def twen (f : Nat → Bool) : List Value := [.bool (f 0), .bool (f 1), .bool (f 2), .bool (f 3), .bool (f 4), .bool (f 5), .bool (f 6), .bool (f 7), .bool (f 8), .bool (f 9), .bool (f 10), .bool (f 11), .bool (f 12), .bool (f 13), .bool (f 14), .bool (f 15), .bool (f 16), .bool (f 17), .bool (f 18), .bool (f 19)]
theorem spl20 (f : Nat → Bool) (v : Bool) : ∀ {k : Nat}, k < 20 → spl (twen f) k [.bool v] = twen (updB f k v)
  | 0, _ => rfl
  | 1, _ => rfl
  | 2, _ => rfl
  | 3, _ => rfl
  | 4, _ => rfl
  | 5, _ => rfl
  | 6, _ => rfl
  | 7, _ => rfl
  | 8, _ => rfl
  | 9, _ => rfl
  | 10, _ => rfl
  | 11, _ => rfl
  | 12, _ => rfl
  | 13, _ => rfl
  | 14, _ => rfl
  | 15, _ => rfl
  | 16, _ => rfl
  | 17, _ => rfl
  | 18, _ => rfl
  | 19, _ => rfl
  | n + 20, h => by omega
theorem get20 (f : Nat → Bool) : ∀ {k : Nat}, k < 20 → (twen f)[k]? = some (.bool (f k))
  | 0, _ => rfl
  | 1, _ => rfl
  | 2, _ => rfl
  | 3, _ => rfl
  | 4, _ => rfl
  | 5, _ => rfl
  | 6, _ => rfl
  | 7, _ => rfl
  | 8, _ => rfl
  | 9, _ => rfl
  | 10, _ => rfl
  | 11, _ => rfl
  | 12, _ => rfl
  | 13, _ => rfl
  | 14, _ => rfl
  | 15, _ => rfl
  | 16, _ => rfl
  | 17, _ => rfl
  | 18, _ => rfl
  | 19, _ => rfl
  | n + 20, h => by omega
theorem g20 (f : Nat → Bool) {k : Nat} (hk : k < 20) : ∀ (j : Nat) (u : Value), [Value.bool (f k)][j]? = some u → (twen f)[0 + k * 1 + j]? = some u := fun j u hj => by
  cases j with
  | zero => rw [Nat.zero_add, Nat.mul_one, Nat.add_zero, get20 f hk]; exact hj
  | succ j => cases hj
section
variable {W : World} {M : Nat → Prop} {RR : Ending → World → Prop} {ρ : Env} {pre : List Nat} {rest hx : HX} {S : Stack} {m m' : Mem} {args : List SV} {r : SV} {t : Tree} {F : Nat → Prop} {nb : Nat} {P : Pr Vl}
theorem node_pagain (hown : OwnF W M rest F) (hph : P.phase = 2) (hfr : P.fresh = []) (hnd : NdK P.out) (hl : P.out.length ≤ 1000) (hargs : ∀ ids, (args.map (SV.den ρ ids)).toArray = #[.pointer (some ⟨nb, 0, none⟩)])
    (hr : ∀ l a' c' ids, r.den (ρ.add ⟨[], [], [], [l, c'], [a']⟩) ids = .slice a' l c') (hhp : m'.hp = m.hp) (hfit : hpFits m.c m.hp.length m.hp = true) (hc : ∀ l a' c', (ρ.add ⟨[], [], [], [l, c'], [a']⟩).cnt = m'.c)
    (h : ∀ mp ma mc, (mmap Pv.v mp).Perm P.out → mp.Pairwise (fun x y => x.1 ≤ y.1) → (∀ q ∈ mp, VlFit q.2.v) → (mp ≠ [] → ma.isSome = true) → OwnF W M (rest.and ((mall mp).and (mrow ma mc P.r P.n mp))) F → t.holds ⟨Try.prog, W, M, RR⟩ (ρ.add ⟨[], [], [], [mp.length, mc], [ma]⟩) pre ((rest.and ((mall mp).and (mrow ma mc P.r P.n mp))).and (prP F nb P)) S) : (Tree.call 25 args m r m' t).holds ⟨Try.prog, W, M, RR⟩ ρ pre (rest.and (prP F nb P)) S := by
  refine node_out (fun _ => #[.pointer (some ⟨nb, 0, none⟩)]) (fun vs h' => ∃ (mp : List (Int × Pv)) (ma : Option Addr) (mc : Nat), (mmap Pv.v mp).Perm P.out ∧ mp.Pairwise (fun x y => x.1 ≤ y.1) ∧ (∀ q ∈ mp, VlFit q.2.v) ∧ (mp ≠ [] → ma.isSome = true) ∧ vs = ⟨[], [], [], [mp.length, mc], [ma]⟩ ∧ h' = (mall mp).and (mrow ma mc P.r P.n mp)) hargs (fun ids w hp hf => ?_) hhp hfit ?_ ?_
  · refine (again_any hf.x.2 (psep_of hf) hph hfr hnd hl).mono ?_
    rintro e w' ⟨mp, ma, mc, rfl, q1, q2, q3, q4, q5, q6, q7⟩
    exact ⟨_, _, ⟨mp, ma, mc, q1, q2, q3, q4, rfl, rfl⟩, by rw [hr], q5, q6, q7⟩
  · rintro vs h' ⟨mp, ma, mc, _, _, _, _, rfl, rfl⟩; exact ⟨hc _ _ _, oneNil⟩
  · rintro vs h' ⟨mp, ma, mc, q1, q2, q3, q4, rfl, rfl⟩ hfr2
    refine holds_eq (HX.and_right_comm _ _ _) (h mp ma mc q1 q2 q3 q4 fun k hk => ⟨fun z => z.elim (hown k hk).1 fun z => (hfr2 k z).2 (.inr hk), (hown k hk).2⟩)
end
set_option maxHeartbeats 4000000 in
theorem pagain_walk (n : Int) (ad : Option Addr) (cd : Nat) (ds : List Int) (w : World) (hn : I64 n) (Hd : Ints w ad ds) (sd : ds.length * 8 ≤ 140737488351232) :
    Calls Try.prog 6 #[.int .i64 n, .slice ad ds.length cd] w (PureAt w (.bool true)) := by
  obtain ⟨B, eB⟩ : ∃ x, x = HX.ints ad ds := ⟨_, rfl⟩
  refine calls_at (tab_ok _) Try.func6 rfl tLPAgain (ρ := ⟨[n], [], [], [ds.length, cd], [ad]⟩) (ids := []) (hx := B) rfl (Facts.initq rfl oneNil (by rw [eB]; exact Hd) (fun k hk => by rw [eB] at hk; rw [hk.2]; exact (Hd.at_ (List.length_pos_iff.2 hk.1)).2.1)) ?_
  refine node_P ⟨[], [true], [], [], []⟩ #[] (.bool true) (by intros; kernel_rfl) (by intros; kernel_rfl) (by kernel_rfl) (by kernel_rfl) (by kernel_rfl) oneNil (fun ids w2 hp hf => head_any w2) ?_
  refine br_F false (by kernel_rfl) rfl ?_
  refine node_lit (t := 26) (e := 3) (len := 1) (sz := 1) (([1] : List Int).map (Value.int .i64)) #[(0, .int .i64 1)] (by intros; kernel_rfl) (fun w => lit1 w) rfl (by unfold maxLen; decide) (by intros; kernel_rfl) (by kernel_rfl) (by kernel_rfl) (by intros; kernel_rfl) ?_
  intro la hla
  refine node_pnew 1 16 (fun ids => la) 1 [1] (by intros; kernel_rfl) (fun ids w2 hp hf => Ints.of_cells (by decide) (by unfold I64; decide) (rw_cells hf.x.2)) ⟨by kernel_rfl, by kernel_rfl⟩ (by intros; kernel_rfl) (by kernel_rfl) (by kernel_rfl) (by intros; kernel_rfl) ?_
  intro nb F0 hown0
  refine node_pcamp 2 1 1 ⟨[1, 0, 0, 0, 2, 1, 1, 0, 0, 0, 0, 0, 0, 0, 0, 0, 0, 0, 0, 0, 0, 0], [], [], [0, 0, 0, 0, 0, 0, 0, 0], [none, none, none, none]⟩ hown0 ⟨by decide, by decide⟩ (by kernel_rfl) rfl (by exact (show ¬ compareV 2 1 0 0 ≤ 0 by decide)) (by intros; kernel_rfl) (by intros; kernel_rfl) (by kernel_rfl) (by kernel_rfl) (by kernel_rfl) oneNil ?_
  intro F1 hown1
  refine node_PI ⟨[2, 0, 0, 0, 2, 1, 1, 0, 0, 0, 0, 0, 0, 0, 0, 0, 0, 0, 0, 0, 0], [], [], [0, 0, 0, 0, 0, 0, 0, 0], [none, none, none, none]⟩ (fun _ => #[.agg #[.int .i64 2, .int .i64 1], .int .i64 1, .int .i64 0, .slice none 0 0]) (proM 2 1 1 0 (.slice none 0 0)) (by intros; kernel_rfl) (by intros; kernel_rfl) (by kernel_rfl) (by kernel_rfl) (by kernel_rfl) oneNil (fun ids w2 hp hf => lpromise_any 2 1 1 0 none 0 0 w2) ?_
  refine node_pprom 1 0 [] (fun _ => none) 0 true hown1 (congrArg Prod.snd lead2_is) (fun x hx => by cases hx) (by kernel_rfl) rfl (by kernel_rfl) (fun x hx => by cases hx) (by exact (show (0 : Int) < 1 by decide)) (by exact (show (1 : Int) ≤ 1 ∧ (1 : Int) ≤ 1099511627776 by decide)) (fun p hp => by cases hp) ⟨Nat.zero_le _, Nat.zero_le _, (show 1 ≤ 9 by decide)⟩ ⟨(fun x hx => by cases hx), by unfold I64; decide⟩ (Nat.zero_le _) (by intros; kernel_rfl) (fun ids w2 hp hf => ⟨⟨fun h => absurd h (by decide), fun x hx => by cases hx⟩, fun k hk => hk.elim (fun q => absurd rfl q.1) fun ⟨x, hx, _⟩ => by cases hx⟩) (by intros; kernel_rfl) (by kernel_rfl) (by kernel_rfl) (by kernel_rfl) ?_
  intro F2 hown2
  obtain ⟨B2, eB2⟩ : ∃ x, x = B.and (HX.rw 1 3 la 1 1 (([1] : List Int).map (Value.int .i64))) := ⟨_, rfl⟩
  have B2B : ∀ {w}, B2.X w → B.X w := fun h => by rw [eB2] at h; exact h.1
  have BF2 : ∀ {k}, B.F k → B2.F k := fun h => by rw [eB2]; exact .inl h
  refine holds_eq (hx' := B2.and (prP F2 nb lead2)) (by rw [eB2]; exact congrArg (fun z => HX.and _ (prP F2 nb z)) (congrArg Prod.fst lead2_is)) ?_
  have hown2 : OwnF w (fun _ => False) B2 F2 := by rw [eB2]; exact hown2
  obtain ⟨z0, z1⟩ := and_small (x := n) (n := 15) (by omega)
  obtain ⟨N, eN⟩ : ∃ N : Nat, ifn .and .i64 n 15 = (N : Int) := ⟨(ifn .and .i64 n 15).toNat, by have : ((15 : Nat) : Int) = 15 := rfl; rw [this] at z0 z1; omega⟩
  have hN : N ≤ 15 := by have : ((15 : Nat) : Int) = 15 := rfl; rw [this, eN] at z1; omega
  refine ⟨fun vs hx m => ∃ (k : Nat) (P : Pr Vl) (F : Nat → Prop), m = N - k ∧ k ≤ N ∧ vs = ⟨[(k : Int)], [], [], [], []⟩ ∧ NoS k P ∧ OwnF w (fun _ => False) B2 F ∧ hx = B2.and (prP F nb P), fun ids w2 hp hf => ⟨_, N, ⟨hf.x, hf.sep⟩, 0, lead2, F2, rfl, Nat.zero_le _, by kernel_rfl, ⟨rfl, rfl, rfl, rfl, rfl, rfl, rfl, rfl, rfl⟩, hown2, rfl⟩, ?_⟩
  rintro vs hx' m hcnt ⟨k, P, F, rfl, hkN, rfl, hS, hown, rfl⟩
  refine holds_env (ρ' := ⟨[n, 1, 0, 0, 0, 2, 1, 1, 0, 0, 0, 0, 0, 0, 0, 0, 0, 0, 0, 0, 0, 0, 0, 2, 0, 0, 0, 2, 1, 1, 0, 0, 0, 0, 0, 0, 0, 0, 0, 0, 0, 0, 0, 0, 0, (k : Int)], [true, true], [.pointer (some ⟨nb, 0, none⟩)], [ds.length, cd, 1, 1, 0, 0, 0, 0, 0, 0, 0, 0, 0, 0, 0, 0, 0, 0, 0, 0], [ad, la, none, none, none, none, none, none, none, none]⟩) rfl ?_
  refine br_D (p := (k : Int) < ifn .and .i64 n 15) (by kernel_rfl) (fun hk => ?_) (fun hk => ?_)
  · rw [eN] at hk
    obtain ⟨g0, hS'⟩ := no_sub hS (by omega)
    refine node_psub vz (fun _ => none) 0 (fun _ => none) 0 hown 0 g0 (by intros; kernel_rfl) (fun ids w2 hp hf => ⟨vz_fit.at_ ⟨fun h => absurd h (by decide), fun h => absurd h (by decide)⟩, fun k hk => hk.elim (fun q => absurd rfl q.1) fun q => absurd rfl q.1⟩) (by intros; kernel_rfl) (by kernel_rfl) (by kernel_rfl) (by kernel_rfl) ?_
    intro F3 hF3
    have hwk : IntKind.i64.wrap ((k : Int) + 1) = ((k + 1 : Nat) : Int) := by rw [wrap_i64 (by omega)]; omega
    exact again_V ⟨[IntKind.i64.wrap ((k : Int) + 1)], [], [], [], []⟩ rfl (by intros; kernel_rfl) _ (fun w2 ids hf => ⟨hf.x, hf.sep⟩) ⟨N - (k + 1), by omega, k + 1, _, F3, rfl, by omega, by rw [hwk], hS', hF3, rfl⟩
  rw [eN] at hk
  have hke : k = N := by omega
  subst hke
  refine node_pagain hown hS.ph hS.fr (by rw [hS.ou]; exact List.Pairwise.nil) (by rw [hS.ou]; decide) (by intros; kernel_rfl) (by intros; kernel_rfl) (by kernel_rfl) (by kernel_rfl) (by intros; kernel_rfl) ?_
  intro mp0 ma0 mc0 p1 _ _ _ hown3
  have hm0 : mp0 = [] := by
    rw [hS.ou] at p1
    have := p1.length_eq
    unfold mmap at this
    rw [List.length_map] at this
    exact List.length_eq_zero_iff.1 this
  subst hm0
  refine br_F false (by kernel_rfl) rfl ?_
  obtain ⟨P4, hgo, hG⟩ := no_go hS hN
  have hml : (allN k).length = k := by unfold allN; rw [numb_len, List.length_replicate]
  refine node_pgo 0 _ P4 hown3 hgo (by unfold I64; omega) (by rw [hS.wn]; omega) (by rw [hS.nx]; omega) (by rw [hS.fr, hS.q, List.length_replicate]; simp only [List.length_nil]; omega) (by intros; kernel_rfl) (by intros; kernel_rfl) (by kernel_rfl) (by kernel_rfl) (by intros; kernel_rfl) ?_
  intro mp ma mc F4 _ _ _ hown4 _
  refine br_F ((((allN k).length : Nat) : Int) != ifn .and .i64 n 15) (by kernel_rfl) (by rw [eN, hml]; simp) ?_
  refine holds_env (ρ' := ⟨[n, 1, 0, 0, 0, 2, 1, 1, 0, 0, 0, 0, 0, 0, 0, 0, 0, 0, 0, 0, 0, 0, 0, 2, 0, 0, 0, 2, 1, 1, 0, 0, 0, 0, 0, 0, 0, 0, 0, 0, 0, 0, 0, 0, 0, (k : Int)], [true, true], [.pointer (some ⟨nb, 0, none⟩)], [ds.length, cd, 1, 1, 0, 0, 0, 0, 0, 0, 0, 0, 0, 0, 0, 0, 0, 0, 0, 0, 0, mc0, k, mc], [ad, la, none, none, none, none, none, none, none, none, ma0, ma]⟩) (by rw [hml]; rfl) ?_
  refine ⟨fun vs hx m => ∃ (i : Nat) (g : Nat → Bool) (left : Nat) (P : Pr Vl) (F : Nat → Prop), m = ds.length - i ∧ i ≤ ds.length ∧ vs = ⟨[(i : Int), (left : Int)], [g 0, g 1, g 2, g 3, g 4, g 5, g 6, g 7, g 8, g 9, g 10, g 11, g 12, g 13, g 14, g 15, g 16, g 17, g 18, g 19], [], [], []⟩ ∧ GnS k g left P ∧ OwnF w (fun _ => False) B F ∧ hx = B.and (prP F nb P), fun ids w2 hp hf => ⟨B.and (prP F4 nb P4), ds.length, ⟨⟨B2B hf.x.1.1.1.1, hf.x.2⟩, fun q hq => hf.sep q (hq.elim (fun z => .inl (.inl (.inl (.inl (BF2 z))))) .inr)⟩, 0, fun _ => false, k, P4, F4, rfl, Nat.zero_le _, by rw [← eN]; kernel_rfl, hG, fun q hq => ⟨fun z => (hown4 q hq).1 (.inl (.inl (.inl (BF2 z)))), (hown4 q hq).2⟩, rfl⟩, ?_⟩
  rintro vs hx' m hcnt2 ⟨i, g, left, P5, F5, rfl, hi, rfl, hS5, hown5, rfl⟩
  have hwi : i < ds.length → IntKind.i64.wrap ((i : Int) + 1) = ((i + 1 : Nat) : Int) := fun h => by rw [wrap_i64 (by omega)]; omega
  have hle := hS5.le
  refine holds_env (ρ' := ⟨[n, 1, 0, 0, 0, 2, 1, 1, 0, 0, 0, 0, 0, 0, 0, 0, 0, 0, 0, 0, 0, 0, 0, 2, 0, 0, 0, 2, 1, 1, 0, 0, 0, 0, 0, 0, 0, 0, 0, 0, 0, 0, 0, 0, 0, (k : Int), (i : Int), (left : Int)], [true, true, g 0, g 1, g 2, g 3, g 4, g 5, g 6, g 7, g 8, g 9, g 10, g 11, g 12, g 13, g 14, g 15, g 16, g 17, g 18, g 19], [.pointer (some ⟨nb, 0, none⟩)], [ds.length, cd, 1, 1, 0, 0, 0, 0, 0, 0, 0, 0, 0, 0, 0, 0, 0, 0, 0, 0, 0, mc0, k, mc], [ad, la, none, none, none, none, none, none, none, none, ma0, ma]⟩) rfl ?_
  refine br_D (p := (i : Int) < (ds.length : Int)) (by kernel_rfl) (fun hil => ?_) (fun hil => ?_)
  · have hil : i < ds.length := by omega
    have hwi := hwi hil
    obtain ⟨d, hd⟩ : ∃ b, ds[i]? = some b := ⟨_, List.getElem?_eq_getElem hil⟩
    obtain ⟨s2, q2⟩ := ints_at Hd hd
    refine need_k (ad.isSome = true ∧ 0 ≤ (i : Int) ∧ (i : Int) < (ds.length : Int)) (by kernel_rfl) ⟨s2, by omega, by omega⟩ ?_
    refine node_ld0 (k := ⟨48, 22, 1, 24, 12⟩) ⟨[d], [], [], [], []⟩ (.pointer (some (((ad.getD ⟨0, 0, none⟩).add (i * 1)).add 0))) [.int .i64 d] (by intros; kernel_rfl) (by intros; kernel_rfl) (q2 _ id) ⟨by kernel_rfl, (fun v hv => by have hv : v ∈ [Value.pointer (some ⟨nb, 0, none⟩)] := hv; simp only [List.mem_singleton] at hv; subst hv; rfl)⟩ (by kernel_rfl) oneNil ?_
    refine node_pdec d hown5 (by intros; kernel_rfl) (by intros; kernel_rfl) (by kernel_rfl) (by kernel_rfl) (by kernel_rfl) ?_
    intro F6 hown6
    have same : ∀ {m : Mem} {ρ : Env} {es : Vec} {S : Stack}, ¬ (1 ≤ d ∧ d ≤ (k : Int) ∧ g d.toNat = false) → (∀ ids, es.den ρ ids = ⟨[IntKind.i64.wrap ((i : Int) + 1), (left : Int)], [g 0, g 1, g 2, g 3, g 4, g 5, g 6, g 7, g 8, g 9, g 10, g 11, g 12, g 13, g 14, g 15, g 16, g 17, g 18, g 19], [], [], []⟩) → (Tree.again 17 es m).holds ⟨Try.prog, w, fun _ => False, PureAt w (.bool true)⟩ ρ [] (B.and (prP F6 nb (P5.decided d))) ((17, fun vs' hx'' => ∃ n', n' < ds.length - i ∧ ∃ (i : Nat) (g : Nat → Bool) (left : Nat) (P : Pr Vl) (F : Nat → Prop), n' = ds.length - i ∧ i ≤ ds.length ∧ vs' = ⟨[(i : Int), (left : Int)], [g 0, g 1, g 2, g 3, g 4, g 5, g 6, g 7, g 8, g 9, g 10, g 11, g 12, g 13, g 14, g 15, g 16, g 17, g 18, g 19], [], [], []⟩ ∧ GnS k g left P ∧ OwnF w (fun _ => False) B F ∧ hx'' = B.and (prP F nb P)) :: S) := fun hno hv =>
      again_V ⟨[IntKind.i64.wrap ((i : Int) + 1), (left : Int)], [g 0, g 1, g 2, g 3, g 4, g 5, g 6, g 7, g 8, g 9, g 10, g 11, g 12, g 13, g 14, g 15, g 16, g 17, g 18, g 19], [], [], []⟩ rfl hv _ (fun w2 ids hf => ⟨hf.x, hf.sep⟩) ⟨ds.length - (i + 1), by omega, i + 1, g, left, P5.decided d, F6, rfl, by omega, by rw [hwi], hS5.same hno, hown6, rfl⟩
    refine br_D (p := d ≥ 1) (by kernel_rfl) (fun h1 => ?_) (fun h1 => same (fun q => h1 q.1) (by intros; kernel_rfl))
    refine br_D (p := d ≤ ifn .and .i64 n 15) (by kernel_rfl) (fun h2 => ?_) (fun h2 => same (fun q => h2 (by rw [eN]; exact q.2.1)) (by intros; kernel_rfl))
    rw [eN] at h2
    obtain ⟨e, he⟩ : ∃ e : Nat, d = (e : Int) := ⟨d.toNat, by omega⟩
    have he20 : e < 20 := by omega
    have het : d.toNat = e := by omega
    refine need_k (0 ≤ d ∧ d < 20) (by kernel_rfl) ⟨by omega, by omega⟩ ?_
    refine node_ldp ⟨[], [g e], [], [], []⟩ e (us := twen g) rfl (Eq.trans (b := d) (by kernel_rfl) he) (by intros; kernel_rfl) (fun ids j u hj => g20 g he20 j u (Eq.trans (by kernel_rfl) hj)) (by kernel_rfl) oneNil ?_
    refine br_B (!(g e)) (by kernel_rfl) (fun h3 => ?_) (fun h3 => same (fun q => by rw [het] at q; rw [q.2.2] at h3; cases h3) (by intros; kernel_rfl))
    have h3 : g e = false := by simpa using h3
    obtain ⟨hl1, hS6⟩ := hS5.step h1 h2 (by rw [het]; exact h3)
    rw [het] at hS6
    have pE : ∀ (ids : List Nat), Value.pointer (some ⟨idAt ids 1, 0 + d.toNat * 1, none⟩) = .pointer (some ⟨idAt ids 1, e, none⟩) := fun ids => by rw [het]; simp
    refine need_k (0 ≤ d ∧ d < 20) (by kernel_rfl) ⟨by omega, by omega⟩ ?_
    refine node_stp (n := 1) (o := e) ⟨[], [updB g e true 0, updB g e true 1, updB g e true 2, updB g e true 3, updB g e true 4, updB g e true 5, updB g e true 6, updB g e true 7, updB g e true 8, updB g e true 9, updB g e true 10, updB g e true 11, updB g e true 12, updB g e true 13, updB g e true 14, updB g e true 15, updB g e true 16, updB g e true 17, updB g e true 18, updB g e true 19], [], [], []⟩ (us := twen g) (us' := [.bool true]) (v := .bool true) rfl (by intros; kernel_rfl) (by kernel_rfl) (fun ids => Eq.trans (by kernel_rfl) (pE ids)) (by intros; kernel_rfl) rfl (fun u hu => by rw [List.mem_singleton.1 hu]; rfl) (by show 0 < 1; omega) (by show e + 1 ≤ 20; omega) rfl (fun ids => by rw [spl20 g _ he20]; kernel_rfl) (by kernel_rfl) (by kernel_rfl) oneNil ?_
    have hwl : IntKind.i64.wrap ((left : Int) - 1) = ((left - 1 : Nat) : Int) := by rw [wrap_i64 (by omega)]; omega
    exact again_V ⟨[IntKind.i64.wrap ((i : Int) + 1), IntKind.i64.wrap ((left : Int) - 1)], [updB g e true 0, updB g e true 1, updB g e true 2, updB g e true 3, updB g e true 4, updB g e true 5, updB g e true 6, updB g e true 7, updB g e true 8, updB g e true 9, updB g e true 10, updB g e true 11, updB g e true 12, updB g e true 13, updB g e true 14, updB g e true 15, updB g e true 16, updB g e true 17, updB g e true 18, updB g e true 19], [], [], []⟩ rfl (by intros; kernel_rfl) _ (fun w2 ids hf => ⟨hf.x, hf.sep⟩) ⟨ds.length - (i + 1), by omega, i + 1, updB g e true, left - 1, _, F6, rfl, by omega, by rw [hwi, hwl], hS6, hown6, rfl⟩
  refine node_pagain hown5 hS5.ph hS5.fr hS5.nd (by rw [← hS5.left]; omega) (by intros; kernel_rfl) (by intros; kernel_rfl) (by kernel_rfl) (by kernel_rfl) (by intros; kernel_rfl) ?_
  intro mq qa qc q1 q2 q3 q4 hown7
  rw [hS5.r, hS5.nn] at hown7 ⊢
  have hql : mq.length = left := by
    have := q1.length_eq
    unfold mmap at this
    rw [List.length_map] at this
    rw [this]; exact hS5.left.symm
  have hin : ∀ q ∈ mq, 1 ≤ q.1 ∧ q.1 ≤ (k : Int) ∧ g q.1.toNat = false := fun q hq => by
    have : ((q.1, q.2.v) : Int × Vl) ∈ mmap Pv.v mq := List.mem_map.2 ⟨q, hq, rfl⟩
    exact hS5.mem (q1.mem_iff.1 this)
  have hnd : (mq.map (·.1)).Nodup := by
    have h1 := hS5.nd
    unfold NdK at h1
    have h2 := (q1.map (fun p : Int × Vl => p.1)).nodup_iff.2 h1
    rwa [keys_map] at h2
  have hlt : ∀ t (q q' : Int × Pv), mq[t]? = some q → mq[t + 1]? = some q' → q.1 < q'.1 := fun t q q' h1 h2 => by
    obtain ⟨i1, e1⟩ := List.getElem?_eq_some_iff.1 h1
    obtain ⟨i2, e2⟩ := List.getElem?_eq_some_iff.1 h2
    have a1 := (List.pairwise_iff_getElem.1 q2) t (t + 1) i1 i2 (by omega)
    have a2 := (List.pairwise_iff_getElem.1 hnd) t (t + 1) (by simpa using i1) (by simpa using i2) (by omega)
    rw [e1, e2] at a1
    simp only [List.getElem_map, e1, e2] at a2
    omega
  obtain ⟨HR, eHR⟩ : ∃ x, x = B.and ((mall mq).and (mrow qa qc 2 1 mq)) := ⟨_, rfl⟩
  rw [← eHR] at hown7 ⊢
  have HRx' : ∀ {w}, (HR.and (prP F5 nb P5)).X w → (mrow qa qc 2 1 mq).X w := fun h => by have h := h.1; rw [eHR] at h; exact h.2.2
  have HRx : ∀ {w}, HR.X w → (mrow qa qc 2 1 mq).X w := fun h => by rw [eHR] at h; exact h.2.2
  refine ⟨fun vs hx m => ∃ (t : Nat) (last : Int), m = mq.length - t ∧ t ≤ mq.length ∧ vs = ⟨[(t : Int), last], [], [], [], []⟩ ∧ (∀ q, mq[t]? = some q → last < q.1) ∧ hx = HR.and (prP F5 nb P5), fun ids w2 hp hf => ⟨_, mq.length, ⟨hf.x, hf.sep⟩, 0, 0, rfl, Nat.zero_le _, by kernel_rfl, fun q hq => by have := (hin q (List.mem_of_getElem? hq)).1; omega, rfl⟩, ?_⟩
  rintro vs hx' m hcnt3 ⟨t, last, rfl, htl, rfl, hlast, rfl⟩
  refine holds_env (ρ' := ⟨[n, 1, 0, 0, 0, 2, 1, 1, 0, 0, 0, 0, 0, 0, 0, 0, 0, 0, 0, 0, 0, 0, 0, 2, 0, 0, 0, 2, 1, 1, 0, 0, 0, 0, 0, 0, 0, 0, 0, 0, 0, 0, 0, 0, 0, (k : Int), (i : Int), (left : Int), (t : Int), last], [true, true, g 0, g 1, g 2, g 3, g 4, g 5, g 6, g 7, g 8, g 9, g 10, g 11, g 12, g 13, g 14, g 15, g 16, g 17, g 18, g 19], [.pointer (some ⟨nb, 0, none⟩)], [ds.length, cd, 1, 1, 0, 0, 0, 0, 0, 0, 0, 0, 0, 0, 0, 0, 0, 0, 0, 0, 0, mc0, k, mc, mq.length, qc], [ad, la, none, none, none, none, none, none, none, none, ma0, ma, qa]⟩) rfl ?_
  refine br_D (p := (t : Int) < (mq.length : Int)) (by kernel_rfl) (fun htm => ?_) (fun htm => ?_)
  · obtain ⟨q, hq⟩ : ∃ b, mq[t]? = some b := ⟨_, List.getElem?_eq_getElem (by omega)⟩
    have hqm := List.mem_of_getElem? hq
    have hqi := hin q hqm
    have hsome := q4 fun e => by rw [e] at hqm; cases hqm
    have hwt : IntKind.i64.wrap ((t : Int) + 1) = ((t + 1 : Nat) : Int) := by rw [wrap_i64 (by omega)]; omega
    obtain ⟨e, he⟩ : ∃ e : Nat, q.1 = (e : Int) := ⟨q.1.toNat, by omega⟩
    have he20 : e < 20 := by omega
    have het : q.1.toNat = e := by omega
    have hge : g e = false := by rw [← het]; exact hqi.2.2
    refine need_k (qa.isSome = true ∧ 0 ≤ (t : Int) ∧ (t : Int) < (mq.length : Int)) (by kernel_rfl) ⟨hsome, by omega, by omega⟩ ?_
    refine node_ldk ⟨[4, 0, 0, 0, 2, 1, q.1, 0, 0, q.2.v.k, 0, 0, 0, 0, 0, 0, 0, 0, 0, 0, 0], [], [], [q.2.v.cs.length, q.2.c1, q.2.v.ns.length, q.2.c2, 0, 0, 0, 0], [q.2.a1, q.2.a2, none, none]⟩ (fun _ => .pointer (some (((qa.getD ⟨0, 0, none⟩).add (t * 25)).add 0))) (mgC 2 1 q) (by intros; kernel_rfl) (by intros; kernel_rfl) (fun ids w hp hf => (mg_cells (HRx' hf.x) hq 0 _ (fun j u hj => by rw [Nat.zero_add]; exact hj) (by simp [mgC])).2) (by kernel_rfl) oneNil ?_
    refine br_F (decide (q.1 ≤ last)) (by kernel_rfl) (decide_eq_false (by have := hlast q hq; omega)) ?_
    refine br_F (decide (q.1 > ifn .and .i64 n 15)) (by kernel_rfl) (by rw [eN]; exact decide_eq_false (by omega)) ?_
    refine need_k (0 ≤ q.1 ∧ q.1 < 20) (by kernel_rfl) ⟨by omega, by omega⟩ ?_
    refine node_ldp ⟨[], [g e], [], [], []⟩ e (us := twen g) rfl (Eq.trans (b := q.1) (by kernel_rfl) he) (by intros; kernel_rfl) (fun ids j u hj => g20 g he20 j u (Eq.trans (by kernel_rfl) hj)) (by kernel_rfl) oneNil ?_
    refine br_F (g e) (by kernel_rfl) hge ?_
    refine br_F false (by kernel_rfl) rfl ?_
    refine br_F false (by kernel_rfl) rfl ?_
    exact again_V ⟨[IntKind.i64.wrap ((t : Int) + 1), q.1], [], [], [], []⟩ rfl (by intros; kernel_rfl) _ (fun w2 ids hf => ⟨hf.x, hf.sep⟩) ⟨mq.length - (t + 1), by omega, t + 1, q.1, rfl, by omega, by rw [hwt], fun q' hq' => hlt t q q' hq hq', rfl⟩
  refine br_T (((mq.length : Nat) : Int) == (left : Int)) (by kernel_rfl) (by rw [hql]; simp) ?_
  obtain ⟨P6, hgo6⟩ := gn_go hS5
  refine node_pgo 0 _ P6 hown7 hgo6 (by unfold I64; omega) (by rw [hS5.wn]; omega) (by rw [hS5.nx]; omega) (by rw [hS5.fr, hS5.q]; decide) (by intros; kernel_rfl) (by intros; kernel_rfl) (by kernel_rfl) (by kernel_rfl) (by intros; kernel_rfl) ?_
  intro mp2 ma2 mc2 F8 _ _ _ _ _
  exact pure_out (fun _ => id) (by intros; kernel_rfl)
theorem pagain_args (n : Int) (a : Option Addr) (cap : Nat) (ds : List Int) (w : World) (hn : I64 n) (Hd : Ints w a ds) (sd : ds.length * 8 ≤ 140737488351232) : Calls Try.prog 6 #[.int .i64 n, .slice a ds.length cap] w (PureAt w (.bool true)) := pagain_walk n a cap ds w hn Hd sd
end Go.Proofs.Ytlgpjjgkdpmidaa
