/- Part 22 of the texts of a proof about the given program: what the statement's proof needs of them. -/
import Derived.Test.YtbedoemdjlollaaKJudgeLost21
namespace Go.Proofs.Ytbedoemdjlollaa
open Go Go.ChangeShapes Go.WideShapes Go.ChangeAt Go.RowKit Go.Syn Go.Eng
set_option linter.unusedVariables false
set_option linter.unusedSimpArgs false
set_option maxRecDepth 100000
def outV (m : List (Int × Vl)) (n : Nat) : List (Vo Vl) := (List.range n).map fun i => ⟨((i + 1 : Nat) : Int), 0, 0, (mlk m ((i + 1 : Nat) : Int)).getD vz⟩
theorem outV_succ (m : List (Int × Vl)) (n : Nat) : outV m (n + 1) = outV m n ++ [⟨((n + 1 : Nat) : Int), 0, 0, (mlk m ((n + 1 : Nat) : Int)).getD vz⟩] := by
  unfold outV
  rw [List.range_succ, List.map_append]; rfl
noncomputable def mgV : List (Int × Vl) → Int → List (Vo Vl) → List (Vo Vl) × Int
  | m, top, [] => if top ≠ (m.length : Int) then ([], 41) else (outV m m.length, 0)
  | m, top, v :: r => if v.s < 1 ∨ valE v.v ≠ 0 then ([], 1) else if (mlk m v.s).isSome = true ∧ vlSame ((mlk m v.s).getD vz) v.v = false then ([], 63) else mgV (mput m v.s v.v) (max top v.s) r
noncomputable def mergeV (vs : List (Vo Vl)) : List (Vo Vl) × Int := mgV [] 0 vs
def MgNew (w : World) (R : List (Vo Vl) × Int) (e : Ending) (w' : World) : Prop := ∃ (b : Option Addr) (d : Nat) (ys : List (Vo Pv)), e = .returned (.tuple #[.slice b ys.length d, .int .i64 R.2]) ∧ vlsOf ys = R.1 ∧ ((voAll ys).and (vrow b d ys)).X w' ∧ (∀ k, ((voAll ys).and (vrow b d ys)).F k → w.heap.size ≤ k ∧ k < w'.heap.size) ∧ Below w.heap.size w w'
theorem mg_nil {w : World} {c : Int} {v : SV} {m : Mem} {ρ : Env} {hx : HX} {S : Stack} (hv : ∀ ids, v.den ρ ids = .tuple #[.slice none 0 0, .int .i64 c]) : (Tree.done v m).holds ⟨Try.prog, w, fun _ => False, MgNew w ([], c)⟩ ρ [] hx S := fun ids w2 hp hf =>
  ⟨none, 0, [], by rw [hv ids]; rfl, rfl, ⟨(fun x hx => by cases hx), HX.rw_nil _ _ _ _⟩, fun k hk => hk.elim (fun ⟨x, hx, _⟩ => by cases hx) fun q => absurd rfl q.1, hf.chg.below⟩
structure MpOk (W : World) (mp : List (Int × Pv)) : Prop where
  each : ∀ p ∈ mp, VlFit p.2.v ∧ p.2.hx.X W
def mpGet (mp : List (Int × Pv)) (k : Int) : Pv := (mlk mp k).getD pz
theorem mp_at {W : World} {mp : List (Int × Pv)} (h : MpOk W mp) (k : Int) : VlFit (mpGet mp k).v ∧ (mpGet mp k).hx.X W := by
  unfold mpGet
  cases hm : mlk mp k with
  | none => exact ⟨vz_fit, cl_nil _ _, cl_nil _ _⟩
  | some p => exact h.each (k, p) (mlk_mem hm)
theorem mp_val (mp : List (Int × Pv)) (k : Int) : (mlk (mmap Pv.val mp) k).getD (vlV vz none 0 none 0) = (mpGet mp k).val := by
  rw [mlk_map]; unfold mpGet
  cases mlk mp k <;> rfl
theorem mp_v (mp : List (Int × Pv)) (k : Int) : (mlk (mmap Pv.v mp) k).getD vz = (mpGet mp k).v := by
  rw [mlk_map]; unfold mpGet
  cases mlk mp k <;> rfl
theorem mp_some (mp : List (Int × Pv)) (k : Int) : (mlk (mmap Pv.val mp) k).isSome = (mlk (mmap Pv.v mp) k).isSome := by rw [mlk_map, mlk_map]; cases mlk mp k <;> rfl
theorem MpOk.put {W : World} {mp : List (Int × Pv)} (h : MpOk W mp) (k : Int) {p : Pv} (hp : VlFit p.v ∧ p.hx.X W) : MpOk W (mput mp k p) := ⟨fun q hq => by
  rcases mput_mem hq with rfl | ⟨hq, _⟩
  · exact hp
  · exact h.each q hq⟩
def MgI (W : World) (bm : Nat) (rest : List (Vo Pv)) (N : Nat) (T : List (Vo Vl) × Int) (mp : List (Int × Pv)) (top : Int) : Prop := MpOk W mp ∧ mp.length + rest.length ≤ N ∧ (0 ≤ top) ∧ mgV (mmap Pv.v mp) top (vlsOf rest) = T
theorem vls_app (xs ys : List (Vo Pv)) : vlsOf (xs ++ ys) = vlsOf xs ++ vlsOf ys := by unfold vlsOf; rw [List.map_append]
def tlAll (ts : List Tl) : List (Vo Pv) := ts.flatMap Tl.xs
set_option maxHeartbeats 4000000 in
theorem jmerge_any (a : Option Addr) (cp : Nat) (ts : List Tl) (w : World) (H0 : (tlX a ts).X w) (hts : ∀ t ∈ ts, TlOk t) (hlen : ts.length ≤ 4611686018427387904) (hN : (tlAll ts).length ≤ 1048576) :
    Calls Try.prog 11 #[.slice a ts.length cp] w (MgNew w (mergeV (vlsOf (tlAll ts)))) := by
  refine calls_at (tab_ok _) Try.func11 rfl tJMerge (ρ := ⟨[], [], [], [ts.length, cp], [a]⟩) (ids := []) (hx := HX.nil) rfl (Facts.initP rfl oneNil) ?_
  obtain ⟨T, eT⟩ : ∃ T, T = mergeV (vlsOf (tlAll ts)) := ⟨_, rfl⟩
  rw [← eT]
  obtain ⟨N, eN⟩ : ∃ N, N = (tlAll ts).length := ⟨_, rfl⟩
  rw [← eN] at hN
  have keepP : ∀ {m : Mem} {ρ : Env} {ids : List Nat} {hx : HX} {w2 : World} {R : Ending → World → Prop} {p : Pv}, VlFit p.v ∧ p.hx.X w → Facts ⟨Try.prog, w, fun _ => False, R⟩ m ρ ids hx w2 → VlAt w2 p.v p.a1 p.a2 := fun hp hf => hp.1.at_ ((vlX _ _ _).loc _ _ hp.2 fun k hk => hf.chg.block k (vlX_sep hp.2 k hk) (fun q => q))
  refine node_vmake (by intros; kernel_rfl) (by kernel_rfl) (by kernel_rfl) (by intros; kernel_rfl) ?_
  intro bm hbm1 hbm2
  refine ⟨fun vs hx n => ∃ (i : Nat) (mp : List (Int × Pv)) (top : Int), n = ts.length - i ∧ i ≤ ts.length ∧ MgI w bm (tlAll (ts.drop i)) N T mp top ∧ vs = ⟨[(i : Int), top], [], [], [], []⟩ ∧ HX.nil.and (HX.vmap bm (mmap Pv.val mp)) = hx, fun ids w2 hp hf => ⟨_, ts.length, ⟨hf.x, hf.sep⟩, 0, [], 0, rfl, Nat.zero_le _, ⟨⟨fun p hp => by cases hp⟩, by rw [eN]; exact Nat.le_of_eq (Nat.zero_add _), Int.le_refl _, eT.symm⟩, by kernel_rfl, rfl⟩, ?_⟩
  rintro vs hx' n hcnt ⟨i, mp, top, rfl, hi, ⟨hmp, hml, htop, hT⟩, rfl, rfl⟩
  refine holds_env (ρ' := ⟨[(i : Int), top], [], [.map (some bm)], [ts.length, cp], [a]⟩) (by kernel_rfl) ?_
  have hwi : IntKind.i64.wrap ((i : Int) + 1) = ((i + 1 : Nat) : Int) := by rw [wrap_i64 (by omega)]; omega
  refine br_D (p := (i : Int) < (ts.length : Int)) (by kernel_rfl) (fun hlt => ?B) (fun hlt => ?E)
  case' B =>
    have hlt : i < ts.length := by omega
    obtain ⟨t, ht⟩ : ∃ t, ts[i]? = some t := ⟨_, List.getElem?_eq_getElem hlt⟩
    have htm := List.mem_of_getElem? ht
    have hok := hts t htm
    have htx := tl_vo H0 htm
    have hd : tlAll (ts.drop i) = t.xs ++ tlAll (ts.drop (i + 1)) := by
      obtain ⟨q, e⟩ := List.getElem?_eq_some_iff.1 ht
      rw [List.drop_eq_getElem_cons q, e]; rfl
    obtain ⟨s1, g1⟩ := tl_part H0 ht
    refine need_k (a.isSome = true ∧ (0 : Int) ≤ (i : Int) ∧ (i : Int) < (ts.length : Int)) (by kernel_rfl) ⟨s1, by omega, by omega⟩ ?_
    refine node_ld0 (k := ⟨2, 0, 1, 2, 1⟩) ⟨[], [], [], [t.xs.length, t.c], [t.a]⟩ (.pointer (some (((a.getD ⟨0, 0, none⟩).add (i * 1)).add 0))) (tlC t) (by intros; kernel_rfl) (by intros; kernel_rfl) g1 ⟨by kernel_rfl, (fun v hv => by simp only [List.mem_cons, List.not_mem_nil, or_false] at hv; subst hv; rfl)⟩ (by kernel_rfl) oneNil ?_
    rw [hd] at hml hT
    have hlx : t.xs.length * 80 ≤ 140737488355328 := hok.l
    refine ⟨fun vs hx n => ∃ (j : Nat) (mp : List (Int × Pv)) (top : Int), n = t.xs.length - j ∧ j ≤ t.xs.length ∧ MgI w bm (t.xs.drop j ++ tlAll (ts.drop (i + 1))) N T mp top ∧ vs = ⟨[(j : Int), top], [], [], [], []⟩ ∧ HX.nil.and (HX.vmap bm (mmap Pv.val mp)) = hx, fun ids w2 hp hf => ⟨_, t.xs.length, ⟨hf.x, hf.sep⟩, 0, mp, top, rfl, Nat.zero_le _, ⟨hmp, hml, htop, hT⟩, by kernel_rfl, rfl⟩, ?_⟩
    clear hml hT htop hmp
    rintro vs hx' n hcnt2 ⟨j, mp2, top2, rfl, hj, ⟨hmp, hml, htop, hT⟩, rfl, rfl⟩
    refine holds_env (ρ' := ⟨[(i : Int), top, (j : Int), top2], [], [.map (some bm)], [ts.length, cp, t.xs.length, t.c], [a, t.a]⟩) (by kernel_rfl) ?_
    refine br_D (p := (j : Int) < (t.xs.length : Int)) (by kernel_rfl) (fun hjl => ?B2) (fun hjl => ?E2)
    case E2 =>
      rw [List.drop_eq_nil_of_le (by omega), List.nil_append] at hml hT
      exact again_V ⟨[IntKind.i64.wrap ((i : Int) + 1), top2], [], [], [], []⟩ rfl (by intros; kernel_rfl) _ (fun w2 ids hf => ⟨hf.x, hf.sep⟩) ⟨ts.length - (i + 1), by omega, i + 1, mp2, top2, rfl, by omega, ⟨hmp, hml, htop, hT⟩, by rw [hwi], rfl⟩
    have hjl : j < t.xs.length := by omega
    have hwj : IntKind.i64.wrap ((j : Int) + 1) = ((j + 1 : Nat) : Int) := by rw [wrap_i64 (by omega)]; omega
    obtain ⟨x, hx⟩ : ∃ x, t.xs[j]? = some x := ⟨_, List.getElem?_eq_getElem hjl⟩
    have hxm := List.mem_of_getElem? hx
    have hxv : VlFit x.v.v ∧ x.v.hx.X w := ⟨hok.f x hxm, htx.2 _ (List.mem_map.2 ⟨x, hxm, rfl⟩)⟩
    have hd2 : t.xs.drop j ++ tlAll (ts.drop (i + 1)) = x :: (t.xs.drop (j + 1) ++ tlAll (ts.drop (i + 1))) := by
      obtain ⟨q, e⟩ := List.getElem?_eq_some_iff.1 hx
      rw [List.drop_eq_getElem_cons q, e]; rfl
    rw [hd2] at hml hT
    obtain ⟨Y, eY⟩ : ∃ Y, Y = t.xs.drop (j + 1) ++ tlAll (ts.drop (i + 1)) := ⟨_, rfl⟩
    rw [← eY, List.length_cons] at hml
    have hT2 : T = if x.s < 1 ∨ valE x.v.v ≠ 0 then ([], 1) else if (mlk (mmap Pv.v mp2) x.s).isSome = true ∧ vlSame (mpGet mp2 x.s).v x.v.v = false then ([], 63) else mgV (mput (mmap Pv.v mp2) x.s x.v.v) (max top2 x.s) (vlsOf Y) := by
      rw [← mp_v, ← hT, eY]; rfl
    obtain ⟨s2, g2⟩ := vo_part htx hx 0 (voC x) (fun j u hj => by rw [Nat.zero_add]; exact hj) (by simp [voC])
    refine need_k (t.a.isSome = true ∧ (0 : Int) ≤ (j : Int) ∧ (j : Int) < (t.xs.length : Int)) (by kernel_rfl) ⟨s2, by omega, by omega⟩ ?_
    refine node_ld0 (k := ⟨4, 0, 1, 4, 2⟩) ⟨[x.s, x.r, x.n, x.v.v.k], [], [], [x.v.v.cs.length, x.v.c1, x.v.v.ns.length, x.v.c2], [x.v.a1, x.v.a2]⟩ (.pointer (some (((t.a.getD ⟨0, 0, none⟩).add (j * 6)).add 0))) (voC x) (by intros; kernel_rfl) (by intros; kernel_rfl) g2 ⟨by kernel_rfl, (fun v hv => by simp only [List.mem_cons, List.not_mem_nil, or_false] at hv; subst hv; rfl)⟩ (by kernel_rfl) oneNil ?_
    obtain ⟨o, eo⟩ : ∃ o, o = mpGet mp2 x.s := ⟨_, rfl⟩
    obtain ⟨ob, eob⟩ : ∃ ob, ob = (mlk (mmap Pv.v mp2) x.s).isSome := ⟨_, rfl⟩
    rw [← eo, ← eob] at hT2
    have hov : VlFit o.v ∧ o.hx.X w := by rw [eo]; exact mp_at hmp x.s
    refine node_vlook (kt := 3) (et := 35) (z := vlV vz none 0 none 0) ⟨[o.v.k], [ob], [], [o.v.cs.length, o.c1, o.v.ns.length, o.c2], [o.a1, o.a2]⟩ bm (mmap Pv.val mp2) x.s (fun w2 h => h.2) (by intros; kernel_rfl) (by intros; kernel_rfl) (by kernel_rfl) Try.underlying3 zero_val (fun ids => by rw [vlk_is, mp_val, mp_some, ← eo, ← eob]; kernel_rfl) (by kernel_rfl) (by kernel_rfl) (by kernel_rfl) oneNil ?_
    refine br_D (p := x.s < 1) (by kernel_rfl) (fun h1 => by rw [hT2, if_pos (.inl h1)]; exact mg_nil (by intros; kernel_rfl)) (fun h1 => ?_)
    refine node_P ⟨[valE x.v.v], [], [], [], []⟩ #[x.v.val] (.int .i64 (valE x.v.v)) (by intros; kernel_rfl) (by intros; kernel_rfl) (by kernel_rfl) (by kernel_rfl) (by kernel_rfl) oneNil (fun ids w2 hp hf => vchk_any _ _ _ _ _ w2 (keepP hxv hf)) ?_
    refine br_B (valE x.v.v != 0) (by kernel_rfl) (fun h2 => by rw [hT2, if_pos (.inr (by simpa using h2))]; exact mg_nil (by intros; kernel_rfl)) (fun h2 => ?_)
    have h2 : valE x.v.v = 0 := by simpa using h2
    rw [if_neg (by simp only [not_or]; exact ⟨h1, fun q => q h2⟩)] at hT2
    have hm3 : mput (mmap Pv.val mp2) x.s x.v.val = mmap Pv.val (mput mp2 x.s x.v) := mput_map _ _ _ _
    have hmx : max top2 x.s = max top2 x.s := rfl
    have hl3 : (mput mp2 x.s x.v).length + Y.length ≤ N := by rw [mput_len]; split <;> omega
    refine br_B ob (by kernel_rfl) (fun h3 => ?K1) (fun h3 => ?K2)
    case' K1 =>
      refine node_P ⟨[], [vlSame o.v x.v.v], [], [], []⟩ #[o.val, x.v.val] (.bool (vlSame o.v x.v.v)) (by intros; kernel_rfl) (by intros; kernel_rfl) (by kernel_rfl) (by kernel_rfl) (by kernel_rfl) oneNil (fun ids w2 hp hf => vsame_any _ _ _ _ _ _ _ _ _ _ w2 (keepP hov hf) (keepP hxv hf)) ?_
      refine br_B (!(vlSame o.v x.v.v)) (by kernel_rfl) (fun h4 => by rw [hT2, if_pos ⟨h3, by simpa using h4⟩]; exact mg_nil (by intros; kernel_rfl)) (fun h4 => ?_)
      have hT3 : T = mgV (mput (mmap Pv.v mp2) x.s x.v.v) (max top2 x.s) (vlsOf Y) := by rw [hT2, if_neg (fun q => by rw [q.2] at h4; cases h4)]
    case' K2 =>
      have hT3 : T = mgV (mput (mmap Pv.v mp2) x.s x.v.v) (max top2 x.s) (vlsOf Y) := by rw [hT2, if_neg (fun q => by rw [h3] at q; exact absurd q.1 (by decide))]
    all_goals
      rw [mput_map] at hT3
      refine node_vput (kt := 3) (et := 35) bm (mmap Pv.val mp2) x.s x.v.val (.inl hbm1) (fun q => q) (by intros; kernel_rfl) (by intros; kernel_rfl) (by intros; kernel_rfl) (by kernel_rfl) Try.underlying3 (by kernel_rfl) (by kernel_rfl) (by kernel_rfl) ?_
      refine holds_eq (show _ = HX.nil.and (HX.vmap bm (mmap Pv.val (mput mp2 x.s x.v))) by rw [vput_is, hm3]) ?_
      exact again_V ⟨[IntKind.i64.wrap ((j : Int) + 1), max top2 x.s], [], [], [], []⟩ rfl (by intros; kernel_rfl) _ (fun w2 ids hf => ⟨hf.x, hf.sep⟩) ⟨t.xs.length - (j + 1), by omega, j + 1, mput mp2 x.s x.v, max top2 x.s, rfl, by omega, ⟨hmp.put x.s hxv, by rw [← eY]; exact hl3, by omega, by rw [← eY]; exact hT3.symm⟩, by rw [hwj], rfl⟩
  case E =>
    rw [List.drop_eq_nil_of_le (by omega)] at hml hT
    have hml : mp.length ≤ N := hml
    have hlm : (mmap Pv.val mp).length = mp.length := by unfold mmap; exact List.length_map _
    have hlv : (mmap Pv.v mp).length = mp.length := by unfold mmap; exact List.length_map _
    have hT2 : T = if top ≠ (mp.length : Int) then ([], 41) else (outV (mmap Pv.v mp) mp.length, 0) := by rw [← hT, ← hlv]; rfl
    refine node_vlen (mt := 74) (kt := 3) (et := 35) ⟨[(mp.length : Int)], [], [], [], []⟩ rfl bm (mmap Pv.val mp) (fun w2 h => h.2) (by intros; kernel_rfl) (by kernel_rfl) (fun ids => by rw [hlm]; kernel_rfl) (by rw [hlm]; omega) (by kernel_rfl) (by kernel_rfl) (by kernel_rfl) oneNil ?_
    refine br_B (top != (mp.length : Int)) (by kernel_rfl) (fun h1 => by rw [hT2, if_pos (by simpa using h1)]; exact mg_nil (by intros; kernel_rfl)) (fun h1 => ?_)
    have h1 : top = (mp.length : Int) := by simpa using h1
    rw [if_neg (fun q => q h1)] at hT2
    obtain ⟨B, eB⟩ : ∃ B, B = HX.nil.and (HX.vmap bm (mmap Pv.val mp)) := ⟨_, rfl⟩
    have hBm : ∀ {w2 : World}, B.X w2 → VMap w2 bm (mmap Pv.val mp) := fun h => by rw [eB] at h; exact h.2
    rw [← eB]
    refine ⟨fun vs hx n => ∃ (b : Option Addr) (d : Nat) (ys : List (Vo Pv)), n = mp.length - ys.length ∧ ys.length ≤ mp.length ∧ vlsOf ys = outV (mmap Pv.v mp) ys.length ∧ OwnR w B (voAll ys) ∧ OwnR w (B.and (voAll ys)) (vrow b d ys) ∧ vs = ⟨[((ys.length + 1 : Nat) : Int)], [], [], [ys.length, d], [b]⟩ ∧ (B.and (voAll ys)).and (vrow b d ys) = hx, fun ids w2 hp hf => ⟨(B.and (voAll [])).and (vrow none 0 []), mp.length, ⟨⟨⟨hf.x, (fun x hx => by cases hx)⟩, HX.rw_nil _ _ _ _⟩, fun k hk => hk.elim (fun q => q.elim (fun q => hf.sep k q) fun ⟨x, hx, _⟩ => by cases hx) fun q => absurd rfl q.1⟩, none, 0, [], rfl, Nat.zero_le _, rfl, (fun k ⟨x, hx, _⟩ => by cases hx), (fun k hk => absurd rfl hk.1), by kernel_rfl, rfl⟩, ?_⟩
    rintro vs hx' n hcnt2 ⟨b, d, ys, rfl, hyl, hv, ownv, ownr, rfl, rfl⟩
    refine holds_env (ρ' := ⟨[(i : Int), top, (mp.length : Int), ((ys.length + 1 : Nat) : Int)], [], [.map (some bm)], [ts.length, cp, ys.length, d], [a, b]⟩) (by kernel_rfl) ?_
    refine br_D (p := ((ys.length + 1 : Nat) : Int) ≤ top) (by kernel_rfl) (fun hle => ?_) (fun hle => ?_)
    rotate_left
    · have hye : ys.length = mp.length := by omega
      rw [hT2]
      intro ids w2 hp hf2
      exact ⟨b, d, ys, by kernel_rfl, by rw [hv, hye], ⟨hf2.x.1.2, hf2.x.2⟩, fun j hj => ⟨hj.elim (fun q => (ownv j q).1) (fun q => (ownr j q).1), (hf2.sep j (hj.elim (fun q => .inl (.inr q)) .inr)).1⟩, hf2.chg.below⟩
    obtain ⟨o, eo⟩ : ∃ o, o = mpGet mp ((ys.length + 1 : Nat) : Int) := ⟨_, rfl⟩
    have hov : VlFit o.v ∧ o.hx.X w := by rw [eo]; exact mp_at hmp _
    refine node_vlook1 (kt := 3) (et := 35) (z := vlV vz none 0 none 0) ⟨[o.v.k], [], [], [o.v.cs.length, o.c1, o.v.ns.length, o.c2], [o.a1, o.a2]⟩ bm (mmap Pv.val mp) ((ys.length + 1 : Nat) : Int) (fun w2 h => hBm h.1.1) (by intros; kernel_rfl) (by intros; kernel_rfl) (by kernel_rfl) Try.underlying3 zero_val (fun ids => by rw [vlk_is, mp_val, ← eo]; kernel_rfl) (by kernel_rfl) (by kernel_rfl) (by kernel_rfl) oneNil ?_
    refine node_vrow (V := id) (v := o.v) (fun _ => #[o.val]) (fun b1 d1 b2 d2 => ⟨[o.v.k], [], [], [o.v.cs.length, d1, o.v.ns.length, d2], [b1, b2]⟩) (by intros; kernel_rfl) (fun ids w2 hp hf => vclone_row _ _ _ _ _ w2 (keepP hov hf)) (by intros; kernel_rfl) (by kernel_rfl) (by kernel_rfl) (by intros; kernel_rfl) (fun _ _ _ _ => oneNil) ?_
    intro b1 d1 b2 d2 hfr1 hfr2
    obtain ⟨z, ez⟩ : ∃ z : Vo Pv, z = ⟨((ys.length + 1 : Nat) : Int), 0, 0, ⟨o.v, b1, d1, b2, d2⟩⟩ := ⟨_, rfl⟩
    have hv' : vlsOf (ys ++ [z]) = outV (mmap Pv.v mp) (ys.length + 1) := by
      rw [outV_succ, vls_app, hv, mp_v, ← eo, ez]; rfl
    have fq : ∀ j, (pvR z.v).F j → w.heap.size ≤ j ∧ ¬ ((B.and (voAll ys)).and (vrow b d ys)).F j := fun j hj => by
      rw [ez] at hj
      exact hj.elim (fun q => hfr1 j q) (fun q => ⟨(hfr2 j q).1, (hfr2 j q).2.1⟩)
    have ezr : (crow b1 o.v.cs.length d1 o.v.cs).and (nrow b2 o.v.ns.length d2 o.v.ns) = pvR z.v := by rw [ez]; rfl
    rw [ezr]
    refine holds_eq (HX.and_right_comm _ _ _) ?_
    have epc : (B.and (voAll ys)).and (pvR z.v) = B.and (voAll (ys ++ [z])) := by rw [voAll_snoc, HX.and_assoc]
    refine holds_eq (congrArg (fun y => y.and (vrow b d ys)) epc) ?_
    have ownv' : OwnR w B (voAll (ys ++ [z])) := fun j hj => by
      rw [voAll_snoc] at hj
      rcases hj with hj | hj
      · exact ownv j hj
      · exact ⟨(fq j hj).1, fun y => (fq j hj).2 (.inl (.inl y))⟩
    have hdis : ∀ j, d ≠ 0 → abk b = some j → ¬ (B.and (voAll (ys ++ [z]))).F j := fun j q1 q2 y => by
      rcases y with y | y
      · exact (ownr j ⟨q1, q2⟩).2 (.inl y)
      · rw [voAll_snoc] at y
        rcases y with y | y
        · exact (ownr j ⟨q1, q2⟩).2 (.inr y)
        · exact (fq j y).2 (.inr ⟨q1, q2⟩)
    have hwk : IntKind.i64.wrap (((ys.length + 1 : Nat) : Int) + 1) = ((ys.length + 1 + 1 : Nat) : Int) := by rw [wrap_i64 (by omega)]; omega
    refine node_pushs (e := 39) (sz := 6) rfl Try.underlying24 info_vote rfl (by decide) b ys.length d (vocs ys) (voC z) 0 (by intros; kernel_rfl) (by intros; kernel_rfl) rfl (fun ids => by rw [ez]; kernel_rfl) rfl (voC_one z) hdis (fun j q1 q2 => .inl (ownr j ⟨q1, q2⟩).1) (by unfold maxLen; omega) (by omega) (by intros; kernel_rfl) (by kernel_rfl) (by kernel_rfl) (by intros; kernel_rfl) ?_
    intro b' d' hc' hr' hor'
    have hlz : (ys ++ [z]).length = ys.length + 1 := by simp
    have erow : HX.rw 6 39 b' (ys.length + 1) d' (vocs ys ++ voC z) = vrow b' d' (ys ++ [z]) := by unfold vrow; rw [vocs_snoc, hlz]
    refine holds_eq (congrArg _ erow) ?_
    refine again_V ⟨[IntKind.i64.wrap (((ys.length + 1 : Nat) : Int) + 1)], [], [], [ys.length + 1, d'], [b']⟩ rfl (by intros; kernel_rfl) _ (fun w2 ids hf => ⟨hf.x, hf.sep⟩) ⟨mp.length - (ys.length + 1), by omega, b', d', ys ++ [z], by rw [hlz], by omega, by rw [hlz]; exact hv', ownv', fun j hj => ⟨?_, hr' j hj.2⟩, by rw [hwk, hlz], rfl⟩
    rcases hor' with ⟨r1, r2⟩ | ⟨g, r1, r2, _⟩
    · exact (ownr j ⟨r1, by rw [← r2]; exact hj.2⟩).1
    · have := hj.2
      rw [r1] at this; cases this; exact r2
end Go.Proofs.Ytbedoemdjlollaa

namespace Go.Proofs.Ytbedoemdjlollaa
open Go.ChangeShapes Go.WideShapes Go.ChangeAt Go.RowKit Go.Syn Go.Eng
set_option linter.unusedVariables false
set_option linter.unusedSimpArgs false
set_option maxRecDepth 100000
structure Pc where
  c : CmD
  k : Int
  re : Int
  im : Int
  regs : List Int
def Pc.key (p : Pc) : Ky := (p.c.sess, p.c.seq)
def Pc.res (p : Pc) : Int × Int × Int := (p.k, p.re, p.im)
def z16 : List Int := [0, 0, 0, 0, 0, 0, 0, 0, 0, 0, 0, 0, 0, 0, 0, 0]
def rgA (ps : List Pc) : Nat → List Int
  | 0 => z16
  | q + 1 => ((ps[q]?).map Pc.regs).getD z16
def rsA (ps : List Pc) : Nat → Int × Int × Int
  | 0 => (0, 0, 0)
  | q + 1 => ((ps[q]?).map Pc.res).getD (0, 0, 0)
def findP (x : Ky) : List Pc → Nat
  | [] => 0
  | p :: r => if p.key = x then 1 else if findP x r = 0 then 0 else findP x r + 1
def addP (ps : List Pc) (z : CmD × AnD) : List Pc := if findP (z.1.sess, z.1.seq) ps ≠ 0 ∨ 3 < z.2.k then ps else ps ++ [⟨z.1, z.2.k, z.2.re, z.2.im, (applyM (rgA ps ps.length) z.1.op).1⟩]
def addAll (ps : List Pc) (l : List (CmD × AnD)) : List Pc := l.foldl addP ps
def playV : Im → List Pc → List (Vo Vl) → List Pc × Int
  | _, ps, [] => (ps, 0)
  | I, ps, x :: r => if (execV I x.s x.v).e ≠ 0 then (ps, (execV I x.s x.v).e) else playV (execV I x.s x.v).i (addAll ps (x.v.cs.zip (execV I x.s x.v).an)) r
def firstI (xs : List Int) : Im := ⟨0, xs, 0, im0.regs, []⟩
theorem rgA_s {ps : List Pc} {q : Nat} {p : Pc} (h : ps[q]? = some p) : rgA ps (q + 1) = p.regs := by
  show ((ps[q]?).map Pc.regs).getD z16 = _
  rw [h]; rfl
theorem rgA_n {ps : List Pc} {q : Nat} (h : ps[q]? = none) : rgA ps (q + 1) = z16 := by
  show ((ps[q]?).map Pc.regs).getD z16 = _
  rw [h]; rfl
theorem rsA_s {ps : List Pc} {q : Nat} {p : Pc} (h : ps[q]? = some p) : rsA ps (q + 1) = p.res := by
  show ((ps[q]?).map Pc.res).getD (0, 0, 0) = _
  rw [h]; rfl
theorem findP_le (x : Ky) : ∀ ps : List Pc, findP x ps ≤ ps.length
  | [] => Nat.le_refl _
  | p :: r => by
    have := findP_le x r
    unfold findP
    split
    · simp
    · split
      · omega
      · simp; omega
theorem findP_app (x : Ky) (p : Pc) : ∀ ps : List Pc, findP x (ps ++ [p]) = if findP x ps ≠ 0 then findP x ps else if p.key = x then ps.length + 1 else 0
  | [] => by simp [findP]
  | q :: r => by
    rw [List.cons_append]
    unfold findP
    rw [findP_app x p r]
    by_cases h : q.key = x
    · simp [h]
    · simp only [if_neg h]
      by_cases h2 : findP x r = 0
      · simp only [h2, ne_eq, not_true, if_false, if_true]
        by_cases h3 : p.key = x
        · simp [h3]
        · simp [h3]
      · simp [h2]
theorem findP_get (x : Ky) : ∀ {ps : List Pc} {i : Nat}, findP x ps = i + 1 → ∃ p, ps[i]? = some p ∧ p.key = x
  | [], i, h => by simp [findP] at h
  | p :: r, i, h => by
    unfold findP at h
    split at h
    · rename_i e
      have : i = 0 := by omega
      subst this
      exact ⟨p, rfl, e⟩
    · split at h
      · omega
      · obtain ⟨j, hj⟩ : ∃ j, findP x r = j + 1 := ⟨findP x r - 1, by omega⟩
        obtain ⟨q, h1, h2⟩ := findP_get x hj
        have : i = j + 1 := by omega
        subst this
        exact ⟨q, by simpa using h1, h2⟩
def rsC (r : Int × Int × Int) : Value := .agg #[.int .i64 r.1, .int .i64 r.2.1, .int .i64 r.2.2]
def atM (ps : List Pc) : List (Ky × Value) := ps.mapIdx fun i p => (p.key, .int .i64 ((i + 1 : Nat) : Int))
def resM (ps : List Pc) : List (Ky × Value) := ps.map fun p => (p.key, rsC p.res)
theorem klk_cons (p : Ky × Value) (m : List (Ky × Value)) (x : Ky) : klk (p :: m) x = if p.1 = x then some p.2 else klk m x := by
  unfold klk
  rw [List.find?_cons]
  by_cases h : p.1 = x
  · simp [h]
  · rw [if_neg h, show (p.1 == x) = false by simpa using h]
theorem klk_idx (x : Ky) : ∀ (ps : List Pc) (f : Nat → Pc → Value), klk (ps.mapIdx fun i p => (p.key, f i p)) x = match findP x ps with | 0 => none | i + 1 => (ps[i]?).map (f i)
  | [], f => rfl
  | p :: r, f => by
    rw [List.mapIdx_cons, klk_cons]
    unfold findP
    by_cases h : p.key = x
    · rw [if_pos h, if_pos h]; rfl
    · rw [if_neg h, if_neg h, klk_idx x r fun i p => f (i + 1) p]
      cases hf : findP x r with
      | zero => rfl
      | succ i => simp
theorem klk_at (x : Ky) (ps : List Pc) : klk (atM ps) x = if findP x ps = 0 then none else some (.int .i64 (findP x ps : Int)) := by
  unfold atM
  rw [klk_idx x ps fun i _ => .int .i64 ((i + 1 : Nat) : Int)]
  cases h : findP x ps with
  | zero => rfl
  | succ i =>
    obtain ⟨p, h1, _⟩ := findP_get x h
    show Option.map _ ps[i]? = _
    rw [h1]; rfl
theorem resM_idx (ps : List Pc) : resM ps = ps.mapIdx fun _ p => (p.key, rsC p.res) := by
  unfold resM
  induction ps with
  | nil => rfl
  | cons p r ih => rw [List.map_cons, List.mapIdx_cons, ih]
theorem klk_res (x : Ky) (ps : List Pc) : klk (resM ps) x = if findP x ps = 0 then none else some (rsC (rsA ps (findP x ps))) := by
  rw [resM_idx, klk_idx x ps fun _ p => rsC p.res]
  cases h : findP x ps with
  | zero => rfl
  | succ i =>
    obtain ⟨p, h1, _⟩ := findP_get x h
    show Option.map _ ps[i]? = _
    rw [h1]
    show some (rsC p.res) = some (rsC (rsA ps (i + 1)))
    rw [rsA_s h1]
theorem klk_res0 (x : Ky) (ps : List Pc) : (klk (resM ps) x).getD (rsC (0, 0, 0)) = rsC (rsA ps (findP x ps)) := by
  rw [klk_res]
  by_cases h : findP x ps = 0
  · rw [if_pos h, h]; rfl
  · rw [if_neg h]; rfl
theorem klk_at0 (x : Ky) (ps : List Pc) : (klk (atM ps) x).getD (.int .i64 0) = .int .i64 (findP x ps : Int) := by
  rw [klk_at]
  by_cases h : findP x ps = 0
  · rw [if_pos h, h]; rfl
  · rw [if_neg h]; rfl
theorem klk_at1 (x : Ky) (ps : List Pc) : (klk (atM ps) x).isSome = decide (findP x ps ≠ 0) := by
  rw [klk_at]
  by_cases h : findP x ps = 0
  · rw [if_pos h]; simp [h]
  · rw [if_neg h]; simp [h]
theorem at_put {x : Ky} {ps : List Pc} {p : Pc} (h : findP x ps = 0) (hp : p.key = x) : kput (atM ps) x (.int .i64 ((ps.length + 1 : Nat) : Int)) = atM (ps ++ [p]) := by
  unfold kput
  rw [klk_at, if_pos h]
  unfold atM
  rw [List.mapIdx_append]
  simp [hp]
theorem res_put {x : Ky} {ps : List Pc} {p : Pc} (h : findP x ps = 0) (hp : p.key = x) : kput (resM ps) x (rsC p.res) = resM (ps ++ [p]) := by
  unfold kput
  rw [klk_res, if_pos h]
  unfold resM
  rw [List.map_append]
  simp [hp]
def stF (r : List Int) : List Value := (rgs r).map (Value.int .i64)
theorem stF_len (r : List Int) : (stF r).length = 16 := rfl
def stL (ps : List Pc) : List (List Int) := z16 :: ps.map Pc.regs
def stC (ps : List Pc) : List Value := (stL ps).flatMap stF
theorem stL_len (ps : List Pc) : (stL ps).length = ps.length + 1 := by unfold stL; simp
theorem stC_len (ps : List Pc) : (stC ps).length = (ps.length + 1) * 16 := by unfold stC; rw [flat_len stF_len, stL_len]
theorem stL_get {ps : List Pc} {q : Nat} (h : q ≤ ps.length) : (stL ps)[q]? = some (rgA ps q) := by
  cases q with
  | zero => rfl
  | succ q =>
    obtain ⟨p, hp⟩ : ∃ p, ps[q]? = some p := ⟨_, List.getElem?_eq_getElem (by omega)⟩
    show (ps.map Pc.regs)[q]? = some (((ps[q]?).map Pc.regs).getD z16)
    rw [List.getElem?_map, hp]; rfl
theorem stC_snoc (ps : List Pc) (p : Pc) : stC ps ++ stF p.regs = stC (ps ++ [p]) := by
  unfold stC stL
  rw [List.map_append, List.flatMap_cons, List.flatMap_cons, List.flatMap_append]
  simp
def PsOk (ps : List Pc) : Prop := ∀ p ∈ ps, p.regs.length = 16
theorem rgA_len {ps : List Pc} (h : PsOk ps) (q : Nat) : (rgA ps q).length = 16 := by
  cases q with
  | zero => rfl
  | succ q =>
    cases hq : ps[q]? with
    | none => rw [rgA_n hq]; rfl
    | some p => rw [rgA_s hq]; exact h p (List.mem_of_getElem? hq)
theorem addP_ok {ps : List Pc} (h : PsOk ps) (z : CmD × AnD) : PsOk (addP ps z) := by
  unfold addP
  split
  · exact h
  · intro p hp
    rcases List.mem_append.1 hp with hp | hp
    · exact h p hp
    · rw [List.mem_singleton.1 hp]
      exact (applyM_len _ _).trans (rgA_len h _)
theorem addP_len (ps : List Pc) (z : CmD × AnD) : (addP ps z).length ≤ ps.length + 1 := by
  unfold addP
  split
  · omega
  · simp
theorem addAll_step (ps : List Pc) {l : List (CmD × AnD)} {j : Nat} {z : CmD × AnD} (h : l[j]? = some z) : addAll ps (l.drop j) = addAll (addP ps z) (l.drop (j + 1)) := by
  obtain ⟨hj, e⟩ := List.getElem?_eq_some_iff.1 h
  rw [List.drop_eq_getElem_cons hj, e]; rfl
theorem addAll_ok {ps : List Pc} (h : PsOk ps) (l : List (CmD × AnD)) : PsOk (addAll ps l) := by
  induction l generalizing ps with
  | nil => exact h
  | cons z r ih => exact ih (addP_ok h z)
theorem addAll_len (ps : List Pc) (l : List (CmD × AnD)) : (addAll ps l).length ≤ ps.length + l.length := by
  induction l generalizing ps with
  | nil => exact Nat.le_refl _
  | cons z r ih =>
    have h1 := ih (addP ps z)
    have h2 := addP_len ps z
    show (addAll (addP ps z) r).length ≤ _
    rw [List.length_cons]; omega
theorem exec_an {I : Im} {slot : Int} {v : Vl} (h : (execV I slot v).e = 0) : (execV I slot v).an.length = v.cs.length := by
  obtain ⟨h1, h2, h3, h4, h5⟩ := exec_zero h
  unfold execV
  rw [if_neg (by rw [(validI_iff I).2 h1]; decide), if_neg (by simp only [not_or]; exact ⟨fun q => q h2, by omega, fun q => by have := h4 q.1; omega⟩), if_neg (fun q => q h5)]
  show (v.cs.foldl stepV (goI I slot v, [])).2.length = _
  have := (runAll_keep (goI I slot v) v.cs (goI I slot v, [])).2.2.2
  simpa using this
end Go.Proofs.Ytbedoemdjlollaa

namespace Go.Proofs.Ytbedoemdjlollaa
open Go Go.ChangeShapes Go.WideShapes Go.ChangeAt Go.RowKit Go.Syn Go.Eng
set_option linter.unusedVariables false
set_option linter.unusedSimpArgs false
set_option maxRecDepth 100000
theorem kyOk : KyOk Try.prog 91 := ⟨Go.deep_law (m := 2) (by omega) (by kernel_rfl) (by kernel_rfl) (by kernel_rfl), fun k hk => by
  have h1 : (Lit.int .i64 k.1).wf = true := by
    have := hk.1
    simp only [Lit.wf, IntKind.min, IntKind.max, IntKind.signed, IntKind.bits, decide_eq_true_eq, Bool.and_eq_true]
    simp; omega
  have h2 : (Lit.int .i64 k.2).wf = true := by
    have := hk.2
    simp only [Lit.wf, IntKind.min, IntKind.max, IntKind.signed, IntKind.bits, decide_eq_true_eq, Bool.and_eq_true]
    simp; omega
  refine ⟨.string (keyBytes [.int .i64 k.1, .int .i64 k.2]), ?_⟩
  obtain ⟨m, hm⟩ : ∃ m, Try.prog.types.size = m + 1 := ⟨Try.prog.types.size - 1, by kernel_rfl⟩
  have hkt : Try.prog.keyType 91 = true := by kernel_rfl
  have hc : Try.prog.cellsOf 91 = 2 := by kernel_rfl
  have hc3 : Try.prog.cellsOf 3 = 1 := by kernel_rfl
  unfold keyOf
  simp only [Try.underlying91]
  rw [if_pos (by simp [hkt, Value.formed, Try.underlying91, hc, kyV]), hm]
  unfold Program.keyLits
  simp only [Try.underlying91, kyV, Value.cells]
  rw [if_pos (by rw [hc]; exact ⟨rfl, by kernel_rfl⟩)]
  simp [Program.keyLits, Try.underlying3, hc3, h1, h2]⟩
def mdX (sa : Option Addr) (sc b1 b2 : Nat) (ps : List Pc) : HX := ((HX.rw 16 93 sa (ps.length + 1) sc (stC ps)).and (HX.kmap b1 (atM ps))).and (HX.kmap b2 (resM ps))
def mdV (sa : Option Addr) (sc b1 b2 : Nat) (ps : List Pc) : Value := .agg #[.slice sa (ps.length + 1) sc, .map (some b1), .map (some b2)]
def PlNew (w : World) (R : List Pc × Int) (e : Ending) (w' : World) : Prop := ∃ (sa : Option Addr) (sc b1 b2 : Nat), e = .returned (.tuple #[mdV sa sc b1 b2 R.1, .int .i64 R.2]) ∧ (mdX sa sc b1 b2 R.1).X w' ∧ (∀ k, (mdX sa sc b1 b2 R.1).F k → w.heap.size ≤ k ∧ k < w'.heap.size) ∧ Below w.heap.size w w'
structure MdOwn (W : World) (Z : HX) (sa : Option Addr) (sc b1 b2 : Nat) : Prop where
  row : ∀ k, sc ≠ 0 → abk sa = some k → W.heap.size ≤ k ∧ k ≠ b1 ∧ k ≠ b2 ∧ ¬ Z.F k
  o1 : W.heap.size ≤ b1 ∧ ¬ Z.F b1
  o2 : W.heap.size ≤ b2 ∧ ¬ Z.F b2
  ne : b1 ≠ b2
theorem MdOwn.mono {W : World} {Z Z' : HX} {sa : Option Addr} {sc b1 b2 : Nat} (h : MdOwn W Z sa sc b1 b2) (hZ : ∀ k, Z'.F k → Z.F k ∨ (W.heap.size ≤ k ∧ ¬ (k = b1 ∨ k = b2 ∨ (sc ≠ 0 ∧ abk sa = some k)))) : MdOwn W Z' sa sc b1 b2 :=
  ⟨fun k h1 h2 => ⟨(h.row k h1 h2).1, (h.row k h1 h2).2.1, (h.row k h1 h2).2.2.1, fun q => (hZ k q).elim (h.row k h1 h2).2.2.2 fun q => q.2 (.inr (.inr ⟨h1, h2⟩))⟩, ⟨h.o1.1, fun q => (hZ _ q).elim h.o1.2 fun q => q.2 (.inl rfl)⟩, ⟨h.o2.1, fun q => (hZ _ q).elim h.o2.2 fun q => q.2 (.inr (.inl rfl))⟩, h.ne⟩
theorem MdOwn.F {W : World} {Z : HX} {sa : Option Addr} {sc b1 b2 : Nat} {ps : List Pc} (h : MdOwn W Z sa sc b1 b2) : ∀ k, (mdX sa sc b1 b2 ps).F k → W.heap.size ≤ k := by
  rintro k ((hk | hk) | hk)
  · exact (h.row k hk.1 hk.2).1
  · have hk : k = b1 := hk
    rw [hk]; exact h.o1.1
  · have hk : k = b2 := hk
    rw [hk]; exact h.o2.1
theorem info_sta : (Try.prog.info? 93).map (fun i => (i.zero, i.size, i.bytes)) = some (some (.agg #[.int .i64 0, .int .i64 0, .int .i64 0, .int .i64 0, .int .i64 0, .int .i64 0, .int .i64 0, .int .i64 0, .int .i64 0, .int .i64 0, .int .i64 0, .int .i64 0, .int .i64 0, .int .i64 0, .int .i64 0, .int .i64 0]), 16, 128) := by kernel_rfl
theorem lit_sta (r : List Int) (w : World) : (Instr.buildSlice 83 1 #[(0, .agg (stF r).toArray)]).run Try.prog w = .ok (.slice (some ⟨w.heap.size, 0, none⟩) 1 1) (w.alloc (.cells (stF r).toArray 93)) := by kernel_rfl
theorem st_elt {ps : List Pc} {sa : Option Addr} {w : World} (h : Cells w sa (stC ps)) {q : Nat} (hq : q ≤ ps.length) : sa.isSome = true ∧ CellsAt w (.pointer (some (((sa.getD ⟨0, 0, none⟩).add (q * 16)).add 0))) (stF (rgA ps q)) (fun _ => False) := by
  obtain ⟨h1, h2⟩ := flat_part stF_len h (stL_get hq) (o := 0) (stF (rgA ps q)) (fun j u hj => by rw [Nat.zero_add]; exact hj) (by simp [stF, rgs])
  exact ⟨h1, h2 _ id⟩
theorem st_some {sa : Option Addr} {sc n e : Nat} {ps : List Pc} {w : World} (h : (HX.rw 16 e sa n sc (stC ps)).X w) : sa.isSome = true := row_isS h (fun q => by have := stC_len ps; rw [q] at this; simp at this)
def JqI (W : World) (Z : HX) (n b1 b2 P0 : Nat) (l : List (CmD × AnD)) (T : List Pc) (vs : Vals) (hx : HX) (m : Nat) : Prop := ∃ (j : Nat) (ps : List Pc) (sa : Option Addr) (sc : Nat), m = n - j ∧ j ≤ n ∧ PsOk ps ∧ ps.length ≤ P0 + j ∧ addAll ps (l.drop j) = T ∧ MdOwn W Z sa sc b1 b2 ∧ sa.isSome = true ∧
  vs = ⟨[(j : Int)], [], [.map (some b1), .map (some b2)], [ps.length + 1, sc], [sa]⟩ ∧ Z.and (mdX sa sc b1 b2 ps) = hx
set_option maxHeartbeats 1000000 in
theorem jtail {w : World} {I0 I : Im} {R : ExR} {k j cx ch y1 y2 sc0 c1 c2 r1 r2 oc sc b1 b2 d1 d2 P0 : Nat} {xs : List Int} {hs : List (Vo Pv)} {ps0 ps : List Pc} {x : Vo Pv} {ax ah la x1 x2 sa0 a1 a2 q1 q2 oa sa : Option Addr} {c : CmD} {a : AnD} {Q : List Pc × Int} {Z : HX} {T : List Pc} {S : Stack} {fa : Int} {fb : Bool} {l : List (CmD × AnD)} (p : List Int × Int × Int × Int) (ep : p = applyM (rgA ps ps.length) c.op) (hlen : ps.length + 1 ≤ 100000000) (hf : findP (c.sess, c.seq) ps = 0) (hk3 : ¬ 3 < a.k) (hps : PsOk ps) (hl : l[j]? = some (c, a)) (hP0 : ps.length ≤ P0 + j) (hj : j < x.v.v.cs.length) (hj2 : x.v.v.cs.length ≤ 8) (hT : addAll ps (l.drop j) = T) (hown : MdOwn w Z sa sc b1 b2) (hky : KyFit (c.sess, c.seq))
    (hS : lkup 15 S = some (fun vs hx => ∃ n', n' < x.v.v.cs.length - j ∧ JqI w Z x.v.v.cs.length b1 b2 P0 l T vs hx n')) :
    Tree.holds ⟨Try.prog, w, fun _ => False, PlNew w Q⟩ tJPlayt4 ⟨imI I0 ++ [(k : Int)] ++ imI I ++ [x.s, x.r, x.n, x.v.v.k] ++ imI R.i ++ [R.e] ++ [(j : Int)] ++ c.is ++ [fa, a.k, a.re, a.im] ++ rgs (rgA ps ps.length) ++ rgs p.1 ++ [p.2.1, p.2.2.1, p.2.2.2], [fb], [.map (some d1), .map (some d2), .map (some b1), .map (some b2), .map (some b1), .map (some b2)], [xs.length, cx, hs.length, ch, 1, 1, I0.mem.length, y1, I0.tb.length, y2, ps0.length + 1, sc0, I.mem.length, c1, I.tb.length, c2, x.v.v.cs.length, x.v.c1, x.v.v.ns.length, x.v.c2, R.i.mem.length, r1, R.i.tb.length, r2, R.an.length, oc, ps.length + 1, sc], [ax, ah, la, x1, x2, sa0, a1, a2, x.v.a1, x.v.a2, q1, q2, oa, sa]⟩ [] (Z.and (mdX sa sc b1 b2 ps)) S ∧
    Tree.holds ⟨Try.prog, w, fun _ => False, PlNew w Q⟩ tJPlayt5 ⟨imI I0 ++ [(k : Int)] ++ imI I ++ [x.s, x.r, x.n, x.v.v.k] ++ imI R.i ++ [R.e] ++ [(j : Int)] ++ c.is ++ [fa, a.k, a.re, a.im] ++ rgs (rgA ps ps.length) ++ rgs p.1 ++ [p.2.1, p.2.2.1, p.2.2.2], [fb], [.map (some d1), .map (some d2), .map (some b1), .map (some b2), .map (some b1), .map (some b2)], [xs.length, cx, hs.length, ch, 1, 1, I0.mem.length, y1, I0.tb.length, y2, ps0.length + 1, sc0, I.mem.length, c1, I.tb.length, c2, x.v.v.cs.length, x.v.c1, x.v.v.ns.length, x.v.c2, R.i.mem.length, r1, R.i.tb.length, r2, R.an.length, oc, ps.length + 1, sc], [ax, ah, la, x1, x2, sa0, a1, a2, x.v.a1, x.v.a2, q1, q2, oa, sa]⟩ [] (Z.and (mdX sa sc b1 b2 ps)) S := by
  obtain ⟨z, ez⟩ : ∃ z : Pc, z = ⟨c, a.k, a.re, a.im, p.1⟩ := ⟨_, rfl⟩
  have hz : addP ps (c, a) = ps ++ [z] := by
    unfold addP
    rw [if_neg (by simp only [not_or, ne_eq, Classical.not_not]; exact ⟨hf, hk3⟩), ez, ep]
  have hzk : z.key = (c.sess, c.seq) := by rw [ez]; rfl
  have hzr : z.regs = p.1 := by rw [ez]
  have hzc : rsC z.res = .agg #[.int .i64 a.k, .int .i64 a.re, .int .i64 a.im] := by rw [ez]; rfl
  have hT2 : addAll (ps ++ [z]) (l.drop (j + 1)) = T := by rw [← hz, ← hT]; exact (addAll_step ps hl).symm
  have hps2 : PsOk (ps ++ [z]) := by rw [← hz]; exact addP_ok hps _
  have hrow := hown.row
  have hn1 := hown.o1
  have hn2 := hown.o2
  have hl2 : (ps ++ [z]).length = ps.length + 1 := by simp
  constructor
  all_goals
    refine node_lit (t := 83) (e := 93) (len := 1) (sz := 16) (stF p.1) #[(0, .agg (stF p.1).toArray)] (by intros; kernel_rfl) (fun w => lit_sta p.1 w) rfl (by unfold maxLen; decide) (by intros; kernel_rfl) (by kernel_rfl) (by kernel_rfl) (by intros; kernel_rfl) ?_
    intro lb hlb
    refine node_appends (e := 93) (sz := 16) (bytes := 128) (rest := (Z.and (HX.kmap b1 (atM ps))).and (HX.kmap b2 (resM ps))) rfl (by kernel_rfl) info_sta rfl (by decide) sa (ps.length + 1) sc (stC ps) (fun _ => lb) 1 1 (stF p.1) rfl (fun ids w2 hp hf => hf.x.1.2.1.1) (fun ids w2 hp hf => rw_cells hf.x.2) (fun u hu => by obtain ⟨y, _, rfl⟩ := List.mem_map.1 hu; rfl) (fun w2 hx => ⟨⟨⟨hx.1.1, hx.1.2.1.2⟩, hx.1.2.2⟩, fun q hq => hq.elim (fun z => z.elim (fun z => .inl (.inl z)) fun z => .inl (.inr (.inl (.inr z)))) fun z => .inl (.inr (.inr z))⟩) (fun q h1 h2 => .inl (.inr (.inl (.inl ⟨h1, h2⟩)))) (fun q h1 h2 hF => hF.elim (fun z => z.elim (hrow q h1 h2).2.2.2 (hrow q h1 h2).2.1) (hrow q h1 h2).2.2.1) (fun q h1 h2 => .inl (hrow q h1 h2).1) (by unfold maxLen; omega) (by omega) (by intros; kernel_rfl) (by intros; kernel_rfl) (by intros; kernel_rfl) (by kernel_rfl) (by kernel_rfl) (by intros; kernel_rfl) ?_
    intro sb sd _ hdis hwh
    have hrow2 : ∀ q, sd ≠ 0 → abk sb = some q → w.heap.size ≤ q ∧ q ≠ b1 ∧ q ≠ b2 ∧ ¬ Z.F q := fun q h1 h2 => ⟨by
      rcases hwh q h1 h2 with ⟨g1, g2⟩ | g
      · exact (hrow q g1 g2).1
      · exact g.1, fun g => hdis q h1 h2 (.inl (.inr g)), fun g => hdis q h1 h2 (.inr g), fun g => hdis q h1 h2 (.inl (.inl g))⟩
    have e1 : (((Z.and (HX.kmap b1 (atM ps))).and (HX.kmap b2 (resM ps))).and (HX.rw 16 93 sb (ps.length + 1 + 1) sd (stC ps ++ stF p.1))) = ((Z.and (HX.kmap b2 (resM ps))).and (HX.rw 16 93 sb (ps.length + 1 + 1) sd (stC ps ++ stF p.1))).and (HX.kmap b1 (atM ps)) := by ac_rfl
    refine holds_eq e1 ?_
    have hw1 : IntKind.i64.wrap (((ps.length + 1 + 1 : Nat) : Int) - 1) = ((ps.length + 1 : Nat) : Int) := by rw [wrap_i64 (by omega)]; omega
    refine node_kput (kt := 91) (et := 3) b1 (atM ps) (c.sess, c.seq) (.int .i64 ((ps.length + 1 : Nat) : Int)) kyOk hky (.inl hn1.1) (fun hF => hF.elim (fun z => z.elim hn1.2 (fun z => hown.ne z)) (fun z => (hrow2 b1 z.1 z.2).2.1 rfl)) (by intros; kernel_rfl) (by intros; kernel_rfl) (fun ids => Eq.trans (b := .int .i64 (IntKind.i64.wrap (((ps.length + 1 + 1 : Nat) : Int) - 1))) (by kernel_rfl) (by rw [hw1])) (by kernel_rfl) (by kernel_rfl) (by kernel_rfl) (by kernel_rfl) ?_
    rw [at_put hf hzk]
    have e2 : (((Z.and (HX.kmap b2 (resM ps))).and (HX.rw 16 93 sb (ps.length + 1 + 1) sd (stC ps ++ stF p.1))).and (HX.kmap b1 (atM (ps ++ [z])))) = ((Z.and (HX.rw 16 93 sb (ps.length + 1 + 1) sd (stC ps ++ stF p.1))).and (HX.kmap b1 (atM (ps ++ [z])))).and (HX.kmap b2 (resM ps)) := by ac_rfl
    refine holds_eq e2 ?_
    refine node_kput (kt := 91) (et := 62) b2 (resM ps) (c.sess, c.seq) (rsC z.res) kyOk hky (.inl hn2.1) (fun hF => hF.elim (fun z => z.elim hn2.2 (fun z => (hrow2 b2 z.1 z.2).2.2.1 rfl)) (fun z => hown.ne z.symm)) (by intros; kernel_rfl) (by intros; kernel_rfl) (fun ids => by rw [hzc]; kernel_rfl) (by kernel_rfl) (by kernel_rfl) (by kernel_rfl) (by kernel_rfl) ?_
    rw [res_put hf hzk]
    have e3 : ((Z.and (HX.rw 16 93 sb (ps.length + 1 + 1) sd (stC ps ++ stF p.1))).and (HX.kmap b1 (atM (ps ++ [z])))).and (HX.kmap b2 (resM (ps ++ [z]))) = Z.and (mdX sb sd b1 b2 (ps ++ [z])) := by
      unfold mdX
      rw [← hzr, stC_snoc, hl2]
      ac_rfl
    refine holds_eq e3 ?_
    have hwk : IntKind.i64.wrap ((j : Int) + 1) = ((j + 1 : Nat) : Int) := by rw [wrap_i64 (by omega)]; omega
    exact again_W ⟨[IntKind.i64.wrap ((j : Int) + 1)], [], [.map (some b1), .map (some b2)], [ps.length + 1 + 1, sd], [sb]⟩ hS (by intros; kernel_rfl) _ (fun w2 ids hf => ⟨⟨hf.x, hf.sep⟩, x.v.v.cs.length - (j + 1), by omega, j + 1, ps ++ [z], sb, sd, rfl, by omega, hps2, by rw [hl2]; omega, hT2, ⟨hrow2, hn1, hn2, hown.ne⟩, st_some hf.x.2.1.1, by rw [hwk, hl2], rfl⟩)
end Go.Proofs.Ytbedoemdjlollaa

namespace Go.Proofs.Ytbedoemdjlollaa
open Go Go.ChangeShapes Go.WideShapes Go.ChangeAt Go.RowKit Go.Syn Go.Eng
set_option linter.unusedVariables false
set_option linter.unusedSimpArgs false
set_option maxRecDepth 100000
def JpI (W : World) (hs : List (Vo Pv)) (b1 b2 : Nat) (T : List Pc × Int) (vs : Vals) (hx : HX) (m : Nat) : Prop := ∃ (k : Nat) (I : Im) (a1 : Option Addr) (c1 : Nat) (a2 : Option Addr) (c2 : Nat) (es : List SE) (ps : List Pc) (sa : Option Addr) (sc : Nat), m = hs.length - k ∧ k ≤ hs.length ∧ ImBig I ∧ es.map SE.s = I.tb ∧ PsOk ps ∧ ps.length ≤ 8 * k ∧ playV I ps (vlsOf (hs.drop k)) = T ∧ MdOwn W (imR I a1 a2 es) sa sc b1 b2 ∧ sa.isSome = true ∧
  vs = ⟨(k : Int) :: imI I, [], [.map (some b1), .map (some b2)], [ps.length + 1, sc, I.mem.length, c1, I.tb.length, c2], [sa, a1, a2]⟩ ∧ (imR I a1 a2 es).and (mdX sa sc b1 b2 ps) = hx
theorem firstI_big {xs : List Int} (hI : ∀ x ∈ xs, I64 x) (hl : xs.length * 8 ≤ 140737488351232) : ImBig (firstI xs) := ⟨hI, hl, rfl, (by show (0 : Nat) * 40 ≤ _; decide), fun s hs => by cases hs⟩
theorem drop_vo {hs : List (Vo Pv)} {k : Nat} {x : Vo Pv} (h : hs[k]? = some x) : vlsOf (hs.drop k) = Vo.map Pv.v x :: vlsOf (hs.drop (k + 1)) := by
  obtain ⟨hk, e⟩ := List.getElem?_eq_some_iff.1 h
  rw [List.drop_eq_getElem_cons hk, e]; rfl
theorem pl_done {w : World} {Z : HX} {sa : Option Addr} {sc b1 b2 : Nat} {ps : List Pc} {e : Int} {v : SV} {m : Mem} {ρ : Env} {S : Stack} (hown : MdOwn w Z sa sc b1 b2) (hv : ∀ ids, v.den ρ ids = .tuple #[mdV sa sc b1 b2 ps, .int .i64 e]) : (Tree.done v m).holds ⟨Try.prog, w, fun _ => False, PlNew w (ps, e)⟩ ρ [] (Z.and (mdX sa sc b1 b2 ps)) S := fun ids w2 hp hf =>
  ⟨sa, sc, b1, b2, by rw [hv ids], hf.x.2, fun k hk => ⟨hown.F k hk, (hf.sep k (.inr hk)).1⟩, hf.chg.below⟩
set_option maxHeartbeats 4000000 in
theorem play_any (ax : Option Addr) (cx : Nat) (xs : List Int) (ah : Option Addr) (ch : Nat) (hs : List (Vo Pv)) (w : World) (HX0 : Ints w ax xs) (hxl : xs.length * 8 ≤ 140737488351232) (HH : (voX ah hs).X w) (hfit : ∀ x ∈ hs, VlFit x.v.v) (hl : hs.length ≤ 1048576) :
    Calls Try.prog 30 #[.slice ax xs.length cx, .slice ah hs.length ch] w (PlNew w (playV (firstI xs) [] (vlsOf hs))) := by
  refine calls_at (tab_ok _) Try.func30 rfl tJPlay (ρ := ⟨[], [], [], [xs.length, cx, hs.length, ch], [ax, ah]⟩) (ids := []) (hx := HX.nil) rfl (Facts.initP rfl oneNil) ?_
  obtain ⟨T, eT⟩ : ∃ T, T = playV (firstI xs) [] (vlsOf hs) := ⟨_, rfl⟩
  rw [← eT]
  have keepV : ∀ {m : Mem} {ρ : Env} {ids : List Nat} {hx : HX} {w2 : World} {R : Ending → World → Prop} {x : Vo Pv}, x ∈ hs → Facts ⟨Try.prog, w, fun _ => False, R⟩ m ρ ids hx w2 → VlAt w2 x.v.v x.v.a1 x.v.a2 := fun hx hf => (hfit _ hx).at_ ((vlX _ _ _).loc _ _ (voX_at HH hfit hx).X fun k hk => hf.chg.block k (vlX_sep (voX_at HH hfit hx).X k hk) (fun q => q))
  refine node_lit (t := 83) (e := 93) (len := 1) (sz := 16) (stC []) #[(0, .agg (stF z16).toArray)] (by intros; kernel_rfl) (fun w => lit_sta z16 w) rfl (by unfold maxLen; decide) (by intros; kernel_rfl) (by kernel_rfl) (by kernel_rfl) (by intros; kernel_rfl) ?_
  intro la hla
  refine node_kmake (by intros; kernel_rfl) (by kernel_rfl) (by kernel_rfl) (by intros; kernel_rfl) ?_
  intro d1 ho1 hd1
  refine node_kmake (by intros; kernel_rfl) (by kernel_rfl) (by kernel_rfl) (by intros; kernel_rfl) ?_
  intro d2 ho2 hd2
  obtain ⟨I0, eI0⟩ : ∃ I, I = firstI xs := ⟨_, rfl⟩
  have hI0m : I0.mem = xs := by rw [eI0]; rfl
  have hI0t : I0.tb = [] := by rw [eI0]; rfl
  have hI0b : ImBig I0 := by rw [eI0]; exact firstI_big HX0.fits hxl
  refine node_im (V := id) (I := I0) (fun _ => #[.slice ax xs.length cx]) (fun x1 y1 x2 y2 => ⟨imI I0, [], [], [I0.mem.length, y1, I0.tb.length, y2], [x1, x2]⟩) (by intros; kernel_rfl) (fun ids w2 hp hf => by
    rw [eI0]
    exact xfirst_any ax cx xs w2 (Ints.of_cells (by omega) HX0.fits (cl_stay HX0.cells fun k hk => hf.chg.block k hk (fun q => q))) (by omega)) (by intros; kernel_rfl) (by kernel_rfl) (by kernel_rfl) (by intros; kernel_rfl) (fun _ _ _ _ => oneNil) ?_
  intro x1 y1 x2 y2 es0 hm0 hdj0 hsm0 had0 hn0
  have hown0 : MdOwn w (imX I0 x1 x2 y2 es0) la 1 d1 d2 := ⟨fun k h1 h2 => ⟨(hla k h1 h2).1, fun q => hd1 (.inr ⟨h1, by rw [h2, q]⟩), fun q => hd2 (.inl (.inr ⟨h1, by rw [h2, q]⟩)), fun q => (hn0 k q).2 (.inl (.inl (.inr ⟨h1, h2⟩)))⟩, ⟨ho1, fun q => (hn0 _ q).2 (.inl (.inr rfl))⟩, ⟨ho2, fun q => (hn0 _ q).2 (.inr rfl)⟩, fun q => hd2 (.inr q.symm)⟩
  refine ⟨JpI w hs d1 d2 T, fun ids w2 hp hf => ⟨(imR I0 x1 x2 es0).and (mdX la 1 d1 d2 []), hs.length, ⟨⟨(imR_of hf.x.2).1, ⟨⟨hf.x.1.1.1.2, hf.x.1.1.2⟩, hf.x.1.2⟩⟩, fun k hk => hf.sep k (hk.elim (fun z => .inr ((imR_of hf.x.2).2 k z)) (fun z => .inl (z.elim (fun z => z.elim (fun z => .inl (.inl (.inr z))) (fun z => .inl (.inr z))) .inr)))⟩, 0, I0, x1, y1, x2, y2, es0, [], la, 1, rfl, Nat.zero_le _, hI0b, hm0, (fun p hp => by cases hp), Nat.zero_le _, by rw [eT, eI0]; rfl, hown0.mono (fun k hk => .inl ((imR_of hf.x.2).2 k hk)), row_isS hf.x.1.1.1.2 (by simp [stC, stL, stF, rgs]), by kernel_rfl, rfl⟩, ?_⟩
  rintro vs hx' n hcnt ⟨k, I, a1, c1, a2, c2, es, ps, sa, sc, rfl, hk, hB, hes, hps, hpl, hT, hown, hsa, rfl, rfl⟩
  have hesl : es.length = I.tb.length := by rw [← hes, List.length_map]
  have btb := hB.tb
  have bmem := hB.len
  refine holds_env (ρ' := ⟨imI I0 ++ [(k : Int)] ++ imI I, [], [.map (some d1), .map (some d2), .map (some d1), .map (some d2)], [xs.length, cx, hs.length, ch, 1, 1, I0.mem.length, y1, I0.tb.length, y2, ps.length + 1, sc, I.mem.length, c1, I.tb.length, c2], [ax, ah, la, x1, x2, sa, a1, a2]⟩) (by kernel_rfl) ?_
  refine br_D (p := (k : Int) < (hs.length : Int)) (by kernel_rfl) (fun hlt => ?B) (fun hlt => ?E)
  case E =>
    have hke : k = hs.length := by omega
    have hT2 : T = (ps, 0) := by rw [← hT, hke, List.drop_length]; rfl
    rw [hT2]
    exact pl_done hown (by intros; kernel_rfl)
  have hlt : k < hs.length := by omega
  obtain ⟨x, hx⟩ : ∃ b, hs[k]? = some b := ⟨_, List.getElem?_eq_getElem hlt⟩
  have hxm := List.mem_of_getElem? hx
  have hxv := hfit x hxm
  obtain ⟨s1, g1⟩ := vo_part HH hx 0 (voC x) (fun j u hj => by rw [Nat.zero_add]; exact hj) (by simp [voC])
  have one4 : ∀ v, v ∈ ([.map (some d1), .map (some d2), .map (some d1), .map (some d2)] : List Value) → v.oneCell' = true := fun v hv => by
    simp only [List.mem_cons, List.not_mem_nil, or_false] at hv
    rcases hv with rfl | rfl | rfl | rfl <;> rfl
  have one6 : ∀ v, v ∈ ([.map (some d1), .map (some d2), .map (some d1), .map (some d2)] ++ [.map (some d1), .map (some d2)] : List Value) → v.oneCell' = true := fun v hv => by
    simp only [List.mem_append, List.mem_cons, List.not_mem_nil, or_false] at hv
    rcases hv with (rfl | rfl | rfl | rfl) | rfl | rfl <;> rfl
  refine need_k (ah.isSome = true ∧ (0 : Int) ≤ (k : Int) ∧ (k : Int) < (hs.length : Int)) (by kernel_rfl) ⟨s1, by omega, by omega⟩ ?_
  refine node_ld0 (k := ⟨37, 0, 4, 16, 8⟩) ⟨[x.s, x.r, x.n, x.v.v.k], [], [], [x.v.v.cs.length, x.v.c1, x.v.v.ns.length, x.v.c2], [x.v.a1, x.v.a2]⟩ (.pointer (some (((ah.getD ⟨0, 0, none⟩).add (k * 6)).add 0))) (voC x) (by intros; kernel_rfl) (by intros; kernel_rfl) g1 ⟨by kernel_rfl, one4⟩ (by kernel_rfl) oneNil ?_
  obtain ⟨R, eR⟩ : ∃ R, R = execV I x.s x.v.v := ⟨_, rfl⟩
  have hstep : T = if R.e ≠ 0 then (ps, R.e) else playV R.i (addAll ps (x.v.v.cs.zip R.an)) (vlsOf (hs.drop (k + 1))) := by rw [← hT, drop_vo hx, eR]; rfl
  obtain ⟨bR, bRa, bRo⟩ := exec_big hB x.s x.v.v hxv.n
  rw [← eR] at bR bRa bRo
  have hz0 : R.e = 0 → valE x.v.v = 0 ∧ R.an.length = x.v.v.cs.length := fun h => ⟨(exec_zero (by rw [← eR]; exact h)).2.2.2.2, by rw [eR]; exact exec_an (by rw [← eR]; exact h)⟩
  have hwk : IntKind.i64.wrap ((k : Int) + 1) = ((k + 1 : Nat) : Int) := by rw [wrap_i64 (by omega)]; omega
  refine br_B (x.v.v.k != 1) (by kernel_rfl) (fun hkd => ?_) (fun hkd => ?_)
  all_goals
    refine node_ex (R := R) (fun _ => #[imV I a1 c1 a2 c2, .int .i64 x.s, x.v.val]) (by intros; kernel_rfl) (fun ids w2 hp hf => eR ▸ xexec_any I a1 c1 a2 c2 es x.s x.v.v x.v.a1 x.v.c1 x.v.a2 x.v.c2 w2 (hB.at_ hes hf.x.1) (by omega) (by omega) (keepV hxm hf)) (by intros; kernel_rfl) (by kernel_rfl) (by kernel_rfl) (by intros; kernel_rfl) ?_
    intro q1 r1 q2 r2 es2 oa oc hm2 hdj2 hsm2 hso2 hn2
    refine holds_eq (HX.and_right_comm _ _ _) ?_
    have hown2 : MdOwn w ((imR I a1 a2 es).and (exX R q1 q2 r2 es2 oa)) sa sc d1 d2 := hown.mono fun j hj => hj.elim .inl fun z => .inr ⟨(hn2 j z).1, fun q => (hn2 j z).2 (.inr (q.elim (fun q => .inl (.inr q)) fun q => q.elim .inr fun q => .inl (.inl q)))⟩
    have hZ : ∀ {w2 : World}, ((imR I a1 a2 es).and (exX R q1 q2 r2 es2 oa)).X w2 → (imR R.i q1 q2 es2).X w2 ∧ ∀ j, (imR R.i q1 q2 es2).F j → ((imR I a1 a2 es).and (exX R q1 q2 r2 es2 oa)).F j := fun h => ⟨(imR_of h.2.1).1, fun j hj => .inr (.inl ((imR_of h.2.1).2 j hj))⟩
    obtain ⟨Z, eZ⟩ : ∃ Z, Z = (imR I a1 a2 es).and (exX R q1 q2 r2 es2 oa) := ⟨_, rfl⟩
    have hZo : ∀ {w2 : World}, Z.X w2 → Cells w2 oa (ancells R.an) := fun h => by rw [eZ] at h; exact h.2.2
    rw [← eZ] at hown2 hZ ⊢
    refine holds_env (ρ' := ⟨imI I0 ++ [(k : Int)] ++ imI I ++ [x.s, x.r, x.n, x.v.v.k] ++ imI R.i ++ [R.e], [], [.map (some d1), .map (some d2), .map (some d1), .map (some d2)], [xs.length, cx, hs.length, ch, 1, 1, I0.mem.length, y1, I0.tb.length, y2, ps.length + 1, sc, I.mem.length, c1, I.tb.length, c2] ++ [x.v.v.cs.length, x.v.c1, x.v.v.ns.length, x.v.c2, R.i.mem.length, r1, R.i.tb.length, r2, R.an.length, oc], [ax, ah, la, x1, x2, sa, a1, a2] ++ [x.v.a1, x.v.a2, q1, q2, oa]⟩) (by kernel_rfl) ?_
    refine br_B (R.e != 0) (by kernel_rfl) (fun he => ?_) (fun he => ?_)
    · rw [if_pos (by simpa using he)] at hstep
      rw [hstep]
      exact pl_done hown2 (by intros; kernel_rfl)
    have he : R.e = 0 := by simpa using he
    obtain ⟨hv0, hal⟩ := hz0 he
    rw [if_neg (fun q => q he)] at hstep
  · have hcs : x.v.v.cs = [] := by
      rcases valE_zero hv0 with q | q | q
      · exact q.2.1
      · exact q.2.1
      · rw [q.1] at hkd; simp at hkd
    rw [hcs] at hstep
    exact again_W ⟨IntKind.i64.wrap ((k : Int) + 1) :: imI R.i, [], [.map (some d1), .map (some d2)], [ps.length + 1, sc, R.i.mem.length, r1, R.i.tb.length, r2], [sa, q1, q2]⟩ rfl (by intros; kernel_rfl) ((imR R.i q1 q2 es2).and (mdX sa sc d1 d2 ps)) (fun w2 ids hf => ⟨⟨⟨(hZ hf.x.1).1, hf.x.2⟩, fun j hj => hf.sep j (hj.elim (fun z => .inl ((hZ hf.x.1).2 j z)) .inr)⟩, hs.length - (k + 1), by omega, k + 1, R.i, q1, r1, q2, r2, es2, ps, sa, sc, rfl, by omega, bR, hm2, hps, by omega, hstep.symm, hown2.mono (fun j hj => .inl ((hZ hf.x.1).2 j hj)), hsa, by rw [hwk], rfl⟩)
  have hc8 : x.v.v.cs.length ≤ 8 := by
    rcases valE_zero hv0 with q | q | q
    · rw [q.2.1]; decide
    · rw [q.2.1]; decide
    · exact q.2.1
  obtain ⟨l, el⟩ : ∃ l, l = x.v.v.cs.zip R.an := ⟨_, rfl⟩
  have hll : l.length = x.v.v.cs.length := by rw [el, List.length_zip, hal, Nat.min_self]
  rw [← el] at hstep
  refine ⟨JqI w Z x.v.v.cs.length d1 d2 ps.length l (addAll ps l), fun ids w2 hp hf => ⟨_, x.v.v.cs.length, ⟨hf.x, hf.sep⟩, 0, ps, sa, sc, rfl, Nat.zero_le _, hps, Nat.le_refl _, rfl, hown2, hsa, by kernel_rfl, rfl⟩, ?_⟩
  rintro vs hx' n2 hcnt2 ⟨j, ps2, sb, sd, rfl, hj, hps2, hpl2, hT2, hown3, hsb, rfl, rfl⟩
  refine holds_env (ρ' := ⟨imI I0 ++ [(k : Int)] ++ imI I ++ [x.s, x.r, x.n, x.v.v.k] ++ imI R.i ++ [R.e] ++ [(j : Int)], [], [.map (some d1), .map (some d2), .map (some d1), .map (some d2)] ++ [.map (some d1), .map (some d2)], [xs.length, cx, hs.length, ch, 1, 1, I0.mem.length, y1, I0.tb.length, y2, ps.length + 1, sc, I.mem.length, c1, I.tb.length, c2] ++ [x.v.v.cs.length, x.v.c1, x.v.v.ns.length, x.v.c2, R.i.mem.length, r1, R.i.tb.length, r2, R.an.length, oc] ++ [ps2.length + 1, sd], [ax, ah, la, x1, x2, sa, a1, a2] ++ [x.v.a1, x.v.a2, q1, q2, oa] ++ [sb]⟩) (by kernel_rfl) ?_
  have hwj : IntKind.i64.wrap ((j : Int) + 1) = ((j + 1 : Nat) : Int) := by rw [wrap_i64 (by omega)]; omega
  refine br_D (p := (j : Int) < (x.v.v.cs.length : Int)) (by kernel_rfl) (fun hjl => ?B2) (fun hjl => ?E2)
  case E2 =>
    have hje : j = l.length := by omega
    have hT3 : ps2 = addAll ps l := by rw [← hT2, hje, List.drop_length]; rfl
    rw [← hT3] at hstep
    exact again_W ⟨IntKind.i64.wrap ((k : Int) + 1) :: imI R.i, [], [.map (some d1), .map (some d2)], [ps2.length + 1, sd, R.i.mem.length, r1, R.i.tb.length, r2], [sb, q1, q2]⟩ rfl (by intros; kernel_rfl) ((imR R.i q1 q2 es2).and (mdX sb sd d1 d2 ps2)) (fun w2 ids hf => ⟨⟨⟨(hZ hf.x.1).1, hf.x.2⟩, fun j hj => hf.sep j (hj.elim (fun z => .inl ((hZ hf.x.1).2 j z)) .inr)⟩, hs.length - (k + 1), by omega, k + 1, R.i, q1, r1, q2, r2, es2, ps2, sb, sd, rfl, by omega, bR, hm2, hps2, by omega, hstep.symm, hown3.mono (fun j hj => .inl ((hZ hf.x.1).2 j hj)), hsb, by rw [hwk], rfl⟩)
  have hjl : j < x.v.v.cs.length := by omega
  obtain ⟨c, hc⟩ : ∃ c, x.v.v.cs[j]? = some c := ⟨_, List.getElem?_eq_getElem hjl⟩
  obtain ⟨a, ha⟩ : ∃ a, R.an[j]? = some a := ⟨_, List.getElem?_eq_getElem (by omega)⟩
  have hlj : l[j]? = some (c, a) := by rw [el]; exact List.getElem?_zip_eq_some.2 ⟨hc, ha⟩
  have hce := c_elt (voX_at HH hfit hxm).c hc
  have hcv := opB_of (cs_ok hv0 c (List.mem_of_getElem? hc))
  have hky : KyFit (c.sess, c.seq) := ⟨⟨by show _ ≤ c.sess; omega, by show c.sess ≤ _; omega⟩, by show _ ≤ c.seq; omega, by show c.seq ≤ _; omega⟩
  refine need_k (x.v.a1.isSome = true ∧ (0 : Int) ≤ (j : Int) ∧ (j : Int) < (x.v.v.cs.length : Int)) (by kernel_rfl) ⟨hce.1, by omega, by omega⟩ ?_
  refine node_ld0 (k := ⟨61, 0, 6, 28, 14⟩) ⟨c.is, [], [], [], []⟩ (.pointer (some (((x.v.a1.getD ⟨0, 0, none⟩).add (j * 8)).add 0))) c.cells (by intros; kernel_rfl) (by intros; kernel_rfl) (hce.2 _ (fun q => q)) ⟨by kernel_rfl, one6⟩ (by kernel_rfl) oneNil ?_
  refine node_klook (kt := 91) (et := 3) (z := .int .i64 0) ⟨[(findP (c.sess, c.seq) ps2 : Int)], [decide (findP (c.sess, c.seq) ps2 ≠ 0)], [], [], []⟩ d1 (atM ps2) (c.sess, c.seq) kyOk hky (fun w2 hX => hX.2.1.2) (by intros; kernel_rfl) (by intros; kernel_rfl) (by kernel_rfl) (fun w2 => by kernel_rfl) (fun ids => by rw [klk_at0, klk_at1]; kernel_rfl) (by kernel_rfl) (by kernel_rfl) (by kernel_rfl) oneNil ?_
  refine need_k (oa.isSome = true ∧ (0 : Int) ≤ (j : Int) ∧ (j : Int) < (R.an.length : Int)) (by kernel_rfl) ⟨hso2 (fun q => by rw [q] at ha; simp at ha), by omega, by omega⟩ ?_
  refine node_ldk ⟨[a.k, a.re, a.im], [], [], [], []⟩ (fun _ => .pointer (some (((oa.getD ⟨0, 0, none⟩).add (j * 5)).add 2))) [.int .i64 a.k, .int .i64 a.re, .int .i64 a.im] (by intros; kernel_rfl) (by intros; kernel_rfl) (fun ids w2 hp hf => (flat_part an_len (hZo hf.x.1) ha (o := 2) [.int .i64 a.k, .int .i64 a.re, .int .i64 a.im] (fun j u hj => by rcases j with _ | _ | _ | j; exact hj; exact hj; exact hj; cases hj) (by simp)).2 _ (fun q => q)) (by kernel_rfl) oneNil ?_
  have skip : addP ps2 (c, a) = ps2 → addAll ps2 (l.drop (j + 1)) = addAll ps l := fun h => by rw [← hT2, addAll_step ps2 hlj, h]
  refine br_B (decide (findP (c.sess, c.seq) ps2 ≠ 0)) (by kernel_rfl) (fun hf => ?R1) (fun hf => ?R2)
  case R1 =>
    have hf : findP (c.sess, c.seq) ps2 ≠ 0 := by simpa using hf
    exact again_V ⟨[IntKind.i64.wrap ((j : Int) + 1)], [], [.map (some d1), .map (some d2)], [ps2.length + 1, sd], [sb]⟩ rfl (by intros; kernel_rfl) _ (fun w2 ids hf => ⟨hf.x, hf.sep⟩) ⟨x.v.v.cs.length - (j + 1), by omega, j + 1, ps2, sb, sd, rfl, by omega, hps2, by omega, skip (by unfold addP; rw [if_pos (.inl hf)]), hown3, hsb, by rw [hwj], rfl⟩
  have hf0 : findP (c.sess, c.seq) ps2 = 0 := by simpa using hf
  refine br_D (p := a.k > 3) (by kernel_rfl) (fun hk3 => ?R3) (fun hk3 => ?R4)
  case R3 =>
    exact again_V ⟨[IntKind.i64.wrap ((j : Int) + 1)], [], [.map (some d1), .map (some d2)], [ps2.length + 1, sd], [sb]⟩ rfl (by intros; kernel_rfl) _ (fun w2 ids hf => ⟨hf.x, hf.sep⟩) ⟨x.v.v.cs.length - (j + 1), by omega, j + 1, ps2, sb, sd, rfl, by omega, hps2, by omega, skip (by unfold addP; rw [if_pos (.inr hk3)]), hown3, hsb, by rw [hwj], rfl⟩
  have hw1 : IntKind.i64.wrap (((ps2.length + 1 : Nat) : Int) - 1) = ((ps2.length : Nat) : Int) := by rw [wrap_i64 (by omega)]; omega
  obtain ⟨p, ep⟩ : ∃ p, p = applyM (rgA ps2 ps2.length) c.op := ⟨_, rfl⟩
  have hrl := rgA_len hps2 ps2.length
  have hpl : p.1.length = 16 := by rw [ep]; exact (applyM_len _ _).trans hrl
  have hrr : (stF (rgA ps2 ps2.length)) = (rgA ps2 ps2.length).map (Value.int .i64) := by unfold stF; rw [rgs_of hrl]
  refine need_k (sb.isSome = true ∧ (0 : Int) ≤ IntKind.i64.wrap (((ps2.length + 1 : Nat) : Int) - 1) ∧ IntKind.i64.wrap (((ps2.length + 1 : Nat) : Int) - 1) < ((ps2.length + 1 : Nat) : Int)) (by kernel_rfl) ⟨hsb, by rw [hw1]; omega, by rw [hw1]; omega⟩ ?_
  have hap : ∀ w2, Calls Try.prog 31 #[.agg (stF (rgA ps2 ps2.length)).toArray, .agg c.op.cells.toArray] w2 (PureAt w2 (resV p)) := fun w2 => by rw [ep, hrr]; exact apply_any _ hrl c.op w2
  repeat' refine par_i ?_ ?_
  all_goals
    refine node_ldk ⟨rgs (rgA ps2 ps2.length), [], [], [], []⟩ (fun _ => .pointer (some (((sb.getD ⟨0, 0, none⟩).add ((IntKind.i64.wrap (((ps2.length + 1 : Nat) : Int) - 1)).toNat * 16)).add 0))) (stF (rgA ps2 ps2.length)) (by intros; kernel_rfl) (by intros; kernel_rfl) (fun ids w2 hp hf => by rw [hw1]; exact (st_elt (rw_cells hf.x.2.1.1) (Nat.le_refl _)).2) (by kernel_rfl) oneNil ?_
    repeat' refine par_i ?_ ?_
  all_goals
    refine node_P ⟨rgs p.1 ++ [p.2.1, p.2.2.1, p.2.2.2], [], [], [], []⟩ #[.agg (stF (rgA ps2 ps2.length)).toArray, .agg c.op.cells.toArray] (resV p) (by intros; kernel_rfl) (fun ids => Eq.trans (b := resV (rgs p.1, p.2)) (by kernel_rfl) (by unfold resV; rw [rgs_of hpl])) (by kernel_rfl) (by kernel_rfl) (by kernel_rfl) oneNil (fun ids w2 hp hf => hap w2) ?_
    repeat' refine par_i ?_ ?_
  all_goals
    refine holds_env (ρ' := ⟨imI I0 ++ [(k : Int)] ++ imI I ++ [x.s, x.r, x.n, x.v.v.k] ++ imI R.i ++ [R.e] ++ [(j : Int)] ++ c.is ++ [(findP (c.sess, c.seq) ps2 : Int), a.k, a.re, a.im] ++ rgs (rgA ps2 ps2.length) ++ rgs p.1 ++ [p.2.1, p.2.2.1, p.2.2.2], [decide (findP (c.sess, c.seq) ps2 ≠ 0)], [.map (some d1), .map (some d2), .map (some d1), .map (some d2)] ++ [.map (some d1), .map (some d2)], [xs.length, cx, hs.length, ch, 1, 1, I0.mem.length, y1, I0.tb.length, y2, ps.length + 1, sc, I.mem.length, c1, I.tb.length, c2] ++ [x.v.v.cs.length, x.v.c1, x.v.v.ns.length, x.v.c2, R.i.mem.length, r1, R.i.tb.length, r2, R.an.length, oc] ++ [ps2.length + 1, sd], [ax, ah, la, x1, x2, sa, a1, a2] ++ [x.v.a1, x.v.a2, q1, q2, oa] ++ [sb]⟩) (by kernel_rfl) ?_
    first | exact (jtail p ep (by omega) hf0 hk3 hps2 hlj hpl2 hjl hc8 hT2 hown3 hky rfl).1 | exact (jtail p ep (by omega) hf0 hk3 hps2 hlj hpl2 hjl hc8 hT2 hown3 hky rfl).2
end Go.Proofs.Ytbedoemdjlollaa

namespace Go.Proofs.Ytbedoemdjlollaa
open Go Go.ChangeShapes Go.WideShapes Go.ChangeAt Go.RowKit Go.Syn Go.Eng
set_option linter.unusedVariables false
set_option linter.unusedSimpArgs false
set_option maxRecDepth 100000
structure Ev where
  k : Int
  sess : Int
  seq : Int
  op : OpD
  rk : Int
  rre : Int
  rim : Int
  node : Int
def Ev.key (e : Ev) : Ky := (e.sess, e.seq)
def Ev.res (e : Ev) : Int × Int × Int := (e.rk, e.rre, e.rim)
def Ev.is (e : Ev) : List Int := [e.k, e.sess, e.seq, e.op.kind, e.op.reg, e.op.tg, e.op.re, e.op.im, e.rk, e.rre, e.rim, e.node]
def Ev.cells (e : Ev) : List Value := e.is.map (Value.int .i64)
def evcs (es : List Ev) : List Value := es.flatMap Ev.cells
theorem ev_len (e : Ev) : e.cells.length = 12 := rfl
def lowOf (x : Ky) : List (Ev × Nat) → Option Nat
  | [] => none
  | p :: r => match lowOf x r with
    | some d => some d
    | none => if p.1.k = 1 ∧ p.1.key = x then some p.2 else none
theorem lowOf_app (x : Ky) (p : Ev × Nat) : ∀ l : List (Ev × Nat), lowOf x (l ++ [p]) = if p.1.k = 1 ∧ p.1.key = x then some p.2 else lowOf x l
  | [] => by unfold lowOf; simp [lowOf]
  | q :: r => by
    rw [List.cons_append]
    unfold lowOf
    rw [lowOf_app x p r]
    by_cases h : p.1.k = 1 ∧ p.1.key = x
    · rw [if_pos h]; simp [h]
    · rw [if_neg h]; simp [h]
def srchV (ps : List Pc) (o : OpD) (r : Int × Int × Int) : Nat → Nat → Option Nat
  | 0, _ => none
  | n + 1, q => if (applyM (rgA ps q) o).2 = r then some q else srchV ps o r n (q + 1)
def oneV (ps : List Pc) (e : Ev) (frm : Nat) (loose : Bool) : Nat × Int :=
  if frm < findP e.key ps ∧ rsA ps (findP e.key ps) = e.res then (findP e.key ps, 0)
  else if e.op.kind = 1 then
    (if loose = true then (frm, 0) else match srchV ps e.op e.res (ps.length + 1 - frm) frm with
      | some q => (q, 0)
      | none => (0, 63))
  else if findP e.key ps = 0 ∨ rsA ps (findP e.key ps) ≠ e.res then (0, 63) else (0, 60)
def chkV (ps : List Pc) (loose : Bool) : List (Ev × Nat) → Nat → List Ev → Int
  | _, _, [] => 0
  | seen, done, e :: r =>
    if e.k = 2 then
      match lowOf e.key seen with
      | none => 41
      | some frm =>
        if 3 < e.rk then (if findP e.key ps ≠ 0 then 63 else chkV ps loose (seen ++ [(e, done)]) done r)
        else if (oneV ps e frm loose).2 ≠ 0 then (oneV ps e frm loose).2 else chkV ps loose (seen ++ [(e, done)]) (max done (oneV ps e frm loose).1) r
    else chkV ps loose (seen ++ [(e, done)]) done r
def checkV (xs : List Int) (hs : List (Vo Vl)) (es : List Ev) (loose : Bool) : Int :=
  if (playV (firstI xs) [] hs).2 ≠ 0 then (playV (firstI xs) [] hs).2 else chkV (playV (firstI xs) [] hs).1 loose [] 0 es
theorem playV_ok : ∀ (hs : List (Vo Vl)) (I : Im) (ps : List Pc), PsOk ps → PsOk (playV I ps hs).1 ∧ (playV I ps hs).1.length ≤ ps.length + 8 * hs.length
  | [], I, ps, h => ⟨h, by simp [playV]⟩
  | x :: r, I, ps, h => by
    unfold playV
    by_cases he : (execV I x.s x.v).e ≠ 0
    · rw [if_pos he]; exact ⟨h, by simp⟩
    · rw [if_neg he]
      have he : (execV I x.s x.v).e = 0 := by simpa using he
      have hv := (exec_zero he).2.2.2.2
      have h8 : x.v.cs.length ≤ 8 := by
        rcases valE_zero hv with q | q | q
        · rw [q.2.1]; decide
        · rw [q.2.1]; decide
        · exact q.2.1
      obtain ⟨h1, h2⟩ := playV_ok r (execV I x.s x.v).i (addAll ps (x.v.cs.zip (execV I x.s x.v).an)) (addAll_ok h _)
      have h3 := addAll_len ps (x.v.cs.zip (execV I x.s x.v).an)
      rw [List.length_zip] at h3
      refine ⟨h1, ?_⟩
      rw [List.length_cons]
      omega
theorem srch_le {ps : List Pc} {o : OpD} {r : Int × Int × Int} : ∀ {n q q' : Nat}, srchV ps o r n q = some q' → q ≤ q' ∧ q' < q + n
  | 0, q, q', h => by cases h
  | n + 1, q, q', h => by
    unfold srchV at h
    split at h
    · cases h; omega
    · have := srch_le h; omega
theorem oneV_le {ps : List Pc} {e : Ev} {frm : Nat} {loose : Bool} (h : frm ≤ ps.length) : (oneV ps e frm loose).1 ≤ ps.length := by
  unfold oneV
  split
  · exact findP_le _ _
  · split
    · split
      · exact h
      · split
        · rename_i q hq
          have := srch_le hq
          show q ≤ _
          omega
        · exact Nat.zero_le _
    · split <;> exact Nat.zero_le _
theorem klk_put (m : List (Ky × Value)) (k : Ky) (v : Value) (j : Ky) : klk (kput m k v) j = if j = k then some v else klk m j := by
  unfold kput
  cases h : klk m k with
  | none =>
    simp only [Option.isSome_none, Bool.false_eq_true, if_false]
    induction m with
    | nil =>
      rw [List.nil_append, klk_cons]
      by_cases e : j = k
      · rw [if_pos e, if_pos e.symm]
      · rw [if_neg e, if_neg fun q => e q.symm]
    | cons p m ih =>
      rw [klk_cons] at h
      split at h
      · cases h
      rename_i hpk
      rw [List.cons_append, klk_cons, klk_cons, ih h]
      by_cases e : p.1 = j
      · rw [if_pos e, if_pos e, if_neg (by rintro rfl; exact hpk e)]
      · rw [if_neg e, if_neg e]
  | some x =>
    simp only [Option.isSome_some, if_true]
    by_cases e : j = k
    · subst e
      rw [if_pos rfl]
      induction m with
      | nil => cases h
      | cons p m ih =>
        rw [klk_cons] at h
        rw [List.map_cons, klk_cons]
        split at h
        · rename_i e; rw [if_pos e]; simp
        · rename_i e; rw [if_neg e, if_neg e]; exact ih h
    · rw [if_neg e]
      clear h
      induction m with
      | nil => rfl
      | cons p m ih =>
        rw [List.map_cons, klk_cons, klk_cons, ih]
        by_cases q : p.1 = k
        · rw [if_pos q, if_neg (show ¬ k = j from fun r => e r.symm), if_neg (by rw [q]; exact fun r => e r.symm)]
        · rw [if_neg q]
section
variable {C : Cfg} {ρ : Env} {pre : List Nat} {hx : HX} {L : Stack} {m m' : Mem} {args : List SV} {r : SV} {t : Tree}
theorem node_play {f : Nat} {R : List Pc × Int} (AS : List Nat → Array Value) (hargs : ∀ ids, (args.map (SV.den ρ ids)).toArray = AS ids) (hcall : ∀ ids w, pre <+: ids → Facts C m ρ ids hx w → Calls C.P f (AS ids) w (PlNew w R))
    (hr : ∀ sa sc b1 b2 ids, r.den (ρ.add ⟨[R.2], [], [.map (some b1), .map (some b2)], [R.1.length + 1, sc], [sa]⟩) ids = .tuple #[mdV sa sc b1 b2 R.1, .int .i64 R.2]) (hhp : m'.hp = m.hp) (hfit : hpFits m.c m.hp.length m.hp = true)
    (hc : ∀ sa sc b1 b2, (ρ.add ⟨[R.2], [], [.map (some b1), .map (some b2)], [R.1.length + 1, sc], [sa]⟩).cnt = m'.c)
    (h : ∀ sa sc b1 b2, sa.isSome = true → (∀ k, (mdX sa sc b1 b2 R.1).F k → C.W.heap.size ≤ k ∧ ¬ hx.F k) → t.holds C (ρ.add ⟨[R.2], [], [.map (some b1), .map (some b2)], [R.1.length + 1, sc], [sa]⟩) pre (hx.and (mdX sa sc b1 b2 R.1)) L) : (Tree.call f args m r m' t).holds C ρ pre hx L := by
  refine node_out AS (fun u hy => ∃ sa sc b1 b2, sa.isSome = true ∧ u = ⟨[R.2], [], [.map (some b1), .map (some b2)], [R.1.length + 1, sc], [sa]⟩ ∧ hy = mdX sa sc b1 b2 R.1) hargs (fun ids w hp hf => ?_) hhp hfit ?_ ?_
  · refine (hcall ids w hp hf).mono ?_
    rintro e w' ⟨sa, sc, b1, b2, rfl, hX, hge, hb⟩
    exact ⟨_, _, ⟨sa, sc, b1, b2, st_some hX.1.1, rfl, rfl⟩, by rw [hr], hX, hge, hb⟩
  · rintro u hy ⟨sa, sc, b1, b2, _, rfl, rfl⟩
    exact ⟨hc _ _ _ _, fun v hv => by
      simp only [List.mem_cons, List.not_mem_nil, or_false] at hv
      rcases hv with rfl | rfl <;> rfl⟩
  · rintro u hy ⟨sa, sc, b1, b2, h1, rfl, rfl⟩ hfr
    exact h sa sc b1 b2 h1 hfr
end
end Go.Proofs.Ytbedoemdjlollaa

namespace Go.Proofs.Ytbedoemdjlollaa
open Go Go.ChangeShapes Go.WideShapes Go.ChangeAt Go.RowKit Go.Syn Go.Eng
set_option linter.unusedVariables false
set_option linter.unusedSimpArgs false
set_option maxRecDepth 100000
theorem low_put {low : List (Ky × Value)} {seen : List (Ev × Nat)} (h : ∀ x, klk low x = (lowOf x seen).map fun d => .int .i64 (d : Int)) (e : Ev) (d : Nat) (he : e.k = 1) : ∀ x, klk (kput low e.key (.int .i64 (d : Int))) x = (lowOf x (seen ++ [(e, d)])).map fun d => .int .i64 (d : Int) := fun x => by
  rw [klk_put, lowOf_app]
  by_cases hx : x = e.key
  · rw [if_pos hx, if_pos ⟨he, hx.symm⟩]; rfl
  · rw [if_neg hx, if_neg fun q => hx q.2.symm]; exact h x
theorem low_skip {low : List (Ky × Value)} {seen : List (Ev × Nat)} (h : ∀ x, klk low x = (lowOf x seen).map fun d => .int .i64 (d : Int)) (e : Ev) (d : Nat) (he : e.k ≠ 1) : ∀ x, klk low x = (lowOf x (seen ++ [(e, d)])).map fun d => .int .i64 (d : Int) := fun x => by
  rw [lowOf_app, if_neg fun q => he q.1]; exact h x
def SeenOk (n : Nat) (seen : List (Ev × Nat)) : Prop := ∀ x d, lowOf x seen = some d → d ≤ n
theorem SeenOk.snoc {n : Nat} {seen : List (Ev × Nat)} (h : SeenOk n seen) (e : Ev) {d : Nat} (hd : d ≤ n) : SeenOk n (seen ++ [(e, d)]) := fun x d2 h2 => by
  rw [lowOf_app] at h2
  split at h2
  · cases h2; exact hd
  · exact h x d2 h2
theorem srch_s (ps : List Pc) (o : OpD) (r : Int × Int × Int) (n q : Nat) : srchV ps o r (n + 1) q = if (applyM (rgA ps q) o).2 = r then some q else srchV ps o r n (q + 1) := rfl
def CkI (evs : List Ev) (ps : List Pc) (loose : Bool) (MD : HX) (bl : Nat) (E : Int) (vs : Vals) (hx : HX) (n : Nat) : Prop := ∃ (i : Nat) (seen : List (Ev × Nat)) (done : Nat) (low : List (Ky × Value)), n = evs.length - i ∧ i ≤ evs.length ∧ (∀ x, klk low x = (lowOf x seen).map fun d => .int .i64 (d : Int)) ∧ SeenOk ps.length seen ∧ done ≤ ps.length ∧ chkV ps loose seen done (evs.drop i) = E ∧
  vs = ⟨[(i : Int), (done : Int)], [loose], [], [], []⟩ ∧ MD.and (HX.kmap bl low) = hx
theorem res_and (a b c x y z : Int) : ((a == x) && ((b == y) && (c == z))) = decide ((a, b, c) = (x, y, z)) := by
  rw [Bool.eq_iff_iff]
  simp only [Bool.and_eq_true, beq_iff_eq, decide_eq_true_eq, Prod.mk.injEq]
set_option maxHeartbeats 4000000 in
theorem jcheck_any (ax : Option Addr) (cx : Nat) (xs : List Int) (ah : Option Addr) (ch : Nat) (hs : List (Vo Pv)) (ae : Option Addr) (ce : Nat) (evs : List Ev) (loose : Bool) (w : World) (HX0 : Ints w ax xs) (hxl : xs.length * 8 ≤ 140737488351232) (HH : (voX ah hs).X w) (hfit : ∀ x ∈ hs, VlFit x.v.v) (hl : hs.length ≤ 1048576)
    (HE : Cells w ae (evcs evs)) (hE : ∀ e ∈ evs, KyFit e.key) (hel : evs.length ≤ 4611686018427387904) :
    Calls Try.prog 14 #[.slice ax xs.length cx, .slice ah hs.length ch, .slice ae evs.length ce, .bool loose] w (PureAt w (.int .i64 (checkV xs (vlsOf hs) evs loose))) := by
  refine calls_at (tab_ok _) Try.func14 rfl tJCheck (ρ := ⟨[], [loose], [], [xs.length, cx, hs.length, ch, evs.length, ce], [ax, ah, ae]⟩) (ids := []) (hx := HX.nil) rfl (Facts.initP rfl oneNil) ?_
  obtain ⟨P, eP⟩ : ∃ P, P = playV (firstI xs) [] (vlsOf hs) := ⟨_, rfl⟩
  have hck : checkV xs (vlsOf hs) evs loose = if P.2 ≠ 0 then P.2 else chkV P.1 loose [] 0 evs := by rw [eP]; rfl
  obtain ⟨hps, hpl⟩ : PsOk P.1 ∧ P.1.length ≤ 0 + 8 * (vlsOf hs).length := by rw [eP]; exact playV_ok _ _ _ (fun p hp => by cases hp)
  rw [vlsOf_len] at hpl
  obtain ⟨E, eE⟩ : ∃ E, E = checkV xs (vlsOf hs) evs loose := ⟨_, rfl⟩
  rw [← eE]
  rw [← eE] at hck
  refine node_play (R := P) (fun _ => #[.slice ax xs.length cx, .slice ah hs.length ch]) (by intros; kernel_rfl) (fun ids w2 hp hf => by
    rw [eP]
    exact play_any ax cx xs ah ch hs w2 (Ints.of_cells (by omega) HX0.fits (cl_stay HX0.cells fun k hk => hf.chg.block k hk (fun q => q))) hxl ((voX ah hs).loc _ _ HH fun k hk => hf.chg.block k (voX_sep HH k hk) (fun q => q)) hfit hl) (by intros; kernel_rfl) (by kernel_rfl) (by kernel_rfl) (by intros; kernel_rfl) ?_
  intro sa sc b1 b2 hsa hfr
  refine br_B (P.2 != 0) (by kernel_rfl) (fun he => ?_) (fun he => ?_)
  · rw [if_pos (by simpa using he)] at hck
    exact pure_done fun ids => by rw [hck]; kernel_rfl
  rw [if_neg (by simpa using he)] at hck
  refine node_kmake (by intros; kernel_rfl) (by kernel_rfl) (by kernel_rfl) (by intros; kernel_rfl) ?_
  intro bl hbl1 hbl2
  obtain ⟨MD, eMD⟩ : ∃ MD, MD = HX.nil.and (mdX sa sc b1 b2 P.1) := ⟨_, rfl⟩
  rw [← eMD] at hbl2 ⊢
  have mdat : ∀ {w2 : World}, MD.X w2 → KMap w2 b1 (atM P.1) := fun h => by rw [eMD] at h; exact h.2.1.2
  have mdre : ∀ {w2 : World}, MD.X w2 → KMap w2 b2 (resM P.1) := fun h => by rw [eMD] at h; exact h.2.2
  have mdst : ∀ {w2 : World}, MD.X w2 → Cells w2 sa (stC P.1) := fun h => by rw [eMD] at h; exact rw_cells h.2.1.1
  have one3 : ∀ v, v ∈ ([.map (some b1), .map (some b2), .map (some bl)] : List Value) → v.oneCell' = true := fun v hv => by
    simp only [List.mem_cons, List.not_mem_nil, or_false] at hv
    rcases hv with rfl | rfl | rfl <;> rfl
  refine ⟨CkI evs P.1 loose MD bl E, fun ids w2 hp hf => ⟨_, evs.length, ⟨hf.x, hf.sep⟩, 0, [], 0, [], rfl, Nat.zero_le _, fun x => rfl, (fun x d h => by cases h), Nat.zero_le _, hck.symm, by kernel_rfl, rfl⟩, ?_⟩
  rintro vs hx' n hcnt ⟨i, seen, done, low, rfl, hi, hlow, hseen, hdone, hE2, rfl, rfl⟩
  refine holds_env (ρ' := ⟨[P.2, (i : Int), (done : Int)], [loose, loose], [.map (some b1), .map (some b2), .map (some bl)], [xs.length, cx, hs.length, ch, evs.length, ce, P.1.length + 1, sc], [ax, ah, ae, sa]⟩) (by kernel_rfl) ?_
  refine br_D (p := (i : Int) < (evs.length : Int)) (by kernel_rfl) (fun hlt => ?B) (fun hlt => ?E)
  case E =>
    refine pure_done fun ids => ?_
    rw [← hE2, List.drop_eq_nil_of_le (by omega)]; rfl
  have hlt : i < evs.length := by omega
  obtain ⟨e, he⟩ : ∃ e, evs[i]? = some e := ⟨_, List.getElem?_eq_getElem hlt⟩
  have hky := hE e (List.mem_of_getElem? he)
  have hd : evs.drop i = e :: evs.drop (i + 1) := by
    obtain ⟨q, e2⟩ := List.getElem?_eq_some_iff.1 he
    rw [List.drop_eq_getElem_cons q, e2]
  rw [hd] at hE2
  unfold chkV at hE2
  obtain ⟨s1, g1⟩ := flat_part ev_len HE he (o := 0) e.cells (fun j u hj => by rw [Nat.zero_add]; exact hj) (by simp [Ev.cells, Ev.is])
  have hwi : IntKind.i64.wrap ((i : Int) + 1) = ((i + 1 : Nat) : Int) := by rw [wrap_i64 (by omega)]; omega
  refine need_k (ae.isSome = true ∧ (0 : Int) ≤ (i : Int) ∧ (i : Int) < (evs.length : Int)) (by kernel_rfl) ⟨s1, by omega, by omega⟩ ?_
  refine node_ld0 (k := ⟨3, 2, 3, 8, 4⟩) ⟨e.is, [], [], [], []⟩ (.pointer (some (((ae.getD ⟨0, 0, none⟩).add (i * 12)).add 0))) e.cells (by intros; kernel_rfl) (by intros; kernel_rfl) (g1 _ id) ⟨by kernel_rfl, one3⟩ (by kernel_rfl) oneNil ?_
  refine holds_env (ρ' := ⟨[P.2, (i : Int), (done : Int)] ++ e.is, [loose, loose], [.map (some b1), .map (some b2), .map (some bl)], [xs.length, cx, hs.length, ch, evs.length, ce, P.1.length + 1, sc], [ax, ah, ae, sa]⟩) (by kernel_rfl) ?_
  refine br_D (p := e.k = 1) (by kernel_rfl) (fun hk1 => ?_) (fun hk1 => ?_)
  · rw [if_neg (by omega)] at hE2
    refine node_kput (kt := 91) (et := 3) bl low e.key (.int .i64 (done : Int)) kyOk hky (.inl hbl1) hbl2 (by intros; kernel_rfl) (by intros; kernel_rfl) (by intros; kernel_rfl) (by kernel_rfl) (by kernel_rfl) (by kernel_rfl) (by kernel_rfl) ?_
    exact again_V ⟨[IntKind.i64.wrap ((i : Int) + 1), (done : Int)], [loose], [], [], []⟩ rfl (by intros; kernel_rfl) _ (fun w2 ids hf => ⟨hf.x, hf.sep⟩) ⟨evs.length - (i + 1), by omega, i + 1, _, done, _, rfl, by omega, low_put hlow e done hk1, hseen.snoc e hdone, hdone, hE2, by rw [hwi], rfl⟩
  have hlow2 := low_skip hlow e done hk1
  have hseen2 := hseen.snoc e hdone
  refine br_D (p := e.k = 2) (by kernel_rfl) (fun hk2 => ?B2) (fun hk2 => ?E2)
  case E2 =>
    rw [if_neg hk2] at hE2
    exact again_V ⟨[IntKind.i64.wrap ((i : Int) + 1), (done : Int)], [loose], [], [], []⟩ rfl (by intros; kernel_rfl) _ (fun w2 ids hf => ⟨hf.x, hf.sep⟩) ⟨evs.length - (i + 1), by omega, i + 1, _, done, _, rfl, by omega, hlow2, hseen2, hdone, hE2, by rw [hwi], rfl⟩
  rw [if_pos hk2] at hE2
  obtain ⟨fo, efo⟩ : ∃ fo, fo = lowOf e.key seen := ⟨_, rfl⟩
  rw [← efo] at hE2
  have hlk := hlow e.key
  rw [← efo] at hlk
  refine node_klook (kt := 91) (et := 3) (z := .int .i64 0) ⟨[((fo.getD 0 : Nat) : Int)], [fo.isSome], [], [], []⟩ bl low e.key kyOk hky (fun w2 hX => hX.2) (by intros; kernel_rfl) (by intros; kernel_rfl) (by kernel_rfl) (fun w2 => by kernel_rfl) (fun ids => by
    rw [hlk]
    cases fo with
    | none => kernel_rfl
    | some d => kernel_rfl) (by kernel_rfl) (by kernel_rfl) (by kernel_rfl) oneNil ?_
  cases hfo : fo with
  | none =>
    rw [hfo] at hE2
    refine br_T (!(none : Option Nat).isSome) (by kernel_rfl) rfl ?_
    exact pure_done fun ids => by rw [← hE2]; kernel_rfl
  | some frm =>
  rw [hfo] at hE2
  have hfrm : frm ≤ P.1.length := hseen e.key frm (by rw [← efo, hfo])
  simp only at hE2
  refine br_F (!(some frm : Option Nat).isSome) (by kernel_rfl) rfl ?_
  refine node_klook (kt := 91) (et := 3) (z := .int .i64 0) ⟨[(findP e.key P.1 : Int)], [decide (findP e.key P.1 ≠ 0)], [], [], []⟩ b1 (atM P.1) e.key kyOk hky (fun w2 hX => mdat hX.1) (by intros; kernel_rfl) (by intros; kernel_rfl) (by kernel_rfl) (fun w2 => by kernel_rfl) (fun ids => by rw [klk_at0, klk_at1]; kernel_rfl) (by kernel_rfl) (by kernel_rfl) (by kernel_rfl) oneNil ?_
  refine holds_env (ρ' := ⟨[P.2, (i : Int), (done : Int)] ++ e.is ++ [(frm : Int), (findP e.key P.1 : Int)], [loose, loose, true, decide (findP e.key P.1 ≠ 0)], [.map (some b1), .map (some b2), .map (some bl)], [xs.length, cx, hs.length, ch, evs.length, ce, P.1.length + 1, sc], [ax, ah, ae, sa]⟩) (by kernel_rfl) ?_
  refine br_D (p := e.rk > 3) (by kernel_rfl) (fun hr3 => ?_) (fun hr3 => ?_)
  · rw [if_pos hr3] at hE2
    refine br_B (decide (findP e.key P.1 ≠ 0)) (by kernel_rfl) (fun hf => ?_) (fun hf => ?_)
    · rw [if_pos (by simpa using hf)] at hE2
      exact pure_done fun ids => by rw [← hE2]; kernel_rfl
    · rw [if_neg (by simpa using hf)] at hE2
      exact again_V ⟨[IntKind.i64.wrap ((i : Int) + 1), (done : Int)], [loose], [], [], []⟩ rfl (by intros; kernel_rfl) _ (fun w2 ids hf => ⟨hf.x, hf.sep⟩) ⟨evs.length - (i + 1), by omega, i + 1, _, done, _, rfl, by omega, hlow2, hseen2, hdone, hE2, by rw [hwi], rfl⟩
  rw [if_neg hr3] at hE2
  obtain ⟨O, eO⟩ : ∃ O, O = oneV P.1 e frm loose := ⟨_, rfl⟩
  have hO1 : O.1 ≤ P.1.length := by rw [eO]; exact oneV_le hfrm
  rw [← eO] at hE2
  refine ⟨fun vs hx => O.2 = 0 ∧ (∃ c1 c2 : Bool, vs = ⟨[(O.1 : Int)], [loose, c1, c2], [], [], []⟩) ∧ MD.and (HX.kmap bl low) = hx, ?_, ?_⟩
  case refine_2 =>
    rintro vs hx hcnt3 ⟨hO2, ⟨c1, c2, rfl⟩, rfl⟩
    rw [if_neg (fun q => q hO2)] at hE2
    have hmx : max (done : Int) (O.1 : Int) = ((max done O.1 : Nat) : Int) := by omega
    exact again_V ⟨[IntKind.i64.wrap ((i : Int) + 1), max (done : Int) (O.1 : Int)], [loose], [], [], []⟩ rfl (by intros; kernel_rfl) _ (fun w2 ids hf => ⟨hf.x, hf.sep⟩) ⟨evs.length - (i + 1), by omega, i + 1, _, max done O.1, _, rfl, by omega, hlow2, hseen2, by omega, hE2, by rw [hwi, hmx], rfl⟩
  have bad : ∀ {x : Int} {m2 : Mem} {ρ : Env} {hx : HX} {S : Stack} {v : SV}, O.2 = x → x ≠ 0 → (∀ ids, v.den ρ ids = .int .i64 x) → (Tree.done v m2).holds ⟨Try.prog, w, fun _ => False, PureAt w (.int .i64 E)⟩ ρ [] hx S := fun h1 h2 h3 => pure_done fun ids => by
    rw [h3 ids, ← hE2, if_pos (by rw [h1]; exact h2), h1]
  unfold oneV at eO
  obtain ⟨r, er⟩ : ∃ r, r = rsA P.1 (findP e.key P.1) := ⟨_, rfl⟩
  rw [← er] at eO
  have hreq : ((r.1 == e.rk) && ((r.2.1 == e.rre) && (r.2.2 == e.rim))) = decide (r = e.res) := res_and _ _ _ _ _ _
  have oneB : ∀ c : Bool, ∀ v, v ∈ ([.map (some b1), .map (some b2), .map (some bl)] : List Value) → v.oneCell' = true := fun _ => one3
  have loops : ¬ (frm < findP e.key P.1 ∧ r = e.res) → e.op.kind = 1 → loose = false → O = (match srchV P.1 e.op e.res (P.1.length + 1 - frm) frm with | some q => (q, 0) | none => (0, 63)) := fun h1 h2 h3 => by
    rw [if_neg h1, if_pos h2, if_neg (by rw [h3]; decide)] at eO; exact eO
  have get1 : ¬ (frm < findP e.key P.1 ∧ r = e.res) → e.op.kind = 1 → loose = true → O = (frm, 0) := fun h1 h2 h3 => by
    rw [if_neg h1, if_pos h2, if_pos h3] at eO; exact eO
  have oth : ¬ (frm < findP e.key P.1 ∧ r = e.res) → ¬ e.op.kind = 1 → O = if findP e.key P.1 = 0 ∨ r ≠ e.res then (0, 63) else (0, 60) := fun h1 h2 => by
    rw [if_neg h1, if_neg h2] at eO; exact eO
  have hit : (frm < findP e.key P.1 ∧ r = e.res) → O = (findP e.key P.1, 0) := fun h1 => by rw [if_pos h1] at eO; exact eO
  clear eO
  refine br_B (decide (findP e.key P.1 ≠ 0)) (by kernel_rfl) (fun hf => ?T0) (fun hf => ?N0)
  case' N0 =>
    have hf0 : findP e.key P.1 = 0 := by simpa using hf
    have hno : ¬ (frm < findP e.key P.1 ∧ r = e.res) := fun q => by rw [hf0] at q; exact absurd q.1 (by omega)
    refine br_D (p := e.op.kind = 1) (by kernel_rfl) (fun hk => ?N1) (fun hk => ?N2)
    case N2 =>
      refine br_F (e.op.kind == 1) (by kernel_rfl) (by simpa using hk) ?_
      refine bad (x := 63) ?_ (by decide) (by intros; kernel_rfl)
      rw [oth hno hk, if_pos (.inl hf0)]
    refine br_B loose (by kernel_rfl) (fun hlo => ?N3) (fun hlo => ?N4)
    case N3 => exact again_V ⟨[(frm : Int)], [true, false, false], [], [], []⟩ rfl (by intros; kernel_rfl) _ (fun w2 ids hf => ⟨hf.x, hf.sep⟩) ⟨by rw [get1 hno hk hlo], ⟨false, false, by rw [get1 hno hk hlo, hlo]⟩, rfl⟩
    refine br_T (e.op.kind == 1) (by kernel_rfl) (by simpa using hk) ?_
  case' T0 =>
    refine node_klook1 (kt := 91) (et := 62) (z := rsC (0, 0, 0)) ⟨[r.1, r.2.1, r.2.2], [], [], [], []⟩ b2 (resM P.1) e.key kyOk hky (fun w2 hX => mdre hX.1) (by intros; kernel_rfl) (by intros; kernel_rfl) (by kernel_rfl) (fun w2 => by kernel_rfl) (fun ids => by rw [klk_res0, ← er]; kernel_rfl) (by kernel_rfl) (by kernel_rfl) (by kernel_rfl) oneNil ?_
    have hf1 : findP e.key P.1 ≠ 0 := by simpa using hf
    refine br_B ((r.1 == e.rk) && ((r.2.1 == e.rre) && (r.2.2 == e.rim))) (by kernel_rfl) (fun hq => ?T1) (fun hq => ?T2)
    case' T1 =>
      have hq2 : r = e.res := by rw [hreq] at hq; simpa using hq
      refine br_D (p := (findP e.key P.1 : Int) > (frm : Int)) (by kernel_rfl) (fun hgt => ?T3) (fun hgt => ?T4)
      case T3 =>
        have h0 := hit ⟨by omega, hq2⟩
        exact again_V ⟨[(findP e.key P.1 : Int)], [loose, true, true], [], [], []⟩ rfl (by intros; kernel_rfl) _ (fun w2 ids hf => ⟨hf.x, hf.sep⟩) ⟨by rw [h0], ⟨true, true, by rw [h0]⟩, rfl⟩
      have hno : ¬ (frm < findP e.key P.1 ∧ r = e.res) := fun q => hgt (by omega)
    case' T2 =>
      have hno : ¬ (frm < findP e.key P.1 ∧ r = e.res) := fun q => by rw [hreq, decide_eq_true q.2] at hq; cases hq
    all_goals
      refine br_D (p := e.op.kind = 1) (by kernel_rfl) (fun hk => ?_) (fun hk => ?_)
      rotate_left
      · refine br_F (e.op.kind == 1) (by kernel_rfl) (by simpa using hk) ?_
        refine node_klook1 (kt := 91) (et := 62) (z := rsC (0, 0, 0)) ⟨[r.1, r.2.1, r.2.2], [], [], [], []⟩ b2 (resM P.1) e.key kyOk hky (fun w2 hX => mdre hX.1) (by intros; kernel_rfl) (by intros; kernel_rfl) (by kernel_rfl) (fun w2 => by kernel_rfl) (fun ids => by rw [klk_res0, ← er]; kernel_rfl) (by kernel_rfl) (by kernel_rfl) (by kernel_rfl) oneNil ?_
        refine br_B (!((r.1 == e.rk) && ((r.2.1 == e.rre) && (r.2.2 == e.rim)))) (by kernel_rfl) (fun hq3 => ?_) (fun hq3 => ?_)
        · rw [hreq] at hq3
          refine bad (x := 63) ?_ (by decide) (by intros; kernel_rfl)
          rw [oth hno hk, if_pos (.inr (by simpa using hq3))]
        · rw [hreq] at hq3
          refine bad (x := 60) ?_ (by decide) (by intros; kernel_rfl)
          rw [oth hno hk, if_neg (by simp only [not_or]; exact ⟨hf1, fun q => q (by simpa using hq3)⟩)]
      refine br_B loose (by kernel_rfl) (fun hlo => ?_) (fun hlo => ?_)
      · exact again_V ⟨[(frm : Int)], [true, true, true], [], [], []⟩ rfl (by intros; kernel_rfl) _ (fun w2 ids hf => ⟨hf.x, hf.sep⟩) ⟨by rw [get1 hno hk hlo], ⟨true, true, by rw [get1 hno hk hlo, hlo]⟩, rfl⟩
      refine br_T (e.op.kind == 1) (by kernel_rfl) (by simpa using hk) ?_
  all_goals
    have hO := loops hno hk hlo
    refine ⟨fun vs hx n => ∃ q : Nat, n = P.1.length + 1 - q ∧ frm ≤ q ∧ q ≤ P.1.length + 1 ∧ srchV P.1 e.op e.res (P.1.length + 1 - q) q = srchV P.1 e.op e.res (P.1.length + 1 - frm) frm ∧ vs = ⟨[(q : Int)], [], [], [], []⟩ ∧ MD.and (HX.kmap bl low) = hx, fun ids w2 hp hf => ⟨_, P.1.length + 1 - frm, ⟨hf.x, hf.sep⟩, frm, rfl, Nat.le_refl _, by omega, rfl, by kernel_rfl, rfl⟩, ?_⟩
    rintro vs hx n hcnt4 ⟨q, rfl, hq1, hq2, hs, rfl, rfl⟩
    refine br_D (p := (q : Int) ≥ ((P.1.length + 1 : Nat) : Int)) (by kernel_rfl) (fun hge => ?_) (fun hge => ?_)
    · have : P.1.length + 1 - q = 0 := by omega
      rw [this] at hs
      rw [← hs] at hO
      exact bad (x := 63) (by rw [hO]; rfl) (by decide) (by intros; kernel_rfl)
    have hq3 : q ≤ P.1.length := by omega
    obtain ⟨n3, hn3⟩ : ∃ n3, P.1.length + 1 - q = n3 + 1 := ⟨P.1.length - q, by omega⟩
    obtain ⟨p, ep⟩ : ∃ p, p = applyM (rgA P.1 q) e.op := ⟨_, rfl⟩
    rw [hn3, srch_s, ← ep] at hs
    have hrl := rgA_len hps q
    have hrr : stF (rgA P.1 q) = (rgA P.1 q).map (Value.int .i64) := by unfold stF; rw [rgs_of hrl]
    have hpl2 : p.1.length = 16 := by rw [ep]; exact (applyM_len _ _).trans hrl
    have hap : ∀ w2, Calls Try.prog 31 #[.agg (stF (rgA P.1 q)).toArray, .agg e.op.cells.toArray] w2 (PureAt w2 (resV p)) := fun w2 => by rw [ep, hrr]; exact apply_any _ hrl e.op w2
    have hwq : IntKind.i64.wrap ((q : Int) + 1) = ((q + 1 : Nat) : Int) := by rw [wrap_i64 (by omega)]; omega
    have hpe : ((p.2.1 == e.rk) && ((p.2.2.1 == e.rre) && (p.2.2.2 == e.rim))) = decide (p.2 = e.res) := res_and _ _ _ _ _ _
    refine need_k (sa.isSome = true ∧ (0 : Int) ≤ (q : Int) ∧ (q : Int) < ((P.1.length + 1 : Nat) : Int)) (by kernel_rfl) ⟨hsa, by omega, by omega⟩ ?_
    repeat' refine par_i ?_ ?_
  all_goals
    refine node_ldk ⟨rgs (rgA P.1 q), [], [], [], []⟩ (fun _ => .pointer (some (((sa.getD ⟨0, 0, none⟩).add (q * 16)).add 0))) (stF (rgA P.1 q)) (by intros; kernel_rfl) (by intros; kernel_rfl) (fun ids w2 hp hf => (st_elt (mdst hf.x.1) hq3).2) (by kernel_rfl) oneNil ?_
    repeat' refine par_i ?_ ?_
  all_goals
    refine node_P ⟨rgs p.1 ++ [p.2.1, p.2.2.1, p.2.2.2], [], [], [], []⟩ #[.agg (stF (rgA P.1 q)).toArray, .agg e.op.cells.toArray] (resV p) (by intros; kernel_rfl) (fun ids => Eq.trans (b := resV (rgs p.1, p.2)) (by kernel_rfl) (by unfold resV; rw [rgs_of hpl2])) (by kernel_rfl) (by kernel_rfl) (by kernel_rfl) oneNil (fun ids w2 hp hf => hap w2) ?_
    repeat' refine par_i ?_ ?_
  all_goals
    refine br_B (!((p.2.1 == e.rk) && ((p.2.2.1 == e.rre) && (p.2.2.2 == e.rim)))) (by kernel_rfl) (fun hne => ?_) (fun hne => ?_)
    · rw [hpe] at hne
      rw [if_neg (by simpa using hne)] at hs
      exact again_V ⟨[IntKind.i64.wrap ((q : Int) + 1)], [], [], [], []⟩ rfl (by intros; kernel_rfl) _ (fun w2 ids hf => ⟨hf.x, hf.sep⟩) ⟨P.1.length + 1 - (q + 1), by omega, q + 1, rfl, by omega, by omega, by rw [← hs]; congr 1; omega, by rw [hwq], rfl⟩
    · rw [hpe] at hne
      rw [if_pos (by simpa using hne)] at hs
      rw [← hs] at hO
      first
        | (have hT := hf1; exact again_V ⟨[(q : Int)], [false, true, true], [], [], []⟩ rfl (by intros; kernel_rfl) _ (fun w2 ids hf => ⟨hf.x, hf.sep⟩) ⟨by rw [hO], ⟨true, true, by rw [hO, hlo]⟩, rfl⟩)
        | (have hT := hf0; exact again_V ⟨[(q : Int)], [false, false, false], [], [], []⟩ rfl (by intros; kernel_rfl) _ (fun w2 ids hf => ⟨hf.x, hf.sep⟩) ⟨by rw [hO], ⟨false, false, by rw [hO, hlo]⟩, rfl⟩)
end Go.Proofs.Ytbedoemdjlollaa

namespace Go.Proofs.Ytbedoemdjlollaa
open Go Go.ChangeShapes Go.WideShapes Go.ChangeAt Go.RowKit Go.Syn Go.Eng
set_option linter.unusedVariables false
set_option linter.unusedSimpArgs false
set_option maxRecDepth 100000
section
variable {ps : List Pc} {a : Option Addr} {w : World}
end
end Go.Proofs.Ytbedoemdjlollaa

namespace Go.Proofs.Ytbedoemdjlollaa
open Go Go.ChangeShapes Go.WideShapes Go.ChangeAt Go.RowKit Go.Syn Go.Eng
set_option linter.unusedVariables false
set_option linter.unusedSimpArgs false
set_option maxRecDepth 100000
end Go.Proofs.Ytbedoemdjlollaa

namespace Go.Proofs.Ytbedoemdjlollaa
open Go Go.ChangeShapes Go.WideShapes Go.ChangeAt Go.RowKit Go.Syn Go.Eng
set_option linter.unusedVariables false
set_option linter.unusedSimpArgs false
set_option maxRecDepth 100000
section
variable {C : Cfg} {ρ : Env} {pre : List Nat} {hx : HX} {L : Stack} {m m' : Mem} {args : List SV} {r : SV} {t : Tree}
end
theorem ints_flat (xs : List Int) : xs.flatMap (fun x : Int => [Value.int .i64 x]) = xs.map (Value.int .i64) := by
  induction xs with
  | nil => rfl
  | cons y r ih => rw [List.flatMap_cons, ih]; rfl
theorem ints_elt {w : World} {a : Option Addr} {xs : List Int} {i : Nat} {x : Int} (h : Cells w a (xs.map (Value.int .i64))) (hi : xs[i]? = some x) : a.isSome = true ∧ CellsAt w (.pointer (some (((a.getD ⟨0, 0, none⟩).add (i * 1)).add 0))) [.int .i64 x] (fun _ => False) := by
  obtain ⟨h1, h2⟩ := flat_part (f := fun x : Int => [Value.int .i64 x]) (fun _ => rfl) (es := xs) (by rw [ints_flat]; exact h) hi (o := 0) [.int .i64 x] (fun j u hj => by rw [Nat.zero_add]; exact hj) (by simp)
  exact ⟨h1, h2 _ id⟩
end Go.Proofs.Ytbedoemdjlollaa

namespace Go.Proofs.Ytbedoemdjlollaa
open Go Go.ChangeShapes Go.WideShapes Go.ChangeAt Go.RowKit Go.Syn Go.Eng
set_option linter.unusedVariables false
set_option linter.unusedSimpArgs false
set_option maxRecDepth 100000
section
variable {C : Cfg} {ρ : Env} {pre : List Nat} {hx : HX} {L : Stack} {m m' : Mem} {args : List SV} {r : SV} {t : Tree}
theorem node_merge {f : Nat} {R : List (Vo Vl) × Int} (AS : List Nat → Array Value) (hargs : ∀ ids, (args.map (SV.den ρ ids)).toArray = AS ids) (hcall : ∀ ids w, pre <+: ids → Facts C m ρ ids hx w → Calls C.P f (AS ids) w (MgNew w R))
    (hr : ∀ b l d ids, r.den (ρ.add ⟨[R.2], [], [], [l, d], [b]⟩) ids = .tuple #[.slice b l d, .int .i64 R.2]) (hhp : m'.hp = m.hp) (hfit : hpFits m.c m.hp.length m.hp = true) (hc : ∀ b l d, (ρ.add ⟨[R.2], [], [], [l, d], [b]⟩).cnt = m'.c)
    (h : ∀ b d ys, vlsOf ys = R.1 → (∀ k, ((voAll ys).and (vrow b d ys)).F k → C.W.heap.size ≤ k ∧ ¬ hx.F k) → t.holds C (ρ.add ⟨[R.2], [], [], [ys.length, d], [b]⟩) pre (hx.and ((voAll ys).and (vrow b d ys))) L) : (Tree.call f args m r m' t).holds C ρ pre hx L := by
  refine node_out AS (fun u hy => ∃ b d ys, vlsOf ys = R.1 ∧ u = ⟨[R.2], [], [], [ys.length, d], [b]⟩ ∧ hy = (voAll ys).and (vrow b d ys)) hargs (fun ids w hp hf => ?_) hhp hfit ?_ ?_
  · refine (hcall ids w hp hf).mono ?_
    rintro e w' ⟨b, d, ys, rfl, h1, hX, hge, hb⟩
    exact ⟨_, _, ⟨b, d, ys, h1, rfl, rfl⟩, by rw [hr], hX, hge, hb⟩
  · rintro u hy ⟨b, d, ys, _, rfl, rfl⟩
    exact ⟨hc _ _ _, oneNil⟩
  · rintro u hy ⟨b, d, ys, h1, rfl, rfl⟩ hfr
    exact h b d ys h1 hfr
end
def putC (s q x : Int) : CmD := ⟨s, q, IntKind.i64.wrap (q - 1), ⟨2, 0, 0, x, 0⟩⟩
theorem put_any (s q x : Int) (w : World) : Calls Try.prog 19 #[.int .i64 s, .int .i64 q, .int .i64 x] w (PureAt w (.agg (putC s q x).cells.toArray)) := by
  refine calls_at (tab_ok _) Try.func19 rfl tJPut (ρ := ⟨[s, q, x], [], [], [], []⟩) (ids := []) (hx := HX.nil) rfl (Facts.initP rfl oneNil) ?_
  exact pure_done (by intros; kernel_rfl)
def hc1 : CmD := ⟨1, 1, 0, ⟨2, 0, 0, 1, 0⟩⟩
def hv25 : Vl := ⟨1, [hc1], []⟩
def hh25 : List (Vo Vl) := [⟨1, 0, 0, hv25⟩]
def ev25 (k : Int) (c : CmD) (r : Int × Int × Int) : Ev := ⟨k, c.sess, c.seq, c.op, r.1, r.2.1, r.2.2, 0⟩
theorem hh_merge : mergeV hh25 = (hh25, 0) := by
  unfold mergeV hh25 mgV
  rw [if_neg (by decide), if_neg (fun q => by exact absurd q.1 (by decide))]
  unfold mgV
  rw [if_neg (by decide)]; rfl
theorem hh_good : checkV [1] hh25 [ev25 1 hc1 (0, 0, 0), ev25 2 hc1 (1, 1, 0)] false = 0 := by kernel_rfl
theorem hh_bad : checkV [1] hh25 [ev25 1 hc1 (0, 0, 0), ev25 2 hc1 (1, 2, 0)] false = 63 := by kernel_rfl
theorem evs_at {w : World} {b ty : Nat} {us : List Value} {es : List Ev} (h : w.heap[b]? = some (.cells us.toArray ty (0, 0))) (e : us = evcs es) : Cells w (some ⟨b, 0, none⟩) (evcs es) := by
  subst e
  exact blk_cells (ty := ty) h
theorem cells_of {w : World} {b ty : Nat} {us vs : List Value} (h : w.heap[b]? = some (.cells us.toArray ty (0, 0))) (e : us = vs) : Cells w (some ⟨b, 0, none⟩) vs := by
  subst e
  exact blk_cells (ty := ty) h
theorem hv25_fit : VlFit hv25 := ⟨(fun n h => by cases h), by decide, by decide⟩
theorem vls_one {ys : List (Vo Pv)} {x : Vo Vl} (h : vlsOf ys = [x]) (hx : VlFit x.v) : ∀ y ∈ ys, VlFit y.v.v := fun y hy => by
  have : Vo.map Pv.v y ∈ vlsOf ys := List.mem_map.2 ⟨y, hy, rfl⟩
  rw [h, List.mem_singleton] at this
  have e : y.v.v = x.v := congrArg Vo.v this
  rw [e]; exact hx
theorem ky11 : KyFit (1, 1) := by unfold KyFit; decide
theorem ky_two (s q : Int) (r : Int × Int × Int) (h : KyFit (hc1.sess, hc1.seq)) : ∀ e ∈ [ev25 1 hc1 (0, 0, 0), ev25 2 hc1 r], KyFit e.key := fun e he => by
  simp only [List.mem_cons, List.not_mem_nil, or_false] at he
  rcases he with rfl | rfl <;> exact h
set_option maxHeartbeats 1000000 in
theorem head25_any (w : World) : Calls Try.prog 8 #[] w (PureAt w (.bool true)) := by
  refine calls_at (tab_ok _) Try.func8 rfl tJHead (ρ := ⟨[], [], [], [], []⟩) (ids := []) (hx := HX.nil) rfl (Facts.initP rfl oneNil) ?_
  refine node_P ⟨hc1.is, [], [], [], []⟩ #[.int .i64 1, .int .i64 1, .int .i64 1] (.agg hc1.cells.toArray) (by intros; kernel_rfl) (by intros; kernel_rfl) (by kernel_rfl) (by kernel_rfl) (by kernel_rfl) oneNil (fun ids w2 hp hf => put_any 1 1 1 w2) ?_
  refine node_merge (R := (hh25, 0)) (fun ids => #[.slice (some ⟨idAt ids 3, 0, none⟩) 1 1]) (by intros; kernel_rfl) (fun ids w2 hp hf => ?_) (by intros; kernel_rfl) (by kernel_rfl) (by kernel_rfl) (by intros; kernel_rfl) ?_
  · have h3 := cells_of (hf.blkAt 3 rfl) (vs := [.slice (some ⟨idAt ids 2, 0, none⟩) 1 1]) (by kernel_rfl)
    have h2 := cells_of (hf.blkAt 2 rfl) (vs := [.int .i64 1, .int .i64 0, .int .i64 0, .int .i64 1, .slice (some ⟨idAt ids 1, 0, none⟩) 1 1, .slice none 0 0]) (by kernel_rfl)
    have h1 := cells_of (hf.blkAt 1 rfl) (vs := ccells [hc1]) (by kernel_rfl)
    have := jmerge_any (some ⟨idAt ids 3, 0, none⟩) 1 [⟨some ⟨idAt ids 2, 0, none⟩, 1, [⟨1, 0, 0, ⟨hv25, some ⟨idAt ids 1, 0, none⟩, 1, none, 0⟩⟩]⟩] w2 (fun x hx => by
      rcases List.mem_cons.1 hx with rfl | hx
      · exact h3
      · simp only [List.map_cons, List.map_nil, List.mem_cons, List.not_mem_nil, or_false] at hx
        subst hx
        exact ⟨h2, fun y hy => by
          simp only [List.map_cons, List.map_nil, List.mem_cons, List.not_mem_nil, or_false] at hy
          subst hy
          exact ⟨h1, cl_nil _ _⟩⟩) (fun t ht => by
      rw [List.mem_singleton] at ht
      subst ht
      exact ⟨fun x hx => by rw [List.mem_singleton] at hx; subst hx; show I64 1; unfold I64; decide, fun x hx => by rw [List.mem_singleton] at hx; subst hx; exact hv25_fit, (by show 1 * 80 ≤ _; omega)⟩) (by show 1 ≤ _; omega) (by show 1 ≤ _; omega)
    rw [show vlsOf (tlAll [⟨some ⟨idAt ids 2, 0, none⟩, 1, [⟨1, 0, 0, ⟨hv25, some ⟨idAt ids 1, 0, none⟩, 1, none, 0⟩⟩]⟩]) = hh25 from rfl, hh_merge] at this
    exact this
  intro b d ys hys hfr
  have hyl : ys.length = 1 := by have := congrArg List.length hys; rw [vlsOf_len] at this; exact this
  have hyf : ∀ y ∈ ys, VlFit y.v.v := vls_one hys hv25_fit
  refine br_t (by kernel_rfl) ?_
  refine br_B ((ys.length : Int) == 1) (by kernel_rfl) (fun _ => ?_) (fun h => by rw [hyl] at h; cases h)
  refine node_PI ⟨[0], [], [], [], []⟩ (fun ids => #[.slice (some ⟨idAt ids 7, 0, none⟩) 1 1, .slice b ys.length d, .slice (some ⟨idAt ids 8, 0, none⟩) 2 2, .bool false]) (.int .i64 0) (by intros; kernel_rfl) (by intros; kernel_rfl) (by kernel_rfl) (by kernel_rfl) (by kernel_rfl) oneNil (fun ids w2 hp hf => ?_) ?_
  · have := jcheck_any (some ⟨idAt ids 7, 0, none⟩) 1 [1] b d ys (some ⟨idAt ids 8, 0, none⟩) 2 [ev25 1 hc1 (0, 0, 0), ev25 2 hc1 (1, 1, 0)] false w2 (ints_blk hf 7 _ _ [1] rfl (by kernel_rfl) (by decide) (by unfold I64; decide)) (by decide) (vox_of hf.x.2) hyf (by omega) (evs_at (hf.blkAt 8 rfl) (by kernel_rfl)) (ky_two 1 1 (1, 1, 0) ky11) (by decide)
    rw [hys, hh_good] at this
    exact this
  refine br_t (by kernel_rfl) ?_
  refine node_PI ⟨[63], [], [], [], []⟩ (fun ids => #[.slice (some ⟨idAt ids 9, 0, none⟩) 1 1, .slice b ys.length d, .slice (some ⟨idAt ids 10, 0, none⟩) 2 2, .bool false]) (.int .i64 63) (by intros; kernel_rfl) (by intros; kernel_rfl) (by kernel_rfl) (by kernel_rfl) (by kernel_rfl) oneNil (fun ids w2 hp hf => ?_) ?_
  · have := jcheck_any (some ⟨idAt ids 9, 0, none⟩) 1 [1] b d ys (some ⟨idAt ids 10, 0, none⟩) 2 [ev25 1 hc1 (0, 0, 0), ev25 2 hc1 (1, 2, 0)] false w2 (ints_blk hf 9 _ _ [1] rfl (by kernel_rfl) (by decide) (by unfold I64; decide)) (by decide) (vox_of hf.x.2) hyf (by omega) (evs_at (hf.blkAt 10 rfl) (by kernel_rfl)) (ky_two 1 1 (1, 2, 0) ky11) (by decide)
    rw [hys, hh_bad] at this
    exact this
  exact pure_done (by intros; kernel_rfl)
end Go.Proofs.Ytbedoemdjlollaa

namespace Go.Proofs.Ytbedoemdjlollaa
open Go Go.ChangeShapes Go.WideShapes Go.ChangeAt Go.RowKit Go.Syn Go.Eng
set_option linter.unusedVariables false
set_option linter.unusedSimpArgs false
set_option maxRecDepth 100000
theorem info_ev : (Try.prog.info? 66).map (fun i => (i.zero, i.size, i.bytes)) = some (some (.agg (Ev.cells ⟨0, 0, 0, ⟨0, 0, 0, 0, 0⟩, 0, 0, 0, 0⟩).toArray), 12, 96) := by kernel_rfl
theorem ev_one (es : List Ev) : ∀ v ∈ evcs es, v.oneCell' = true := fun v hv => by
  obtain ⟨e, _, he⟩ := List.mem_flatMap.1 hv
  obtain ⟨i, _, rfl⟩ := List.mem_map.1 he
  rfl
section
variable {C : Cfg} {ρ : Env} {pre : List Nat} {hx : HX} {L : Stack} {m m' : Mem} {args : List SV} {r : SV} {t : Tree}
theorem node_vonew {f : Nat} (xs : List (Vo Pv)) (AS : List Nat → Array Value) (hargs : ∀ ids, (args.map (SV.den ρ ids)).toArray = AS ids) (hcall : ∀ ids w, pre <+: ids → Facts C m ρ ids hx w → Calls C.P f (AS ids) w (VoNew w xs)) (hr : ∀ b d l ids, r.den (ρ.add ⟨[], [], [], [l, d], [b]⟩) ids = .slice b l d)
    (hhp : m'.hp = m.hp) (hft : hpFits m.c m.hp.length m.hp = true) (hc : ∀ b d l, (ρ.add ⟨[], [], [], [l, d], [b]⟩).cnt = m'.c)
    (h : ∀ b d ys, vlsOf ys = vlsOf xs → (∀ k, ((voAll ys).and (vrow b d ys)).F k → C.W.heap.size ≤ k ∧ ¬ hx.F k) → t.holds C (ρ.add ⟨[], [], [], [ys.length, d], [b]⟩) pre (hx.and ((voAll ys).and (vrow b d ys))) L) : (Tree.call f args m r m' t).holds C ρ pre hx L := by
  refine node_out AS (fun vs h' => ∃ (b : Option Addr) (d : Nat) (ys : List (Vo Pv)), vlsOf ys = vlsOf xs ∧ vs = ⟨[], [], [], [ys.length, d], [b]⟩ ∧ h' = (voAll ys).and (vrow b d ys)) hargs (fun ids w hp hf2 => ?_) hhp hft ?_ ?_
  · refine (hcall ids w hp hf2).mono ?_
    rintro e w' ⟨b, d, ys, rfl, g1, g2, g3, g4⟩
    exact ⟨_, _, ⟨b, d, ys, g1, rfl, rfl⟩, by rw [hr], g2, g3, g4⟩
  · rintro vs h' ⟨b, d, ys, _, rfl, rfl⟩; exact ⟨hc _ _ _, oneNil⟩
  · rintro vs h' ⟨b, d, ys, e, rfl, rfl⟩ hfr; exact h b d ys e hfr
end
theorem copied_any (a : Option Addr) (c : Nat) (xs : List (Vo Pv)) (w : World) (H : (voX a xs).X w) (hf : ∀ x ∈ xs, VlFit x.v.v) (hl : xs.length * 80 ≤ 140737488355328) : Calls Try.prog 9 #[.slice a xs.length c] w (VoNew w xs) := by
  refine calls_at (tab_ok _) Try.func9 rfl tCopied (ρ := ⟨[], [], [], [xs.length, c], [a]⟩) (ids := []) (hx := HX.nil) rfl (Facts.initP rfl oneNil) ?_
  refine node_vonew xs (fun _ => #[.slice a xs.length c]) (by intros; kernel_rfl) (fun ids w2 hp hf2 => cpvs7_any a c xs w2 ((voX a xs).loc _ _ H fun k hk => hf2.chg.block k (voX_sep H k hk) (fun q => q)) hf hl) (by intros; kernel_rfl) (by kernel_rfl) (by kernel_rfl) (by intros; kernel_rfl) ?_
  intro b d ys hv hfr ids w2 hp hf2
  exact ⟨b, d, ys, by kernel_rfl, hv, hf2.x.2, fun k hk => ⟨(hfr k hk).1, (hf2.sep k (.inr hk)).1⟩, hf2.chg.below⟩
end Go.Proofs.Ytbedoemdjlollaa

namespace Go.Proofs.Ytbedoemdjlollaa
open Go Go.ChangeShapes Go.WideShapes Go.ChangeAt Go.RowKit Go.Syn Go.Eng
set_option linter.unusedVariables false
set_option linter.unusedSimpArgs false
set_option maxRecDepth 100000
abbrev It := CmD × AnD
def itKey (z : It) : Ky := (z.1.sess, z.1.seq)
def itRes (z : It) : Int × Int × Int := (z.2.k, z.2.re, z.2.im)
def evA (c : CmD) : Ev := ⟨1, c.sess, c.seq, c.op, 0, 0, 0, 0⟩
def evB (c : CmD) (r : Int × Int × Int) : Ev := ⟨2, c.sess, c.seq, c.op, r.1, r.2.1, r.2.2, 0⟩
def evsOf (L : List It) : List Ev := L.flatMap fun z => [evA z.1, evB z.1 (itRes z)]
theorem evsOf_snoc (L : List It) (z : It) : evsOf (L ++ [z]) = evsOf L ++ [evA z.1, evB z.1 (itRes z)] := by unfold evsOf; rw [List.flatMap_append]; simp
theorem evsOf_len (L : List It) : (evsOf L).length = 2 * L.length := by
  induction L with
  | nil => rfl
  | cons z r ih => show (_ :: _ :: evsOf r).length = _; rw [List.length_cons, List.length_cons, ih, List.length_cons]; omega
def Fits (P : List Pc) : Nat → List It → Prop
  | _, [] => True
  | n, z :: r => (3 < z.2.k ∧ findP (itKey z) P = 0 ∧ Fits P n r) ∨ (z.2.k ≤ 3 ∧ n < findP (itKey z) P ∧ rsA P (findP (itKey z) P) = itRes z ∧ Fits P (findP (itKey z) P) r)
theorem Fits.le {P : List Pc} : ∀ {L : List It} {n n' : Nat}, n' ≤ n → Fits P n L → Fits P n' L
  | [], _, _, _, _ => trivial
  | z :: r, n, n', h, hf => by
    rcases hf with ⟨h1, h2, h3⟩ | ⟨h1, h2, h3, h4⟩
    · exact .inl ⟨h1, h2, Fits.le h h3⟩
    · exact .inr ⟨h1, by omega, h3, h4⟩
theorem chk_ask (P : List Pc) (loose : Bool) (seen : List (Ev × Nat)) (done : Nat) (e : Ev) (r : List Ev) (he : e.k ≠ 2) : chkV P loose seen done (e :: r) = chkV P loose (seen ++ [(e, done)]) done r := by
  rw [chkV, if_neg he]
theorem low_ask (seen : List (Ev × Nat)) (c : CmD) (d : Nat) (x : Ky) : lowOf x (seen ++ [(evA c, d)]) = if (c.sess, c.seq) = x then some d else lowOf x seen := by
  rw [lowOf_app]
  by_cases h : (c.sess, c.seq) = x
  · rw [if_pos ⟨rfl, h⟩, if_pos h]
  · rw [if_neg (fun q => h q.2), if_neg h]
theorem low_oth (seen : List (Ev × Nat)) (e : Ev) (d : Nat) (x : Ky) (he : e.k ≠ 1) : lowOf x (seen ++ [(e, d)]) = lowOf x seen := by
  rw [lowOf_app, if_neg fun q => he q.1]
theorem chk_fits {P : List Pc} {loose : Bool} : ∀ (L L2 : List It) (tail : List Ev) (seen : List (Ev × Nat)) (done n : Nat), Fits P n (L ++ L2) → done ≤ n →
    ∃ seen' done' n', chkV P loose seen done (evsOf L ++ tail) = chkV P loose seen' done' tail ∧ done' ≤ n' ∧ Fits P n' L2 ∧ ∀ x, (∀ z ∈ L, itKey z ≠ x) → lowOf x seen' = lowOf x seen
  | [], L2, tail, seen, done, n, hf, hd => ⟨seen, done, n, rfl, hd, hf, fun _ _ => rfl⟩
  | z :: r, L2, tail, seen, done, n, hf, hd => by
    have hk : ∀ x, lowOf x (seen ++ [(evA z.1, done)]) = if itKey z = x then some done else lowOf x seen := fun x => low_ask seen z.1 done x
    have hlow : lowOf (evB z.1 (itRes z)).key (seen ++ [(evA z.1, done)]) = some done := by rw [hk]; exact if_pos rfl
    have e1 : chkV P loose seen done (evsOf (z :: r) ++ tail) = chkV P loose (seen ++ [(evA z.1, done)]) done (evB z.1 (itRes z) :: (evsOf r ++ tail)) := chk_ask P loose seen done (evA z.1) _ (by show (1 : Int) ≠ 2; decide)
    have fin : ∀ d2, lowOf (evB z.1 (itRes z)).key (seen ++ [(evA z.1, done)]) = some done → ∀ x, (∀ y ∈ z :: r, itKey y ≠ x) → lowOf x (seen ++ [(evA z.1, done)] ++ [(evB z.1 (itRes z), d2)]) = lowOf x seen := fun d2 _ x hx => by
      rw [low_oth _ _ _ _ (by show (2 : Int) ≠ 1; decide), hk, if_neg (hx z List.mem_cons_self)]
    rcases hf with ⟨h1, h2, h3⟩ | ⟨h1, h2, h3, h4⟩
    · have e2 : chkV P loose (seen ++ [(evA z.1, done)]) done (evB z.1 (itRes z) :: (evsOf r ++ tail)) = chkV P loose (seen ++ [(evA z.1, done)] ++ [(evB z.1 (itRes z), done)]) done (evsOf r ++ tail) := by
        rw [chkV, if_pos (show (evB z.1 (itRes z)).k = 2 from rfl), hlow]
        simp only
        rw [if_pos (show 3 < (evB z.1 (itRes z)).rk from h1), if_neg (fun q => q h2)]
      obtain ⟨s', d', n', q1, q2, q3, q4⟩ := chk_fits r L2 tail (seen ++ [(evA z.1, done)] ++ [(evB z.1 (itRes z), done)]) done n h3 hd
      exact ⟨s', d', n', e1.trans (e2.trans q1), q2, q3, fun x hx => (q4 x fun y hy => hx y (List.mem_cons_of_mem _ hy)).trans (fin done hlow x hx)⟩
    · have ho : oneV P (evB z.1 (itRes z)) done loose = (findP (itKey z) P, 0) := by
        unfold oneV
        exact if_pos ⟨Nat.lt_of_le_of_lt hd h2, h3⟩
      have e2 : chkV P loose (seen ++ [(evA z.1, done)]) done (evB z.1 (itRes z) :: (evsOf r ++ tail)) = chkV P loose (seen ++ [(evA z.1, done)] ++ [(evB z.1 (itRes z), done)]) (max done (findP (itKey z) P)) (evsOf r ++ tail) := by
        rw [chkV, if_pos (show (evB z.1 (itRes z)).k = 2 from rfl), hlow]
        simp only
        rw [if_neg (show ¬ 3 < (evB z.1 (itRes z)).rk from fun q => by have q : 3 < z.2.k := q; omega), ho]
        exact if_neg (fun q => q rfl)
      obtain ⟨s', d', n', q1, q2, q3, q4⟩ := chk_fits r L2 tail (seen ++ [(evA z.1, done)] ++ [(evB z.1 (itRes z), done)]) (max done (findP (itKey z) P)) (findP (itKey z) P) h4 (by omega)
      exact ⟨s', d', n', e1.trans (e2.trans q1), q2, q3, fun x hx => (q4 x fun y hy => hx y (List.mem_cons_of_mem _ hy)).trans (fin done hlow x hx)⟩
theorem findP_grow {x : Ky} {ps : List Pc} (z : It) (h : findP x ps ≠ 0) : findP x (addP ps z) = findP x ps := by
  unfold addP
  split
  · rfl
  · rw [findP_app, if_pos h]
theorem findP_all {x : Ky} (l : List It) {ps : List Pc} (h : findP x ps ≠ 0) : findP x (addAll ps l) = findP x ps := by
  induction l generalizing ps with
  | nil => rfl
  | cons z r ih =>
    show findP x (addAll (addP ps z) r) = _
    rw [ih (by rw [findP_grow z h]; exact h), findP_grow z h]
theorem rsA_app {ps : List Pc} {q : Nat} (p : Pc) (h : q ≤ ps.length) : rsA (ps ++ [p]) q = rsA ps q := by
  cases q with
  | zero => rfl
  | succ q =>
    show (((ps ++ [p])[q]?).map Pc.res).getD (0, 0, 0) = ((ps[q]?).map Pc.res).getD (0, 0, 0)
    rw [List.getElem?_append_left (by omega)]
theorem rsA_grow {ps : List Pc} {q : Nat} (z : It) (h : q ≤ ps.length) : rsA (addP ps z) q = rsA ps q ∧ q ≤ (addP ps z).length := by
  unfold addP
  split
  · exact ⟨rfl, h⟩
  · exact ⟨rsA_app _ h, by simp; omega⟩
theorem rsA_all {q : Nat} (l : List It) {ps : List Pc} (h : q ≤ ps.length) : rsA (addAll ps l) q = rsA ps q := by
  induction l generalizing ps with
  | nil => rfl
  | cons z r ih =>
    obtain ⟨h1, h2⟩ := rsA_grow z h
    show rsA (addAll (addP ps z) r) q = _
    rw [ih h2, h1]
theorem findP_zero {x : Ky} {ps : List Pc} {z : It} (h : findP x ps = 0) (hz : itKey z ≠ x ∨ 3 < z.2.k) : findP x (addP ps z) = 0 := by
  unfold addP
  split
  · exact h
  · rename_i hc
    rw [findP_app, if_neg (fun q => q h), if_neg]
    intro q
    rcases hz with hz | hz
    · exact hz q
    · exact hc (.inr hz)
theorem findP_zeros {x : Ky} (l : List It) {ps : List Pc} (h : findP x ps = 0) (hl : ∀ z ∈ l, itKey z ≠ x ∨ 3 < z.2.k) : findP x (addAll ps l) = 0 := by
  induction l generalizing ps with
  | nil => exact h
  | cons z r ih => exact ih (findP_zero h (hl z List.mem_cons_self)) fun y hy => hl y (List.mem_cons_of_mem _ hy)
theorem addAll_app (ps : List Pc) (l r : List It) : addAll ps (l ++ r) = addAll (addAll ps l) r := by unfold addAll; rw [List.foldl_append]
def Keyed (L : List It) : Prop := (L.map itKey).Nodup
theorem fits_pl : ∀ (L L1 M : List It), Keyed (L1 ++ L ++ M) → Fits (addAll [] (L1 ++ L ++ M)) (addAll [] L1).length L
  | [], _, _, _ => trivial
  | z :: r, L1, M, hk => by
    have hk2 := hk
    unfold Keyed at hk2
    rw [List.append_assoc, List.map_append, List.cons_append, List.map_cons] at hk2
    obtain ⟨n1, n2, n3⟩ := List.nodup_append.1 hk2
    simp only [List.nodup_cons] at n2
    have hL1 : ∀ y ∈ L1, itKey y ≠ itKey z := fun y hy e => n3 (itKey y) (List.mem_map_of_mem hy) (itKey z) List.mem_cons_self e
    have hr : ∀ y ∈ r ++ M, itKey y ≠ itKey z := fun y hy e => n2.1 (by rw [← e]; exact List.mem_map_of_mem hy)
    have h0 : findP (itKey z) (addAll [] L1) = 0 := findP_zeros L1 rfl fun y hy => .inl (hL1 y hy)
    have eP : addAll [] (L1 ++ (z :: r) ++ M) = addAll (addP (addAll [] L1) z) (r ++ M) := by
      rw [List.append_assoc, addAll_app, List.cons_append]; rfl
    have hk3 : Keyed (L1 ++ [z] ++ r ++ M) := by
      have : L1 ++ [z] ++ r ++ M = L1 ++ (z :: r) ++ M := by simp
      rw [this]; exact hk
    have ih := fits_pl r (L1 ++ [z]) M hk3
    have e1 : L1 ++ [z] ++ r ++ M = L1 ++ (z :: r) ++ M := by simp
    rw [e1, addAll_app [] L1 [z]] at ih
    have ih : Fits (addAll [] (L1 ++ (z :: r) ++ M)) (addP (addAll [] L1) z).length r := ih
    by_cases h3 : 3 < z.2.k
    · refine .inl ⟨h3, ?_, ?_⟩
      · rw [eP]
        exact findP_zeros _ (findP_zero h0 (.inr h3)) fun y hy => .inl (hr y hy)
      · have : addP (addAll [] L1) z = addAll [] L1 := by unfold addP; rw [if_pos (.inr h3)]
        rw [this] at ih; exact ih
    · have ha : addP (addAll [] L1) z = addAll [] L1 ++ [⟨z.1, z.2.k, z.2.re, z.2.im, (applyM (rgA (addAll [] L1) (addAll [] L1).length) z.1.op).1⟩] := by
        unfold addP
        rw [if_neg (by simp only [not_or, ne_eq, Classical.not_not]; exact ⟨h0, h3⟩)]
      have hf1 : findP (itKey z) (addP (addAll [] L1) z) = (addAll [] L1).length + 1 := by
        rw [ha, findP_app, if_neg (fun q => q h0)]
        exact if_pos rfl
      have hf2 : findP (itKey z) (addAll [] (L1 ++ (z :: r) ++ M)) = (addAll [] L1).length + 1 := by
        rw [eP, findP_all _ (by rw [hf1]; omega), hf1]
      have hl : (addP (addAll [] L1) z).length = (addAll [] L1).length + 1 := by rw [ha]; simp
      refine .inr ⟨by omega, by rw [hf2]; omega, ?_, by rw [hf2, ← hl]; exact ih⟩
      rw [hf2, eP, rsA_all _ (by rw [hl]; exact Nat.le_refl _), ha, rsA_s (p := ⟨z.1, z.2.k, z.2.re, z.2.im, (applyM (rgA (addAll [] L1) (addAll [] L1).length) z.1.op).1⟩) (by rw [List.getElem?_append_right (Nat.le_refl _), Nat.sub_self]; rfl)]
      rfl
theorem chk_right {L M : List It} (hk : Keyed (L ++ M)) (loose : Bool) : chkV (addAll [] (L ++ M)) loose [] 0 (evsOf L) = 0 := by
  have hf := fits_pl L [] M hk
  simp only [List.nil_append] at hf
  obtain ⟨s, d, n, h1, _⟩ := chk_fits (loose := loose) L [] [] [] 0 0 (by rw [List.append_nil]; exact hf) (Nat.le_refl 0)
  rw [List.append_nil] at h1
  rw [h1]; rfl
theorem chk_gone {L M : List It} {c : CmD} {r : Int × Int × Int} (hk : Keyed (L ++ M)) (hc : ∀ z ∈ L ++ M, itKey z ≠ (c.sess, c.seq)) (hr3 : r.1 ≤ 3) (hop : c.op.kind ≠ 1) : chkV (addAll [] (L ++ M)) false [] 0 (evsOf L ++ [evA c, evB c r]) = 63 := by
  have hf := fits_pl L [] M hk
  simp only [List.nil_append] at hf
  obtain ⟨s, d, n, h1, h2, h4, h5⟩ := chk_fits (loose := false) L [] [evA c, evB c r] [] 0 0 (by rw [List.append_nil]; exact hf) (Nat.le_refl 0)
  rw [h1]
  have h0 : findP (evB c r).key (addAll [] (L ++ M)) = 0 := findP_zeros _ rfl fun y hy => .inl (hc y hy)
  rw [chk_ask _ _ _ _ _ _ (by show (1 : Int) ≠ 2; decide)]
  rw [chkV, if_pos (show (evB c r).k = 2 from rfl), show lowOf (evB c r).key (s ++ [(evA c, d)]) = some d by rw [low_ask]; exact if_pos rfl]
  simp only
  have ho : oneV (addAll [] (L ++ M)) (evB c r) d false = (0, 63) := by
    unfold oneV
    rw [h0, if_neg (fun q => absurd q.1 (Nat.not_lt_zero _)), if_neg (show ¬ (evB c r).op.kind = 1 from hop), if_pos (.inl rfl)]
  rw [if_neg (show ¬ 3 < (evB c r).rk from fun q => by have q : 3 < r.1 := q; omega), ho]
  exact if_pos (by show (63 : Int) ≠ 0; decide)
theorem chk_open {L M : List It} {z : It} {e : Ev} (hk : Keyed (L ++ [z] ++ M)) (he : e.k = 3) : chkV (addAll [] (L ++ [z] ++ M)) false [] 0 (evsOf L ++ (evA z.1 :: e :: evsOf M)) = 0 := by
  have hf := fits_pl (L ++ [z] ++ M) [] [] (by simpa using hk)
  rw [List.append_nil, List.nil_append] at hf
  obtain ⟨s, d, n, h1, h2, h4, h5⟩ := chk_fits (loose := false) L ([z] ++ M) (evA z.1 :: e :: evsOf M) [] 0 0 (by rw [← List.append_assoc]; exact hf) (Nat.le_refl 0)
  rw [h1, chk_ask _ _ _ _ _ _ (by show (1 : Int) ≠ 2; decide), chk_ask _ _ _ _ _ _ (by rw [he]; decide)]
  have h6 : Fits (addAll [] (L ++ [z] ++ M)) n M := by
    rcases h4 with ⟨_, _, q⟩ | ⟨_, q1, _, q⟩
    · exact q
    · exact q.le (by omega)
  obtain ⟨s2, d2, n2, g1, _⟩ := chk_fits (loose := false) M [] [] (s ++ [(evA z.1, d)] ++ [(e, d)]) d n (by rw [List.append_nil]; exact h6) h2
  rw [List.append_nil] at g1
  rw [g1]; rfl
theorem chk_lost {L M : List It} {z : It} {e : Ev} {r : Int × Int × Int} {tail : List Ev} (hk : Keyed (L ++ [z] ++ M)) (he : e.k = 3) : chkV (addAll [] (L ++ [z] ++ M)) false [] 0 (evsOf L ++ (e :: evB z.1 r :: tail)) = 41 := by
  have hf := fits_pl L [] ([z] ++ M) (by rw [List.nil_append, ← List.append_assoc]; exact hk)
  rw [List.nil_append, ← List.append_assoc] at hf
  obtain ⟨s, d, n, h1, h2, h4, h5⟩ := chk_fits (loose := false) L [] (e :: evB z.1 r :: tail) [] 0 0 (by rw [List.append_nil]; exact hf) (Nat.le_refl 0)
  rw [h1, chk_ask _ _ _ _ _ _ (by rw [he]; decide)]
  have hL : ∀ y ∈ L, itKey y ≠ itKey z := fun y hy e => by
    have hk2 := hk
    unfold Keyed at hk2
    rw [List.append_assoc, List.map_append] at hk2
    exact (List.nodup_append.1 hk2).2.2 (itKey y) (List.mem_map_of_mem hy) (itKey z) (List.mem_map_of_mem (List.mem_append_left _ (List.mem_singleton.2 rfl))) e
  rw [chkV, if_pos (show (evB z.1 r).k = 2 from rfl), low_oth _ _ _ _ (by rw [he]; decide), show lowOf (evB z.1 r).key s = none from h5 (itKey z) hL]
end Go.Proofs.Ytbedoemdjlollaa

namespace Go.Proofs.Ytbedoemdjlollaa
open Go Go.ChangeShapes Go.WideShapes Go.ChangeAt Go.RowKit Go.Syn Go.Eng
set_option linter.unusedVariables false
set_option linter.unusedSimpArgs false
set_option maxRecDepth 100000
structure Fr (N : Int → Prop) (Q : Int → Int) (t : List SsD) : Prop where
  no : ∀ s ∈ t, N s.no
  ack : ∀ s ∈ t, s.ack ≤ Q s.no
  kept : ∀ s ∈ t, ∀ k ∈ s.kept, k.seq ≤ Q s.no
theorem tab_in {t : List SsD} {sess : Int} {x : SsD} (h : x ∈ tabS t sess) : x ∈ t ∨ x = ⟨sess, 0, []⟩ := by
  unfold tabS at h
  split at h
  · exact .inl h
  · exact insAt_mem.1 h
theorem tab_le (t : List SsD) (sess : Int) : (tabS t sess).length ≤ t.length + 1 := by
  unfold tabS
  split
  · omega
  · rw [insAt_len _ (by have := pos_le (nosT t) sess; unfold nosT at this ⊢; rwa [List.length_map] at this)]
    exact Nat.le_refl _
theorem fresh {N : Int → Prop} {Q : Int → Int} {t : List SsD} (h : Fr N Q t) {sess seq ack : Int} (hl : t.length < 16) (hN : N sess) (hq0 : 0 ≤ Q sess) (hqa : Q sess ≤ ack) (has : ack < seq) :
    (askV t sess seq ack).d = false ∧ ∀ (k re im : Int) (Q' : Int → Int), (∀ x, x ≠ sess → Q x ≤ Q' x) → seq ≤ Q' sess → Fr N Q' (keepV (askV t sess seq ack).t sess seq k re im) ∧ (keepV (askV t sess seq ack).t sess seq k re im).length ≤ t.length + 1 := by
  rcases ask_cases t sess seq ack with ⟨_, hf, _⟩ | ⟨hn, s, hs, hsn, hs1, hs2, e⟩
  · omega
  have hsb : s.ack ≤ ack ∧ ∀ k ∈ s.kept, k.seq ≤ ack := by
    rcases tab_in (List.mem_of_getElem? hs) with q | q
    · exact ⟨by have := h.ack s q; rw [hsn] at this; omega, fun k hk => by have := h.kept s q k hk; rw [hsn] at this; omega⟩
    · rw [q]; exact ⟨by show (0 : Int) ≤ ack; omega, fun k hk => by cases hk⟩
  obtain ⟨u, eu⟩ : ∃ u, u = updS ack s := ⟨_, rfl⟩
  have hu : u = ⟨sess, ack, []⟩ := by
    rw [eu]; unfold updS
    rw [hsn, show max s.ack ack = ack by omega, List.filter_eq_nil_iff.2 fun k hk q => by
      have := of_decide_eq_true q
      have := hsb.2 k hk
      omega]
  obtain ⟨T, eT⟩ : ∃ T, T = (tabS t sess).set (posI (nosT t) sess) ⟨sess, ack, []⟩ := ⟨_, rfl⟩
  have ea : askV t sess seq ack = ⟨T, 0, 0, 0, false⟩ := by
    rw [e, ← eu, hu, ← eT]
    have h0 : hitI (seqsK []) seq = false := by unfold hitI; simp [seqsK]
    unfold askS
    rw [if_neg (by show ¬ seq ≤ ack; omega), if_neg (by rw [h0]; decide), if_neg (by simp)]
  rw [ea]
  refine ⟨rfl, fun k re im Q' h1 h2 => ?_⟩
  dsimp only
  have base : ∀ x ∈ T, N x.no ∧ x.ack ≤ Q' x.no ∧ ∀ k ∈ x.kept, k.seq ≤ Q' x.no := fun x hx => by
    rw [eT] at hx
    have old : x ∈ t → N x.no ∧ x.ack ≤ Q' x.no ∧ ∀ k ∈ x.kept, k.seq ≤ Q' x.no := fun q => by
      have le : Q x.no ≤ Q' x.no := by
        by_cases hx2 : x.no = sess
        · rw [hx2]; omega
        · exact h1 _ hx2
      exact ⟨h.no x q, Int.le_trans (h.ack x q) le, fun k hk => Int.le_trans (h.kept x q k hk) le⟩
    rcases List.mem_or_eq_of_mem_set hx with hx | hx
    · rcases tab_in hx with q | q
      · exact old q
      · rw [q]; exact ⟨hN, by show (0 : Int) ≤ Q' sess; omega, fun k hk => by cases hk⟩
    · rw [hx]; exact ⟨hN, by show ack ≤ Q' sess; omega, fun k hk => by cases hk⟩
  have hlen : T.length ≤ t.length + 1 := by rw [eT, List.length_set]; exact tab_le t sess
  have fin : Fr N Q' T ∧ T.length ≤ t.length + 1 := ⟨⟨fun x hx => (base x hx).1, fun x hx => (base x hx).2.1, fun x hx => (base x hx).2.2⟩, hlen⟩
  unfold keepV
  split
  · exact fin
  rename_i hh
  split
  · exact fin
  rename_i s' hs'
  split
  · exact fin
  have hno : s'.no = sess := by
    have hh2 : hitI (nosT T) sess = true := by simpa using hh
    have h3 : (T.map SsD.no)[posI (nosT T) sess]? = some sess := hit_iff.1 hh2
    rw [List.getElem?_map, hs'] at h3
    simpa using h3
  obtain ⟨b1, b2, b3⟩ := base s' (List.mem_of_getElem? hs')
  refine ⟨⟨fun x hx => ?_, fun x hx => ?_, fun x hx => ?_⟩, by rw [List.length_set]; exact hlen⟩
  · rcases List.mem_or_eq_of_mem_set hx with hx | hx
    · exact (base x hx).1
    · rw [hx]; exact b1
  · rcases List.mem_or_eq_of_mem_set hx with hx | hx
    · exact (base x hx).2.1
    · rw [hx]; exact b2
  · rcases List.mem_or_eq_of_mem_set hx with hx | hx
    · exact (base x hx).2.2
    · rw [hx]
      intro k2 hk2
      rcases insAt_mem.1 hk2 with q | q
      · exact b3 k2 q
      · rw [q]; show seq ≤ Q' s'.no; rw [hno]; exact h2
def bt (c : CmD) : Vl := ⟨1, [c], []⟩
theorem bt_zero {c : CmD} (hc : cmdV c = 0) : valE (bt c) = 0 := by
  unfold valE bt
  simp [firstE, hc]
theorem exec_one {I : Im} (h : imOk I) {c : CmD} (hc : cmdV c = 0) (hs : I.sl + 1 ≤ 1099511627776) {N : Int → Prop} {Q : Int → Int} (hF : Fr N Q I.tb) (hl : I.tb.length < 16) (hN : N c.sess) (hq0 : 0 ≤ Q c.sess) (hqa : Q c.sess ≤ c.ack) :
    ExecOk I (I.sl + 1) (bt c) (execV I (I.sl + 1) (bt c)) ∧ ∃ a : AnD, (execV I (I.sl + 1) (bt c)).an = [a] ∧ 1 ≤ a.k ∧ a.k ≤ 3 ∧ a.re = (applyM I.regs c.op).2.2.1 ∧ ∀ Q' : Int → Int, (∀ x, x ≠ c.sess → Q x ≤ Q' x) → c.seq ≤ Q' c.sess → Fr N Q' (execV I (I.sl + 1) (bt c)).i.tb ∧ (execV I (I.sl + 1) (bt c)).i.tb.length ≤ I.tb.length + 1 := by
  have ok := exec_ok h rfl hs (fun q => absurd q (by show ¬ (1 : Int) = 2; decide)) (bt_zero hc) (fun x hx => by cases hx)
  refine ⟨ok, ?_⟩
  obtain ⟨c1, c2, c3, c4, c5, c6, c7⟩ := opB_of hc
  obtain ⟨f1, f2⟩ := fresh hF (seq := c.seq) hl hN hq0 hqa c6
  have hg : goI I (I.sl + 1) (bt c) = ⟨I.ep, I.mem, I.sl + 1, I.regs, I.tb⟩ := by unfold goI; rw [if_neg (by show ¬ (1 : Int) = 2; decide)]
  have hr : runV (goI I (I.sl + 1) (bt c)) c = ⟨⟨I.ep, I.mem, I.sl + 1, (applyM I.regs c.op).1, keepV (askV I.tb c.sess c.seq c.ack).t c.sess c.seq (applyM I.regs c.op).2.1 (applyM I.regs c.op).2.2.1 (applyM I.regs c.op).2.2.2⟩, (applyM I.regs c.op).2.1, (applyM I.regs c.op).2.2.1, (applyM I.regs c.op).2.2.2⟩ := by
    rw [hg]
    unfold runV
    rw [if_neg (by rw [f1]; decide)]
  obtain ⟨k1, k2⟩ := apply_kind h.1.regs c7
  refine ⟨⟨c.sess, c.seq, (applyM I.regs c.op).2.1, (applyM I.regs c.op).2.2.1, (applyM I.regs c.op).2.2.2⟩, ?_, k1, k2, rfl, fun Q' h1 h2 => ?_⟩
  · rw [ok.an]
    show ([] ++ [AnD.mk c.sess c.seq (runV (goI I (I.sl + 1) (bt c)) c).k (runV (goI I (I.sl + 1) (bt c)) c).re (runV (goI I (I.sl + 1) (bt c)) c).im]) = _
    rw [hr]; rfl
  · rw [ok.i]
    show Fr N Q' (runV (goI I (I.sl + 1) (bt c)) c).i.tb ∧ (runV (goI I (I.sl + 1) (bt c)) c).i.tb.length ≤ _
    rw [hr]
    exact f2 _ _ _ Q' h1 h2
structure SI (m : List Int) (I : Im) (hs : List (Vo Vl)) (L : List It) : Prop where
  ok : imOk I
  sl : I.sl = (hs.length : Int)
  len : L.length = hs.length
  play : ∀ tail, playV (firstI m) [] (hs ++ tail) = playV I (addAll [] L) tail
theorem SI.nil {m : List Int} (h : setOkB m = true) (hm : ∀ x ∈ m, I64 x) : SI m (firstI m) [] [] :=
  ⟨⟨⟨(by show (0 : Int) ≤ 0; omega), (by show (0 : Int) ≤ _; omega), (by show (0 : Int) ≤ 0; omega), (by show (0 : Int) ≤ _; omega), h, (by show validL z16 = true; kernel_rfl), (validT_iff []).1 (by kernel_rfl)⟩, rfl, hm⟩, rfl, rfl, fun _ => rfl⟩
theorem playV_c (I : Im) (ps : List Pc) (x : Vo Vl) (r : List (Vo Vl)) : playV I ps (x :: r) = if (execV I x.s x.v).e ≠ 0 then (ps, (execV I x.s x.v).e) else playV (execV I x.s x.v).i (addAll ps (x.v.cs.zip (execV I x.s x.v).an)) r := by rw [playV]
theorem SI.step {m : List Int} {I : Im} {hs : List (Vo Vl)} {L : List It} (h : SI m I hs L) {c : CmD} {a : AnD} (ok : ExecOk I (I.sl + 1) (bt c) (execV I (I.sl + 1) (bt c))) (ha : (execV I (I.sl + 1) (bt c)).an = [a]) : SI m (execV I (I.sl + 1) (bt c)).i (hs ++ [⟨I.sl + 1, 0, 0, bt c⟩]) (L ++ [(c, a)]) :=
  ⟨ok.ok, by rw [ok.sl, h.sl, List.length_append]; rfl, by rw [List.length_append, List.length_append, h.len]; rfl, fun tail => by
    rw [List.append_assoc, h.play, List.singleton_append]
    rw [playV_c, if_neg (by show ¬ (execV I (I.sl + 1) (bt c)).e ≠ 0; rw [ok.e]; decide)]
    show playV (execV I (I.sl + 1) (bt c)).i (addAll (addAll [] L) ([c].zip (execV I (I.sl + 1) (bt c)).an)) tail = _
    rw [ha, addAll_app]; rfl⟩
theorem SI.check {m : List Int} {I : Im} {hs : List (Vo Vl)} {L : List It} (h : SI m I hs L) (es : List Ev) (loose : Bool) : checkV m hs es loose = chkV (addAll [] L) loose [] 0 es := by
  have := h.play []
  rw [List.append_nil] at this
  unfold checkV
  rw [this]
  unfold playV
  exact if_neg (fun q => q rfl)
theorem keyed_snoc {L : List It} (h : Keyed L) {z : It} (hz : ∀ y ∈ L, itKey y ≠ itKey z) : Keyed (L ++ [z]) := by
  unfold Keyed at h ⊢
  rw [List.map_append]
  exact List.nodup_append.2 ⟨h, by simp, fun x hx y hy e => by
    obtain ⟨q, hq, rfl⟩ := List.mem_map.1 hx
    simp only [List.map_cons, List.map_nil, List.mem_singleton] at hy
    exact hz q hq (by rw [e, hy])⟩
end Go.Proofs.Ytbedoemdjlollaa

namespace Go.Proofs.Ytbedoemdjlollaa
open Go Go.ChangeShapes Go.WideShapes Go.ChangeAt Go.RowKit Go.Syn Go.Eng
set_option linter.unusedVariables false
set_option linter.unusedSimpArgs false
set_option maxRecDepth 100000
def upd (f : Nat → Int) (n : Nat) (v : Int) (x : Nat) : Int := if x = n then v else f x
def four (f : Nat → Int) : List Value := [.int .i64 (f 0), .int .i64 (f 1), .int .i64 (f 2), .int .i64 (f 3)]
theorem get4 (f : Nat → Int) : ∀ {N : Nat}, N ≤ 3 → (four f)[N]? = some (.int .i64 (f N))
  | 0, _ => rfl
  | 1, _ => rfl
  | 2, _ => rfl
  | 3, _ => rfl
  | n + 4, h => by omega
theorem g4 (f : Nat → Int) {K : Nat} (hK : K ≤ 3) (j : Nat) (u : Value) (hj : [Value.int .i64 (f K)][j]? = some u) : (four f)[0 + K * 1 + j]? = some u := by
  cases j with
  | zero =>
    simp only [List.getElem?_cons_zero, Option.some.injEq] at hj
    subst hj
    rw [show 0 + K * 1 + 0 = K by omega]
    exact get4 f hK
  | succ j => cases hj
structure SePl (f : Nat → Int) (k : Nat) (L : List It) (tb : List SsD) : Prop where
  fr : Fr (fun x => 1 ≤ x ∧ x ≤ 4) (fun x => f (x - 1).toNat) tb
  f0 : ∀ j, 0 ≤ f j ∧ f j ≤ (k : Int)
  keyed : Keyed L
  le : ∀ z ∈ L, 1 ≤ z.1.sess ∧ z.1.sess ≤ 4 ∧ 1 ≤ z.1.seq ∧ z.1.seq ≤ f (z.1.sess - 1).toNat
theorem SePl.more {f : Nat → Int} {k : Nat} {L : List It} {tb : List SsD} (h : SePl f k L tb) : SePl f (k + 1) L tb := ⟨h.fr, fun j => ⟨(h.f0 j).1, by have := (h.f0 j).2; omega⟩, h.keyed, h.le⟩
theorem SePl.step {f : Nat → Int} {k : Nat} {L : List It} {tb tb' : List SsD} (h : SePl f k L tb) {J : Nat} (hJ : J ≤ 3) {c : CmD} {a : AnD} (hs : c.sess = (J : Int) + 1) (hq : c.seq = f J + 1) (htb : ∀ Q' : Int → Int, (∀ x, x ≠ c.sess → f (x - 1).toNat ≤ Q' x) → c.seq ≤ Q' c.sess → Fr (fun x => 1 ≤ x ∧ x ≤ 4) Q' tb') : SePl (upd f J (f J + 1)) (k + 1) (L ++ [(c, a)]) tb' := by
  have eJ : (c.sess - 1).toNat = J := by omega
  have mono : ∀ j, f j ≤ upd f J (f J + 1) j := fun j => by
    unfold upd
    by_cases q : j = J
    · rw [if_pos q, q]; omega
    · rw [if_neg q]; exact Int.le_refl _
  have hne : ∀ z ∈ L, itKey z ≠ itKey (c, a) := fun z hz e => by
    obtain ⟨z1, z2, _, z3⟩ := h.le z hz
    have e1 : z.1.sess = c.sess := congrArg Prod.fst e
    have e2 : z.1.seq = c.seq := congrArg Prod.snd e
    rw [e1, eJ] at z3
    omega
  refine ⟨htb _ (fun x _ => mono _) ?_, fun j => ?_, keyed_snoc h.keyed hne, fun z hz => ?_⟩
  · show c.seq ≤ upd f J (f J + 1) (c.sess - 1).toNat
    rw [eJ]; unfold upd; rw [if_pos rfl]; omega
  · have := h.f0 j
    have := (h.f0 J)
    unfold upd
    by_cases q : j = J
    · rw [if_pos q]; omega
    · rw [if_neg q]; omega
  · rcases List.mem_append.1 hz with hz | hz
    · obtain ⟨z1, z2, z4, z3⟩ := h.le z hz
      exact ⟨z1, z2, z4, Int.le_trans z3 (mono _)⟩
    · rw [List.mem_singleton.1 hz]
      have := (h.f0 J)
      refine ⟨by show 1 ≤ c.sess; omega, by show c.sess ≤ 4; omega, by show 1 ≤ c.seq; omega, ?_⟩
      show c.seq ≤ upd f J (f J + 1) (c.sess - 1).toNat
      rw [eJ]; unfold upd; rw [if_pos rfl]; omega
theorem evs_keys {L : List It} (h : ∀ z ∈ L, KyFit (itKey z)) : ∀ e ∈ evsOf L, KyFit e.key := fun e he => by
  obtain ⟨z, hz, q⟩ := List.mem_flatMap.1 he
  simp only [List.mem_cons, List.not_mem_nil, or_false] at q
  rcases q with rfl | rfl
  · exact h z hz
  · exact h z hz
theorem lit_vo0 (w : World) : (Instr.buildSlice 24 0 #[]).run Try.prog w = .ok (.slice (some ⟨w.heap.size, 0, none⟩) 0 0) (w.alloc (.cells ([] : List Value).toArray 39)) := by kernel_rfl
theorem lit_ev0 (w : World) : (Instr.buildSlice 45 0 #[]).run Try.prog w = .ok (.slice (some ⟨w.heap.size, 0, none⟩) 0 0) (w.alloc (.cells ([] : List Value).toArray 66)) := by kernel_rfl
theorem lit_cmd (c : CmD) (w : World) : (Instr.buildSlice 32 1 #[(0, .agg c.cells.toArray)]).run Try.prog w = .ok (.slice (some ⟨w.heap.size, 0, none⟩) 1 1) (w.alloc (.cells (ccells [c]).toArray 43)) := by kernel_rfl
theorem lit_vote (z : Vo Pv) (w : World) : (Instr.buildSlice 24 1 #[(0, .agg (voC z).toArray)]).run Try.prog w = .ok (.slice (some ⟨w.heap.size, 0, none⟩) 1 1) (w.alloc (.cells (voC z).toArray 39)) := by kernel_rfl
theorem lit_ev2 (x y : Ev) (w : World) : (Instr.buildSlice 45 2 #[(0, .agg x.cells.toArray), (1, .agg y.cells.toArray)]).run Try.prog w = .ok (.slice (some ⟨w.heap.size, 0, none⟩) 2 2) (w.alloc (.cells (evcs [x, y]).toArray 66)) := by kernel_rfl
theorem bt_fit (c : CmD) : VlFit (bt c) := ⟨(fun n h => by cases h), (by show 1 ≤ _; omega), (by show 0 ≤ _; omega)⟩
def erow (a : Option Addr) (c : Nat) (es : List Ev) : HX := HX.rw 12 66 a es.length c (evcs es)
theorem evcs_snoc2 (es : List Ev) (x y : Ev) : evcs es ++ evcs [x, y] = evcs (es ++ [x, y]) := by unfold evcs; rw [List.flatMap_append]
end Go.Proofs.Ytbedoemdjlollaa
