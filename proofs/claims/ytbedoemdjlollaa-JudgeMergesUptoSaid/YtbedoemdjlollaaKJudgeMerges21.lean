/- Part 21 of the texts of a proof about the given program: what the statement's proof needs of them. -/
import Derived.Test.YtbedoemdjlollaaKJudgeMerges20
namespace Go.Proofs.Ytbedoemdjlollaa
open Go Go.ChangeShapes Go.WideShapes Go.ChangeAt Go.RowKit Go.Syn Go.Eng
set_option linter.unusedVariables false
set_option linter.unusedSimpArgs false
set_option maxRecDepth 100000
def JpI (W : World) (hs : List (Vo Pv)) (b1 b2 : Nat) (T : List Pc × Int) (vs : Vals) (hx : HX) (m : Nat) : Prop := ∃ (k : Nat) (I : Im) (a1 : Option Addr) (c1 : Nat) (a2 : Option Addr) (c2 : Nat) (es : List SE) (ps : List Pc) (sa : Option Addr) (sc : Nat), m = hs.length - k ∧ k ≤ hs.length ∧ ImBig I ∧ es.map SE.s = I.tb ∧ PsOk ps ∧ ps.length ≤ 8 * k ∧ playV I ps (vlsOf (hs.drop k)) = T ∧ MdOwn W (imR I a1 a2 es) sa sc b1 b2 ∧ sa.isSome = true ∧
  vs = ⟨(k : Int) :: imI I, [], [.map (some b1), .map (some b2)], [ps.length + 1, sc, I.mem.length, c1, I.tb.length, c2], [sa, a1, a2]⟩ ∧ (imR I a1 a2 es).and (mdX sa sc b1 b2 ps) = hx
theorem firstI_big {xs : List Int} (hI : ∀ x ∈ xs, I64 x) (hl : xs.length * 8 ≤ 140737488351232) : ImBig (firstI xs) := ⟨hI, hl, rfl, (by show (0 : Nat) * 40 ≤ _; decide), fun s hs => by cases hs⟩
theorem drop_vo {hs : List (Vo Pv)} {k : Nat} {x : Vo Pv} (h : hs[k]? = some x) : vlsOf (hs.drop k) = Vo.map Pv.v x :: vlsOf (hs.drop (k + 1)) := by
  obtain ⟨hk, e⟩ := List.getElem?_eq_some_iff.1 h
  rw [List.drop_eq_getElem_cons hk, e]; rfl
theorem pl_done {w : World} {Z : HX} {sa : Option Addr} {sc b1 b2 : Nat} {ps : List Pc} {e : Int} {v : SV} {m : Mem} {ρ : Env} {S : Stack} (hown : MdOwn w Z sa sc b1 b2) (hv : ∀ ids, v.den ρ ids = .tuple #[mdV sa sc b1 b2 ps, .int .i64 e]) : (Tree.done v m).holds ⟨Try.prog, w, fun _ => False, PlNew w (ps, e)⟩ ρ [] (Z.and (mdX sa sc b1 b2 ps)) S := fun ids w2 hp hf =>
  ⟨sa, sc, b1, b2, by rw [hv ids], hf.x.2, fun k hk => ⟨hown.F k hk, (hf.sep k (.inr hk)).1⟩, hf.chg.below⟩
set_option maxHeartbeats 4000000 in
theorem play_any (ax : Option Addr) (cx : Nat) (xs : List Int) (ah : Option Addr) (ch : Nat) (hs : List (Vo Pv)) (w : World) (HX0 : Ints w ax xs) (hxl : xs.length * 8 ≤ 140737488351232) (HH : (voX ah hs).X w) (hfit : ∀ x ∈ hs, VlFit x.v.v) (hl : hs.length ≤ 1048576) :
    Calls Try.prog 30 #[.slice ax xs.length cx, .slice ah hs.length ch] w (PlNew w (playV (firstI xs) [] (vlsOf hs))) := by
  refine calls_at (tab_ok _) Try.func30 rfl tJPlay (ρ := ⟨[], [], [], [xs.length, cx, hs.length, ch], [ax, ah]⟩) (ids := []) (hx := HX.nil) rfl (Facts.initP rfl oneNil) ?_
  obtain ⟨T, eT⟩ : ∃ T, T = playV (firstI xs) [] (vlsOf hs) := ⟨_, rfl⟩
  rw [← eT]
  have keepV : ∀ {m : Mem} {ρ : Env} {ids : List Nat} {hx : HX} {w2 : World} {R : Ending → World → Prop} {x : Vo Pv}, x ∈ hs → Facts ⟨Try.prog, w, fun _ => False, R⟩ m ρ ids hx w2 → VlAt w2 x.v.v x.v.a1 x.v.a2 := fun hx hf => (hfit _ hx).at_ ((vlX _ _ _).loc _ _ (voX_at HH hfit hx).X fun k hk => hf.chg.block k (vlX_sep (voX_at HH hfit hx).X k hk) (fun q => q))
  refine node_lit (t := 83) (e := 93) (len := 1) (sz := 16) (stC []) #[(0, .agg (stF z16).toArray)] (by intros; kernel_rfl) (fun w => lit_sta z16 w) rfl (by unfold maxLen; decide) (by intros; kernel_rfl) (by kernel_rfl) (by kernel_rfl) (by intros; kernel_rfl) ?_
  intro la hla
  refine node_kmake (by intros; kernel_rfl) (by kernel_rfl) (by kernel_rfl) (by intros; kernel_rfl) ?_
  intro d1 ho1 hd1
  refine node_kmake (by intros; kernel_rfl) (by kernel_rfl) (by kernel_rfl) (by intros; kernel_rfl) ?_
  intro d2 ho2 hd2
  obtain ⟨I0, eI0⟩ : ∃ I, I = firstI xs := ⟨_, rfl⟩
  have hI0m : I0.mem = xs := by rw [eI0]; rfl
  have hI0t : I0.tb = [] := by rw [eI0]; rfl
  have hI0b : ImBig I0 := by rw [eI0]; exact firstI_big HX0.fits hxl
  refine node_im (V := id) (I := I0) (fun _ => #[.slice ax xs.length cx]) (fun x1 y1 x2 y2 => ⟨imI I0, [], [], [I0.mem.length, y1, I0.tb.length, y2], [x1, x2]⟩) (by intros; kernel_rfl) (fun ids w2 hp hf => by
    rw [eI0]
    exact xfirst_any ax cx xs w2 (Ints.of_cells (by omega) HX0.fits (cl_stay HX0.cells fun k hk => hf.chg.block k hk (fun q => q))) (by omega)) (by intros; kernel_rfl) (by kernel_rfl) (by kernel_rfl) (by intros; kernel_rfl) (fun _ _ _ _ => oneNil) ?_
  intro x1 y1 x2 y2 es0 hm0 hdj0 hsm0 had0 hn0
  have hown0 : MdOwn w (imX I0 x1 x2 y2 es0) la 1 d1 d2 := ⟨fun k h1 h2 => ⟨(hla k h1 h2).1, fun q => hd1 (.inr ⟨h1, by rw [h2, q]⟩), fun q => hd2 (.inl (.inr ⟨h1, by rw [h2, q]⟩)), fun q => (hn0 k q).2 (.inl (.inl (.inr ⟨h1, h2⟩)))⟩, ⟨ho1, fun q => (hn0 _ q).2 (.inl (.inr rfl))⟩, ⟨ho2, fun q => (hn0 _ q).2 (.inr rfl)⟩, fun q => hd2 (.inr q.symm)⟩
  refine ⟨JpI w hs d1 d2 T, fun ids w2 hp hf => ⟨(imR I0 x1 x2 es0).and (mdX la 1 d1 d2 []), hs.length, ⟨⟨(imR_of hf.x.2).1, ⟨⟨hf.x.1.1.1.2, hf.x.1.1.2⟩, hf.x.1.2⟩⟩, fun k hk => hf.sep k (hk.elim (fun z => .inr ((imR_of hf.x.2).2 k z)) (fun z => .inl (z.elim (fun z => z.elim (fun z => .inl (.inl (.inr z))) (fun z => .inl (.inr z))) .inr)))⟩, 0, I0, x1, y1, x2, y2, es0, [], la, 1, rfl, Nat.zero_le _, hI0b, hm0, (fun p hp => by cases hp), Nat.zero_le _, by rw [eT, eI0]; rfl, hown0.mono (fun k hk => .inl ((imR_of hf.x.2).2 k hk)), row_isS hf.x.1.1.1.2 (by simp [stC, stL, stF, rgs]), by kernel_rfl, rfl⟩, ?_⟩
  rintro vs hx' n hcnt ⟨k, I, a1, c1, a2, c2, es, ps, sa, sc, rfl, hk, hB, hes, hps, hpl, hT, hown, hsa, rfl, rfl⟩
  have hesl : es.length = I.tb.length := by rw [← hes, List.length_map]
  have btb := hB.tb
  have bmem := hB.len
  refine holds_env (ρ' := ⟨imI I0 ++ [(k : Int)] ++ imI I, [], [.map (some d1), .map (some d2), .map (some d1), .map (some d2)], [xs.length, cx, hs.length, ch, 1, 1, I0.mem.length, y1, I0.tb.length, y2, ps.length + 1, sc, I.mem.length, c1, I.tb.length, c2], [ax, ah, la, x1, x2, sa, a1, a2]⟩) (by kernel_rfl) ?_
  refine br_D (p := (k : Int) < (hs.length : Int)) (by kernel_rfl) (fun hlt => ?B) (fun hlt => ?E)
  case E =>
    have hke : k = hs.length := by omega
    have hT2 : T = (ps, 0) := by rw [← hT, hke, List.drop_length]; rfl
    rw [hT2]
    exact pl_done hown (by intros; kernel_rfl)
  have hlt : k < hs.length := by omega
  obtain ⟨x, hx⟩ : ∃ b, hs[k]? = some b := ⟨_, List.getElem?_eq_getElem hlt⟩
  have hxm := List.mem_of_getElem? hx
  have hxv := hfit x hxm
  obtain ⟨s1, g1⟩ := vo_part HH hx 0 (voC x) (fun j u hj => by rw [Nat.zero_add]; exact hj) (by simp [voC])
  have one4 : ∀ v, v ∈ ([.map (some d1), .map (some d2), .map (some d1), .map (some d2)] : List Value) → v.oneCell' = true := fun v hv => by
    simp only [List.mem_cons, List.not_mem_nil, or_false] at hv
    rcases hv with rfl | rfl | rfl | rfl <;> rfl
  have one6 : ∀ v, v ∈ ([.map (some d1), .map (some d2), .map (some d1), .map (some d2)] ++ [.map (some d1), .map (some d2)] : List Value) → v.oneCell' = true := fun v hv => by
    simp only [List.mem_append, List.mem_cons, List.not_mem_nil, or_false] at hv
    rcases hv with (rfl | rfl | rfl | rfl) | rfl | rfl <;> rfl
  refine need_k (ah.isSome = true ∧ (0 : Int) ≤ (k : Int) ∧ (k : Int) < (hs.length : Int)) (by kernel_rfl) ⟨s1, by omega, by omega⟩ ?_
  refine node_ld0 (k := ⟨37, 0, 4, 16, 8⟩) ⟨[x.s, x.r, x.n, x.v.v.k], [], [], [x.v.v.cs.length, x.v.c1, x.v.v.ns.length, x.v.c2], [x.v.a1, x.v.a2]⟩ (.pointer (some (((ah.getD ⟨0, 0, none⟩).add (k * 6)).add 0))) (voC x) (by intros; kernel_rfl) (by intros; kernel_rfl) g1 ⟨by kernel_rfl, one4⟩ (by kernel_rfl) oneNil ?_
  obtain ⟨R, eR⟩ : ∃ R, R = execV I x.s x.v.v := ⟨_, rfl⟩
  have hstep : T = if R.e ≠ 0 then (ps, R.e) else playV R.i (addAll ps (x.v.v.cs.zip R.an)) (vlsOf (hs.drop (k + 1))) := by rw [← hT, drop_vo hx, eR]; rfl
  obtain ⟨bR, bRa, bRo⟩ := exec_big hB x.s x.v.v hxv.n
  rw [← eR] at bR bRa bRo
  have hz0 : R.e = 0 → valE x.v.v = 0 ∧ R.an.length = x.v.v.cs.length := fun h => ⟨(exec_zero (by rw [← eR]; exact h)).2.2.2.2, by rw [eR]; exact exec_an (by rw [← eR]; exact h)⟩
  have hwk : IntKind.i64.wrap ((k : Int) + 1) = ((k + 1 : Nat) : Int) := by rw [wrap_i64 (by omega)]; omega
  refine br_B (x.v.v.k != 1) (by kernel_rfl) (fun hkd => ?_) (fun hkd => ?_)
  all_goals
    refine node_ex (R := R) (fun _ => #[imV I a1 c1 a2 c2, .int .i64 x.s, x.v.val]) (by intros; kernel_rfl) (fun ids w2 hp hf => eR ▸ xexec_any I a1 c1 a2 c2 es x.s x.v.v x.v.a1 x.v.c1 x.v.a2 x.v.c2 w2 (hB.at_ hes hf.x.1) (by omega) (by omega) (keepV hxm hf)) (by intros; kernel_rfl) (by kernel_rfl) (by kernel_rfl) (by intros; kernel_rfl) ?_
    intro q1 r1 q2 r2 es2 oa oc hm2 hdj2 hsm2 hso2 hn2
    refine holds_eq (HX.and_right_comm _ _ _) ?_
    have hown2 : MdOwn w ((imR I a1 a2 es).and (exX R q1 q2 r2 es2 oa)) sa sc d1 d2 := hown.mono fun j hj => hj.elim .inl fun z => .inr ⟨(hn2 j z).1, fun q => (hn2 j z).2 (.inr (q.elim (fun q => .inl (.inr q)) fun q => q.elim .inr fun q => .inl (.inl q)))⟩
    have hZ : ∀ {w2 : World}, ((imR I a1 a2 es).and (exX R q1 q2 r2 es2 oa)).X w2 → (imR R.i q1 q2 es2).X w2 ∧ ∀ j, (imR R.i q1 q2 es2).F j → ((imR I a1 a2 es).and (exX R q1 q2 r2 es2 oa)).F j := fun h => ⟨(imR_of h.2.1).1, fun j hj => .inr (.inl ((imR_of h.2.1).2 j hj))⟩
    obtain ⟨Z, eZ⟩ : ∃ Z, Z = (imR I a1 a2 es).and (exX R q1 q2 r2 es2 oa) := ⟨_, rfl⟩
    have hZo : ∀ {w2 : World}, Z.X w2 → Cells w2 oa (ancells R.an) := fun h => by rw [eZ] at h; exact h.2.2
    rw [← eZ] at hown2 hZ ⊢
    refine holds_env (ρ' := ⟨imI I0 ++ [(k : Int)] ++ imI I ++ [x.s, x.r, x.n, x.v.v.k] ++ imI R.i ++ [R.e], [], [.map (some d1), .map (some d2), .map (some d1), .map (some d2)], [xs.length, cx, hs.length, ch, 1, 1, I0.mem.length, y1, I0.tb.length, y2, ps.length + 1, sc, I.mem.length, c1, I.tb.length, c2] ++ [x.v.v.cs.length, x.v.c1, x.v.v.ns.length, x.v.c2, R.i.mem.length, r1, R.i.tb.length, r2, R.an.length, oc], [ax, ah, la, x1, x2, sa, a1, a2] ++ [x.v.a1, x.v.a2, q1, q2, oa]⟩) (by kernel_rfl) ?_
    refine br_B (R.e != 0) (by kernel_rfl) (fun he => ?_) (fun he => ?_)
    · rw [if_pos (by simpa using he)] at hstep
      rw [hstep]
      exact pl_done hown2 (by intros; kernel_rfl)
    have he : R.e = 0 := by simpa using he
    obtain ⟨hv0, hal⟩ := hz0 he
    rw [if_neg (fun q => q he)] at hstep
  · have hcs : x.v.v.cs = [] := by
      rcases valE_zero hv0 with q | q | q
      · exact q.2.1
      · exact q.2.1
      · rw [q.1] at hkd; simp at hkd
    rw [hcs] at hstep
    exact again_W ⟨IntKind.i64.wrap ((k : Int) + 1) :: imI R.i, [], [.map (some d1), .map (some d2)], [ps.length + 1, sc, R.i.mem.length, r1, R.i.tb.length, r2], [sa, q1, q2]⟩ rfl (by intros; kernel_rfl) ((imR R.i q1 q2 es2).and (mdX sa sc d1 d2 ps)) (fun w2 ids hf => ⟨⟨⟨(hZ hf.x.1).1, hf.x.2⟩, fun j hj => hf.sep j (hj.elim (fun z => .inl ((hZ hf.x.1).2 j z)) .inr)⟩, hs.length - (k + 1), by omega, k + 1, R.i, q1, r1, q2, r2, es2, ps, sa, sc, rfl, by omega, bR, hm2, hps, by omega, hstep.symm, hown2.mono (fun j hj => .inl ((hZ hf.x.1).2 j hj)), hsa, by rw [hwk], rfl⟩)
  have hc8 : x.v.v.cs.length ≤ 8 := by
    rcases valE_zero hv0 with q | q | q
    · rw [q.2.1]; decide
    · rw [q.2.1]; decide
    · exact q.2.1
  obtain ⟨l, el⟩ : ∃ l, l = x.v.v.cs.zip R.an := ⟨_, rfl⟩
  have hll : l.length = x.v.v.cs.length := by rw [el, List.length_zip, hal, Nat.min_self]
  rw [← el] at hstep
  refine ⟨JqI w Z x.v.v.cs.length d1 d2 ps.length l (addAll ps l), fun ids w2 hp hf => ⟨_, x.v.v.cs.length, ⟨hf.x, hf.sep⟩, 0, ps, sa, sc, rfl, Nat.zero_le _, hps, Nat.le_refl _, rfl, hown2, hsa, by kernel_rfl, rfl⟩, ?_⟩
  rintro vs hx' n2 hcnt2 ⟨j, ps2, sb, sd, rfl, hj, hps2, hpl2, hT2, hown3, hsb, rfl, rfl⟩
  refine holds_env (ρ' := ⟨imI I0 ++ [(k : Int)] ++ imI I ++ [x.s, x.r, x.n, x.v.v.k] ++ imI R.i ++ [R.e] ++ [(j : Int)], [], [.map (some d1), .map (some d2), .map (some d1), .map (some d2)] ++ [.map (some d1), .map (some d2)], [xs.length, cx, hs.length, ch, 1, 1, I0.mem.length, y1, I0.tb.length, y2, ps.length + 1, sc, I.mem.length, c1, I.tb.length, c2] ++ [x.v.v.cs.length, x.v.c1, x.v.v.ns.length, x.v.c2, R.i.mem.length, r1, R.i.tb.length, r2, R.an.length, oc] ++ [ps2.length + 1, sd], [ax, ah, la, x1, x2, sa, a1, a2] ++ [x.v.a1, x.v.a2, q1, q2, oa] ++ [sb]⟩) (by kernel_rfl) ?_
  have hwj : IntKind.i64.wrap ((j : Int) + 1) = ((j + 1 : Nat) : Int) := by rw [wrap_i64 (by omega)]; omega
  refine br_D (p := (j : Int) < (x.v.v.cs.length : Int)) (by kernel_rfl) (fun hjl => ?B2) (fun hjl => ?E2)
  case E2 =>
    have hje : j = l.length := by omega
    have hT3 : ps2 = addAll ps l := by rw [← hT2, hje, List.drop_length]; rfl
    rw [← hT3] at hstep
    exact again_W ⟨IntKind.i64.wrap ((k : Int) + 1) :: imI R.i, [], [.map (some d1), .map (some d2)], [ps2.length + 1, sd, R.i.mem.length, r1, R.i.tb.length, r2], [sb, q1, q2]⟩ rfl (by intros; kernel_rfl) ((imR R.i q1 q2 es2).and (mdX sb sd d1 d2 ps2)) (fun w2 ids hf => ⟨⟨⟨(hZ hf.x.1).1, hf.x.2⟩, fun j hj => hf.sep j (hj.elim (fun z => .inl ((hZ hf.x.1).2 j z)) .inr)⟩, hs.length - (k + 1), by omega, k + 1, R.i, q1, r1, q2, r2, es2, ps2, sb, sd, rfl, by omega, bR, hm2, hps2, by omega, hstep.symm, hown3.mono (fun j hj => .inl ((hZ hf.x.1).2 j hj)), hsb, by rw [hwk], rfl⟩)
  have hjl : j < x.v.v.cs.length := by omega
  obtain ⟨c, hc⟩ : ∃ c, x.v.v.cs[j]? = some c := ⟨_, List.getElem?_eq_getElem hjl⟩
  obtain ⟨a, ha⟩ : ∃ a, R.an[j]? = some a := ⟨_, List.getElem?_eq_getElem (by omega)⟩
  have hlj : l[j]? = some (c, a) := by rw [el]; exact List.getElem?_zip_eq_some.2 ⟨hc, ha⟩
  have hce := c_elt (voX_at HH hfit hxm).c hc
  have hcv := opB_of (cs_ok hv0 c (List.mem_of_getElem? hc))
  have hky : KyFit (c.sess, c.seq) := ⟨⟨by show _ ≤ c.sess; omega, by show c.sess ≤ _; omega⟩, by show _ ≤ c.seq; omega, by show c.seq ≤ _; omega⟩
  refine need_k (x.v.a1.isSome = true ∧ (0 : Int) ≤ (j : Int) ∧ (j : Int) < (x.v.v.cs.length : Int)) (by kernel_rfl) ⟨hce.1, by omega, by omega⟩ ?_
  refine node_ld0 (k := ⟨61, 0, 6, 28, 14⟩) ⟨c.is, [], [], [], []⟩ (.pointer (some (((x.v.a1.getD ⟨0, 0, none⟩).add (j * 8)).add 0))) c.cells (by intros; kernel_rfl) (by intros; kernel_rfl) (hce.2 _ (fun q => q)) ⟨by kernel_rfl, one6⟩ (by kernel_rfl) oneNil ?_
  refine node_klook (kt := 91) (et := 3) (z := .int .i64 0) ⟨[(findP (c.sess, c.seq) ps2 : Int)], [decide (findP (c.sess, c.seq) ps2 ≠ 0)], [], [], []⟩ d1 (atM ps2) (c.sess, c.seq) kyOk hky (fun w2 hX => hX.2.1.2) (by intros; kernel_rfl) (by intros; kernel_rfl) (by kernel_rfl) (fun w2 => by kernel_rfl) (fun ids => by rw [klk_at0, klk_at1]; kernel_rfl) (by kernel_rfl) (by kernel_rfl) (by kernel_rfl) oneNil ?_
  refine need_k (oa.isSome = true ∧ (0 : Int) ≤ (j : Int) ∧ (j : Int) < (R.an.length : Int)) (by kernel_rfl) ⟨hso2 (fun q => by rw [q] at ha; simp at ha), by omega, by omega⟩ ?_
  refine node_ldk ⟨[a.k, a.re, a.im], [], [], [], []⟩ (fun _ => .pointer (some (((oa.getD ⟨0, 0, none⟩).add (j * 5)).add 2))) [.int .i64 a.k, .int .i64 a.re, .int .i64 a.im] (by intros; kernel_rfl) (by intros; kernel_rfl) (fun ids w2 hp hf => (flat_part an_len (hZo hf.x.1) ha (o := 2) [.int .i64 a.k, .int .i64 a.re, .int .i64 a.im] (fun j u hj => by rcases j with _ | _ | _ | j; exact hj; exact hj; exact hj; cases hj) (by simp)).2 _ (fun q => q)) (by kernel_rfl) oneNil ?_
  have skip : addP ps2 (c, a) = ps2 → addAll ps2 (l.drop (j + 1)) = addAll ps l := fun h => by rw [← hT2, addAll_step ps2 hlj, h]
  refine br_B (decide (findP (c.sess, c.seq) ps2 ≠ 0)) (by kernel_rfl) (fun hf => ?R1) (fun hf => ?R2)
  case R1 =>
    have hf : findP (c.sess, c.seq) ps2 ≠ 0 := by simpa using hf
    exact again_V ⟨[IntKind.i64.wrap ((j : Int) + 1)], [], [.map (some d1), .map (some d2)], [ps2.length + 1, sd], [sb]⟩ rfl (by intros; kernel_rfl) _ (fun w2 ids hf => ⟨hf.x, hf.sep⟩) ⟨x.v.v.cs.length - (j + 1), by omega, j + 1, ps2, sb, sd, rfl, by omega, hps2, by omega, skip (by unfold addP; rw [if_pos (.inl hf)]), hown3, hsb, by rw [hwj], rfl⟩
  have hf0 : findP (c.sess, c.seq) ps2 = 0 := by simpa using hf
  refine br_D (p := a.k > 3) (by kernel_rfl) (fun hk3 => ?R3) (fun hk3 => ?R4)
  case R3 =>
    exact again_V ⟨[IntKind.i64.wrap ((j : Int) + 1)], [], [.map (some d1), .map (some d2)], [ps2.length + 1, sd], [sb]⟩ rfl (by intros; kernel_rfl) _ (fun w2 ids hf => ⟨hf.x, hf.sep⟩) ⟨x.v.v.cs.length - (j + 1), by omega, j + 1, ps2, sb, sd, rfl, by omega, hps2, by omega, skip (by unfold addP; rw [if_pos (.inr hk3)]), hown3, hsb, by rw [hwj], rfl⟩
  have hw1 : IntKind.i64.wrap (((ps2.length + 1 : Nat) : Int) - 1) = ((ps2.length : Nat) : Int) := by rw [wrap_i64 (by omega)]; omega
  obtain ⟨p, ep⟩ : ∃ p, p = applyM (rgA ps2 ps2.length) c.op := ⟨_, rfl⟩
  have hrl := rgA_len hps2 ps2.length
  have hpl : p.1.length = 16 := by rw [ep]; exact (applyM_len _ _).trans hrl
  have hrr : (stF (rgA ps2 ps2.length)) = (rgA ps2 ps2.length).map (Value.int .i64) := by unfold stF; rw [rgs_of hrl]
  refine need_k (sb.isSome = true ∧ (0 : Int) ≤ IntKind.i64.wrap (((ps2.length + 1 : Nat) : Int) - 1) ∧ IntKind.i64.wrap (((ps2.length + 1 : Nat) : Int) - 1) < ((ps2.length + 1 : Nat) : Int)) (by kernel_rfl) ⟨hsb, by rw [hw1]; omega, by rw [hw1]; omega⟩ ?_
  have hap : ∀ w2, Calls Try.prog 31 #[.agg (stF (rgA ps2 ps2.length)).toArray, .agg c.op.cells.toArray] w2 (PureAt w2 (resV p)) := fun w2 => by rw [ep, hrr]; exact apply_any _ hrl c.op w2
  repeat' refine par_i ?_ ?_
  all_goals
    refine node_ldk ⟨rgs (rgA ps2 ps2.length), [], [], [], []⟩ (fun _ => .pointer (some (((sb.getD ⟨0, 0, none⟩).add ((IntKind.i64.wrap (((ps2.length + 1 : Nat) : Int) - 1)).toNat * 16)).add 0))) (stF (rgA ps2 ps2.length)) (by intros; kernel_rfl) (by intros; kernel_rfl) (fun ids w2 hp hf => by rw [hw1]; exact (st_elt (rw_cells hf.x.2.1.1) (Nat.le_refl _)).2) (by kernel_rfl) oneNil ?_
    repeat' refine par_i ?_ ?_
  all_goals
    refine node_P ⟨rgs p.1 ++ [p.2.1, p.2.2.1, p.2.2.2], [], [], [], []⟩ #[.agg (stF (rgA ps2 ps2.length)).toArray, .agg c.op.cells.toArray] (resV p) (by intros; kernel_rfl) (fun ids => Eq.trans (b := resV (rgs p.1, p.2)) (by kernel_rfl) (by unfold resV; rw [rgs_of hpl])) (by kernel_rfl) (by kernel_rfl) (by kernel_rfl) oneNil (fun ids w2 hp hf => hap w2) ?_
    repeat' refine par_i ?_ ?_
  all_goals
    refine holds_env (ρ' := ⟨imI I0 ++ [(k : Int)] ++ imI I ++ [x.s, x.r, x.n, x.v.v.k] ++ imI R.i ++ [R.e] ++ [(j : Int)] ++ c.is ++ [(findP (c.sess, c.seq) ps2 : Int), a.k, a.re, a.im] ++ rgs (rgA ps2 ps2.length) ++ rgs p.1 ++ [p.2.1, p.2.2.1, p.2.2.2], [decide (findP (c.sess, c.seq) ps2 ≠ 0)], [.map (some d1), .map (some d2), .map (some d1), .map (some d2)] ++ [.map (some d1), .map (some d2)], [xs.length, cx, hs.length, ch, 1, 1, I0.mem.length, y1, I0.tb.length, y2, ps.length + 1, sc, I.mem.length, c1, I.tb.length, c2] ++ [x.v.v.cs.length, x.v.c1, x.v.v.ns.length, x.v.c2, R.i.mem.length, r1, R.i.tb.length, r2, R.an.length, oc] ++ [ps2.length + 1, sd], [ax, ah, la, x1, x2, sa, a1, a2] ++ [x.v.a1, x.v.a2, q1, q2, oa] ++ [sb]⟩) (by kernel_rfl) ?_
    first | exact (jtail p ep (by omega) hf0 hk3 hps2 hlj hpl2 hjl hc8 hT2 hown3 hky rfl).1 | exact (jtail p ep (by omega) hf0 hk3 hps2 hlj hpl2 hjl hc8 hT2 hown3 hky rfl).2
end Go.Proofs.Ytbedoemdjlollaa

namespace Go.Proofs.Ytbedoemdjlollaa
open Go Go.ChangeShapes Go.WideShapes Go.ChangeAt Go.RowKit Go.Syn Go.Eng
set_option linter.unusedVariables false
set_option linter.unusedSimpArgs false
set_option maxRecDepth 100000
structure Ev where
  k : Int
  sess : Int
  seq : Int
  op : OpD
  rk : Int
  rre : Int
  rim : Int
  node : Int
def Ev.key (e : Ev) : Ky := (e.sess, e.seq)
def Ev.res (e : Ev) : Int × Int × Int := (e.rk, e.rre, e.rim)
def Ev.is (e : Ev) : List Int := [e.k, e.sess, e.seq, e.op.kind, e.op.reg, e.op.tg, e.op.re, e.op.im, e.rk, e.rre, e.rim, e.node]
def Ev.cells (e : Ev) : List Value := e.is.map (Value.int .i64)
def evcs (es : List Ev) : List Value := es.flatMap Ev.cells
theorem ev_len (e : Ev) : e.cells.length = 12 := rfl
def lowOf (x : Ky) : List (Ev × Nat) → Option Nat
  | [] => none
  | p :: r => match lowOf x r with
    | some d => some d
    | none => if p.1.k = 1 ∧ p.1.key = x then some p.2 else none
theorem lowOf_app (x : Ky) (p : Ev × Nat) : ∀ l : List (Ev × Nat), lowOf x (l ++ [p]) = if p.1.k = 1 ∧ p.1.key = x then some p.2 else lowOf x l
  | [] => by unfold lowOf; simp [lowOf]
  | q :: r => by
    rw [List.cons_append]
    unfold lowOf
    rw [lowOf_app x p r]
    by_cases h : p.1.k = 1 ∧ p.1.key = x
    · rw [if_pos h]; simp [h]
    · rw [if_neg h]; simp [h]
def srchV (ps : List Pc) (o : OpD) (r : Int × Int × Int) : Nat → Nat → Option Nat
  | 0, _ => none
  | n + 1, q => if (applyM (rgA ps q) o).2 = r then some q else srchV ps o r n (q + 1)
def oneV (ps : List Pc) (e : Ev) (frm : Nat) (loose : Bool) : Nat × Int :=
  if frm < findP e.key ps ∧ rsA ps (findP e.key ps) = e.res then (findP e.key ps, 0)
  else if e.op.kind = 1 then
    (if loose = true then (frm, 0) else match srchV ps e.op e.res (ps.length + 1 - frm) frm with
      | some q => (q, 0)
      | none => (0, 63))
  else if findP e.key ps = 0 ∨ rsA ps (findP e.key ps) ≠ e.res then (0, 63) else (0, 60)
def chkV (ps : List Pc) (loose : Bool) : List (Ev × Nat) → Nat → List Ev → Int
  | _, _, [] => 0
  | seen, done, e :: r =>
    if e.k = 2 then
      match lowOf e.key seen with
      | none => 41
      | some frm =>
        if 3 < e.rk then (if findP e.key ps ≠ 0 then 63 else chkV ps loose (seen ++ [(e, done)]) done r)
        else if (oneV ps e frm loose).2 ≠ 0 then (oneV ps e frm loose).2 else chkV ps loose (seen ++ [(e, done)]) (max done (oneV ps e frm loose).1) r
    else chkV ps loose (seen ++ [(e, done)]) done r
def checkV (xs : List Int) (hs : List (Vo Vl)) (es : List Ev) (loose : Bool) : Int :=
  if (playV (firstI xs) [] hs).2 ≠ 0 then (playV (firstI xs) [] hs).2 else chkV (playV (firstI xs) [] hs).1 loose [] 0 es
theorem playV_ok : ∀ (hs : List (Vo Vl)) (I : Im) (ps : List Pc), PsOk ps → PsOk (playV I ps hs).1 ∧ (playV I ps hs).1.length ≤ ps.length + 8 * hs.length
  | [], I, ps, h => ⟨h, by simp [playV]⟩
  | x :: r, I, ps, h => by
    unfold playV
    by_cases he : (execV I x.s x.v).e ≠ 0
    · rw [if_pos he]; exact ⟨h, by simp⟩
    · rw [if_neg he]
      have he : (execV I x.s x.v).e = 0 := by simpa using he
      have hv := (exec_zero he).2.2.2.2
      have h8 : x.v.cs.length ≤ 8 := by
        rcases valE_zero hv with q | q | q
        · rw [q.2.1]; decide
        · rw [q.2.1]; decide
        · exact q.2.1
      obtain ⟨h1, h2⟩ := playV_ok r (execV I x.s x.v).i (addAll ps (x.v.cs.zip (execV I x.s x.v).an)) (addAll_ok h _)
      have h3 := addAll_len ps (x.v.cs.zip (execV I x.s x.v).an)
      rw [List.length_zip] at h3
      refine ⟨h1, ?_⟩
      rw [List.length_cons]
      omega
theorem srch_le {ps : List Pc} {o : OpD} {r : Int × Int × Int} : ∀ {n q q' : Nat}, srchV ps o r n q = some q' → q ≤ q' ∧ q' < q + n
  | 0, q, q', h => by cases h
  | n + 1, q, q', h => by
    unfold srchV at h
    split at h
    · cases h; omega
    · have := srch_le h; omega
theorem oneV_le {ps : List Pc} {e : Ev} {frm : Nat} {loose : Bool} (h : frm ≤ ps.length) : (oneV ps e frm loose).1 ≤ ps.length := by
  unfold oneV
  split
  · exact findP_le _ _
  · split
    · split
      · exact h
      · split
        · rename_i q hq
          have := srch_le hq
          show q ≤ _
          omega
        · exact Nat.zero_le _
    · split <;> exact Nat.zero_le _
theorem klk_put (m : List (Ky × Value)) (k : Ky) (v : Value) (j : Ky) : klk (kput m k v) j = if j = k then some v else klk m j := by
  unfold kput
  cases h : klk m k with
  | none =>
    simp only [Option.isSome_none, Bool.false_eq_true, if_false]
    induction m with
    | nil =>
      rw [List.nil_append, klk_cons]
      by_cases e : j = k
      · rw [if_pos e, if_pos e.symm]
      · rw [if_neg e, if_neg fun q => e q.symm]
    | cons p m ih =>
      rw [klk_cons] at h
      split at h
      · cases h
      rename_i hpk
      rw [List.cons_append, klk_cons, klk_cons, ih h]
      by_cases e : p.1 = j
      · rw [if_pos e, if_pos e, if_neg (by rintro rfl; exact hpk e)]
      · rw [if_neg e, if_neg e]
  | some x =>
    simp only [Option.isSome_some, if_true]
    by_cases e : j = k
    · subst e
      rw [if_pos rfl]
      induction m with
      | nil => cases h
      | cons p m ih =>
        rw [klk_cons] at h
        rw [List.map_cons, klk_cons]
        split at h
        · rename_i e; rw [if_pos e]; simp
        · rename_i e; rw [if_neg e, if_neg e]; exact ih h
    · rw [if_neg e]
      clear h
      induction m with
      | nil => rfl
      | cons p m ih =>
        rw [List.map_cons, klk_cons, klk_cons, ih]
        by_cases q : p.1 = k
        · rw [if_pos q, if_neg (show ¬ k = j from fun r => e r.symm), if_neg (by rw [q]; exact fun r => e r.symm)]
        · rw [if_neg q]
section
variable {C : Cfg} {ρ : Env} {pre : List Nat} {hx : HX} {L : Stack} {m m' : Mem} {args : List SV} {r : SV} {t : Tree}
theorem node_play {f : Nat} {R : List Pc × Int} (AS : List Nat → Array Value) (hargs : ∀ ids, (args.map (SV.den ρ ids)).toArray = AS ids) (hcall : ∀ ids w, pre <+: ids → Facts C m ρ ids hx w → Calls C.P f (AS ids) w (PlNew w R))
    (hr : ∀ sa sc b1 b2 ids, r.den (ρ.add ⟨[R.2], [], [.map (some b1), .map (some b2)], [R.1.length + 1, sc], [sa]⟩) ids = .tuple #[mdV sa sc b1 b2 R.1, .int .i64 R.2]) (hhp : m'.hp = m.hp) (hfit : hpFits m.c m.hp.length m.hp = true)
    (hc : ∀ sa sc b1 b2, (ρ.add ⟨[R.2], [], [.map (some b1), .map (some b2)], [R.1.length + 1, sc], [sa]⟩).cnt = m'.c)
    (h : ∀ sa sc b1 b2, sa.isSome = true → (∀ k, (mdX sa sc b1 b2 R.1).F k → C.W.heap.size ≤ k ∧ ¬ hx.F k) → t.holds C (ρ.add ⟨[R.2], [], [.map (some b1), .map (some b2)], [R.1.length + 1, sc], [sa]⟩) pre (hx.and (mdX sa sc b1 b2 R.1)) L) : (Tree.call f args m r m' t).holds C ρ pre hx L := by
  refine node_out AS (fun u hy => ∃ sa sc b1 b2, sa.isSome = true ∧ u = ⟨[R.2], [], [.map (some b1), .map (some b2)], [R.1.length + 1, sc], [sa]⟩ ∧ hy = mdX sa sc b1 b2 R.1) hargs (fun ids w hp hf => ?_) hhp hfit ?_ ?_
  · refine (hcall ids w hp hf).mono ?_
    rintro e w' ⟨sa, sc, b1, b2, rfl, hX, hge, hb⟩
    exact ⟨_, _, ⟨sa, sc, b1, b2, st_some hX.1.1, rfl, rfl⟩, by rw [hr], hX, hge, hb⟩
  · rintro u hy ⟨sa, sc, b1, b2, _, rfl, rfl⟩
    exact ⟨hc _ _ _ _, fun v hv => by
      simp only [List.mem_cons, List.not_mem_nil, or_false] at hv
      rcases hv with rfl | rfl <;> rfl⟩
  · rintro u hy ⟨sa, sc, b1, b2, h1, rfl, rfl⟩ hfr
    exact h sa sc b1 b2 h1 hfr
end
end Go.Proofs.Ytbedoemdjlollaa

namespace Go.Proofs.Ytbedoemdjlollaa
open Go Go.ChangeShapes Go.WideShapes Go.ChangeAt Go.RowKit Go.Syn Go.Eng
set_option linter.unusedVariables false
set_option linter.unusedSimpArgs false
set_option maxRecDepth 100000
theorem low_put {low : List (Ky × Value)} {seen : List (Ev × Nat)} (h : ∀ x, klk low x = (lowOf x seen).map fun d => .int .i64 (d : Int)) (e : Ev) (d : Nat) (he : e.k = 1) : ∀ x, klk (kput low e.key (.int .i64 (d : Int))) x = (lowOf x (seen ++ [(e, d)])).map fun d => .int .i64 (d : Int) := fun x => by
  rw [klk_put, lowOf_app]
  by_cases hx : x = e.key
  · rw [if_pos hx, if_pos ⟨he, hx.symm⟩]; rfl
  · rw [if_neg hx, if_neg fun q => hx q.2.symm]; exact h x
theorem low_skip {low : List (Ky × Value)} {seen : List (Ev × Nat)} (h : ∀ x, klk low x = (lowOf x seen).map fun d => .int .i64 (d : Int)) (e : Ev) (d : Nat) (he : e.k ≠ 1) : ∀ x, klk low x = (lowOf x (seen ++ [(e, d)])).map fun d => .int .i64 (d : Int) := fun x => by
  rw [lowOf_app, if_neg fun q => he q.1]; exact h x
def SeenOk (n : Nat) (seen : List (Ev × Nat)) : Prop := ∀ x d, lowOf x seen = some d → d ≤ n
theorem SeenOk.snoc {n : Nat} {seen : List (Ev × Nat)} (h : SeenOk n seen) (e : Ev) {d : Nat} (hd : d ≤ n) : SeenOk n (seen ++ [(e, d)]) := fun x d2 h2 => by
  rw [lowOf_app] at h2
  split at h2
  · cases h2; exact hd
  · exact h x d2 h2
theorem srch_s (ps : List Pc) (o : OpD) (r : Int × Int × Int) (n q : Nat) : srchV ps o r (n + 1) q = if (applyM (rgA ps q) o).2 = r then some q else srchV ps o r n (q + 1) := rfl
def CkI (evs : List Ev) (ps : List Pc) (loose : Bool) (MD : HX) (bl : Nat) (E : Int) (vs : Vals) (hx : HX) (n : Nat) : Prop := ∃ (i : Nat) (seen : List (Ev × Nat)) (done : Nat) (low : List (Ky × Value)), n = evs.length - i ∧ i ≤ evs.length ∧ (∀ x, klk low x = (lowOf x seen).map fun d => .int .i64 (d : Int)) ∧ SeenOk ps.length seen ∧ done ≤ ps.length ∧ chkV ps loose seen done (evs.drop i) = E ∧
  vs = ⟨[(i : Int), (done : Int)], [loose], [], [], []⟩ ∧ MD.and (HX.kmap bl low) = hx
theorem res_and (a b c x y z : Int) : ((a == x) && ((b == y) && (c == z))) = decide ((a, b, c) = (x, y, z)) := by
  rw [Bool.eq_iff_iff]
  simp only [Bool.and_eq_true, beq_iff_eq, decide_eq_true_eq, Prod.mk.injEq]
set_option maxHeartbeats 4000000 in
theorem jcheck_any (ax : Option Addr) (cx : Nat) (xs : List Int) (ah : Option Addr) (ch : Nat) (hs : List (Vo Pv)) (ae : Option Addr) (ce : Nat) (evs : List Ev) (loose : Bool) (w : World) (HX0 : Ints w ax xs) (hxl : xs.length * 8 ≤ 140737488351232) (HH : (voX ah hs).X w) (hfit : ∀ x ∈ hs, VlFit x.v.v) (hl : hs.length ≤ 1048576)
    (HE : Cells w ae (evcs evs)) (hE : ∀ e ∈ evs, KyFit e.key) (hel : evs.length ≤ 4611686018427387904) :
    Calls Try.prog 14 #[.slice ax xs.length cx, .slice ah hs.length ch, .slice ae evs.length ce, .bool loose] w (PureAt w (.int .i64 (checkV xs (vlsOf hs) evs loose))) := by
  refine calls_at (tab_ok _) Try.func14 rfl tJCheck (ρ := ⟨[], [loose], [], [xs.length, cx, hs.length, ch, evs.length, ce], [ax, ah, ae]⟩) (ids := []) (hx := HX.nil) rfl (Facts.initP rfl oneNil) ?_
  obtain ⟨P, eP⟩ : ∃ P, P = playV (firstI xs) [] (vlsOf hs) := ⟨_, rfl⟩
  have hck : checkV xs (vlsOf hs) evs loose = if P.2 ≠ 0 then P.2 else chkV P.1 loose [] 0 evs := by rw [eP]; rfl
  obtain ⟨hps, hpl⟩ : PsOk P.1 ∧ P.1.length ≤ 0 + 8 * (vlsOf hs).length := by rw [eP]; exact playV_ok _ _ _ (fun p hp => by cases hp)
  rw [vlsOf_len] at hpl
  obtain ⟨E, eE⟩ : ∃ E, E = checkV xs (vlsOf hs) evs loose := ⟨_, rfl⟩
  rw [← eE]
  rw [← eE] at hck
  refine node_play (R := P) (fun _ => #[.slice ax xs.length cx, .slice ah hs.length ch]) (by intros; kernel_rfl) (fun ids w2 hp hf => by
    rw [eP]
    exact play_any ax cx xs ah ch hs w2 (Ints.of_cells (by omega) HX0.fits (cl_stay HX0.cells fun k hk => hf.chg.block k hk (fun q => q))) hxl ((voX ah hs).loc _ _ HH fun k hk => hf.chg.block k (voX_sep HH k hk) (fun q => q)) hfit hl) (by intros; kernel_rfl) (by kernel_rfl) (by kernel_rfl) (by intros; kernel_rfl) ?_
  intro sa sc b1 b2 hsa hfr
  refine br_B (P.2 != 0) (by kernel_rfl) (fun he => ?_) (fun he => ?_)
  · rw [if_pos (by simpa using he)] at hck
    exact pure_done fun ids => by rw [hck]; kernel_rfl
  rw [if_neg (by simpa using he)] at hck
  refine node_kmake (by intros; kernel_rfl) (by kernel_rfl) (by kernel_rfl) (by intros; kernel_rfl) ?_
  intro bl hbl1 hbl2
  obtain ⟨MD, eMD⟩ : ∃ MD, MD = HX.nil.and (mdX sa sc b1 b2 P.1) := ⟨_, rfl⟩
  rw [← eMD] at hbl2 ⊢
  have mdat : ∀ {w2 : World}, MD.X w2 → KMap w2 b1 (atM P.1) := fun h => by rw [eMD] at h; exact h.2.1.2
  have mdre : ∀ {w2 : World}, MD.X w2 → KMap w2 b2 (resM P.1) := fun h => by rw [eMD] at h; exact h.2.2
  have mdst : ∀ {w2 : World}, MD.X w2 → Cells w2 sa (stC P.1) := fun h => by rw [eMD] at h; exact rw_cells h.2.1.1
  have one3 : ∀ v, v ∈ ([.map (some b1), .map (some b2), .map (some bl)] : List Value) → v.oneCell' = true := fun v hv => by
    simp only [List.mem_cons, List.not_mem_nil, or_false] at hv
    rcases hv with rfl | rfl | rfl <;> rfl
  refine ⟨CkI evs P.1 loose MD bl E, fun ids w2 hp hf => ⟨_, evs.length, ⟨hf.x, hf.sep⟩, 0, [], 0, [], rfl, Nat.zero_le _, fun x => rfl, (fun x d h => by cases h), Nat.zero_le _, hck.symm, by kernel_rfl, rfl⟩, ?_⟩
  rintro vs hx' n hcnt ⟨i, seen, done, low, rfl, hi, hlow, hseen, hdone, hE2, rfl, rfl⟩
  refine holds_env (ρ' := ⟨[P.2, (i : Int), (done : Int)], [loose, loose], [.map (some b1), .map (some b2), .map (some bl)], [xs.length, cx, hs.length, ch, evs.length, ce, P.1.length + 1, sc], [ax, ah, ae, sa]⟩) (by kernel_rfl) ?_
  refine br_D (p := (i : Int) < (evs.length : Int)) (by kernel_rfl) (fun hlt => ?B) (fun hlt => ?E)
  case E =>
    refine pure_done fun ids => ?_
    rw [← hE2, List.drop_eq_nil_of_le (by omega)]; rfl
  have hlt : i < evs.length := by omega
  obtain ⟨e, he⟩ : ∃ e, evs[i]? = some e := ⟨_, List.getElem?_eq_getElem hlt⟩
  have hky := hE e (List.mem_of_getElem? he)
  have hd : evs.drop i = e :: evs.drop (i + 1) := by
    obtain ⟨q, e2⟩ := List.getElem?_eq_some_iff.1 he
    rw [List.drop_eq_getElem_cons q, e2]
  rw [hd] at hE2
  unfold chkV at hE2
  obtain ⟨s1, g1⟩ := flat_part ev_len HE he (o := 0) e.cells (fun j u hj => by rw [Nat.zero_add]; exact hj) (by simp [Ev.cells, Ev.is])
  have hwi : IntKind.i64.wrap ((i : Int) + 1) = ((i + 1 : Nat) : Int) := by rw [wrap_i64 (by omega)]; omega
  refine need_k (ae.isSome = true ∧ (0 : Int) ≤ (i : Int) ∧ (i : Int) < (evs.length : Int)) (by kernel_rfl) ⟨s1, by omega, by omega⟩ ?_
  refine node_ld0 (k := ⟨3, 2, 3, 8, 4⟩) ⟨e.is, [], [], [], []⟩ (.pointer (some (((ae.getD ⟨0, 0, none⟩).add (i * 12)).add 0))) e.cells (by intros; kernel_rfl) (by intros; kernel_rfl) (g1 _ id) ⟨by kernel_rfl, one3⟩ (by kernel_rfl) oneNil ?_
  refine holds_env (ρ' := ⟨[P.2, (i : Int), (done : Int)] ++ e.is, [loose, loose], [.map (some b1), .map (some b2), .map (some bl)], [xs.length, cx, hs.length, ch, evs.length, ce, P.1.length + 1, sc], [ax, ah, ae, sa]⟩) (by kernel_rfl) ?_
  refine br_D (p := e.k = 1) (by kernel_rfl) (fun hk1 => ?_) (fun hk1 => ?_)
  · rw [if_neg (by omega)] at hE2
    refine node_kput (kt := 91) (et := 3) bl low e.key (.int .i64 (done : Int)) kyOk hky (.inl hbl1) hbl2 (by intros; kernel_rfl) (by intros; kernel_rfl) (by intros; kernel_rfl) (by kernel_rfl) (by kernel_rfl) (by kernel_rfl) (by kernel_rfl) ?_
    exact again_V ⟨[IntKind.i64.wrap ((i : Int) + 1), (done : Int)], [loose], [], [], []⟩ rfl (by intros; kernel_rfl) _ (fun w2 ids hf => ⟨hf.x, hf.sep⟩) ⟨evs.length - (i + 1), by omega, i + 1, _, done, _, rfl, by omega, low_put hlow e done hk1, hseen.snoc e hdone, hdone, hE2, by rw [hwi], rfl⟩
  have hlow2 := low_skip hlow e done hk1
  have hseen2 := hseen.snoc e hdone
  refine br_D (p := e.k = 2) (by kernel_rfl) (fun hk2 => ?B2) (fun hk2 => ?E2)
  case E2 =>
    rw [if_neg hk2] at hE2
    exact again_V ⟨[IntKind.i64.wrap ((i : Int) + 1), (done : Int)], [loose], [], [], []⟩ rfl (by intros; kernel_rfl) _ (fun w2 ids hf => ⟨hf.x, hf.sep⟩) ⟨evs.length - (i + 1), by omega, i + 1, _, done, _, rfl, by omega, hlow2, hseen2, hdone, hE2, by rw [hwi], rfl⟩
  rw [if_pos hk2] at hE2
  obtain ⟨fo, efo⟩ : ∃ fo, fo = lowOf e.key seen := ⟨_, rfl⟩
  rw [← efo] at hE2
  have hlk := hlow e.key
  rw [← efo] at hlk
  refine node_klook (kt := 91) (et := 3) (z := .int .i64 0) ⟨[((fo.getD 0 : Nat) : Int)], [fo.isSome], [], [], []⟩ bl low e.key kyOk hky (fun w2 hX => hX.2) (by intros; kernel_rfl) (by intros; kernel_rfl) (by kernel_rfl) (fun w2 => by kernel_rfl) (fun ids => by
    rw [hlk]
    cases fo with
    | none => kernel_rfl
    | some d => kernel_rfl) (by kernel_rfl) (by kernel_rfl) (by kernel_rfl) oneNil ?_
  cases hfo : fo with
  | none =>
    rw [hfo] at hE2
    refine br_T (!(none : Option Nat).isSome) (by kernel_rfl) rfl ?_
    exact pure_done fun ids => by rw [← hE2]; kernel_rfl
  | some frm =>
  rw [hfo] at hE2
  have hfrm : frm ≤ P.1.length := hseen e.key frm (by rw [← efo, hfo])
  simp only at hE2
  refine br_F (!(some frm : Option Nat).isSome) (by kernel_rfl) rfl ?_
  refine node_klook (kt := 91) (et := 3) (z := .int .i64 0) ⟨[(findP e.key P.1 : Int)], [decide (findP e.key P.1 ≠ 0)], [], [], []⟩ b1 (atM P.1) e.key kyOk hky (fun w2 hX => mdat hX.1) (by intros; kernel_rfl) (by intros; kernel_rfl) (by kernel_rfl) (fun w2 => by kernel_rfl) (fun ids => by rw [klk_at0, klk_at1]; kernel_rfl) (by kernel_rfl) (by kernel_rfl) (by kernel_rfl) oneNil ?_
  refine holds_env (ρ' := ⟨[P.2, (i : Int), (done : Int)] ++ e.is ++ [(frm : Int), (findP e.key P.1 : Int)], [loose, loose, true, decide (findP e.key P.1 ≠ 0)], [.map (some b1), .map (some b2), .map (some bl)], [xs.length, cx, hs.length, ch, evs.length, ce, P.1.length + 1, sc], [ax, ah, ae, sa]⟩) (by kernel_rfl) ?_
  refine br_D (p := e.rk > 3) (by kernel_rfl) (fun hr3 => ?_) (fun hr3 => ?_)
  · rw [if_pos hr3] at hE2
    refine br_B (decide (findP e.key P.1 ≠ 0)) (by kernel_rfl) (fun hf => ?_) (fun hf => ?_)
    · rw [if_pos (by simpa using hf)] at hE2
      exact pure_done fun ids => by rw [← hE2]; kernel_rfl
    · rw [if_neg (by simpa using hf)] at hE2
      exact again_V ⟨[IntKind.i64.wrap ((i : Int) + 1), (done : Int)], [loose], [], [], []⟩ rfl (by intros; kernel_rfl) _ (fun w2 ids hf => ⟨hf.x, hf.sep⟩) ⟨evs.length - (i + 1), by omega, i + 1, _, done, _, rfl, by omega, hlow2, hseen2, hdone, hE2, by rw [hwi], rfl⟩
  rw [if_neg hr3] at hE2
  obtain ⟨O, eO⟩ : ∃ O, O = oneV P.1 e frm loose := ⟨_, rfl⟩
  have hO1 : O.1 ≤ P.1.length := by rw [eO]; exact oneV_le hfrm
  rw [← eO] at hE2
  refine ⟨fun vs hx => O.2 = 0 ∧ (∃ c1 c2 : Bool, vs = ⟨[(O.1 : Int)], [loose, c1, c2], [], [], []⟩) ∧ MD.and (HX.kmap bl low) = hx, ?_, ?_⟩
  case refine_2 =>
    rintro vs hx hcnt3 ⟨hO2, ⟨c1, c2, rfl⟩, rfl⟩
    rw [if_neg (fun q => q hO2)] at hE2
    have hmx : max (done : Int) (O.1 : Int) = ((max done O.1 : Nat) : Int) := by omega
    exact again_V ⟨[IntKind.i64.wrap ((i : Int) + 1), max (done : Int) (O.1 : Int)], [loose], [], [], []⟩ rfl (by intros; kernel_rfl) _ (fun w2 ids hf => ⟨hf.x, hf.sep⟩) ⟨evs.length - (i + 1), by omega, i + 1, _, max done O.1, _, rfl, by omega, hlow2, hseen2, by omega, hE2, by rw [hwi, hmx], rfl⟩
  have bad : ∀ {x : Int} {m2 : Mem} {ρ : Env} {hx : HX} {S : Stack} {v : SV}, O.2 = x → x ≠ 0 → (∀ ids, v.den ρ ids = .int .i64 x) → (Tree.done v m2).holds ⟨Try.prog, w, fun _ => False, PureAt w (.int .i64 E)⟩ ρ [] hx S := fun h1 h2 h3 => pure_done fun ids => by
    rw [h3 ids, ← hE2, if_pos (by rw [h1]; exact h2), h1]
  unfold oneV at eO
  obtain ⟨r, er⟩ : ∃ r, r = rsA P.1 (findP e.key P.1) := ⟨_, rfl⟩
  rw [← er] at eO
  have hreq : ((r.1 == e.rk) && ((r.2.1 == e.rre) && (r.2.2 == e.rim))) = decide (r = e.res) := res_and _ _ _ _ _ _
  have oneB : ∀ c : Bool, ∀ v, v ∈ ([.map (some b1), .map (some b2), .map (some bl)] : List Value) → v.oneCell' = true := fun _ => one3
  have loops : ¬ (frm < findP e.key P.1 ∧ r = e.res) → e.op.kind = 1 → loose = false → O = (match srchV P.1 e.op e.res (P.1.length + 1 - frm) frm with | some q => (q, 0) | none => (0, 63)) := fun h1 h2 h3 => by
    rw [if_neg h1, if_pos h2, if_neg (by rw [h3]; decide)] at eO; exact eO
  have get1 : ¬ (frm < findP e.key P.1 ∧ r = e.res) → e.op.kind = 1 → loose = true → O = (frm, 0) := fun h1 h2 h3 => by
    rw [if_neg h1, if_pos h2, if_pos h3] at eO; exact eO
  have oth : ¬ (frm < findP e.key P.1 ∧ r = e.res) → ¬ e.op.kind = 1 → O = if findP e.key P.1 = 0 ∨ r ≠ e.res then (0, 63) else (0, 60) := fun h1 h2 => by
    rw [if_neg h1, if_neg h2] at eO; exact eO
  have hit : (frm < findP e.key P.1 ∧ r = e.res) → O = (findP e.key P.1, 0) := fun h1 => by rw [if_pos h1] at eO; exact eO
  clear eO
  refine br_B (decide (findP e.key P.1 ≠ 0)) (by kernel_rfl) (fun hf => ?T0) (fun hf => ?N0)
  case' N0 =>
    have hf0 : findP e.key P.1 = 0 := by simpa using hf
    have hno : ¬ (frm < findP e.key P.1 ∧ r = e.res) := fun q => by rw [hf0] at q; exact absurd q.1 (by omega)
    refine br_D (p := e.op.kind = 1) (by kernel_rfl) (fun hk => ?N1) (fun hk => ?N2)
    case N2 =>
      refine br_F (e.op.kind == 1) (by kernel_rfl) (by simpa using hk) ?_
      refine bad (x := 63) ?_ (by decide) (by intros; kernel_rfl)
      rw [oth hno hk, if_pos (.inl hf0)]
    refine br_B loose (by kernel_rfl) (fun hlo => ?N3) (fun hlo => ?N4)
    case N3 => exact again_V ⟨[(frm : Int)], [true, false, false], [], [], []⟩ rfl (by intros; kernel_rfl) _ (fun w2 ids hf => ⟨hf.x, hf.sep⟩) ⟨by rw [get1 hno hk hlo], ⟨false, false, by rw [get1 hno hk hlo, hlo]⟩, rfl⟩
    refine br_T (e.op.kind == 1) (by kernel_rfl) (by simpa using hk) ?_
  case' T0 =>
    refine node_klook1 (kt := 91) (et := 62) (z := rsC (0, 0, 0)) ⟨[r.1, r.2.1, r.2.2], [], [], [], []⟩ b2 (resM P.1) e.key kyOk hky (fun w2 hX => mdre hX.1) (by intros; kernel_rfl) (by intros; kernel_rfl) (by kernel_rfl) (fun w2 => by kernel_rfl) (fun ids => by rw [klk_res0, ← er]; kernel_rfl) (by kernel_rfl) (by kernel_rfl) (by kernel_rfl) oneNil ?_
    have hf1 : findP e.key P.1 ≠ 0 := by simpa using hf
    refine br_B ((r.1 == e.rk) && ((r.2.1 == e.rre) && (r.2.2 == e.rim))) (by kernel_rfl) (fun hq => ?T1) (fun hq => ?T2)
    case' T1 =>
      have hq2 : r = e.res := by rw [hreq] at hq; simpa using hq
      refine br_D (p := (findP e.key P.1 : Int) > (frm : Int)) (by kernel_rfl) (fun hgt => ?T3) (fun hgt => ?T4)
      case T3 =>
        have h0 := hit ⟨by omega, hq2⟩
        exact again_V ⟨[(findP e.key P.1 : Int)], [loose, true, true], [], [], []⟩ rfl (by intros; kernel_rfl) _ (fun w2 ids hf => ⟨hf.x, hf.sep⟩) ⟨by rw [h0], ⟨true, true, by rw [h0]⟩, rfl⟩
      have hno : ¬ (frm < findP e.key P.1 ∧ r = e.res) := fun q => hgt (by omega)
    case' T2 =>
      have hno : ¬ (frm < findP e.key P.1 ∧ r = e.res) := fun q => by rw [hreq, decide_eq_true q.2] at hq; cases hq
    all_goals
      refine br_D (p := e.op.kind = 1) (by kernel_rfl) (fun hk => ?_) (fun hk => ?_)
      rotate_left
      · refine br_F (e.op.kind == 1) (by kernel_rfl) (by simpa using hk) ?_
        refine node_klook1 (kt := 91) (et := 62) (z := rsC (0, 0, 0)) ⟨[r.1, r.2.1, r.2.2], [], [], [], []⟩ b2 (resM P.1) e.key kyOk hky (fun w2 hX => mdre hX.1) (by intros; kernel_rfl) (by intros; kernel_rfl) (by kernel_rfl) (fun w2 => by kernel_rfl) (fun ids => by rw [klk_res0, ← er]; kernel_rfl) (by kernel_rfl) (by kernel_rfl) (by kernel_rfl) oneNil ?_
        refine br_B (!((r.1 == e.rk) && ((r.2.1 == e.rre) && (r.2.2 == e.rim)))) (by kernel_rfl) (fun hq3 => ?_) (fun hq3 => ?_)
        · rw [hreq] at hq3
          refine bad (x := 63) ?_ (by decide) (by intros; kernel_rfl)
          rw [oth hno hk, if_pos (.inr (by simpa using hq3))]
        · rw [hreq] at hq3
          refine bad (x := 60) ?_ (by decide) (by intros; kernel_rfl)
          rw [oth hno hk, if_neg (by simp only [not_or]; exact ⟨hf1, fun q => q (by simpa using hq3)⟩)]
      refine br_B loose (by kernel_rfl) (fun hlo => ?_) (fun hlo => ?_)
      · exact again_V ⟨[(frm : Int)], [true, true, true], [], [], []⟩ rfl (by intros; kernel_rfl) _ (fun w2 ids hf => ⟨hf.x, hf.sep⟩) ⟨by rw [get1 hno hk hlo], ⟨true, true, by rw [get1 hno hk hlo, hlo]⟩, rfl⟩
      refine br_T (e.op.kind == 1) (by kernel_rfl) (by simpa using hk) ?_
  all_goals
    have hO := loops hno hk hlo
    refine ⟨fun vs hx n => ∃ q : Nat, n = P.1.length + 1 - q ∧ frm ≤ q ∧ q ≤ P.1.length + 1 ∧ srchV P.1 e.op e.res (P.1.length + 1 - q) q = srchV P.1 e.op e.res (P.1.length + 1 - frm) frm ∧ vs = ⟨[(q : Int)], [], [], [], []⟩ ∧ MD.and (HX.kmap bl low) = hx, fun ids w2 hp hf => ⟨_, P.1.length + 1 - frm, ⟨hf.x, hf.sep⟩, frm, rfl, Nat.le_refl _, by omega, rfl, by kernel_rfl, rfl⟩, ?_⟩
    rintro vs hx n hcnt4 ⟨q, rfl, hq1, hq2, hs, rfl, rfl⟩
    refine br_D (p := (q : Int) ≥ ((P.1.length + 1 : Nat) : Int)) (by kernel_rfl) (fun hge => ?_) (fun hge => ?_)
    · have : P.1.length + 1 - q = 0 := by omega
      rw [this] at hs
      rw [← hs] at hO
      exact bad (x := 63) (by rw [hO]; rfl) (by decide) (by intros; kernel_rfl)
    have hq3 : q ≤ P.1.length := by omega
    obtain ⟨n3, hn3⟩ : ∃ n3, P.1.length + 1 - q = n3 + 1 := ⟨P.1.length - q, by omega⟩
    obtain ⟨p, ep⟩ : ∃ p, p = applyM (rgA P.1 q) e.op := ⟨_, rfl⟩
    rw [hn3, srch_s, ← ep] at hs
    have hrl := rgA_len hps q
    have hrr : stF (rgA P.1 q) = (rgA P.1 q).map (Value.int .i64) := by unfold stF; rw [rgs_of hrl]
    have hpl2 : p.1.length = 16 := by rw [ep]; exact (applyM_len _ _).trans hrl
    have hap : ∀ w2, Calls Try.prog 31 #[.agg (stF (rgA P.1 q)).toArray, .agg e.op.cells.toArray] w2 (PureAt w2 (resV p)) := fun w2 => by rw [ep, hrr]; exact apply_any _ hrl e.op w2
    have hwq : IntKind.i64.wrap ((q : Int) + 1) = ((q + 1 : Nat) : Int) := by rw [wrap_i64 (by omega)]; omega
    have hpe : ((p.2.1 == e.rk) && ((p.2.2.1 == e.rre) && (p.2.2.2 == e.rim))) = decide (p.2 = e.res) := res_and _ _ _ _ _ _
    refine need_k (sa.isSome = true ∧ (0 : Int) ≤ (q : Int) ∧ (q : Int) < ((P.1.length + 1 : Nat) : Int)) (by kernel_rfl) ⟨hsa, by omega, by omega⟩ ?_
    repeat' refine par_i ?_ ?_
  all_goals
    refine node_ldk ⟨rgs (rgA P.1 q), [], [], [], []⟩ (fun _ => .pointer (some (((sa.getD ⟨0, 0, none⟩).add (q * 16)).add 0))) (stF (rgA P.1 q)) (by intros; kernel_rfl) (by intros; kernel_rfl) (fun ids w2 hp hf => (st_elt (mdst hf.x.1) hq3).2) (by kernel_rfl) oneNil ?_
    repeat' refine par_i ?_ ?_
  all_goals
    refine node_P ⟨rgs p.1 ++ [p.2.1, p.2.2.1, p.2.2.2], [], [], [], []⟩ #[.agg (stF (rgA P.1 q)).toArray, .agg e.op.cells.toArray] (resV p) (by intros; kernel_rfl) (fun ids => Eq.trans (b := resV (rgs p.1, p.2)) (by kernel_rfl) (by unfold resV; rw [rgs_of hpl2])) (by kernel_rfl) (by kernel_rfl) (by kernel_rfl) oneNil (fun ids w2 hp hf => hap w2) ?_
    repeat' refine par_i ?_ ?_
  all_goals
    refine br_B (!((p.2.1 == e.rk) && ((p.2.2.1 == e.rre) && (p.2.2.2 == e.rim)))) (by kernel_rfl) (fun hne => ?_) (fun hne => ?_)
    · rw [hpe] at hne
      rw [if_neg (by simpa using hne)] at hs
      exact again_V ⟨[IntKind.i64.wrap ((q : Int) + 1)], [], [], [], []⟩ rfl (by intros; kernel_rfl) _ (fun w2 ids hf => ⟨hf.x, hf.sep⟩) ⟨P.1.length + 1 - (q + 1), by omega, q + 1, rfl, by omega, by omega, by rw [← hs]; congr 1; omega, by rw [hwq], rfl⟩
    · rw [hpe] at hne
      rw [if_pos (by simpa using hne)] at hs
      rw [← hs] at hO
      first
        | (have hT := hf1; exact again_V ⟨[(q : Int)], [false, true, true], [], [], []⟩ rfl (by intros; kernel_rfl) _ (fun w2 ids hf => ⟨hf.x, hf.sep⟩) ⟨by rw [hO], ⟨true, true, by rw [hO, hlo]⟩, rfl⟩)
        | (have hT := hf0; exact again_V ⟨[(q : Int)], [false, false, false], [], [], []⟩ rfl (by intros; kernel_rfl) _ (fun w2 ids hf => ⟨hf.x, hf.sep⟩) ⟨by rw [hO], ⟨false, false, by rw [hO, hlo]⟩, rfl⟩)
end Go.Proofs.Ytbedoemdjlollaa

namespace Go.Proofs.Ytbedoemdjlollaa
open Go Go.ChangeShapes Go.WideShapes Go.ChangeAt Go.RowKit Go.Syn Go.Eng
set_option linter.unusedVariables false
set_option linter.unusedSimpArgs false
set_option maxRecDepth 100000
section
variable {ps : List Pc} {a : Option Addr} {w : World}
end
end Go.Proofs.Ytbedoemdjlollaa

namespace Go.Proofs.Ytbedoemdjlollaa
open Go Go.ChangeShapes Go.WideShapes Go.ChangeAt Go.RowKit Go.Syn Go.Eng
set_option linter.unusedVariables false
set_option linter.unusedSimpArgs false
set_option maxRecDepth 100000
end Go.Proofs.Ytbedoemdjlollaa

namespace Go.Proofs.Ytbedoemdjlollaa
open Go Go.ChangeShapes Go.WideShapes Go.ChangeAt Go.RowKit Go.Syn Go.Eng
set_option linter.unusedVariables false
set_option linter.unusedSimpArgs false
set_option maxRecDepth 100000
section
variable {C : Cfg} {ρ : Env} {pre : List Nat} {hx : HX} {L : Stack} {m m' : Mem} {args : List SV} {r : SV} {t : Tree}
end
theorem ints_flat (xs : List Int) : xs.flatMap (fun x : Int => [Value.int .i64 x]) = xs.map (Value.int .i64) := by
  induction xs with
  | nil => rfl
  | cons y r ih => rw [List.flatMap_cons, ih]; rfl
theorem ints_elt {w : World} {a : Option Addr} {xs : List Int} {i : Nat} {x : Int} (h : Cells w a (xs.map (Value.int .i64))) (hi : xs[i]? = some x) : a.isSome = true ∧ CellsAt w (.pointer (some (((a.getD ⟨0, 0, none⟩).add (i * 1)).add 0))) [.int .i64 x] (fun _ => False) := by
  obtain ⟨h1, h2⟩ := flat_part (f := fun x : Int => [Value.int .i64 x]) (fun _ => rfl) (es := xs) (by rw [ints_flat]; exact h) hi (o := 0) [.int .i64 x] (fun j u hj => by rw [Nat.zero_add]; exact hj) (by simp)
  exact ⟨h1, h2 _ id⟩
end Go.Proofs.Ytbedoemdjlollaa

namespace Go.Proofs.Ytbedoemdjlollaa
open Go Go.ChangeShapes Go.WideShapes Go.ChangeAt Go.RowKit Go.Syn Go.Eng
set_option linter.unusedVariables false
set_option linter.unusedSimpArgs false
set_option maxRecDepth 100000
section
variable {C : Cfg} {ρ : Env} {pre : List Nat} {hx : HX} {L : Stack} {m m' : Mem} {args : List SV} {r : SV} {t : Tree}
theorem node_merge {f : Nat} {R : List (Vo Vl) × Int} (AS : List Nat → Array Value) (hargs : ∀ ids, (args.map (SV.den ρ ids)).toArray = AS ids) (hcall : ∀ ids w, pre <+: ids → Facts C m ρ ids hx w → Calls C.P f (AS ids) w (MgNew w R))
    (hr : ∀ b l d ids, r.den (ρ.add ⟨[R.2], [], [], [l, d], [b]⟩) ids = .tuple #[.slice b l d, .int .i64 R.2]) (hhp : m'.hp = m.hp) (hfit : hpFits m.c m.hp.length m.hp = true) (hc : ∀ b l d, (ρ.add ⟨[R.2], [], [], [l, d], [b]⟩).cnt = m'.c)
    (h : ∀ b d ys, vlsOf ys = R.1 → (∀ k, ((voAll ys).and (vrow b d ys)).F k → C.W.heap.size ≤ k ∧ ¬ hx.F k) → t.holds C (ρ.add ⟨[R.2], [], [], [ys.length, d], [b]⟩) pre (hx.and ((voAll ys).and (vrow b d ys))) L) : (Tree.call f args m r m' t).holds C ρ pre hx L := by
  refine node_out AS (fun u hy => ∃ b d ys, vlsOf ys = R.1 ∧ u = ⟨[R.2], [], [], [ys.length, d], [b]⟩ ∧ hy = (voAll ys).and (vrow b d ys)) hargs (fun ids w hp hf => ?_) hhp hfit ?_ ?_
  · refine (hcall ids w hp hf).mono ?_
    rintro e w' ⟨b, d, ys, rfl, h1, hX, hge, hb⟩
    exact ⟨_, _, ⟨b, d, ys, h1, rfl, rfl⟩, by rw [hr], hX, hge, hb⟩
  · rintro u hy ⟨b, d, ys, _, rfl, rfl⟩
    exact ⟨hc _ _ _, oneNil⟩
  · rintro u hy ⟨b, d, ys, h1, rfl, rfl⟩ hfr
    exact h b d ys h1 hfr
end
def putC (s q x : Int) : CmD := ⟨s, q, IntKind.i64.wrap (q - 1), ⟨2, 0, 0, x, 0⟩⟩
theorem put_any (s q x : Int) (w : World) : Calls Try.prog 19 #[.int .i64 s, .int .i64 q, .int .i64 x] w (PureAt w (.agg (putC s q x).cells.toArray)) := by
  refine calls_at (tab_ok _) Try.func19 rfl tJPut (ρ := ⟨[s, q, x], [], [], [], []⟩) (ids := []) (hx := HX.nil) rfl (Facts.initP rfl oneNil) ?_
  exact pure_done (by intros; kernel_rfl)
def hc1 : CmD := ⟨1, 1, 0, ⟨2, 0, 0, 1, 0⟩⟩
def hv25 : Vl := ⟨1, [hc1], []⟩
def hh25 : List (Vo Vl) := [⟨1, 0, 0, hv25⟩]
def ev25 (k : Int) (c : CmD) (r : Int × Int × Int) : Ev := ⟨k, c.sess, c.seq, c.op, r.1, r.2.1, r.2.2, 0⟩
theorem hh_merge : mergeV hh25 = (hh25, 0) := by
  unfold mergeV hh25 mgV
  rw [if_neg (by decide), if_neg (fun q => by exact absurd q.1 (by decide))]
  unfold mgV
  rw [if_neg (by decide)]; rfl
theorem hh_good : checkV [1] hh25 [ev25 1 hc1 (0, 0, 0), ev25 2 hc1 (1, 1, 0)] false = 0 := by kernel_rfl
theorem hh_bad : checkV [1] hh25 [ev25 1 hc1 (0, 0, 0), ev25 2 hc1 (1, 2, 0)] false = 63 := by kernel_rfl
theorem evs_at {w : World} {b ty : Nat} {us : List Value} {es : List Ev} (h : w.heap[b]? = some (.cells us.toArray ty (0, 0))) (e : us = evcs es) : Cells w (some ⟨b, 0, none⟩) (evcs es) := by
  subst e
  exact blk_cells (ty := ty) h
theorem cells_of {w : World} {b ty : Nat} {us vs : List Value} (h : w.heap[b]? = some (.cells us.toArray ty (0, 0))) (e : us = vs) : Cells w (some ⟨b, 0, none⟩) vs := by
  subst e
  exact blk_cells (ty := ty) h
theorem hv25_fit : VlFit hv25 := ⟨(fun n h => by cases h), by decide, by decide⟩
theorem vls_one {ys : List (Vo Pv)} {x : Vo Vl} (h : vlsOf ys = [x]) (hx : VlFit x.v) : ∀ y ∈ ys, VlFit y.v.v := fun y hy => by
  have : Vo.map Pv.v y ∈ vlsOf ys := List.mem_map.2 ⟨y, hy, rfl⟩
  rw [h, List.mem_singleton] at this
  have e : y.v.v = x.v := congrArg Vo.v this
  rw [e]; exact hx
theorem ky11 : KyFit (1, 1) := by unfold KyFit; decide
theorem ky_two (s q : Int) (r : Int × Int × Int) (h : KyFit (hc1.sess, hc1.seq)) : ∀ e ∈ [ev25 1 hc1 (0, 0, 0), ev25 2 hc1 r], KyFit e.key := fun e he => by
  simp only [List.mem_cons, List.not_mem_nil, or_false] at he
  rcases he with rfl | rfl <;> exact h
set_option maxHeartbeats 1000000 in
theorem head25_any (w : World) : Calls Try.prog 8 #[] w (PureAt w (.bool true)) := by
  refine calls_at (tab_ok _) Try.func8 rfl tJHead (ρ := ⟨[], [], [], [], []⟩) (ids := []) (hx := HX.nil) rfl (Facts.initP rfl oneNil) ?_
  refine node_P ⟨hc1.is, [], [], [], []⟩ #[.int .i64 1, .int .i64 1, .int .i64 1] (.agg hc1.cells.toArray) (by intros; kernel_rfl) (by intros; kernel_rfl) (by kernel_rfl) (by kernel_rfl) (by kernel_rfl) oneNil (fun ids w2 hp hf => put_any 1 1 1 w2) ?_
  refine node_merge (R := (hh25, 0)) (fun ids => #[.slice (some ⟨idAt ids 3, 0, none⟩) 1 1]) (by intros; kernel_rfl) (fun ids w2 hp hf => ?_) (by intros; kernel_rfl) (by kernel_rfl) (by kernel_rfl) (by intros; kernel_rfl) ?_
  · have h3 := cells_of (hf.blkAt 3 rfl) (vs := [.slice (some ⟨idAt ids 2, 0, none⟩) 1 1]) (by kernel_rfl)
    have h2 := cells_of (hf.blkAt 2 rfl) (vs := [.int .i64 1, .int .i64 0, .int .i64 0, .int .i64 1, .slice (some ⟨idAt ids 1, 0, none⟩) 1 1, .slice none 0 0]) (by kernel_rfl)
    have h1 := cells_of (hf.blkAt 1 rfl) (vs := ccells [hc1]) (by kernel_rfl)
    have := jmerge_any (some ⟨idAt ids 3, 0, none⟩) 1 [⟨some ⟨idAt ids 2, 0, none⟩, 1, [⟨1, 0, 0, ⟨hv25, some ⟨idAt ids 1, 0, none⟩, 1, none, 0⟩⟩]⟩] w2 (fun x hx => by
      rcases List.mem_cons.1 hx with rfl | hx
      · exact h3
      · simp only [List.map_cons, List.map_nil, List.mem_cons, List.not_mem_nil, or_false] at hx
        subst hx
        exact ⟨h2, fun y hy => by
          simp only [List.map_cons, List.map_nil, List.mem_cons, List.not_mem_nil, or_false] at hy
          subst hy
          exact ⟨h1, cl_nil _ _⟩⟩) (fun t ht => by
      rw [List.mem_singleton] at ht
      subst ht
      exact ⟨fun x hx => by rw [List.mem_singleton] at hx; subst hx; show I64 1; unfold I64; decide, fun x hx => by rw [List.mem_singleton] at hx; subst hx; exact hv25_fit, (by show 1 * 80 ≤ _; omega)⟩) (by show 1 ≤ _; omega) (by show 1 ≤ _; omega)
    rw [show vlsOf (tlAll [⟨some ⟨idAt ids 2, 0, none⟩, 1, [⟨1, 0, 0, ⟨hv25, some ⟨idAt ids 1, 0, none⟩, 1, none, 0⟩⟩]⟩]) = hh25 from rfl, hh_merge] at this
    exact this
  intro b d ys hys hfr
  have hyl : ys.length = 1 := by have := congrArg List.length hys; rw [vlsOf_len] at this; exact this
  have hyf : ∀ y ∈ ys, VlFit y.v.v := vls_one hys hv25_fit
  refine br_t (by kernel_rfl) ?_
  refine br_B ((ys.length : Int) == 1) (by kernel_rfl) (fun _ => ?_) (fun h => by rw [hyl] at h; cases h)
  refine node_PI ⟨[0], [], [], [], []⟩ (fun ids => #[.slice (some ⟨idAt ids 7, 0, none⟩) 1 1, .slice b ys.length d, .slice (some ⟨idAt ids 8, 0, none⟩) 2 2, .bool false]) (.int .i64 0) (by intros; kernel_rfl) (by intros; kernel_rfl) (by kernel_rfl) (by kernel_rfl) (by kernel_rfl) oneNil (fun ids w2 hp hf => ?_) ?_
  · have := jcheck_any (some ⟨idAt ids 7, 0, none⟩) 1 [1] b d ys (some ⟨idAt ids 8, 0, none⟩) 2 [ev25 1 hc1 (0, 0, 0), ev25 2 hc1 (1, 1, 0)] false w2 (ints_blk hf 7 _ _ [1] rfl (by kernel_rfl) (by decide) (by unfold I64; decide)) (by decide) (vox_of hf.x.2) hyf (by omega) (evs_at (hf.blkAt 8 rfl) (by kernel_rfl)) (ky_two 1 1 (1, 1, 0) ky11) (by decide)
    rw [hys, hh_good] at this
    exact this
  refine br_t (by kernel_rfl) ?_
  refine node_PI ⟨[63], [], [], [], []⟩ (fun ids => #[.slice (some ⟨idAt ids 9, 0, none⟩) 1 1, .slice b ys.length d, .slice (some ⟨idAt ids 10, 0, none⟩) 2 2, .bool false]) (.int .i64 63) (by intros; kernel_rfl) (by intros; kernel_rfl) (by kernel_rfl) (by kernel_rfl) (by kernel_rfl) oneNil (fun ids w2 hp hf => ?_) ?_
  · have := jcheck_any (some ⟨idAt ids 9, 0, none⟩) 1 [1] b d ys (some ⟨idAt ids 10, 0, none⟩) 2 [ev25 1 hc1 (0, 0, 0), ev25 2 hc1 (1, 2, 0)] false w2 (ints_blk hf 9 _ _ [1] rfl (by kernel_rfl) (by decide) (by unfold I64; decide)) (by decide) (vox_of hf.x.2) hyf (by omega) (evs_at (hf.blkAt 10 rfl) (by kernel_rfl)) (ky_two 1 1 (1, 2, 0) ky11) (by decide)
    rw [hys, hh_bad] at this
    exact this
  exact pure_done (by intros; kernel_rfl)
end Go.Proofs.Ytbedoemdjlollaa

namespace Go.Proofs.Ytbedoemdjlollaa
open Go Go.ChangeShapes Go.WideShapes Go.ChangeAt Go.RowKit Go.Syn Go.Eng
set_option linter.unusedVariables false
set_option linter.unusedSimpArgs false
set_option maxRecDepth 100000
section
variable {C : Cfg} {ρ : Env} {pre : List Nat} {hx : HX} {L : Stack} {m m' : Mem} {args : List SV} {r : SV} {t : Tree}
theorem node_vonew {f : Nat} (xs : List (Vo Pv)) (AS : List Nat → Array Value) (hargs : ∀ ids, (args.map (SV.den ρ ids)).toArray = AS ids) (hcall : ∀ ids w, pre <+: ids → Facts C m ρ ids hx w → Calls C.P f (AS ids) w (VoNew w xs)) (hr : ∀ b d l ids, r.den (ρ.add ⟨[], [], [], [l, d], [b]⟩) ids = .slice b l d)
    (hhp : m'.hp = m.hp) (hft : hpFits m.c m.hp.length m.hp = true) (hc : ∀ b d l, (ρ.add ⟨[], [], [], [l, d], [b]⟩).cnt = m'.c)
    (h : ∀ b d ys, vlsOf ys = vlsOf xs → (∀ k, ((voAll ys).and (vrow b d ys)).F k → C.W.heap.size ≤ k ∧ ¬ hx.F k) → t.holds C (ρ.add ⟨[], [], [], [ys.length, d], [b]⟩) pre (hx.and ((voAll ys).and (vrow b d ys))) L) : (Tree.call f args m r m' t).holds C ρ pre hx L := by
  refine node_out AS (fun vs h' => ∃ (b : Option Addr) (d : Nat) (ys : List (Vo Pv)), vlsOf ys = vlsOf xs ∧ vs = ⟨[], [], [], [ys.length, d], [b]⟩ ∧ h' = (voAll ys).and (vrow b d ys)) hargs (fun ids w hp hf2 => ?_) hhp hft ?_ ?_
  · refine (hcall ids w hp hf2).mono ?_
    rintro e w' ⟨b, d, ys, rfl, g1, g2, g3, g4⟩
    exact ⟨_, _, ⟨b, d, ys, g1, rfl, rfl⟩, by rw [hr], g2, g3, g4⟩
  · rintro vs h' ⟨b, d, ys, _, rfl, rfl⟩; exact ⟨hc _ _ _, oneNil⟩
  · rintro vs h' ⟨b, d, ys, e, rfl, rfl⟩ hfr; exact h b d ys e hfr
end
theorem copied_any (a : Option Addr) (c : Nat) (xs : List (Vo Pv)) (w : World) (H : (voX a xs).X w) (hf : ∀ x ∈ xs, VlFit x.v.v) (hl : xs.length * 80 ≤ 140737488355328) : Calls Try.prog 9 #[.slice a xs.length c] w (VoNew w xs) := by
  refine calls_at (tab_ok _) Try.func9 rfl tCopied (ρ := ⟨[], [], [], [xs.length, c], [a]⟩) (ids := []) (hx := HX.nil) rfl (Facts.initP rfl oneNil) ?_
  refine node_vonew xs (fun _ => #[.slice a xs.length c]) (by intros; kernel_rfl) (fun ids w2 hp hf2 => cpvs7_any a c xs w2 ((voX a xs).loc _ _ H fun k hk => hf2.chg.block k (voX_sep H k hk) (fun q => q)) hf hl) (by intros; kernel_rfl) (by kernel_rfl) (by kernel_rfl) (by intros; kernel_rfl) ?_
  intro b d ys hv hfr ids w2 hp hf2
  exact ⟨b, d, ys, by kernel_rfl, hv, hf2.x.2, fun k hk => ⟨(hfr k hk).1, (hf2.sep k (.inr hk)).1⟩, hf2.chg.below⟩
end Go.Proofs.Ytbedoemdjlollaa

namespace Go.Proofs.Ytbedoemdjlollaa
open Go Go.ChangeShapes Go.WideShapes Go.ChangeAt Go.RowKit Go.Syn Go.Eng
set_option linter.unusedVariables false
set_option linter.unusedSimpArgs false
set_option maxRecDepth 100000
section
variable {C : Cfg} {ρ : Env} {pre : List Nat} {hx : HX} {L : Stack} {m m' : Mem} {args : List SV} {r : SV} {t : Tree}
theorem node_rmg {f : Nat} {R : List (Vo Vl) × Int} (AS : List Nat → Array Value) (hargs : ∀ ids, (args.map (SV.den ρ ids)).toArray = AS ids) (hcall : ∀ ids w, pre <+: ids → Facts C m ρ ids hx w → Calls C.P f (AS ids) w (RMgNew w R)) (hr : ∀ b d l ids, r.den (ρ.add ⟨[R.2], [], [], [l, d], [b]⟩) ids = .tuple #[.slice b l d, .int .i64 R.2])
    (hhp : m'.hp = m.hp) (hft : hpFits m.c m.hp.length m.hp = true) (hc : ∀ b d l, (ρ.add ⟨[R.2], [], [], [l, d], [b]⟩).cnt = m'.c)
    (h : ∀ b d ys, vlsOf ys = R.1 → (∀ x ∈ ys, VlFit x.v.v) → (∀ k, (voX b ys).F k → C.W.heap.size ≤ k ∧ ¬ hx.F k) → t.holds C (ρ.add ⟨[R.2], [], [], [ys.length, d], [b]⟩) pre (hx.and (voX b ys)) L) : (Tree.call f args m r m' t).holds C ρ pre hx L := by
  refine node_out AS (fun vs h' => ∃ (b : Option Addr) (d : Nat) (ys : List (Vo Pv)), (vlsOf ys = R.1 ∧ ∀ x ∈ ys, VlFit x.v.v) ∧ vs = ⟨[R.2], [], [], [ys.length, d], [b]⟩ ∧ h' = voX b ys) hargs (fun ids w hp hf2 => ?_) hhp hft ?_ ?_
  · refine (hcall ids w hp hf2).mono ?_
    rintro e w' ⟨b, d, ys, rfl, g1, g0, g2, g3, g4⟩
    exact ⟨_, _, ⟨b, d, ys, ⟨g1, g0⟩, rfl, rfl⟩, by rw [hr], g2, g3, g4⟩
  · rintro vs h' ⟨b, d, ys, _, rfl, rfl⟩; exact ⟨hc _ _ _, oneNil⟩
  · rintro vs h' ⟨b, d, ys, ⟨e, e0⟩, rfl, rfl⟩ hfr; exact h b d ys e e0 hfr
theorem node_mgn {f : Nat} {R : List (Vo Vl) × Int} (AS : List Nat → Array Value) (hargs : ∀ ids, (args.map (SV.den ρ ids)).toArray = AS ids) (hcall : ∀ ids w, pre <+: ids → Facts C m ρ ids hx w → Calls C.P f (AS ids) w (MgNew w R)) (hr : ∀ b d l ids, r.den (ρ.add ⟨[R.2], [], [], [l, d], [b]⟩) ids = .tuple #[.slice b l d, .int .i64 R.2])
    (hhp : m'.hp = m.hp) (hft : hpFits m.c m.hp.length m.hp = true) (hc : ∀ b d l, (ρ.add ⟨[R.2], [], [], [l, d], [b]⟩).cnt = m'.c)
    (h : ∀ b d ys, vlsOf ys = R.1 → (∀ k, ((voAll ys).and (vrow b d ys)).F k → C.W.heap.size ≤ k ∧ ¬ hx.F k) → t.holds C (ρ.add ⟨[R.2], [], [], [ys.length, d], [b]⟩) pre (hx.and ((voAll ys).and (vrow b d ys))) L) : (Tree.call f args m r m' t).holds C ρ pre hx L := by
  refine node_out AS (fun vs h' => ∃ (b : Option Addr) (d : Nat) (ys : List (Vo Pv)), vlsOf ys = R.1 ∧ vs = ⟨[R.2], [], [], [ys.length, d], [b]⟩ ∧ h' = (voAll ys).and (vrow b d ys)) hargs (fun ids w hp hf2 => ?_) hhp hft ?_ ?_
  · refine (hcall ids w hp hf2).mono ?_
    rintro e w' ⟨b, d, ys, rfl, g1, g2, g3, g4⟩
    exact ⟨_, _, ⟨b, d, ys, g1, rfl, rfl⟩, by rw [hr], g2, g3, g4⟩
  · rintro vs h' ⟨b, d, ys, _, rfl, rfl⟩; exact ⟨hc _ _ _, oneNil⟩
  · rintro vs h' ⟨b, d, ys, e, rfl, rfl⟩ hfr; exact h b d ys e hfr
end
def tlR (t : Tl) : HX := (voAll t.xs).and (vrow t.a t.c t.xs)
def mrow (a : Option Addr) (c : Nat) (ms : List Tl) : HX := HX.rw 1 24 a ms.length c (ms.flatMap tlC)
def mH (ms : List Tl) (am : Option Addr) (cm : Nat) : HX := (HX.nil.and (HX.all (ms.map tlR))).and (mrow am cm ms)
structure MsOk (W : World) (ms : List Tl) (am : Option Addr) (cm : Nat) : Prop where
  ov : OwnR W HX.nil (HX.all (ms.map tlR))
  ow : OwnR W (HX.nil.and (HX.all (ms.map tlR))) (mrow am cm ms)
  s1 : cm ≠ 0 → am.isSome = true
  s2 : ms ≠ [] → cm ≠ 0
theorem tls_snoc (ms : List Tl) (z : Tl) : ms.flatMap tlC ++ tlC z = (ms ++ [z]).flatMap tlC := by rw [List.flatMap_append]; simp
theorem info_vs : (Try.prog.info? 24).map (fun i => (i.zero, i.size, i.bytes)) = some (some (.slice none 0 0), 1, 24) := by kernel_rfl
theorem tl_vls (ts : List Tl) : vlsOf (tlAll ts) = (ts.map fun t => vlsOf t.xs).flatten := by
  induction ts with
  | nil => rfl
  | cons t r ih =>
    show vlsOf (t.xs ++ tlAll r) = _
    rw [vls_app, ih]; rfl
theorem mh_tl {w : World} {ms : List Tl} {am : Option Addr} {cm : Nat} (h : (mH ms am cm).X w) : (tlX am ms).X w := tl_X (rw_cells h.2) fun t ht => vox_of (h.1.2 _ (List.mem_map.2 ⟨t, ht, rfl⟩))
theorem mh_part {w : World} {ms : List Tl} {am : Option Addr} {cm : Nat} (h : (mH ms am cm).X w) {i : Nat} {t : Tl} (hi : ms[i]? = some t) : CellsAt w (.pointer (some (((am.getD ⟨0, 0, none⟩).add (i * 1)).add 0))) (tlC t) (fun _ => False) := (tl_part (mh_tl h) hi).2
def vrW (b : Option Addr) (d : Nat) (hs : List (Vo Pv)) : Wr := ⟨6, 39, b, hs.length, d, fun xs => xs = vocs hs⟩
def crW (y : Vo Pv) : Wr := ⟨8, 43, y.v.a1, y.v.v.cs.length, y.v.c1, fun _ => True⟩
def wlH (b : Option Addr) (d : Nat) (hs : List (Vo Pv)) : List Wr := vrW b d hs :: hs.map crW
theorem wl_of {w : World} {b : Option Addr} {d : Nat} {hs : List (Vo Pv)} (h : ((voAll hs).and (vrow b d hs)).X w) : (wilds (wlH b d hs)).X w := wilds_of fun r hr => by
  rcases List.mem_cons.1 hr with rfl | hr
  · exact Wr.of (xs := vocs hs) h.2 (flat_len voc_len hs) rfl
  · obtain ⟨y, hy, rfl⟩ := List.mem_map.1 hr
    have := h.1 _ (List.mem_map.2 ⟨y, hy, rfl⟩)
    exact Wr.of (xs := ccells y.v.v.cs) this.1 (ccells_len y.v.v.cs) trivial
theorem wl_F {b : Option Addr} {d : Nat} {hs : List (Vo Pv)} {r : Wr} (hr : r ∈ wlH b d hs) {k : Nat} (h1 : r.cap ≠ 0) (h2 : abk r.a = some k) : ((voAll hs).and (vrow b d hs)).F k := by
  rcases List.mem_cons.1 hr with rfl | hr
  · exact .inr ⟨h1, h2⟩
  · obtain ⟨y, hy, rfl⟩ := List.mem_map.1 hr
    exact .inl ⟨_, List.mem_map.2 ⟨y, hy, rfl⟩, .inl ⟨h1, h2⟩⟩
theorem wr_some {w : World} {r : Wr} (h : r.hx.X w) (hn : 0 < r.n * r.sz) : r.a.isSome = true := by
  obtain ⟨xs, hl, _, hX⟩ := Wr.open h
  exact row_isS hX (fun q => by rw [q] at hl; simp at hl; omega)
theorem wl_vote {w : World} {b : Option Addr} {d : Nat} {hs : List (Vo Pv)} (h : (wilds (wlH b d hs)).X w) {i : Nat} {y : Vo Pv} (hi : hs[i]? = some y) : CellsAt w (.pointer (some (((b.getD ⟨0, 0, none⟩).add (i * 6)).add 4))) [.slice y.v.a1 y.v.v.cs.length y.v.c1] (fun _ => False) := by
  obtain ⟨xs, hl, hP, hX⟩ := Wr.open (wilds_get (r := vrW b d hs) List.mem_cons_self h)
  have hP : xs = vocs hs := hP
  subst hP
  exact row_part (c := d) hX hi 4 _ (fun j u hj => by cases j with | zero => exact hj | succ j => cases hj) (by simp)
def NestLe (W : World) (a : Option Addr) (n N : Nat) : Prop := PlainA a → ∀ ls : List Nat, ls.length = n → (∀ (i l : Nat), ls[i]? = some l → ∃ x c, W.cell? ⟨blk a, ofs a + i, none⟩ = some (.slice x l c)) → ls.sum ≤ N
theorem tls_get : ∀ (ts : List Tl) (i : Nat), (ts.flatMap tlC)[i]? = (ts[i]?).map fun t => .slice t.a t.xs.length t.c
  | [], i => by simp
  | t :: r, 0 => rfl
  | t :: r, i + 1 => by
    show (tlC t ++ r.flatMap tlC)[i + 1]? = _
    rw [show tlC t ++ r.flatMap tlC = Value.slice t.a t.xs.length t.c :: r.flatMap tlC from rfl, List.getElem?_cons_succ, tls_get r i]; rfl
set_option maxHeartbeats 8000000 in
theorem merges_walk (a : Option Addr) (cp : Nat) (ts : List Tl) (w : World) (H0 : (tlX a ts).X w) (hts : ∀ t ∈ ts, TlOk t) (hlen : ts.length ≤ 1048576) (hN : (tlAll ts).length ≤ 1048576) :
    Calls Try.prog 3 #[.slice a ts.length cp] w (PureAt w (.bool true)) := by
  refine calls_at (tab_ok _) Try.func3 rfl tLMerges (ρ := ⟨[], [], [], [ts.length, cp], [a]⟩) (ids := []) (hx := HX.nil) rfl (Facts.initP rfl oneNil) ?_
  have keepT : ∀ {m : Mem} {ρ : Env} {ids : List Nat} {hx : HX} {w2 : World} {R : Ending → World → Prop}, Facts ⟨Try.prog, w, fun _ => False, R⟩ m ρ ids hx w2 → (tlX a ts).X w2 := fun hf => (tlX a ts).loc _ _ H0 fun k hk => hf.chg.block k (tl_sep H0 k hk) (fun q => q)
  refine node_P ⟨[], [true], [], [], []⟩ #[] (.bool true) (by intros; kernel_rfl) (by intros; kernel_rfl) (by kernel_rfl) (by kernel_rfl) (by kernel_rfl) oneNil (fun ids w2 hp hf => head25_any w2) ?_
  refine br_f (by kernel_rfl) ?_
  refine ⟨fun vs hx n => ∃ (i : Nat) (ms : List Tl) (am : Option Addr) (cm : Nat), n = ts.length - i ∧ i ≤ ts.length ∧ ms.map (fun t => vlsOf t.xs) = (ts.take i).map (fun t => vlsOf t.xs) ∧ MsOk w ms am cm ∧ vs = ⟨[(i : Int)], [], [], [ms.length, cm], [am]⟩ ∧ mH ms am cm = hx, fun ids w2 hp hf => ⟨mH [] (some ⟨idAt ids 0, 0, none⟩) 0, ts.length, ⟨⟨⟨hf.x, fun x hx => by cases hx⟩, HX.rw_nil _ _ _ _⟩, fun k hk => hk.elim (fun q => q.elim (fun q => hf.sep k q) fun ⟨x, hx, _⟩ => by cases hx) fun q => absurd rfl q.1⟩, 0, [], some ⟨idAt ids 0, 0, none⟩, 0, rfl, Nat.zero_le _, rfl, ⟨(fun k ⟨x, hx, _⟩ => by cases hx), (fun k hk => absurd rfl hk.1), (fun q => absurd rfl q), (fun q => absurd rfl q)⟩, by kernel_rfl, rfl⟩, ?_⟩
  rintro vs hx' n hcnt ⟨i, ms, am, cm, rfl, hi, hms, hM, rfl, rfl⟩
  have hml : ms.length = i := by
    have := congrArg List.length hms
    rw [List.length_map, List.length_map, List.length_take] at this
    omega
  refine holds_env (ρ' := ⟨[(i : Int)], [true], [], [ts.length, cp, ms.length, cm], [a, am]⟩) (by kernel_rfl) ?_
  refine br_D (p := (i : Int) < (ts.length : Int)) (by kernel_rfl) (fun hlt => ?B) (fun hlt => ?E)
  case B =>
    have hlt : i < ts.length := by omega
    have hwi : IntKind.i64.wrap ((i : Int) + 1) = ((i + 1 : Nat) : Int) := by rw [wrap_i64 (by omega)]; omega
    obtain ⟨t, ht⟩ : ∃ t, ts[i]? = some t := ⟨_, List.getElem?_eq_getElem hlt⟩
    have htm := List.mem_of_getElem? ht
    have hok := hts t htm
    obtain ⟨s1, g1⟩ := tl_part H0 ht
    refine need_k (a.isSome = true ∧ (0 : Int) ≤ (i : Int) ∧ (i : Int) < (ts.length : Int)) (by kernel_rfl) ⟨s1, by omega, by omega⟩ ?_
    refine node_ld0 (k := ⟨1, 1, 0, 4, 2⟩) ⟨[], [], [], [t.xs.length, t.c], [t.a]⟩ (.pointer (some (((a.getD ⟨0, 0, none⟩).add (i * 1)).add 0))) (tlC t) (by intros; kernel_rfl) (by intros; kernel_rfl) g1 ⟨by kernel_rfl, oneNil⟩ (by kernel_rfl) oneNil ?_
    refine node_vonew t.xs (fun _ => #[.slice t.a t.xs.length t.c]) (by intros; kernel_rfl) (fun ids w2 hp hf2 => copied_any t.a t.c t.xs w2 (tl_vo (keepT hf2) htm) hok.f hok.l) (by intros; kernel_rfl) (by kernel_rfl) (by kernel_rfl) (by intros; kernel_rfl) ?_
    intro b d ys hv hfr
    obtain ⟨z, ez⟩ : ∃ z : Tl, z = ⟨b, d, ys⟩ := ⟨_, rfl⟩
    have ezr : (voAll ys).and (vrow b d ys) = tlR z := by rw [ez]; rfl
    rw [ezr] at hfr ⊢
    unfold mH
    refine holds_eq (HX.and_right_comm _ _ _) ?_
    have epc : (HX.nil.and (HX.all (ms.map tlR))).and (tlR z) = HX.nil.and (HX.all ((ms ++ [z]).map tlR)) := by rw [List.map_append, List.map_cons, List.map_nil, all_snocV, HX.and_assoc]
    refine holds_eq (congrArg (fun y => y.and (mrow am cm ms)) epc) ?_
    have own1 : OwnR w HX.nil (HX.all ((ms ++ [z]).map tlR)) := fun j hj => by
      rw [List.map_append, List.map_cons, List.map_nil, all_snocV] at hj
      rcases hj with hj | hj
      · exact hM.ov j hj
      · exact ⟨(hfr j hj).1, fun y => (hfr j hj).2 (.inl (.inl y))⟩
    have hdis : ∀ j, cm ≠ 0 → abk am = some j → ¬ (HX.nil.and (HX.all ((ms ++ [z]).map tlR))).F j := fun j q1 q2 y => by
      rcases y with y | y
      · exact (hM.ow j ⟨q1, q2⟩).2 (.inl y)
      · rw [List.map_append, List.map_cons, List.map_nil, all_snocV] at y
        rcases y with y | y
        · exact (hM.ow j ⟨q1, q2⟩).2 (.inr y)
        · exact (hfr j y).2 (.inr ⟨q1, q2⟩)
    refine node_pushs (e := 24) (sz := 1) rfl (by kernel_rfl) info_vs rfl (by decide) am ms.length cm (ms.flatMap tlC) (tlC z) 1 (by intros; kernel_rfl) (by intros; kernel_rfl) rfl (fun ids => by rw [ez]; kernel_rfl) rfl (fun v hv => by rw [List.mem_singleton.1 hv]; rfl) hdis (fun j q1 q2 => .inl (hM.ow j ⟨q1, q2⟩).1) (by unfold maxLen; omega) (by omega) (by intros; kernel_rfl) (by kernel_rfl) (by kernel_rfl) (by intros; kernel_rfl) ?_
    intro b' d' hc' hr' hor'
    have hlz : (ms ++ [z]).length = ms.length + 1 := by rw [List.length_append]; rfl
    have erow : HX.rw 1 24 b' (ms.length + 1) d' (ms.flatMap tlC ++ tlC z) = mrow b' d' (ms ++ [z]) := by unfold mrow; rw [tls_snoc, List.length_append]; rfl
    refine holds_eq (congrArg _ erow) ?_
    refine again_V ⟨[IntKind.i64.wrap ((i : Int) + 1)], [], [], [ms.length + 1, d'], [b']⟩ rfl (by intros; kernel_rfl) _ (fun w2 ids hf => ⟨hf.x, hf.sep⟩) ⟨ts.length - (i + 1), by omega, i + 1, ms ++ [z], b', d', rfl, by omega, by
      rw [List.map_append, hms, List.take_add_one, ht, Option.toList_some, List.map_append, List.map_cons, List.map_nil, List.map_cons, List.map_nil, ez]
      show _ ++ [vlsOf ys] = _
      rw [hv], ⟨own1, fun j hj => ⟨?_, hr' j hj.2⟩, fun _ => ?_, fun _ => hc'⟩, by rw [hwi, hlz], rfl⟩
    · rcases hor' with ⟨r1, r2⟩ | ⟨g, r1, r2, _⟩
      · exact (hM.ow j ⟨r1, by rw [← r2]; exact hj.2⟩).1
      · have := hj.2
        rw [r1] at this; cases this; exact r2
    · rcases hor' with ⟨r1, r2⟩ | ⟨g, r1, r2, _⟩
      · exact abk_same r2 (hM.s1 r1)
      · exact abk_some r1
  have hie : i = ts.length := by omega
  rw [hie, List.take_length] at hms
  obtain ⟨R, eR⟩ : ∃ R, R = mergeV (vlsOf (tlAll ts)) := ⟨_, rfl⟩
  have hvl : vlsOf (tlAll ms) = vlsOf (tlAll ts) := by rw [tl_vls, tl_vls, hms]
  have hvi : ∀ {k : Nat} {m t : Tl}, ms[k]? = some m → ts[k]? = some t → vlsOf m.xs = vlsOf t.xs := fun {k m t} h1 h2 => by
    have := congrArg (fun l => l[k]?) hms
    simp only [List.getElem?_map, h1, h2, Option.map_some, Option.some.injEq] at this
    exact this
  have hmok : ∀ m ∈ ms, TlOk m := fun m hm => by
    obtain ⟨k, hk⟩ := List.mem_iff_getElem?.1 hm
    obtain ⟨q, _⟩ := List.getElem?_eq_some_iff.1 hk
    obtain ⟨t, ht⟩ : ∃ t, ts[k]? = some t := ⟨_, List.getElem?_eq_getElem (by omega)⟩
    have e := hvi hk ht
    have ok := hts t (List.mem_of_getElem? ht)
    have hf := vls_fit e (fun x hx => ⟨ok.s x hx, ok.f x hx⟩)
    have hl : m.xs.length = t.xs.length := by rw [← vlsOf_len m.xs, e, vlsOf_len]
    exact ⟨fun x hx => (hf x hx).1, fun x hx => (hf x hx).2, by rw [hl]; exact ok.l⟩
  have hNm : (tlAll ms).length ≤ 1048576 := by rw [← vlsOf_len, hvl, vlsOf_len]; exact hN
  refine node_rmg (R := R) (fun _ => #[.slice a ts.length cp]) (by intros; kernel_rfl) (fun ids w2 hp hf => by rw [eR]; exact rmerge25_any a cp ts w2 (keepT hf) hts (by omega) hN) (by intros; kernel_rfl) (by kernel_rfl) (by kernel_rfl) (by intros; kernel_rfl) ?_
  intro bw dw ws hws hwf hfw
  refine node_mgn (R := R) (fun _ => #[.slice am ms.length cm]) (by intros; kernel_rfl) (fun ids w2 hp hf => by rw [eR, ← hvl]; exact jmerge_any am cm ms w2 (mh_tl hf.x.1) hmok (by omega) hNm) (by intros; kernel_rfl) (by kernel_rfl) (by kernel_rfl) (by intros; kernel_rfl) ?_
  intro bh dh hs hhs hfh
  have hhf : ∀ y ∈ hs, VlFit y.v.v := fun y hy => by
    have : Vo.map Pv.v y ∈ vlsOf ws := by rw [hws, ← hhs]; exact List.mem_map.2 ⟨y, hy, rfl⟩
    obtain ⟨u, hu, e⟩ := List.mem_map.1 this
    have e2 : u.v.v = y.v.v := congrArg Vo.v e
    rw [← e2]; exact hwf u hu
  refine br_F (R.2 != R.2) (by kernel_rfl) (by simp) ?_
  have hll : hs.length ≤ 1048576 := by
    have := merge_len (tlAll ts)
    rw [← eR, ← hhs, vlsOf_len] at this
    omega
  refine node_PI ⟨[], [true], [], [], []⟩ (fun _ => #[.slice bh hs.length dh, .slice bw ws.length dw]) (.bool true) (by intros; kernel_rfl) (by intros; kernel_rfl) (by kernel_rfl) (by kernel_rfl) (by kernel_rfl) oneNil (fun ids w2 hp hf => by
    have := rsamevs_any bh dh hs bw dw ws w2 (vox_of hf.x.2) hf.x.1.2 hhf hwf (by omega)
    rw [voSame_t (by rw [hhs, hws])] at this
    exact this) ?_
  refine br_F (!true) (by kernel_rfl) rfl ?_
  obtain ⟨B, eB⟩ : ∃ B, B = mH ms am cm := ⟨_, rfl⟩
  rw [← eB] at hfh ⊢
  obtain ⟨l, el⟩ : ∃ l, l = wlH bh dh hs := ⟨_, rfl⟩
  refine holds_sub _ (hx' := B.and (wilds l)) (fun w2 h => ⟨h.1.1, by rw [el]; exact wl_of h.2⟩) (fun k hk => by
    rcases hk with hk | hk
    · exact .inl (.inl hk)
    · obtain ⟨r, hr, h1, h2⟩ := wilds_F hk
      rw [el] at hr
      exact .inr (wl_F hr h1 h2)) ?_
  have ownW : ∀ r ∈ l, ∀ k, r.cap ≠ 0 → abk r.a = some k → w.heap.size ≤ k ∧ ¬ B.F k := fun r hr k h1 h2 => by
    rw [el] at hr
    have := hfh k (wl_F hr h1 h2)
    exact ⟨this.1, fun y => this.2 (.inl y)⟩
  have bM : ∀ {w2 : World}, B.X w2 → (mH ms am cm).X w2 := fun h => by rw [eB] at h; exact h
  have wV : ∀ {w2 : World} {k : Nat} {y : Vo Pv}, (wilds l).X w2 → hs[k]? = some y → CellsAt w2 (.pointer (some (((bh.getD ⟨0, 0, none⟩).add (k * 6)).add 4))) [.slice y.v.a1 y.v.v.cs.length y.v.c1] (fun _ => False) := fun h hy => by rw [el] at h; exact wl_vote h hy
  have mV : vrW bh dh hs ∈ l := by rw [el]; exact List.mem_cons_self
  have mC : ∀ y ∈ hs, crW y ∈ l := fun y hy => by rw [el]; exact List.mem_cons_of_mem _ (List.mem_map.2 ⟨y, hy, rfl⟩)
  have stC : ∀ (p : Nat) (u : Value), ∀ q ∈ l, q.e = 43 → ∀ xs, xs.length = q.n * q.sz → q.P xs → q.P (xs.set p u) := fun p u q hq he xs _ hP => by
    rw [el] at hq
    rcases List.mem_cons.1 hq with rfl | hq
    · exact absurd he (by show ¬ 39 = 43; decide)
    · obtain ⟨y, _, rfl⟩ := List.mem_map.1 hq
      trivial
  refine ⟨fun vs hx n => ∃ k : Nat, n = hs.length - k ∧ k ≤ hs.length ∧ (0 < hs.length → bh.isSome = true) ∧ vs = ⟨[(k : Int)], [], [], [], []⟩ ∧ B.and (wilds l) = hx, fun ids w2 hp hf => ⟨_, hs.length, ⟨hf.x, hf.sep⟩, 0, rfl, Nat.zero_le _, fun q => wr_some (wilds_get mV hf.x.2) (by show 0 < hs.length * 6; omega), by kernel_rfl, rfl⟩, ?_⟩
  rintro vs hx' n hcnt2 ⟨k, rfl, hk, hbs, rfl, rfl⟩
  refine holds_env (ρ' := ⟨[(i : Int), R.2, R.2, (k : Int)], [true, true], [], [ts.length, cp, ms.length, cm, ws.length, dw, hs.length, dh], [a, am, bw, bh]⟩) (by kernel_rfl) ?_
  refine br_D (p := (k : Int) < (hs.length : Int)) (by kernel_rfl) (fun hkl => ?B1) (fun hkl => ?E1)
  case B1 =>
    have hkl : k < hs.length := by omega
    have hwk : IntKind.i64.wrap ((k : Int) + 1) = ((k + 1 : Nat) : Int) := by rw [wrap_i64 (by omega)]; omega
    obtain ⟨y, hy⟩ : ∃ y, hs[k]? = some y := ⟨_, List.getElem?_eq_getElem hkl⟩
    have hym := List.mem_of_getElem? hy
    have hyl := (hhf y hym).l1
    have nd : bh.isSome = true ∧ (0 : Int) ≤ (k : Int) ∧ (k : Int) < (hs.length : Int) := ⟨hbs (by omega), by omega, by omega⟩
    refine need_k (bh.isSome = true ∧ (0 : Int) ≤ (k : Int) ∧ (k : Int) < (hs.length : Int)) (by kernel_rfl) nd ?_
    refine node_ldk ⟨[], [], [], [y.v.v.cs.length, y.v.c1], [y.v.a1]⟩ (fun _ => .pointer (some (((bh.getD ⟨0, 0, none⟩).add (k * 6)).add 4))) [.slice y.v.a1 y.v.v.cs.length y.v.c1] (by intros; kernel_rfl) (by intros; kernel_rfl) (fun ids w2 hp hf => wV hf.x.2 hy) (by kernel_rfl) oneNil ?_
    refine ⟨fun vs hx n => ∃ q : Nat, n = y.v.v.cs.length - q ∧ q ≤ y.v.v.cs.length ∧ (0 < y.v.v.cs.length → y.v.a1.isSome = true) ∧ vs = ⟨[(q : Int)], [], [], [], []⟩ ∧ B.and (wilds l) = hx, fun ids w2 hp hf => ⟨_, y.v.v.cs.length, ⟨hf.x, hf.sep⟩, 0, rfl, Nat.zero_le _, fun q => wr_some (wilds_get (mC y hym) hf.x.2) (by show 0 < y.v.v.cs.length * 8; omega), by kernel_rfl, rfl⟩, ?_⟩
    rintro vs hx' n hcnt3 ⟨q, rfl, hq, hqs, rfl, rfl⟩
    refine holds_env (ρ' := ⟨[(i : Int), R.2, R.2, (k : Int), (q : Int)], [true, true], [], [ts.length, cp, ms.length, cm, ws.length, dw, hs.length, dh, y.v.v.cs.length, y.v.c1], [a, am, bw, bh, y.v.a1]⟩) (by kernel_rfl) ?_
    refine br_D (p := (q : Int) < (y.v.v.cs.length : Int)) (by kernel_rfl) (fun hql => ?B2) (fun hql => ?E2)
    case E2 =>
      exact again_V ⟨[IntKind.i64.wrap ((k : Int) + 1)], [], [], [], []⟩ rfl (by intros; kernel_rfl) _ (fun w2 ids hf => ⟨hf.x, hf.sep⟩) ⟨hs.length - (k + 1), by omega, k + 1, rfl, by omega, hbs, by rw [hwk], rfl⟩
    have hql : q < y.v.v.cs.length := by omega
    have hwq : IntKind.i64.wrap ((q : Int) + 1) = ((q + 1 : Nat) : Int) := by rw [wrap_i64 (by omega)]; omega
    refine need_k (bh.isSome = true ∧ (0 : Int) ≤ (k : Int) ∧ (k : Int) < (hs.length : Int)) (by kernel_rfl) nd ?_
    refine node_ldk ⟨[], [], [], [y.v.v.cs.length, y.v.c1], [y.v.a1]⟩ (fun _ => .pointer (some (((bh.getD ⟨0, 0, none⟩).add (k * 6)).add 4))) [.slice y.v.a1 y.v.v.cs.length y.v.c1] (by intros; kernel_rfl) (by intros; kernel_rfl) (fun ids w2 hp hf => wV hf.x.2 hy) (by kernel_rfl) oneNil ?_
    refine need_k (y.v.a1.isSome = true ∧ (0 : Int) ≤ (q : Int) ∧ (q : Int) < (y.v.v.cs.length : Int)) (by kernel_rfl) ⟨hqs (by omega), by omega, by omega⟩ ?_
    refine node_wst l (crW y) (mC y hym) q 1 (.int .i64 (-1)) (by kernel_rfl) (by intros; kernel_rfl) (by intros; kernel_rfl) rfl rfl (by show q * 8 + 1 < y.v.v.cs.length * 8; omega) (stC _ _) (fun j h1 h2 => (ownW _ (mC y hym) j h1 h2).2) (fun j h1 h2 => .inl (ownW _ (mC y hym) j h1 h2).1) (by kernel_rfl) (by kernel_rfl) (by kernel_rfl) ?_
    exact again_V ⟨[IntKind.i64.wrap ((q : Int) + 1)], [], [], [], []⟩ rfl (by intros; kernel_rfl) _ (fun w2 ids hf => ⟨hf.x, hf.sep⟩) ⟨y.v.v.cs.length - (q + 1), by omega, q + 1, rfl, by omega, hqs, by rw [hwq], rfl⟩
  refine ⟨fun vs hx n => ∃ q : Nat, n = ms.length - q ∧ q ≤ ms.length ∧ vs = ⟨[(q : Int)], [], [], [], []⟩ ∧ B.and (wilds l) = hx, fun ids w2 hp hf => ⟨_, ms.length, ⟨hf.x, hf.sep⟩, 0, rfl, Nat.zero_le _, by kernel_rfl, rfl⟩, ?_⟩
  rintro vs hx' n hcnt4 ⟨q, rfl, hq, rfl, rfl⟩
  refine holds_env (ρ' := ⟨[(i : Int), R.2, R.2, (k : Int), (q : Int)], [true, true], [], [ts.length, cp, ms.length, cm, ws.length, dw, hs.length, dh], [a, am, bw, bh]⟩) (by kernel_rfl) ?_
  refine br_D (p := (q : Int) < (ms.length : Int)) (by kernel_rfl) (fun hql => ?_) (fun hql => pure_done (by intros; kernel_rfl))
  have hql : q < ms.length := by omega
  have hwq : IntKind.i64.wrap ((q : Int) + 1) = ((q + 1 : Nat) : Int) := by rw [wrap_i64 (by omega)]; omega
  obtain ⟨m, hm⟩ : ∃ m, ms[q]? = some m := ⟨_, List.getElem?_eq_getElem hql⟩
  obtain ⟨t, ht⟩ : ∃ t, ts[q]? = some t := ⟨_, List.getElem?_eq_getElem (by omega)⟩
  have hmm := List.mem_of_getElem? hm
  have htm := List.mem_of_getElem? ht
  obtain ⟨s1, g1⟩ := tl_part H0 ht
  have hok := hts t htm
  have hlx : t.xs.length * 80 ≤ 140737488355328 := hok.l
  have hel : m.xs.length = t.xs.length := by rw [← vlsOf_len m.xs, hvi hm ht, vlsOf_len]
  have hsame : ∀ {w2 : World}, (B.and (wilds l)).X w2 → (tlX a ts).X w2 → Calls Try.prog 12 #[.slice m.a m.xs.length m.c, .slice t.a t.xs.length t.c] w2 (PureAt w2 (.bool true)) := fun {w2} hX hT => by
    have := rsamevs_any m.a m.c m.xs t.a t.c t.xs w2 (tl_vo (mh_tl (bM hX.1)) hmm) (tl_vo hT htm) (hmok m hmm).f hok.f (by omega)
    rw [voSame_t (hvi hm ht)] at this
    exact this
  refine need_k (am.isSome = true ∧ (0 : Int) ≤ (q : Int) ∧ (q : Int) < (ms.length : Int)) (by kernel_rfl) ⟨hM.s1 (hM.s2 (fun e => by rw [e] at hql; simp at hql)), by omega, by omega⟩ ?_
  refine need_k (a.isSome = true ∧ (0 : Int) ≤ (q : Int) ∧ (q : Int) < (ts.length : Int)) (by kernel_rfl) ⟨s1, by omega, by omega⟩ ?_
  refine par_i ?_ ?_
  · refine node_ldk ⟨[], [], [], [m.xs.length, m.c], [m.a]⟩ (fun _ => .pointer (some (((am.getD ⟨0, 0, none⟩).add (q * 1)).add 0))) (tlC m) (by intros; kernel_rfl) (by intros; kernel_rfl) (fun ids w2 hp hf => mh_part (bM hf.x.1) hm) (by kernel_rfl) oneNil ?_
    refine node_ld0 (k := ⟨5, 2, 0, 10, 5⟩) ⟨[], [], [], [t.xs.length, t.c], [t.a]⟩ (.pointer (some (((a.getD ⟨0, 0, none⟩).add (q * 1)).add 0))) (tlC t) (by intros; kernel_rfl) (by intros; kernel_rfl) g1 ⟨by kernel_rfl, oneNil⟩ (by kernel_rfl) oneNil ?_
    refine node_PI ⟨[], [true], [], [], []⟩ (fun _ => #[.slice m.a m.xs.length m.c, .slice t.a t.xs.length t.c]) (.bool true) (by intros; kernel_rfl) (by intros; kernel_rfl) (by kernel_rfl) (by kernel_rfl) (by kernel_rfl) oneNil (fun ids w2 hp hf => hsame hf.x (keepT hf)) ?_
    refine br_F (!true) (by kernel_rfl) rfl ?_
    exact again_V ⟨[IntKind.i64.wrap ((q : Int) + 1)], [], [], [], []⟩ rfl (by intros; kernel_rfl) _ (fun w2 ids hf => ⟨hf.x, hf.sep⟩) ⟨ms.length - (q + 1), by omega, q + 1, rfl, by omega, by rw [hwq], rfl⟩
  · refine node_ld0 (k := ⟨5, 2, 0, 8, 4⟩) ⟨[], [], [], [t.xs.length, t.c], [t.a]⟩ (.pointer (some (((a.getD ⟨0, 0, none⟩).add (q * 1)).add 0))) (tlC t) (by intros; kernel_rfl) (by intros; kernel_rfl) g1 ⟨by kernel_rfl, oneNil⟩ (by kernel_rfl) oneNil ?_
    refine node_ldk ⟨[], [], [], [m.xs.length, m.c], [m.a]⟩ (fun _ => .pointer (some (((am.getD ⟨0, 0, none⟩).add (q * 1)).add 0))) (tlC m) (by intros; kernel_rfl) (by intros; kernel_rfl) (fun ids w2 hp hf => mh_part (bM hf.x.1) hm) (by kernel_rfl) oneNil ?_
    refine node_PI ⟨[], [true], [], [], []⟩ (fun _ => #[.slice m.a m.xs.length m.c, .slice t.a t.xs.length t.c]) (.bool true) (by intros; kernel_rfl) (by intros; kernel_rfl) (by kernel_rfl) (by kernel_rfl) (by kernel_rfl) oneNil (fun ids w2 hp hf => hsame hf.x (keepT hf)) ?_
    refine br_F (!true) (by kernel_rfl) rfl ?_
    exact again_V ⟨[IntKind.i64.wrap ((q : Int) + 1)], [], [], [], []⟩ rfl (by intros; kernel_rfl) _ (fun w2 ids hf => ⟨hf.x, hf.sep⟩) ⟨ms.length - (q + 1), by omega, q + 1, rfl, by omega, by rw [hwq], rfl⟩
theorem merges_args (a : Option Addr) (cp : Nat) (ds : List Dat) (w : World) (hC : Cells w a (Dat.cellsAll ds)) (hds : ∀ d ∈ ds, d.In Try.prog w 24) (hl : ds.length ≤ 9223372036854775807) (hb : ds.length * Try.prog.bytesOf 24 ≤ reachBytes) (hu : ds.length ≤ 1048576) (hN : NestLe w a ds.length 1048576) :
    Calls Try.prog 3 #[.slice a ds.length cp] w (PureAt w (.bool true)) := by
  obtain ⟨ts, e1, e2, o⟩ := opn_tls ds hds
  rw [e2] at hC
  rw [← e1] at hN hu ⊢
  refine merges_walk a cp ts w (tl_X hC fun t ht => (o t ht).2) (fun t ht => (o t ht).1) hu ?_
  have hlen : (tlAll ts).length = (ts.map fun t => t.xs.length).sum := by unfold tlAll; rw [List.length_flatMap]
  rw [hlen]
  cases ts with
  | nil => simp
  | cons t r =>
    obtain ⟨h1, _, h3⟩ := hC (by simp [tlC])
    refine hN h1 _ (List.length_map _) fun i l hi => ?_
    rw [List.getElem?_map] at hi
    obtain ⟨u, hu, rfl⟩ := Option.map_eq_some_iff.1 hi
    exact ⟨u.a, u.c, h3 i _ (by rw [tls_get, hu]; rfl)⟩
end Go.Proofs.Ytbedoemdjlollaa
