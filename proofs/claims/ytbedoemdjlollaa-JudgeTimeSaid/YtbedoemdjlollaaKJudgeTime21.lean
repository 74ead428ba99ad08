/- Part 21 of the texts of a proof about the given program: what the statement's proof needs of them. -/
import Derived.Test.YtbedoemdjlollaaKJudgeTime20
namespace Go.Proofs.Ytbedoemdjlollaa
open Go Go.ChangeShapes Go.WideShapes Go.ChangeAt Go.RowKit Go.Syn Go.Eng
set_option linter.unusedVariables false
set_option linter.unusedSimpArgs false
set_option maxRecDepth 100000
structure Ev where
  k : Int
  sess : Int
  seq : Int
  op : OpD
  rk : Int
  rre : Int
  rim : Int
  node : Int
def Ev.key (e : Ev) : Ky := (e.sess, e.seq)
def Ev.res (e : Ev) : Int × Int × Int := (e.rk, e.rre, e.rim)
def Ev.is (e : Ev) : List Int := [e.k, e.sess, e.seq, e.op.kind, e.op.reg, e.op.tg, e.op.re, e.op.im, e.rk, e.rre, e.rim, e.node]
def Ev.cells (e : Ev) : List Value := e.is.map (Value.int .i64)
def evcs (es : List Ev) : List Value := es.flatMap Ev.cells
theorem ev_len (e : Ev) : e.cells.length = 12 := rfl
def lowOf (x : Ky) : List (Ev × Nat) → Option Nat
  | [] => none
  | p :: r => match lowOf x r with
    | some d => some d
    | none => if p.1.k = 1 ∧ p.1.key = x then some p.2 else none
theorem lowOf_app (x : Ky) (p : Ev × Nat) : ∀ l : List (Ev × Nat), lowOf x (l ++ [p]) = if p.1.k = 1 ∧ p.1.key = x then some p.2 else lowOf x l
  | [] => by unfold lowOf; simp [lowOf]
  | q :: r => by
    rw [List.cons_append]
    unfold lowOf
    rw [lowOf_app x p r]
    by_cases h : p.1.k = 1 ∧ p.1.key = x
    · rw [if_pos h]; simp [h]
    · rw [if_neg h]; simp [h]
def srchV (ps : List Pc) (o : OpD) (r : Int × Int × Int) : Nat → Nat → Option Nat
  | 0, _ => none
  | n + 1, q => if (applyM (rgA ps q) o).2 = r then some q else srchV ps o r n (q + 1)
def oneV (ps : List Pc) (e : Ev) (frm : Nat) (loose : Bool) : Nat × Int :=
  if frm < findP e.key ps ∧ rsA ps (findP e.key ps) = e.res then (findP e.key ps, 0)
  else if e.op.kind = 1 then
    (if loose = true then (frm, 0) else match srchV ps e.op e.res (ps.length + 1 - frm) frm with
      | some q => (q, 0)
      | none => (0, 63))
  else if findP e.key ps = 0 ∨ rsA ps (findP e.key ps) ≠ e.res then (0, 63) else (0, 60)
def chkV (ps : List Pc) (loose : Bool) : List (Ev × Nat) → Nat → List Ev → Int
  | _, _, [] => 0
  | seen, done, e :: r =>
    if e.k = 2 then
      match lowOf e.key seen with
      | none => 41
      | some frm =>
        if 3 < e.rk then (if findP e.key ps ≠ 0 then 63 else chkV ps loose (seen ++ [(e, done)]) done r)
        else if (oneV ps e frm loose).2 ≠ 0 then (oneV ps e frm loose).2 else chkV ps loose (seen ++ [(e, done)]) (max done (oneV ps e frm loose).1) r
    else chkV ps loose (seen ++ [(e, done)]) done r
def checkV (xs : List Int) (hs : List (Vo Vl)) (es : List Ev) (loose : Bool) : Int :=
  if (playV (firstI xs) [] hs).2 ≠ 0 then (playV (firstI xs) [] hs).2 else chkV (playV (firstI xs) [] hs).1 loose [] 0 es
theorem playV_ok : ∀ (hs : List (Vo Vl)) (I : Im) (ps : List Pc), PsOk ps → PsOk (playV I ps hs).1 ∧ (playV I ps hs).1.length ≤ ps.length + 8 * hs.length
  | [], I, ps, h => ⟨h, by simp [playV]⟩
  | x :: r, I, ps, h => by
    unfold playV
    by_cases he : (execV I x.s x.v).e ≠ 0
    · rw [if_pos he]; exact ⟨h, by simp⟩
    · rw [if_neg he]
      have he : (execV I x.s x.v).e = 0 := by simpa using he
      have hv := (exec_zero he).2.2.2.2
      have h8 : x.v.cs.length ≤ 8 := by
        rcases valE_zero hv with q | q | q
        · rw [q.2.1]; decide
        · rw [q.2.1]; decide
        · exact q.2.1
      obtain ⟨h1, h2⟩ := playV_ok r (execV I x.s x.v).i (addAll ps (x.v.cs.zip (execV I x.s x.v).an)) (addAll_ok h _)
      have h3 := addAll_len ps (x.v.cs.zip (execV I x.s x.v).an)
      rw [List.length_zip] at h3
      refine ⟨h1, ?_⟩
      rw [List.length_cons]
      omega
theorem srch_le {ps : List Pc} {o : OpD} {r : Int × Int × Int} : ∀ {n q q' : Nat}, srchV ps o r n q = some q' → q ≤ q' ∧ q' < q + n
  | 0, q, q', h => by cases h
  | n + 1, q, q', h => by
    unfold srchV at h
    split at h
    · cases h; omega
    · have := srch_le h; omega
theorem oneV_le {ps : List Pc} {e : Ev} {frm : Nat} {loose : Bool} (h : frm ≤ ps.length) : (oneV ps e frm loose).1 ≤ ps.length := by
  unfold oneV
  split
  · exact findP_le _ _
  · split
    · split
      · exact h
      · split
        · rename_i q hq
          have := srch_le hq
          show q ≤ _
          omega
        · exact Nat.zero_le _
    · split <;> exact Nat.zero_le _
theorem klk_put (m : List (Ky × Value)) (k : Ky) (v : Value) (j : Ky) : klk (kput m k v) j = if j = k then some v else klk m j := by
  unfold kput
  cases h : klk m k with
  | none =>
    simp only [Option.isSome_none, Bool.false_eq_true, if_false]
    induction m with
    | nil =>
      rw [List.nil_append, klk_cons]
      by_cases e : j = k
      · rw [if_pos e, if_pos e.symm]
      · rw [if_neg e, if_neg fun q => e q.symm]
    | cons p m ih =>
      rw [klk_cons] at h
      split at h
      · cases h
      rename_i hpk
      rw [List.cons_append, klk_cons, klk_cons, ih h]
      by_cases e : p.1 = j
      · rw [if_pos e, if_pos e, if_neg (by rintro rfl; exact hpk e)]
      · rw [if_neg e, if_neg e]
  | some x =>
    simp only [Option.isSome_some, if_true]
    by_cases e : j = k
    · subst e
      rw [if_pos rfl]
      induction m with
      | nil => cases h
      | cons p m ih =>
        rw [klk_cons] at h
        rw [List.map_cons, klk_cons]
        split at h
        · rename_i e; rw [if_pos e]; simp
        · rename_i e; rw [if_neg e, if_neg e]; exact ih h
    · rw [if_neg e]
      clear h
      induction m with
      | nil => rfl
      | cons p m ih =>
        rw [List.map_cons, klk_cons, klk_cons, ih]
        by_cases q : p.1 = k
        · rw [if_pos q, if_neg (show ¬ k = j from fun r => e r.symm), if_neg (by rw [q]; exact fun r => e r.symm)]
        · rw [if_neg q]
section
variable {C : Cfg} {ρ : Env} {pre : List Nat} {hx : HX} {L : Stack} {m m' : Mem} {args : List SV} {r : SV} {t : Tree}
theorem node_play {f : Nat} {R : List Pc × Int} (AS : List Nat → Array Value) (hargs : ∀ ids, (args.map (SV.den ρ ids)).toArray = AS ids) (hcall : ∀ ids w, pre <+: ids → Facts C m ρ ids hx w → Calls C.P f (AS ids) w (PlNew w R))
    (hr : ∀ sa sc b1 b2 ids, r.den (ρ.add ⟨[R.2], [], [.map (some b1), .map (some b2)], [R.1.length + 1, sc], [sa]⟩) ids = .tuple #[mdV sa sc b1 b2 R.1, .int .i64 R.2]) (hhp : m'.hp = m.hp) (hfit : hpFits m.c m.hp.length m.hp = true)
    (hc : ∀ sa sc b1 b2, (ρ.add ⟨[R.2], [], [.map (some b1), .map (some b2)], [R.1.length + 1, sc], [sa]⟩).cnt = m'.c)
    (h : ∀ sa sc b1 b2, sa.isSome = true → (∀ k, (mdX sa sc b1 b2 R.1).F k → C.W.heap.size ≤ k ∧ ¬ hx.F k) → t.holds C (ρ.add ⟨[R.2], [], [.map (some b1), .map (some b2)], [R.1.length + 1, sc], [sa]⟩) pre (hx.and (mdX sa sc b1 b2 R.1)) L) : (Tree.call f args m r m' t).holds C ρ pre hx L := by
  refine node_out AS (fun u hy => ∃ sa sc b1 b2, sa.isSome = true ∧ u = ⟨[R.2], [], [.map (some b1), .map (some b2)], [R.1.length + 1, sc], [sa]⟩ ∧ hy = mdX sa sc b1 b2 R.1) hargs (fun ids w hp hf => ?_) hhp hfit ?_ ?_
  · refine (hcall ids w hp hf).mono ?_
    rintro e w' ⟨sa, sc, b1, b2, rfl, hX, hge, hb⟩
    exact ⟨_, _, ⟨sa, sc, b1, b2, st_some hX.1.1, rfl, rfl⟩, by rw [hr], hX, hge, hb⟩
  · rintro u hy ⟨sa, sc, b1, b2, _, rfl, rfl⟩
    exact ⟨hc _ _ _ _, fun v hv => by
      simp only [List.mem_cons, List.not_mem_nil, or_false] at hv
      rcases hv with rfl | rfl <;> rfl⟩
  · rintro u hy ⟨sa, sc, b1, b2, h1, rfl, rfl⟩ hfr
    exact h sa sc b1 b2 h1 hfr
end
end Go.Proofs.Ytbedoemdjlollaa

namespace Go.Proofs.Ytbedoemdjlollaa
open Go Go.ChangeShapes Go.WideShapes Go.ChangeAt Go.RowKit Go.Syn Go.Eng
set_option linter.unusedVariables false
set_option linter.unusedSimpArgs false
set_option maxRecDepth 100000
theorem low_put {low : List (Ky × Value)} {seen : List (Ev × Nat)} (h : ∀ x, klk low x = (lowOf x seen).map fun d => .int .i64 (d : Int)) (e : Ev) (d : Nat) (he : e.k = 1) : ∀ x, klk (kput low e.key (.int .i64 (d : Int))) x = (lowOf x (seen ++ [(e, d)])).map fun d => .int .i64 (d : Int) := fun x => by
  rw [klk_put, lowOf_app]
  by_cases hx : x = e.key
  · rw [if_pos hx, if_pos ⟨he, hx.symm⟩]; rfl
  · rw [if_neg hx, if_neg fun q => hx q.2.symm]; exact h x
theorem low_skip {low : List (Ky × Value)} {seen : List (Ev × Nat)} (h : ∀ x, klk low x = (lowOf x seen).map fun d => .int .i64 (d : Int)) (e : Ev) (d : Nat) (he : e.k ≠ 1) : ∀ x, klk low x = (lowOf x (seen ++ [(e, d)])).map fun d => .int .i64 (d : Int) := fun x => by
  rw [lowOf_app, if_neg fun q => he q.1]; exact h x
def SeenOk (n : Nat) (seen : List (Ev × Nat)) : Prop := ∀ x d, lowOf x seen = some d → d ≤ n
theorem SeenOk.snoc {n : Nat} {seen : List (Ev × Nat)} (h : SeenOk n seen) (e : Ev) {d : Nat} (hd : d ≤ n) : SeenOk n (seen ++ [(e, d)]) := fun x d2 h2 => by
  rw [lowOf_app] at h2
  split at h2
  · cases h2; exact hd
  · exact h x d2 h2
theorem srch_s (ps : List Pc) (o : OpD) (r : Int × Int × Int) (n q : Nat) : srchV ps o r (n + 1) q = if (applyM (rgA ps q) o).2 = r then some q else srchV ps o r n (q + 1) := rfl
def CkI (evs : List Ev) (ps : List Pc) (loose : Bool) (MD : HX) (bl : Nat) (E : Int) (vs : Vals) (hx : HX) (n : Nat) : Prop := ∃ (i : Nat) (seen : List (Ev × Nat)) (done : Nat) (low : List (Ky × Value)), n = evs.length - i ∧ i ≤ evs.length ∧ (∀ x, klk low x = (lowOf x seen).map fun d => .int .i64 (d : Int)) ∧ SeenOk ps.length seen ∧ done ≤ ps.length ∧ chkV ps loose seen done (evs.drop i) = E ∧
  vs = ⟨[(i : Int), (done : Int)], [loose], [], [], []⟩ ∧ MD.and (HX.kmap bl low) = hx
theorem res_and (a b c x y z : Int) : ((a == x) && ((b == y) && (c == z))) = decide ((a, b, c) = (x, y, z)) := by
  rw [Bool.eq_iff_iff]
  simp only [Bool.and_eq_true, beq_iff_eq, decide_eq_true_eq, Prod.mk.injEq]
set_option maxHeartbeats 4000000 in
theorem jcheck_any (ax : Option Addr) (cx : Nat) (xs : List Int) (ah : Option Addr) (ch : Nat) (hs : List (Vo Pv)) (ae : Option Addr) (ce : Nat) (evs : List Ev) (loose : Bool) (w : World) (HX0 : Ints w ax xs) (hxl : xs.length * 8 ≤ 140737488351232) (HH : (voX ah hs).X w) (hfit : ∀ x ∈ hs, VlFit x.v.v) (hl : hs.length ≤ 1048576)
    (HE : Cells w ae (evcs evs)) (hE : ∀ e ∈ evs, KyFit e.key) (hel : evs.length ≤ 4611686018427387904) :
    Calls Try.prog 14 #[.slice ax xs.length cx, .slice ah hs.length ch, .slice ae evs.length ce, .bool loose] w (PureAt w (.int .i64 (checkV xs (vlsOf hs) evs loose))) := by
  refine calls_at (tab_ok _) Try.func14 rfl tJCheck (ρ := ⟨[], [loose], [], [xs.length, cx, hs.length, ch, evs.length, ce], [ax, ah, ae]⟩) (ids := []) (hx := HX.nil) rfl (Facts.initP rfl oneNil) ?_
  obtain ⟨P, eP⟩ : ∃ P, P = playV (firstI xs) [] (vlsOf hs) := ⟨_, rfl⟩
  have hck : checkV xs (vlsOf hs) evs loose = if P.2 ≠ 0 then P.2 else chkV P.1 loose [] 0 evs := by rw [eP]; rfl
  obtain ⟨hps, hpl⟩ : PsOk P.1 ∧ P.1.length ≤ 0 + 8 * (vlsOf hs).length := by rw [eP]; exact playV_ok _ _ _ (fun p hp => by cases hp)
  rw [vlsOf_len] at hpl
  obtain ⟨E, eE⟩ : ∃ E, E = checkV xs (vlsOf hs) evs loose := ⟨_, rfl⟩
  rw [← eE]
  rw [← eE] at hck
  refine node_play (R := P) (fun _ => #[.slice ax xs.length cx, .slice ah hs.length ch]) (by intros; kernel_rfl) (fun ids w2 hp hf => by
    rw [eP]
    exact play_any ax cx xs ah ch hs w2 (Ints.of_cells (by omega) HX0.fits (cl_stay HX0.cells fun k hk => hf.chg.block k hk (fun q => q))) hxl ((voX ah hs).loc _ _ HH fun k hk => hf.chg.block k (voX_sep HH k hk) (fun q => q)) hfit hl) (by intros; kernel_rfl) (by kernel_rfl) (by kernel_rfl) (by intros; kernel_rfl) ?_
  intro sa sc b1 b2 hsa hfr
  refine br_B (P.2 != 0) (by kernel_rfl) (fun he => ?_) (fun he => ?_)
  · rw [if_pos (by simpa using he)] at hck
    exact pure_done fun ids => by rw [hck]; kernel_rfl
  rw [if_neg (by simpa using he)] at hck
  refine node_kmake (by intros; kernel_rfl) (by kernel_rfl) (by kernel_rfl) (by intros; kernel_rfl) ?_
  intro bl hbl1 hbl2
  obtain ⟨MD, eMD⟩ : ∃ MD, MD = HX.nil.and (mdX sa sc b1 b2 P.1) := ⟨_, rfl⟩
  rw [← eMD] at hbl2 ⊢
  have mdat : ∀ {w2 : World}, MD.X w2 → KMap w2 b1 (atM P.1) := fun h => by rw [eMD] at h; exact h.2.1.2
  have mdre : ∀ {w2 : World}, MD.X w2 → KMap w2 b2 (resM P.1) := fun h => by rw [eMD] at h; exact h.2.2
  have mdst : ∀ {w2 : World}, MD.X w2 → Cells w2 sa (stC P.1) := fun h => by rw [eMD] at h; exact rw_cells h.2.1.1
  have one3 : ∀ v, v ∈ ([.map (some b1), .map (some b2), .map (some bl)] : List Value) → v.oneCell' = true := fun v hv => by
    simp only [List.mem_cons, List.not_mem_nil, or_false] at hv
    rcases hv with rfl | rfl | rfl <;> rfl
  refine ⟨CkI evs P.1 loose MD bl E, fun ids w2 hp hf => ⟨_, evs.length, ⟨hf.x, hf.sep⟩, 0, [], 0, [], rfl, Nat.zero_le _, fun x => rfl, (fun x d h => by cases h), Nat.zero_le _, hck.symm, by kernel_rfl, rfl⟩, ?_⟩
  rintro vs hx' n hcnt ⟨i, seen, done, low, rfl, hi, hlow, hseen, hdone, hE2, rfl, rfl⟩
  refine holds_env (ρ' := ⟨[P.2, (i : Int), (done : Int)], [loose, loose], [.map (some b1), .map (some b2), .map (some bl)], [xs.length, cx, hs.length, ch, evs.length, ce, P.1.length + 1, sc], [ax, ah, ae, sa]⟩) (by kernel_rfl) ?_
  refine br_D (p := (i : Int) < (evs.length : Int)) (by kernel_rfl) (fun hlt => ?B) (fun hlt => ?E)
  case E =>
    refine pure_done fun ids => ?_
    rw [← hE2, List.drop_eq_nil_of_le (by omega)]; rfl
  have hlt : i < evs.length := by omega
  obtain ⟨e, he⟩ : ∃ e, evs[i]? = some e := ⟨_, List.getElem?_eq_getElem hlt⟩
  have hky := hE e (List.mem_of_getElem? he)
  have hd : evs.drop i = e :: evs.drop (i + 1) := by
    obtain ⟨q, e2⟩ := List.getElem?_eq_some_iff.1 he
    rw [List.drop_eq_getElem_cons q, e2]
  rw [hd] at hE2
  unfold chkV at hE2
  obtain ⟨s1, g1⟩ := flat_part ev_len HE he (o := 0) e.cells (fun j u hj => by rw [Nat.zero_add]; exact hj) (by simp [Ev.cells, Ev.is])
  have hwi : IntKind.i64.wrap ((i : Int) + 1) = ((i + 1 : Nat) : Int) := by rw [wrap_i64 (by omega)]; omega
  refine need_k (ae.isSome = true ∧ (0 : Int) ≤ (i : Int) ∧ (i : Int) < (evs.length : Int)) (by kernel_rfl) ⟨s1, by omega, by omega⟩ ?_
  refine node_ld0 (k := ⟨3, 2, 3, 8, 4⟩) ⟨e.is, [], [], [], []⟩ (.pointer (some (((ae.getD ⟨0, 0, none⟩).add (i * 12)).add 0))) e.cells (by intros; kernel_rfl) (by intros; kernel_rfl) (g1 _ id) ⟨by kernel_rfl, one3⟩ (by kernel_rfl) oneNil ?_
  refine holds_env (ρ' := ⟨[P.2, (i : Int), (done : Int)] ++ e.is, [loose, loose], [.map (some b1), .map (some b2), .map (some bl)], [xs.length, cx, hs.length, ch, evs.length, ce, P.1.length + 1, sc], [ax, ah, ae, sa]⟩) (by kernel_rfl) ?_
  refine br_D (p := e.k = 1) (by kernel_rfl) (fun hk1 => ?_) (fun hk1 => ?_)
  · rw [if_neg (by omega)] at hE2
    refine node_kput (kt := 91) (et := 3) bl low e.key (.int .i64 (done : Int)) kyOk hky (.inl hbl1) hbl2 (by intros; kernel_rfl) (by intros; kernel_rfl) (by intros; kernel_rfl) (by kernel_rfl) (by kernel_rfl) (by kernel_rfl) (by kernel_rfl) ?_
    exact again_V ⟨[IntKind.i64.wrap ((i : Int) + 1), (done : Int)], [loose], [], [], []⟩ rfl (by intros; kernel_rfl) _ (fun w2 ids hf => ⟨hf.x, hf.sep⟩) ⟨evs.length - (i + 1), by omega, i + 1, _, done, _, rfl, by omega, low_put hlow e done hk1, hseen.snoc e hdone, hdone, hE2, by rw [hwi], rfl⟩
  have hlow2 := low_skip hlow e done hk1
  have hseen2 := hseen.snoc e hdone
  refine br_D (p := e.k = 2) (by kernel_rfl) (fun hk2 => ?B2) (fun hk2 => ?E2)
  case E2 =>
    rw [if_neg hk2] at hE2
    exact again_V ⟨[IntKind.i64.wrap ((i : Int) + 1), (done : Int)], [loose], [], [], []⟩ rfl (by intros; kernel_rfl) _ (fun w2 ids hf => ⟨hf.x, hf.sep⟩) ⟨evs.length - (i + 1), by omega, i + 1, _, done, _, rfl, by omega, hlow2, hseen2, hdone, hE2, by rw [hwi], rfl⟩
  rw [if_pos hk2] at hE2
  obtain ⟨fo, efo⟩ : ∃ fo, fo = lowOf e.key seen := ⟨_, rfl⟩
  rw [← efo] at hE2
  have hlk := hlow e.key
  rw [← efo] at hlk
  refine node_klook (kt := 91) (et := 3) (z := .int .i64 0) ⟨[((fo.getD 0 : Nat) : Int)], [fo.isSome], [], [], []⟩ bl low e.key kyOk hky (fun w2 hX => hX.2) (by intros; kernel_rfl) (by intros; kernel_rfl) (by kernel_rfl) (fun w2 => by kernel_rfl) (fun ids => by
    rw [hlk]
    cases fo with
    | none => kernel_rfl
    | some d => kernel_rfl) (by kernel_rfl) (by kernel_rfl) (by kernel_rfl) oneNil ?_
  cases hfo : fo with
  | none =>
    rw [hfo] at hE2
    refine br_T (!(none : Option Nat).isSome) (by kernel_rfl) rfl ?_
    exact pure_done fun ids => by rw [← hE2]; kernel_rfl
  | some frm =>
  rw [hfo] at hE2
  have hfrm : frm ≤ P.1.length := hseen e.key frm (by rw [← efo, hfo])
  simp only at hE2
  refine br_F (!(some frm : Option Nat).isSome) (by kernel_rfl) rfl ?_
  refine node_klook (kt := 91) (et := 3) (z := .int .i64 0) ⟨[(findP e.key P.1 : Int)], [decide (findP e.key P.1 ≠ 0)], [], [], []⟩ b1 (atM P.1) e.key kyOk hky (fun w2 hX => mdat hX.1) (by intros; kernel_rfl) (by intros; kernel_rfl) (by kernel_rfl) (fun w2 => by kernel_rfl) (fun ids => by rw [klk_at0, klk_at1]; kernel_rfl) (by kernel_rfl) (by kernel_rfl) (by kernel_rfl) oneNil ?_
  refine holds_env (ρ' := ⟨[P.2, (i : Int), (done : Int)] ++ e.is ++ [(frm : Int), (findP e.key P.1 : Int)], [loose, loose, true, decide (findP e.key P.1 ≠ 0)], [.map (some b1), .map (some b2), .map (some bl)], [xs.length, cx, hs.length, ch, evs.length, ce, P.1.length + 1, sc], [ax, ah, ae, sa]⟩) (by kernel_rfl) ?_
  refine br_D (p := e.rk > 3) (by kernel_rfl) (fun hr3 => ?_) (fun hr3 => ?_)
  · rw [if_pos hr3] at hE2
    refine br_B (decide (findP e.key P.1 ≠ 0)) (by kernel_rfl) (fun hf => ?_) (fun hf => ?_)
    · rw [if_pos (by simpa using hf)] at hE2
      exact pure_done fun ids => by rw [← hE2]; kernel_rfl
    · rw [if_neg (by simpa using hf)] at hE2
      exact again_V ⟨[IntKind.i64.wrap ((i : Int) + 1), (done : Int)], [loose], [], [], []⟩ rfl (by intros; kernel_rfl) _ (fun w2 ids hf => ⟨hf.x, hf.sep⟩) ⟨evs.length - (i + 1), by omega, i + 1, _, done, _, rfl, by omega, hlow2, hseen2, hdone, hE2, by rw [hwi], rfl⟩
  rw [if_neg hr3] at hE2
  obtain ⟨O, eO⟩ : ∃ O, O = oneV P.1 e frm loose := ⟨_, rfl⟩
  have hO1 : O.1 ≤ P.1.length := by rw [eO]; exact oneV_le hfrm
  rw [← eO] at hE2
  refine ⟨fun vs hx => O.2 = 0 ∧ (∃ c1 c2 : Bool, vs = ⟨[(O.1 : Int)], [loose, c1, c2], [], [], []⟩) ∧ MD.and (HX.kmap bl low) = hx, ?_, ?_⟩
  case refine_2 =>
    rintro vs hx hcnt3 ⟨hO2, ⟨c1, c2, rfl⟩, rfl⟩
    rw [if_neg (fun q => q hO2)] at hE2
    have hmx : max (done : Int) (O.1 : Int) = ((max done O.1 : Nat) : Int) := by omega
    exact again_V ⟨[IntKind.i64.wrap ((i : Int) + 1), max (done : Int) (O.1 : Int)], [loose], [], [], []⟩ rfl (by intros; kernel_rfl) _ (fun w2 ids hf => ⟨hf.x, hf.sep⟩) ⟨evs.length - (i + 1), by omega, i + 1, _, max done O.1, _, rfl, by omega, hlow2, hseen2, by omega, hE2, by rw [hwi, hmx], rfl⟩
  have bad : ∀ {x : Int} {m2 : Mem} {ρ : Env} {hx : HX} {S : Stack} {v : SV}, O.2 = x → x ≠ 0 → (∀ ids, v.den ρ ids = .int .i64 x) → (Tree.done v m2).holds ⟨Try.prog, w, fun _ => False, PureAt w (.int .i64 E)⟩ ρ [] hx S := fun h1 h2 h3 => pure_done fun ids => by
    rw [h3 ids, ← hE2, if_pos (by rw [h1]; exact h2), h1]
  unfold oneV at eO
  obtain ⟨r, er⟩ : ∃ r, r = rsA P.1 (findP e.key P.1) := ⟨_, rfl⟩
  rw [← er] at eO
  have hreq : ((r.1 == e.rk) && ((r.2.1 == e.rre) && (r.2.2 == e.rim))) = decide (r = e.res) := res_and _ _ _ _ _ _
  have oneB : ∀ c : Bool, ∀ v, v ∈ ([.map (some b1), .map (some b2), .map (some bl)] : List Value) → v.oneCell' = true := fun _ => one3
  have loops : ¬ (frm < findP e.key P.1 ∧ r = e.res) → e.op.kind = 1 → loose = false → O = (match srchV P.1 e.op e.res (P.1.length + 1 - frm) frm with | some q => (q, 0) | none => (0, 63)) := fun h1 h2 h3 => by
    rw [if_neg h1, if_pos h2, if_neg (by rw [h3]; decide)] at eO; exact eO
  have get1 : ¬ (frm < findP e.key P.1 ∧ r = e.res) → e.op.kind = 1 → loose = true → O = (frm, 0) := fun h1 h2 h3 => by
    rw [if_neg h1, if_pos h2, if_pos h3] at eO; exact eO
  have oth : ¬ (frm < findP e.key P.1 ∧ r = e.res) → ¬ e.op.kind = 1 → O = if findP e.key P.1 = 0 ∨ r ≠ e.res then (0, 63) else (0, 60) := fun h1 h2 => by
    rw [if_neg h1, if_neg h2] at eO; exact eO
  have hit : (frm < findP e.key P.1 ∧ r = e.res) → O = (findP e.key P.1, 0) := fun h1 => by rw [if_pos h1] at eO; exact eO
  clear eO
  refine br_B (decide (findP e.key P.1 ≠ 0)) (by kernel_rfl) (fun hf => ?T0) (fun hf => ?N0)
  case' N0 =>
    have hf0 : findP e.key P.1 = 0 := by simpa using hf
    have hno : ¬ (frm < findP e.key P.1 ∧ r = e.res) := fun q => by rw [hf0] at q; exact absurd q.1 (by omega)
    refine br_D (p := e.op.kind = 1) (by kernel_rfl) (fun hk => ?N1) (fun hk => ?N2)
    case N2 =>
      refine br_F (e.op.kind == 1) (by kernel_rfl) (by simpa using hk) ?_
      refine bad (x := 63) ?_ (by decide) (by intros; kernel_rfl)
      rw [oth hno hk, if_pos (.inl hf0)]
    refine br_B loose (by kernel_rfl) (fun hlo => ?N3) (fun hlo => ?N4)
    case N3 => exact again_V ⟨[(frm : Int)], [true, false, false], [], [], []⟩ rfl (by intros; kernel_rfl) _ (fun w2 ids hf => ⟨hf.x, hf.sep⟩) ⟨by rw [get1 hno hk hlo], ⟨false, false, by rw [get1 hno hk hlo, hlo]⟩, rfl⟩
    refine br_T (e.op.kind == 1) (by kernel_rfl) (by simpa using hk) ?_
  case' T0 =>
    refine node_klook1 (kt := 91) (et := 62) (z := rsC (0, 0, 0)) ⟨[r.1, r.2.1, r.2.2], [], [], [], []⟩ b2 (resM P.1) e.key kyOk hky (fun w2 hX => mdre hX.1) (by intros; kernel_rfl) (by intros; kernel_rfl) (by kernel_rfl) (fun w2 => by kernel_rfl) (fun ids => by rw [klk_res0, ← er]; kernel_rfl) (by kernel_rfl) (by kernel_rfl) (by kernel_rfl) oneNil ?_
    have hf1 : findP e.key P.1 ≠ 0 := by simpa using hf
    refine br_B ((r.1 == e.rk) && ((r.2.1 == e.rre) && (r.2.2 == e.rim))) (by kernel_rfl) (fun hq => ?T1) (fun hq => ?T2)
    case' T1 =>
      have hq2 : r = e.res := by rw [hreq] at hq; simpa using hq
      refine br_D (p := (findP e.key P.1 : Int) > (frm : Int)) (by kernel_rfl) (fun hgt => ?T3) (fun hgt => ?T4)
      case T3 =>
        have h0 := hit ⟨by omega, hq2⟩
        exact again_V ⟨[(findP e.key P.1 : Int)], [loose, true, true], [], [], []⟩ rfl (by intros; kernel_rfl) _ (fun w2 ids hf => ⟨hf.x, hf.sep⟩) ⟨by rw [h0], ⟨true, true, by rw [h0]⟩, rfl⟩
      have hno : ¬ (frm < findP e.key P.1 ∧ r = e.res) := fun q => hgt (by omega)
    case' T2 =>
      have hno : ¬ (frm < findP e.key P.1 ∧ r = e.res) := fun q => by rw [hreq, decide_eq_true q.2] at hq; cases hq
    all_goals
      refine br_D (p := e.op.kind = 1) (by kernel_rfl) (fun hk => ?_) (fun hk => ?_)
      rotate_left
      · refine br_F (e.op.kind == 1) (by kernel_rfl) (by simpa using hk) ?_
        refine node_klook1 (kt := 91) (et := 62) (z := rsC (0, 0, 0)) ⟨[r.1, r.2.1, r.2.2], [], [], [], []⟩ b2 (resM P.1) e.key kyOk hky (fun w2 hX => mdre hX.1) (by intros; kernel_rfl) (by intros; kernel_rfl) (by kernel_rfl) (fun w2 => by kernel_rfl) (fun ids => by rw [klk_res0, ← er]; kernel_rfl) (by kernel_rfl) (by kernel_rfl) (by kernel_rfl) oneNil ?_
        refine br_B (!((r.1 == e.rk) && ((r.2.1 == e.rre) && (r.2.2 == e.rim)))) (by kernel_rfl) (fun hq3 => ?_) (fun hq3 => ?_)
        · rw [hreq] at hq3
          refine bad (x := 63) ?_ (by decide) (by intros; kernel_rfl)
          rw [oth hno hk, if_pos (.inr (by simpa using hq3))]
        · rw [hreq] at hq3
          refine bad (x := 60) ?_ (by decide) (by intros; kernel_rfl)
          rw [oth hno hk, if_neg (by simp only [not_or]; exact ⟨hf1, fun q => q (by simpa using hq3)⟩)]
      refine br_B loose (by kernel_rfl) (fun hlo => ?_) (fun hlo => ?_)
      · exact again_V ⟨[(frm : Int)], [true, true, true], [], [], []⟩ rfl (by intros; kernel_rfl) _ (fun w2 ids hf => ⟨hf.x, hf.sep⟩) ⟨by rw [get1 hno hk hlo], ⟨true, true, by rw [get1 hno hk hlo, hlo]⟩, rfl⟩
      refine br_T (e.op.kind == 1) (by kernel_rfl) (by simpa using hk) ?_
  all_goals
    have hO := loops hno hk hlo
    refine ⟨fun vs hx n => ∃ q : Nat, n = P.1.length + 1 - q ∧ frm ≤ q ∧ q ≤ P.1.length + 1 ∧ srchV P.1 e.op e.res (P.1.length + 1 - q) q = srchV P.1 e.op e.res (P.1.length + 1 - frm) frm ∧ vs = ⟨[(q : Int)], [], [], [], []⟩ ∧ MD.and (HX.kmap bl low) = hx, fun ids w2 hp hf => ⟨_, P.1.length + 1 - frm, ⟨hf.x, hf.sep⟩, frm, rfl, Nat.le_refl _, by omega, rfl, by kernel_rfl, rfl⟩, ?_⟩
    rintro vs hx n hcnt4 ⟨q, rfl, hq1, hq2, hs, rfl, rfl⟩
    refine br_D (p := (q : Int) ≥ ((P.1.length + 1 : Nat) : Int)) (by kernel_rfl) (fun hge => ?_) (fun hge => ?_)
    · have : P.1.length + 1 - q = 0 := by omega
      rw [this] at hs
      rw [← hs] at hO
      exact bad (x := 63) (by rw [hO]; rfl) (by decide) (by intros; kernel_rfl)
    have hq3 : q ≤ P.1.length := by omega
    obtain ⟨n3, hn3⟩ : ∃ n3, P.1.length + 1 - q = n3 + 1 := ⟨P.1.length - q, by omega⟩
    obtain ⟨p, ep⟩ : ∃ p, p = applyM (rgA P.1 q) e.op := ⟨_, rfl⟩
    rw [hn3, srch_s, ← ep] at hs
    have hrl := rgA_len hps q
    have hrr : stF (rgA P.1 q) = (rgA P.1 q).map (Value.int .i64) := by unfold stF; rw [rgs_of hrl]
    have hpl2 : p.1.length = 16 := by rw [ep]; exact (applyM_len _ _).trans hrl
    have hap : ∀ w2, Calls Try.prog 31 #[.agg (stF (rgA P.1 q)).toArray, .agg e.op.cells.toArray] w2 (PureAt w2 (resV p)) := fun w2 => by rw [ep, hrr]; exact apply_any _ hrl e.op w2
    have hwq : IntKind.i64.wrap ((q : Int) + 1) = ((q + 1 : Nat) : Int) := by rw [wrap_i64 (by omega)]; omega
    have hpe : ((p.2.1 == e.rk) && ((p.2.2.1 == e.rre) && (p.2.2.2 == e.rim))) = decide (p.2 = e.res) := res_and _ _ _ _ _ _
    refine need_k (sa.isSome = true ∧ (0 : Int) ≤ (q : Int) ∧ (q : Int) < ((P.1.length + 1 : Nat) : Int)) (by kernel_rfl) ⟨hsa, by omega, by omega⟩ ?_
    repeat' refine par_i ?_ ?_
  all_goals
    refine node_ldk ⟨rgs (rgA P.1 q), [], [], [], []⟩ (fun _ => .pointer (some (((sa.getD ⟨0, 0, none⟩).add (q * 16)).add 0))) (stF (rgA P.1 q)) (by intros; kernel_rfl) (by intros; kernel_rfl) (fun ids w2 hp hf => (st_elt (mdst hf.x.1) hq3).2) (by kernel_rfl) oneNil ?_
    repeat' refine par_i ?_ ?_
  all_goals
    refine node_P ⟨rgs p.1 ++ [p.2.1, p.2.2.1, p.2.2.2], [], [], [], []⟩ #[.agg (stF (rgA P.1 q)).toArray, .agg e.op.cells.toArray] (resV p) (by intros; kernel_rfl) (fun ids => Eq.trans (b := resV (rgs p.1, p.2)) (by kernel_rfl) (by unfold resV; rw [rgs_of hpl2])) (by kernel_rfl) (by kernel_rfl) (by kernel_rfl) oneNil (fun ids w2 hp hf => hap w2) ?_
    repeat' refine par_i ?_ ?_
  all_goals
    refine br_B (!((p.2.1 == e.rk) && ((p.2.2.1 == e.rre) && (p.2.2.2 == e.rim)))) (by kernel_rfl) (fun hne => ?_) (fun hne => ?_)
    · rw [hpe] at hne
      rw [if_neg (by simpa using hne)] at hs
      exact again_V ⟨[IntKind.i64.wrap ((q : Int) + 1)], [], [], [], []⟩ rfl (by intros; kernel_rfl) _ (fun w2 ids hf => ⟨hf.x, hf.sep⟩) ⟨P.1.length + 1 - (q + 1), by omega, q + 1, rfl, by omega, by omega, by rw [← hs]; congr 1; omega, by rw [hwq], rfl⟩
    · rw [hpe] at hne
      rw [if_pos (by simpa using hne)] at hs
      rw [← hs] at hO
      first
        | (have hT := hf1; exact again_V ⟨[(q : Int)], [false, true, true], [], [], []⟩ rfl (by intros; kernel_rfl) _ (fun w2 ids hf => ⟨hf.x, hf.sep⟩) ⟨by rw [hO], ⟨true, true, by rw [hO, hlo]⟩, rfl⟩)
        | (have hT := hf0; exact again_V ⟨[(q : Int)], [false, false, false], [], [], []⟩ rfl (by intros; kernel_rfl) _ (fun w2 ids hf => ⟨hf.x, hf.sep⟩) ⟨by rw [hO], ⟨false, false, by rw [hO, hlo]⟩, rfl⟩)
end Go.Proofs.Ytbedoemdjlollaa

namespace Go.Proofs.Ytbedoemdjlollaa
open Go Go.ChangeShapes Go.WideShapes Go.ChangeAt Go.RowKit Go.Syn Go.Eng
set_option linter.unusedVariables false
set_option linter.unusedSimpArgs false
set_option maxRecDepth 100000
section
variable {C : Cfg} {ρ : Env} {pre : List Nat} {hx : HX} {L : Stack} {m m' : Mem} {args : List SV} {r : SV} {t : Tree}
theorem node_merge {f : Nat} {R : List (Vo Vl) × Int} (AS : List Nat → Array Value) (hargs : ∀ ids, (args.map (SV.den ρ ids)).toArray = AS ids) (hcall : ∀ ids w, pre <+: ids → Facts C m ρ ids hx w → Calls C.P f (AS ids) w (MgNew w R))
    (hr : ∀ b l d ids, r.den (ρ.add ⟨[R.2], [], [], [l, d], [b]⟩) ids = .tuple #[.slice b l d, .int .i64 R.2]) (hhp : m'.hp = m.hp) (hfit : hpFits m.c m.hp.length m.hp = true) (hc : ∀ b l d, (ρ.add ⟨[R.2], [], [], [l, d], [b]⟩).cnt = m'.c)
    (h : ∀ b d ys, vlsOf ys = R.1 → (∀ k, ((voAll ys).and (vrow b d ys)).F k → C.W.heap.size ≤ k ∧ ¬ hx.F k) → t.holds C (ρ.add ⟨[R.2], [], [], [ys.length, d], [b]⟩) pre (hx.and ((voAll ys).and (vrow b d ys))) L) : (Tree.call f args m r m' t).holds C ρ pre hx L := by
  refine node_out AS (fun u hy => ∃ b d ys, vlsOf ys = R.1 ∧ u = ⟨[R.2], [], [], [ys.length, d], [b]⟩ ∧ hy = (voAll ys).and (vrow b d ys)) hargs (fun ids w hp hf => ?_) hhp hfit ?_ ?_
  · refine (hcall ids w hp hf).mono ?_
    rintro e w' ⟨b, d, ys, rfl, h1, hX, hge, hb⟩
    exact ⟨_, _, ⟨b, d, ys, h1, rfl, rfl⟩, by rw [hr], hX, hge, hb⟩
  · rintro u hy ⟨b, d, ys, _, rfl, rfl⟩
    exact ⟨hc _ _ _, oneNil⟩
  · rintro u hy ⟨b, d, ys, h1, rfl, rfl⟩ hfr
    exact h b d ys h1 hfr
end
def putC (s q x : Int) : CmD := ⟨s, q, IntKind.i64.wrap (q - 1), ⟨2, 0, 0, x, 0⟩⟩
theorem put_any (s q x : Int) (w : World) : Calls Try.prog 19 #[.int .i64 s, .int .i64 q, .int .i64 x] w (PureAt w (.agg (putC s q x).cells.toArray)) := by
  refine calls_at (tab_ok _) Try.func19 rfl tJPut (ρ := ⟨[s, q, x], [], [], [], []⟩) (ids := []) (hx := HX.nil) rfl (Facts.initP rfl oneNil) ?_
  exact pure_done (by intros; kernel_rfl)
def hc1 : CmD := ⟨1, 1, 0, ⟨2, 0, 0, 1, 0⟩⟩
def hv25 : Vl := ⟨1, [hc1], []⟩
def hh25 : List (Vo Vl) := [⟨1, 0, 0, hv25⟩]
def ev25 (k : Int) (c : CmD) (r : Int × Int × Int) : Ev := ⟨k, c.sess, c.seq, c.op, r.1, r.2.1, r.2.2, 0⟩
theorem hh_merge : mergeV hh25 = (hh25, 0) := by
  unfold mergeV hh25 mgV
  rw [if_neg (by decide), if_neg (fun q => by exact absurd q.1 (by decide))]
  unfold mgV
  rw [if_neg (by decide)]; rfl
theorem hh_good : checkV [1] hh25 [ev25 1 hc1 (0, 0, 0), ev25 2 hc1 (1, 1, 0)] false = 0 := by kernel_rfl
theorem hh_bad : checkV [1] hh25 [ev25 1 hc1 (0, 0, 0), ev25 2 hc1 (1, 2, 0)] false = 63 := by kernel_rfl
theorem evs_at {w : World} {b ty : Nat} {us : List Value} {es : List Ev} (h : w.heap[b]? = some (.cells us.toArray ty (0, 0))) (e : us = evcs es) : Cells w (some ⟨b, 0, none⟩) (evcs es) := by
  subst e
  exact blk_cells (ty := ty) h
theorem cells_of {w : World} {b ty : Nat} {us vs : List Value} (h : w.heap[b]? = some (.cells us.toArray ty (0, 0))) (e : us = vs) : Cells w (some ⟨b, 0, none⟩) vs := by
  subst e
  exact blk_cells (ty := ty) h
theorem hv25_fit : VlFit hv25 := ⟨(fun n h => by cases h), by decide, by decide⟩
theorem vls_one {ys : List (Vo Pv)} {x : Vo Vl} (h : vlsOf ys = [x]) (hx : VlFit x.v) : ∀ y ∈ ys, VlFit y.v.v := fun y hy => by
  have : Vo.map Pv.v y ∈ vlsOf ys := List.mem_map.2 ⟨y, hy, rfl⟩
  rw [h, List.mem_singleton] at this
  have e : y.v.v = x.v := congrArg Vo.v this
  rw [e]; exact hx
theorem ky11 : KyFit (1, 1) := by unfold KyFit; decide
theorem ky_two (s q : Int) (r : Int × Int × Int) (h : KyFit (hc1.sess, hc1.seq)) : ∀ e ∈ [ev25 1 hc1 (0, 0, 0), ev25 2 hc1 r], KyFit e.key := fun e he => by
  simp only [List.mem_cons, List.not_mem_nil, or_false] at he
  rcases he with rfl | rfl <;> exact h
set_option maxHeartbeats 1000000 in
theorem head25_any (w : World) : Calls Try.prog 8 #[] w (PureAt w (.bool true)) := by
  refine calls_at (tab_ok _) Try.func8 rfl tJHead (ρ := ⟨[], [], [], [], []⟩) (ids := []) (hx := HX.nil) rfl (Facts.initP rfl oneNil) ?_
  refine node_P ⟨hc1.is, [], [], [], []⟩ #[.int .i64 1, .int .i64 1, .int .i64 1] (.agg hc1.cells.toArray) (by intros; kernel_rfl) (by intros; kernel_rfl) (by kernel_rfl) (by kernel_rfl) (by kernel_rfl) oneNil (fun ids w2 hp hf => put_any 1 1 1 w2) ?_
  refine node_merge (R := (hh25, 0)) (fun ids => #[.slice (some ⟨idAt ids 3, 0, none⟩) 1 1]) (by intros; kernel_rfl) (fun ids w2 hp hf => ?_) (by intros; kernel_rfl) (by kernel_rfl) (by kernel_rfl) (by intros; kernel_rfl) ?_
  · have h3 := cells_of (hf.blkAt 3 rfl) (vs := [.slice (some ⟨idAt ids 2, 0, none⟩) 1 1]) (by kernel_rfl)
    have h2 := cells_of (hf.blkAt 2 rfl) (vs := [.int .i64 1, .int .i64 0, .int .i64 0, .int .i64 1, .slice (some ⟨idAt ids 1, 0, none⟩) 1 1, .slice none 0 0]) (by kernel_rfl)
    have h1 := cells_of (hf.blkAt 1 rfl) (vs := ccells [hc1]) (by kernel_rfl)
    have := jmerge_any (some ⟨idAt ids 3, 0, none⟩) 1 [⟨some ⟨idAt ids 2, 0, none⟩, 1, [⟨1, 0, 0, ⟨hv25, some ⟨idAt ids 1, 0, none⟩, 1, none, 0⟩⟩]⟩] w2 (fun x hx => by
      rcases List.mem_cons.1 hx with rfl | hx
      · exact h3
      · simp only [List.map_cons, List.map_nil, List.mem_cons, List.not_mem_nil, or_false] at hx
        subst hx
        exact ⟨h2, fun y hy => by
          simp only [List.map_cons, List.map_nil, List.mem_cons, List.not_mem_nil, or_false] at hy
          subst hy
          exact ⟨h1, cl_nil _ _⟩⟩) (fun t ht => by
      rw [List.mem_singleton] at ht
      subst ht
      exact ⟨fun x hx => by rw [List.mem_singleton] at hx; subst hx; show I64 1; unfold I64; decide, fun x hx => by rw [List.mem_singleton] at hx; subst hx; exact hv25_fit, (by show 1 * 80 ≤ _; omega)⟩) (by show 1 ≤ _; omega) (by show 1 ≤ _; omega)
    rw [show vlsOf (tlAll [⟨some ⟨idAt ids 2, 0, none⟩, 1, [⟨1, 0, 0, ⟨hv25, some ⟨idAt ids 1, 0, none⟩, 1, none, 0⟩⟩]⟩]) = hh25 from rfl, hh_merge] at this
    exact this
  intro b d ys hys hfr
  have hyl : ys.length = 1 := by have := congrArg List.length hys; rw [vlsOf_len] at this; exact this
  have hyf : ∀ y ∈ ys, VlFit y.v.v := vls_one hys hv25_fit
  refine br_t (by kernel_rfl) ?_
  refine br_B ((ys.length : Int) == 1) (by kernel_rfl) (fun _ => ?_) (fun h => by rw [hyl] at h; cases h)
  refine node_PI ⟨[0], [], [], [], []⟩ (fun ids => #[.slice (some ⟨idAt ids 7, 0, none⟩) 1 1, .slice b ys.length d, .slice (some ⟨idAt ids 8, 0, none⟩) 2 2, .bool false]) (.int .i64 0) (by intros; kernel_rfl) (by intros; kernel_rfl) (by kernel_rfl) (by kernel_rfl) (by kernel_rfl) oneNil (fun ids w2 hp hf => ?_) ?_
  · have := jcheck_any (some ⟨idAt ids 7, 0, none⟩) 1 [1] b d ys (some ⟨idAt ids 8, 0, none⟩) 2 [ev25 1 hc1 (0, 0, 0), ev25 2 hc1 (1, 1, 0)] false w2 (ints_blk hf 7 _ _ [1] rfl (by kernel_rfl) (by decide) (by unfold I64; decide)) (by decide) (vox_of hf.x.2) hyf (by omega) (evs_at (hf.blkAt 8 rfl) (by kernel_rfl)) (ky_two 1 1 (1, 1, 0) ky11) (by decide)
    rw [hys, hh_good] at this
    exact this
  refine br_t (by kernel_rfl) ?_
  refine node_PI ⟨[63], [], [], [], []⟩ (fun ids => #[.slice (some ⟨idAt ids 9, 0, none⟩) 1 1, .slice b ys.length d, .slice (some ⟨idAt ids 10, 0, none⟩) 2 2, .bool false]) (.int .i64 63) (by intros; kernel_rfl) (by intros; kernel_rfl) (by kernel_rfl) (by kernel_rfl) (by kernel_rfl) oneNil (fun ids w2 hp hf => ?_) ?_
  · have := jcheck_any (some ⟨idAt ids 9, 0, none⟩) 1 [1] b d ys (some ⟨idAt ids 10, 0, none⟩) 2 [ev25 1 hc1 (0, 0, 0), ev25 2 hc1 (1, 2, 0)] false w2 (ints_blk hf 9 _ _ [1] rfl (by kernel_rfl) (by decide) (by unfold I64; decide)) (by decide) (vox_of hf.x.2) hyf (by omega) (evs_at (hf.blkAt 10 rfl) (by kernel_rfl)) (ky_two 1 1 (1, 2, 0) ky11) (by decide)
    rw [hys, hh_bad] at this
    exact this
  exact pure_done (by intros; kernel_rfl)
end Go.Proofs.Ytbedoemdjlollaa

namespace Go.Proofs.Ytbedoemdjlollaa
open Go Go.ChangeShapes Go.WideShapes Go.ChangeAt Go.RowKit Go.Syn Go.Eng
set_option linter.unusedVariables false
set_option linter.unusedSimpArgs false
set_option maxRecDepth 100000
theorem z16_ok : validL z16 = true := by kernel_rfl
theorem firstI_ok {xs : List Int} (h : setOkB xs = true) : VI (firstI xs) := ⟨(by show (0 : Int) ≤ 0; omega), (by show (0 : Int) ≤ _; omega), (by show (0 : Int) ≤ 0; omega), (by show (0 : Int) ≤ _; omega), h, z16_ok, (validT_iff []).1 (by kernel_rfl)⟩
theorem firstI_bad {xs : List Int} (h : ¬ setOkB xs = true) : validI (firstI xs) = false := by
  rcases Bool.eq_false_or_eq_true (validI (firstI xs)) with q | q
  · exact absurd ((validI_iff _).1 q).mem h
  · exact q
theorem check_bad {xs : List Int} (h : ¬ setOkB xs = true) (x : Vo Vl) (r : List (Vo Vl)) (es : List Ev) (loose : Bool) : checkV xs (x :: r) es loose = 44 := by
  have he : execV (firstI xs) x.s x.v = ⟨im0, [], 44⟩ := by unfold execV; rw [if_pos (firstI_bad h)]
  have hp : playV (firstI xs) [] (x :: r) = ([], 44) := by
    unfold playV
    rw [he, if_pos (by decide)]
  unfold checkV
  rw [hp, if_pos (by decide)]
def tc (x : Int) : CmD := ⟨1, 1, 0, ⟨2, 0, 0, x, 0⟩⟩
def tv (x : Int) : Vl := ⟨1, [tc x], []⟩
def th (x : Int) : List (Vo Vl) := [⟨1, 0, 0, tv x⟩]
def tget : CmD := ⟨2, 1, 0, ⟨1, 0, 0, 0, 0⟩⟩
def tA (x : Int) : Ev := ev25 1 (tc x) (0, 0, 0)
def tB (x : Int) : Ev := ev25 2 (tc x) (1, x, 0)
def tX : Ev := ev25 1 tget (0, 0, 0)
def tY : Ev := ev25 2 tget (1, 0, 0)
def tp (x : Int) : Pc := ⟨tc x, 1, x, 0, [x, 0, 0, 0, 0, 0, 0, 0, 0, 0, 0, 0, 0, 0, 0, 0]⟩
def timeB (x : Int) : Bool := decide (cmdV (tc x) = 0) && decide (applyM z16 (tc x).op = ([x, 0, 0, 0, 0, 0, 0, 0, 0, 0, 0, 0, 0, 0, 0, 0], 1, x, 0)) &&
  decide (chkV [tp x] false [] 0 [tA x, tB x, tX, tY] = 63) && decide (chkV [tp x] true [] 0 [tA x, tB x, tX, tY] = 0) && decide (chkV [tp x] false [] 0 [tA x, tX, tB x, tY] = 0)
theorem time_all : (List.range 1024).all (fun i => timeB ((i + 1 : Nat) : Int)) = true := by kernel_rfl
theorem time_at {x : Int} (h1 : 1 ≤ x) (h2 : x ≤ 1024) : cmdV (tc x) = 0 ∧ applyM z16 (tc x).op = ([x, 0, 0, 0, 0, 0, 0, 0, 0, 0, 0, 0, 0, 0, 0, 0], 1, x, 0) ∧ chkV [tp x] false [] 0 [tA x, tB x, tX, tY] = 63 ∧ chkV [tp x] true [] 0 [tA x, tB x, tX, tY] = 0 ∧ chkV [tp x] false [] 0 [tA x, tX, tB x, tY] = 0 := by
  have h := List.all_eq_true.1 time_all (x - 1).toNat (List.mem_range.2 (by omega))
  rw [show (((x - 1).toNat + 1 : Nat) : Int) = x by omega] at h
  unfold timeB at h
  simp only [Bool.and_eq_true, decide_eq_true_eq] at h
  exact ⟨h.1.1.1.1, h.1.1.1.2, h.1.1.2, h.1.2, h.2⟩
theorem time_play {xs : List Int} (h : setOkB xs = true) {x : Int} (h1 : 1 ≤ x) (h2 : x ≤ 1024) : playV (firstI xs) [] (th x) = ([tp x], 0) := by
  obtain ⟨g1, g2, _⟩ := time_at h1 h2
  have hz : valE (tv x) = 0 := by
    unfold valE tv
    simp [firstE, g1]
  have ht : (askV [] (tc x).sess (tc x).seq (tc x).ack).d = false := by kernel_rfl
  have hr : (runV ⟨0, xs, 1, im0.regs, []⟩ (tc x)).k = 1 ∧ (runV ⟨0, xs, 1, im0.regs, []⟩ (tc x)).re = x ∧ (runV ⟨0, xs, 1, im0.regs, []⟩ (tc x)).im = 0 := by
    unfold runV
    rw [if_neg (by rw [ht]; decide)]
    rw [show im0.regs = z16 from rfl, g2]
    exact ⟨rfl, rfl, rfl⟩
  have he : execV (firstI xs) 1 (tv x) = ⟨(runV ⟨0, xs, 1, im0.regs, []⟩ (tc x)).i, [⟨1, 1, 1, x, 0⟩], 0⟩ := by
    rw [exec_eq (slot := 1) (v := tv x) (firstI_ok h) rfl (by omega) (fun q => absurd q (by show ¬ (1 : Int) = 2; decide)), if_neg (fun q => q hz)]
    show ExR.mk (runV ⟨0, xs, 1, im0.regs, []⟩ (tc x)).i [⟨1, 1, (runV ⟨0, xs, 1, im0.regs, []⟩ (tc x)).k, (runV ⟨0, xs, 1, im0.regs, []⟩ (tc x)).re, (runV ⟨0, xs, 1, im0.regs, []⟩ (tc x)).im⟩] 0 = _
    rw [hr.1, hr.2.1, hr.2.2]
  unfold th playV
  rw [he, if_neg (fun q => q rfl)]
  unfold playV
  show (addAll [] [(tc x, ⟨1, 1, 1, x, 0⟩)], (0 : Int)) = _
  show ([Pc.mk (tc x) 1 x 0 (applyM z16 (tc x).op).1], (0 : Int)) = _
  rw [g2]; rfl
theorem time_check {xs : List Int} (h : setOkB xs = true) {x : Int} (h1 : 1 ≤ x) (h2 : x ≤ 1024) : checkV xs (th x) [tA x, tB x, tX, tY] false = 63 ∧ checkV xs (th x) [tA x, tB x, tX, tY] true = 0 ∧ checkV xs (th x) [tA x, tX, tB x, tY] false = 0 := by
  obtain ⟨_, _, g3, g4, g5⟩ := time_at h1 h2
  unfold checkV
  rw [time_play h h1 h2]
  exact ⟨g3, g4, g5⟩
end Go.Proofs.Ytbedoemdjlollaa

namespace Go.Proofs.Ytbedoemdjlollaa
open Go Go.ChangeShapes Go.WideShapes Go.ChangeAt Go.RowKit Go.Syn Go.Eng
set_option linter.unusedVariables false
set_option linter.unusedSimpArgs false
set_option maxRecDepth 100000
theorem mask_1023 (x : Int) : bits .and .i64 x 1023 = x % 1024 := i64_mask x 10 (by decide)
theorem tc_fit (x : Int) : VlFit (tv x) := ⟨(fun n h => by cases h), (by show 1 ≤ _; omega), (by show 0 ≤ _; omega)⟩
theorem t_keys {x : Int} {es : List Ev} (h : ∀ e ∈ es, e = tA x ∨ e = tB x ∨ e = tX ∨ e = tY) : ∀ e ∈ es, KyFit e.key := fun e he => by
  have k1 : KyFit (1, 1) := by unfold KyFit; decide
  have k2 : KyFit (2, 1) := by unfold KyFit; decide
  rcases h e he with rfl | rfl | rfl | rfl
  · exact k1
  · exact k1
  · exact k2
  · exact k2
theorem t_four {x : Int} {a b c d : Ev} (h : ∀ e, e = a ∨ e = b ∨ e = c ∨ e = d → e = tA x ∨ e = tB x ∨ e = tX ∨ e = tY) : ∀ e ∈ [a, b, c, d], KyFit e.key := t_keys fun e he => h e (by simpa using he)
set_option maxHeartbeats 2000000 in
theorem time_walk (re : Int) (late : Bool) (a : Option Addr) (cp : Nat) (xs : List Int) (w : World) (H : Ints w a xs) (hl : xs.length * 8 ≤ 140737488351232) :
    Calls Try.prog 6 #[.int .i64 re, .bool late, .slice a xs.length cp] w (PureAt w (.bool true)) := by
  refine calls_at (tab_ok _) Try.func6 rfl tLTime (ρ := ⟨[re], [late], [], [xs.length, cp], [a]⟩) (ids := []) (hx := HX.nil) rfl (Facts.initP rfl oneNil) ?_
  have keepX : ∀ {m : Mem} {ρ : Env} {ids : List Nat} {hx : HX} {w2 : World} {R : Ending → World → Prop}, Facts ⟨Try.prog, w, fun _ => False, R⟩ m ρ ids hx w2 → Ints w2 a xs := fun hf => Ints.of_cells (by omega) H.fits (cl_stay H.cells fun k hk => hf.chg.block k hk (fun q => q))
  refine node_P ⟨[], [true], [], [], []⟩ #[] (.bool true) (by intros; kernel_rfl) (by intros; kernel_rfl) (by kernel_rfl) (by kernel_rfl) (by kernel_rfl) oneNil (fun ids w2 hp hf => head25_any w2) ?_
  refine br_f (by kernel_rfl) ?_
  refine node_P ⟨[], [setOkB xs], [], [], []⟩ #[.slice a xs.length cp] (.bool (setOkB xs)) (by intros; kernel_rfl) (by intros; kernel_rfl) (by kernel_rfl) (by kernel_rfl) (by kernel_rfl) oneNil (fun ids w2 hp hf => refRight_any a cp xs w2 (keepX hf)) ?_
  by_cases hok : setOkB xs = true
  case' neg =>
    refine br_T (!(setOkB xs)) (by kernel_rfl) (by simpa using hok) ?_
    refine node_clones (sz := 1) (z := .int .i64 0) (bytes := 8) rfl Try.underlying33 info_int1 rfl (by decide) 0 rfl (fun _ => a) xs.length cp (xs.map (Value.int .i64)) (by simp) (fun ids w2 hp hf => (keepX hf).cells) (fun u hu => by obtain ⟨x, _, rfl⟩ := List.mem_map.1 hu; rfl) (by simp only [maxLen]; omega) (by omega) (by intros; kernel_rfl) (by intros; kernel_rfl) (by intros; kernel_rfl) (by kernel_rfl) (by kernel_rfl) (by intros; kernel_rfl) ?_
    intro b1 d1 _
    refine node_PI ⟨[44], [], [], [], []⟩ (fun ids => #[.slice b1 xs.length d1, .slice (some ⟨idAt ids 1, 0, none⟩) 1 1, .slice none 0 0, .bool false]) (.int .i64 44) (by intros; kernel_rfl) (by intros; kernel_rfl) (by kernel_rfl) (by kernel_rfl) (by kernel_rfl) oneNil (fun ids w2 hp hf => ?_) (pure_done (by intros; kernel_rfl))
    have h2 := cells_of (hf.blkAt 1 rfl) (vs := [.int .i64 1, .int .i64 0, .int .i64 0, .int .i64 0, .slice none 0 0, .slice none 0 0]) (by kernel_rfl)
    have := jcheck_any b1 d1 xs (some ⟨idAt ids 1, 0, none⟩) 1 [⟨1, 0, 0, pz⟩] none 0 [] false w2 (Ints.of_cells (by omega) H.fits (rw_cells hf.x.2)) hl ⟨h2, fun y hy => by
      simp only [List.map_cons, List.map_nil, List.mem_cons, List.not_mem_nil, or_false] at hy
      subst hy
      exact ⟨cl_nil _ _, cl_nil _ _⟩⟩ (fun y hy => by rw [List.mem_singleton] at hy; subst hy; exact vz_fit) (by decide) (cl_nil _ _) (fun e he => by cases he) (by decide)
    rw [show vlsOf [⟨1, 0, 0, pz⟩] = (⟨1, 0, 0, vz⟩ : Vo Vl) :: [] from rfl, check_bad hok] at this
    exact this
  refine br_F (!(setOkB xs)) (by kernel_rfl) (by simpa using hok) ?_
  obtain ⟨x, ex⟩ : ∃ x : Int, x = 1 + re % 1024 := ⟨_, rfl⟩
  have x1 : 1 ≤ x := by omega
  have x2 : x ≤ 1024 := by omega
  have hw : IntKind.i64.wrap (1 + ifn .and .i64 re 1023) = x := by
    rw [show ifn .and .i64 re 1023 = bits .and .i64 re 1023 from rfl, mask_1023, wrap_i64 (by omega), ex]
  obtain ⟨t1, t2, t3⟩ := time_check hok x1 x2
  have chk : ∀ (w2 : World) (b1 : Option Addr) (d1 i1 i2 i3 : Nat) {u1 u2 u3 : List Value} {y1 y2 y3 : Nat} (loose : Bool) (es : List Ev) (E : Int), Cells w2 b1 (xs.map (Value.int .i64)) → w2.heap[i2]? = some (.cells u2.toArray y2 (0, 0)) → u2 = [.int .i64 1, .int .i64 0, .int .i64 0, .int .i64 1, .slice (some ⟨i1, 0, none⟩) 1 1, .slice none 0 0] → w2.heap[i1]? = some (.cells u1.toArray y1 (0, 0)) → u1 = ccells [tc x] →
      w2.heap[i3]? = some (.cells u3.toArray y3 (0, 0)) → u3 = evcs es → checkV xs (th x) es loose = E → (∀ e ∈ es, KyFit e.key) → es.length = 4 → Calls Try.prog 14 #[.slice b1 xs.length d1, .slice (some ⟨i2, 0, none⟩) 1 1, .slice (some ⟨i3, 0, none⟩) 4 4, .bool loose] w2 (PureAt w2 (.int .i64 E)) := by
    intro w2 b1 d1 i1 i2 i3 u1 u2 u3 y1 y2 y3 loose es E q1 q2 e2 q3 e3 q4 e4 hE hk h4
    have := jcheck_any b1 d1 xs (some ⟨i2, 0, none⟩) 1 [⟨1, 0, 0, ⟨tv x, some ⟨i1, 0, none⟩, 1, none, 0⟩⟩] (some ⟨i3, 0, none⟩) 4 es loose w2 (Ints.of_cells (by omega) H.fits q1) hl ⟨cells_of q2 e2, fun y hy => by
      simp only [List.map_cons, List.map_nil, List.mem_cons, List.not_mem_nil, or_false] at hy
      subst hy
      exact ⟨cells_of q3 e3, cl_nil _ _⟩⟩ (fun y hy => by rw [List.mem_singleton] at hy; subst hy; exact tc_fit x) (by show 1 ≤ _; omega) (cells_of q4 e4) hk (by omega)
    rw [show vlsOf [⟨1, 0, 0, ⟨tv x, some ⟨i1, 0, none⟩, 1, none, 0⟩⟩] = th x from rfl, hE, h4] at this
    exact this
  have k1 : ∀ e ∈ [tA x, tB x, tX, tY], KyFit e.key := t_four fun e h => h
  have k2 : ∀ e ∈ [tA x, tX, tB x, tY], KyFit e.key := t_four fun e h => by
    rcases h with h | h | h | h
    · exact .inl h
    · exact .inr (.inr (.inl h))
    · exact .inr (.inl h)
    · exact .inr (.inr (.inr h))
  refine node_P ⟨(tc x).is, [], [], [], []⟩ #[.int .i64 1, .int .i64 1, .int .i64 x] (.agg (tc x).cells.toArray) (fun ids => Eq.trans (b := #[.int .i64 1, .int .i64 1, .int .i64 (IntKind.i64.wrap (1 + ifn .and .i64 re 1023))]) (by kernel_rfl) (by rw [hw])) (by intros; kernel_rfl) (by kernel_rfl) (by kernel_rfl) (by kernel_rfl) oneNil (fun ids w2 hp hf => put_any 1 1 x w2) ?_
  refine holds_env (ρ' := ⟨[re, 1, 1, 0, 2, 0, 0, x, 0], [late, true, setOkB xs], [], [xs.length, cp], [a]⟩) (by kernel_rfl) ?_
  refine br_B late (by kernel_rfl) (fun hlate => ?_) (fun hlate => ?_)
  · refine par_i (par_i ?_ ?_) ?_
    · refine node_clones (sz := 1) (z := .int .i64 0) (bytes := 8) rfl Try.underlying33 info_int1 rfl (by decide) 8 rfl (fun _ => a) xs.length cp (xs.map (Value.int .i64)) (by simp) (fun ids w2 hp hf => (keepX hf).cells) (fun u hu => by obtain ⟨x, _, rfl⟩ := List.mem_map.1 hu; rfl) (by simp only [maxLen]; omega) (by omega) (by intros; kernel_rfl) (by intros; kernel_rfl) (by intros; kernel_rfl) (by kernel_rfl) (by kernel_rfl) (by intros; kernel_rfl) ?_
      intro b1 d1 _
      refine node_PI ⟨[63], [], [], [], []⟩ (fun ids => #[.slice b1 xs.length d1, .slice (some ⟨idAt ids 2, 0, none⟩) 1 1, .slice (some ⟨idAt ids 9, 0, none⟩) 4 4, .bool false]) (.int .i64 63) (by intros; kernel_rfl) (by intros; kernel_rfl) (by kernel_rfl) (by kernel_rfl) (by kernel_rfl) oneNil (fun ids w2 hp hf => chk w2 b1 d1 (idAt ids 1) (idAt ids 2) (idAt ids 9) false [tA x, tB x, tX, tY] 63 (rw_cells hf.x.2) (hf.blkAt 2 rfl) (by kernel_rfl) (hf.blkAt 1 rfl) (by kernel_rfl) (hf.blkAt 9 rfl) (Eq.trans (b := evcs [tA x, ev25 2 (tc x) (1, IntKind.i64.wrap (1 + ifn .and .i64 re 1023), 0), tX, tY]) (by kernel_rfl) (by rw [hw]; rfl)) t1 k1 rfl) ?_
      refine br_t (by kernel_rfl) ?_
      refine par_i (par_i ?_ ?_) ?_
      · refine node_clones (sz := 1) (z := .int .i64 0) (bytes := 8) rfl Try.underlying33 info_int1 rfl (by decide) 10 rfl (fun _ => a) xs.length cp (xs.map (Value.int .i64)) (by simp) (fun ids w2 hp hf => (keepX hf).cells) (fun u hu => by obtain ⟨x, _, rfl⟩ := List.mem_map.1 hu; rfl) (by simp only [maxLen]; omega) (by omega) (by intros; kernel_rfl) (by intros; kernel_rfl) (by intros; kernel_rfl) (by kernel_rfl) (by kernel_rfl) (by intros; kernel_rfl) ?_
        intro b2 d2 _
        refine node_PI ⟨[0], [], [], [], []⟩ (fun ids => #[.slice b2 xs.length d2, .slice (some ⟨idAt ids 2, 0, none⟩) 1 1, .slice (some ⟨idAt ids 11, 0, none⟩) 4 4, .bool true]) (.int .i64 0) (by intros; kernel_rfl) (by intros; kernel_rfl) (by kernel_rfl) (by kernel_rfl) (by kernel_rfl) oneNil (fun ids w2 hp hf => chk w2 b2 d2 (idAt ids 1) (idAt ids 2) (idAt ids 11) true [tA x, tB x, tX, tY] 0 (rw_cells hf.x.2) (hf.blkAt 2 rfl) (by kernel_rfl) (hf.blkAt 1 rfl) (by kernel_rfl) (hf.blkAt 11 rfl) (Eq.trans (b := evcs [tA x, ev25 2 (tc x) (1, IntKind.i64.wrap (1 + ifn .and .i64 re 1023), 0), tX, tY]) (by kernel_rfl) (by rw [hw]; rfl)) t2 k1 rfl) (pure_done (by intros; kernel_rfl))
      · refine node_clones (sz := 1) (z := .int .i64 0) (bytes := 8) rfl Try.underlying33 info_int1 rfl (by decide) 10 rfl (fun _ => a) xs.length cp (xs.map (Value.int .i64)) (by simp) (fun ids w2 hp hf => (keepX hf).cells) (fun u hu => by obtain ⟨x, _, rfl⟩ := List.mem_map.1 hu; rfl) (by simp only [maxLen]; omega) (by omega) (by intros; kernel_rfl) (by intros; kernel_rfl) (by intros; kernel_rfl) (by kernel_rfl) (by kernel_rfl) (by intros; kernel_rfl) ?_
        intro b2 d2 _
        refine node_PI ⟨[0], [], [], [], []⟩ (fun ids => #[.slice b2 xs.length d2, .slice (some ⟨idAt ids 2, 0, none⟩) 1 1, .slice (some ⟨idAt ids 11, 0, none⟩) 4 4, .bool true]) (.int .i64 0) (by intros; kernel_rfl) (by intros; kernel_rfl) (by kernel_rfl) (by kernel_rfl) (by kernel_rfl) oneNil (fun ids w2 hp hf => chk w2 b2 d2 (idAt ids 1) (idAt ids 2) (idAt ids 11) true [tA x, tB x, tX, tY] 0 (rw_cells hf.x.2) (hf.blkAt 2 rfl) (by kernel_rfl) (hf.blkAt 1 rfl) (by kernel_rfl) (hf.blkAt 11 rfl) (Eq.trans (b := evcs [tA x, ev25 2 (tc x) (1, IntKind.i64.wrap (1 + ifn .and .i64 re 1023), 0), tX, tY]) (by kernel_rfl) (by rw [hw]; rfl)) t2 k1 rfl) (pure_done (by intros; kernel_rfl))
      · refine node_clones (sz := 1) (z := .int .i64 0) (bytes := 8) rfl Try.underlying33 info_int1 rfl (by decide) 11 rfl (fun _ => a) xs.length cp (xs.map (Value.int .i64)) (by simp) (fun ids w2 hp hf => (keepX hf).cells) (fun u hu => by obtain ⟨x, _, rfl⟩ := List.mem_map.1 hu; rfl) (by simp only [maxLen]; omega) (by omega) (by intros; kernel_rfl) (by intros; kernel_rfl) (by intros; kernel_rfl) (by kernel_rfl) (by kernel_rfl) (by intros; kernel_rfl) ?_
        intro b2 d2 _
        refine node_PI ⟨[0], [], [], [], []⟩ (fun ids => #[.slice b2 xs.length d2, .slice (some ⟨idAt ids 2, 0, none⟩) 1 1, .slice (some ⟨idAt ids 10, 0, none⟩) 4 4, .bool true]) (.int .i64 0) (by intros; kernel_rfl) (by intros; kernel_rfl) (by kernel_rfl) (by kernel_rfl) (by kernel_rfl) oneNil (fun ids w2 hp hf => chk w2 b2 d2 (idAt ids 1) (idAt ids 2) (idAt ids 10) true [tA x, tB x, tX, tY] 0 (rw_cells hf.x.2) (hf.blkAt 2 rfl) (by kernel_rfl) (hf.blkAt 1 rfl) (by kernel_rfl) (hf.blkAt 10 rfl) (Eq.trans (b := evcs [tA x, ev25 2 (tc x) (1, IntKind.i64.wrap (1 + ifn .and .i64 re 1023), 0), tX, tY]) (by kernel_rfl) (by rw [hw]; rfl)) t2 k1 rfl) (pure_done (by intros; kernel_rfl))
    · refine node_clones (sz := 1) (z := .int .i64 0) (bytes := 8) rfl Try.underlying33 info_int1 rfl (by decide) 8 rfl (fun _ => a) xs.length cp (xs.map (Value.int .i64)) (by simp) (fun ids w2 hp hf => (keepX hf).cells) (fun u hu => by obtain ⟨x, _, rfl⟩ := List.mem_map.1 hu; rfl) (by simp only [maxLen]; omega) (by omega) (by intros; kernel_rfl) (by intros; kernel_rfl) (by intros; kernel_rfl) (by kernel_rfl) (by kernel_rfl) (by intros; kernel_rfl) ?_
      intro b1 d1 _
      refine node_PI ⟨[63], [], [], [], []⟩ (fun ids => #[.slice b1 xs.length d1, .slice (some ⟨idAt ids 2, 0, none⟩) 1 1, .slice (some ⟨idAt ids 9, 0, none⟩) 4 4, .bool false]) (.int .i64 63) (by intros; kernel_rfl) (by intros; kernel_rfl) (by kernel_rfl) (by kernel_rfl) (by kernel_rfl) oneNil (fun ids w2 hp hf => chk w2 b1 d1 (idAt ids 1) (idAt ids 2) (idAt ids 9) false [tA x, tB x, tX, tY] 63 (rw_cells hf.x.2) (hf.blkAt 2 rfl) (by kernel_rfl) (hf.blkAt 1 rfl) (by kernel_rfl) (hf.blkAt 9 rfl) (Eq.trans (b := evcs [tA x, ev25 2 (tc x) (1, IntKind.i64.wrap (1 + ifn .and .i64 re 1023), 0), tX, tY]) (by kernel_rfl) (by rw [hw]; rfl)) t1 k1 rfl) ?_
      refine br_t (by kernel_rfl) ?_
      refine par_i (par_i ?_ ?_) ?_
      · refine node_clones (sz := 1) (z := .int .i64 0) (bytes := 8) rfl Try.underlying33 info_int1 rfl (by decide) 10 rfl (fun _ => a) xs.length cp (xs.map (Value.int .i64)) (by simp) (fun ids w2 hp hf => (keepX hf).cells) (fun u hu => by obtain ⟨x, _, rfl⟩ := List.mem_map.1 hu; rfl) (by simp only [maxLen]; omega) (by omega) (by intros; kernel_rfl) (by intros; kernel_rfl) (by intros; kernel_rfl) (by kernel_rfl) (by kernel_rfl) (by intros; kernel_rfl) ?_
        intro b2 d2 _
        refine node_PI ⟨[0], [], [], [], []⟩ (fun ids => #[.slice b2 xs.length d2, .slice (some ⟨idAt ids 2, 0, none⟩) 1 1, .slice (some ⟨idAt ids 11, 0, none⟩) 4 4, .bool true]) (.int .i64 0) (by intros; kernel_rfl) (by intros; kernel_rfl) (by kernel_rfl) (by kernel_rfl) (by kernel_rfl) oneNil (fun ids w2 hp hf => chk w2 b2 d2 (idAt ids 1) (idAt ids 2) (idAt ids 11) true [tA x, tB x, tX, tY] 0 (rw_cells hf.x.2) (hf.blkAt 2 rfl) (by kernel_rfl) (hf.blkAt 1 rfl) (by kernel_rfl) (hf.blkAt 11 rfl) (Eq.trans (b := evcs [tA x, ev25 2 (tc x) (1, IntKind.i64.wrap (1 + ifn .and .i64 re 1023), 0), tX, tY]) (by kernel_rfl) (by rw [hw]; rfl)) t2 k1 rfl) (pure_done (by intros; kernel_rfl))
      · refine node_clones (sz := 1) (z := .int .i64 0) (bytes := 8) rfl Try.underlying33 info_int1 rfl (by decide) 10 rfl (fun _ => a) xs.length cp (xs.map (Value.int .i64)) (by simp) (fun ids w2 hp hf => (keepX hf).cells) (fun u hu => by obtain ⟨x, _, rfl⟩ := List.mem_map.1 hu; rfl) (by simp only [maxLen]; omega) (by omega) (by intros; kernel_rfl) (by intros; kernel_rfl) (by intros; kernel_rfl) (by kernel_rfl) (by kernel_rfl) (by intros; kernel_rfl) ?_
        intro b2 d2 _
        refine node_PI ⟨[0], [], [], [], []⟩ (fun ids => #[.slice b2 xs.length d2, .slice (some ⟨idAt ids 2, 0, none⟩) 1 1, .slice (some ⟨idAt ids 11, 0, none⟩) 4 4, .bool true]) (.int .i64 0) (by intros; kernel_rfl) (by intros; kernel_rfl) (by kernel_rfl) (by kernel_rfl) (by kernel_rfl) oneNil (fun ids w2 hp hf => chk w2 b2 d2 (idAt ids 1) (idAt ids 2) (idAt ids 11) true [tA x, tB x, tX, tY] 0 (rw_cells hf.x.2) (hf.blkAt 2 rfl) (by kernel_rfl) (hf.blkAt 1 rfl) (by kernel_rfl) (hf.blkAt 11 rfl) (Eq.trans (b := evcs [tA x, ev25 2 (tc x) (1, IntKind.i64.wrap (1 + ifn .and .i64 re 1023), 0), tX, tY]) (by kernel_rfl) (by rw [hw]; rfl)) t2 k1 rfl) (pure_done (by intros; kernel_rfl))
      · refine node_clones (sz := 1) (z := .int .i64 0) (bytes := 8) rfl Try.underlying33 info_int1 rfl (by decide) 11 rfl (fun _ => a) xs.length cp (xs.map (Value.int .i64)) (by simp) (fun ids w2 hp hf => (keepX hf).cells) (fun u hu => by obtain ⟨x, _, rfl⟩ := List.mem_map.1 hu; rfl) (by simp only [maxLen]; omega) (by omega) (by intros; kernel_rfl) (by intros; kernel_rfl) (by intros; kernel_rfl) (by kernel_rfl) (by kernel_rfl) (by intros; kernel_rfl) ?_
        intro b2 d2 _
        refine node_PI ⟨[0], [], [], [], []⟩ (fun ids => #[.slice b2 xs.length d2, .slice (some ⟨idAt ids 2, 0, none⟩) 1 1, .slice (some ⟨idAt ids 10, 0, none⟩) 4 4, .bool true]) (.int .i64 0) (by intros; kernel_rfl) (by intros; kernel_rfl) (by kernel_rfl) (by kernel_rfl) (by kernel_rfl) oneNil (fun ids w2 hp hf => chk w2 b2 d2 (idAt ids 1) (idAt ids 2) (idAt ids 10) true [tA x, tB x, tX, tY] 0 (rw_cells hf.x.2) (hf.blkAt 2 rfl) (by kernel_rfl) (hf.blkAt 1 rfl) (by kernel_rfl) (hf.blkAt 10 rfl) (Eq.trans (b := evcs [tA x, ev25 2 (tc x) (1, IntKind.i64.wrap (1 + ifn .and .i64 re 1023), 0), tX, tY]) (by kernel_rfl) (by rw [hw]; rfl)) t2 k1 rfl) (pure_done (by intros; kernel_rfl))
    · refine node_clones (sz := 1) (z := .int .i64 0) (bytes := 8) rfl Try.underlying33 info_int1 rfl (by decide) 9 rfl (fun _ => a) xs.length cp (xs.map (Value.int .i64)) (by simp) (fun ids w2 hp hf => (keepX hf).cells) (fun u hu => by obtain ⟨x, _, rfl⟩ := List.mem_map.1 hu; rfl) (by simp only [maxLen]; omega) (by omega) (by intros; kernel_rfl) (by intros; kernel_rfl) (by intros; kernel_rfl) (by kernel_rfl) (by kernel_rfl) (by intros; kernel_rfl) ?_
      intro b1 d1 _
      refine node_PI ⟨[63], [], [], [], []⟩ (fun ids => #[.slice b1 xs.length d1, .slice (some ⟨idAt ids 2, 0, none⟩) 1 1, .slice (some ⟨idAt ids 8, 0, none⟩) 4 4, .bool false]) (.int .i64 63) (by intros; kernel_rfl) (by intros; kernel_rfl) (by kernel_rfl) (by kernel_rfl) (by kernel_rfl) oneNil (fun ids w2 hp hf => chk w2 b1 d1 (idAt ids 1) (idAt ids 2) (idAt ids 8) false [tA x, tB x, tX, tY] 63 (rw_cells hf.x.2) (hf.blkAt 2 rfl) (by kernel_rfl) (hf.blkAt 1 rfl) (by kernel_rfl) (hf.blkAt 8 rfl) (Eq.trans (b := evcs [tA x, ev25 2 (tc x) (1, IntKind.i64.wrap (1 + ifn .and .i64 re 1023), 0), tX, tY]) (by kernel_rfl) (by rw [hw]; rfl)) t1 k1 rfl) ?_
      refine br_t (by kernel_rfl) ?_
      refine par_i (par_i ?_ ?_) ?_
      · refine node_clones (sz := 1) (z := .int .i64 0) (bytes := 8) rfl Try.underlying33 info_int1 rfl (by decide) 10 rfl (fun _ => a) xs.length cp (xs.map (Value.int .i64)) (by simp) (fun ids w2 hp hf => (keepX hf).cells) (fun u hu => by obtain ⟨x, _, rfl⟩ := List.mem_map.1 hu; rfl) (by simp only [maxLen]; omega) (by omega) (by intros; kernel_rfl) (by intros; kernel_rfl) (by intros; kernel_rfl) (by kernel_rfl) (by kernel_rfl) (by intros; kernel_rfl) ?_
        intro b2 d2 _
        refine node_PI ⟨[0], [], [], [], []⟩ (fun ids => #[.slice b2 xs.length d2, .slice (some ⟨idAt ids 2, 0, none⟩) 1 1, .slice (some ⟨idAt ids 11, 0, none⟩) 4 4, .bool true]) (.int .i64 0) (by intros; kernel_rfl) (by intros; kernel_rfl) (by kernel_rfl) (by kernel_rfl) (by kernel_rfl) oneNil (fun ids w2 hp hf => chk w2 b2 d2 (idAt ids 1) (idAt ids 2) (idAt ids 11) true [tA x, tB x, tX, tY] 0 (rw_cells hf.x.2) (hf.blkAt 2 rfl) (by kernel_rfl) (hf.blkAt 1 rfl) (by kernel_rfl) (hf.blkAt 11 rfl) (Eq.trans (b := evcs [tA x, ev25 2 (tc x) (1, IntKind.i64.wrap (1 + ifn .and .i64 re 1023), 0), tX, tY]) (by kernel_rfl) (by rw [hw]; rfl)) t2 k1 rfl) (pure_done (by intros; kernel_rfl))
      · refine node_clones (sz := 1) (z := .int .i64 0) (bytes := 8) rfl Try.underlying33 info_int1 rfl (by decide) 10 rfl (fun _ => a) xs.length cp (xs.map (Value.int .i64)) (by simp) (fun ids w2 hp hf => (keepX hf).cells) (fun u hu => by obtain ⟨x, _, rfl⟩ := List.mem_map.1 hu; rfl) (by simp only [maxLen]; omega) (by omega) (by intros; kernel_rfl) (by intros; kernel_rfl) (by intros; kernel_rfl) (by kernel_rfl) (by kernel_rfl) (by intros; kernel_rfl) ?_
        intro b2 d2 _
        refine node_PI ⟨[0], [], [], [], []⟩ (fun ids => #[.slice b2 xs.length d2, .slice (some ⟨idAt ids 2, 0, none⟩) 1 1, .slice (some ⟨idAt ids 11, 0, none⟩) 4 4, .bool true]) (.int .i64 0) (by intros; kernel_rfl) (by intros; kernel_rfl) (by kernel_rfl) (by kernel_rfl) (by kernel_rfl) oneNil (fun ids w2 hp hf => chk w2 b2 d2 (idAt ids 1) (idAt ids 2) (idAt ids 11) true [tA x, tB x, tX, tY] 0 (rw_cells hf.x.2) (hf.blkAt 2 rfl) (by kernel_rfl) (hf.blkAt 1 rfl) (by kernel_rfl) (hf.blkAt 11 rfl) (Eq.trans (b := evcs [tA x, ev25 2 (tc x) (1, IntKind.i64.wrap (1 + ifn .and .i64 re 1023), 0), tX, tY]) (by kernel_rfl) (by rw [hw]; rfl)) t2 k1 rfl) (pure_done (by intros; kernel_rfl))
      · refine node_clones (sz := 1) (z := .int .i64 0) (bytes := 8) rfl Try.underlying33 info_int1 rfl (by decide) 11 rfl (fun _ => a) xs.length cp (xs.map (Value.int .i64)) (by simp) (fun ids w2 hp hf => (keepX hf).cells) (fun u hu => by obtain ⟨x, _, rfl⟩ := List.mem_map.1 hu; rfl) (by simp only [maxLen]; omega) (by omega) (by intros; kernel_rfl) (by intros; kernel_rfl) (by intros; kernel_rfl) (by kernel_rfl) (by kernel_rfl) (by intros; kernel_rfl) ?_
        intro b2 d2 _
        refine node_PI ⟨[0], [], [], [], []⟩ (fun ids => #[.slice b2 xs.length d2, .slice (some ⟨idAt ids 2, 0, none⟩) 1 1, .slice (some ⟨idAt ids 10, 0, none⟩) 4 4, .bool true]) (.int .i64 0) (by intros; kernel_rfl) (by intros; kernel_rfl) (by kernel_rfl) (by kernel_rfl) (by kernel_rfl) oneNil (fun ids w2 hp hf => chk w2 b2 d2 (idAt ids 1) (idAt ids 2) (idAt ids 10) true [tA x, tB x, tX, tY] 0 (rw_cells hf.x.2) (hf.blkAt 2 rfl) (by kernel_rfl) (hf.blkAt 1 rfl) (by kernel_rfl) (hf.blkAt 10 rfl) (Eq.trans (b := evcs [tA x, ev25 2 (tc x) (1, IntKind.i64.wrap (1 + ifn .and .i64 re 1023), 0), tX, tY]) (by kernel_rfl) (by rw [hw]; rfl)) t2 k1 rfl) (pure_done (by intros; kernel_rfl))
  · refine par_i (par_i ?_ ?_) ?_
    · refine node_clones (sz := 1) (z := .int .i64 0) (bytes := 8) rfl Try.underlying33 info_int1 rfl (by decide) 8 rfl (fun _ => a) xs.length cp (xs.map (Value.int .i64)) (by simp) (fun ids w2 hp hf => (keepX hf).cells) (fun u hu => by obtain ⟨x, _, rfl⟩ := List.mem_map.1 hu; rfl) (by simp only [maxLen]; omega) (by omega) (by intros; kernel_rfl) (by intros; kernel_rfl) (by intros; kernel_rfl) (by kernel_rfl) (by kernel_rfl) (by intros; kernel_rfl) ?_
      intro b1 d1 _
      refine node_PI ⟨[0], [], [], [], []⟩ (fun ids => #[.slice b1 xs.length d1, .slice (some ⟨idAt ids 2, 0, none⟩) 1 1, .slice (some ⟨idAt ids 9, 0, none⟩) 4 4, .bool false]) (.int .i64 0) (by intros; kernel_rfl) (by intros; kernel_rfl) (by kernel_rfl) (by kernel_rfl) (by kernel_rfl) oneNil (fun ids w2 hp hf => chk w2 b1 d1 (idAt ids 1) (idAt ids 2) (idAt ids 9) false [tA x, tX, tB x, tY] 0 (rw_cells hf.x.2) (hf.blkAt 2 rfl) (by kernel_rfl) (hf.blkAt 1 rfl) (by kernel_rfl) (hf.blkAt 9 rfl) (Eq.trans (b := evcs [tA x, tX, ev25 2 (tc x) (1, IntKind.i64.wrap (1 + ifn .and .i64 re 1023), 0), tY]) (by kernel_rfl) (by rw [hw]; rfl)) t3 k2 rfl) (pure_done (by intros; kernel_rfl))
    · refine node_clones (sz := 1) (z := .int .i64 0) (bytes := 8) rfl Try.underlying33 info_int1 rfl (by decide) 8 rfl (fun _ => a) xs.length cp (xs.map (Value.int .i64)) (by simp) (fun ids w2 hp hf => (keepX hf).cells) (fun u hu => by obtain ⟨x, _, rfl⟩ := List.mem_map.1 hu; rfl) (by simp only [maxLen]; omega) (by omega) (by intros; kernel_rfl) (by intros; kernel_rfl) (by intros; kernel_rfl) (by kernel_rfl) (by kernel_rfl) (by intros; kernel_rfl) ?_
      intro b1 d1 _
      refine node_PI ⟨[0], [], [], [], []⟩ (fun ids => #[.slice b1 xs.length d1, .slice (some ⟨idAt ids 2, 0, none⟩) 1 1, .slice (some ⟨idAt ids 9, 0, none⟩) 4 4, .bool false]) (.int .i64 0) (by intros; kernel_rfl) (by intros; kernel_rfl) (by kernel_rfl) (by kernel_rfl) (by kernel_rfl) oneNil (fun ids w2 hp hf => chk w2 b1 d1 (idAt ids 1) (idAt ids 2) (idAt ids 9) false [tA x, tX, tB x, tY] 0 (rw_cells hf.x.2) (hf.blkAt 2 rfl) (by kernel_rfl) (hf.blkAt 1 rfl) (by kernel_rfl) (hf.blkAt 9 rfl) (Eq.trans (b := evcs [tA x, tX, ev25 2 (tc x) (1, IntKind.i64.wrap (1 + ifn .and .i64 re 1023), 0), tY]) (by kernel_rfl) (by rw [hw]; rfl)) t3 k2 rfl) (pure_done (by intros; kernel_rfl))
    · refine node_clones (sz := 1) (z := .int .i64 0) (bytes := 8) rfl Try.underlying33 info_int1 rfl (by decide) 9 rfl (fun _ => a) xs.length cp (xs.map (Value.int .i64)) (by simp) (fun ids w2 hp hf => (keepX hf).cells) (fun u hu => by obtain ⟨x, _, rfl⟩ := List.mem_map.1 hu; rfl) (by simp only [maxLen]; omega) (by omega) (by intros; kernel_rfl) (by intros; kernel_rfl) (by intros; kernel_rfl) (by kernel_rfl) (by kernel_rfl) (by intros; kernel_rfl) ?_
      intro b1 d1 _
      refine node_PI ⟨[0], [], [], [], []⟩ (fun ids => #[.slice b1 xs.length d1, .slice (some ⟨idAt ids 2, 0, none⟩) 1 1, .slice (some ⟨idAt ids 8, 0, none⟩) 4 4, .bool false]) (.int .i64 0) (by intros; kernel_rfl) (by intros; kernel_rfl) (by kernel_rfl) (by kernel_rfl) (by kernel_rfl) oneNil (fun ids w2 hp hf => chk w2 b1 d1 (idAt ids 1) (idAt ids 2) (idAt ids 8) false [tA x, tX, tB x, tY] 0 (rw_cells hf.x.2) (hf.blkAt 2 rfl) (by kernel_rfl) (hf.blkAt 1 rfl) (by kernel_rfl) (hf.blkAt 8 rfl) (Eq.trans (b := evcs [tA x, tX, ev25 2 (tc x) (1, IntKind.i64.wrap (1 + ifn .and .i64 re 1023), 0), tY]) (by kernel_rfl) (by rw [hw]; rfl)) t3 k2 rfl) (pure_done (by intros; kernel_rfl))
theorem time_args (re : Int) (late : Bool) (a : Option Addr) (cp : Nat) (xs : List Int) (w : World) (_ : I64 re) (H : Ints w a xs) (hl : xs.length * 8 ≤ 140737488351232) :
    Calls Try.prog 6 #[.int .i64 re, .bool late, .slice a xs.length cp] w fun e w' => e = .returned (.bool true) ∧ Below w.heap.size w w' := time_walk re late a cp xs w H hl
end Go.Proofs.Ytbedoemdjlollaa
