/- Part 23 of the texts of a proof about the given program: what the statement's proof needs of them. -/
import Derived.Test.YtbedoemdjlollaaKJudgeChecks22
namespace Go.Proofs.Ytbedoemdjlollaa
open Go Go.ChangeShapes Go.WideShapes Go.ChangeAt Go.RowKit Go.Syn Go.Eng
set_option linter.unusedVariables false
set_option linter.unusedSimpArgs false
set_option maxRecDepth 100000
def p0c : Pc := ⟨⟨0, 0, 0, ⟨0, 0, 0, 0, 0⟩⟩, 0, 0, 0, z16⟩
def plC (p : Pc) : List Value := p.c.cells ++ [.int .i64 p.k, .int .i64 p.re, .int .i64 p.im] ++ stF p.regs
theorem plC_len (p : Pc) : (plC p).length = 27 := rfl
def plcs (ps : List Pc) : List Value := (p0c :: ps).flatMap plC
theorem plcs_len (ps : List Pc) : (plcs ps).length = (ps.length + 1) * 27 := by unfold plcs; rw [flat_len plC_len, List.length_cons]
theorem plcs_snoc (ps : List Pc) (p : Pc) : plcs ps ++ plC p = plcs (ps ++ [p]) := by
  unfold plcs
  rw [← List.cons_append, List.flatMap_append]
  simp
def pcA (ps : List Pc) (q : Nat) : Pc := ((p0c :: ps)[q]?).getD p0c
theorem pcA_get {ps : List Pc} {q : Nat} (h : q ≤ ps.length) : (p0c :: ps)[q]? = some (pcA ps q) := by
  unfold pcA
  obtain ⟨p, hp⟩ : ∃ p, (p0c :: ps)[q]? = some p := ⟨_, List.getElem?_eq_getElem (by rw [List.length_cons]; omega)⟩
  rw [hp]; rfl
theorem pcA_s (ps : List Pc) (q : Nat) : pcA ps (q + 1) = (ps[q]?).getD p0c := rfl
theorem pcA_res (ps : List Pc) (q : Nat) : (pcA ps q).res = rsA ps q := by
  cases q with
  | zero => rfl
  | succ q =>
    rw [pcA_s]
    cases h : ps[q]? with
    | none =>
      show p0c.res = ((ps[q]?).map Pc.res).getD (0, 0, 0)
      rw [h]; rfl
    | some p => rw [rsA_s h]; rfl
theorem pcA_regs (ps : List Pc) (q : Nat) : (pcA ps q).regs = rgA ps q := by
  cases q with
  | zero => rfl
  | succ q =>
    rw [pcA_s]
    cases h : ps[q]? with
    | none => rw [rgA_n h]; rfl
    | some p => rw [rgA_s h]; rfl
section
variable {ps : List Pc} {a : Option Addr} {w : World}
theorem pl_part (h : Cells w a (plcs ps)) {q : Nat} (hq : q ≤ ps.length) (o : Nat) (us : List Value) (hu : ∀ j u, us[j]? = some u → (plC (pcA ps q))[o + j]? = some u) (h0 : us ≠ []) : a.isSome = true ∧ CellsAt w (.pointer (some (((a.getD ⟨0, 0, none⟩).add (q * 27)).add o))) us (fun _ => False) := by
  obtain ⟨h1, h2⟩ := flat_part plC_len h (pcA_get hq) (o := o) us hu h0
  exact ⟨h1, h2 _ id⟩
theorem pl_sess (h : Cells w a (plcs ps)) {q : Nat} (hq : q ≤ ps.length) : a.isSome = true ∧ CellsAt w (.pointer (some (((a.getD ⟨0, 0, none⟩).add (q * 27)).add 0))) [.int .i64 (pcA ps q).c.sess] (fun _ => False) :=
  pl_part h hq 0 _ (fun j u hj => by cases j with | zero => exact hj | succ j => cases hj) (by simp)
theorem pl_seq (h : Cells w a (plcs ps)) {q : Nat} (hq : q ≤ ps.length) : a.isSome = true ∧ CellsAt w (.pointer (some (((a.getD ⟨0, 0, none⟩).add (q * 27)).add 1))) [.int .i64 (pcA ps q).c.seq] (fun _ => False) :=
  pl_part h hq 1 _ (fun j u hj => by cases j with | zero => exact hj | succ j => cases hj) (by simp)
theorem pl_res (h : Cells w a (plcs ps)) {q : Nat} (hq : q ≤ ps.length) : a.isSome = true ∧ CellsAt w (.pointer (some (((a.getD ⟨0, 0, none⟩).add (q * 27)).add 8))) [.int .i64 (rsA ps q).1, .int .i64 (rsA ps q).2.1, .int .i64 (rsA ps q).2.2] (fun _ => False) := by
  rw [← pcA_res]
  exact pl_part h hq 8 _ (fun j u hj => by rcases j with _ | _ | _ | j; exact hj; exact hj; exact hj; cases hj) (by simp)
theorem pl_regs (h : Cells w a (plcs ps)) {q : Nat} (hq : q ≤ ps.length) : a.isSome = true ∧ CellsAt w (.pointer (some (((a.getD ⟨0, 0, none⟩).add (q * 27)).add 11))) (stF (rgA ps q)) (fun _ => False) := by
  rw [← pcA_regs]
  refine pl_part h hq 11 _ (fun j u hj => ?_) (by simp [stF, rgs])
  show ((pcA ps q).c.cells ++ [.int .i64 (pcA ps q).k, .int .i64 (pcA ps q).re, .int .i64 (pcA ps q).im] ++ stF (pcA ps q).regs)[11 + j]? = some u
  rw [List.getElem?_append_right (by simp [CmD.cells])]
  rw [show 11 + j - ((pcA ps q).c.cells ++ [Value.int .i64 (pcA ps q).k, .int .i64 (pcA ps q).re, .int .i64 (pcA ps q).im]).length = j by simp [CmD.cells]]
  exact hj
end
theorem findP_c (x : Ky) (p : Pc) (r : List Pc) : findP x (p :: r) = if p.key = x then 1 else if findP x r = 0 then 0 else findP x r + 1 := rfl
theorem findP_append (x : Ky) (r : List Pc) : ∀ l : List Pc, findP x (l ++ r) = if findP x l ≠ 0 then findP x l else if findP x r = 0 then 0 else findP x r + l.length
  | [] => by
    show findP x r = if (0 : Nat) ≠ 0 then 0 else if findP x r = 0 then 0 else findP x r + 0
    by_cases h : findP x r = 0
    · simp [h]
    · simp [h]
  | p :: l => by
    rw [List.cons_append, findP_c, findP_c, findP_append x r l, List.length_cons]
    by_cases h : p.key = x
    · simp [h]
    · simp only [if_neg h]
      by_cases h2 : findP x l = 0
      · simp only [h2, ne_eq, not_true, if_false, if_true]
        by_cases h3 : findP x r = 0
        · simp [h3]
        · simp only [if_neg h3]
          rw [if_neg (by omega)]; omega
      · simp [h2]
theorem findP_hit {x : Ky} {ps : List Pc} {i : Nat} {p : Pc} (h0 : findP x (ps.take i) = 0) (hi : ps[i]? = some p) (hp : p.key = x) : findP x ps = i + 1 := by
  obtain ⟨q, e⟩ := List.getElem?_eq_some_iff.1 hi
  have hd : ps.take i ++ p :: ps.drop (i + 1) = ps := by
    rw [← e, ← List.drop_eq_getElem_cons q, List.take_append_drop]
  rw [← hd, findP_append, if_neg (fun z => z h0)]
  have : findP x (p :: ps.drop (i + 1)) = 1 := by unfold findP; rw [if_pos hp]
  rw [this, if_neg (by decide), List.length_take]
  omega
theorem findP_miss {x : Ky} {ps : List Pc} {i : Nat} {p : Pc} (h0 : findP x (ps.take i) = 0) (hi : ps[i]? = some p) (hp : p.key ≠ x) : findP x (ps.take (i + 1)) = 0 := by
  rw [List.take_add_one, hi]
  show findP x (ps.take i ++ [p]) = 0
  rw [findP_app, if_neg (fun z => z h0), if_neg hp]
theorem rfind_any (a : Option Addr) (c : Nat) (ps : List Pc) (x y : Int) (w : World) (H : Cells w a (plcs ps)) (hl : ps.length ≤ 4611686018427387904) : Calls Try.prog 28 #[.slice a (ps.length + 1) c, .int .i64 x, .int .i64 y] w (PureAt w (.int .i64 (findP (x, y) ps : Int))) := by
  refine calls_at (tab_ok _) Try.func28 rfl tRFind (ρ := ⟨[x, y], [], [], [ps.length + 1, c], [a]⟩) (ids := []) (hx := HX.nil) rfl (Facts.initP rfl oneNil) ?_
  refine ⟨fun vs hx n => ∃ i : Nat, n = ps.length - i ∧ i ≤ ps.length ∧ findP (x, y) (ps.take i) = 0 ∧ vs = ⟨[((i + 1 : Nat) : Int)], [], [], [], []⟩ ∧ HX.nil = hx, fun ids w2 hp hf => ⟨_, ps.length, ⟨hf.x, hf.sep⟩, 0, rfl, Nat.zero_le _, rfl, by kernel_rfl, rfl⟩, ?_⟩
  rintro vs hx' n hcnt ⟨i, rfl, hi, h0, rfl, rfl⟩
  refine holds_env (ρ' := ⟨[x, y, ((i + 1 : Nat) : Int)], [], [], [ps.length + 1, c], [a]⟩) rfl ?_
  have hwi : IntKind.i64.wrap (((i + 1 : Nat) : Int) + 1) = ((i + 1 + 1 : Nat) : Int) := by rw [wrap_i64 (by omega)]; omega
  refine br_D (p := ((i + 1 : Nat) : Int) < ((ps.length + 1 : Nat) : Int)) (by kernel_rfl) (fun hlt => ?_) (fun hlt => ?_)
  rotate_left
  · refine pure_done fun _ => ?_
    rw [List.take_of_length_le (by omega)] at h0
    rw [h0]; rfl
  have hlt : i < ps.length := by omega
  obtain ⟨p, hp⟩ : ∃ p, ps[i]? = some p := ⟨_, List.getElem?_eq_getElem hlt⟩
  have hpc : pcA ps (i + 1) = p := by rw [pcA_s, hp]; rfl
  obtain ⟨s1, g1⟩ := pl_sess H (q := i + 1) (by omega)
  obtain ⟨_, g2⟩ := pl_seq H (q := i + 1) (by omega)
  rw [hpc] at g1 g2
  have nxt : p.key ≠ (x, y) → ∀ {m : Mem} {ρ : Env} {es : Vec} {S : Stack}, (∀ ids, es.den ρ ids = ⟨[IntKind.i64.wrap (((i + 1 : Nat) : Int) + 1)], [], [], [], []⟩) → (Tree.again 2 es m).holds ⟨Try.prog, w, fun _ => False, PureAt w (.int .i64 (findP (x, y) ps : Int))⟩ ρ [] HX.nil ((2, fun vs' hx'' => ∃ n', n' < ps.length - i ∧ ∃ i : Nat, n' = ps.length - i ∧ i ≤ ps.length ∧ findP (x, y) (ps.take i) = 0 ∧ vs' = ⟨[((i + 1 : Nat) : Int)], [], [], [], []⟩ ∧ HX.nil = hx'') :: S) := fun hne {m ρ es S} hes =>
    again_V ⟨[IntKind.i64.wrap (((i + 1 : Nat) : Int) + 1)], [], [], [], []⟩ rfl hes _ (fun w2 ids hf => ⟨hf.x, hf.sep⟩) ⟨ps.length - (i + 1), by omega, i + 1, rfl, by omega, findP_miss h0 hp hne, by rw [hwi], rfl⟩
  refine need_k (a.isSome = true ∧ (0 : Int) ≤ ((i + 1 : Nat) : Int) ∧ ((i + 1 : Nat) : Int) < ((ps.length + 1 : Nat) : Int)) (by kernel_rfl) ⟨s1, by omega, by omega⟩ ?_
  refine node_ldx ⟨[p.c.sess], [], [], [], []⟩ (.pointer (some (((a.getD ⟨0, 0, none⟩).add ((i + 1) * 27)).add 0))) [.int .i64 p.c.sess] (by intros; kernel_rfl) (by intros; kernel_rfl) g1 ⟨by kernel_rfl, by kernel_rfl⟩ ?_
  refine br_D (p := p.c.sess = x) (by kernel_rfl) (fun h1 => ?_) (fun h1 => nxt (fun e => h1 (congrArg Prod.fst e)) (by intros; kernel_rfl))
  refine need_k (a.isSome = true ∧ (0 : Int) ≤ ((i + 1 : Nat) : Int) ∧ ((i + 1 : Nat) : Int) < ((ps.length + 1 : Nat) : Int)) (by kernel_rfl) ⟨s1, by omega, by omega⟩ ?_
  refine node_ldx ⟨[p.c.seq], [], [], [], []⟩ (.pointer (some (((a.getD ⟨0, 0, none⟩).add ((i + 1) * 27)).add 1))) [.int .i64 p.c.seq] (by intros; kernel_rfl) (by intros; kernel_rfl) g2 ⟨by kernel_rfl, by kernel_rfl⟩ ?_
  refine br_D (p := p.c.seq = y) (by kernel_rfl) (fun h2 => pure_done fun _ => ?_) (fun h2 => nxt (fun e => h2 (congrArg Prod.snd e)) (by intros; kernel_rfl))
  rw [findP_hit h0 hp (Prod.ext h1 h2)]; rfl
def oneVal (O : Nat × Int) : Value := .tuple #[.int .i64 (O.1 : Int), .int .i64 O.2]
set_option maxHeartbeats 2000000 in
theorem rone_any (a : Option Addr) (c : Nat) (ps : List Pc) (e : Ev) (frm : Nat) (loose : Bool) (w : World) (H : Cells w a (plcs ps)) (hps : PsOk ps) (hl : ps.length ≤ 1099511627776) (hfrm : frm ≤ ps.length) : Calls Try.prog 29 #[.slice a (ps.length + 1) c, .agg e.cells.toArray, .int .i64 (frm : Int), .bool loose] w (PureAt w (oneVal (oneV ps e frm loose))) := by
  refine calls_at (tab_ok _) Try.func29 rfl tROne (ρ := ⟨e.is ++ [(frm : Int)], [loose], [], [ps.length + 1, c], [a]⟩) (ids := []) (hx := HX.nil) (by kernel_rfl) (Facts.initP rfl oneNil) ?_
  obtain ⟨O, eO⟩ : ∃ O, O = oneV ps e frm loose := ⟨_, rfl⟩
  rw [← eO]
  unfold oneV at eO
  refine node_P ⟨[(findP e.key ps : Int)], [], [], [], []⟩ #[.slice a (ps.length + 1) c, .int .i64 e.sess, .int .i64 e.seq] (.int .i64 (findP e.key ps : Int)) (by intros; kernel_rfl) (by intros; kernel_rfl) (by kernel_rfl) (by kernel_rfl) (by kernel_rfl) oneNil (fun ids w2 hp hf => rfind_any a c ps e.sess e.seq w2 (cl_stay H fun k hk => hf.chg.block k hk (fun q => q)) (by omega)) ?_
  obtain ⟨F, eF⟩ : ∃ F, F = findP e.key ps := ⟨_, rfl⟩
  have hF : F ≤ ps.length := by rw [eF]; exact findP_le _ _
  obtain ⟨r, er⟩ : ∃ r, r = rsA ps F := ⟨_, rfl⟩
  rw [← eF, ← er] at eO
  rw [← eF]
  obtain ⟨s1, g1⟩ := pl_res H hF
  rw [← er] at g1
  have hreq : ((r.1 == e.rk) && ((r.2.1 == e.rre) && (r.2.2 == e.rim))) = decide (r = e.res) := res_and _ _ _ _ _ _
  have don : ∀ {m : Mem} {ρ : Env} {hx : HX} {S : Stack} {v : SV} (x : Nat × Int), O = x → (∀ ids, v.den ρ ids = oneVal x) → (Tree.done v m).holds ⟨Try.prog, w, fun _ => False, PureAt w (oneVal O)⟩ ρ [] hx S := fun x h1 h2 => pure_done fun ids => by rw [h2 ids, h1]
  refine br_D (p := (F : Int) > (frm : Int)) (by kernel_rfl) (fun hgt => ?G) (fun hgt => ?N)
  case' G =>
    refine need_k (a.isSome = true ∧ (0 : Int) ≤ (F : Int) ∧ (F : Int) < ((ps.length + 1 : Nat) : Int)) (by kernel_rfl) ⟨s1, by omega, by omega⟩ ?_
    refine node_ldx ⟨[r.1, r.2.1, r.2.2], [], [], [], []⟩ (.pointer (some (((a.getD ⟨0, 0, none⟩).add (F * 27)).add 8))) [.int .i64 r.1, .int .i64 r.2.1, .int .i64 r.2.2] (by intros; kernel_rfl) (by intros; kernel_rfl) g1 ⟨by kernel_rfl, by kernel_rfl⟩ ?_
    refine br_B ((r.1 == e.rk) && ((r.2.1 == e.rre) && (r.2.2 == e.rim))) (by kernel_rfl) (fun hq => ?_) (fun hq => ?_)
    · rw [hreq] at hq
      exact don (F, 0) (by rw [eO, if_pos ⟨by omega, by simpa using hq⟩]) (by intros; kernel_rfl)
    have hno : ¬ (frm < F ∧ r = e.res) := fun q => by rw [hreq, decide_eq_true q.2] at hq; cases hq
  case' N => have hno : ¬ (frm < F ∧ r = e.res) := fun q => hgt (by omega)
  all_goals
    rw [if_neg hno] at eO
    refine br_D (p := e.op.kind = 1) (by kernel_rfl) (fun hk => ?_) (fun hk => ?_)
    rotate_left
    · rw [if_neg hk] at eO
      refine br_F (e.op.kind == 1) (by kernel_rfl) (by simpa using hk) ?_
      refine br_D (p := (F : Int) = 0) (by kernel_rfl) (fun h0 => don (0, 63) (by rw [eO, if_pos (.inl (by omega))]) (by intros; kernel_rfl)) (fun h0 => ?_)
      refine need_k (a.isSome = true ∧ (0 : Int) ≤ (F : Int) ∧ (F : Int) < ((ps.length + 1 : Nat) : Int)) (by kernel_rfl) ⟨s1, by omega, by omega⟩ ?_
      refine node_ldx ⟨[r.1, r.2.1, r.2.2], [], [], [], []⟩ (.pointer (some (((a.getD ⟨0, 0, none⟩).add (F * 27)).add 8))) [.int .i64 r.1, .int .i64 r.2.1, .int .i64 r.2.2] (by intros; kernel_rfl) (by intros; kernel_rfl) g1 ⟨by kernel_rfl, by kernel_rfl⟩ ?_
      refine br_B (!((r.1 == e.rk) && ((r.2.1 == e.rre) && (r.2.2 == e.rim)))) (by kernel_rfl) (fun hq => ?_) (fun hq => ?_)
      · rw [hreq] at hq
        exact don (0, 63) (by rw [eO, if_pos (.inr (by simpa using hq))]) (by intros; kernel_rfl)
      · rw [hreq] at hq
        exact don (0, 60) (by rw [eO, if_neg (by simp only [not_or]; exact ⟨by omega, fun q => q (by simpa using hq)⟩)]) (by intros; kernel_rfl)
    rw [if_pos hk] at eO
    refine br_B loose (by kernel_rfl) (fun hlo => don (frm, 0) (by rw [eO, if_pos hlo]) (by intros; kernel_rfl)) (fun hlo => ?_)
    rw [if_neg (by rw [hlo]; decide)] at eO
    refine br_T (e.op.kind == 1) (by kernel_rfl) (by simpa using hk) ?_
    refine ⟨fun vs hx n => ∃ q : Nat, n = ps.length + 1 - q ∧ frm ≤ q ∧ q ≤ ps.length + 1 ∧ srchV ps e.op e.res (ps.length + 1 - q) q = srchV ps e.op e.res (ps.length + 1 - frm) frm ∧ vs = ⟨[(q : Int)], [], [], [], []⟩ ∧ HX.nil = hx, fun ids w2 hp hf => ⟨_, ps.length + 1 - frm, ⟨hf.x, hf.sep⟩, frm, rfl, Nat.le_refl _, by omega, rfl, by kernel_rfl, rfl⟩, ?_⟩
    rintro vs hx n hcnt4 ⟨q, rfl, hq1, hq2, hs, rfl, rfl⟩
    refine br_D (p := (q : Int) < ((ps.length + 1 : Nat) : Int)) (by kernel_rfl) (fun hge => ?_) (fun hge => ?_)
    rotate_left
    · have : ps.length + 1 - q = 0 := by omega
      rw [this] at hs
      rw [← hs] at eO
      exact don (0, 63) (by rw [eO]; rfl) (by intros; kernel_rfl)
    have hq3 : q ≤ ps.length := by omega
    obtain ⟨n3, hn3⟩ : ∃ n3, ps.length + 1 - q = n3 + 1 := ⟨ps.length - q, by omega⟩
    obtain ⟨p, ep⟩ : ∃ p, p = applyM (rgA ps q) e.op := ⟨_, rfl⟩
    rw [hn3, srch_s, ← ep] at hs
    have hrl := rgA_len hps q
    have hrr : stF (rgA ps q) = (rgA ps q).map (Value.int .i64) := by unfold stF; rw [rgs_of hrl]
    have hpl2 : p.1.length = 16 := by rw [ep]; exact (applyM_len _ _).trans hrl
    have hap : ∀ w2, Calls Try.prog 44 #[.agg (stF (rgA ps q)).toArray, .agg e.op.cells.toArray] w2 (PureAt w2 (resV p)) := fun w2 => by rw [ep, hrr]; exact refApply_any _ hrl e.op w2
    have hwq : IntKind.i64.wrap ((q : Int) + 1) = ((q + 1 : Nat) : Int) := by rw [wrap_i64 (by omega)]; omega
    have hpe : ((p.2.1 == e.rk) && ((p.2.2.1 == e.rre) && (p.2.2.2 == e.rim))) = decide (p.2 = e.res) := res_and _ _ _ _ _ _
    obtain ⟨s3, g3⟩ := pl_regs H hq3
    refine ⟨fun vs hx => vs = ⟨rgs p.1 ++ [p.2.1, p.2.2.1, p.2.2.2], [], [], [], []⟩ ∧ HX.nil = hx, ?_, ?_⟩
    rotate_left
    · rintro vs hx hcnt5 ⟨rfl, rfl⟩
      refine br_B ((p.2.1 == e.rk) && ((p.2.2.1 == e.rre) && (p.2.2.2 == e.rim))) (by kernel_rfl) (fun hne => ?_) (fun hne => ?_)
      · rw [hpe] at hne
        rw [if_pos (by simpa using hne)] at hs
        rw [← hs] at eO
        exact don (q, 0) (by rw [eO]) (by intros; kernel_rfl)
      · rw [hpe] at hne
        rw [if_neg (by simpa using hne)] at hs
        exact again_V ⟨[IntKind.i64.wrap ((q : Int) + 1)], [], [], [], []⟩ rfl (by intros; kernel_rfl) _ (fun w2 ids hf => ⟨hf.x, hf.sep⟩) ⟨ps.length + 1 - (q + 1), by omega, q + 1, rfl, by omega, by omega, by rw [← hs]; congr 1; omega, by rw [hwq], rfl⟩
    refine need_k (a.isSome = true ∧ (0 : Int) ≤ (q : Int) ∧ (q : Int) < ((ps.length + 1 : Nat) : Int)) (by kernel_rfl) ⟨s1, by omega, by omega⟩ ?_
    repeat' refine par_i ?_ ?_
  all_goals
    refine node_ldx ⟨rgs (rgA ps q), [], [], [], []⟩ (.pointer (some (((a.getD ⟨0, 0, none⟩).add (q * 27)).add 11))) (stF (rgA ps q)) (by intros; kernel_rfl) (by intros; kernel_rfl) g3 ⟨by kernel_rfl, by kernel_rfl⟩ ?_
    repeat' refine par_i ?_ ?_
  all_goals
    refine node_P ⟨rgs p.1 ++ [p.2.1, p.2.2.1, p.2.2.2], [], [], [], []⟩ #[.agg (stF (rgA ps q)).toArray, .agg e.op.cells.toArray] (resV p) (by intros; kernel_rfl) (fun ids => Eq.trans (b := resV (rgs p.1, p.2)) (by kernel_rfl) (by unfold resV; rw [rgs_of hpl2])) (by kernel_rfl) (by kernel_rfl) (by kernel_rfl) oneNil (fun ids w2 hp hf => hap w2) ?_
    repeat' refine par_i ?_ ?_
  all_goals exact again_V ⟨rgs p.1 ++ [p.2.1, p.2.2.1, p.2.2.2], [], [], [], []⟩ rfl (by intros; kernel_rfl) _ (fun w2 ids hf => ⟨hf.x, hf.sep⟩) ⟨rfl, rfl⟩
end Go.Proofs.Ytbedoemdjlollaa

namespace Go.Proofs.Ytbedoemdjlollaa
open Go Go.ChangeShapes Go.WideShapes Go.ChangeAt Go.RowKit Go.Syn Go.Eng
set_option linter.unusedVariables false
set_option linter.unusedSimpArgs false
set_option maxRecDepth 100000
theorem info_plc : (Try.prog.info? 108).map (fun i => (i.zero, i.size, i.bytes)) = some (some (.agg (plC p0c).toArray), 27, 216) := by kernel_rfl
theorem lit_plc (p : Pc) (w : World) : (Instr.buildSlice 77 1 #[(0, .agg (plC p).toArray)]).run Try.prog w = .ok (.slice (some ⟨w.heap.size, 0, none⟩) 1 1) (w.alloc (.cells (plC p).toArray 108)) := by kernel_rfl
theorem lit_ints0 (w : World) : (Instr.buildSlice 33 0 #[]).run Try.prog w = .ok (.slice (some ⟨w.heap.size, 0, none⟩) 0 0) (w.alloc (.cells ([] : List Value).toArray 3)) := by kernel_rfl
theorem plC_one (p : Pc) : ∀ v ∈ plC p, v.oneCell' = true := fun v hv => by
  unfold plC at hv
  simp only [List.mem_append] at hv
  rcases hv with (hv | hv) | hv
  · exact cmd_one _ v hv
  · simp only [List.mem_cons, List.not_mem_nil, or_false] at hv
    rcases hv with rfl | rfl | rfl <;> rfl
  · obtain ⟨y, _, rfl⟩ := List.mem_map.1 hv; rfl
def prow (a : Option Addr) (c : Nat) (ps : List Pc) : HX := HX.rw 27 108 a (ps.length + 1) c (plcs ps)
theorem prow_some {a : Option Addr} {c : Nat} {ps : List Pc} {w : World} (h : (prow a c ps).X w) : a.isSome = true := row_isS h (fun q => by have := plcs_len ps; rw [q] at this; simp at this)
def RwOwn (W : World) (Z : HX) (a : Option Addr) (c : Nat) : Prop := ∀ k, c ≠ 0 → abk a = some k → W.heap.size ≤ k ∧ ¬ Z.F k
def RpNew (w : World) (R : List Pc × Int) (e : Ending) (w' : World) : Prop := ∃ (a : Option Addr) (n c : Nat), e = .returned (.tuple #[.slice a n c, .int .i64 R.2]) ∧ (R.2 = 0 → n = R.1.length + 1 ∧ (HX.cl a (plcs R.1)).X w' ∧ ∀ k, (HX.cl a (plcs R.1)).F k → w.heap.size ≤ k) ∧ Below w.heap.size w w'
def RpJ (W : World) (hs : List (Vo Pv)) (T : List Pc × Int) (vs : Vals) (hx : HX) (m : Nat) : Prop := ∃ (k : Nat) (I : Im) (a1 : Option Addr) (c1 : Nat) (a2 : Option Addr) (c2 : Nat) (es : List SE) (ps : List Pc) (pa : Option Addr) (pc : Nat), m = hs.length - k ∧ k ≤ hs.length ∧ ImBig I ∧ es.map SE.s = I.tb ∧ PsOk ps ∧ ps.length ≤ 8 * k ∧ playV I ps (vlsOf (hs.drop k)) = T ∧ RwOwn W (imR I a1 a2 es) pa pc ∧ pa.isSome = true ∧
  vs = ⟨(k : Int) :: imI I, [], [], [ps.length + 1, pc, I.mem.length, c1, I.tb.length, c2], [pa, a1, a2]⟩ ∧ (imR I a1 a2 es).and (prow pa pc ps) = hx
def RqJ (W : World) (Z : HX) (n P0 : Nat) (l : List (CmD × AnD)) (T : List Pc) (vs : Vals) (hx : HX) (m : Nat) : Prop := ∃ (j : Nat) (ps : List Pc) (pa : Option Addr) (pc : Nat), m = n - j ∧ j ≤ n ∧ PsOk ps ∧ ps.length ≤ P0 + j ∧ addAll ps (l.drop j) = T ∧ RwOwn W Z pa pc ∧ pa.isSome = true ∧
  vs = ⟨[(j : Int)], [], [], [ps.length + 1, pc], [pa]⟩ ∧ Z.and (prow pa pc ps) = hx
set_option maxHeartbeats 4000000 in
theorem rplay_any (ax : Option Addr) (cx : Nat) (xs : List Int) (ah : Option Addr) (ch : Nat) (hs : List (Vo Pv)) (w : World) (HX0 : Ints w ax xs) (hxl : xs.length * 8 ≤ 140737488351232) (HH : (voX ah hs).X w) (hfit : ∀ x ∈ hs, VlFit x.v.v) (hI : ∀ x ∈ hs, I64 x.s) (hl : hs.length ≤ 1048576) :
    Calls Try.prog 27 #[.slice ax xs.length cx, .slice ah hs.length ch] w (RpNew w (playV (firstI xs) [] (vlsOf hs))) := by
  refine calls_at (tab_ok _) Try.func27 rfl tRPlay (ρ := ⟨[], [], [], [xs.length, cx, hs.length, ch], [ax, ah]⟩) (ids := []) (hx := HX.nil) rfl (Facts.initP rfl oneNil) ?_
  obtain ⟨T, eT⟩ : ∃ T, T = playV (firstI xs) [] (vlsOf hs) := ⟨_, rfl⟩
  rw [← eT]
  have keepV : ∀ {m : Mem} {ρ : Env} {ids : List Nat} {hx : HX} {w2 : World} {R : Ending → World → Prop} {x : Vo Pv}, x ∈ hs → Facts ⟨Try.prog, w, fun _ => False, R⟩ m ρ ids hx w2 → VlAt w2 x.v.v x.v.a1 x.v.a2 := fun hx hf => (hfit _ hx).at_ ((vlX _ _ _).loc _ _ (voX_at HH hfit hx).X fun k hk => hf.chg.block k (vlX_sep (voX_at HH hfit hx).X k hk) (fun q => q))
  refine node_lit (t := 77) (e := 108) (len := 1) (sz := 27) (plcs []) #[(0, .agg (plC p0c).toArray)] (by intros; kernel_rfl) (fun w => lit_plc p0c w) rfl (by unfold maxLen; decide) (by intros; kernel_rfl) (by kernel_rfl) (by kernel_rfl) (by intros; kernel_rfl) ?_
  intro la hla
  refine node_lit (t := 33) (e := 3) (len := 0) (sz := 1) [] #[] (by intros; kernel_rfl) (fun w => lit_ints0 w) rfl (by unfold maxLen; decide) (by intros; kernel_rfl) (by kernel_rfl) (by kernel_rfl) (by intros; kernel_rfl) ?_
  intro lb hlb
  refine node_appends (z := .int .i64 0) (sz := 1) (bytes := 8) (rest := HX.nil.and (HX.rw 27 108 la 1 1 (plcs []))) rfl Try.underlying33 info_int1 rfl (by decide) lb 0 0 [] (fun _ => ax) xs.length cx (xs.map (Value.int .i64)) (by rw [List.length_map, Nat.mul_one]) (fun ids w2 hp hf => hf.x.2) (fun ids w2 hp hf => cl_stay HX0.cells fun k hk => hf.chg.block k hk (fun q => q)) (fun v hv => by obtain ⟨x, _, rfl⟩ := List.mem_map.1 hv; rfl) (fun w2 h => ⟨h.1, fun k hk => .inl hk⟩) (fun k h1 h2 => absurd rfl h1) (fun k h1 h2 => absurd rfl h1) (fun k h1 h2 => absurd rfl h1) (by unfold maxLen; omega) (by omega) (by intros; kernel_rfl) (by intros; kernel_rfl) (by intros; kernel_rfl) (by kernel_rfl) (by kernel_rfl) (by intros; kernel_rfl) ?_
  intro lc c0 _ hdc hwc
  obtain ⟨I0, eI0⟩ : ∃ I, I = firstI xs := ⟨_, rfl⟩
  have hI0b : ImBig I0 := by rw [eI0]; exact firstI_big HX0.fits hxl
  have hI0m : I0.mem = xs := by rw [eI0]; rfl
  have hI0t : I0.tb = [] := by rw [eI0]; rfl
  have hI0i : imI I0 = imI im0 := by rw [eI0]; rfl
  refine ⟨RpJ w hs T, fun ids w2 hp hf => ?_, ?_⟩
  · have hrw : (HX.rw 1 3 lc (0 + xs.length) c0 (I0.mem.map (Value.int .i64))).X w2 := by rw [hI0m]; exact hf.x.2
    have hF : ∀ k, (imR I0 lc none []).F k → c0 ≠ 0 ∧ abk lc = some k := fun k q => by
      rcases q with q | q | ⟨e, he, _⟩
      · exact (rw_cl hrw).2 k q
      · exact absurd rfl q.1
      · cases he
    refine ⟨(imR I0 lc none []).and (prow la 1 []), hs.length, ⟨⟨⟨rw_cells hrw, ⟨cl_nil _ _, fun e he => by cases he⟩⟩, hf.x.1.2⟩, fun k hk => hf.sep k (hk.elim (fun q => .inr (hF k q)) (fun q => .inl (.inr q)))⟩, 0, I0, lc, c0, none, 0, [], [], la, 1, rfl, Nat.zero_le _, hI0b, by rw [hI0t]; rfl, (fun p hp => by cases hp), Nat.zero_le _, by rw [eT, eI0]; rfl, fun k h1 h2 => ⟨(hla k h1 h2).1, fun q => hdc k (hF k q).1 (hF k q).2 (.inr ⟨h1, h2⟩)⟩, prow_some (show (prow la 1 []).X w2 from hf.x.1.2), ?_, rfl⟩
    refine Eq.trans (b := ⟨0 :: imI im0, [], [], [1, 1, 0 + xs.length, c0, 0, 0], [la, lc, none]⟩) (by kernel_rfl) ?_
    rw [Nat.zero_add, hI0i, hI0m, hI0t]
    try rfl
  rintro vs hx' n hcnt ⟨k, I, a1, c1, a2, c2, es, ps, pa, pc, rfl, hk, hB, hes, hps, hpl, hT, hown, hpa, rfl, rfl⟩
  have hesl : es.length = I.tb.length := by rw [← hes, List.length_map]
  have btb := hB.tb
  have bmem := hB.len
  refine holds_env (ρ' := ⟨(k : Int) :: imI I, [], [], [xs.length, cx, hs.length, ch, 1, 1, 0, 0, 0 + xs.length, c0, ps.length + 1, pc, I.mem.length, c1, I.tb.length, c2], [ax, ah, la, lb, lc, pa, a1, a2]⟩) (by kernel_rfl) ?_
  refine br_D (p := (k : Int) < (hs.length : Int)) (by kernel_rfl) (fun hlt => ?B) (fun hlt => ?E)
  case E =>
    have hke : k = hs.length := by omega
    have hT2 : T = (ps, 0) := by rw [← hT, hke, List.drop_length]; rfl
    rw [hT2]
    intro ids w2 hp hf
    exact ⟨pa, ps.length + 1, pc, by kernel_rfl, fun _ => ⟨rfl, rw_cells hf.x.2, fun j hj => (hown j ((rw_cl hf.x.2).2 j hj).1 ((rw_cl hf.x.2).2 j hj).2).1⟩, hf.chg.below⟩
  have hlt : k < hs.length := by omega
  obtain ⟨x, hx⟩ : ∃ b, hs[k]? = some b := ⟨_, List.getElem?_eq_getElem hlt⟩
  have hxm := List.mem_of_getElem? hx
  have hxv := hfit x hxm
  obtain ⟨R, eR⟩ : ∃ R, R = execV I x.s x.v.v := ⟨_, rfl⟩
  have hstep : T = if R.e ≠ 0 then (ps, R.e) else playV R.i (addAll ps (x.v.v.cs.zip R.an)) (vlsOf (hs.drop (k + 1))) := by rw [← hT, drop_vo hx, eR]; rfl
  obtain ⟨bR, bRa, bRo⟩ := exec_big hB x.s x.v.v hxv.n
  rw [← eR] at bR bRa bRo
  have hz0 : R.e = 0 → valE x.v.v = 0 ∧ R.an.length = x.v.v.cs.length := fun h => ⟨(exec_zero (by rw [← eR]; exact h)).2.2.2.2, by rw [eR]; exact exec_an (by rw [← eR]; exact h)⟩
  have hwk : IntKind.i64.wrap ((k : Int) + 1) = ((k + 1 : Nat) : Int) := by rw [wrap_i64 (by omega)]; omega
  obtain ⟨s1, g1⟩ := vo_part HH hx 0 [.int .i64 x.s] (fun j u hj => by cases j with | zero => exact hj | succ j => cases hj) (by simp)
  obtain ⟨_, g2⟩ := vo_part HH hx 3 x.v.cells (fun j u hj => by rcases j with _ | _ | _ | j; exact hj; exact hj; exact hj; cases hj) (by simp [Pv.cells])
  obtain ⟨_, g3⟩ := vo_part HH hx 4 [.slice x.v.a1 x.v.v.cs.length x.v.c1] (fun j u hj => by cases j with | zero => exact hj | succ j => cases hj) (by simp)
  have hvl2 := hxv.l2
  refine ⟨fun vs hx => ∃ q1 r1 q2 r2 es2 oa oc Z, es2.map SE.s = R.i.tb ∧ (R.an ≠ [] → oa.isSome = true) ∧ RwOwn w Z pa pc ∧ (∀ w2, Z.X w2 → (imR R.i q1 q2 es2).X w2 ∧ (∀ j, (imR R.i q1 q2 es2).F j → Z.F j) ∧ Cells w2 oa (ancells R.an)) ∧ vs = ⟨R.e :: imI R.i, [], [], [R.an.length, oc, R.i.mem.length, r1, R.i.tb.length, r2], [oa, q1, q2]⟩ ∧ Z.and (prow pa pc ps) = hx, ?_, ?_⟩
  · refine need_k (ah.isSome = true ∧ (0 : Int) ≤ (k : Int) ∧ (k : Int) < (hs.length : Int)) (by kernel_rfl) ⟨s1, by omega, by omega⟩ ?_
    refine need_k (ah.isSome = true ∧ (0 : Int) ≤ (k : Int) ∧ (k : Int) < (hs.length : Int)) (by kernel_rfl) ⟨s1, by omega, by omega⟩ ?_
    repeat' refine par_i ?_ ?_
    all_goals
      first
        | refine node_ldx (cs := [_]) ⟨[x.s], [], [], [], []⟩ (.pointer (some (((ah.getD ⟨0, 0, none⟩).add (k * 6)).add 0))) [.int .i64 x.s] (by intros; kernel_rfl) (by intros; kernel_rfl) g1 ⟨by kernel_rfl, by kernel_rfl⟩ ?_
        | refine node_ldx (cs := [_, _, _]) ⟨[x.v.v.k], [], [], [x.v.v.cs.length, x.v.c1, x.v.v.ns.length, x.v.c2], [x.v.a1, x.v.a2]⟩ (.pointer (some (((ah.getD ⟨0, 0, none⟩).add (k * 6)).add 3))) x.v.cells (by intros; kernel_rfl) (by intros; kernel_rfl) g2 ⟨by kernel_rfl, by kernel_rfl⟩ ?_
      repeat' refine par_i ?_ ?_
    all_goals
      first
        | refine node_ldx (cs := [_]) ⟨[x.s], [], [], [], []⟩ (.pointer (some (((ah.getD ⟨0, 0, none⟩).add (k * 6)).add 0))) [.int .i64 x.s] (by intros; kernel_rfl) (by intros; kernel_rfl) g1 ⟨by kernel_rfl, by kernel_rfl⟩ ?_
        | refine node_ldx (cs := [_, _, _]) ⟨[x.v.v.k], [], [], [x.v.v.cs.length, x.v.c1, x.v.v.ns.length, x.v.c2], [x.v.a1, x.v.a2]⟩ (.pointer (some (((ah.getD ⟨0, 0, none⟩).add (k * 6)).add 3))) x.v.cells (by intros; kernel_rfl) (by intros; kernel_rfl) g2 ⟨by kernel_rfl, by kernel_rfl⟩ ?_
      repeat' refine par_i ?_ ?_
    all_goals
      refine node_ex (R := R) (fun _ => #[imV I a1 c1 a2 c2, .int .i64 x.s, x.v.val]) (by intros; kernel_rfl) (fun ids w2 hp hf => eR ▸ rexec_any I a1 c1 a2 c2 es x.s x.v.v x.v.a1 x.v.c1 x.v.a2 x.v.c2 w2 (hB.at_ hes hf.x.1) (keepV hxm hf) (hI x hxm) (by omega)) (by intros; kernel_rfl) (by kernel_rfl) (by kernel_rfl) (by intros; kernel_rfl) ?_
      intro q1 r1 q2 r2 es2 oa oc hm2 hdj2 hsm2 hso2 hn2
      refine holds_eq (HX.and_right_comm _ _ _) ?_
      exact again_V ⟨R.e :: imI R.i, [], [], [R.an.length, oc, R.i.mem.length, r1, R.i.tb.length, r2], [oa, q1, q2]⟩ rfl (by intros; kernel_rfl) _ (fun w2 ids hf => ⟨hf.x, hf.sep⟩) ⟨q1, r1, q2, r2, es2, oa, oc, (imR I a1 a2 es).and (exX R q1 q2 r2 es2 oa), hm2, hso2, fun j h1 h2 => ⟨(hown j h1 h2).1, fun q => q.elim (hown j h1 h2).2 fun z => (hn2 j z).2 (.inr ⟨h1, h2⟩)⟩, fun w2 h => ⟨(imR_of h.2.1).1, fun j hj => .inr (.inl ((imR_of h.2.1).2 j hj)), h.2.2⟩, rfl, rfl⟩
  rintro vs hx hcnt2 ⟨q1, r1, q2, r2, es2, oa, oc, Z, hm2, hso2, hown2, hZ, rfl, rfl⟩
  refine holds_env (ρ' := ⟨(k : Int) :: imI I ++ (R.e :: imI R.i), [], [], [xs.length, cx, hs.length, ch, 1, 1, 0, 0, 0 + xs.length, c0, ps.length + 1, pc, I.mem.length, c1, I.tb.length, c2] ++ [R.an.length, oc, R.i.mem.length, r1, R.i.tb.length, r2], [ax, ah, la, lb, lc, pa, a1, a2] ++ [oa, q1, q2]⟩) (by kernel_rfl) ?_
  refine br_B (R.e != 0) (by kernel_rfl) (fun he => ?_) (fun he => ?_)
  · have he2 : R.e ≠ 0 := by simpa using he
    rw [if_pos he2] at hstep
    rw [hstep]
    intro ids w2 hp hf
    exact ⟨none, 0, 0, by kernel_rfl, fun q => absurd q he2, hf.chg.below⟩
  have he : R.e = 0 := by simpa using he
  obtain ⟨hv0, hal⟩ := hz0 he
  rw [if_neg (fun q => q he)] at hstep
  have hc8 : x.v.v.cs.length ≤ 8 := by
    rcases valE_zero hv0 with q | q | q
    · rw [q.2.1]; decide
    · rw [q.2.1]; decide
    · exact q.2.1
  obtain ⟨l, el⟩ : ∃ l, l = x.v.v.cs.zip R.an := ⟨_, rfl⟩
  have hll : l.length = x.v.v.cs.length := by rw [el, List.length_zip, hal, Nat.min_self]
  rw [← el] at hstep
  refine ⟨RqJ w Z x.v.v.cs.length ps.length l (addAll ps l), fun ids w2 hp hf => ⟨_, x.v.v.cs.length, ⟨hf.x, hf.sep⟩, 0, ps, pa, pc, rfl, Nat.zero_le _, hps, Nat.le_refl _, rfl, hown2, hpa, by kernel_rfl, rfl⟩, ?_⟩
  rintro vs hx' n2 hcnt3 ⟨j, ps2, pb, pd, rfl, hj, hps2, hpl2, hT2, hown3, hpb, rfl, rfl⟩
  refine holds_env (ρ' := ⟨(k : Int) :: imI I ++ (R.e :: imI R.i) ++ [(j : Int)], [], [], [xs.length, cx, hs.length, ch, 1, 1, 0, 0, 0 + xs.length, c0, ps.length + 1, pc, I.mem.length, c1, I.tb.length, c2] ++ [R.an.length, oc, R.i.mem.length, r1, R.i.tb.length, r2] ++ [ps2.length + 1, pd], [ax, ah, la, lb, lc, pa, a1, a2] ++ [oa, q1, q2] ++ [pb]⟩) (by kernel_rfl) ?_
  have hwj : IntKind.i64.wrap ((j : Int) + 1) = ((j + 1 : Nat) : Int) := by rw [wrap_i64 (by omega)]; omega
  refine br_D (p := (j : Int) < (R.an.length : Int)) (by kernel_rfl) (fun hjl => ?B2) (fun hjl => ?E2)
  case E2 =>
    have hje : j = l.length := by omega
    have hT3 : ps2 = addAll ps l := by rw [← hT2, hje, List.drop_length]; rfl
    rw [← hT3] at hstep
    exact again_W ⟨IntKind.i64.wrap ((k : Int) + 1) :: imI R.i, [], [], [ps2.length + 1, pd, R.i.mem.length, r1, R.i.tb.length, r2], [pb, q1, q2]⟩ rfl (by intros; kernel_rfl) ((imR R.i q1 q2 es2).and (prow pb pd ps2)) (fun w2 ids hf => ⟨⟨⟨(hZ w2 hf.x.1).1, hf.x.2⟩, fun j hj => hf.sep j (hj.elim (fun z => .inl ((hZ w2 hf.x.1).2.1 j z)) .inr)⟩, hs.length - (k + 1), by omega, k + 1, R.i, q1, r1, q2, r2, es2, ps2, pb, pd, rfl, by omega, bR, hm2, hps2, by omega, hstep.symm, fun j h1 h2 => ⟨(hown3 j h1 h2).1, fun q => (hown3 j h1 h2).2 ((hZ w2 hf.x.1).2.1 j q)⟩, hpb, by rw [hwk], rfl⟩)
  have hjl : j < x.v.v.cs.length := by omega
  obtain ⟨c, hc⟩ : ∃ c, x.v.v.cs[j]? = some c := ⟨_, List.getElem?_eq_getElem hjl⟩
  obtain ⟨a, ha⟩ : ∃ a, R.an[j]? = some a := ⟨_, List.getElem?_eq_getElem (by omega)⟩
  have hlj : l[j]? = some (c, a) := by rw [el]; exact List.getElem?_zip_eq_some.2 ⟨hc, ha⟩
  have hce := c_elt (voX_at HH hfit hxm).c hc
  have hoa : oa.isSome = true := hso2 (fun q => by rw [q] at ha; simp at ha)
  refine need_k (ah.isSome = true ∧ (0 : Int) ≤ (k : Int) ∧ (k : Int) < (hs.length : Int)) (by kernel_rfl) ⟨s1, by omega, by omega⟩ ?_
  refine node_ldx ⟨[], [], [], [x.v.v.cs.length, x.v.c1], [x.v.a1]⟩ (.pointer (some (((ah.getD ⟨0, 0, none⟩).add (k * 6)).add 4))) [.slice x.v.a1 x.v.v.cs.length x.v.c1] (by intros; kernel_rfl) (by intros; kernel_rfl) g3 ⟨by kernel_rfl, by kernel_rfl⟩ ?_
  refine need_k (x.v.a1.isSome = true ∧ (0 : Int) ≤ (j : Int) ∧ (j : Int) < (x.v.v.cs.length : Int)) (by kernel_rfl) ⟨hce.1, by omega, by omega⟩ ?_
  refine node_ldx ⟨c.is, [], [], [], []⟩ (.pointer (some (((x.v.a1.getD ⟨0, 0, none⟩).add (j * 8)).add 0))) c.cells (by intros; kernel_rfl) (by intros; kernel_rfl) (hce.2 _ (fun q => q)) ⟨by kernel_rfl, by kernel_rfl⟩ ?_
  refine need_k (oa.isSome = true ∧ (0 : Int) ≤ (j : Int) ∧ (j : Int) < (R.an.length : Int)) (by kernel_rfl) ⟨hoa, by omega, by omega⟩ ?_
  refine node_ldk ⟨[a.k], [], [], [], []⟩ (fun _ => .pointer (some (((oa.getD ⟨0, 0, none⟩).add (j * 5)).add 2))) [.int .i64 a.k] (by intros; kernel_rfl) (by intros; kernel_rfl) (fun ids w2 hp hf => (flat_part an_len (hZ w2 hf.x.1).2.2 ha (o := 2) [.int .i64 a.k] (fun j u hj => by cases j with | zero => exact hj | succ j => cases hj) (by simp)).2 _ (fun q => q)) (by kernel_rfl) oneNil ?_
  have skip : addP ps2 (c, a) = ps2 → addAll ps2 (l.drop (j + 1)) = addAll ps l := fun h => by rw [← hT2, addAll_step ps2 hlj, h]
  have nxt : addP ps2 (c, a) = ps2 → ∀ {m : Mem} {ρ : Env} {es : Vec} {S : Stack}, (∀ ids, es.den ρ ids = ⟨[IntKind.i64.wrap ((j : Int) + 1)], [], [], [ps2.length + 1, pd], [pb]⟩) → lkup 11 S = some (fun vs' hx'' => ∃ n', n' < x.v.v.cs.length - j ∧ RqJ w Z x.v.v.cs.length ps.length l (addAll ps l) vs' hx'' n') → (Tree.again 11 es m).holds ⟨Try.prog, w, fun _ => False, RpNew w T⟩ ρ [] (Z.and (prow pb pd ps2)) S := fun hne {m ρ es S} hes hS =>
    again_V ⟨[IntKind.i64.wrap ((j : Int) + 1)], [], [], [ps2.length + 1, pd], [pb]⟩ hS hes _ (fun w2 ids hf => ⟨hf.x, hf.sep⟩) ⟨x.v.v.cs.length - (j + 1), by omega, j + 1, ps2, pb, pd, rfl, by omega, hps2, by omega, skip hne, hown3, hpb, by rw [hwj], rfl⟩
  refine br_D (p := a.k > 3) (by kernel_rfl) (fun hk3 => nxt (by unfold addP; rw [if_pos (.inr hk3)]) (by intros; kernel_rfl) rfl) (fun hk3 => ?_)
  refine node_PI ⟨[(findP (c.sess, c.seq) ps2 : Int)], [], [], [], []⟩ (fun _ => #[.slice pb (ps2.length + 1) pd, .int .i64 c.sess, .int .i64 c.seq]) (.int .i64 (findP (c.sess, c.seq) ps2 : Int)) (by intros; kernel_rfl) (by intros; kernel_rfl) (by kernel_rfl) (by kernel_rfl) (by kernel_rfl) oneNil (fun ids w2 hp hf => rfind_any pb pd ps2 c.sess c.seq w2 (rw_cells hf.x.2) (by omega)) ?_
  refine br_D (p := (findP (c.sess, c.seq) ps2 : Int) > 0) (by kernel_rfl) (fun hf => nxt (by unfold addP; rw [if_pos (.inl (by show findP (c.sess, c.seq) ps2 ≠ 0; omega))]) (by intros; kernel_rfl) rfl) (fun hf => ?_)
  have hf0 : findP (c.sess, c.seq) ps2 = 0 := by omega
  obtain ⟨p, ep⟩ : ∃ p, p = applyM (rgA ps2 ps2.length) c.op := ⟨_, rfl⟩
  have hrl := rgA_len hps2 ps2.length
  have hpl3 : p.1.length = 16 := by rw [ep]; exact (applyM_len _ _).trans hrl
  have hrr : (stF (rgA ps2 ps2.length)) = (rgA ps2 ps2.length).map (Value.int .i64) := by unfold stF; rw [rgs_of hrl]
  have hap : ∀ w2, Calls Try.prog 44 #[.agg (stF (rgA ps2 ps2.length)).toArray, .agg c.op.cells.toArray] w2 (PureAt w2 (resV p)) := fun w2 => by rw [ep, hrr]; exact refApply_any _ hrl c.op w2
  have hw1 : IntKind.i64.wrap (((ps2.length + 1 : Nat) : Int) - 1) = ((ps2.length : Nat) : Int) := by rw [wrap_i64 (by omega)]; omega
  refine ⟨fun vs hx => vs = ⟨rgs p.1 ++ [p.2.1, p.2.2.1, p.2.2.2], [], [], [], []⟩ ∧ Z.and (prow pb pd ps2) = hx, ?_, ?_⟩
  · refine need_k (pb.isSome = true ∧ (0 : Int) ≤ IntKind.i64.wrap (((ps2.length + 1 : Nat) : Int) - 1) ∧ IntKind.i64.wrap (((ps2.length + 1 : Nat) : Int) - 1) < ((ps2.length + 1 : Nat) : Int)) (by kernel_rfl) ⟨hpb, by rw [hw1]; omega, by rw [hw1]; omega⟩ ?_
    repeat' refine par_i ?_ ?_
    all_goals
      refine node_ldk ⟨rgs (rgA ps2 ps2.length), [], [], [], []⟩ (fun _ => .pointer (some (((pb.getD ⟨0, 0, none⟩).add ((IntKind.i64.wrap (((ps2.length + 1 : Nat) : Int) - 1)).toNat * 27)).add 11))) (stF (rgA ps2 ps2.length)) (by intros; kernel_rfl) (by intros; kernel_rfl) (fun ids w2 hp hf => by rw [hw1]; exact (pl_regs (rw_cells hf.x.2) (Nat.le_refl _)).2) (by kernel_rfl) oneNil ?_
      repeat' refine par_i ?_ ?_
    all_goals
      refine node_P ⟨rgs p.1 ++ [p.2.1, p.2.2.1, p.2.2.2], [], [], [], []⟩ #[.agg (stF (rgA ps2 ps2.length)).toArray, .agg c.op.cells.toArray] (resV p) (by intros; kernel_rfl) (fun ids => Eq.trans (b := resV (rgs p.1, p.2)) (by kernel_rfl) (by unfold resV; rw [rgs_of hpl3])) (by kernel_rfl) (by kernel_rfl) (by kernel_rfl) oneNil (fun ids w2 hp hf => hap w2) ?_
      repeat' refine par_i ?_ ?_
    all_goals exact again_V ⟨rgs p.1 ++ [p.2.1, p.2.2.1, p.2.2.2], [], [], [], []⟩ rfl (by intros; kernel_rfl) _ (fun w2 ids hf => ⟨hf.x, hf.sep⟩) ⟨rfl, rfl⟩
  rintro vs hx hcnt4 ⟨rfl, rfl⟩
  obtain ⟨z, ez⟩ : ∃ z : Pc, z = ⟨c, a.k, a.re, a.im, p.1⟩ := ⟨_, rfl⟩
  have hz : addP ps2 (c, a) = ps2 ++ [z] := by
    unfold addP
    rw [if_neg (by simp only [not_or, ne_eq, Classical.not_not]; exact ⟨hf0, hk3⟩), ez, ep]
  have hl2 : (ps2 ++ [z]).length = ps2.length + 1 := by simp
  have hT3 : addAll (ps2 ++ [z]) (l.drop (j + 1)) = addAll ps l := by rw [← hz, ← hT2]; exact (addAll_step ps2 hlj).symm
  have hps3 : PsOk (ps2 ++ [z]) := by rw [← hz]; exact addP_ok hps2 _
  refine holds_env (ρ' := ⟨(k : Int) :: imI I ++ (R.e :: imI R.i) ++ [(j : Int)] ++ c.is ++ [a.k, (findP (c.sess, c.seq) ps2 : Int)] ++ rgs p.1 ++ [p.2.1, p.2.2.1, p.2.2.2], [], [], [xs.length, cx, hs.length, ch, 1, 1, 0, 0, 0 + xs.length, c0, ps.length + 1, pc, I.mem.length, c1, I.tb.length, c2] ++ [R.an.length, oc, R.i.mem.length, r1, R.i.tb.length, r2] ++ [ps2.length + 1, pd, x.v.v.cs.length, x.v.c1], [ax, ah, la, lb, lc, pa, a1, a2] ++ [oa, q1, q2] ++ [pb, x.v.a1]⟩) (by kernel_rfl) ?_
  refine need_k (oa.isSome = true ∧ (0 : Int) ≤ (j : Int) ∧ (j : Int) < (R.an.length : Int)) (by kernel_rfl) ⟨hoa, by omega, by omega⟩ ?_
  refine node_ldk ⟨[a.k, a.re, a.im], [], [], [], []⟩ (fun _ => .pointer (some (((oa.getD ⟨0, 0, none⟩).add (j * 5)).add 2))) [.int .i64 a.k, .int .i64 a.re, .int .i64 a.im] (by intros; kernel_rfl) (by intros; kernel_rfl) (fun ids w2 hp hf => (flat_part an_len (hZ w2 hf.x.1).2.2 ha (o := 2) [.int .i64 a.k, .int .i64 a.re, .int .i64 a.im] (fun j u hj => by rcases j with _ | _ | _ | j; exact hj; exact hj; exact hj; cases hj) (by simp)).2 _ (fun q => q)) (by kernel_rfl) oneNil ?_
  refine node_lit (t := 77) (e := 108) (len := 1) (sz := 27) (plC z) #[(0, .agg (plC z).toArray)] (fun ids => by rw [ez]; kernel_rfl) (fun w => lit_plc z w) rfl (by unfold maxLen; decide) (by intros; kernel_rfl) (by kernel_rfl) (by kernel_rfl) (by intros; kernel_rfl) ?_
  intro ld hld
  refine node_appends (e := 108) (sz := 27) (bytes := 216) (rest := Z) rfl (by kernel_rfl) info_plc rfl (by decide) pb (ps2.length + 1) pd (plcs ps2) (fun _ => ld) 1 1 (plC z) rfl (fun ids w2 hp hf => hf.x.1.2) (fun ids w2 hp hf => rw_cells hf.x.2) (plC_one z) (fun w2 hx => ⟨hx.1.1, fun q hq => .inl (.inl hq)⟩) (fun q h1 h2 => .inl (.inr ⟨h1, h2⟩)) (fun q h1 h2 => (hown3 q h1 h2).2) (fun q h1 h2 => .inl (hown3 q h1 h2).1) (by unfold maxLen; omega) (by omega) (by intros; kernel_rfl) (by intros; kernel_rfl) (by intros; kernel_rfl) (by kernel_rfl) (by kernel_rfl) (by intros; kernel_rfl) ?_
  intro pe pf _ hdis hwh
  have e1 : HX.rw 27 108 pe (ps2.length + 1 + 1) pf (plcs ps2 ++ plC z) = prow pe pf (ps2 ++ [z]) := by unfold prow; rw [plcs_snoc, hl2]
  refine holds_eq (congrArg _ e1) ?_
  exact again_W ⟨[IntKind.i64.wrap ((j : Int) + 1)], [], [], [ps2.length + 1 + 1, pf], [pe]⟩ rfl (by intros; kernel_rfl) _ (fun w2 ids hf => ⟨⟨hf.x, hf.sep⟩, x.v.v.cs.length - (j + 1), by omega, j + 1, ps2 ++ [z], pe, pf, rfl, by omega, hps3, by rw [hl2]; omega, hT3, fun q h1 h2 => ⟨by
    rcases hwh q h1 h2 with ⟨y1, y2⟩ | y
    · exact (hown3 q y1 y2).1
    · exact y.1, hdis q h1 h2⟩, prow_some hf.x.2, by rw [hwj, hl2], rfl⟩)
end Go.Proofs.Ytbedoemdjlollaa

namespace Go.Proofs.Ytbedoemdjlollaa
open Go Go.ChangeShapes Go.WideShapes Go.ChangeAt Go.RowKit Go.Syn Go.Eng
set_option linter.unusedVariables false
set_option linter.unusedSimpArgs false
set_option maxRecDepth 100000
def lowI (o : Option Nat) : Int := match o with | some d => (d : Int) | none => -1
def plX (R : List Pc × Int) (a : Option Addr) : HX := if R.2 = 0 then HX.cl a (plcs R.1) else HX.nil
section
variable {C : Cfg} {ρ : Env} {pre : List Nat} {hx : HX} {L : Stack} {m m' : Mem} {args : List SV} {r : SV} {t : Tree}
theorem node_rplay {f : Nat} {R : List Pc × Int} (AS : List Nat → Array Value) (hargs : ∀ ids, (args.map (SV.den ρ ids)).toArray = AS ids) (hcall : ∀ ids w, pre <+: ids → Facts C m ρ ids hx w → Calls C.P f (AS ids) w (RpNew w R))
    (hr : ∀ a n c ids, r.den (ρ.add ⟨[R.2], [], [], [n, c], [a]⟩) ids = .tuple #[.slice a n c, .int .i64 R.2]) (hhp : m'.hp = m.hp) (hfit : hpFits m.c m.hp.length m.hp = true) (hc : ∀ a n c, (ρ.add ⟨[R.2], [], [], [n, c], [a]⟩).cnt = m'.c)
    (h : ∀ a n c, (R.2 = 0 → n = R.1.length + 1) → (∀ k, (plX R a).F k → C.W.heap.size ≤ k ∧ ¬ hx.F k) → t.holds C (ρ.add ⟨[R.2], [], [], [n, c], [a]⟩) pre (hx.and (plX R a)) L) : (Tree.call f args m r m' t).holds C ρ pre hx L := by
  refine node_out AS (fun u hy => ∃ a n c, (R.2 = 0 → n = R.1.length + 1) ∧ u = ⟨[R.2], [], [], [n, c], [a]⟩ ∧ hy = plX R a) hargs (fun ids w hp hf => ?_) hhp hfit ?_ ?_
  · refine (hcall ids w hp hf).mono ?_
    rintro e w' ⟨a, n, c, rfl, h1, hb⟩
    refine ⟨_, _, ⟨a, n, c, fun q => (h1 q).1, rfl, rfl⟩, by rw [hr], ?_, ?_, hb⟩
    · unfold plX
      by_cases q : R.2 = 0
      · rw [if_pos q]; exact (h1 q).2.1
      · rw [if_neg q]; trivial
    · intro k hk
      unfold plX at hk
      by_cases q : R.2 = 0
      · rw [if_pos q] at hk; exact ⟨(h1 q).2.2 k hk, cl_sep (h1 q).2.1 k hk⟩
      · rw [if_neg q] at hk; exact hk.elim
  · rintro u hy ⟨a, n, c, _, rfl, rfl⟩
    exact ⟨hc _ _ _, oneNil⟩
  · rintro u hy ⟨a, n, c, h1, rfl, rfl⟩ hfr
    exact h a n c h1 hfr
end
theorem spl_set {xs : List Int} {p : Nat} {x : Int} (h : p < xs.length) : spl (xs.map (Value.int .i64)) p [.int .i64 x] = (xs.set p x).map (Value.int .i64) := by
  unfold spl
  rw [List.map_set, List.set_eq_take_append_cons_drop, if_pos (by rw [List.length_map]; exact h)]
  simp
theorem ints_flat (xs : List Int) : xs.flatMap (fun x : Int => [Value.int .i64 x]) = xs.map (Value.int .i64) := by
  induction xs with
  | nil => rfl
  | cons y r ih => rw [List.flatMap_cons, ih]; rfl
theorem ints_elt {w : World} {a : Option Addr} {xs : List Int} {i : Nat} {x : Int} (h : Cells w a (xs.map (Value.int .i64))) (hi : xs[i]? = some x) : a.isSome = true ∧ CellsAt w (.pointer (some (((a.getD ⟨0, 0, none⟩).add (i * 1)).add 0))) [.int .i64 x] (fun _ => False) := by
  obtain ⟨h1, h2⟩ := flat_part (f := fun x : Int => [Value.int .i64 x]) (fun _ => rfl) (es := xs) (by rw [ints_flat]; exact h) hi (o := 0) [.int .i64 x] (fun j u hj => by rw [Nat.zero_add]; exact hj) (by simp)
  exact ⟨h1, h2 _ id⟩
theorem lowOf_mem {x : Ky} : ∀ {l : List (Ev × Nat)} {d : Nat}, lowOf x l = some d → ∃ p ∈ l, p.2 = d
  | [], d, h => by cases h
  | p :: r, d, h => by
    unfold lowOf at h
    split at h
    · rename_i d2 h2
      cases h
      obtain ⟨q, hq, e⟩ := lowOf_mem h2
      exact ⟨q, List.mem_cons_of_mem _ hq, e⟩
    · split at h
      · cases h; exact ⟨p, List.mem_cons_self, rfl⟩
      · cases h
theorem lowOf_take {x : Ky} {l : List (Ev × Nat)} {j : Nat} {p : Ev × Nat} (h : l[j]? = some p) : lowOf x (l.take (j + 1)) = if p.1.k = 1 ∧ p.1.key = x then some p.2 else lowOf x (l.take j) := by
  have e : l.take (j + 1) = l.take j ++ [p] := by rw [List.take_add_one, h]; rfl
  rw [e, lowOf_app]
def CkR (evs : List Ev) (loose : Bool) (ps : List Pc) (B : HX) (a : Option Addr) (E : Int) (vs : Vals) (hx : HX) (n : Nat) : Prop := ∃ (i : Nat) (seen : List (Ev × Nat)) (done : Nat) (L : List Int), n = evs.length - i ∧ i ≤ evs.length ∧ seen.length = i ∧ L.length = evs.length ∧ (∀ (j : Nat) (p : Ev × Nat), seen[j]? = some p → evs[j]? = some p.1 ∧ L[j]? = some ((p.2 : Nat) : Int) ∧ p.2 ≤ ps.length) ∧ done ≤ ps.length ∧ chkV ps loose seen done (evs.drop i) = E ∧
  vs = ⟨[(i : Int), (done : Int)], [], [], [], []⟩ ∧ B.and (HX.rw 1 3 a evs.length evs.length (L.map (Value.int .i64))) = hx
set_option maxHeartbeats 4000000 in
theorem rcheck25_any (ax : Option Addr) (cx : Nat) (xs : List Int) (ah : Option Addr) (ch : Nat) (hs : List (Vo Pv)) (ae : Option Addr) (ce : Nat) (evs : List Ev) (loose : Bool) (w : World) (HX0 : Ints w ax xs) (hxl : xs.length * 8 ≤ 140737488351232) (HH : (voX ah hs).X w) (hfit : ∀ x ∈ hs, VlFit x.v.v) (hI : ∀ x ∈ hs, I64 x.s) (hl : hs.length ≤ 1048576)
    (HE : Cells w ae (evcs evs)) (hel : evs.length ≤ 1099511627776) :
    Calls Try.prog 13 #[.slice ax xs.length cx, .slice ah hs.length ch, .slice ae evs.length ce, .bool loose] w (PureAt w (.int .i64 (checkV xs (vlsOf hs) evs loose))) := by
  refine calls_at (tab_ok _) Try.func13 rfl tRChk25 (ρ := ⟨[], [loose], [], [xs.length, cx, hs.length, ch, evs.length, ce], [ax, ah, ae]⟩) (ids := []) (hx := HX.nil) rfl (Facts.initP rfl oneNil) ?_
  obtain ⟨P, eP⟩ : ∃ P, P = playV (firstI xs) [] (vlsOf hs) := ⟨_, rfl⟩
  have hck : checkV xs (vlsOf hs) evs loose = if P.2 ≠ 0 then P.2 else chkV P.1 loose [] 0 evs := by rw [eP]; rfl
  obtain ⟨hps, hpl⟩ : PsOk P.1 ∧ P.1.length ≤ 0 + 8 * (vlsOf hs).length := by rw [eP]; exact playV_ok _ _ _ (fun p hp => by cases hp)
  rw [vlsOf_len] at hpl
  obtain ⟨E, eE⟩ : ∃ E, E = checkV xs (vlsOf hs) evs loose := ⟨_, rfl⟩
  rw [← eE]
  rw [← eE] at hck
  refine node_rplay (R := P) (fun _ => #[.slice ax xs.length cx, .slice ah hs.length ch]) (by intros; kernel_rfl) (fun ids w2 hp hf => by
    rw [eP]
    exact rplay_any ax cx xs ah ch hs w2 (Ints.of_cells (by omega) HX0.fits (cl_stay HX0.cells fun k hk => hf.chg.block k hk (fun q => q))) hxl ((voX ah hs).loc _ _ HH fun k hk => hf.chg.block k (voX_sep HH k hk) (fun q => q)) hfit hI hl) (by intros; kernel_rfl) (by kernel_rfl) (by kernel_rfl) (by intros; kernel_rfl) ?_
  intro pa np pc hnp hfr
  refine br_B (P.2 != 0) (by kernel_rfl) (fun he => ?_) (fun he => ?_)
  · rw [if_pos (by simpa using he)] at hck
    exact pure_done fun ids => by rw [hck]; kernel_rfl
  have he0 : P.2 = 0 := by simpa using he
  rw [if_neg (fun q => q he0)] at hck
  have hnp2 := hnp he0
  have epl : plX P pa = HX.cl pa (plcs P.1) := by unfold plX; rw [if_pos he0]
  rw [epl] at hfr ⊢
  refine node_makeS Try.underlying33 info_int1 rfl evs.length (by intros; kernel_rfl) (by intros; kernel_rfl) (by omega) (by unfold maxLen; omega) (by intros; kernel_rfl) (by kernel_rfl) (by kernel_rfl) (by intros; kernel_rfl) ?_
  intro ci hci1 hci2
  obtain ⟨B, eB⟩ : ∃ B, B = HX.nil.and (HX.cl pa (plcs P.1)) := ⟨_, rfl⟩
  rw [← eB] at hci2 ⊢
  have bpl : ∀ {w2 : World}, B.X w2 → Cells w2 pa (plcs P.1) := fun h => by rw [eB] at h; exact h.2
  refine holds_eq (congrArg _ (congrArg _ (List.map_replicate (f := Value.int .i64) (n := evs.length) (a := (0 : Int))).symm)) ?_
  refine ⟨CkR evs loose P.1 B (some ⟨ci, 0, none⟩) E, fun ids w2 hp hf => ⟨_, evs.length, ⟨hf.x, hf.sep⟩, 0, [], 0, List.replicate evs.length 0, rfl, Nat.zero_le _, rfl, List.length_replicate, (fun j p h => by cases h), Nat.zero_le _, hck.symm, by kernel_rfl, rfl⟩, ?_⟩
  rintro vs hx' n hcnt ⟨i, seen, done, L, rfl, hi, hsl, hL, hseen, hdone, hE2, rfl, rfl⟩
  refine holds_env (ρ' := ⟨[P.2, (i : Int), (done : Int)], [loose], [], [xs.length, cx, hs.length, ch, evs.length, ce, np, pc, evs.length, evs.length], [ax, ah, ae, pa, some ⟨ci, 0, none⟩]⟩) (by kernel_rfl) ?_
  refine br_D (p := (i : Int) < (evs.length : Int)) (by kernel_rfl) (fun hlt => ?B) (fun hlt => ?E)
  case E =>
    refine pure_done fun ids => ?_
    rw [← hE2, List.drop_eq_nil_of_le (by omega)]; rfl
  have hlt : i < evs.length := by omega
  obtain ⟨e, he⟩ : ∃ e, evs[i]? = some e := ⟨_, List.getElem?_eq_getElem hlt⟩
  have hd : evs.drop i = e :: evs.drop (i + 1) := by
    obtain ⟨q, e2⟩ := List.getElem?_eq_some_iff.1 he
    rw [List.drop_eq_getElem_cons q, e2]
  rw [hd] at hE2
  unfold chkV at hE2
  obtain ⟨s1, g1⟩ := flat_part ev_len HE he (o := 0) e.cells (fun j u hj => by rw [Nat.zero_add]; exact hj) (by simp [Ev.cells, Ev.is])
  have hwi : IntKind.i64.wrap ((i : Int) + 1) = ((i + 1 : Nat) : Int) := by rw [wrap_i64 (by omega)]; omega
  refine need_k (ae.isSome = true ∧ (0 : Int) ≤ (i : Int) ∧ (i : Int) < (evs.length : Int)) (by kernel_rfl) ⟨s1, by omega, by omega⟩ ?_
  refine node_ld0 (k := ⟨3, 1, 0, 10, 5⟩) ⟨e.is, [], [], [], []⟩ (.pointer (some (((ae.getD ⟨0, 0, none⟩).add (i * 12)).add 0))) e.cells (by intros; kernel_rfl) (by intros; kernel_rfl) (g1 _ id) ⟨by kernel_rfl, oneNil⟩ (by kernel_rfl) oneNil ?_
  refine need_k ((some (⟨ci, 0, none⟩ : Addr)).isSome = true ∧ (0 : Int) ≤ (i : Int) ∧ (i : Int) < (evs.length : Int)) (by kernel_rfl) ⟨rfl, by omega, by omega⟩ ?_
  refine node_stores (sz := 1) (some ⟨ci, 0, none⟩) evs.length evs.length (L.map (Value.int .i64)) [.int .i64 (done : Int)] i 0 (.int .i64 (done : Int)) (by kernel_rfl) (by intros; kernel_rfl) (by intros; kernel_rfl) rfl (by simp [Value.oneCell']) (by simp; omega) (by simp) (fun q h1 h2 => by cases h2; exact hci2) (fun q h1 h2 => by cases h2; exact .inl hci1) (by kernel_rfl) (by kernel_rfl) (by kernel_rfl) ?_
  obtain ⟨L2, eL2⟩ : ∃ L2, L2 = L.set i (done : Int) := ⟨_, rfl⟩
  have hL2 : L2.length = evs.length := by rw [eL2, List.length_set, hL]
  refine holds_eq (congrArg _ (congrArg (HX.rw 1 3 (some ⟨ci, 0, none⟩) evs.length evs.length) (show spl (L.map (Value.int .i64)) (i * 1 + 0) [.int .i64 (done : Int)] = L2.map (Value.int .i64) from by rw [Nat.mul_one, Nat.add_zero, eL2]; exact spl_set (by omega)))) ?_
  have hseen1 : ∀ (j : Nat) (p : Ev × Nat), seen[j]? = some p → evs[j]? = some p.1 ∧ L2[j]? = some ((p.2 : Nat) : Int) ∧ p.2 ≤ P.1.length := fun j p h => by
    obtain ⟨h1, h2, h3⟩ := hseen j p h
    obtain ⟨q, _⟩ := List.getElem?_eq_some_iff.1 h
    refine ⟨h1, ?_, h3⟩
    rw [eL2, List.getElem?_set_ne (by omega), h2]
  obtain ⟨seen2, es2⟩ : ∃ s, s = seen ++ [(e, done)] := ⟨_, rfl⟩
  have hsl2 : seen2.length = i + 1 := by rw [es2, List.length_append, hsl]; rfl
  have hseen2 : ∀ (j : Nat) (p : Ev × Nat), seen2[j]? = some p → evs[j]? = some p.1 ∧ L2[j]? = some ((p.2 : Nat) : Int) ∧ p.2 ≤ P.1.length := fun j p h => by
    rcases Nat.lt_or_ge j i with q | q
    · exact hseen1 j p (by rw [es2, List.getElem?_append_left (by omega)] at h; exact h)
    · rw [es2, List.getElem?_append_right (by omega)] at h
      have hj : j - seen.length = 0 := by
        obtain ⟨q2, _⟩ := List.getElem?_eq_some_iff.1 h
        simp at q2; omega
      rw [hj] at h
      cases h
      have : j = i := by omega
      subst this
      exact ⟨he, by rw [eL2, List.getElem?_set_self (by omega)], hdone⟩
  rw [← es2] at hE2
  have nxt : ∀ {d2 : Nat} {x : Int} {m : Mem} {ρ : Env} {es : Vec} {S : Stack}, (∀ ids, es.den ρ ids = ⟨[IntKind.i64.wrap ((i : Int) + 1), x], [], [], [], []⟩) → x = (d2 : Int) → d2 ≤ P.1.length → chkV P.1 loose seen2 d2 (evs.drop (i + 1)) = E → lkup 7 S = some (fun vs' hx'' => ∃ n', n' < evs.length - i ∧ CkR evs loose P.1 B (some ⟨ci, 0, none⟩) E vs' hx'' n') → (Tree.again 7 es m).holds ⟨Try.prog, w, fun _ => False, PureAt w (.int .i64 E)⟩ ρ [] (B.and (HX.rw 1 3 (some ⟨ci, 0, none⟩) evs.length evs.length (L2.map (Value.int .i64)))) S := fun {d2 x m ρ es S} hes hx hd2 hc hS =>
    again_V ⟨[IntKind.i64.wrap ((i : Int) + 1), x], [], [], [], []⟩ hS hes _ (fun w2 ids hf => ⟨hf.x, hf.sep⟩) ⟨evs.length - (i + 1), by omega, i + 1, seen2, d2, L2, rfl, by omega, hsl2, hL2, hseen2, hd2, hc, by rw [hwi, hx], rfl⟩
  refine br_B (e.k != 2) (by kernel_rfl) (fun hk2 => ?_) (fun hk2 => ?_)
  · rw [if_neg (by simpa using hk2)] at hE2
    exact nxt (by intros; kernel_rfl) rfl hdone hE2 rfl
  rw [if_pos (by simpa using hk2)] at hE2
  refine ⟨fun vs hx n => ∃ j : Nat, n = i - j ∧ j ≤ i ∧ vs = ⟨[(j : Int), lowI (lowOf e.key (seen.take j))], [], [], [], []⟩ ∧ B.and (HX.rw 1 3 (some ⟨ci, 0, none⟩) evs.length evs.length (L2.map (Value.int .i64))) = hx, fun ids w2 hp hf => ⟨_, i, ⟨hf.x, hf.sep⟩, 0, rfl, Nat.zero_le _, by kernel_rfl, rfl⟩, ?_⟩
  rintro vs hx n2 hcnt2 ⟨j, rfl, hj, rfl, rfl⟩
  obtain ⟨lj, elj⟩ : ∃ lj, lj = lowI (lowOf e.key (seen.take j)) := ⟨_, rfl⟩
  rw [← elj]
  refine holds_env (ρ' := ⟨[P.2, (i : Int), (done : Int)] ++ e.is ++ [(j : Int), lj], [loose], [], [xs.length, cx, hs.length, ch, evs.length, ce, np, pc, evs.length, evs.length], [ax, ah, ae, pa, some ⟨ci, 0, none⟩]⟩) (by kernel_rfl) ?_
  refine br_D (p := (j : Int) < (i : Int)) (by kernel_rfl) (fun hjl => ?B2) (fun hjl => ?E2)
  case B2 =>
    have hjl : j < i := by omega
    obtain ⟨p, hp⟩ : ∃ p, seen[j]? = some p := ⟨_, List.getElem?_eq_getElem (by omega)⟩
    obtain ⟨k1, k2, k3⟩ := hseen1 j p hp
    have hwj : IntKind.i64.wrap ((j : Int) + 1) = ((j + 1 : Nat) : Int) := by rw [wrap_i64 (by omega)]; omega
    have hst := lowOf_take (x := e.key) hp
    have nxt2 : ∀ {x : Int} {m : Mem} {ρ : Env} {es : Vec} {S : Stack}, (∀ ids, es.den ρ ids = ⟨[IntKind.i64.wrap ((j : Int) + 1), x], [], [], [], []⟩) → x = lowI (lowOf e.key (seen.take (j + 1))) → lkup 14 S = some (fun vs' hx'' => ∃ n', n' < i - j ∧ ∃ j : Nat, n' = i - j ∧ j ≤ i ∧ vs' = ⟨[(j : Int), lowI (lowOf e.key (seen.take j))], [], [], [], []⟩ ∧ B.and (HX.rw 1 3 (some ⟨ci, 0, none⟩) evs.length evs.length (L2.map (Value.int .i64))) = hx'') → (Tree.again 14 es m).holds ⟨Try.prog, w, fun _ => False, PureAt w (.int .i64 E)⟩ ρ [] (B.and (HX.rw 1 3 (some ⟨ci, 0, none⟩) evs.length evs.length (L2.map (Value.int .i64)))) S := fun {x m ρ es S} hes hx hS =>
      again_V ⟨[IntKind.i64.wrap ((j : Int) + 1), x], [], [], [], []⟩ hS hes _ (fun w2 ids hf => ⟨hf.x, hf.sep⟩) ⟨i - (j + 1), by omega, j + 1, rfl, by omega, by rw [hwj, hx], rfl⟩
    have ev1 := fun (o : Nat) (x : Int) (h : p.1.cells[o]? = some (.int .i64 x)) => flat_part ev_len HE k1 (o := o) [.int .i64 x] (fun t u hj => by cases t with | zero => rw [Nat.add_zero, h]; exact hj | succ t => cases hj) (by simp)
    obtain ⟨_, f0⟩ := ev1 0 p.1.k rfl
    obtain ⟨_, f1⟩ := ev1 1 p.1.sess rfl
    obtain ⟨_, f2⟩ := ev1 2 p.1.seq rfl
    refine need_k (ae.isSome = true ∧ (0 : Int) ≤ (j : Int) ∧ (j : Int) < (evs.length : Int)) (by kernel_rfl) ⟨s1, by omega, by omega⟩ ?_
    refine node_ld0 (k := ⟨17, 1, 0, 10, 5⟩) ⟨[p.1.k], [], [], [], []⟩ (.pointer (some (((ae.getD ⟨0, 0, none⟩).add (j * 12)).add 0))) [.int .i64 p.1.k] (by intros; kernel_rfl) (by intros; kernel_rfl) (f0 _ id) ⟨by kernel_rfl, oneNil⟩ (by kernel_rfl) oneNil ?_
    refine br_D (p := p.1.k = 1) (by kernel_rfl) (fun q1 => ?_) (fun q1 => ?_)
    rotate_left
    · exact nxt2 (x := lj) (by intros; kernel_rfl) (by rw [hst, if_neg fun q => q1 q.1]; exact elj) rfl
    refine need_k (ae.isSome = true ∧ (0 : Int) ≤ (j : Int) ∧ (j : Int) < (evs.length : Int)) (by kernel_rfl) ⟨s1, by omega, by omega⟩ ?_
    refine node_ld0 (k := ⟨18, 1, 0, 10, 5⟩) ⟨[p.1.sess], [], [], [], []⟩ (.pointer (some (((ae.getD ⟨0, 0, none⟩).add (j * 12)).add 1))) [.int .i64 p.1.sess] (by intros; kernel_rfl) (by intros; kernel_rfl) (f1 _ id) ⟨by kernel_rfl, oneNil⟩ (by kernel_rfl) oneNil ?_
    refine br_D (p := p.1.sess = e.sess) (by kernel_rfl) (fun q2 => ?_) (fun q2 => ?_)
    rotate_left
    · exact nxt2 (x := lj) (by intros; kernel_rfl) (by rw [hst, if_neg fun q => q2 (Prod.mk.injEq .. |>.mp q.2).1]; exact elj) rfl
    refine need_k (ae.isSome = true ∧ (0 : Int) ≤ (j : Int) ∧ (j : Int) < (evs.length : Int)) (by kernel_rfl) ⟨s1, by omega, by omega⟩ ?_
    refine node_ld0 (k := ⟨19, 1, 0, 10, 5⟩) ⟨[p.1.seq], [], [], [], []⟩ (.pointer (some (((ae.getD ⟨0, 0, none⟩).add (j * 12)).add 2))) [.int .i64 p.1.seq] (by intros; kernel_rfl) (by intros; kernel_rfl) (f2 _ id) ⟨by kernel_rfl, oneNil⟩ (by kernel_rfl) oneNil ?_
    refine br_D (p := p.1.seq = e.seq) (by kernel_rfl) (fun q3 => ?_) (fun q3 => ?_)
    rotate_left
    · exact nxt2 (x := lj) (by intros; kernel_rfl) (by rw [hst, if_neg fun q => q3 (Prod.mk.injEq .. |>.mp q.2).2]; exact elj) rfl
    refine need_k ((some (⟨ci, 0, none⟩ : Addr)).isSome = true ∧ (0 : Int) ≤ (j : Int) ∧ (j : Int) < (evs.length : Int)) (by kernel_rfl) ⟨rfl, by omega, by omega⟩ ?_
    refine node_ldk ⟨[((p.2 : Nat) : Int)], [], [], [], []⟩ (fun _ => .pointer (some ((((some (⟨ci, 0, none⟩ : Addr)).getD ⟨0, 0, none⟩).add (j * 1)).add 0))) [.int .i64 ((p.2 : Nat) : Int)] (by intros; kernel_rfl) (by intros; kernel_rfl) (fun ids w2 hp hf => (ints_elt (rw_cells hf.x.2) k2).2) (by kernel_rfl) oneNil ?_
    exact nxt2 (x := ((p.2 : Nat) : Int)) (by intros; kernel_rfl) (by rw [hst, if_pos ⟨q1, Prod.ext q2 q3⟩]; rfl) rfl
  have hji : j = i := by omega
  rw [hji, ← hsl, List.take_length] at elj
  obtain ⟨fo, efo⟩ : ∃ fo, fo = lowOf e.key seen := ⟨_, rfl⟩
  rw [← efo] at hE2 elj
  cases hfo : fo with
  | none =>
    rw [hfo] at hE2 elj
    simp only at hE2
    refine br_T (decide (lj < 0)) (by kernel_rfl) (by rw [elj]; rfl) ?_
    exact pure_done fun ids => by rw [← hE2]; kernel_rfl
  | some frm =>
  rw [hfo] at hE2 elj
  have elj : lj = (frm : Int) := elj
  have hfrm : frm ≤ P.1.length := by
    obtain ⟨p, hp, q⟩ := lowOf_mem (efo.symm.trans hfo)
    obtain ⟨j2, hj2⟩ := List.mem_iff_getElem?.1 hp
    rw [← q]; exact (hseen1 j2 p hj2).2.2
  simp only at hE2
  subst elj
  refine br_F (decide ((frm : Int) < 0)) (by kernel_rfl) (by simp) ?_
  refine br_D (p := e.rk > 3) (by kernel_rfl) (fun hr3 => ?_) (fun hr3 => ?_)
  · rw [if_pos hr3] at hE2
    refine node_PI ⟨[(findP e.key P.1 : Int)], [], [], [], []⟩ (fun _ => #[.slice pa np pc, .int .i64 e.sess, .int .i64 e.seq]) (.int .i64 (findP e.key P.1 : Int)) (by intros; kernel_rfl) (by intros; kernel_rfl) (by kernel_rfl) (by kernel_rfl) (by kernel_rfl) oneNil (fun ids w2 hp hf => by rw [hnp2]; exact rfind_any pa pc P.1 e.sess e.seq w2 (bpl hf.x.1) (by omega)) ?_
    refine br_D (p := (findP e.key P.1 : Int) > 0) (by kernel_rfl) (fun hf => ?_) (fun hf => ?_)
    · rw [if_pos (by omega)] at hE2
      exact pure_done fun ids => by rw [← hE2]; kernel_rfl
    · rw [if_neg (by omega)] at hE2
      exact nxt (by intros; kernel_rfl) rfl hdone hE2 rfl
  rw [if_neg hr3] at hE2
  obtain ⟨O, eO⟩ : ∃ O, O = oneV P.1 e frm loose := ⟨_, rfl⟩
  have hO1 : O.1 ≤ P.1.length := by rw [eO]; exact oneV_le hfrm
  rw [← eO] at hE2
  refine node_PI ⟨[(O.1 : Int), O.2], [], [], [], []⟩ (fun _ => #[.slice pa np pc, .agg e.cells.toArray, .int .i64 (frm : Int), .bool loose]) (oneVal O) (by intros; kernel_rfl) (by intros; kernel_rfl) (by kernel_rfl) (by kernel_rfl) (by kernel_rfl) oneNil (fun ids w2 hp hf => by rw [hnp2, eO]; exact rone_any pa pc P.1 e frm loose w2 (bpl hf.x.1) hps (by omega) hfrm) ?_
  refine br_B (O.2 != 0) (by kernel_rfl) (fun hO => ?_) (fun hO => ?_)
  · rw [if_pos (by simpa using hO)] at hE2
    exact pure_done fun ids => by rw [← hE2]; kernel_rfl
  rw [if_neg (by simpa using hO)] at hE2
  refine br_D (p := (O.1 : Int) > (done : Int)) (by kernel_rfl) (fun hgt => ?_) (fun hgt => ?_)
  · exact nxt (d2 := O.1) (by intros; kernel_rfl) rfl hO1 (by rw [← hE2]; congr 1; omega) rfl
  · exact nxt (d2 := done) (by intros; kernel_rfl) rfl hdone (by rw [← hE2]; congr 1; omega) rfl
end Go.Proofs.Ytbedoemdjlollaa

namespace Go.Proofs.Ytbedoemdjlollaa
open Go Go.ChangeShapes Go.WideShapes Go.ChangeAt Go.RowKit Go.Syn Go.Eng
set_option linter.unusedVariables false
set_option linter.unusedSimpArgs false
set_option maxRecDepth 100000
section
variable {C : Cfg} {ρ : Env} {pre : List Nat} {hx : HX} {L : Stack} {m m' : Mem} {args : List SV} {r : SV} {t : Tree}
theorem node_merge {f : Nat} {R : List (Vo Vl) × Int} (AS : List Nat → Array Value) (hargs : ∀ ids, (args.map (SV.den ρ ids)).toArray = AS ids) (hcall : ∀ ids w, pre <+: ids → Facts C m ρ ids hx w → Calls C.P f (AS ids) w (MgNew w R))
    (hr : ∀ b l d ids, r.den (ρ.add ⟨[R.2], [], [], [l, d], [b]⟩) ids = .tuple #[.slice b l d, .int .i64 R.2]) (hhp : m'.hp = m.hp) (hfit : hpFits m.c m.hp.length m.hp = true) (hc : ∀ b l d, (ρ.add ⟨[R.2], [], [], [l, d], [b]⟩).cnt = m'.c)
    (h : ∀ b d ys, vlsOf ys = R.1 → (∀ k, ((voAll ys).and (vrow b d ys)).F k → C.W.heap.size ≤ k ∧ ¬ hx.F k) → t.holds C (ρ.add ⟨[R.2], [], [], [ys.length, d], [b]⟩) pre (hx.and ((voAll ys).and (vrow b d ys))) L) : (Tree.call f args m r m' t).holds C ρ pre hx L := by
  refine node_out AS (fun u hy => ∃ b d ys, vlsOf ys = R.1 ∧ u = ⟨[R.2], [], [], [ys.length, d], [b]⟩ ∧ hy = (voAll ys).and (vrow b d ys)) hargs (fun ids w hp hf => ?_) hhp hfit ?_ ?_
  · refine (hcall ids w hp hf).mono ?_
    rintro e w' ⟨b, d, ys, rfl, h1, hX, hge, hb⟩
    exact ⟨_, _, ⟨b, d, ys, h1, rfl, rfl⟩, by rw [hr], hX, hge, hb⟩
  · rintro u hy ⟨b, d, ys, _, rfl, rfl⟩
    exact ⟨hc _ _ _, oneNil⟩
  · rintro u hy ⟨b, d, ys, h1, rfl, rfl⟩ hfr
    exact h b d ys h1 hfr
end
def putC (s q x : Int) : CmD := ⟨s, q, IntKind.i64.wrap (q - 1), ⟨2, 0, 0, x, 0⟩⟩
theorem put_any (s q x : Int) (w : World) : Calls Try.prog 19 #[.int .i64 s, .int .i64 q, .int .i64 x] w (PureAt w (.agg (putC s q x).cells.toArray)) := by
  refine calls_at (tab_ok _) Try.func19 rfl tJPut (ρ := ⟨[s, q, x], [], [], [], []⟩) (ids := []) (hx := HX.nil) rfl (Facts.initP rfl oneNil) ?_
  exact pure_done (by intros; kernel_rfl)
def hc1 : CmD := ⟨1, 1, 0, ⟨2, 0, 0, 1, 0⟩⟩
def hv25 : Vl := ⟨1, [hc1], []⟩
def hh25 : List (Vo Vl) := [⟨1, 0, 0, hv25⟩]
def ev25 (k : Int) (c : CmD) (r : Int × Int × Int) : Ev := ⟨k, c.sess, c.seq, c.op, r.1, r.2.1, r.2.2, 0⟩
theorem hh_merge : mergeV hh25 = (hh25, 0) := by
  unfold mergeV hh25 mgV
  rw [if_neg (by decide), if_neg (fun q => by exact absurd q.1 (by decide))]
  unfold mgV
  rw [if_neg (by decide)]; rfl
theorem hh_good : checkV [1] hh25 [ev25 1 hc1 (0, 0, 0), ev25 2 hc1 (1, 1, 0)] false = 0 := by kernel_rfl
theorem hh_bad : checkV [1] hh25 [ev25 1 hc1 (0, 0, 0), ev25 2 hc1 (1, 2, 0)] false = 63 := by kernel_rfl
theorem evs_at {w : World} {b ty : Nat} {us : List Value} {es : List Ev} (h : w.heap[b]? = some (.cells us.toArray ty (0, 0))) (e : us = evcs es) : Cells w (some ⟨b, 0, none⟩) (evcs es) := by
  subst e
  exact blk_cells (ty := ty) h
theorem cells_of {w : World} {b ty : Nat} {us vs : List Value} (h : w.heap[b]? = some (.cells us.toArray ty (0, 0))) (e : us = vs) : Cells w (some ⟨b, 0, none⟩) vs := by
  subst e
  exact blk_cells (ty := ty) h
theorem hv25_fit : VlFit hv25 := ⟨(fun n h => by cases h), by decide, by decide⟩
theorem vls_one {ys : List (Vo Pv)} {x : Vo Vl} (h : vlsOf ys = [x]) (hx : VlFit x.v) : ∀ y ∈ ys, VlFit y.v.v := fun y hy => by
  have : Vo.map Pv.v y ∈ vlsOf ys := List.mem_map.2 ⟨y, hy, rfl⟩
  rw [h, List.mem_singleton] at this
  have e : y.v.v = x.v := congrArg Vo.v this
  rw [e]; exact hx
theorem ky11 : KyFit (1, 1) := by unfold KyFit; decide
theorem ky_two (s q : Int) (r : Int × Int × Int) (h : KyFit (hc1.sess, hc1.seq)) : ∀ e ∈ [ev25 1 hc1 (0, 0, 0), ev25 2 hc1 r], KyFit e.key := fun e he => by
  simp only [List.mem_cons, List.not_mem_nil, or_false] at he
  rcases he with rfl | rfl <;> exact h
set_option maxHeartbeats 1000000 in
theorem head25_any (w : World) : Calls Try.prog 8 #[] w (PureAt w (.bool true)) := by
  refine calls_at (tab_ok _) Try.func8 rfl tJHead (ρ := ⟨[], [], [], [], []⟩) (ids := []) (hx := HX.nil) rfl (Facts.initP rfl oneNil) ?_
  refine node_P ⟨hc1.is, [], [], [], []⟩ #[.int .i64 1, .int .i64 1, .int .i64 1] (.agg hc1.cells.toArray) (by intros; kernel_rfl) (by intros; kernel_rfl) (by kernel_rfl) (by kernel_rfl) (by kernel_rfl) oneNil (fun ids w2 hp hf => put_any 1 1 1 w2) ?_
  refine node_merge (R := (hh25, 0)) (fun ids => #[.slice (some ⟨idAt ids 3, 0, none⟩) 1 1]) (by intros; kernel_rfl) (fun ids w2 hp hf => ?_) (by intros; kernel_rfl) (by kernel_rfl) (by kernel_rfl) (by intros; kernel_rfl) ?_
  · have h3 := cells_of (hf.blkAt 3 rfl) (vs := [.slice (some ⟨idAt ids 2, 0, none⟩) 1 1]) (by kernel_rfl)
    have h2 := cells_of (hf.blkAt 2 rfl) (vs := [.int .i64 1, .int .i64 0, .int .i64 0, .int .i64 1, .slice (some ⟨idAt ids 1, 0, none⟩) 1 1, .slice none 0 0]) (by kernel_rfl)
    have h1 := cells_of (hf.blkAt 1 rfl) (vs := ccells [hc1]) (by kernel_rfl)
    have := jmerge_any (some ⟨idAt ids 3, 0, none⟩) 1 [⟨some ⟨idAt ids 2, 0, none⟩, 1, [⟨1, 0, 0, ⟨hv25, some ⟨idAt ids 1, 0, none⟩, 1, none, 0⟩⟩]⟩] w2 (fun x hx => by
      rcases List.mem_cons.1 hx with rfl | hx
      · exact h3
      · simp only [List.map_cons, List.map_nil, List.mem_cons, List.not_mem_nil, or_false] at hx
        subst hx
        exact ⟨h2, fun y hy => by
          simp only [List.map_cons, List.map_nil, List.mem_cons, List.not_mem_nil, or_false] at hy
          subst hy
          exact ⟨h1, cl_nil _ _⟩⟩) (fun t ht => by
      rw [List.mem_singleton] at ht
      subst ht
      exact ⟨fun x hx => by rw [List.mem_singleton] at hx; subst hx; show I64 1; unfold I64; decide, fun x hx => by rw [List.mem_singleton] at hx; subst hx; exact hv25_fit, (by show 1 * 80 ≤ _; omega)⟩) (by show 1 ≤ _; omega) (by show 1 ≤ _; omega)
    rw [show vlsOf (tlAll [⟨some ⟨idAt ids 2, 0, none⟩, 1, [⟨1, 0, 0, ⟨hv25, some ⟨idAt ids 1, 0, none⟩, 1, none, 0⟩⟩]⟩]) = hh25 from rfl, hh_merge] at this
    exact this
  intro b d ys hys hfr
  have hyl : ys.length = 1 := by have := congrArg List.length hys; rw [vlsOf_len] at this; exact this
  have hyf : ∀ y ∈ ys, VlFit y.v.v := vls_one hys hv25_fit
  refine br_t (by kernel_rfl) ?_
  refine br_B ((ys.length : Int) == 1) (by kernel_rfl) (fun _ => ?_) (fun h => by rw [hyl] at h; cases h)
  refine node_PI ⟨[0], [], [], [], []⟩ (fun ids => #[.slice (some ⟨idAt ids 7, 0, none⟩) 1 1, .slice b ys.length d, .slice (some ⟨idAt ids 8, 0, none⟩) 2 2, .bool false]) (.int .i64 0) (by intros; kernel_rfl) (by intros; kernel_rfl) (by kernel_rfl) (by kernel_rfl) (by kernel_rfl) oneNil (fun ids w2 hp hf => ?_) ?_
  · have := jcheck_any (some ⟨idAt ids 7, 0, none⟩) 1 [1] b d ys (some ⟨idAt ids 8, 0, none⟩) 2 [ev25 1 hc1 (0, 0, 0), ev25 2 hc1 (1, 1, 0)] false w2 (ints_blk hf 7 _ _ [1] rfl (by kernel_rfl) (by decide) (by unfold I64; decide)) (by decide) (vox_of hf.x.2) hyf (by omega) (evs_at (hf.blkAt 8 rfl) (by kernel_rfl)) (ky_two 1 1 (1, 1, 0) ky11) (by decide)
    rw [hys, hh_good] at this
    exact this
  refine br_t (by kernel_rfl) ?_
  refine node_PI ⟨[63], [], [], [], []⟩ (fun ids => #[.slice (some ⟨idAt ids 9, 0, none⟩) 1 1, .slice b ys.length d, .slice (some ⟨idAt ids 10, 0, none⟩) 2 2, .bool false]) (.int .i64 63) (by intros; kernel_rfl) (by intros; kernel_rfl) (by kernel_rfl) (by kernel_rfl) (by kernel_rfl) oneNil (fun ids w2 hp hf => ?_) ?_
  · have := jcheck_any (some ⟨idAt ids 9, 0, none⟩) 1 [1] b d ys (some ⟨idAt ids 10, 0, none⟩) 2 [ev25 1 hc1 (0, 0, 0), ev25 2 hc1 (1, 2, 0)] false w2 (ints_blk hf 9 _ _ [1] rfl (by kernel_rfl) (by decide) (by unfold I64; decide)) (by decide) (vox_of hf.x.2) hyf (by omega) (evs_at (hf.blkAt 10 rfl) (by kernel_rfl)) (ky_two 1 1 (1, 2, 0) ky11) (by decide)
    rw [hys, hh_bad] at this
    exact this
  exact pure_done (by intros; kernel_rfl)
end Go.Proofs.Ytbedoemdjlollaa

namespace Go.Proofs.Ytbedoemdjlollaa
open Go Go.ChangeShapes Go.WideShapes Go.ChangeAt Go.RowKit Go.Syn Go.Eng
set_option linter.unusedVariables false
set_option linter.unusedSimpArgs false
set_option maxRecDepth 100000
theorem info_ev : (Try.prog.info? 66).map (fun i => (i.zero, i.size, i.bytes)) = some (some (.agg (Ev.cells ⟨0, 0, 0, ⟨0, 0, 0, 0, 0⟩, 0, 0, 0, 0⟩).toArray), 12, 96) := by kernel_rfl
theorem ev_one (es : List Ev) : ∀ v ∈ evcs es, v.oneCell' = true := fun v hv => by
  obtain ⟨e, _, he⟩ := List.mem_flatMap.1 hv
  obtain ⟨i, _, rfl⟩ := List.mem_map.1 he
  rfl
theorem opn_ev {w : World} {d : Dat} (h : d.In Try.prog w 66) : ∃ e : Ev, d.cells = e.cells ∧ KyFit e.key := by
  obtain ⟨ds, rfl, g⟩ := in_struct Try.underlying66 h
  obtain ⟨d0, r0, rfl, h0, g0⟩ := inEach_cons g
  obtain ⟨d1, r1, rfl, h1, g1⟩ := inEach_cons g0
  obtain ⟨d2, r2, rfl, h2, g2⟩ := inEach_cons g1
  obtain ⟨d3, r3, rfl, h3, g3⟩ := inEach_cons g2
  obtain ⟨d4, r4, rfl, h4, g4⟩ := inEach_cons g3
  obtain ⟨d5, r5, rfl, h5, g5⟩ := inEach_cons g4
  obtain rfl := inEach_nil g5
  obtain ⟨es, rfl, f⟩ := in_struct Try.underlying41 h3
  obtain ⟨e0, s0, rfl, k0, f1⟩ := inEach_cons f
  obtain ⟨e1, s1, rfl, k1, f2⟩ := inEach_cons f1
  obtain ⟨e2, s2, rfl, k2, f3⟩ := inEach_cons f2
  obtain ⟨e3, s3, rfl, k3, f4⟩ := inEach_cons f3
  obtain ⟨e4, s4, rfl, k4, f5⟩ := inEach_cons f4
  obtain rfl := inEach_nil f5
  obtain ⟨us, rfl, u⟩ := in_struct Try.underlying62 h4
  obtain ⟨u0, t0, rfl, l0, v1⟩ := inEach_cons u
  obtain ⟨u1, t1, rfl, l1, v2⟩ := inEach_cons v1
  obtain ⟨u2, t2, rfl, l2, v3⟩ := inEach_cons v2
  obtain rfl := inEach_nil v3
  obtain ⟨x0, rfl, p0⟩ := opn_int h0
  obtain ⟨x1, rfl, p1⟩ := opn_int h1
  obtain ⟨x2, rfl, p2⟩ := opn_int h2
  obtain ⟨x3, rfl, p3⟩ := opn_int h5
  obtain ⟨y0, rfl, q0⟩ := opn_int k0
  obtain ⟨y1, rfl, q1⟩ := opn_int k1
  obtain ⟨y2, rfl, q2⟩ := opn_int k2
  obtain ⟨y3, rfl, q3⟩ := opn_int k3
  obtain ⟨y4, rfl, q4⟩ := opn_int k4
  obtain ⟨z0, rfl, o0⟩ := opn_int l0
  obtain ⟨z1, rfl, o1⟩ := opn_int l1
  obtain ⟨z2, rfl, o2⟩ := opn_int l2
  exact ⟨⟨x0, x1, x2, ⟨y0, y1, y2, y3, y4⟩, z0, z1, z2, x3⟩, rfl, p1, p2⟩
theorem opn_evs {w : World} : ∀ (ds : List Dat), (∀ d ∈ ds, d.In Try.prog w 66) → ∃ es : List Ev, es.length = ds.length ∧ Dat.cellsAll ds = evcs es ∧ ∀ e ∈ es, KyFit e.key
  | [], _ => ⟨[], rfl, rfl, fun x hx => by cases hx⟩
  | d :: r, h => by
    obtain ⟨v, e, o⟩ := opn_ev (h d (List.mem_cons_self))
    obtain ⟨vs, l, e2, o2⟩ := opn_evs r (fun d hd => h d (List.mem_cons_of_mem _ hd))
    refine ⟨v :: vs, by simp [l], by rw [Dat.cellsAll, e, e2]; rfl, fun x hx => ?_⟩
    rcases List.mem_cons.1 hx with rfl | hx
    · exact o
    · exact o2 x hx
section
variable {C : Cfg} {ρ : Env} {pre : List Nat} {hx : HX} {L : Stack} {m m' : Mem} {args : List SV} {r : SV} {t : Tree}
theorem node_vonew {f : Nat} (xs : List (Vo Pv)) (AS : List Nat → Array Value) (hargs : ∀ ids, (args.map (SV.den ρ ids)).toArray = AS ids) (hcall : ∀ ids w, pre <+: ids → Facts C m ρ ids hx w → Calls C.P f (AS ids) w (VoNew w xs)) (hr : ∀ b d l ids, r.den (ρ.add ⟨[], [], [], [l, d], [b]⟩) ids = .slice b l d)
    (hhp : m'.hp = m.hp) (hft : hpFits m.c m.hp.length m.hp = true) (hc : ∀ b d l, (ρ.add ⟨[], [], [], [l, d], [b]⟩).cnt = m'.c)
    (h : ∀ b d ys, vlsOf ys = vlsOf xs → (∀ k, ((voAll ys).and (vrow b d ys)).F k → C.W.heap.size ≤ k ∧ ¬ hx.F k) → t.holds C (ρ.add ⟨[], [], [], [ys.length, d], [b]⟩) pre (hx.and ((voAll ys).and (vrow b d ys))) L) : (Tree.call f args m r m' t).holds C ρ pre hx L := by
  refine node_out AS (fun vs h' => ∃ (b : Option Addr) (d : Nat) (ys : List (Vo Pv)), vlsOf ys = vlsOf xs ∧ vs = ⟨[], [], [], [ys.length, d], [b]⟩ ∧ h' = (voAll ys).and (vrow b d ys)) hargs (fun ids w hp hf2 => ?_) hhp hft ?_ ?_
  · refine (hcall ids w hp hf2).mono ?_
    rintro e w' ⟨b, d, ys, rfl, g1, g2, g3, g4⟩
    exact ⟨_, _, ⟨b, d, ys, g1, rfl, rfl⟩, by rw [hr], g2, g3, g4⟩
  · rintro vs h' ⟨b, d, ys, _, rfl, rfl⟩; exact ⟨hc _ _ _, oneNil⟩
  · rintro vs h' ⟨b, d, ys, e, rfl, rfl⟩ hfr; exact h b d ys e hfr
end
theorem copied_any (a : Option Addr) (c : Nat) (xs : List (Vo Pv)) (w : World) (H : (voX a xs).X w) (hf : ∀ x ∈ xs, VlFit x.v.v) (hl : xs.length * 80 ≤ 140737488355328) : Calls Try.prog 9 #[.slice a xs.length c] w (VoNew w xs) := by
  refine calls_at (tab_ok _) Try.func9 rfl tCopied (ρ := ⟨[], [], [], [xs.length, c], [a]⟩) (ids := []) (hx := HX.nil) rfl (Facts.initP rfl oneNil) ?_
  refine node_vonew xs (fun _ => #[.slice a xs.length c]) (by intros; kernel_rfl) (fun ids w2 hp hf2 => cpvs7_any a c xs w2 ((voX a xs).loc _ _ H fun k hk => hf2.chg.block k (voX_sep H k hk) (fun q => q)) hf hl) (by intros; kernel_rfl) (by kernel_rfl) (by kernel_rfl) (by intros; kernel_rfl) ?_
  intro b d ys hv hfr ids w2 hp hf2
  exact ⟨b, d, ys, by kernel_rfl, hv, hf2.x.2, fun k hk => ⟨(hfr k hk).1, (hf2.sep k (.inr hk)).1⟩, hf2.chg.below⟩
set_option maxHeartbeats 2000000 in
theorem checks25_walk (a0 : Option Addr) (c0 : Nat) (xs : List Int) (a1 : Option Addr) (c1 : Nat) (hs : List (Vo Pv)) (a2 : Option Addr) (c2 : Nat) (evs : List Ev) (loose : Bool) (w : World) (HX0 : Ints w a0 xs) (hxl : xs.length * 8 ≤ 140737488351232) (HH : (voX a1 hs).X w) (hfit : ∀ x ∈ hs, I64 x.s ∧ VlFit x.v.v) (hl : hs.length ≤ 1048576)
    (HE : Cells w a2 (evcs evs)) (hE : ∀ e ∈ evs, KyFit e.key) (hel : evs.length ≤ 1048576) :
    Calls Try.prog 4 #[.slice a0 xs.length c0, .slice a1 hs.length c1, .slice a2 evs.length c2, .bool loose] w (PureAt w (.bool true)) := by
  refine calls_at (tab_ok _) Try.func4 rfl tLChecks25 (ρ := ⟨[], [loose], [], [xs.length, c0, hs.length, c1, evs.length, c2], [a0, a1, a2]⟩) (ids := []) (hx := HX.nil) rfl (Facts.initP rfl oneNil) ?_
  have keepX : ∀ {m : Mem} {ρ : Env} {ids : List Nat} {hx : HX} {w2 : World} {R : Ending → World → Prop}, Facts ⟨Try.prog, w, fun _ => False, R⟩ m ρ ids hx w2 → Ints w2 a0 xs := fun hf => Ints.of_cells (by omega) HX0.fits (cl_stay HX0.cells fun k hk => hf.chg.block k hk (fun q => q))
  have keepH : ∀ {m : Mem} {ρ : Env} {ids : List Nat} {hx : HX} {w2 : World} {R : Ending → World → Prop}, Facts ⟨Try.prog, w, fun _ => False, R⟩ m ρ ids hx w2 → (voX a1 hs).X w2 := fun hf => (voX a1 hs).loc _ _ HH fun k hk => hf.chg.block k (voX_sep HH k hk) (fun q => q)
  have keepE : ∀ {m : Mem} {ρ : Env} {ids : List Nat} {hx : HX} {w2 : World} {R : Ending → World → Prop}, Facts ⟨Try.prog, w, fun _ => False, R⟩ m ρ ids hx w2 → Cells w2 a2 (evcs evs) := fun hf => cl_stay HE fun k hk => hf.chg.block k hk (fun q => q)
  refine node_P ⟨[], [true], [], [], []⟩ #[] (.bool true) (by intros; kernel_rfl) (by intros; kernel_rfl) (by kernel_rfl) (by kernel_rfl) (by kernel_rfl) oneNil (fun ids w2 hp hf => head25_any w2) ?_
  refine br_f (by kernel_rfl) ?_
  obtain ⟨E, eE⟩ : ∃ E, E = checkV xs (vlsOf hs) evs loose := ⟨_, rfl⟩
  refine node_PI ⟨[E], [], [], [], []⟩ (fun _ => #[.slice a0 xs.length c0, .slice a1 hs.length c1, .slice a2 evs.length c2, .bool loose]) (.int .i64 E) (by intros; kernel_rfl) (by intros; kernel_rfl) (by kernel_rfl) (by kernel_rfl) (by kernel_rfl) oneNil (fun ids w2 hp hf => by rw [eE]; exact rcheck25_any a0 c0 xs a1 c1 hs a2 c2 evs loose w2 (keepX hf) hxl (keepH hf) (fun x hx => (hfit x hx).2) (fun x hx => (hfit x hx).1) hl (keepE hf) (by omega)) ?_
  refine node_clones (sz := 1) (z := .int .i64 0) (bytes := 8) rfl Try.underlying33 info_int1 rfl (by decide) 0 rfl (fun _ => a0) xs.length c0 (xs.map (Value.int .i64)) (by simp) (fun ids w2 hp hf => (keepX hf).cells) (fun u hu => by obtain ⟨x, _, rfl⟩ := List.mem_map.1 hu; rfl) (by simp only [maxLen]; omega) (by omega) (by intros; kernel_rfl) (by intros; kernel_rfl) (by intros; kernel_rfl) (by kernel_rfl) (by kernel_rfl) (by intros; kernel_rfl) ?_
  intro b1 d1 _
  refine node_vonew hs (fun _ => #[.slice a1 hs.length c1]) (by intros; kernel_rfl) (fun ids w2 hp hf2 => copied_any a1 c1 hs w2 (keepH hf2) (fun x hx => (hfit x hx).2) (by omega)) (by intros; kernel_rfl) (by kernel_rfl) (by kernel_rfl) (by intros; kernel_rfl) ?_
  intro b2 d2 ys hv hfr
  have hyl : ys.length = hs.length := by rw [← vlsOf_len ys, hv, vlsOf_len]
  have hyf := vls_fit hv hfit
  refine node_clones (sz := 12) (bytes := 96) rfl (by kernel_rfl) info_ev rfl (by decide) 1 rfl (fun _ => a2) evs.length c2 (evcs evs) (flat_len ev_len evs) (fun ids w2 hp hf => keepE hf) (ev_one evs) (by simp only [maxLen]; omega) (by omega) (by intros; kernel_rfl) (by intros; kernel_rfl) (by intros; kernel_rfl) (by kernel_rfl) (by kernel_rfl) (by intros; kernel_rfl) ?_
  intro b3 d3 _
  refine node_PI ⟨[E], [], [], [], []⟩ (fun _ => #[.slice b1 xs.length d1, .slice b2 ys.length d2, .slice b3 evs.length d3, .bool loose]) (.int .i64 E) (by intros; kernel_rfl) (by intros; kernel_rfl) (by kernel_rfl) (by kernel_rfl) (by kernel_rfl) oneNil (fun ids w2 hp hf => by
    rw [eE, ← hv]
    exact jcheck_any b1 d1 xs b2 d2 ys b3 d3 evs loose w2 (Ints.of_cells (by omega) HX0.fits (rw_cells hf.x.1.1.2)) hxl (vox_of hf.x.1.2) (fun x hx => (hyf x hx).2) (by omega) (rw_cells hf.x.2) hE (by omega)) ?_
  exact pure_done fun ids => Eq.trans (b := .bool (E == E)) (by kernel_rfl) (by simp)
theorem checks25_args (a0 : Option Addr) (c0 : Nat) (xs : List Int) (a1 : Option Addr) (c1 : Nat) (ds1 : List Dat) (a2 : Option Addr) (c2 : Nat) (ds2 : List Dat) (loose : Bool) (w : World) (HX0 : Ints w a0 xs) (hxl : xs.length * 8 ≤ 140737488351232)
    (H1 : Cells w a1 (Dat.cellsAll ds1)) (I1 : ∀ d ∈ ds1, d.In Try.prog w 39) (l1 : ds1.length ≤ 9223372036854775807) (s1 : ds1.length * Try.prog.bytesOf 39 ≤ reachBytes) (u1 : ds1.length ≤ 1048576)
    (H2 : Cells w a2 (Dat.cellsAll ds2)) (I2 : ∀ d ∈ ds2, d.In Try.prog w 66) (l2 : ds2.length ≤ 9223372036854775807) (s2 : ds2.length * Try.prog.bytesOf 66 ≤ reachBytes) (u2 : ds2.length ≤ 1048576) :
    Calls Try.prog 4 #[.slice a0 xs.length c0, .slice a1 ds1.length c1, .slice a2 ds2.length c2, .bool loose] w (PureAt w (.bool true)) := by
  obtain ⟨hs, e1, k1, o1⟩ := opn_vos ds1 I1
  obtain ⟨es, e2, k2, o2⟩ := opn_evs ds2 I2
  rw [k1] at H1
  rw [k2] at H2
  rw [← e1, ← e2]
  exact checks25_walk a0 c0 xs a1 c1 hs a2 c2 es loose w HX0 hxl (vos_X H1 o1) (fun x hx => (o1 x hx).1) (by omega) H2 o2 (by omega)
end Go.Proofs.Ytbedoemdjlollaa
