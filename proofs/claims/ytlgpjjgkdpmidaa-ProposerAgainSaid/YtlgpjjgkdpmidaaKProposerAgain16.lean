/- Part 16 of the texts of a proof about the given program: what the statement's proof needs of them. -/
import Derived.Test.YtlgpjjgkdpmidaaKProposerAgain15
namespace Go.Proofs.Ytlgpjjgkdpmidaa
open Go.ChangeShapes Go.WideShapes Go.ChangeAt Go.RowKit Go.Syn Go.Eng Go.MapKept
set_option linter.unusedVariables false
set_option linter.unusedSimpArgs false
set_option maxRecDepth 100000
theorem info_msg : (Try.prog.info? 41).map (fun i => (i.zero, i.size, i.bytes)) = some (some (.agg #[.int .i64 0, .int .i64 0, .int .i64 0, .int .i64 0, .int .i64 0, .int .i64 0, .int .i64 0, .int .i64 0, .int .i64 0, .int .i64 0, .slice none 0 0, .slice none 0 0, .slice none 0 0, .int .i64 0, .int .i64 0, .int .i64 0, .int .i64 0, .int .i64 0, .int .i64 0, .int .i64 0, .int .i64 0, .int .i64 0, .int .i64 0, .int .i64 0, .slice none 0 0]), 25, 264) := by kernel_rfl
def mgC (r n : Int) (q : Int × Pv) : List Value := [.int .i64 4, .int .i64 0, .int .i64 0, .int .i64 0, .int .i64 r, .int .i64 n, .int .i64 q.1, .int .i64 0, .int .i64 0, .int .i64 q.2.v.k, .slice q.2.a1 q.2.v.cs.length q.2.c1, .slice q.2.a2 q.2.v.ns.length q.2.c2, .slice none 0 0, .int .i64 0, .int .i64 0, .int .i64 0, .int .i64 0, .int .i64 0, .int .i64 0, .int .i64 0, .int .i64 0, .int .i64 0, .int .i64 0, .int .i64 0, .slice none 0 0]
theorem mgC_one (r n : Int) (q : Int × Pv) : ∀ v ∈ mgC r n q, v.oneCell' = true := fun v hv => by
  simp only [mgC, List.mem_cons, List.not_mem_nil, or_false] at hv
  rcases hv with h | h | h | h | h | h | h | h | h | h | h | h | h | h | h | h | h | h | h | h | h | h | h | h | h <;> (rw [h]; rfl)
def mcells (r n : Int) (mp : List (Int × Pv)) : List Value := mp.flatMap (mgC r n)
def mrow (a : Option Addr) (cap : Nat) (r n : Int) (mp : List (Int × Pv)) : HX := HX.rw 25 41 a mp.length cap (mcells r n mp)
def mall (mp : List (Int × Pv)) : HX := HX.all (mp.map fun q => q.2.hx)
theorem all_snoc (xs : List HX) (x : HX) : HX.all (xs ++ [x]) = (HX.all xs).and x := HX.ext (by
    funext k
    refine propext ⟨fun ⟨y, hy, hk⟩ => ?_, fun h => ?_⟩
    · rcases List.mem_append.1 hy with hy | hy
      · exact .inl ⟨y, hy, hk⟩
      · rw [List.mem_singleton.1 hy] at hk; exact .inr hk
    · rcases h with ⟨y, hy, hk⟩ | hk
      · exact ⟨y, List.mem_append_left _ hy, hk⟩
      · exact ⟨x, List.mem_append_right _ (List.mem_singleton.2 rfl), hk⟩) (by
    funext w
    refine propext ⟨fun h => ⟨fun y hy => h y (List.mem_append_left _ hy), h x (List.mem_append_right _ (List.mem_singleton.2 rfl))⟩, fun h y hy => ?_⟩
    rcases List.mem_append.1 hy with hy | hy
    · exact h.1 y hy
    · rw [List.mem_singleton.1 hy]; exact h.2)
theorem mall_snoc (mp : List (Int × Pv)) (q : Int × Pv) : mall (mp ++ [q]) = (mall mp).and q.2.hx := by unfold mall; rw [List.map_append]; exact all_snoc _ _
def PrGo (w : World) (F : Nat → Prop) (nb : Nat) (P' : Pr Vl) (ms : List (Int × Vl)) (e : Ending) (w' : World) : Prop := ∃ (mp : List (Int × Pv)) (ma : Option Addr) (mc : Nat) (F' : Nat → Prop), mmap Pv.v mp = ms ∧ (∀ q ∈ mp, VlFit q.2.v) ∧ e = .returned (.slice ma mp.length mc) ∧ (HX.obj F' (PrO nb P')).X w' ∧ (mall mp).X w' ∧ (mrow ma mc P'.r P'.n mp).X w' ∧ (∀ k, F' k → (F k ∨ w.heap.size ≤ k) ∧ k < w'.heap.size) ∧ (∀ k, (mall mp).F k → w.heap.size ≤ k ∧ k < w'.heap.size ∧ ¬ F' k) ∧ (∀ k, (mrow ma mc P'.r P'.n mp).F k → w.heap.size ≤ k ∧ k < w'.heap.size ∧ ¬ F' k ∧ ¬ (mall mp).F k) ∧ Chg F w w'
theorem fill_stop {kd : Pv → Int} {ex : Int} {D : Pr Pv} (h : D.queue = [] ∨ ¬ (D.next - D.window ≤ ex ∧ D.next ≤ 1099511627776)) : ∀ k, Pr.fill kd ex k D = D
  | 0 => rfl
  | k + 1 => by
    unfold Pr.fill
    cases hq : D.queue with
    | nil => rfl
    | cons v q =>
      rcases h with h | h
      · rw [h] at hq; cases hq
      · dsimp only; rw [if_neg h]
theorem fill_go {kd : Pv → Int} {ex : Int} {D : Pr Pv} {p : Pv} {q : List Pv} (hq : D.queue = p :: q) (h : D.next - D.window ≤ ex ∧ D.next ≤ 1099511627776) (k : Nat) : Pr.fill kd ex (k + 1) D = Pr.fill kd ex k { D.ask kd D.next p with queue := q, next := D.next + 1 } := by
  simp only [Pr.fill, hq]
  rw [if_pos h]
section
variable {D : Pr Pv} {a : PA} {nb : Nat} {w : World} {F : Nat → Prop}
def Go3 (w : World) (F : Nat → Prop) (D D1 : Pr Pv) (ex : Int) (vs : Vals) (hx : HX) (m : Nat) : Prop := ∃ (Dc : Pr Pv) (ac : PA), m = Dc.queue.length ∧ vs = prVs Dc ac ∧ POk Dc ac ∧ (Dc.queue ≠ [] → ac.aq.isSome = true) ∧ Pr.fill kdP ex Dc.queue.length Dc = D1 ∧ Dc.fresh.length + Dc.queue.length ≤ D.fresh.length + D.queue.length ∧ (Dc.window = D.window ∧ Dc.r = D.r ∧ Dc.n = D.n ∧ D.next ≤ Dc.next ∧ Dc.next ≤ 1099511627777) ∧ (∀ k, (prX Dc ac).F k → w.heap.size ≤ k ∨ F k) ∧ hx = HX.nil.and (prX Dc ac)
def msTo (D : Pr Pv) (j : Nat) : List (Int × Vl) := (D.fresh.take j).filterMap fun s => (mlk (mmap Pv.v D.out) s).map fun v => (s, v)
def GoS (w : World) (base : HX) (D : Pr Pv) (j : Nat) (ma : Option Addr) (mc : Nat) (mp : List (Int × Pv)) (hx : HX) : Prop := mmap Pv.v mp = msTo D j ∧ (∀ q ∈ mp, VlFit q.2.v) ∧ mp.length ≤ j ∧ (∀ k, (mall mp).F k → w.heap.size ≤ k ∧ ¬ base.F k) ∧ (∀ k, mc ≠ 0 → abk ma = some k → w.heap.size ≤ k ∧ ¬ (base.and (mall mp)).F k) ∧ hx = (base.and (mall mp)).and (mrow ma mc D.r D.n mp)
def Go9 (w : World) (base : HX) (D : Pr Pv) (a : PA) (vs : Vals) (hx : HX) (m : Nat) : Prop := (D.fresh ≠ [] → a.af.isSome = true) ∧ ∃ (j : Nat) (ma : Option Addr) (mc : Nat) (mp : List (Int × Pv)), m = D.fresh.length - j ∧ j ≤ D.fresh.length ∧ vs = ⟨[(j : Int)], [], [], [mp.length, mc], [ma]⟩ ∧ GoS w base D j ma mc mp hx
theorem q_cells (h : (qrow a.aq a.cq D.queue).X w) {p : Pv} {q : List Pv} (hq : D.queue = p :: q) : a.aq.isSome = true ∧ CellsAt w (.pointer (some (((a.aq.getD ⟨0, 0, none⟩).add (0 * 3)).add 0))) p.cells (fun _ => False) := by
  have hc := tw_cells h
  obtain ⟨h1, h2⟩ := cl_elt (i := 0) (sz := 3) hc p.cells (fun j u hj => by
    rw [hq]
    show (p.cells ++ qcs q)[0 * 3 + j]? = some u
    have hlt : j < p.cells.length := by
      rcases Nat.lt_or_ge j p.cells.length with g | g
      · exact g
      · rw [List.getElem?_eq_none g] at hj; cases hj
    rw [Nat.zero_mul, Nat.zero_add, List.getElem?_append_left hlt]; exact hj) (by simp [Pv.cells])
  exact ⟨h1, h2 _ id⟩
theorem f_cells (h : (irow a.af a.cf D.fresh).X w) {j : Nat} {s : Int} (hj : D.fresh[j]? = some s) : a.af.isSome = true ∧ CellsAt w (.pointer (some (((a.af.getD ⟨0, 0, none⟩).add (j * 1)).add 0))) [.int .i64 s] (fun _ => False) := by
  have hc := rw_cells h
  obtain ⟨h1, h2⟩ := cl_elt (i := j) (sz := 1) hc [.int .i64 s] (fun k u hk => by
    cases k with
    | zero =>
      simp only [List.getElem?_cons_zero, Option.some.injEq] at hk
      rw [Nat.mul_one, Nat.add_zero, List.getElem?_map, hj, ← hk]; rfl
    | succ k => simp at hk) (by simp)
  exact ⟨h1, h2 _ id⟩
set_option maxHeartbeats 1600000 in
theorem go_any {P : Pr Vl} (ex : Int) (H0 : (HX.obj F (PrO nb P)).X w) (hF : ∀ k, F k → k < w.heap.size) (hex : I64 ex) (hw0 : 1 ≤ P.window ∧ P.window ≤ 16) (hn0 : 0 ≤ P.next ∧ P.next ≤ 1099511627777) (hl : P.fresh.length + P.queue.length ≤ 10000) :
    Calls Try.prog 14 #[.pointer (some ⟨nb, 0, none⟩), .int .i64 ex] w (PrGo w F nb (P.goes Vl.k ex).1 (P.goes Vl.k ex).2) := by
  obtain ⟨D, a, hP, hok, hnb, hB, hX, Fnb, hsub⟩ := pobj_open H0
  refine calls_at (tab_ok _) Try.func14 rfl tPGo (ρ := ⟨[D.me, D.window, D.phase, D.r, D.n, D.frm, D.next, ex], [D.stop], [.map (some a.bb), .map (some a.bo)], [D.mem.length, a.cm, D.said.length, a.cs, D.fresh.length, a.cf, D.queue.length, a.cq], [a.am, a.as_, a.af, a.aq]⟩) (ids := [nb]) (hx := prX D a) rfl (Facts.initx (M := F) rfl (fun v hv => by simp only [List.mem_cons, List.not_mem_nil, or_false] at hv; rcases hv with rfl | rfl <;> rfl) hB rfl Fnb hX (fun k hk => ⟨hF k (hsub k hk), fun e => hnb (e ▸ hk)⟩)) ?_
  have hph : P.phase = D.phase := by rw [← hP]; rfl
  have hw0 : 1 ≤ D.window ∧ D.window ≤ 16 := by rw [← hP] at hw0; exact hw0
  have hn0 : 0 ≤ D.next ∧ D.next ≤ 1099511627777 := by rw [← hP] at hn0; exact hn0
  have hl : D.fresh.length + D.queue.length ≤ 10000 := by
    rw [← hP] at hl
    have : (D.map Pv.v).queue.length = D.queue.length := List.length_map _
    rw [this] at hl; exact hl
  refine br_B (D.phase != 2) (by kernel_rfl) (fun h => ?_) (fun h => ?_)
  · have h : P.phase ≠ 2 := by rw [hph]; simpa using h
    have e : P.goes Vl.k ex = (P, []) := by unfold Pr.goes; rw [if_neg h]
    rw [e]
    intro ids w2 hp hf
    have hb := hf.blk 0 77 _ rfl
    rw [idAt0 hp] at hb
    have hmem : nb ∈ ids := by obtain ⟨x, rfl⟩ := hp; simp
    refine ⟨[], none, 0, fun k => k = nb ∨ (prX D a).F k, rfl, (fun q hq => by cases hq), rfl, ⟨_, ⟨D, a, hP, hok, fun q => (hf.sep nb q).2 hmem, rfl⟩, ⟨hb, hf.x⟩, fun k hk => hk⟩, (fun x hx => by cases hx), HX.rw_nil _ _ _ _, fun k hk => ?_, (fun k ⟨x, hx, _⟩ => by cases hx), (fun k hk => (row0_F hk).elim), hf.chg⟩
    rcases hk with rfl | hk
    · exact ⟨.inl Fnb, hf.id_lt hmem⟩
    · exact ⟨.inl (hsub k hk), (hf.sep k hk).1⟩
  have h : P.phase = 2 := by rw [hph]; simpa using h
  obtain ⟨D1, eD1⟩ : ∃ D1, D1 = Pr.fill kdP ex D.queue.length D := ⟨_, rfl⟩
  have hPg : P.goes Vl.k ex = ({ D1.map Pv.v with fresh := [] }, msTo D1 D1.fresh.length) := by
    have e1 : D1.map Pv.v = Pr.fill Vl.k ex P.queue.length P := by
      rw [eD1, show (kdP : Pv → Int) = fun x => Vl.k (Pv.v x) from rfl, map_fill Pv.v Vl.k ex, hP]
      congr 1
      rw [← hP]; exact (List.length_map _).symm
    unfold Pr.goes
    rw [if_pos h]
    dsimp only
    rw [← e1]
    refine Prod.ext rfl ?_
    unfold Pr.msgs msTo
    rw [List.take_length]; rfl
  rw [hPg]
  refine ⟨fun vs hx' => ∃ a1, vs = prVs D1 a1 ∧ POk D1 a1 ∧ (∀ k, (prX D1 a1).F k → w.heap.size ≤ k ∨ F k) ∧ D1.fresh.length ≤ 10000 ∧ hx' = HX.nil.and (prX D1 a1), ?_, ?_⟩
  · refine ⟨Go3 w F D D1 ex, fun ids w2 hp hf => ⟨HX.nil.and (prX D a), D.queue.length, ⟨⟨trivial, hf.x⟩, fun k hk => hk.elim False.elim (hf.sep k)⟩, D, a, rfl, by kernel_rfl, hok, fun hq => ?_, eD1.symm, Nat.le_refl _, ⟨rfl, rfl, rfl, Int.le_refl _, hn0.2⟩, fun k hk => .inr (hsub k hk), rfl⟩, ?_⟩
    · obtain ⟨p, q, e⟩ := List.exists_cons_of_ne_nil hq
      exact (q_cells hf.x.2 e).1
    rintro vs hx' n hcnt ⟨Dc, ac, rfl, rfl, hokc, hs, hfill, hlen, ⟨g1, g2, g3, g4, g5⟩, hown, rfl⟩
    have out : (Dc.queue = [] ∨ ¬ (Dc.next - Dc.window ≤ ex ∧ Dc.next ≤ 1099511627776)) → ∀ {m : Mem} {ρ : Env} {I : Vals → HX → Prop} {S : Stack} {es : Vec}, (∀ ids, es.den ρ ids = prVs Dc ac) → (Tree.again 7 es m).holds ⟨Try.prog, w, F, PrGo w F nb ({ D1.map Pv.v with fresh := [] } : Pr Vl) (msTo D1 D1.fresh.length)⟩ ρ [nb] (HX.nil.and (prX Dc ac)) ((3, I) :: (7, fun vs hx' => ∃ a1, vs = prVs D1 a1 ∧ POk D1 a1 ∧ (∀ k, (prX D1 a1).F k → w.heap.size ≤ k ∨ F k) ∧ D1.fresh.length ≤ 10000 ∧ hx' = HX.nil.and (prX D1 a1)) :: S) := fun hq {m ρ I S es} hv => by
      have e : Dc = D1 := by rw [← hfill, fill_stop hq]
      refine again_V (prVs Dc ac) rfl hv _ (fun w2 ids hf => ⟨hf.x, hf.sep⟩) ⟨ac, by rw [e], e ▸ hokc, e ▸ hown, ?_, by rw [e]⟩
      rw [← e]; omega
    have hwr : IntKind.i64.wrap (Dc.next - Dc.window) = Dc.next - Dc.window := wrap_i64 (by omega)
    refine br_D (p := (Dc.queue.length : Int) > 0) (by kernel_rfl) (fun h1 => ?_) (fun h1 => out (.inl (List.length_eq_zero_iff.1 (by omega))) (by intros; kernel_rfl))
    refine br_D (p := ex ≥ IntKind.i64.wrap (Dc.next - Dc.window)) (by kernel_rfl) (fun h2 => ?_) (fun h2 => out (.inr (by rw [hwr] at h2; omega)) (by intros; kernel_rfl))
    refine br_D (p := Dc.next ≤ 1099511627776) (by kernel_rfl) (fun h3 => ?_) (fun h3 => out (.inr (by omega)) (by intros; kernel_rfl))
    clear out
    rw [hwr] at h2
    obtain ⟨p, q, hq⟩ : ∃ p q, Dc.queue = p :: q := List.exists_cons_of_ne_nil (by intro e; rw [e] at h1; simp at h1)
    have hs := hs (by rw [hq]; simp)
    have hpG := hokc.gq p (by rw [hq]; exact List.mem_cons_self)
    have hql : Dc.queue.length = q.length + 1 := by rw [hq]; rfl
    refine par_i ?x ?y
    case' x =>
      refine need_k (ac.aq.isSome = true ∧ (0 : Int) ≤ 0 ∧ (0 : Int) < (Dc.queue.length : Int)) (by kernel_rfl) ⟨hs, by omega, by omega⟩ ?_
    case' y =>
      refine need_k (ac.aq.isSome = true ∧ (0 : Int) ≤ 0 ∧ (0 : Int) < (Dc.queue.length : Int)) (by kernel_rfl) ⟨hs, by omega, by omega⟩ ?_
      refine par_i ?_ ?_
    all_goals
      refine node_ldk ⟨[p.v.k], [], [], [p.v.cs.length, p.c1, p.v.ns.length, p.c2], [p.a1, p.a2]⟩ (fun _ => .pointer (some (((ac.aq.getD ⟨0, 0, none⟩).add (0 * 3)).add 0))) p.cells (by intros; kernel_rfl) (by intros; kernel_rfl) (fun ids w2 hp hf => (q_cells hf.x.2.2 hq).2) (by kernel_rfl) oneNil ?_
      refine node_pset (D := Dc) (D' := Dc.ask kdP Dc.next p) (a := ac) (fun ids => #[.pointer (some ⟨idAt ids 0, 0, none⟩), .int .i64 Dc.next, p.val]) rfl rfl (by intros; kernel_rfl) (by intros; kernel_rfl) (fun ids w2 hp hf hb hn hs => ask_any Dc.next p hb hf.x.2 hokc hn hs hpG.1 hpG.2 (by omega)) (by intros; kernel_rfl) (by intros; kernel_rfl) (fun k hk => ⟨fun q => q, hown k hk⟩) (by kernel_rfl) (by intros; kernel_rfl) ?_
      intro a2 hok2 hdis
      refine node_from (e := 31) (sz := 3) (n := Dc.queue.length) (cap := a2.cq) (l := 1) a2.aq Try.underlying57 (by kernel_rfl) info_val (by intros; kernel_rfl) (by intros; kernel_rfl) (by omega) (by intros; kernel_rfl) (by kernel_rfl) (by kernel_rfl) (by kernel_rfl) ?_
      obtain ⟨D2, eD2⟩ : ∃ D2 : Pr Pv, D2 = { Dc.ask kdP Dc.next p with queue := q, next := Dc.next + 1 } := ⟨_, rfl⟩
      obtain ⟨a3, ea3⟩ : ∃ a3 : PA, a3 = { a2 with aq := sliA a2.aq 1 a2.cq 3, cq := a2.cq - 1 } := ⟨_, rfl⟩
      have hwn : IntKind.i64.wrap (Dc.next + 1) = Dc.next + 1 := wrap_i64 (by omega)
      have hdrop : (qcs Dc.queue).drop 3 = qcs q := by rw [hq]; show (p.cells ++ qcs q).drop 3 = _; exact List.drop_left (l₁ := p.cells)
      have hqF : ∀ k, (qrow a3.aq a3.cq q).F k → (qrow a2.aq a2.cq Dc.queue).F k := fun k hk => by
        rw [ea3] at hk
        refine tw_tail_F (n := Dc.queue.length) (xs := qcs Dc.queue) ?_
        rw [hdrop, hql]; exact hk
      have hXF : ∀ k, (prX D2 a3).F k → (prX (Dc.ask kdP Dc.next p) a2).F k := fun k hk => by
        rw [eD2] at hk
        rcases hk with hk | hk
        · rw [ea3] at hk; exact .inl hk
        · exact .inr (hqF k hk)
      have hok3 : POk D2 a3 := by
        rw [eD2, ea3]
        refine ⟨hok2.gm, hok2.gz, hok2.gb, hok2.go, (fun x hx => hok2.gq x (by show x ∈ Dc.queue; rw [hq]; exact List.mem_cons_of_mem _ hx)), ?_⟩
        exact hok2.dj.set (i := 5) (a' := qrow (sliA a2.aq 1 a2.cq 3) (a2.cq - 1) q) rfl fun k hk => .inl (hqF k (by rw [ea3]; exact hk))
      intro ids w2 hp hf
      have hX2 := hf.x.2
      have hX3 : (prX D2 a3).X w2 := by
        rw [eD2, ea3]
        refine ⟨hX2.1, ?_⟩
        have := tw_tail (n := Dc.queue.length) hX2.2 (by omega)
        rw [show (qcs (Dc.ask kdP Dc.next p).queue) = qcs Dc.queue from rfl, hdrop, hql] at this
        exact this
      refine ⟨HX.nil.and (prX D2 a3), ⟨⟨trivial, hX3⟩, fun k hk => hk.elim False.elim fun z => hf.sep k (.inr (hXF k z))⟩, _, rfl, q.length, by omega, D2, a3, by rw [eD2], ?_, hok3, fun hq2 => ?_, ?_, ?_, ?_, fun k hk => (hdis k (hXF k hk)).2, rfl⟩
      · refine Eq.trans (b := (⟨[Dc.me, Dc.window, Dc.phase, Dc.r, Dc.n, Dc.frm, IntKind.i64.wrap (Dc.next + 1)], [(Dc.ask kdP Dc.next p).stop], [.map (some a2.bb), .map (some a2.bo)], [Dc.mem.length, a2.cm, Dc.said.length, a2.cs, (Dc.fresh ++ [Dc.next]).length, a2.cf, Dc.queue.length - 1, a2.cq - 1], [a2.am, a2.as_, a2.af, sliA a2.aq 1 a2.cq 3]⟩ : Vals)) (by kernel_rfl) ?_
        rw [hwn, eD2, ea3, hql]; rfl
      · obtain ⟨x, y, e⟩ := List.exists_cons_of_ne_nil hq2
        exact (q_cells hX3.2 e).1
      · rw [← hfill, hql, fill_go hq ⟨by omega, h3⟩, ← eD2, eD2]
      · rw [eD2]
        show (Dc.fresh ++ [Dc.next]).length + q.length ≤ _
        rw [List.length_append]; simp only [List.length_cons, List.length_nil]; omega
      · rw [eD2]
        exact ⟨g1, g2, g3, (by show D.next ≤ Dc.next + 1; omega), (by show Dc.next + 1 ≤ _; omega)⟩
  rintro vs hx' hcnt ⟨a1, rfl, hok1, hown1, hfl, rfl⟩
  obtain ⟨B, eB⟩ : ∃ B, B = HX.nil.and (prX D1 a1) := ⟨_, rfl⟩
  have Bx : ∀ {w}, B.X w → (prX D1 a1).X w := fun h => by rw [eB] at h; exact h.2
  rw [← eB]
  refine ⟨Go9 w B D1 a1, fun ids w2 hp hf => ⟨(B.and (mall [])).and (mrow none 0 D1.r D1.n []), D1.fresh.length, ⟨⟨⟨hf.x, (fun x hx => by cases hx)⟩, HX.rw_nil _ _ _ _⟩, fun k hk => ?_⟩, fun hq => ?_, 0, none, 0, [], rfl, Nat.zero_le _, by kernel_rfl, rfl, (fun q hq => by cases hq), Nat.le_refl _, (fun k ⟨x, hx, _⟩ => by cases hx), (fun k h => absurd rfl h), rfl⟩, ?_⟩
  · rcases hk with (hk | ⟨x, hx, _⟩) | hk
    · exact hf.sep k hk
    · cases hx
    · exact (row0_F hk).elim
  · obtain ⟨s, q, e⟩ := List.exists_cons_of_ne_nil hq
    exact (f_cells (Bx hf.x).1.2 (j := 0) (s := s) (by rw [e]; rfl)).1
  rintro vs hx' n hcnt2 ⟨hs, j, ma, mc, mp, rfl, hj, rfl, m1, m2, m3, m4, m5, rfl⟩
  refine br_D (p := (j : Int) < (D1.fresh.length : Int)) (by kernel_rfl) (fun hjl => ?_) (fun hjl => ?_)
  · have hjl : j < D1.fresh.length := by omega
    obtain ⟨s, hsj⟩ : ∃ b, D1.fresh[j]? = some b := ⟨_, List.getElem?_eq_getElem hjl⟩
    have hms : msTo D1 (j + 1) = msTo D1 j ++ ((mlk (mmap Pv.v D1.out) s).map fun v => (s, v)).toList := by
      unfold msTo
      rw [List.take_add_one, hsj, List.filterMap_append]
      congr 1
    refine ⟨fun vs hx' => ∃ ma mc mp, vs = ⟨[], [], [], [mp.length, mc], [ma]⟩ ∧ GoS w B D1 (j + 1) ma mc mp hx', ?_, ?_⟩
    · refine need_k (a1.af.isSome = true ∧ 0 ≤ (j : Int) ∧ (j : Int) < (D1.fresh.length : Int)) (by kernel_rfl) ⟨hs (by intro e; rw [e] at hjl; simp at hjl), by omega, by omega⟩ ?_
      refine node_ldk ⟨[s], [], [], [], []⟩ (fun _ => .pointer (some (((a1.af.getD ⟨0, 0, none⟩).add (j * 1)).add 0))) [.int .i64 s] (by intros; kernel_rfl) (by intros; kernel_rfl) (fun ids w2 hp hf => (f_cells (Bx hf.x.1.1).1.2 hsj).2) (by kernel_rfl) oneNil ?_
      obtain ⟨p0, ep0⟩ : ∃ p0, p0 = (mlk D1.out s).getD pz := ⟨_, rfl⟩
      refine node_vlook (z := pz.val) (mt := 75) (kt := 3) (et := 31) ⟨[p0.v.k], [(mlk D1.out s).isSome], [], [p0.v.cs.length, p0.c1, p0.v.ns.length, p0.c2], [p0.a1, p0.a2]⟩ a1.bo (mmap Pv.val D1.out) s (fun w h => (Bx h.1.1).1.1.1.2) (by intros; kernel_rfl) (by intros; kernel_rfl) Try.underlying75 Try.underlying3 (fun w => by kernel_rfl) (fun ids => ?_) (by kernel_rfl) (by kernel_rfl) (by kernel_rfl) oneNil ?_
      · have : Value.tuple #[(vlk (mmap Pv.val D1.out) s).getD pz.val, .bool (vlk (mmap Pv.val D1.out) s).isSome] = .tuple #[p0.val, .bool (mlk D1.out s).isSome] := by
          rw [vlk_is, mlk_map, ep0]
          cases mlk D1.out s <;> rfl
        exact Eq.trans (b := Value.tuple #[p0.val, .bool (mlk D1.out s).isSome]) (by kernel_rfl) this.symm
      refine br_B ((mlk D1.out s).isSome) (by kernel_rfl) (fun hsome => ?_) (fun hsome => ?_)
      · obtain ⟨u, hu⟩ := Option.isSome_iff_exists.1 hsome
        have hp0 : p0 = u := by rw [ep0, hu]; rfl
        have hfit : VlFit p0.v := by rw [hp0]; exact (hok1.go _ (mlk_mem hu)).2
        refine node_vl (V := accV D1.r D1.n s) (v := p0.v) (fun ids => #[.pointer (some ⟨idAt ids 0, 0, none⟩), .int .i64 s]) (fun b1 d1 b2 d2 => ⟨[4, 0, 0, 0, D1.r, D1.n, s, 0, 0, p0.v.k, 0, 0, 0, 0, 0, 0, 0, 0, 0, 0, 0], [], [], [p0.v.cs.length, d1, p0.v.ns.length, d2, 0, 0, 0, 0], [b1, b2, none, none]⟩) (by intros; kernel_rfl) (fun ids w2 hp hf => ?_) (by intros; kernel_rfl) (by kernel_rfl) (by kernel_rfl) (by intros; kernel_rfl) (fun _ _ _ _ => oneNil) ?_
        · have hb := hf.blk 0 77 _ rfl
          have hm0 : idAt ids 0 ∈ ids := idAt_mem (ids := ids) (n := 0) (by rw [hf.len]; simp)
          have hb : Blk w2 (idAt ids 0) (prC D1 a1) 77 := hb
          have := acc_any s hb (Bx hf.x.1.1) hok1 (fun q => (hf.sep _ (.inl (.inl (by rw [eB]; exact .inr q)))).2 hm0) (fun k hk => (hf.sep k (.inl (.inl (by rw [eB]; exact .inr hk)))).1)
          rw [← ep0] at this; exact this
        intro b1 d1 b2 d2 hfr
        obtain ⟨p, ep⟩ : ∃ p : Pv, p = ⟨p0.v, b1, d1, b2, d2⟩ := ⟨_, rfl⟩
        have epx : vlX p0.v b1 b2 = p.hx := by rw [ep]; rfl
        rw [epx] at hfr ⊢
        have e1 : ((B.and (mall mp)).and (mrow ma mc D1.r D1.n mp)).and p.hx = (B.and (mall (mp ++ [(s, p)]))).and (mrow ma mc D1.r D1.n mp) := by rw [mall_snoc]; ac_rfl
        refine holds_eq e1 ?_
        refine node_pushs (e := 41) (sz := 25) rfl Try.underlying52 info_msg rfl (by decide) ma mp.length mc (mcells D1.r D1.n mp) (mgC D1.r D1.n (s, p)) 2 (by intros; kernel_rfl) (by intros; kernel_rfl) rfl (fun ids => by rw [ep]; kernel_rfl) rfl (mgC_one _ _ _) (fun k q1 q2 => ?_) (fun k q1 q2 => .inl (m5 k q1 q2).1) (by unfold maxLen; omega) (by omega) (by intros; kernel_rfl) (by kernel_rfl) (by kernel_rfl) (by intros; kernel_rfl) ?_
        · rw [mall_snoc]
          rintro (z | (z | z))
          · exact (m5 k q1 q2).2 (.inl z)
          · exact (m5 k q1 q2).2 (.inr z)
          · exact (hfr k z).2 (.inr ⟨q1, q2⟩)
        intro ma' mc' hc' hr' hor'
        have hrow : HX.rw 25 41 ma' (mp.length + 1) mc' (mcells D1.r D1.n mp ++ mgC D1.r D1.n (s, p)) = mrow ma' mc' D1.r D1.n (mp ++ [(s, p)]) := by
          unfold mrow mcells; rw [List.length_append, List.flatMap_append]; simp
        rw [hrow]
        refine again_V ⟨[], [], [], [mp.length + 1, mc'], [ma']⟩ rfl (by intros; kernel_rfl) _ (fun w2 ids hf => ⟨hf.x, hf.sep⟩) ⟨ma', mc', mp ++ [(s, p)], by rw [List.length_append]; rfl, ?_, fun x hx => ?_, by rw [List.length_append]; exact Nat.succ_le_succ m3, fun k hk => ?_, fun k q1 q2 => ?_, rfl⟩
        · rw [hms, mlk_map, hu]
          show mmap Pv.v (mp ++ [(s, p)]) = msTo D1 j ++ [(s, u.v)]
          unfold mmap at m1 ⊢
          rw [List.map_append, m1, ep, hp0]; rfl
        · rcases List.mem_append.1 hx with hx | hx
          · exact m2 x hx
          · rw [List.mem_singleton.1 hx, ep]; exact hfit
        · rw [mall_snoc] at hk
          rcases hk with hk | hk
          · exact m4 k hk
          · exact ⟨(hfr k hk).1, fun z => (hfr k hk).2 (.inl (.inl z))⟩
        · refine ⟨?_, hr' k q2⟩
          rcases hor' with ⟨r1, r2⟩ | ⟨g, r1, r2, _⟩
          · exact (m5 k r1 (by rw [← r2]; exact q2)).1
          · rw [r1] at q2; cases q2; exact r2
      · have hnone : mlk D1.out s = none := by cases e : mlk D1.out s with | none => rfl | some x => rw [e] at hsome; cases hsome
        refine again_V ⟨[], [], [], [mp.length, mc], [ma]⟩ rfl (by intros; kernel_rfl) _ (fun w2 ids hf => ⟨hf.x, hf.sep⟩) ⟨ma, mc, mp, rfl, ?_, m2, Nat.le_succ_of_le m3, m4, m5, rfl⟩
        rw [hms, mlk_map, hnone, m1]; exact (List.append_nil _).symm
    · rintro vs hx' hcnt3 ⟨ma', mc', mp', rfl, hG⟩
      have hwj : IntKind.i64.wrap ((j : Int) + 1) = ((j + 1 : Nat) : Int) := by rw [wrap_i64 (by omega)]; omega
      exact again_V ⟨[IntKind.i64.wrap ((j : Int) + 1)], [], [], [mp'.length, mc'], [ma']⟩ rfl (by intros; kernel_rfl) hx' (fun w2 ids hf => ⟨hf.x, hf.sep⟩) ⟨D1.fresh.length - (j + 1), by omega, hs, j + 1, ma', mc', mp', rfl, by omega, by rw [hwj], hG⟩
  · have hjj : j = D1.fresh.length := by omega
    rw [hjj] at m1
    intro ids w2 hp hf
    have hb := hf.blk 0 77 _ rfl
    rw [idAt0 hp] at hb
    have hmem : nb ∈ ids := by obtain ⟨x, rfl⟩ := hp; simp
    have hX1 := Bx hf.x.1.1
    have hBF : ∀ k, (prX D1 a1).F k → B.F k := fun k hk => by rw [eB]; exact .inr hk
    have hF2 : ∀ k, (prX ({ D1 with fresh := [] } : Pr Pv) { a1 with af := none, cf := 0 }).F k → (prX D1 a1).F k := fun k hk => by
      rcases hk with ((((hk | hk) | hk) | hk) | hk) | hk
      · exact .inl (.inl (.inl (.inl (.inl hk))))
      · exact .inl (.inl (.inl (.inl (.inr hk))))
      · exact .inl (.inl (.inl (.inr hk)))
      · exact .inl (.inl (.inr hk))
      · exact (row0_F hk).elim
      · exact .inr hk
    refine ⟨mp, ma, mc, fun k => k = nb ∨ (prX ({ D1 with fresh := [] } : Pr Pv) { a1 with af := none, cf := 0 }).F k, m1, m2, rfl, ⟨_, ⟨{ D1 with fresh := [] }, { a1 with af := none, cf := 0 }, rfl, ⟨hok1.gm, hok1.gz, hok1.gb, hok1.go, hok1.gq, hok1.dj.set (i := 4) (a' := irow none 0 []) rfl fun k hk => (row0_F hk).elim⟩, fun q => (hf.sep nb (.inl (.inl (hBF nb (hF2 nb q))))).2 hmem, rfl⟩, ⟨hb, ⟨⟨hX1.1.1, HX.rw_nil _ _ _ _⟩, hX1.2⟩⟩, fun k hk => hk⟩, hf.x.1.2, hf.x.2, fun k hk => ?_, fun k hk => ⟨(m4 k hk).1, (hf.sep k (.inl (.inr hk))).1, fun z => ?_⟩, fun k hk => ⟨(m5 k hk.1 hk.2).1, (hf.sep k (.inr hk)).1, fun z => ?_, fun z => (m5 k hk.1 hk.2).2 (.inr z)⟩, hf.chg⟩
    · rcases hk with rfl | hk
      · exact ⟨.inl Fnb, hf.id_lt hmem⟩
      · exact ⟨(hown1 k (hF2 k hk)).symm, (hf.sep k (.inl (.inl (hBF k (hF2 k hk))))).1⟩
    · rcases z with rfl | z
      · exact (hf.sep k (.inl (.inr hk))).2 hmem
      · exact (m4 k hk).2 (hBF k (hF2 k z))
    · rcases z with rfl | z
      · exact (hf.sep k (.inr hk)).2 hmem
      · exact (m5 k hk.1 hk.2).2 (.inl (hBF k (hF2 k z)))
end
end Go.Proofs.Ytlgpjjgkdpmidaa

namespace Go.Proofs.Ytlgpjjgkdpmidaa
open Go.ChangeShapes Go.WideShapes Go.ChangeAt Go.RowKit Go.Syn Go.Eng Go.MapKept
set_option linter.unusedVariables false
set_option linter.unusedSimpArgs false
set_option maxRecDepth 100000
def vsE : Int → List (Vo Vl) → Int
  | _, [] => 0
  | frm, x :: r => if x.s < frm ∨ x.s > 1099511627776 then 26 else if balB x.r x.n = false then 27 else if valE x.v ≠ 0 then valE x.v else vsE (x.s + 1) r
def chkVs (frm : Int) (vs : List (Vo Vl)) : Int := if vs.length > 64 then 26 else vsE frm vs
def proE (r n slot low : Int) (vs : List (Vo Vl)) : Int := if (1 ≤ slot ∧ slot ≤ 1099511627776) ∧ 0 ≤ low ∧ low ≤ 1099511627776 then if balB r n = true then chkVs slot vs else 27 else 26
def voC (x : Vo Pv) : List Value := [.int .i64 x.s, .int .i64 x.r, .int .i64 x.n, .int .i64 x.v.v.k, .slice x.v.a1 x.v.v.cs.length x.v.c1, .slice x.v.a2 x.v.v.ns.length x.v.c2]
def vocs (xs : List (Vo Pv)) : List Value := xs.flatMap voC
theorem voc_len (x : Vo Pv) : (voC x).length = 6 := rfl
def voX (a : Option Addr) (xs : List (Vo Pv)) : HX := (HX.cl a (vocs xs)).and (HX.all (xs.map fun x => x.v.hx))
def vlsOf (xs : List (Vo Pv)) : List (Vo Vl) := xs.map (Vo.map Pv.v)
section
variable {w : World} {a : Option Addr} {xs : List (Vo Pv)}
theorem voX_sep (h : (voX a xs).X w) : ∀ k, (voX a xs).F k → k < w.heap.size := fun k hk => by
  rcases hk with hk | ⟨y, hy, hk⟩
  · exact cl_sep h.1 k hk
  · obtain ⟨x, hx, rfl⟩ := List.mem_map.1 hy
    exact vlX_sep (h.2 _ hy) k hk
theorem voX_at (h : (voX a xs).X w) (hf : ∀ x ∈ xs, VlFit x.v.v) {x : Vo Pv} (hx : x ∈ xs) : VlAt w x.v.v x.v.a1 x.v.a2 := (hf x hx).at_ (h.2 _ (List.mem_map.2 ⟨x, hx, rfl⟩))
theorem vo_cells (h : (voX a xs).X w) {i : Nat} {x : Vo Pv} (hi : xs[i]? = some x) (us : List Value) (hu : us = voC x ∨ us = [.int .i64 x.s]) : a.isSome = true ∧ CellsAt w (.pointer (some (((a.getD ⟨0, 0, none⟩).add (i * 6)).add 0))) us (fun _ => False) := by
  obtain ⟨h1, h2⟩ := flat_part voc_len h.1 hi (o := 0) us (fun j u hj => by
    rw [Nat.zero_add]
    rcases hu with rfl | rfl
    · exact hj
    · cases j with
      | zero => exact hj
      | succ j => simp at hj) (by rcases hu with rfl | rfl <;> simp [voC])
  exact ⟨h1, h2 _ id⟩
def CvI (a : Option Addr) (xs : List (Vo Pv)) (f0 : Int) (vs : Vals) (hx : HX) (m : Nat) : Prop := ∃ (k : Nat) (f : Int), m = xs.length - k ∧ k ≤ xs.length ∧ -9223372036854775808 ≤ f ∧ vs = ⟨[f, (k : Int)], [], [], [], []⟩ ∧ vsE f (vlsOf (xs.drop k)) = vsE f0 (vlsOf xs) ∧ hx = voX a xs
theorem chkvs_any (cap : Nat) (f0 : Int) (w : World) (H : (voX a xs).X w) (hf : ∀ x ∈ xs, VlFit x.v.v) (h0 : -9223372036854775808 ≤ f0) : Calls Try.prog 59 #[.slice a xs.length cap, .int .i64 f0] w (PureAt w (.int .i64 (chkVs f0 (vlsOf xs)))) := by
  refine calls_at (tab_ok _) Try.func59 rfl tChkVs (ρ := ⟨[f0], [], [], [xs.length, cap], [a]⟩) (ids := []) (hx := voX a xs) rfl (Facts.initq rfl oneNil H (voX_sep H)) ?_
  have hl : (vlsOf xs).length = xs.length := List.length_map _
  refine br_D (p := (xs.length : Int) > 64) (by kernel_rfl) (fun h => pure_done fun _ => ?_) (fun h => ?_)
  · unfold chkVs; rw [if_pos (by omega)]; rfl
  have hc : chkVs f0 (vlsOf xs) = vsE f0 (vlsOf xs) := by unfold chkVs; rw [if_neg (by omega)]
  rw [hc]
  refine ⟨CvI a xs f0, fun ids w2 hp hf => ⟨_, xs.length, ⟨hf.x, hf.sep⟩, 0, f0, rfl, Nat.zero_le _, h0, rfl, by rw [List.drop_zero], rfl⟩, ?_⟩
  rintro vs hx' n hcnt ⟨k, f, rfl, hk, hf0, rfl, he, rfl⟩
  refine holds_env (ρ' := ⟨[f0, f, (k : Int)], [], [], [xs.length, cap], [a]⟩) rfl ?_
  refine br_D (p := (k : Int) < (xs.length : Int)) (by kernel_rfl) (fun hkl => ?_) (fun hkl => ?_)
  · have hkl : k < xs.length := by omega
    obtain ⟨x, hx⟩ : ∃ b, xs[k]? = some b := ⟨_, List.getElem?_eq_getElem hkl⟩
    have hd : xs.drop k = x :: xs.drop (k + 1) := by
      rw [List.drop_eq_getElem_cons hkl]
      rw [List.getElem?_eq_getElem hkl] at hx
      rw [Option.some.inj hx]
    have he2 : vsE f0 (vlsOf xs) = if x.s < f ∨ x.s > 1099511627776 then 26 else if balB x.r x.n = false then 27 else if valE x.v.v ≠ 0 then valE x.v.v else vsE (x.s + 1) (vlsOf (xs.drop (k + 1))) := by
      rw [← he, hd]; rfl
    obtain ⟨s1, q1⟩ := vo_cells H hx (voC x) (.inl rfl)
    refine need_k (a.isSome = true ∧ 0 ≤ (k : Int) ∧ (k : Int) < (xs.length : Int)) (by kernel_rfl) ⟨s1, by omega, by omega⟩ ?_
    refine node_ld0 (k := ⟨3, 0, 0, 2, 1⟩) ⟨[x.s, x.r, x.n, x.v.v.k], [], [], [x.v.v.cs.length, x.v.c1, x.v.v.ns.length, x.v.c2], [x.v.a1, x.v.a2]⟩ (.pointer (some (((a.getD ⟨0, 0, none⟩).add (k * 6)).add 0))) (voC x) (by intros; kernel_rfl) (by intros; kernel_rfl) q1 ⟨by kernel_rfl, oneNil⟩ (by kernel_rfl) oneNil ?_
    refine br_D (p := x.s < f) (by kernel_rfl) (fun h => pure_done fun _ => by rw [he2, if_pos (.inl h)]; rfl) (fun h1 => ?_)
    refine br_D (p := x.s > 1099511627776) (by kernel_rfl) (fun h => pure_done fun _ => by rw [he2, if_pos (.inr h)]; rfl) (fun h2 => ?_)
    rw [if_neg (by omega)] at he2
    refine node_PI ⟨[], [balB x.r x.n], [], [], []⟩ (fun _ => #[.agg #[.int .i64 x.r, .int .i64 x.n]]) (.bool (balB x.r x.n)) (by intros; kernel_rfl) (by intros; kernel_rfl) (by kernel_rfl) (by kernel_rfl) (by kernel_rfl) oneNil (fun ids w2 hp hf => valid_any x.r x.n w2) ?_
    refine br_B (!(balB x.r x.n)) (by kernel_rfl) (fun h => pure_done fun _ => by rw [he2, if_pos (by simpa using h)]; rfl) (fun h3 => ?_)
    rw [if_neg (by rw [show balB x.r x.n = true by simpa using h3]; decide)] at he2
    refine node_PI ⟨[valE x.v.v], [], [], [], []⟩ (fun _ => #[x.v.val]) (.int .i64 (valE x.v.v)) (by intros; kernel_rfl) (by intros; kernel_rfl) (by kernel_rfl) (by kernel_rfl) (by kernel_rfl) oneNil (fun ids w2 hp hf2 => vchk_any _ _ _ _ _ w2 (voX_at hf2.x hf (List.mem_of_getElem? hx))) ?_
    refine br_B (valE x.v.v != 0) (by kernel_rfl) (fun h => pure_done fun _ => by rw [he2, if_pos (by simpa using h)]; rfl) (fun h4 => ?_)
    rw [if_neg (by simpa using h4)] at he2
    have hwk : IntKind.i64.wrap ((k : Int) + 1) = ((k + 1 : Nat) : Int) := by rw [wrap_i64 (by omega)]; omega
    have hws : IntKind.i64.wrap (x.s + 1) = x.s + 1 := wrap_i64 (by omega)
    exact again_V ⟨[IntKind.i64.wrap (x.s + 1), IntKind.i64.wrap ((k : Int) + 1)], [], [], [], []⟩ rfl (by intros; kernel_rfl) _ (fun w2 ids hf => ⟨hf.x, hf.sep⟩) ⟨xs.length - (k + 1), by omega, k + 1, x.s + 1, rfl, by omega, by omega, by rw [hwk, hws], he2.symm, rfl⟩
  · refine pure_done fun _ => ?_
    rw [← he, List.drop_eq_nil_of_le (by omega)]; rfl
end
def proM (r n slot low : Int) (q : Value) : Value := .agg #[.int .i64 2, .int .i64 0, .int .i64 0, .int .i64 0, .int .i64 r, .int .i64 n, .int .i64 slot, .int .i64 low, .int .i64 0, .int .i64 0, .slice none 0 0, .slice none 0 0, q, .int .i64 0, .int .i64 0, .int .i64 0, .int .i64 0, .int .i64 0, .int .i64 0, .int .i64 0, .int .i64 0, .int .i64 0, .int .i64 0, .int .i64 0, .slice none 0 0]
def mgZ : Value := .agg #[.int .i64 0, .int .i64 0, .int .i64 0, .int .i64 0, .int .i64 0, .int .i64 0, .int .i64 0, .int .i64 0, .int .i64 0, .int .i64 0, .slice none 0 0, .slice none 0 0, .slice none 0 0, .int .i64 0, .int .i64 0, .int .i64 0, .int .i64 0, .int .i64 0, .int .i64 0, .int .i64 0, .int .i64 0, .int .i64 0, .int .i64 0, .int .i64 0, .slice none 0 0]
theorem mwithin_any (x lo hi : Int) (w : World) : Calls Try.prog 56 #[.int .i64 x, .int .i64 lo, .int .i64 hi] w (PureAt w (.bool (decide (lo ≤ x) && decide (x ≤ hi)))) := by
  refine calls_at (tab_ok _) Try.func56 rfl tWithin (ρ := ⟨[x, lo, hi], [], [], [], []⟩) (ids := []) rfl (Facts.initP rfl oneNil) ?_
  by_cases h : lo ≤ x
  · refine br_T (decide (lo ≤ x)) (by kernel_rfl) (decide_eq_true h) ?_
    rw [decide_eq_true h, Bool.true_and]
    exact pure_done (by intros; kernel_rfl)
  · refine br_F (decide (lo ≤ x)) (by kernel_rfl) (decide_eq_false h) ?_
    rw [decide_eq_false h, Bool.false_and]
    exact pure_done (by intros; kernel_rfl)
theorem mwithin_in {x lo hi : Int} (h : lo ≤ x ∧ x ≤ hi) (w : World) : Calls Try.prog 56 #[.int .i64 x, .int .i64 lo, .int .i64 hi] w (PureAt w (.bool true)) := by
  have := mwithin_any x lo hi w
  rw [decide_eq_true h.1, decide_eq_true h.2] at this
  exact this
theorem uses2_any (w : World) : Calls Try.prog 55 #[.int .i64 2] w (PureAt w (.int .i64 39)) := by
  refine calls_at (tab_ok _) Try.func55 rfl tUses2 (ρ := ⟨[], [], [], [], []⟩) (ids := []) rfl (Facts.initP rfl oneNil) (pure_done (by intros; kernel_rfl))
theorem bare2_any (r n slot low : Int) (a : Option Addr) (l c : Nat) (w : World) : Calls Try.prog 58 #[proM r n slot low (.slice a l c), .int .i64 39] w (PureAt w mgZ) := by
  refine calls_at (tab_ok _) Try.func58 rfl tBare2 (ρ := ⟨[r, n, slot, low], [], [], [l, c], [a]⟩) (ids := []) rfl (Facts.initP rfl oneNil) (pure_done (by intros; kernel_rfl))
theorem empty0_any (w : World) : Calls Try.prog 57 #[mgZ] w (PureAt w (.bool true)) := by
  refine calls_at (tab_ok _) Try.func57 rfl tEmpty0 (ρ := ⟨[], [], [], [], []⟩) (ids := []) rfl (Facts.initP rfl oneNil) ?_
  repeat' (first | exact pure_done (by intros; kernel_rfl) | refine br_t (by kernel_rfl) ?_ | refine br_f (by kernel_rfl) ?_)
theorem mchkP_any {a : Option Addr} {xs : List (Vo Pv)} (cap : Nat) (r n slot low : Int) (w : World) (H : (voX a xs).X w) (hf : ∀ x ∈ xs, VlFit x.v.v) : Calls Try.prog 39 #[proM r n slot low (.slice a xs.length cap)] w (PureAt w (.int .i64 (proE r n slot low (vlsOf xs)))) := by
  refine calls_at (tab_ok _) Try.func39 rfl tMChk2 (ρ := ⟨[r, n, slot, low], [], [], [xs.length, cap], [a]⟩) (ids := []) (hx := voX a xs) rfl (Facts.initq rfl oneNil H (voX_sep H)) ?_
  have bad : ∀ {m : Mem} {ρ : Env} {pre : List Nat} {hx : HX} {S : Stack}, ¬ ((1 ≤ slot ∧ slot ≤ 1099511627776) ∧ 0 ≤ low ∧ low ≤ 1099511627776) → (Tree.done (.lf (.int .i64 (.lit 26))) m).holds ⟨Try.prog, w, fun _ => False, PureAt w (.int .i64 (proE r n slot low (vlsOf xs)))⟩ ρ pre hx S := fun h => pure_done fun _ => by unfold proE; rw [if_neg h]; rfl
  refine node_PI ⟨[39], [], [], [], []⟩ (fun _ => #[.int .i64 2]) (.int .i64 39) (by intros; kernel_rfl) (by intros; kernel_rfl) (by kernel_rfl) (by kernel_rfl) (by kernel_rfl) oneNil (fun ids w2 hp hf => uses2_any w2) ?_
  refine ⟨fun vs hx => vs = ⟨[1], [], [], [], []⟩ ∧ hx = voX a xs, br_T true (by kernel_rfl) rfl (again_V ⟨[1], [], [], [], []⟩ rfl (by intros; kernel_rfl) _ (fun w2 ids hf => ⟨hf.x, hf.sep⟩) ⟨rfl, rfl⟩), ?_⟩
  rintro vs hx hcnt ⟨rfl, rfl⟩
  refine br_F false (by kernel_rfl) rfl ?_
  refine node_PI ⟨[], [true], [], [], []⟩ (fun _ => #[.int .i64 0, .int .i64 0, .int .i64 9]) (.bool true) (by intros; kernel_rfl) (by intros; kernel_rfl) (by kernel_rfl) (by kernel_rfl) (by kernel_rfl) oneNil (fun ids w2 hp hf => mwithin_in (by decide) w2) (br_F false (by kernel_rfl) rfl ?_)
  refine node_PI ⟨[], [true], [], [], []⟩ (fun _ => #[.int .i64 0, .int .i64 0, .int .i64 9]) (.bool true) (by intros; kernel_rfl) (by intros; kernel_rfl) (by kernel_rfl) (by kernel_rfl) (by kernel_rfl) oneNil (fun ids w2 hp hf => mwithin_in (by decide) w2) (br_F false (by kernel_rfl) rfl ?_)
  refine node_PI ⟨[], [true], [], [], []⟩ (fun _ => #[.int .i64 0, .int .i64 0, .int .i64 1099511627776]) (.bool true) (by intros; kernel_rfl) (by intros; kernel_rfl) (by kernel_rfl) (by kernel_rfl) (by kernel_rfl) oneNil (fun ids w2 hp hf => mwithin_in (by decide) w2) (br_F false (by kernel_rfl) rfl ?_)
  refine node_PI ⟨[0, 0, 0, 0, 0, 0, 0, 0, 0, 0, 0, 0, 0, 0, 0, 0, 0, 0, 0, 0, 0], [], [], [0, 0, 0, 0, 0, 0, 0, 0], [none, none, none, none]⟩ (fun _ => #[proM r n slot low (.slice a xs.length cap), .int .i64 39]) mgZ (by intros; kernel_rfl) (by intros; kernel_rfl) (by kernel_rfl) (by kernel_rfl) (by kernel_rfl) oneNil (fun ids w2 hp hf => bare2_any r n slot low a xs.length cap w2) ?_
  refine node_PI ⟨[], [true], [], [], []⟩ (fun _ => #[mgZ]) (.bool true) (by intros; kernel_rfl) (by intros; kernel_rfl) (by kernel_rfl) (by kernel_rfl) (by kernel_rfl) oneNil (fun ids w2 hp hf => empty0_any w2) ?_
  refine br_F false (by kernel_rfl) rfl ?_
  refine ⟨fun vs hx => vs = Vals.nil ∧ ((1 ≤ slot ∧ slot ≤ 1099511627776) ∧ 0 ≤ low ∧ low ≤ 1099511627776) ∧ hx = voX a xs, ?_, ?_⟩
  · refine br_T true (by kernel_rfl) rfl ?_
    refine node_PI ⟨[], [decide (1 ≤ slot) && decide (slot ≤ 1099511627776)], [], [], []⟩ (fun _ => #[.int .i64 slot, .int .i64 1, .int .i64 1099511627776]) (.bool (decide (1 ≤ slot) && decide (slot ≤ 1099511627776))) (by intros; kernel_rfl) (by intros; kernel_rfl) (by kernel_rfl) (by kernel_rfl) (by kernel_rfl) oneNil (fun ids w2 hp hf => mwithin_any slot 1 1099511627776 w2) ?_
    refine br_B (!(decide (1 ≤ slot) && decide (slot ≤ 1099511627776))) (by kernel_rfl) (fun h => bad fun q => ?_) (fun h1 => ?_)
    · rw [decide_eq_true q.1.1, decide_eq_true q.1.2] at h; cases h
    have h1 : 1 ≤ slot ∧ slot ≤ 1099511627776 := by simpa using h1
    refine node_PI ⟨[], [decide (0 ≤ low) && decide (low ≤ 1099511627776)], [], [], []⟩ (fun _ => #[.int .i64 low, .int .i64 0, .int .i64 1099511627776]) (.bool (decide (0 ≤ low) && decide (low ≤ 1099511627776))) (by intros; kernel_rfl) (by intros; kernel_rfl) (by kernel_rfl) (by kernel_rfl) (by kernel_rfl) oneNil (fun ids w2 hp hf => mwithin_any low 0 1099511627776 w2) ?_
    refine br_B (!(decide (0 ≤ low) && decide (low ≤ 1099511627776))) (by kernel_rfl) (fun h => bad fun q => ?_) (fun h2 => ?_)
    · rw [decide_eq_true q.2.1, decide_eq_true q.2.2] at h; cases h
    have h2 : 0 ≤ low ∧ low ≤ 1099511627776 := by simpa using h2
    refine node_PI ⟨[], [true], [], [], []⟩ (fun _ => #[.int .i64 0, .int .i64 0, .int .i64 1099511627776]) (.bool true) (by intros; kernel_rfl) (by intros; kernel_rfl) (by kernel_rfl) (by kernel_rfl) (by kernel_rfl) oneNil (fun ids w2 hp hf => mwithin_in (by decide) w2) (br_F false (by kernel_rfl) rfl ?_)
    exact again_V Vals.nil rfl (by intros; kernel_rfl) _ (fun w2 ids hf => ⟨hf.x, hf.sep⟩) ⟨rfl, ⟨h1, h2⟩, rfl⟩
  rintro vs hx hcnt2 ⟨rfl, hok, rfl⟩
  rw [Env.add_nil]
  have hp1 : proE r n slot low (vlsOf xs) = if balB r n = true then chkVs slot (vlsOf xs) else 27 := by unfold proE; rw [if_pos hok]
  rw [hp1]
  refine ⟨fun vs hx => vs = Vals.nil ∧ balB r n = true ∧ hx = voX a xs, ?_, ?_⟩
  · refine br_T true (by kernel_rfl) rfl ?_
    refine node_PI ⟨[], [balB r n], [], [], []⟩ (fun _ => #[.agg #[.int .i64 r, .int .i64 n]]) (.bool (balB r n)) (by intros; kernel_rfl) (by intros; kernel_rfl) (by kernel_rfl) (by kernel_rfl) (by kernel_rfl) oneNil (fun ids w2 hp hf => valid_any r n w2) ?_
    refine br_B (!(balB r n)) (by kernel_rfl) (fun h => pure_done fun _ => ?_) (fun h => ?_)
    · rw [if_neg (by rw [show balB r n = false by simpa using h]; decide)]; rfl
    · exact again_V Vals.nil rfl (by intros; kernel_rfl) _ (fun w2 ids hf => ⟨hf.x, hf.sep⟩) ⟨rfl, by simpa using h, rfl⟩
  rintro vs hx hcnt3 ⟨rfl, hb, rfl⟩
  rw [Env.add_nil, if_pos hb]
  refine br_F false (by kernel_rfl) rfl ?_
  refine br_T true (by kernel_rfl) rfl ?_
  refine node_PI ⟨[chkVs slot (vlsOf xs)], [], [], [], []⟩ (fun _ => #[.slice a xs.length cap, .int .i64 slot]) (.int .i64 (chkVs slot (vlsOf xs))) (by intros; kernel_rfl) (by intros; kernel_rfl) (by kernel_rfl) (by kernel_rfl) (by kernel_rfl) oneNil (fun ids w2 hp hf2 => chkvs_any cap slot w2 hf2.x hf (by omega)) ?_
  exact pure_done (by intros; kernel_rfl)
end Go.Proofs.Ytlgpjjgkdpmidaa

namespace Go.Eng
open Go.RowKit Go.Syn Go.MapKept Go.Proofs.Ytlgpjjgkdpmidaa
set_option linter.unusedVariables false
section
variable {α β : Type}
def balOf (o : Option (Vo α)) : Int × Int := match o with | some y => (y.r, y.n) | none => (0, 0)
def Pr.tell (D : Pr α) (s r n : Int) (v : α) : Pr α := if compareV r n (balOf (mlk D.best s)).1 (balOf (mlk D.best s)).2 > 0 then D.told s r n v else D
theorem map_tell (f : α → β) (D : Pr α) (s r n : Int) (v : α) : (D.tell s r n v).map f = (D.map f).tell s r n (f v) := by
  have h : balOf (mlk (D.map f).best s) = balOf (mlk D.best s) := by
    show balOf (mlk (mmap (Vo.map f) D.best) s) = _
    rw [mlk_map]
    cases mlk D.best s <;> rfl
  unfold Pr.tell
  rw [h]
  split
  · exact map_told f D s r n v
  · rfl
end
def Pr.hear (P : Pr Vl) (xs : List (Vo Vl)) : Pr Vl := xs.foldl (fun P x => P.tell x.s x.r x.n x.v) P
def Pr.promised (P : Pr Vl) (node : Int) (xs : List (Vo Vl)) : Pr Vl × Bool := if enoughB P.mem (P.said ++ [node]) = true then (((P.say node).hear xs).lead Vl.k vz, true) else ((P.say node).hear xs, false)
end Go.Eng
namespace Go.Proofs.Ytlgpjjgkdpmidaa
open Go.ChangeShapes Go.WideShapes Go.ChangeAt Go.RowKit Go.Syn Go.Eng Go.MapKept
set_option linter.unusedVariables false
set_option linter.unusedSimpArgs false
set_option maxRecDepth 100000
theorem all_cons (x : HX) (xs : List HX) : HX.all (x :: xs) = x.and (HX.all xs) := HX.ext (by
    funext k
    refine propext ⟨fun ⟨y, hy, hk⟩ => ?_, fun h => ?_⟩
    · rcases List.mem_cons.1 hy with rfl | hy
      · exact .inl hk
      · exact .inr ⟨y, hy, hk⟩
    · rcases h with hk | ⟨y, hy, hk⟩
      · exact ⟨x, .head _, hk⟩
      · exact ⟨y, .tail _ hy, hk⟩) (by
    funext w
    refine propext ⟨fun h => ⟨h x (.head _), fun y hy => h y (.tail _ hy)⟩, fun h y hy => ?_⟩
    rcases List.mem_cons.1 hy with rfl | hy
    · exact h.1
    · exact h.2 y hy)
theorem vo_cellsN {w : World} {a : Option Addr} {xs : List (Vo Pv)} (h : (voX a xs).X w) {i : Nat} {x : Vo Pv} (hi : xs[i]? = some x) (us : List Value) (hu : us = voC x ∨ us = [.int .i64 x.s]) (N : Nat → Prop) (hN : ∀ k, (voX a xs).F k → ¬ N k) : a.isSome = true ∧ CellsAt w (.pointer (some (((a.getD ⟨0, 0, none⟩).add (i * 6)).add 0))) us N := by
  obtain ⟨h1, h2⟩ := flat_part voc_len h.1 hi (o := 0) us (fun j u hj => by
    rw [Nat.zero_add]
    rcases hu with rfl | rfl
    · exact hj
    · cases j with
      | zero => exact hj
      | succ j => simp at hj) (by rcases hu with rfl | rfl <;> simp [voC])
  refine ⟨h1, h2 N (hN _ (.inl ⟨?_, ?_⟩))⟩
  · cases xs with
    | nil => simp at hi
    | cons y r => simp [vocs, voC]
  · cases a with
    | none => cases h1
    | some z => rfl
def PhI (w : World) (F : Nat → Prop) (av : Option Addr) (xs : List (Vo Pv)) (D1 : Pr Pv) (a1 : PA) (vs : Vals) (hx : HX) (m : Nat) : Prop := ∃ (k : Nat) (best : List (Int × Vo Pv)) (G : List HX), m = xs.length - k ∧ k ≤ xs.length ∧ vs = ⟨[(k : Int)], [], [], [], []⟩ ∧ POk { D1 with best := best } { a1 with G := G } ∧ ({ D1 with best := best } : Pr Pv).map Pv.v = (D1.map Pv.v).hear (vlsOf (xs.take k)) ∧ (∀ p ∈ best, D1.frm ≤ p.1 ∧ p.1 ≤ D1.frm + 63) ∧ (∀ k, (prX { D1 with best := best } { a1 with G := G }).F k → (w.heap.size ≤ k ∨ F k) ∧ ¬ (voX av xs).F k) ∧ hx = (voX av xs).and (prX { D1 with best := best } { a1 with G := G })
def PhJ (w : World) (F : Nat → Prop) (av : Option Addr) (xs : List (Vo Pv)) (D1 : Pr Pv) (a1 : PA) (k : Nat) (vs : Vals) (hx : HX) : Prop := ∃ (best : List (Int × Vo Pv)) (G : List HX), vs = Vals.nil ∧ POk { D1 with best := best } { a1 with G := G } ∧ ({ D1 with best := best } : Pr Pv).map Pv.v = (D1.map Pv.v).hear (vlsOf (xs.take k)) ∧ (∀ p ∈ best, D1.frm ≤ p.1 ∧ p.1 ≤ D1.frm + 63) ∧ (∀ k, (prX { D1 with best := best } { a1 with G := G }).F k → (w.heap.size ≤ k ∨ F k) ∧ ¬ (voX av xs).F k) ∧ hx = (voX av xs).and (prX { D1 with best := best } { a1 with G := G })
section
variable {w : World} {nb : Nat} {F : Nat → Prop} {P : Pr Vl} {av : Option Addr} {xs : List (Vo Pv)}
set_option maxHeartbeats 1600000 in
theorem promise_any (node low : Int) (cv : Nat) (H0 : (HX.obj F (PrO nb P)).X w) (hF : ∀ k, F k → k < w.heap.size) (HV : (voX av xs).X w) (hvF : ∀ k, (voX av xs).F k → ¬ F k) (hvf : ∀ x ∈ xs, VlFit x.v.v)
    (h0 : proE P.r P.n P.frm low (vlsOf xs) = 0) (h1 : P.phase = 1) (h2 : hasB P.mem node = true) (h3 : ∀ x ∈ xs, P.frm ≤ x.s ∧ x.s ≤ P.frm + 63) (h4 : low < P.frm) (h5 : 1 ≤ P.frm ∧ P.frm ≤ 1099511627776) (h6 : ∀ p ∈ P.best, P.frm ≤ p.1 ∧ p.1 ≤ P.frm + 63) (h7 : P.said.length ≤ 1000 ∧ P.fresh.length ≤ 1000 ∧ P.mem.length ≤ 9) (h8 : (∀ x ∈ P.said, I64 x) ∧ I64 node) (hxl : xs.length ≤ 64) :
    Calls Try.prog 13 #[.pointer (some ⟨nb, 0, none⟩), .int .i64 node, proM P.r P.n P.frm low (.slice av xs.length cv)] w (PrMut w F nb (P.promised node (vlsOf xs)).1 (.tuple #[.bool (P.promised node (vlsOf xs)).2, .int .i64 0])) := by
  obtain ⟨D, a, hP, hok, hnb, hB, hX, Fnb, hsub⟩ := pobj_open H0
  subst hP
  have h1 : D.phase = 1 := h1
  have h3 : ∀ x ∈ xs, D.frm ≤ x.s ∧ x.s ≤ D.frm + 63 := h3
  have h4 : low < D.frm := h4
  have h5 : 1 ≤ D.frm ∧ D.frm ≤ 1099511627776 := h5
  have h7 : D.said.length ≤ 1000 ∧ D.fresh.length ≤ 1000 ∧ D.mem.length ≤ 9 := h7
  have h8 : (∀ x ∈ D.said, I64 x) ∧ I64 node := h8
  have h2 : hasB D.mem node = true := h2
  have h6 : ∀ p ∈ D.best, D.frm ≤ p.1 ∧ p.1 ≤ D.frm + 63 := fun p hp => h6 (p.1, Vo.map Pv.v p.2) (List.mem_map.2 ⟨p, hp, rfl⟩)
  have hmX : ∀ {w}, (prX D a).X w → Ints w a.am D.mem := fun h => h.1.1.1.1.1 _ hok.gm
  have hsep : ∀ k, ((voX av xs).and (prX D a)).F k → k < w.heap.size ∧ k ≠ nb := fun k hk => hk.elim (fun q => ⟨voX_sep HV k q, fun e => hvF k q (e ▸ Fnb)⟩) (fun q => ⟨hF k (hsub k q), fun e => hnb (e ▸ q)⟩)
  refine calls_at (tab_ok _) Try.func13 rfl tPProm (ρ := ⟨[D.me, D.window, D.phase, D.r, D.n, D.frm, D.next, node, D.r, D.n, D.frm, low], [D.stop], [.map (some a.bb), .map (some a.bo)], [D.mem.length, a.cm, D.said.length, a.cs, D.fresh.length, a.cf, D.queue.length, a.cq, xs.length, cv], [a.am, a.as_, a.af, a.aq, av]⟩) (ids := [nb]) (hx := (voX av xs).and (prX D a)) rfl (Facts.initx (M := F) rfl (fun v hv => by simp only [List.mem_cons, List.not_mem_nil, or_false] at hv; rcases hv with rfl | rfl <;> rfl) hB rfl Fnb ⟨HV, hX⟩ hsep) ?_
  refine node_PI ⟨[0], [], [], [], []⟩ (fun _ => #[proM D.r D.n D.frm low (.slice av xs.length cv)]) (.int .i64 0) (by intros; kernel_rfl) (by intros; kernel_rfl) (by kernel_rfl) (by kernel_rfl) (by kernel_rfl) oneNil (fun ids w2 hp hf => ?_) ?_
  · have := mchkP_any cv D.r D.n D.frm low w2 hf.x.1 hvf
    rw [show proE D.r D.n D.frm low (vlsOf xs) = 0 from h0] at this; exact this
  refine br_F false (by kernel_rfl) rfl ?_
  refine br_F (D.phase != 1) (by kernel_rfl) (by rw [h1]; rfl) ?_
  refine br_F (!(D.r == D.r && D.n == D.n)) (by kernel_rfl) (by simp) ?_
  refine br_F (D.frm != D.frm) (by kernel_rfl) (by simp) ?_
  refine node_PI ⟨[], [true], [], [], []⟩ (fun _ => #[.slice a.am D.mem.length a.cm, .int .i64 node]) (.bool true) (by intros; kernel_rfl) (by intros; kernel_rfl) (by kernel_rfl) (by kernel_rfl) (by kernel_rfl) oneNil (fun ids w2 hp hf => ?_) ?_
  · have := has_any a.am a.cm D.mem node w2 (hmX hf.x.2)
    rw [h2] at this; exact pure_same this
  refine br_F false (by kernel_rfl) rfl ?_
  refine br_D (p := (xs.length : Int) > 0) (by kernel_rfl) (fun hpos => ?x) (fun hpos => ?y)
  case' x =>
    have hw0 : IntKind.i64.wrap ((xs.length : Int) - 1) = ((xs.length - 1 : Nat) : Int) := by rw [wrap_i64 (by omega)]; omega
    obtain ⟨xl, hxl2⟩ : ∃ b, xs[xs.length - 1]? = some b := ⟨_, List.getElem?_eq_getElem (by omega)⟩
    have hxlm := h3 xl (List.mem_of_getElem? hxl2)
    obtain ⟨s1, q1⟩ := vo_cellsN HV hxl2 [.int .i64 xl.s] (.inr rfl) F hvF
    refine need_k (av.isSome = true ∧ 0 ≤ IntKind.i64.wrap ((xs.length : Int) - 1) ∧ IntKind.i64.wrap ((xs.length : Int) - 1) < (xs.length : Int)) (by kernel_rfl) ⟨s1, by omega, by omega⟩ ?_
    refine node_ld0 (k := ⟨13, 2, 2, 10, 5⟩) ⟨[xl.s], [], [], [], []⟩ (.pointer (some (((av.getD ⟨0, 0, none⟩).add ((IntKind.i64.wrap ((xs.length : Int) - 1)).toNat * 6)).add 0))) [.int .i64 xl.s] (by intros; kernel_rfl) (by intros; kernel_rfl) (by rw [hw0, Int.toNat_natCast]; exact q1) ⟨by kernel_rfl, (fun v hv => by have hv : v ∈ [Value.map (some a.bb), Value.map (some a.bo)] := hv; simp only [List.mem_cons, List.not_mem_nil, or_false] at hv; rcases hv with rfl | rfl <;> rfl)⟩ (by kernel_rfl) oneNil ?_
    have hws : IntKind.i64.wrap (xl.s - D.frm) = xl.s - D.frm := wrap_i64 (by omega)
    refine br_D (p := IntKind.i64.wrap (xl.s - D.frm) ≥ 64) (by kernel_rfl) (fun h => absurd h (by rw [hws]; omega)) (fun _ => ?_)
  all_goals
    refine br_D (p := low ≥ D.frm) (by kernel_rfl) (fun h => absurd h (by omega)) (fun _ => ?_)
    obtain ⟨R, eR⟩ : ∃ R, R = (((((voX av xs).and (HX.all a.G)).and (HX.vmap a.bb (mmap voV D.best))).and (HX.vmap a.bo (mmap Pv.val D.out))).and (irow a.af a.cf D.fresh)).and (qrow a.aq a.cq D.queue) := ⟨_, rfl⟩
    have e1 : (voX av xs).and (prX D a) = R.and (irow a.as_ a.cs D.said) := by rw [eR]; unfold prX; ac_rfl
    refine holds_eq e1 ?_
    refine node_pushs (e := 3) (sz := 1) rfl Try.underlying26 info_int1 rfl (by decide) a.as_ D.said.length a.cs (D.said.map (Value.int .i64)) [.int .i64 node] 2 (by intros; kernel_rfl) (by intros; kernel_rfl) rfl (by intros; kernel_rfl) rfl (fun v hv => by simp only [List.mem_singleton] at hv; subst hv; rfl) (fun k q1 q2 => ?_) (fun k q1 q2 => .inr (hsub k (pcs_F (b := irow a.as_ a.cs D.said) (by simp [pcs]) ⟨q1, q2⟩))) (by unfold maxLen; omega) (by omega) (by intros; kernel_rfl) (by kernel_rfl) (by kernel_rfl) (by intros; kernel_rfl) ?_
    · have hk : (irow a.as_ a.cs D.said).F k := ⟨q1, q2⟩
      have hkX : (prX D a).F k := pcs_F (b := irow a.as_ a.cs D.said) (by simp [pcs]) hk
      rw [eR]
      rintro (((((q | q) | q) | q) | q) | q)
      · exact hvF k q (hsub k hkX)
      · exact dj_at hok.dj (i := 3) rfl hk 0 rfl (by decide) q
      · exact dj_at hok.dj (i := 3) rfl hk 1 rfl (by decide) q
      · exact dj_at hok.dj (i := 3) rfl hk 2 rfl (by decide) q
      · exact dj_at hok.dj (i := 3) rfl hk 4 rfl (by decide) q
      · exact dj_at hok.dj (i := 3) rfl hk 5 rfl (by decide) q
    intro as' cs' hc' hr' hor'
    obtain ⟨D1, eD1⟩ : ∃ D1, D1 = D.say node := ⟨_, rfl⟩
    obtain ⟨a1, ea1⟩ : ∃ a1 : PA, a1 = { a with as_ := as', cs := cs' } := ⟨_, rfl⟩
    have hrow : HX.rw 1 3 as' (D.said.length + 1) cs' (D.said.map (Value.int .i64) ++ [.int .i64 node]) = irow as' cs' (D.said ++ [node]) := by
      unfold irow; rw [List.length_append, List.map_append]; rfl
    have hFr : ∀ k, (irow as' cs' (D.said ++ [node])).F k → (irow a.as_ a.cs D.said).F k ∨ (w.heap.size ≤ k ∧ ¬ (R.and (irow a.as_ a.cs D.said)).F k) := fun k hk => by
      rcases hor' with ⟨r1, r2⟩ | ⟨g, r1, r2, r3⟩
      · exact .inl ⟨r1, by rw [← r2]; exact hk.2⟩
      · have : g = k := Option.some.inj (r1.symm.trans hk.2)
        subst this
        exact .inr ⟨r2, r3⟩
    have hok1 : POk D1 a1 := by
      rw [eD1, ea1]
      refine ⟨hok.gm, hok.gz, hok.gb, hok.go, hok.gq, hok.dj.set (i := 3) (a' := irow as' cs' (D.said ++ [node])) rfl fun k hk => (hFr k hk).imp id fun q b hb z => q.2 ?_⟩
      rw [← e1]; exact .inr (pcs_F hb z)
    have e2 : R.and (HX.rw 1 3 as' (D.said.length + 1) cs' (D.said.map (Value.int .i64) ++ [.int .i64 node])) = (voX av xs).and (prX D1 a1) := by
      rw [hrow, eR, eD1, ea1]; unfold prX Pr.say; dsimp only; ac_rfl
    have hF1 : ∀ k, (prX D1 a1).F k → (w.heap.size ≤ k ∨ F k) ∧ ¬ (voX av xs).F k := fun k hk => by
      have key : (prX D a).F k ∨ (w.heap.size ≤ k ∧ ¬ (R.and (irow a.as_ a.cs D.said)).F k) := by
        rw [eD1, ea1] at hk
        rcases hk with ((((hk | hk) | hk) | hk) | hk) | hk
        · exact .inl (.inl (.inl (.inl (.inl (.inl hk)))))
        · exact .inl (.inl (.inl (.inl (.inl (.inr hk)))))
        · exact .inl (.inl (.inl (.inl (.inr hk))))
        · exact (hFr k hk).imp (fun q => .inl (.inl (.inr q))) id
        · exact .inl (.inl (.inr hk))
        · exact .inl (.inr hk)
      rcases key with q | q
      · exact ⟨.inr (hsub k q), fun z => hvF k z (hsub k q)⟩
      · exact ⟨.inl q.1, fun z => q.2 (by rw [← e1]; exact .inl z)⟩
    refine holds_eq e2 ?_
    refine ⟨PhI w F av xs D1 a1, fun ids w2 hp hf => ⟨_, xs.length, ⟨hf.x, hf.sep⟩, 0, D1.best, a1.G, rfl, Nat.zero_le _, by kernel_rfl, hok1, rfl, by rw [eD1]; exact h6, hF1, rfl⟩, ?_⟩
    rintro vs hx' n hcnt ⟨k, best, G, rfl, hk, rfl, hokc, hmap, hbr, hown, rfl⟩
    have hfrm : D1.frm = D.frm := by rw [eD1]; rfl
    have cells : ∀ (best : List (Int × Vo Pv)) (G : List HX), prC { D1 with best := best } { a1 with G := G } = [.int .i64 D.me, .slice a.am D.mem.length a.cm, .int .i64 D.window, .int .i64 D.phase, .int .i64 D.r, .int .i64 D.n, .int .i64 D.frm, .slice as' (D.said.length + 1) cs', .map (some a.bb), .int .i64 D.next, .map (some a.bo), .slice a.af D.fresh.length a.cf, .slice a.aq D.queue.length a.cq, .bool D.stop] := fun best G => by
      rw [eD1, ea1]
      unfold prC Pr.say
      dsimp only
      rw [List.length_append]; rfl
    refine br_D (p := (k : Int) < (xs.length : Int)) (by kernel_rfl) (fun hkl => ?_) (fun hkl => ?_)
    · obtain ⟨x, hx⟩ : ∃ b, xs[k]? = some b := ⟨_, List.getElem?_eq_getElem (by omega)⟩
      have hxr := h3 x (List.mem_of_getElem? hx)
      have htk : vlsOf (xs.take (k + 1)) = vlsOf (xs.take k) ++ [Vo.map Pv.v x] := by
        unfold vlsOf
        rw [List.take_add_one, hx, List.map_append]; rfl
      obtain ⟨s1, q1⟩ := vo_cellsN HV hx (voC x) (.inl rfl) F hvF
      obtain ⟨y, ey⟩ : ∃ y : Vo Pv, y = (mlk best x.s).getD ⟨0, 0, 0, pz⟩ := ⟨_, rfl⟩
      have hbal : balOf (mlk best x.s) = (y.r, y.n) := by
        rw [ey]
        cases mlk best x.s <;> rfl
      have hmap' : ∀ best' : List (Int × Vo Pv), ({ D1 with best := best' } : Pr Pv) = ({ D1 with best := best } : Pr Pv).tell x.s x.r x.n x.v ∨ (∃ p : Pv, p.v = x.v.v ∧ ({ D1 with best := best' } : Pr Pv) = ({ D1 with best := best } : Pr Pv).tell x.s x.r x.n p) → ({ D1 with best := best' } : Pr Pv).map Pv.v = (D1.map Pv.v).hear (vlsOf (xs.take (k + 1))) := fun best' h => by
        rw [htk]
        unfold Pr.hear at hmap ⊢
        rw [List.foldl_append, ← hmap]
        rcases h with h | ⟨p, hp, h⟩
        · rw [h, map_tell]; rfl
        · rw [h, map_tell, hp]; rfl
      refine ⟨PhJ w F av xs D1 a1 (k + 1), ?_, ?_⟩
      · refine need_k (av.isSome = true ∧ 0 ≤ (k : Int) ∧ (k : Int) < (xs.length : Int)) (by kernel_rfl) ⟨s1, by omega, by omega⟩ ?_
        refine node_ld0 ⟨[x.s, x.r, x.n, x.v.v.k], [], [], [x.v.v.cs.length, x.v.c1, x.v.v.ns.length, x.v.c2], [x.v.a1, x.v.a2]⟩ (.pointer (some (((av.getD ⟨0, 0, none⟩).add (k * 6)).add 0))) (voC x) (by intros; kernel_rfl) (by intros; kernel_rfl) q1 ⟨rfl, (fun v hv => by have hv : v ∈ [Value.map (some a.bb), Value.map (some a.bo)] := hv; simp only [List.mem_cons, List.not_mem_nil, or_false] at hv; rcases hv with rfl | rfl <;> rfl)⟩ (by kernel_rfl) oneNil ?_
        refine node_vlook1 (z := voV ⟨0, 0, 0, pz⟩) (mt := 74) (kt := 3) (et := 49) ⟨[y.s, y.r, y.n, y.v.v.k], [], [], [y.v.v.cs.length, y.v.c1, y.v.v.ns.length, y.v.c2], [y.v.a1, y.v.a2]⟩ a.bb (mmap voV best) x.s (fun w h => by have := h.2.1.1.1.1.2; rw [ea1] at this; exact this) (by intros; kernel_rfl) (by intros; kernel_rfl) Try.underlying74 Try.underlying3 (fun w => by kernel_rfl) (fun ids => ?_) (by kernel_rfl) (by kernel_rfl) (by kernel_rfl) oneNil ?_
        · have : (vlk (mmap voV best) x.s).getD (voV ⟨0, 0, 0, pz⟩) = voV y := by
            rw [vlk_is, mlk_map, ey]
            cases mlk best x.s <;> rfl
          exact Eq.trans (b := voV y) (by kernel_rfl) this.symm
        refine node_PI ⟨[compareV x.r x.n y.r y.n], [], [], [], []⟩ (fun _ => #[.agg #[.int .i64 x.r, .int .i64 x.n], .agg #[.int .i64 y.r, .int .i64 y.n]]) (.int .i64 (compareV x.r x.n y.r y.n)) (by intros; kernel_rfl) (by intros; kernel_rfl) (by kernel_rfl) (by kernel_rfl) (by kernel_rfl) oneNil (fun ids w2 hp hf => compare_any x.r x.n y.r y.n w2) ?_
        refine br_D (p := compareV x.r x.n y.r y.n > 0) (by kernel_rfl) (fun hgt => ?_) (fun hgt => ?_)
        · refine node_vl (V := id) (v := x.v.v) (fun _ => #[x.v.val]) (fun b1 d1 b2 d2 => ⟨[x.v.v.k], [], [], [x.v.v.cs.length, d1, x.v.v.ns.length, d2], [b1, b2]⟩) (by intros; kernel_rfl) (fun ids w2 hp hf => vclone_any _ _ _ _ _ w2 (voX_at hf.x.1 hvf (List.mem_of_getElem? hx))) (by intros; kernel_rfl) (by kernel_rfl) (by kernel_rfl) (by intros; kernel_rfl) (fun _ _ _ _ => oneNil) ?_
          intro b1 d1 b2 d2 hfr
          obtain ⟨p, ep⟩ : ∃ p : Pv, p = ⟨x.v.v, b1, d1, b2, d2⟩ := ⟨_, rfl⟩
          have epx : vlX x.v.v b1 b2 = p.hx := by rw [ep]; rfl
          rw [epx] at hfr ⊢
          obtain ⟨Q, eQ⟩ : ∃ Q, Q = ((((((voX av xs).and p.hx).and (HX.all G)).and (HX.vmap a1.bo (mmap Pv.val D1.out))).and (irow a1.as_ a1.cs D1.said)).and (irow a1.af a1.cf D1.fresh)).and (qrow a1.aq a1.cq D1.queue) := ⟨_, rfl⟩
          have e3 : ((voX av xs).and (prX { D1 with best := best } { a1 with G := G })).and p.hx = Q.and (HX.vmap a1.bb (mmap voV best)) := by rw [eQ]; unfold prX; dsimp only; ac_rfl
          refine holds_eq e3 ?_
          have hbbF : (prX { D1 with best := best } { a1 with G := G }).F a1.bb := .inl (.inl (.inl (.inl (.inr rfl))))
          refine node_vput (mt := 74) (kt := 3) (et := 49) a1.bb (mmap voV best) x.s (voV ⟨x.s, x.r, x.n, p⟩) (hown _ hbbF).1 ?_ (fun ids => by rw [ea1]; kernel_rfl) (by intros; kernel_rfl) (fun ids => by rw [ep]; kernel_rfl) Try.underlying74 Try.underlying3 (by kernel_rfl) (by kernel_rfl) (by kernel_rfl) ?_
          · rw [eQ]
            rintro ((((((q | q) | q) | q) | q) | q) | q)
            · exact (hown _ hbbF).2 q
            · exact (hfr _ q).2 (.inr hbbF)
            · exact dj_at hokc.dj (i := 1) rfl (k := a1.bb) rfl 0 rfl (by decide) q
            · exact dj_at hokc.dj (i := 1) rfl (k := a1.bb) rfl 2 rfl (by decide) q
            · exact dj_at hokc.dj (i := 1) rfl (k := a1.bb) rfl 3 rfl (by decide) q
            · exact dj_at hokc.dj (i := 1) rfl (k := a1.bb) rfl 4 rfl (by decide) q
            · exact dj_at hokc.dj (i := 1) rfl (k := a1.bb) rfl 5 rfl (by decide) q
          rw [vput_is, mput_map]
          obtain ⟨best', eb⟩ : ∃ best', best' = mput best x.s ⟨x.s, x.r, x.n, p⟩ := ⟨_, rfl⟩
          rw [← eb]
          have e4 : Q.and (HX.vmap a1.bb (mmap voV best')) = (voX av xs).and (prX { D1 with best := best' } { a1 with G := p.hx :: G }) := by rw [eQ]; unfold prX; dsimp only; rw [all_cons]; ac_rfl
          refine holds_eq e4 ?_
          have hG : ∀ q, (HX.all (p.hx :: G)).F q → (HX.all G).F q ∨ p.hx.F q := fun q ⟨z, hz, hq⟩ => by
            rcases List.mem_cons.1 hz with rfl | hz
            · exact .inr hq
            · exact .inl ⟨z, hz, hq⟩
          refine again_V Vals.nil rfl (by intros; kernel_rfl) _ (fun w2 ids hf => ⟨hf.x, hf.sep⟩) ⟨best', p.hx :: G, rfl, ⟨.tail _ hokc.gm, .tail _ hokc.gz, fun q hq => ?_, fun q hq => ⟨.tail _ (hokc.go q hq).1, (hokc.go q hq).2⟩, fun q hq => ⟨.tail _ (hokc.gq q hq).1, (hokc.gq q hq).2⟩, ?_⟩, hmap' best' (.inr ⟨p, by rw [ep], ?_⟩), fun q hq => ?_, fun q hq => ?_, rfl⟩
          · have hq : q ∈ best' := hq
            rw [eb] at hq
            rcases mput_mem hq with rfl | hq
            · exact ⟨.head _, by rw [ep]; exact hvf x (List.mem_of_getElem? hx)⟩
            · exact ⟨.tail _ (hokc.gb q hq.1).1, (hokc.gb q hq.1).2⟩
          · have d1 := hokc.dj.set (i := 1) (a' := HX.vmap a1.bb (mmap voV best')) rfl fun q hq => .inl hq
            refine d1.set (i := 0) (a' := HX.all (p.hx :: G)) rfl fun q hq => (hG q hq).imp id fun z c hc hcq => (hfr q z).2 (.inr ?_)
            simp only [pcs, List.set_cons_succ, List.set_cons_zero, List.mem_cons, List.not_mem_nil, or_false] at hc
            rcases hc with rfl | rfl | rfl | rfl | rfl | rfl
            · exact .inl (.inl (.inl (.inl (.inl hcq))))
            · exact .inl (.inl (.inl (.inl (.inr hcq))))
            · exact .inl (.inl (.inl (.inr hcq)))
            · exact .inl (.inl (.inr hcq))
            · exact .inl (.inr hcq)
            · exact .inr hcq
          · unfold Pr.tell
            show _ = if compareV x.r x.n (balOf (mlk best x.s)).1 (balOf (mlk best x.s)).2 > 0 then _ else _
            rw [hbal, if_pos hgt, eb]; rfl
          · rw [eb] at hq
            rcases mput_mem hq with rfl | hq
            · rw [hfrm]; exact hxr
            · exact hbr q hq.1
          · rcases hq with ((((hq | hq) | hq) | hq) | hq) | hq
            · rcases hG q hq with z | z
              · exact hown q (.inl (.inl (.inl (.inl (.inl z)))))
              · exact ⟨.inl (hfr q z).1, fun t => (hfr q z).2 (.inl t)⟩
            · exact hown q (.inl (.inl (.inl (.inl (.inr hq)))))
            · exact hown q (.inl (.inl (.inl (.inr hq))))
            · exact hown q (.inl (.inl (.inr hq)))
            · exact hown q (.inl (.inr hq))
            · exact hown q (.inr hq)
        · refine again_V Vals.nil rfl (by intros; kernel_rfl) _ (fun w2 ids hf => ⟨hf.x, hf.sep⟩) ⟨best, G, rfl, hokc, hmap' best (.inl ?_), hbr, hown, rfl⟩
          unfold Pr.tell
          show _ = if compareV x.r x.n (balOf (mlk best x.s)).1 (balOf (mlk best x.s)).2 > 0 then _ else _
          rw [hbal, if_neg hgt]
      · rintro vs hx' hcnt2 ⟨best', G', rfl, hokc', hmapc, hbr', hown', rfl⟩
        rw [Env.add_nil]
        have hwk : IntKind.i64.wrap ((k : Int) + 1) = ((k + 1 : Nat) : Int) := by rw [wrap_i64 (by omega)]; omega
        exact again_V ⟨[IntKind.i64.wrap ((k : Int) + 1)], [], [], [], []⟩ rfl (by intros; kernel_rfl) _ (fun w2 ids hf => ⟨hf.x, hf.sep⟩) ⟨xs.length - (k + 1), by omega, k + 1, best', G', rfl, by omega, by rw [hwk], hokc', hmapc, hbr', hown', rfl⟩
    · have hks : xs.take k = xs := List.take_of_length_le (by omega)
      rw [hks] at hmap
      have hsm : D1.map Pv.v = (D.map Pv.v).say node := by rw [eD1]; rfl
      rw [hsm] at hmap
      refine node_PI ⟨[], [enoughB D.mem (D.said ++ [node])], [], [], []⟩ (fun _ => #[.slice a.am D.mem.length a.cm, .slice as' (D.said.length + 1) cs']) (.bool (enoughB D.mem (D.said ++ [node]))) (by intros; kernel_rfl) (by intros; kernel_rfl) (by kernel_rfl) (by kernel_rfl) (by kernel_rfl) oneNil (fun ids w2 hp hf => ?_) ?_
      · have hx2 := hf.x.2
        rw [eD1, ea1] at hx2 hokc
        have hI1 : Ints w2 a.am D.mem := hx2.1.1.1.1.1 _ hokc.gm
        have hI2 : Ints w2 as' (D.said ++ [node]) := Ints.of_cells (by rw [List.length_append]; simp only [List.length_cons, List.length_nil]; omega) (fun z hz => (List.mem_append.1 hz).elim (h8.1 z) fun q => by rw [List.mem_singleton.1 q]; exact h8.2) (rw_cells hx2.1.1.2)
        have := enough_any a.am a.cm D.mem as' cs' (D.said ++ [node]) w2 hI1 hI2
        rw [List.length_append] at this
        exact pure_same this
      have hpr : (D.map Pv.v).promised node (vlsOf xs) = if enoughB D.mem (D.said ++ [node]) = true then ((((D.map Pv.v).say node).hear (vlsOf xs)).lead Vl.k vz, true) else (((D.map Pv.v).say node).hear (vlsOf xs), false) := rfl
      refine br_B (!(enoughB D.mem (D.said ++ [node]))) (by kernel_rfl) (fun h => ?_) (fun h => ?_)
      · rw [hpr, if_neg (by rw [show enoughB D.mem (D.said ++ [node]) = false by simpa using h]; decide)]
        exact pr_done (D' := { D1 with best := best }) (a' := { a1 with G := G }) hmap hokc (fun w h => h.2) (fun k hk => .inr hk) (fun k hk => (hown k hk).1.symm) Fnb (fun ids => by rw [cells]; kernel_rfl) (by intros; kernel_rfl)
      · rw [hpr, if_pos (by simpa using h)]
        refine node_pset (D := { D1 with best := best }) (D' := ({ D1 with best := best } : Pr Pv).lead kdP pz) (a := { a1 with G := G }) (fun ids => #[.pointer (some ⟨idAt ids 0, 0, none⟩)]) rfl rfl (by intros; kernel_rfl) (fun ids => by rw [cells]; kernel_rfl) (fun ids w2 hp hf hb hn hs => lead_any hb hf.x.2 hokc hn hs (by show 1 ≤ D1.frm ∧ _; rw [hfrm]; exact h5) hbr (by show D1.fresh.length ≤ 1000; rw [eD1]; exact h7.2.1)) (by intros; kernel_rfl) (by intros; kernel_rfl) (fun k hk => ⟨(hown k hk).2, (hown k hk).1⟩) (by kernel_rfl) (by intros; kernel_rfl) ?_
        intro a2 hok2 hdis
        refine pr_done (D' := ({ D1 with best := best } : Pr Pv).lead kdP pz) (a' := a2) ?_ hok2 (fun w h => h.2) (fun k hk => .inr hk) (fun k hk => (hdis k hk).2.symm) Fnb (by intros; kernel_rfl) (by intros; kernel_rfl)
        rw [show (kdP : Pv → Int) = fun x => Vl.k (Pv.v x) from rfl, map_lead Pv.v Vl.k, hmap]; rfl
end
end Go.Proofs.Ytlgpjjgkdpmidaa

namespace Go.Proofs.Ytlgpjjgkdpmidaa
open Go.ChangeShapes Go.WideShapes Go.ChangeAt Go.RowKit Go.Syn Go.Eng Go.MapKept
set_option linter.unusedVariables false
set_option linter.unusedSimpArgs false
set_option maxRecDepth 100000
def prP (F : Nat → Prop) (nb : Nat) (P : Pr Vl) : HX := HX.obj F (PrO nb P)
def OwnF (W : World) (M : Nat → Prop) (rest : HX) (F : Nat → Prop) : Prop := ∀ k, F k → ¬ rest.F k ∧ (W.heap.size ≤ k ∨ M k)
section
variable {W : World} {M : Nat → Prop} {RR : Ending → World → Prop} {ρ : Env} {pre : List Nat} {rest hx : HX} {S : Stack} {m m' : Mem} {args : List SV} {r : SV} {t : Tree} {F : Nat → Prop} {nb : Nat} {P : Pr Vl}
theorem node_pnew (me window : Int) (a : List Nat → Option Addr) (cap : Nat) (mem : List Int) (hargs : ∀ ids, (args.map (SV.den ρ ids)).toArray = #[.int .i64 me, .slice (a ids) mem.length cap, .int .i64 window]) (hat : ∀ ids w, pre <+: ids → Facts ⟨Try.prog, W, M, RR⟩ m ρ ids hx w → Ints w (a ids) mem) (hok : setOkB mem = true ∧ hasB mem me = true)
    (hr : ∀ v ids, r.den (ρ.add ⟨[], [], [v], [], []⟩) ids = v) (hhp : m'.hp = m.hp) (hfit : hpFits m.c m.hp.length m.hp = true) (hc : ∀ v, (ρ.add ⟨[], [], [v], [], []⟩).cnt = m'.c)
    (h : ∀ nb F, OwnF W M hx F → t.holds ⟨Try.prog, W, M, RR⟩ (ρ.add ⟨[], [], [.pointer (some ⟨nb, 0, none⟩)], [], []⟩) pre (hx.and (prP F nb (Pr.new me window mem))) S) : (Tree.call 8 args m r m' t).holds ⟨Try.prog, W, M, RR⟩ ρ pre hx S := by
  refine node_out (fun ids => #[.int .i64 me, .slice (a ids) mem.length cap, .int .i64 window]) (fun vs h' => ∃ nb F, vs = ⟨[], [], [.pointer (some ⟨nb, 0, none⟩)], [], []⟩ ∧ h' = prP F nb (Pr.new me window mem)) hargs (fun ids w hp hf => ?_) hhp hfit ?_ ?_
  · refine (pnew_any me window (a ids) cap mem w (hat ids w hp hf) hok).mono ?_
    rintro e w' ⟨nb, F', rfl, h1, h2, h3⟩
    exact ⟨_, _, ⟨nb, F', rfl, rfl⟩, by rw [hr], h1, h2, h3⟩
  · rintro vs h' ⟨nb, F', rfl, rfl⟩
    exact ⟨hc _, fun v hv => by simp only [List.mem_singleton] at hv; subst hv; rfl⟩
  · rintro vs h' ⟨nb, F', rfl, rfl⟩ hfr
    exact h nb F' fun k hk => ⟨(hfr k hk).2, .inl (hfr k hk).1⟩
theorem node_pmut {f : Nat} {P' : Pr Vl} {V : Value} (vs : Vals) (AS : List Nat → Array Value) (hown : OwnF W M rest F) (hargs : ∀ ids, (args.map (SV.den ρ ids)).toArray = AS ids)
    (hcall : ∀ ids w, pre <+: ids → Facts ⟨Try.prog, W, M, RR⟩ m ρ ids (rest.and (prP F nb P)) w → Calls Try.prog f (AS ids) w (PrMut w F nb P' V))
    (hr : ∀ ids, r.den (ρ.add vs) ids = V) (hhp : m'.hp = m.hp) (hfit : hpFits m.c m.hp.length m.hp = true) (hc : (ρ.add vs).cnt = m'.c) (h1 : ∀ v, v ∈ vs.v → v.oneCell' = true)
    (h : ∀ F', OwnF W M rest F' → t.holds ⟨Try.prog, W, M, RR⟩ (ρ.add vs) pre (rest.and (prP F' nb P')) S) : (Tree.call f args m r m' t).holds ⟨Try.prog, W, M, RR⟩ ρ pre (rest.and (prP F nb P)) S := by
  refine node_mut AS (fun vs2 h' => vs2 = vs ∧ ∃ F', h' = prP F' nb P') hargs (fun ids w hp hf => ?_) hown hhp hfit (fun vs2 h' q => by rw [q.1]; exact ⟨hc, h1⟩) ?_
  · refine (hcall ids w hp hf).mono ?_
    rintro e w' ⟨rfl, F', q1, q2, q3⟩
    exact ⟨vs, prP F' nb P', ⟨rfl, F', rfl⟩, by rw [hr], q1, q2, q3⟩
  · rintro vs2 h' ⟨rfl, F', rfl⟩ hd
    exact h F' hd
theorem psep_of {ids : List Nat} {w : World} (hf : Facts ⟨Try.prog, W, M, RR⟩ m ρ ids (rest.and (prP F nb P)) w) : ∀ k, F k → k < w.heap.size := fun k hk => (hf.sep k (.inr hk)).1
theorem papart_of {ids : List Nat} {w : World} (hown : OwnF W M rest F) (hf : Facts ⟨Try.prog, W, M, RR⟩ m ρ ids (rest.and (prP F nb P)) w) {X : HX} (hv : ∀ k, X.F k → rest.F k ∨ k ∈ ids) : ∀ k, X.F k → ¬ F k := fun k hk q => (hv k hk).elim (hown k q).1 (hf.sep k (.inr q)).2
theorem node_psub (v : Vl) (a1 : List Nat → Option Addr) (c1 : Nat) (a2 : List Nat → Option Addr) (c2 : Nat) (hown : OwnF W M rest F) (e : Int) (he : (P.submit v).2 = e) (hargs : ∀ ids, (args.map (SV.den ρ ids)).toArray = #[.pointer (some ⟨nb, 0, none⟩), vlV v (a1 ids) c1 (a2 ids) c2])
    (hat : ∀ ids w, pre <+: ids → Facts ⟨Try.prog, W, M, RR⟩ m ρ ids (rest.and (prP F nb P)) w → VlAt w v (a1 ids) (a2 ids) ∧ ∀ k, (vlX v (a1 ids) (a2 ids)).F k → rest.F k ∨ k ∈ ids)
    (hr : ∀ ids, r.den (ρ.add ⟨[e], [], [], [], []⟩) ids = .int .i64 e) (hhp : m'.hp = m.hp) (hfit : hpFits m.c m.hp.length m.hp = true) (hc : (ρ.add ⟨[e], [], [], [], []⟩).cnt = m'.c)
    (h : ∀ F', OwnF W M rest F' → t.holds ⟨Try.prog, W, M, RR⟩ (ρ.add ⟨[e], [], [], [], []⟩) pre (rest.and (prP F' nb (P.submit v).1)) S) : (Tree.call 17 args m r m' t).holds ⟨Try.prog, W, M, RR⟩ ρ pre (rest.and (prP F nb P)) S :=
  node_pmut ⟨[e], [], [], [], []⟩ (fun ids => #[.pointer (some ⟨nb, 0, none⟩), vlV v (a1 ids) c1 (a2 ids) c2]) hown hargs (fun ids w hp hf => by rw [← he]; exact sub_any v (a1 ids) c1 (a2 ids) c2 hf.x.2 (psep_of hf) (hat ids w hp hf).1 (papart_of hown hf (hat ids w hp hf).2)) hr hhp hfit hc oneNil h
theorem node_pdec (s : Int) (hown : OwnF W M rest F) (hargs : ∀ ids, (args.map (SV.den ρ ids)).toArray = #[.pointer (some ⟨nb, 0, none⟩), .int .i64 s])
    (hr : ∀ ids, r.den (ρ.add Vals.nil) ids = .tuple #[]) (hhp : m'.hp = m.hp) (hfit : hpFits m.c m.hp.length m.hp = true) (hc : (ρ.add Vals.nil).cnt = m'.c)
    (h : ∀ F', OwnF W M rest F' → t.holds ⟨Try.prog, W, M, RR⟩ (ρ.add Vals.nil) pre (rest.and (prP F' nb (P.decided s))) S) : (Tree.call 19 args m r m' t).holds ⟨Try.prog, W, M, RR⟩ ρ pre (rest.and (prP F nb P)) S :=
  node_pmut Vals.nil (fun ids => #[.pointer (some ⟨nb, 0, none⟩), .int .i64 s]) hown hargs (fun ids w hp hf => dec_any s hf.x.2 (psep_of hf)) hr hhp hfit hc oneNil h
theorem node_pcamp (rd nd frm : Int) (vs : Vals) (hown : OwnF W M rest F) (q1 : 1 ≤ frm ∧ frm ≤ 1099511627776) (q2 : balB rd nd = true) (q3 : nd = P.me) (q4 : ¬ compareV rd nd P.r P.n ≤ 0) (hargs : ∀ ids, (args.map (SV.den ρ ids)).toArray = #[.pointer (some ⟨nb, 0, none⟩), .agg #[.int .i64 rd, .int .i64 nd], .int .i64 frm])
    (hr : ∀ ids, r.den (ρ.add vs) ids = .tuple #[prepM rd nd frm, .int .i64 0]) (hhp : m'.hp = m.hp) (hfit : hpFits m.c m.hp.length m.hp = true) (hc : (ρ.add vs).cnt = m'.c) (h1 : ∀ v, v ∈ vs.v → v.oneCell' = true)
    (h : ∀ F', OwnF W M rest F' → t.holds ⟨Try.prog, W, M, RR⟩ (ρ.add vs) pre (rest.and (prP F' nb (P.begin rd nd frm))) S) : (Tree.call 9 args m r m' t).holds ⟨Try.prog, W, M, RR⟩ ρ pre (rest.and (prP F nb P)) S :=
  node_pmut vs (fun ids => #[.pointer (some ⟨nb, 0, none⟩), .agg #[.int .i64 rd, .int .i64 nd], .int .i64 frm]) hown hargs (fun ids w hp hf => camp_any rd nd frm hf.x.2 (psep_of hf) q1 q2 q3 q4) hr hhp hfit hc h1 h
theorem node_ptop (x : Int) (hx' : P.top = x) (hn : 0 ≤ P.next ∧ P.next ≤ 1099511627778) (hargs : ∀ ids, (args.map (SV.den ρ ids)).toArray = #[.pointer (some ⟨nb, 0, none⟩)]) (hr : ∀ ids, r.den (ρ.add ⟨[x], [], [], [], []⟩) ids = .int .i64 x) (hhp : m'.hp = m.hp) (hfit : hpFits m.c m.hp.length m.hp = true) (hc : (ρ.add ⟨[x], [], [], [], []⟩).cnt = m'.c)
    (h : t.holds ⟨Try.prog, W, M, RR⟩ (ρ.add ⟨[x], [], [], [], []⟩) pre (rest.and (prP F nb P)) S) : (Tree.call 21 args m r m' t).holds ⟨Try.prog, W, M, RR⟩ ρ pre (rest.and (prP F nb P)) S := by
  refine node_PI ⟨[x], [], [], [], []⟩ (fun _ => #[.pointer (some ⟨nb, 0, none⟩)]) (.int .i64 x) hargs hr hhp hfit hc oneNil (fun ids w hp hf => ?_) h
  obtain ⟨D, a, hP, hok, hnb, hB, hX, Fnb, hsub⟩ := pobj_open hf.x.2
  subst hP
  rw [← hx']
  exact ptop_any hB hX hnb (fun k hk => psep_of hf k (hsub k hk)) hn
theorem node_pstop (b : Bool) (hb : P.stop = b) (hargs : ∀ ids, (args.map (SV.den ρ ids)).toArray = #[.pointer (some ⟨nb, 0, none⟩)]) (hr : ∀ ids, r.den (ρ.add ⟨[], [b], [], [], []⟩) ids = .bool b) (hhp : m'.hp = m.hp) (hfit : hpFits m.c m.hp.length m.hp = true) (hc : (ρ.add ⟨[], [b], [], [], []⟩).cnt = m'.c)
    (h : t.holds ⟨Try.prog, W, M, RR⟩ (ρ.add ⟨[], [b], [], [], []⟩) pre (rest.and (prP F nb P)) S) : (Tree.call 23 args m r m' t).holds ⟨Try.prog, W, M, RR⟩ ρ pre (rest.and (prP F nb P)) S := by
  refine node_PI ⟨[], [b], [], [], []⟩ (fun _ => #[.pointer (some ⟨nb, 0, none⟩)]) (.bool b) hargs hr hhp hfit hc oneNil (fun ids w hp hf => ?_) h
  obtain ⟨D, a, hP, hok, hnb, hB, hX, Fnb, hsub⟩ := pobj_open hf.x.2
  subst hP
  rw [← hb]
  exact pstop_any hB hX hnb (fun k hk => psep_of hf k (hsub k hk))
theorem node_pgo (ex : Int) (ms : List (Int × Vl)) (P' : Pr Vl) (hown : OwnF W M rest F) (hg : P.goes Vl.k ex = (P', ms)) (hex : I64 ex) (hw0 : 1 ≤ P.window ∧ P.window ≤ 16) (hn0 : 0 ≤ P.next ∧ P.next ≤ 1099511627777) (hl : P.fresh.length + P.queue.length ≤ 10000) (hargs : ∀ ids, (args.map (SV.den ρ ids)).toArray = #[.pointer (some ⟨nb, 0, none⟩), .int .i64 ex])
    (hr : ∀ a' c' ids, r.den (ρ.add ⟨[], [], [], [ms.length, c'], [a']⟩) ids = .slice a' ms.length c') (hhp : m'.hp = m.hp) (hfit : hpFits m.c m.hp.length m.hp = true) (hc : ∀ a' c', (ρ.add ⟨[], [], [], [ms.length, c'], [a']⟩).cnt = m'.c)
    (h : ∀ mp ma mc F', mmap Pv.v mp = ms → mp.length = ms.length → (∀ q ∈ mp, VlFit q.2.v) → OwnF W M ((rest.and (mall mp)).and (mrow ma mc P'.r P'.n mp)) F' → (mp ≠ [] → ma.isSome = true) → t.holds ⟨Try.prog, W, M, RR⟩ (ρ.add ⟨[], [], [], [ms.length, mc], [ma]⟩) pre (((rest.and (mall mp)).and (mrow ma mc P'.r P'.n mp)).and (prP F' nb P')) S) : (Tree.call 14 args m r m' t).holds ⟨Try.prog, W, M, RR⟩ ρ pre (rest.and (prP F nb P)) S := by
  refine node_mut (fun _ => #[.pointer (some ⟨nb, 0, none⟩), .int .i64 ex]) (fun vs h' => ∃ mp ma mc F', mmap Pv.v mp = ms ∧ (∀ q ∈ mp, VlFit q.2.v) ∧ (mp ≠ [] → ma.isSome = true) ∧ (∀ k, F' k → ¬ (mall mp).F k ∧ ¬ (mrow ma mc P'.r P'.n mp).F k) ∧ vs = ⟨[], [], [], [ms.length, mc], [ma]⟩ ∧ h' = ((mall mp).and (mrow ma mc P'.r P'.n mp)).and (prP F' nb P')) hargs (fun ids w hp hf => ?_) hown hhp hfit (fun vs h' q => ?_) ?_
  · refine (go_any ex hf.x.2 (psep_of hf) hex hw0 hn0 hl).mono ?_
    rintro e w' ⟨mp, ma, mc, F', q1, q2, rfl, q3, q4, q5, q6, q7, q8, q9⟩
    rw [hg] at q1 q3 q5 q8
    have q1 : mmap Pv.v mp = ms := q1
    have hlen : mp.length = ms.length := by rw [← q1]; unfold mmap; rw [List.length_map]
    refine ⟨_, _, ⟨mp, ma, mc, F', q1, q2, fun hne => ?_, fun k hk => ⟨fun z => (q7 k z).2.2 hk, fun z => (q8 k z).2.2.1 hk⟩, rfl, rfl⟩, by rw [hr, hlen], ⟨⟨q4, q5⟩, q3⟩, fun k hk => ?_, q9⟩
    · refine row_isS q5 fun z => ?_
      cases mp with
      | nil => exact hne rfl
      | cons y r => simp [mcells, mgC] at z
    · rcases hk with (hk | hk) | hk
      · exact ⟨.inr (q7 k hk).1, (q7 k hk).2.1⟩
      · exact ⟨.inr (q8 k hk).1, (q8 k hk).2.1⟩
      · exact q6 k hk
  · obtain ⟨mp, ma, mc, F', _, _, _, _, rfl, _⟩ := q
    exact ⟨hc _ _, oneNil⟩
  · rintro vs h' ⟨mp, ma, mc, F', q1, q2, q3, q4, rfl, rfl⟩ hd
    have e : rest.and (((mall mp).and (mrow ma mc P'.r P'.n mp)).and (prP F' nb P')) = ((rest.and (mall mp)).and (mrow ma mc P'.r P'.n mp)).and (prP F' nb P') := by ac_rfl
    refine holds_eq e (h mp ma mc F' q1 (by rw [← q1]; unfold mmap; rw [List.length_map]) q2 (fun k hk => ⟨?_, (hd k (.inr hk)).2⟩) q3)
    rintro ((z | z) | z)
    · exact (hd k (.inr hk)).1 z
    · exact (q4 k hk).1 z
    · exact (q4 k hk).2 z
theorem node_pprom (node low : Int) (xs : List (Vo Pv)) (av : List Nat → Option Addr) (cv : Nat) (b : Bool) (hown : OwnF W M rest F) (hb : (P.promised node (vlsOf xs)).2 = b) (hvf : ∀ x ∈ xs, VlFit x.v.v)
    (h0 : proE P.r P.n P.frm low (vlsOf xs) = 0) (h1 : P.phase = 1) (h2 : hasB P.mem node = true) (h3 : ∀ x ∈ xs, P.frm ≤ x.s ∧ x.s ≤ P.frm + 63) (h4 : low < P.frm) (h5 : 1 ≤ P.frm ∧ P.frm ≤ 1099511627776) (h6 : ∀ p ∈ P.best, P.frm ≤ p.1 ∧ p.1 ≤ P.frm + 63) (h7 : P.said.length ≤ 1000 ∧ P.fresh.length ≤ 1000 ∧ P.mem.length ≤ 9) (h8 : (∀ x ∈ P.said, I64 x) ∧ I64 node) (hxl : xs.length ≤ 64)
    (hargs : ∀ ids, (args.map (SV.den ρ ids)).toArray = #[.pointer (some ⟨nb, 0, none⟩), .int .i64 node, proM P.r P.n P.frm low (.slice (av ids) xs.length cv)])
    (hat : ∀ ids w, pre <+: ids → Facts ⟨Try.prog, W, M, RR⟩ m ρ ids (rest.and (prP F nb P)) w → (voX (av ids) xs).X w ∧ ∀ k, (voX (av ids) xs).F k → rest.F k ∨ k ∈ ids)
    (hr : ∀ ids, r.den (ρ.add ⟨[0], [b], [], [], []⟩) ids = .tuple #[.bool b, .int .i64 0]) (hhp : m'.hp = m.hp) (hfit : hpFits m.c m.hp.length m.hp = true) (hc : (ρ.add ⟨[0], [b], [], [], []⟩).cnt = m'.c)
    (h : ∀ F', OwnF W M rest F' → t.holds ⟨Try.prog, W, M, RR⟩ (ρ.add ⟨[0], [b], [], [], []⟩) pre (rest.and (prP F' nb (P.promised node (vlsOf xs)).1)) S) : (Tree.call 13 args m r m' t).holds ⟨Try.prog, W, M, RR⟩ ρ pre (rest.and (prP F nb P)) S :=
  node_pmut ⟨[0], [b], [], [], []⟩ (fun ids => #[.pointer (some ⟨nb, 0, none⟩), .int .i64 node, proM P.r P.n P.frm low (.slice (av ids) xs.length cv)]) hown hargs (fun ids w hp hf => by rw [← hb]; exact promise_any node low cv hf.x.2 (psep_of hf) (hat ids w hp hf).1 (papart_of hown hf (hat ids w hp hf).2) hvf h0 h1 h2 h3 h4 h5 h6 h7 h8 hxl) hr hhp hfit hc oneNil h
end
end Go.Proofs.Ytlgpjjgkdpmidaa

namespace Go.Eng
open Go.RowKit Go.Syn
set_option linter.unusedVariables false
section
variable {C : Cfg} {ρ : Env} {pre : List Nat} {hx : HX} {L : Stack} {m m' : Mem} {args : List SV} {r : SV} {t : Tree}
theorem node_PJ {f : Nat} (vs : List Nat → Vals) (AS : List Nat → Array Value) (V : List Nat → Value) (hargs : ∀ ids, (args.map (SV.den ρ ids)).toArray = AS ids) (hr : ∀ ids, r.den (ρ.add (vs ids)) ids = V ids) (hhp : m'.hp = m.hp) (hfit : hpFits m.c m.hp.length m.hp = true) (hc : ∀ ids, (ρ.add (vs ids)).cnt = m'.c) (h1 : ∀ ids v, v ∈ (vs ids).v → v.oneCell' = true) (hcall : ∀ ids w, pre <+: ids → Facts C m ρ ids hx w → Calls C.P f (AS ids) w (PureAt w (V ids)))
    (h : ∀ ids, pre <+: ids → ids.length = m.hp.length → t.holds C (ρ.add (vs ids)) ids hx L) : (Tree.call f args m r m' t).holds C ρ pre hx L := by
  intro ids w hp hf
  rw [hargs]
  refine (hcall ids w hp hf).mono ?_
  rintro e w' ⟨rfl, hb⟩
  refine ⟨vs ids, ids, hx, by rw [hr], List.prefix_refl _, ?_, h ids hp hf.len⟩
  exact Facts.turn (row := none) hf ⟨hb.os, hb.tape, hb.output, hb.size, fun k hk _ => hb.block k hk⟩ (fun b e => by cases e) (hx.loc w w' hf.x fun k hk => hb.block k (hf.sep k hk).1) (fun k hk => .inl hk) hhp hfit (hc ids) (h1 ids)
theorem pure_out {P : Program} {W : World} {M : Nat → Prop} {v : SV} {m : Mem} {ρ : Env} {pre : List Nat} {hx : HX} {L : Stack} {V : Value} (hM : ∀ x, ¬ M x) (hv : ∀ ids, v.den ρ ids = V) : (Tree.done v m).holds ⟨P, W, M, PureAt W V⟩ ρ pre hx L := fun ids w2 hp hf =>
  ⟨by rw [hv], (show Chg (fun _ => False) W w2 from ⟨hf.chg.os, hf.chg.tape, hf.chg.output, hf.chg.size, fun k hk _ => hf.chg.block k hk (hM k)⟩).below⟩
end
end Go.Eng
namespace Go.Proofs.Ytlgpjjgkdpmidaa
open Go.ChangeShapes Go.WideShapes Go.ChangeAt Go.RowKit Go.Syn Go.Eng Go.MapKept
set_option linter.unusedVariables false
set_option linter.unusedSimpArgs false
set_option maxRecDepth 100000
theorem lpromise_any (r n frm low : Int) (a : Option Addr) (l c : Nat) (w : World) : Calls Try.prog 10 #[.agg #[.int .i64 r, .int .i64 n], .int .i64 frm, .int .i64 low, .slice a l c] w (PureAt w (proM r n frm low (.slice a l c))) := by
  refine calls_at (tab_ok _) Try.func10 rfl tPPromise (ρ := ⟨[r, n, frm, low], [], [], [l, c], [a]⟩) (ids := []) rfl (Facts.initP rfl oneNil) ?_
  exact pure_done (by intros; kernel_rfl)
theorem ints_blk {P : Program} {W w : World} {M : Nat → Prop} {R : Ending → World → Prop} {m : Mem} {ρ : Env} {ids : List Nat} {hx : HX} (hf : Facts ⟨P, W, M, R⟩ m ρ ids hx w) (n ty : Nat) (cs : List LV) (xs : List Int) (h : m.hp[n]? = some (ty, cs)) (hc : cellsDen ρ ids cs = xs.map (Value.int .i64)) (hl : xs.length ≤ 1000) (hx : ∀ x ∈ xs, I64 x) : Ints w (some ⟨idAt ids n, 0, none⟩) xs :=
  Ints.of_cells (by omega) hx (blk_cells (ty := ty) (by have := hf.blk n ty cs h; rw [hc] at this; exact this))
theorem mgC_len (r n : Int) (q : Int × Pv) : (mgC r n q).length = 25 := rfl
theorem mg_cells {w : World} {ma : Option Addr} {mc : Nat} {r n : Int} {mp : List (Int × Pv)} (h : (mrow ma mc r n mp).X w) {i : Nat} {q : Int × Pv} (hq : mp[i]? = some q) (o : Nat) (us : List Value) (hu : ∀ j u, us[j]? = some u → (mgC r n q)[o + j]? = some u) (h0 : us ≠ []) : ma.isSome = true ∧ CellsAt w (.pointer (some (((ma.getD ⟨0, 0, none⟩).add (i * 25)).add o))) us (fun _ => False) := by
  obtain ⟨h1, h2⟩ := flat_part (mgC_len r n) (rw_cells h) hq (o := o) us hu h0
  exact ⟨h1, h2 _ id⟩
theorem at1 {α : Type} {l : List α} {k : Nat} {y : α} (h : l[k]? = some y) : ∀ (j : Nat) (u : α), [y][j]? = some u → l[k + j]? = some u := fun j u hj => by
  cases j with
  | zero => simp only [List.getElem?_cons_zero, Option.some.injEq] at hj; rw [← hj]; exact h
  | succ j => simp at hj
theorem mp_get {mp : List (Int × Pv)} {ms : List (Int × Vl)} (h : mmap Pv.v mp = ms) {i : Nat} {s : Int} {v : Vl} (hi : ms[i]? = some (s, v)) : ∃ q, mp[i]? = some q ∧ q.1 = s ∧ q.2.v = v := by
  subst h
  unfold mmap at hi
  rw [List.getElem?_map] at hi
  cases hq : mp[i]? with
  | none => rw [hq] at hi; cases hi
  | some q =>
    rw [hq] at hi
    simp only [Option.map_some, Option.some.injEq, Prod.mk.injEq] at hi
    exact ⟨q, rfl, hi.1, hi.2⟩
theorem ok123 : setOkB [1, 2, 3] = true := by kernel_rfl
theorem i123 : ∀ x ∈ ([1, 2, 3] : List Int), I64 x := by unfold I64; decide
def stop1 : Vl := ⟨2, [], [1]⟩
theorem stop1_fit : VlFit stop1 := ⟨(by unfold stop1 I64; decide), by decide, by decide⟩
def hd0 : Pr Vl := (Pr.new 1 4 [1, 2, 3]).begin 1 1 5
def hd1 : Pr Vl := (hd0.promised 1 []).1
def hd2 : Pr Vl := (hd1.promised 2 [⟨7, 1, 1, stop1⟩]).1
def hd3 : Pr Vl := (hd2.goes Vl.k 4).1
theorem head_any (w : World) : Calls Try.prog 7 #[] w (PureAt w (.bool true)) := by
  refine calls_at (tab_ok _) Try.func7 rfl tPHead (ρ := ⟨[], [], [], [], []⟩) (ids := []) (hx := HX.nil) rfl (Facts.initP rfl oneNil) ?_
  refine node_pnew 1 4 (fun ids => some ⟨idAt ids 0, 0, none⟩) 3 [1, 2, 3] (by intros; kernel_rfl) (fun ids w2 hp hf => ints_blk hf 0 _ _ [1, 2, 3] rfl (by kernel_rfl) (by decide) i123) ⟨ok123, by kernel_rfl⟩ (by intros; kernel_rfl) (by kernel_rfl) (by kernel_rfl) (by intros; kernel_rfl) ?_
  intro nb F hown
  refine node_pnil (pt := 24) (et := 77) (some ⟨nb, 0, none⟩) ⟨[], [false], [], [], []⟩ Try.underlying24 (by intros; kernel_rfl) (by intros; kernel_rfl) (by intros; kernel_rfl) (by kernel_rfl) (by kernel_rfl) (by kernel_rfl) oneNil ?_
  refine br_F false (by kernel_rfl) rfl ?_
  refine node_pcamp 1 1 5 ⟨[1, 0, 0, 0, 1, 1, 5, 0, 0, 0, 0, 0, 0, 0, 0, 0, 0, 0, 0, 0, 0, 0], [], [], [0, 0, 0, 0, 0, 0, 0, 0], [none, none, none, none]⟩ hown ⟨by decide, by decide⟩ (by kernel_rfl) rfl (by decide) (by intros; kernel_rfl) (by intros; kernel_rfl) (by kernel_rfl) (by kernel_rfl) (by kernel_rfl) oneNil ?_
  intro F1 hown1
  refine node_PI ⟨[2, 0, 0, 0, 1, 1, 5, 0, 0, 0, 0, 0, 0, 0, 0, 0, 0, 0, 0, 0, 0], [], [], [0, 0, 0, 0, 0, 0, 0, 0], [none, none, none, none]⟩ (fun _ => #[.agg #[.int .i64 1, .int .i64 1], .int .i64 5, .int .i64 0, .slice none 0 0]) (proM 1 1 5 0 (.slice none 0 0)) (by intros; kernel_rfl) (by intros; kernel_rfl) (by kernel_rfl) (by kernel_rfl) (by kernel_rfl) oneNil (fun ids w2 hp hf => lpromise_any 1 1 5 0 none 0 0 w2) ?_
  refine node_pprom 1 0 [] (fun _ => none) 0 false hown1 (by kernel_rfl) (fun x hx => by cases hx) (by kernel_rfl) rfl (by kernel_rfl) (fun x hx => by cases hx) (by decide) ⟨by decide, by decide⟩ (fun p hp => by cases hp) ⟨by decide, by decide, by decide⟩ ⟨(fun x hx => by cases hx), by unfold I64; decide⟩ (by decide) (by intros; kernel_rfl) (fun ids w2 hp hf => ⟨⟨fun h => absurd h (by decide), fun x hx => by cases hx⟩, fun k hk => hk.elim (fun q => absurd rfl q.1) fun ⟨x, hx, _⟩ => by cases hx⟩) (by intros; kernel_rfl) (by kernel_rfl) (by kernel_rfl) (by kernel_rfl) ?_
  intro F2 hown2
  refine node_PJ (fun ids => ⟨[2, 0, 0, 0, 1, 1, 5, 4, 0, 0, 0, 0, 0, 0, 0, 0, 0, 0, 0, 0, 0], [], [], [0, 0, 0, 0, 1, 1, 0, 0], [none, none, some ⟨idAt ids 4, 0, none⟩, none]⟩) (fun ids => #[.agg #[.int .i64 1, .int .i64 1], .int .i64 5, .int .i64 4, .slice (some ⟨idAt ids 4, 0, none⟩) 1 1]) (fun ids => proM 1 1 5 4 (.slice (some ⟨idAt ids 4, 0, none⟩) 1 1)) (by intros; kernel_rfl) (by intros; kernel_rfl) (by kernel_rfl) (by kernel_rfl) (by intros; kernel_rfl) (fun _ => oneNil) (fun ids w2 hp hf => lpromise_any 1 1 5 4 _ 1 1 w2) ?_
  intro ids0 hp0 hl0
  have e1 : (hd0.promised 1 []).1 = hd1 := rfl
  refine node_pprom 2 4 [⟨7, 1, 1, ⟨stop1, none, 0, some ⟨idAt ids0 3, 0, none⟩, 1⟩⟩] (fun _ => some ⟨idAt ids0 4, 0, none⟩) 1 true hown2 (by kernel_rfl) (fun x hx => by rw [List.mem_singleton.1 hx]; exact stop1_fit) (by kernel_rfl) rfl (by kernel_rfl) (fun x hx => by rw [List.mem_singleton.1 hx]; exact (show (5 : Int) ≤ 7 ∧ (7 : Int) ≤ 5 + 63 by decide)) (by decide) ⟨by decide, by decide⟩ (fun p hp => by cases hp) ⟨by decide, by decide, by decide⟩ ⟨(fun x hx => by rw [List.mem_singleton.1 hx]; unfold I64; decide), by unfold I64; decide⟩ (by exact (show 1 ≤ 64 by decide)) (by intros; kernel_rfl) (fun ids w2 hp hf => ?_) (by intros; kernel_rfl) (by kernel_rfl) (by kernel_rfl) (by kernel_rfl) ?_
  · have i3 : idAt ids 3 = idAt ids0 3 := idAt_pre hp (by rw [hl0]; decide)
    have i4 : idAt ids 4 = idAt ids0 4 := idAt_pre hp (by rw [hl0]; decide)
    have b3 := blk_cells (hf.blk 3 _ _ rfl)
    have b4 := blk_cells (hf.blk 4 _ _ rfl)
    rw [i3] at b3
    rw [i4] at b4
    refine ⟨⟨(by rw [← i3]; exact b4), fun x hx => ?_⟩, fun k hk => .inr ?_⟩
    · rw [List.mem_singleton.1 hx]
      exact ⟨fun h => absurd (show (0 : Nat) < 0 from h) (Nat.lt_irrefl 0), b3⟩
    · rcases hk with hk | ⟨x, hx, hk⟩
      · rw [show k = idAt ids0 4 from hk.2, ← i4]
        exact idAt_mem (by rw [hf.len]; decide)
      · rw [List.mem_singleton.1 hx] at hk
        rcases hk with hk | hk
        · exact absurd rfl hk.1
        · rw [show k = idAt ids0 3 from hk.2, ← i3]
          exact idAt_mem (by rw [hf.len]; decide)
  intro F3 hown3
  refine holds_eq (hx' := HX.nil.and (prP F3 nb hd2)) rfl ?_
  have hown3 : OwnF w (fun _ => False) HX.nil F3 := hown3
  refine node_pgo 4 [(5, vz), (6, vz), (7, stop1)] hd3 hown3 (by kernel_rfl) (by unfold I64; decide) ⟨by decide, by decide⟩ ⟨by decide, by decide⟩ (by decide) (by intros; kernel_rfl) (by intros; kernel_rfl) (by kernel_rfl) (by kernel_rfl) (by intros; kernel_rfl) ?_
  intro mp ma mc F4 hmp hlen hfit hown4 hms
  obtain ⟨q1, g1, h1, _⟩ := mp_get hmp (i := 1) rfl
  obtain ⟨q1', g1', _, h1'⟩ := mp_get hmp (i := 1) rfl
  obtain ⟨q2, g2, _, h2⟩ := mp_get hmp (i := 2) rfl
  have : q1' = q1 := Option.some.inj (g1'.symm.trans g1)
  subst this
  have hne : mp ≠ [] := fun e => by rw [e] at hlen; cases hlen
  have hm := hms hne
  refine br_T true (by kernel_rfl) rfl ?_
  refine br_T true (by kernel_rfl) rfl ?_
  refine br_T true (by kernel_rfl) rfl ?_
  refine br_T true (by kernel_rfl) rfl ?_
  refine br_T true (by kernel_rfl) rfl ?_
  refine br_T true (by kernel_rfl) rfl ?_
  refine br_T true (by kernel_rfl) rfl ?_
  refine br_T true (by kernel_rfl) rfl ?_
  refine need_k (ma.isSome = true ∧ 0 ≤ (1 : Int) ∧ (1 : Int) < (3 : Int)) (by kernel_rfl) ⟨hm, by decide, by decide⟩ ?_
  refine node_ldk ⟨[6], [], [], [], []⟩ (fun _ => .pointer (some (((ma.getD ⟨0, 0, none⟩).add (1 * 25)).add 6))) [.int .i64 6] (by intros; kernel_rfl) (by intros; kernel_rfl) (fun ids w hp hf => (mg_cells hf.x.1.2 g1 6 _ (at1 (by rw [← h1]; rfl)) (by simp)).2) (by kernel_rfl) oneNil ?_
  refine br_T true (by kernel_rfl) rfl ?_
  refine need_k (ma.isSome = true ∧ 0 ≤ (1 : Int) ∧ (1 : Int) < (3 : Int)) (by kernel_rfl) ⟨hm, by decide, by decide⟩ ?_
  refine node_ldk ⟨[0], [], [], [], []⟩ (fun _ => .pointer (some (((ma.getD ⟨0, 0, none⟩).add (1 * 25)).add 9))) [.int .i64 0] (by intros; kernel_rfl) (by intros; kernel_rfl) (fun ids w hp hf => (mg_cells hf.x.1.2 g1 9 _ (at1 (by show some (Value.int .i64 q1'.2.v.k) = _; rw [h1']; rfl)) (by simp)).2) (by kernel_rfl) oneNil ?_
  refine br_T true (by kernel_rfl) rfl ?_
  refine need_k (ma.isSome = true ∧ 0 ≤ (2 : Int) ∧ (2 : Int) < (3 : Int)) (by kernel_rfl) ⟨hm, by decide, by decide⟩ ?_
  refine node_ldk ⟨[2], [], [], [], []⟩ (fun _ => .pointer (some (((ma.getD ⟨0, 0, none⟩).add (2 * 25)).add 9))) [.int .i64 2] (by intros; kernel_rfl) (by intros; kernel_rfl) (fun ids w hp hf => (mg_cells hf.x.1.2 g2 9 _ (at1 (by show some (Value.int .i64 q2.2.v.k) = _; rw [h2]; rfl)) (by simp)).2) (by kernel_rfl) oneNil ?_
  refine br_T true (by kernel_rfl) rfl ?_
  refine node_ptop 7 (by kernel_rfl) ⟨by decide, by decide⟩ (by intros; kernel_rfl) (by intros; kernel_rfl) (by kernel_rfl) (by kernel_rfl) (by kernel_rfl) ?_
  refine br_T true (by kernel_rfl) rfl ?_
  refine node_pstop true (by kernel_rfl) (by intros; kernel_rfl) (by intros; kernel_rfl) (by kernel_rfl) (by kernel_rfl) (by kernel_rfl) ?_
  exact pure_out (fun _ => id) (by intros; kernel_rfl)
end Go.Proofs.Ytlgpjjgkdpmidaa

namespace Go.Eng
open Go.RowKit Go.Syn Go.MapKept Go.Proofs.Ytlgpjjgkdpmidaa
set_option linter.unusedVariables false
set_option linter.unusedSimpArgs false
section
variable {α : Type}
def numb (s : Int) : List α → List (Int × α)
  | [] => []
  | v :: r => (s, v) :: numb (s + 1) r
theorem numb_len : ∀ (s : Int) (l : List α), (numb s l).length = l.length
  | _, [] => rfl
  | s, v :: r => by rw [numb, List.length_cons, List.length_cons, numb_len (s + 1) r]
theorem numb_get : ∀ (s : Int) (l : List α) (i : Nat), (numb s l)[i]? = l[i]?.map fun v => (s + (i : Int), v)
  | _, [], i => rfl
  | s, v :: r, 0 => by simp [numb]
  | s, v :: r, i + 1 => by
    rw [numb, List.getElem?_cons_succ, List.getElem?_cons_succ, numb_get (s + 1) r i]
    congr 1; funext v; congr 1; omega
theorem numb_ge : ∀ (s : Int) (l : List α) (p : Int × α), p ∈ numb s l → s ≤ p.1
  | _, [], p, h => by cases h
  | s, v :: r, p, h => by
    rcases List.mem_cons.1 h with rfl | h
    · exact Int.le_refl _
    · have := numb_ge (s + 1) r p h; omega
theorem look_all {m l : List (Int × α)} (h : ∀ p ∈ l, mlk m p.1 = some p.2) : (l.map (·.1)).filterMap (fun s => (mlk m s).map fun v => (s, v)) = l := by
  induction l with
  | nil => rfl
  | cons p r ih =>
    rw [List.map_cons, List.filterMap_cons, h p (.head _)]
    show (p.1, p.2) :: _ = _
    rw [ih fun q hq => h q (.tail _ hq)]
theorem mput_le (m : List (Int × α)) (k : Int) (v : α) : (mput m k v).length ≤ m.length + 1 := by
  rw [mput_len]; split <;> omega
theorem mput_new {m : List (Int × α)} {k : Int} (v : α) (h : mlk m k = none) : mput m k v = m ++ [(k, v)] := by
  unfold mput; rw [h]; rfl
structure FillS (ex : Int) (D D' : Pr α) (j : Nat) : Prop where
  hj : j ≤ D.queue.length
  q : D'.queue = D.queue.drop j
  nx : D'.next = D.next + j
  fr : D'.fresh = D.fresh ++ (numb D.next (D.queue.take j)).map (·.1)
  lk : ∀ p ∈ numb D.next (D.queue.take j), mlk D'.out p.1 = some p.2
  old : ∀ s, s < D.next → mlk D'.out s = mlk D.out s
  out : (∀ s, D.next ≤ s → mlk D.out s = none) → D'.out = D.out ++ numb D.next (D.queue.take j)
  len : D'.out.length ≤ D.out.length + j
  win : ∀ i : Nat, i < j → D.next + i - D.window ≤ ex
  stop : D.stop = true → D'.stop = true
  full : j = D.queue.length ∨ ¬ (D'.next - D.window ≤ ex ∧ D'.next ≤ 1099511627776)
  same : D'.me = D.me ∧ D'.window = D.window ∧ D'.phase = D.phase ∧ D'.r = D.r ∧ D'.n = D.n ∧ D'.mem = D.mem ∧ D'.said = D.said ∧ D'.frm = D.frm ∧ D'.best = D.best
theorem fill_spec (kd : α → Int) (ex : Int) : ∀ (k : Nat) (D : Pr α), D.queue.length = k → ∃ j, FillS ex D (Pr.fill kd ex k D) j
  | 0, D, h => ⟨0, by
    have hq : D.queue = [] := List.eq_nil_of_length_eq_zero h
    exact ⟨Nat.zero_le _, rfl, (Int.add_zero _).symm, (List.append_nil _).symm, (fun p hp => by cases hp), fun _ _ => rfl, fun _ => (List.append_nil _).symm, Nat.le_refl _, (fun i hi => absurd hi (Nat.not_lt_zero _)), id, .inl h.symm, ⟨rfl, rfl, rfl, rfl, rfl, rfl, rfl, rfl, rfl⟩⟩⟩
  | k + 1, D, h => by
    cases hq : D.queue with
    | nil => rw [hq] at h; cases h
    | cons v q =>
      by_cases hc : D.next - D.window ≤ ex ∧ D.next ≤ 1099511627776
      · obtain ⟨D1, eD1⟩ : ∃ D1 : Pr α, D1 = { D.ask kd D.next v with queue := q, next := D.next + 1 } := ⟨_, rfl⟩
        have hstep : Pr.fill kd ex (k + 1) D = Pr.fill kd ex k D1 := by
          simp only [Pr.fill, hq]
          rw [if_pos hc, eD1]
        have hq1 : D1.queue = q := by rw [eD1]
        have hn1 : D1.next = D.next + 1 := by rw [eD1]
        have ho1 : D1.out = mput D.out D.next v := by rw [eD1]; rfl
        have hf1 : D1.fresh = D.fresh ++ [D.next] := by rw [eD1]; rfl
        have hw1 : D1.window = D.window := by rw [eD1]; rfl
        obtain ⟨j, s⟩ := fill_spec kd ex k D1 (by rw [hq1]; rw [hq] at h; simpa using h)
        rw [hstep]
        have hj := s.hj
        rw [hq1] at hj
        refine ⟨j + 1, by rw [hq, List.length_cons]; omega, by rw [s.q, hq1, hq]; rfl, by rw [s.nx, hn1]; omega, ?_, ?_, ?_, ?_, ?_, ?_, ?_, ?_, ?_⟩
        · rw [s.fr, hf1, hn1, hq1, hq, List.take_succ_cons, numb, List.map_cons, List.append_assoc]; rfl
        · intro p hp
          rw [hq, List.take_succ_cons, numb] at hp
          rcases List.mem_cons.1 hp with rfl | hp
          · rw [s.old _ (by rw [hn1]; show D.next < _; omega), ho1, mlk_put, if_pos rfl]
          · exact s.lk p (by rw [hn1, hq1]; exact hp)
        · intro x hx
          rw [s.old x (by rw [hn1]; omega), ho1, mlk_put, if_neg (by omega)]
        · intro h0
          have h1 : ∀ x, D1.next ≤ x → mlk D1.out x = none := fun x hx => by rw [ho1, mlk_put, if_neg (by omega)]; exact h0 x (by omega)
          rw [s.out h1, ho1, mput_new v (h0 _ (Int.le_refl _)), hq1, hn1, hq, List.take_succ_cons, numb, List.append_assoc]; rfl
        · have := s.len
          have := mput_le D.out D.next v
          rw [ho1] at *
          omega
        · intro i hi
          cases i with
          | zero => show D.next + 0 - _ ≤ _; omega
          | succ i =>
            have := s.win i (by omega)
            rw [hn1, hw1] at this
            omega
        · intro h1
          exact s.stop (by rw [eD1]; show (D.stop || _) = true; rw [h1]; rfl)
        · rcases s.full with f | f
          · left; rw [f, hq1, hq, List.length_cons]
          · right; rw [← hw1]; exact f
        · obtain ⟨a1, a2, a3, a4, a5, a6, a7, a8, a9⟩ := s.same
          rw [a1, a2, a3, a4, a5, a6, a7, a8, a9, eD1]
          exact ⟨rfl, rfl, rfl, rfl, rfl, rfl, rfl, rfl, rfl⟩
      · have hstep : Pr.fill kd ex (k + 1) D = D := by
          simp only [Pr.fill, hq]
          rw [if_neg hc]
        rw [hstep]
        exact ⟨0, ⟨Nat.zero_le _, rfl, (Int.add_zero _).symm, (List.append_nil _).symm, (fun p hp => by cases hp), fun _ _ => rfl, fun _ => (List.append_nil _).symm, Nat.le_refl _, (fun i hi => absurd hi (Nat.not_lt_zero _)), id, .inr hc, ⟨rfl, rfl, rfl, rfl, rfl, rfl, rfl, rfl, rfl⟩⟩⟩
theorem goes_spec (kd : α → Int) (ex : Int) {D : Pr α} (h2 : D.phase = 2) (hf : D.fresh = []) : ∃ j D', D.goes kd ex = (D', numb D.next (D.queue.take j)) ∧ FillS ex D { D' with fresh := (numb D.next (D.queue.take j)).map (·.1) } j ∧ D'.fresh = [] := by
  obtain ⟨j, s⟩ := fill_spec kd ex D.queue.length D rfl
  have hfr : (Pr.fill kd ex D.queue.length D).fresh = (numb D.next (D.queue.take j)).map (·.1) := by rw [s.fr, hf]; rfl
  refine ⟨j, { Pr.fill kd ex D.queue.length D with fresh := [] }, ?_, ?_, rfl⟩
  · unfold Pr.goes
    rw [if_pos h2]
    refine Prod.ext rfl ?_
    show Pr.msgs _ = _
    unfold Pr.msgs
    rw [hfr]
    exact look_all s.lk
  · exact ⟨s.hj, s.q, s.nx, by rw [hf]; rfl, s.lk, s.old, s.out, s.len, s.win, s.stop, s.full, s.same⟩
end
end Go.Eng
