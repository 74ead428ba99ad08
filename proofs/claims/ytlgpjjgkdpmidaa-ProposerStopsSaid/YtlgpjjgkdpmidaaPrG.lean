/- Go: what is to be asked for now. -/
import Derived.Test.YtlgpjjgkdpmidaaPrF
namespace Go.Proofs.Ytlgpjjgkdpmidaa
open Go.ChangeShapes Go.WideShapes Go.ChangeAt Go.RowKit Go.Syn Go.Eng Go.MapKept
set_option linter.unusedVariables false
set_option linter.unusedSimpArgs false
set_option maxRecDepth 100000
theorem info_msg : (Try.prog.info? 41).map (fun i => (i.zero, i.size, i.bytes)) = some (some (.agg #[.int .i64 0, .int .i64 0, .int .i64 0, .int .i64 0, .int .i64 0, .int .i64 0, .int .i64 0, .int .i64 0, .int .i64 0, .int .i64 0, .slice none 0 0, .slice none 0 0, .slice none 0 0, .int .i64 0, .int .i64 0, .int .i64 0, .int .i64 0, .int .i64 0, .int .i64 0, .int .i64 0, .int .i64 0, .int .i64 0, .int .i64 0, .int .i64 0, .slice none 0 0]), 25, 264) := by kernel_rfl
def mgC (r n : Int) (q : Int × Pv) : List Value := [.int .i64 4, .int .i64 0, .int .i64 0, .int .i64 0, .int .i64 r, .int .i64 n, .int .i64 q.1, .int .i64 0, .int .i64 0, .int .i64 q.2.v.k, .slice q.2.a1 q.2.v.cs.length q.2.c1, .slice q.2.a2 q.2.v.ns.length q.2.c2, .slice none 0 0, .int .i64 0, .int .i64 0, .int .i64 0, .int .i64 0, .int .i64 0, .int .i64 0, .int .i64 0, .int .i64 0, .int .i64 0, .int .i64 0, .int .i64 0, .slice none 0 0]
theorem mgC_one (r n : Int) (q : Int × Pv) : ∀ v ∈ mgC r n q, v.oneCell' = true := fun v hv => by
  simp only [mgC, List.mem_cons, List.not_mem_nil, or_false] at hv
  rcases hv with h | h | h | h | h | h | h | h | h | h | h | h | h | h | h | h | h | h | h | h | h | h | h | h | h <;> (rw [h]; rfl)
def mcells (r n : Int) (mp : List (Int × Pv)) : List Value := mp.flatMap (mgC r n)
def mrow (a : Option Addr) (cap : Nat) (r n : Int) (mp : List (Int × Pv)) : HX := HX.rw 25 41 a mp.length cap (mcells r n mp)
def mall (mp : List (Int × Pv)) : HX := HX.all (mp.map fun q => q.2.hx)
theorem all_snoc (xs : List HX) (x : HX) : HX.all (xs ++ [x]) = (HX.all xs).and x := HX.ext (by
    funext k
    refine propext ⟨fun ⟨y, hy, hk⟩ => ?_, fun h => ?_⟩
    · rcases List.mem_append.1 hy with hy | hy
      · exact .inl ⟨y, hy, hk⟩
      · rw [List.mem_singleton.1 hy] at hk; exact .inr hk
    · rcases h with ⟨y, hy, hk⟩ | hk
      · exact ⟨y, List.mem_append_left _ hy, hk⟩
      · exact ⟨x, List.mem_append_right _ (List.mem_singleton.2 rfl), hk⟩) (by
    funext w
    refine propext ⟨fun h => ⟨fun y hy => h y (List.mem_append_left _ hy), h x (List.mem_append_right _ (List.mem_singleton.2 rfl))⟩, fun h y hy => ?_⟩
    rcases List.mem_append.1 hy with hy | hy
    · exact h.1 y hy
    · rw [List.mem_singleton.1 hy]; exact h.2)
theorem mall_snoc (mp : List (Int × Pv)) (q : Int × Pv) : mall (mp ++ [q]) = (mall mp).and q.2.hx := by unfold mall; rw [List.map_append]; exact all_snoc _ _
/-- What Go does. -/
def PrGo (w : World) (F : Nat → Prop) (nb : Nat) (P' : Pr Vl) (ms : List (Int × Vl)) (e : Ending) (w' : World) : Prop := ∃ (mp : List (Int × Pv)) (ma : Option Addr) (mc : Nat) (F' : Nat → Prop), mmap Pv.v mp = ms ∧ (∀ q ∈ mp, VlFit q.2.v) ∧ e = .returned (.slice ma mp.length mc) ∧ (HX.obj F' (PrO nb P')).X w' ∧ (mall mp).X w' ∧ (mrow ma mc P'.r P'.n mp).X w' ∧ (∀ k, F' k → (F k ∨ w.heap.size ≤ k) ∧ k < w'.heap.size) ∧ (∀ k, (mall mp).F k → w.heap.size ≤ k ∧ k < w'.heap.size ∧ ¬ F' k) ∧ (∀ k, (mrow ma mc P'.r P'.n mp).F k → w.heap.size ≤ k ∧ k < w'.heap.size ∧ ¬ F' k ∧ ¬ (mall mp).F k) ∧ Chg F w w'
theorem fill_stop {kd : Pv → Int} {ex : Int} {D : Pr Pv} (h : D.queue = [] ∨ ¬ (D.next - D.window ≤ ex ∧ D.next ≤ 1099511627776)) : ∀ k, Pr.fill kd ex k D = D
  | 0 => rfl
  | k + 1 => by
    unfold Pr.fill
    cases hq : D.queue with
    | nil => rfl
    | cons v q =>
      rcases h with h | h
      · rw [h] at hq; cases hq
      · dsimp only; rw [if_neg h]
theorem fill_go {kd : Pv → Int} {ex : Int} {D : Pr Pv} {p : Pv} {q : List Pv} (hq : D.queue = p :: q) (h : D.next - D.window ≤ ex ∧ D.next ≤ 1099511627776) (k : Nat) : Pr.fill kd ex (k + 1) D = Pr.fill kd ex k { D.ask kd D.next p with queue := q, next := D.next + 1 } := by
  simp only [Pr.fill, hq]
  rw [if_pos h]
section
variable {D : Pr Pv} {a : PA} {nb : Nat} {w : World} {F : Nat → Prop}
def Go3 (w : World) (F : Nat → Prop) (D D1 : Pr Pv) (ex : Int) (vs : Vals) (hx : HX) (m : Nat) : Prop := ∃ (Dc : Pr Pv) (ac : PA), m = Dc.queue.length ∧ vs = prVs Dc ac ∧ POk Dc ac ∧ (Dc.queue ≠ [] → ac.aq.isSome = true) ∧ Pr.fill kdP ex Dc.queue.length Dc = D1 ∧ Dc.fresh.length + Dc.queue.length ≤ D.fresh.length + D.queue.length ∧ (Dc.window = D.window ∧ Dc.r = D.r ∧ Dc.n = D.n ∧ D.next ≤ Dc.next ∧ Dc.next ≤ 1099511627777) ∧ (∀ k, (prX Dc ac).F k → w.heap.size ≤ k ∨ F k) ∧ hx = HX.nil.and (prX Dc ac)
def msTo (D : Pr Pv) (j : Nat) : List (Int × Vl) := (D.fresh.take j).filterMap fun s => (mlk (mmap Pv.v D.out) s).map fun v => (s, v)
def GoS (w : World) (base : HX) (D : Pr Pv) (j : Nat) (ma : Option Addr) (mc : Nat) (mp : List (Int × Pv)) (hx : HX) : Prop := mmap Pv.v mp = msTo D j ∧ (∀ q ∈ mp, VlFit q.2.v) ∧ mp.length ≤ j ∧ (∀ k, (mall mp).F k → w.heap.size ≤ k ∧ ¬ base.F k) ∧ (∀ k, mc ≠ 0 → abk ma = some k → w.heap.size ≤ k ∧ ¬ (base.and (mall mp)).F k) ∧ hx = (base.and (mall mp)).and (mrow ma mc D.r D.n mp)
def Go9 (w : World) (base : HX) (D : Pr Pv) (a : PA) (vs : Vals) (hx : HX) (m : Nat) : Prop := (D.fresh ≠ [] → a.af.isSome = true) ∧ ∃ (j : Nat) (ma : Option Addr) (mc : Nat) (mp : List (Int × Pv)), m = D.fresh.length - j ∧ j ≤ D.fresh.length ∧ vs = ⟨[(j : Int)], [], [], [mp.length, mc], [ma]⟩ ∧ GoS w base D j ma mc mp hx
theorem q_cells (h : (qrow a.aq a.cq D.queue).X w) {p : Pv} {q : List Pv} (hq : D.queue = p :: q) : a.aq.isSome = true ∧ CellsAt w (.pointer (some (((a.aq.getD ⟨0, 0, none⟩).add (0 * 3)).add 0))) p.cells (fun _ => False) := by
  have hc := tw_cells h
  obtain ⟨h1, h2⟩ := cl_elt (i := 0) (sz := 3) hc p.cells (fun j u hj => by
    rw [hq]
    show (p.cells ++ qcs q)[0 * 3 + j]? = some u
    have hlt : j < p.cells.length := by
      rcases Nat.lt_or_ge j p.cells.length with g | g
      · exact g
      · rw [List.getElem?_eq_none g] at hj; cases hj
    rw [Nat.zero_mul, Nat.zero_add, List.getElem?_append_left hlt]; exact hj) (by simp [Pv.cells])
  exact ⟨h1, h2 _ id⟩
theorem f_cells (h : (irow a.af a.cf D.fresh).X w) {j : Nat} {s : Int} (hj : D.fresh[j]? = some s) : a.af.isSome = true ∧ CellsAt w (.pointer (some (((a.af.getD ⟨0, 0, none⟩).add (j * 1)).add 0))) [.int .i64 s] (fun _ => False) := by
  have hc := rw_cells h
  obtain ⟨h1, h2⟩ := cl_elt (i := j) (sz := 1) hc [.int .i64 s] (fun k u hk => by
    cases k with
    | zero =>
      simp only [List.getElem?_cons_zero, Option.some.injEq] at hk
      rw [Nat.mul_one, Nat.add_zero, List.getElem?_map, hj, ← hk]; rfl
    | succ k => simp at hk) (by simp)
  exact ⟨h1, h2 _ id⟩
set_option maxHeartbeats 1600000 in
theorem go_any {P : Pr Vl} (ex : Int) (H0 : (HX.obj F (PrO nb P)).X w) (hF : ∀ k, F k → k < w.heap.size) (hex : I64 ex) (hw0 : 1 ≤ P.window ∧ P.window ≤ 16) (hn0 : 0 ≤ P.next ∧ P.next ≤ 1099511627777) (hl : P.fresh.length + P.queue.length ≤ 10000) :
    Calls Try.prog 14 #[.pointer (some ⟨nb, 0, none⟩), .int .i64 ex] w (PrGo w F nb (P.goes Vl.k ex).1 (P.goes Vl.k ex).2) := by
  obtain ⟨D, a, hP, hok, hnb, hB, hX, Fnb, hsub⟩ := pobj_open H0
  refine calls_at (tab_ok _) Try.func14 rfl tPGo (ρ := ⟨[D.me, D.window, D.phase, D.r, D.n, D.frm, D.next, ex], [D.stop], [.map (some a.bb), .map (some a.bo)], [D.mem.length, a.cm, D.said.length, a.cs, D.fresh.length, a.cf, D.queue.length, a.cq], [a.am, a.as_, a.af, a.aq]⟩) (ids := [nb]) (hx := prX D a) rfl (Facts.initx (M := F) rfl (fun v hv => by simp only [List.mem_cons, List.not_mem_nil, or_false] at hv; rcases hv with rfl | rfl <;> rfl) hB rfl Fnb hX (fun k hk => ⟨hF k (hsub k hk), fun e => hnb (e ▸ hk)⟩)) ?_
  have hph : P.phase = D.phase := by rw [← hP]; rfl
  have hw0 : 1 ≤ D.window ∧ D.window ≤ 16 := by rw [← hP] at hw0; exact hw0
  have hn0 : 0 ≤ D.next ∧ D.next ≤ 1099511627777 := by rw [← hP] at hn0; exact hn0
  have hl : D.fresh.length + D.queue.length ≤ 10000 := by
    rw [← hP] at hl
    have : (D.map Pv.v).queue.length = D.queue.length := List.length_map _
    rw [this] at hl; exact hl
  refine br_B (D.phase != 2) (by kernel_rfl) (fun h => ?_) (fun h => ?_)
  · have h : P.phase ≠ 2 := by rw [hph]; simpa using h
    have e : P.goes Vl.k ex = (P, []) := by unfold Pr.goes; rw [if_neg h]
    rw [e]
    intro ids w2 hp hf
    have hb := hf.blk 0 77 _ rfl
    rw [idAt0 hp] at hb
    have hmem : nb ∈ ids := by obtain ⟨x, rfl⟩ := hp; simp
    refine ⟨[], none, 0, fun k => k = nb ∨ (prX D a).F k, rfl, (fun q hq => by cases hq), rfl, ⟨_, ⟨D, a, hP, hok, fun q => (hf.sep nb q).2 hmem, rfl⟩, ⟨hb, hf.x⟩, fun k hk => hk⟩, (fun x hx => by cases hx), HX.rw_nil _ _ _ _, fun k hk => ?_, (fun k ⟨x, hx, _⟩ => by cases hx), (fun k hk => (row0_F hk).elim), hf.chg⟩
    rcases hk with rfl | hk
    · exact ⟨.inl Fnb, hf.id_lt hmem⟩
    · exact ⟨.inl (hsub k hk), (hf.sep k hk).1⟩
  have h : P.phase = 2 := by rw [hph]; simpa using h
  obtain ⟨D1, eD1⟩ : ∃ D1, D1 = Pr.fill kdP ex D.queue.length D := ⟨_, rfl⟩
  have hPg : P.goes Vl.k ex = ({ D1.map Pv.v with fresh := [] }, msTo D1 D1.fresh.length) := by
    have e1 : D1.map Pv.v = Pr.fill Vl.k ex P.queue.length P := by
      rw [eD1, show (kdP : Pv → Int) = fun x => Vl.k (Pv.v x) from rfl, map_fill Pv.v Vl.k ex, hP]
      congr 1
      rw [← hP]; exact (List.length_map _).symm
    unfold Pr.goes
    rw [if_pos h]
    dsimp only
    rw [← e1]
    refine Prod.ext rfl ?_
    unfold Pr.msgs msTo
    rw [List.take_length]; rfl
  rw [hPg]
  refine ⟨fun vs hx' => ∃ a1, vs = prVs D1 a1 ∧ POk D1 a1 ∧ (∀ k, (prX D1 a1).F k → w.heap.size ≤ k ∨ F k) ∧ D1.fresh.length ≤ 10000 ∧ hx' = HX.nil.and (prX D1 a1), ?_, ?_⟩
  · refine ⟨Go3 w F D D1 ex, fun ids w2 hp hf => ⟨HX.nil.and (prX D a), D.queue.length, ⟨⟨trivial, hf.x⟩, fun k hk => hk.elim False.elim (hf.sep k)⟩, D, a, rfl, by kernel_rfl, hok, fun hq => ?_, eD1.symm, Nat.le_refl _, ⟨rfl, rfl, rfl, Int.le_refl _, hn0.2⟩, fun k hk => .inr (hsub k hk), rfl⟩, ?_⟩
    · obtain ⟨p, q, e⟩ := List.exists_cons_of_ne_nil hq
      exact (q_cells hf.x.2 e).1
    rintro vs hx' n hcnt ⟨Dc, ac, rfl, rfl, hokc, hs, hfill, hlen, ⟨g1, g2, g3, g4, g5⟩, hown, rfl⟩
    have out : (Dc.queue = [] ∨ ¬ (Dc.next - Dc.window ≤ ex ∧ Dc.next ≤ 1099511627776)) → ∀ {m : Mem} {ρ : Env} {I : Vals → HX → Prop} {S : Stack} {es : Vec}, (∀ ids, es.den ρ ids = prVs Dc ac) → (Tree.again 7 es m).holds ⟨Try.prog, w, F, PrGo w F nb ({ D1.map Pv.v with fresh := [] } : Pr Vl) (msTo D1 D1.fresh.length)⟩ ρ [nb] (HX.nil.and (prX Dc ac)) ((3, I) :: (7, fun vs hx' => ∃ a1, vs = prVs D1 a1 ∧ POk D1 a1 ∧ (∀ k, (prX D1 a1).F k → w.heap.size ≤ k ∨ F k) ∧ D1.fresh.length ≤ 10000 ∧ hx' = HX.nil.and (prX D1 a1)) :: S) := fun hq {m ρ I S es} hv => by
      have e : Dc = D1 := by rw [← hfill, fill_stop hq]
      refine again_V (prVs Dc ac) rfl hv _ (fun w2 ids hf => ⟨hf.x, hf.sep⟩) ⟨ac, by rw [e], e ▸ hokc, e ▸ hown, ?_, by rw [e]⟩
      rw [← e]; omega
    have hwr : IntKind.i64.wrap (Dc.next - Dc.window) = Dc.next - Dc.window := wrap_i64 (by omega)
    refine br_D (p := (Dc.queue.length : Int) > 0) (by kernel_rfl) (fun h1 => ?_) (fun h1 => out (.inl (List.length_eq_zero_iff.1 (by omega))) (by intros; kernel_rfl))
    refine br_D (p := ex ≥ IntKind.i64.wrap (Dc.next - Dc.window)) (by kernel_rfl) (fun h2 => ?_) (fun h2 => out (.inr (by rw [hwr] at h2; omega)) (by intros; kernel_rfl))
    refine br_D (p := Dc.next ≤ 1099511627776) (by kernel_rfl) (fun h3 => ?_) (fun h3 => out (.inr (by omega)) (by intros; kernel_rfl))
    clear out
    rw [hwr] at h2
    obtain ⟨p, q, hq⟩ : ∃ p q, Dc.queue = p :: q := List.exists_cons_of_ne_nil (by intro e; rw [e] at h1; simp at h1)
    have hs := hs (by rw [hq]; simp)
    have hpG := hokc.gq p (by rw [hq]; exact List.mem_cons_self)
    have hql : Dc.queue.length = q.length + 1 := by rw [hq]; rfl
    refine par_i ?x ?y
    case' x =>
      refine need_k (ac.aq.isSome = true ∧ (0 : Int) ≤ 0 ∧ (0 : Int) < (Dc.queue.length : Int)) (by kernel_rfl) ⟨hs, by omega, by omega⟩ ?_
    case' y =>
      refine need_k (ac.aq.isSome = true ∧ (0 : Int) ≤ 0 ∧ (0 : Int) < (Dc.queue.length : Int)) (by kernel_rfl) ⟨hs, by omega, by omega⟩ ?_
      refine par_i ?_ ?_
    all_goals
      refine node_ldk ⟨[p.v.k], [], [], [p.v.cs.length, p.c1, p.v.ns.length, p.c2], [p.a1, p.a2]⟩ (fun _ => .pointer (some (((ac.aq.getD ⟨0, 0, none⟩).add (0 * 3)).add 0))) p.cells (by intros; kernel_rfl) (by intros; kernel_rfl) (fun ids w2 hp hf => (q_cells hf.x.2.2 hq).2) (by kernel_rfl) oneNil ?_
      refine node_pset (D := Dc) (D' := Dc.ask kdP Dc.next p) (a := ac) (fun ids => #[.pointer (some ⟨idAt ids 0, 0, none⟩), .int .i64 Dc.next, p.val]) rfl rfl (by intros; kernel_rfl) (by intros; kernel_rfl) (fun ids w2 hp hf hb hn hs => ask_any Dc.next p hb hf.x.2 hokc hn hs hpG.1 hpG.2 (by omega)) (by intros; kernel_rfl) (by intros; kernel_rfl) (fun k hk => ⟨fun q => q, hown k hk⟩) (by kernel_rfl) (by intros; kernel_rfl) ?_
      intro a2 hok2 hdis
      refine node_from (e := 31) (sz := 3) (n := Dc.queue.length) (cap := a2.cq) (l := 1) a2.aq Try.underlying57 (by kernel_rfl) info_val (by intros; kernel_rfl) (by intros; kernel_rfl) (by omega) (by intros; kernel_rfl) (by kernel_rfl) (by kernel_rfl) (by kernel_rfl) ?_
      obtain ⟨D2, eD2⟩ : ∃ D2 : Pr Pv, D2 = { Dc.ask kdP Dc.next p with queue := q, next := Dc.next + 1 } := ⟨_, rfl⟩
      obtain ⟨a3, ea3⟩ : ∃ a3 : PA, a3 = { a2 with aq := sliA a2.aq 1 a2.cq 3, cq := a2.cq - 1 } := ⟨_, rfl⟩
      have hwn : IntKind.i64.wrap (Dc.next + 1) = Dc.next + 1 := wrap_i64 (by omega)
      have hdrop : (qcs Dc.queue).drop 3 = qcs q := by rw [hq]; show (p.cells ++ qcs q).drop 3 = _; exact List.drop_left (l₁ := p.cells)
      have hqF : ∀ k, (qrow a3.aq a3.cq q).F k → (qrow a2.aq a2.cq Dc.queue).F k := fun k hk => by
        rw [ea3] at hk
        refine tw_tail_F (n := Dc.queue.length) (xs := qcs Dc.queue) ?_
        rw [hdrop, hql]; exact hk
      have hXF : ∀ k, (prX D2 a3).F k → (prX (Dc.ask kdP Dc.next p) a2).F k := fun k hk => by
        rw [eD2] at hk
        rcases hk with hk | hk
        · rw [ea3] at hk; exact .inl hk
        · exact .inr (hqF k hk)
      have hok3 : POk D2 a3 := by
        rw [eD2, ea3]
        refine ⟨hok2.gm, hok2.gz, hok2.gb, hok2.go, (fun x hx => hok2.gq x (by show x ∈ Dc.queue; rw [hq]; exact List.mem_cons_of_mem _ hx)), ?_⟩
        exact hok2.dj.set (i := 5) (a' := qrow (sliA a2.aq 1 a2.cq 3) (a2.cq - 1) q) rfl fun k hk => .inl (hqF k (by rw [ea3]; exact hk))
      intro ids w2 hp hf
      have hX2 := hf.x.2
      have hX3 : (prX D2 a3).X w2 := by
        rw [eD2, ea3]
        refine ⟨hX2.1, ?_⟩
        have := tw_tail (n := Dc.queue.length) hX2.2 (by omega)
        rw [show (qcs (Dc.ask kdP Dc.next p).queue) = qcs Dc.queue from rfl, hdrop, hql] at this
        exact this
      refine ⟨HX.nil.and (prX D2 a3), ⟨⟨trivial, hX3⟩, fun k hk => hk.elim False.elim fun z => hf.sep k (.inr (hXF k z))⟩, _, rfl, q.length, by omega, D2, a3, by rw [eD2], ?_, hok3, fun hq2 => ?_, ?_, ?_, ?_, fun k hk => (hdis k (hXF k hk)).2, rfl⟩
      · refine Eq.trans (b := (⟨[Dc.me, Dc.window, Dc.phase, Dc.r, Dc.n, Dc.frm, IntKind.i64.wrap (Dc.next + 1)], [(Dc.ask kdP Dc.next p).stop], [.map (some a2.bb), .map (some a2.bo)], [Dc.mem.length, a2.cm, Dc.said.length, a2.cs, (Dc.fresh ++ [Dc.next]).length, a2.cf, Dc.queue.length - 1, a2.cq - 1], [a2.am, a2.as_, a2.af, sliA a2.aq 1 a2.cq 3]⟩ : Vals)) (by kernel_rfl) ?_
        rw [hwn, eD2, ea3, hql]; rfl
      · obtain ⟨x, y, e⟩ := List.exists_cons_of_ne_nil hq2
        exact (q_cells hX3.2 e).1
      · rw [← hfill, hql, fill_go hq ⟨by omega, h3⟩, ← eD2, eD2]
      · rw [eD2]
        show (Dc.fresh ++ [Dc.next]).length + q.length ≤ _
        rw [List.length_append]; simp only [List.length_cons, List.length_nil]; omega
      · rw [eD2]
        exact ⟨g1, g2, g3, (by show D.next ≤ Dc.next + 1; omega), (by show Dc.next + 1 ≤ _; omega)⟩
  rintro vs hx' hcnt ⟨a1, rfl, hok1, hown1, hfl, rfl⟩
  obtain ⟨B, eB⟩ : ∃ B, B = HX.nil.and (prX D1 a1) := ⟨_, rfl⟩
  have Bx : ∀ {w}, B.X w → (prX D1 a1).X w := fun h => by rw [eB] at h; exact h.2
  rw [← eB]
  refine ⟨Go9 w B D1 a1, fun ids w2 hp hf => ⟨(B.and (mall [])).and (mrow none 0 D1.r D1.n []), D1.fresh.length, ⟨⟨⟨hf.x, (fun x hx => by cases hx)⟩, HX.rw_nil _ _ _ _⟩, fun k hk => ?_⟩, fun hq => ?_, 0, none, 0, [], rfl, Nat.zero_le _, by kernel_rfl, rfl, (fun q hq => by cases hq), Nat.le_refl _, (fun k ⟨x, hx, _⟩ => by cases hx), (fun k h => absurd rfl h), rfl⟩, ?_⟩
  · rcases hk with (hk | ⟨x, hx, _⟩) | hk
    · exact hf.sep k hk
    · cases hx
    · exact (row0_F hk).elim
  · obtain ⟨s, q, e⟩ := List.exists_cons_of_ne_nil hq
    exact (f_cells (Bx hf.x).1.2 (j := 0) (s := s) (by rw [e]; rfl)).1
  rintro vs hx' n hcnt2 ⟨hs, j, ma, mc, mp, rfl, hj, rfl, m1, m2, m3, m4, m5, rfl⟩
  refine br_D (p := (j : Int) < (D1.fresh.length : Int)) (by kernel_rfl) (fun hjl => ?_) (fun hjl => ?_)
  · have hjl : j < D1.fresh.length := by omega
    obtain ⟨s, hsj⟩ : ∃ b, D1.fresh[j]? = some b := ⟨_, List.getElem?_eq_getElem hjl⟩
    have hms : msTo D1 (j + 1) = msTo D1 j ++ ((mlk (mmap Pv.v D1.out) s).map fun v => (s, v)).toList := by
      unfold msTo
      rw [List.take_add_one, hsj, List.filterMap_append]
      congr 1
    refine ⟨fun vs hx' => ∃ ma mc mp, vs = ⟨[], [], [], [mp.length, mc], [ma]⟩ ∧ GoS w B D1 (j + 1) ma mc mp hx', ?_, ?_⟩
    · refine need_k (a1.af.isSome = true ∧ 0 ≤ (j : Int) ∧ (j : Int) < (D1.fresh.length : Int)) (by kernel_rfl) ⟨hs (by intro e; rw [e] at hjl; simp at hjl), by omega, by omega⟩ ?_
      refine node_ldk ⟨[s], [], [], [], []⟩ (fun _ => .pointer (some (((a1.af.getD ⟨0, 0, none⟩).add (j * 1)).add 0))) [.int .i64 s] (by intros; kernel_rfl) (by intros; kernel_rfl) (fun ids w2 hp hf => (f_cells (Bx hf.x.1.1).1.2 hsj).2) (by kernel_rfl) oneNil ?_
      obtain ⟨p0, ep0⟩ : ∃ p0, p0 = (mlk D1.out s).getD pz := ⟨_, rfl⟩
      refine node_vlook (z := pz.val) (mt := 75) (kt := 3) (et := 31) ⟨[p0.v.k], [(mlk D1.out s).isSome], [], [p0.v.cs.length, p0.c1, p0.v.ns.length, p0.c2], [p0.a1, p0.a2]⟩ a1.bo (mmap Pv.val D1.out) s (fun w h => (Bx h.1.1).1.1.1.2) (by intros; kernel_rfl) (by intros; kernel_rfl) Try.underlying75 Try.underlying3 (fun w => by kernel_rfl) (fun ids => ?_) (by kernel_rfl) (by kernel_rfl) (by kernel_rfl) oneNil ?_
      · have : Value.tuple #[(vlk (mmap Pv.val D1.out) s).getD pz.val, .bool (vlk (mmap Pv.val D1.out) s).isSome] = .tuple #[p0.val, .bool (mlk D1.out s).isSome] := by
          rw [vlk_is, mlk_map, ep0]
          cases mlk D1.out s <;> rfl
        exact Eq.trans (b := Value.tuple #[p0.val, .bool (mlk D1.out s).isSome]) (by kernel_rfl) this.symm
      refine br_B ((mlk D1.out s).isSome) (by kernel_rfl) (fun hsome => ?_) (fun hsome => ?_)
      · obtain ⟨u, hu⟩ := Option.isSome_iff_exists.1 hsome
        have hp0 : p0 = u := by rw [ep0, hu]; rfl
        have hfit : VlFit p0.v := by rw [hp0]; exact (hok1.go _ (mlk_mem hu)).2
        refine node_vl (V := accV D1.r D1.n s) (v := p0.v) (fun ids => #[.pointer (some ⟨idAt ids 0, 0, none⟩), .int .i64 s]) (fun b1 d1 b2 d2 => ⟨[4, 0, 0, 0, D1.r, D1.n, s, 0, 0, p0.v.k, 0, 0, 0, 0, 0, 0, 0, 0, 0, 0, 0], [], [], [p0.v.cs.length, d1, p0.v.ns.length, d2, 0, 0, 0, 0], [b1, b2, none, none]⟩) (by intros; kernel_rfl) (fun ids w2 hp hf => ?_) (by intros; kernel_rfl) (by kernel_rfl) (by kernel_rfl) (by intros; kernel_rfl) (fun _ _ _ _ => oneNil) ?_
        · have hb := hf.blk 0 77 _ rfl
          have hm0 : idAt ids 0 ∈ ids := idAt_mem (ids := ids) (n := 0) (by rw [hf.len]; simp)
          have hb : Blk w2 (idAt ids 0) (prC D1 a1) 77 := hb
          have := acc_any s hb (Bx hf.x.1.1) hok1 (fun q => (hf.sep _ (.inl (.inl (by rw [eB]; exact .inr q)))).2 hm0) (fun k hk => (hf.sep k (.inl (.inl (by rw [eB]; exact .inr hk)))).1)
          rw [← ep0] at this; exact this
        intro b1 d1 b2 d2 hfr
        obtain ⟨p, ep⟩ : ∃ p : Pv, p = ⟨p0.v, b1, d1, b2, d2⟩ := ⟨_, rfl⟩
        have epx : vlX p0.v b1 b2 = p.hx := by rw [ep]; rfl
        rw [epx] at hfr ⊢
        have e1 : ((B.and (mall mp)).and (mrow ma mc D1.r D1.n mp)).and p.hx = (B.and (mall (mp ++ [(s, p)]))).and (mrow ma mc D1.r D1.n mp) := by rw [mall_snoc]; ac_rfl
        refine holds_eq e1 ?_
        refine node_pushs (e := 41) (sz := 25) rfl Try.underlying52 info_msg rfl (by decide) ma mp.length mc (mcells D1.r D1.n mp) (mgC D1.r D1.n (s, p)) 2 (by intros; kernel_rfl) (by intros; kernel_rfl) rfl (fun ids => by rw [ep]; kernel_rfl) rfl (mgC_one _ _ _) (fun k q1 q2 => ?_) (fun k q1 q2 => .inl (m5 k q1 q2).1) (by unfold maxLen; omega) (by omega) (by intros; kernel_rfl) (by kernel_rfl) (by kernel_rfl) (by intros; kernel_rfl) ?_
        · rw [mall_snoc]
          rintro (z | (z | z))
          · exact (m5 k q1 q2).2 (.inl z)
          · exact (m5 k q1 q2).2 (.inr z)
          · exact (hfr k z).2 (.inr ⟨q1, q2⟩)
        intro ma' mc' hc' hr' hor'
        have hrow : HX.rw 25 41 ma' (mp.length + 1) mc' (mcells D1.r D1.n mp ++ mgC D1.r D1.n (s, p)) = mrow ma' mc' D1.r D1.n (mp ++ [(s, p)]) := by
          unfold mrow mcells; rw [List.length_append, List.flatMap_append]; simp
        rw [hrow]
        refine again_V ⟨[], [], [], [mp.length + 1, mc'], [ma']⟩ rfl (by intros; kernel_rfl) _ (fun w2 ids hf => ⟨hf.x, hf.sep⟩) ⟨ma', mc', mp ++ [(s, p)], by rw [List.length_append]; rfl, ?_, fun x hx => ?_, by rw [List.length_append]; exact Nat.succ_le_succ m3, fun k hk => ?_, fun k q1 q2 => ?_, rfl⟩
        · rw [hms, mlk_map, hu]
          show mmap Pv.v (mp ++ [(s, p)]) = msTo D1 j ++ [(s, u.v)]
          unfold mmap at m1 ⊢
          rw [List.map_append, m1, ep, hp0]; rfl
        · rcases List.mem_append.1 hx with hx | hx
          · exact m2 x hx
          · rw [List.mem_singleton.1 hx, ep]; exact hfit
        · rw [mall_snoc] at hk
          rcases hk with hk | hk
          · exact m4 k hk
          · exact ⟨(hfr k hk).1, fun z => (hfr k hk).2 (.inl (.inl z))⟩
        · refine ⟨?_, hr' k q2⟩
          rcases hor' with ⟨r1, r2⟩ | ⟨g, r1, r2, _⟩
          · exact (m5 k r1 (by rw [← r2]; exact q2)).1
          · rw [r1] at q2; cases q2; exact r2
      · have hnone : mlk D1.out s = none := by cases e : mlk D1.out s with | none => rfl | some x => rw [e] at hsome; cases hsome
        refine again_V ⟨[], [], [], [mp.length, mc], [ma]⟩ rfl (by intros; kernel_rfl) _ (fun w2 ids hf => ⟨hf.x, hf.sep⟩) ⟨ma, mc, mp, rfl, ?_, m2, Nat.le_succ_of_le m3, m4, m5, rfl⟩
        rw [hms, mlk_map, hnone, m1]; exact (List.append_nil _).symm
    · rintro vs hx' hcnt3 ⟨ma', mc', mp', rfl, hG⟩
      have hwj : IntKind.i64.wrap ((j : Int) + 1) = ((j + 1 : Nat) : Int) := by rw [wrap_i64 (by omega)]; omega
      exact again_V ⟨[IntKind.i64.wrap ((j : Int) + 1)], [], [], [mp'.length, mc'], [ma']⟩ rfl (by intros; kernel_rfl) hx' (fun w2 ids hf => ⟨hf.x, hf.sep⟩) ⟨D1.fresh.length - (j + 1), by omega, hs, j + 1, ma', mc', mp', rfl, by omega, by rw [hwj], hG⟩
  · have hjj : j = D1.fresh.length := by omega
    rw [hjj] at m1
    intro ids w2 hp hf
    have hb := hf.blk 0 77 _ rfl
    rw [idAt0 hp] at hb
    have hmem : nb ∈ ids := by obtain ⟨x, rfl⟩ := hp; simp
    have hX1 := Bx hf.x.1.1
    have hBF : ∀ k, (prX D1 a1).F k → B.F k := fun k hk => by rw [eB]; exact .inr hk
    have hF2 : ∀ k, (prX ({ D1 with fresh := [] } : Pr Pv) { a1 with af := none, cf := 0 }).F k → (prX D1 a1).F k := fun k hk => by
      rcases hk with ((((hk | hk) | hk) | hk) | hk) | hk
      · exact .inl (.inl (.inl (.inl (.inl hk))))
      · exact .inl (.inl (.inl (.inl (.inr hk))))
      · exact .inl (.inl (.inl (.inr hk)))
      · exact .inl (.inl (.inr hk))
      · exact (row0_F hk).elim
      · exact .inr hk
    refine ⟨mp, ma, mc, fun k => k = nb ∨ (prX ({ D1 with fresh := [] } : Pr Pv) { a1 with af := none, cf := 0 }).F k, m1, m2, rfl, ⟨_, ⟨{ D1 with fresh := [] }, { a1 with af := none, cf := 0 }, rfl, ⟨hok1.gm, hok1.gz, hok1.gb, hok1.go, hok1.gq, hok1.dj.set (i := 4) (a' := irow none 0 []) rfl fun k hk => (row0_F hk).elim⟩, fun q => (hf.sep nb (.inl (.inl (hBF nb (hF2 nb q))))).2 hmem, rfl⟩, ⟨hb, ⟨⟨hX1.1.1, HX.rw_nil _ _ _ _⟩, hX1.2⟩⟩, fun k hk => hk⟩, hf.x.1.2, hf.x.2, fun k hk => ?_, fun k hk => ⟨(m4 k hk).1, (hf.sep k (.inl (.inr hk))).1, fun z => ?_⟩, fun k hk => ⟨(m5 k hk.1 hk.2).1, (hf.sep k (.inr hk)).1, fun z => ?_, fun z => (m5 k hk.1 hk.2).2 (.inr z)⟩, hf.chg⟩
    · rcases hk with rfl | hk
      · exact ⟨.inl Fnb, hf.id_lt hmem⟩
      · exact ⟨(hown1 k (hF2 k hk)).symm, (hf.sep k (.inl (.inl (hBF k (hF2 k hk))))).1⟩
    · rcases z with rfl | z
      · exact (hf.sep k (.inl (.inr hk))).2 hmem
      · exact (m4 k hk).2 (hBF k (hF2 k z))
    · rcases z with rfl | z
      · exact (hf.sep k (.inr hk)).2 hmem
      · exact (m5 k hk.1 hk.2).2 (.inl (hBF k (hF2 k z)))
end
end Go.Proofs.Ytlgpjjgkdpmidaa
