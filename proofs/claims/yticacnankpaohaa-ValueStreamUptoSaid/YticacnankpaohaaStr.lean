/- ValueStream. -/
import Derived.Test.YticacnankpaohaaQv7
import Derived.Test.YticacnankpaohaaStT
namespace Go.Proofs.Yticacnankpaohaa
open Go.ChangeShapes Go.WideShapes Go.ChangeAt Go.RowKit Go.Syn Go.Eng
set_option linter.unusedVariables false
set_option linter.unusedSimpArgs false
set_option maxRecDepth 100000
/-- A value as it stands in a slice of values. -/
structure VE where
  v : Vl
  a1 : Option Addr
  c1 : Nat
  a2 : Option Addr
  c2 : Nat
def VE.cells (e : VE) : List Value := [.int .i64 e.v.k, .slice e.a1 e.v.cs.length e.c1, .slice e.a2 e.v.ns.length e.c2]
def vecells (es : List VE) : List Value := es.flatMap VE.cells
structure VE.Ok (w : World) (e : VE) : Prop where
  at_ : VlAt w e.v e.a1 e.a2
  wf : VlWf e.v
theorem vecells_get {es : List VE} : ∀ {i : Nat} {e : VE}, es[i]? = some e → ∀ j u, e.cells[j]? = some u → (vecells es)[i * 3 + j]? = some u := by
  induction es with
  | nil => intro i e h; simp at h
  | cons x r ih =>
    intro i e h j u hj
    cases i with
    | zero =>
      simp only [List.getElem?_cons_zero, Option.some.injEq] at h
      subst h
      have : j < x.cells.length := by
        rcases Nat.lt_or_ge j x.cells.length with q | q
        · exact q
        · rw [List.getElem?_eq_none q] at hj; cases hj
      show (x.cells ++ vecells r)[0 * 3 + j]? = _
      rw [Nat.zero_mul, Nat.zero_add, List.getElem?_append_left this]; exact hj
    | succ i =>
      rw [List.getElem?_cons_succ] at h
      show (x.cells ++ vecells r)[(i + 1) * 3 + j]? = _
      have hl : x.cells.length = 3 := rfl
      rw [List.getElem?_append_right (by omega), hl, show (i + 1) * 3 + j - 3 = i * 3 + j by omega]
      exact ih h j u hj
theorem ve_elt {w : World} {a : Option Addr} {es : List VE} (h : Cells w a (vecells es)) {i : Nat} {e : VE} (hi : es[i]? = some e) :
    a.isSome = true ∧ ∀ (N : Nat → Prop), ¬ N ((a.getD ⟨0, 0, none⟩).block) → CellsAt w (.pointer (some (((a.getD ⟨0, 0, none⟩).add (i * 3)).add 0))) e.cells N :=
  cl_elt h e.cells (fun j u hj => vecells_get hi j u hj) (by simp [VE.cells])
/-- What a value writes into the stream. -/
def stB (e : VE) : List Int := encB e.v
def D1 (es : List VE) (k : Nat) : List Int := (es.take k).flatMap stB
def D2 (es : List VE) (cs : List CmD) (k : Nat) : List Int := es.flatMap stB ++ (cs.take k).flatMap cmdB
theorem stB_len {es : List VE} (h : ∀ e ∈ es, VlWf e.v) : (es.flatMap stB).length ≤ 1000 * es.length := by
  induction es with
  | nil => simp
  | cons e r ih =>
    have h1 := encB_len (h e (by simp))
    have h2 := ih (fun x hx => h x (by simp [hx]))
    rw [List.flatMap_cons, List.length_append, List.length_cons]
    have : (stB e).length ≤ 1000 := h1
    omega
theorem VlAt.keep {w w' : World} {v : Vl} {a1 a2 : Option Addr} (h : VlAt w v a1 a2) (hb : ∀ k, k < w.heap.size → w'.heap[k]? = w.heap[k]?) : VlAt w' v a1 a2 := h.fit.at_ ((vlX v a1 a2).loc w w' h.X fun k hk => hb k (vlX_sep h.X k hk))
def Wfr (W : World) (ar : Option Addr) (cr : Nat) (aw : Option Addr) (cw : Nat) : Prop := (∀ k, cr ≠ 0 → abk ar = some k → W.heap.size ≤ k) ∧ (∀ k, cw ≠ 0 → abk aw = some k → W.heap.size ≤ k ∧ ¬ (cr ≠ 0 ∧ abk ar = some k))
def StI (W : World) (D : Nat → List Int) (n : Nat) (vs : Vals) (hx : HX) : Prop := ∃ (k : Nat) (ar : Option Addr) (cr : Nat) (aw : Option Addr) (cw : Nat), k ≤ n ∧ Wfr W ar cr aw cw ∧
  vs = ⟨[(k : Int)], [], [], [(D k).length, cw, (D k).length, cr], [aw, ar]⟩ ∧ hx = (HX.nil.and (frow ar cr (D k))).and (frow aw cw (D k))
def RdI (bs : List Int) (a : Option Addr) (c : Nat) (rest : Nat → List Int) (n : Nat) (vs : Vals) (hx : HX) : Prop := ∃ (k : Nat) (p : Nat × Int), k ≤ n ∧ Here bs p (rest k) ∧
  vs = ⟨[(k : Int), (p.1 : Int), p.2], [], [], [bs.length, c], [a]⟩ ∧ hx = HX.nil.and (frow a c bs)
theorem drop_step {α : Type} {l : List α} {k : Nat} {x : α} (h : l[k]? = some x) : l.drop k = x :: l.drop (k + 1) := by
  obtain ⟨hk, e⟩ := List.getElem?_eq_some_iff.1 h
  rw [List.drop_eq_getElem_cons hk, e]
set_option maxHeartbeats 4000000 in
theorem stream_walk (a : Option Addr) (cap : Nat) (es : List VE) (b : Option Addr) (capb : Nat) (cs : List CmD) (w : World) (HE : Cells w a (vecells es)) (he : ∀ e ∈ es, e.Ok w) (HC : Cells w b (ccells cs)) (hc : ∀ c ∈ cs, CmFit c) (hn : es.length ≤ 1048576) (hm : cs.length ≤ 1048576) :
    Calls Try.prog 5 #[.slice a es.length cap, .slice b cs.length capb] w (PureAt w (.bool true)) := by
  refine calls_at (tab_ok _) Try.func5 rfl tLStream (ρ := ⟨[], [], [], [es.length, cap, cs.length, capb], [a, b]⟩) (ids := []) (hx := HX.nil) rfl (Facts.initP rfl oneNil) ?_
  have hD1 : ∀ k, (D1 es k).length ≤ 1000 * 1048576 := fun k => by
    have h1 := stB_len (es := es.take k) (fun e h => (he e (List.mem_of_mem_take h)).wf)
    have h2 : (es.take k).length ≤ es.length := by rw [List.length_take]; omega
    unfold D1; omega
  have hD2 : ∀ k, (D2 es cs k).length ≤ 1000 * 1048576 + 72 * 1048576 := fun k => by
    have h1 := stB_len (es := es) (fun e h => (he e h).wf)
    have h3 := csB_len (cs := cs.take k) (fun c q => hc c (List.mem_of_mem_take q))
    have h2 : (cs.take k).length ≤ cs.length := by rw [List.length_take]; omega
    unfold D2; rw [List.length_append]; omega
  refine node_pure ⟨[], [true], [], [], []⟩ rfl rfl rfl oneNil (fun ids w2 hp hf => head_any w2) ?_
  refine br_f rfl ?_
  refine node_newB 77 ⟨[], [], [], [], []⟩ (fun w => wnew_any w) (fun _ => rfl) rfl (fun _ => rfl) rfl rfl rfl oneNil ?_
  refine loop_i (StI w (D1 es) es.length) (fun vs => es.length - (vs.i.headD 0).toNat) (fun ids w2 hp hf => ?_) ?_
  · refine ⟨(HX.nil.and (frow none 0 [])).and (frow (some ⟨idAt ids 1, 0, none⟩) 0 []), ⟨⟨⟨trivial, HX.rw_nil _ _ _ _⟩, HX.rw_nil _ _ _ _⟩, fun j hj => hj.elim (fun q => q.elim (fun q => q.elim) (fun q => absurd rfl q.1)) (fun q => absurd rfl q.1)⟩, 0, none, 0, some ⟨idAt ids 1, 0, none⟩, 0, Nat.zero_le _, ⟨fun k h => absurd rfl h, fun k h => absurd rfl h⟩, ?_, rfl⟩
    rfl
  rintro vs hx' hcnt ⟨k, ar, cr, aw, cw, hk, ⟨hfr, hfw⟩, rfl, rfl⟩
  obtain ⟨d, ed⟩ : ∃ x, x = D1 es k := ⟨_, rfl⟩
  have hdl : d.length ≤ 1000 * 1048576 := by rw [ed]; exact hD1 k
  rw [← ed]
  by_cases hlt : k < es.length
  · refine br_T (decide ((k : Int) < (es.length : Int))) (by kernel_rfl) (decide_eq_true (by omega)) ?_
    have hwk : IntKind.i64.wrap ((k : Int) + 1) = ((k + 1 : Nat) : Int) := by rw [wrap_i64 (by omega)]; omega
    obtain ⟨e, hy⟩ : ∃ e, es[k]? = some e := ⟨_, List.getElem?_eq_getElem hlt⟩
    have hok := he e (List.mem_of_getElem? hy)
    obtain ⟨s1, q1⟩ := ve_elt HE hy
    have hst : D1 es (k + 1) = d ++ stB e := by rw [ed]; exact flat_step stB hy
    have hsl : (stB e).length ≤ 1000 := encB_len hok.wf
    obtain ⟨ve, eve⟩ : ∃ x, x = valE e.v := ⟨_, rfl⟩
    have at_ : ∀ {m : Mem} {ρ : Env} {ids : List Nat} {hx : HX} {R : Ending → World → Prop} {w2 : World}, Facts ⟨Try.prog, w, fun _ => False, R⟩ m ρ ids hx w2 → VlAt w2 e.v e.a1 e.a2 := fun hf => hok.at_.keep (facts_old (fun _ q => q) hf)
    refine need_i ⟨s1, (show (0 : Int) ≤ k by omega), (show (k : Int) < es.length by omega)⟩ ?_
    refine ⟨⟨[e.v.k], [], [], [e.v.cs.length, e.c1, e.v.ns.length, e.c2], [e.a1, e.a2]⟩, fun ids => q1 _ (fun q => q), ⟨rfl, oneNil⟩, ?_⟩
    refine node_P ⟨[ve], [], [], [], []⟩ #[vlV e.v e.a1 e.c1 e.a2 e.c2] (.int .i64 ve) (by intros; kernel_rfl) (by intros; kernel_rfl) (by intros; kernel_rfl) (by intros; kernel_rfl) (by intros; kernel_rfl) oneNil (fun ids w2 hp hf => by rw [eve]; exact rchk_any _ _ _ _ _ w2 (at_ hf)) ?_
    by_cases h0 : ve = 0
    · have hsv : stB e = vlB e.v := if_pos (eve ▸ h0)
      obtain ⟨xb, exb⟩ : ∃ x, x = vlB e.v := ⟨_, rfl⟩
      rw [hsv, ← exb] at hst hsl
      refine br_T (ve == 0) (by kernel_rfl) (by simpa using h0) ?_
      refine node_vl (V := id) (v := e.v) (fun _ => #[vlV e.v e.a1 e.c1 e.a2 e.c2]) (fun a1 c1 a2 c2 => ⟨[e.v.k], [], [], [e.v.cs.length, c1, e.v.ns.length, c2], [a1, a2]⟩) (by intros; kernel_rfl) (fun ids w2 hp hf => cpvl_any _ _ _ _ _ w2 (at_ hf)) (by intros; kernel_rfl) (by intros; kernel_rfl) (by intros; kernel_rfl) (by intros; kernel_rfl) (fun _ _ _ _ => oneNil) ?_
      intro x1 y1 x2 y2 hcf
      rw [HX.and_right_comm HX.nil (frow ar cr d) (frow aw cw d), HX.and_right_comm (HX.nil.and (frow aw cw d)) (frow ar cr d) (vlX e.v x1 x2)]
      have hrl := right_len (v := e.v) (eve ▸ h0)
      refine node_wr (bs := d) (bs' := d ++ xb) 0 (fun a' c' => ⟨[], [], [], [(d ++ xb).length, c'], [a']⟩) (fun ids => .tuple #[]) (fun ids => #[.pointer (some ⟨idAt ids 0, 0, none⟩), vlV e.v x1 y1 x2 y2]) rfl rfl (by intros; kernel_rfl) (fun k h1 h2 => .inl (hfr k h1 h2)) (fun k h1 h2 q => ?_) (by intros; kernel_rfl) (fun ids w2 hp hf HW => ?_) [.sl 8 (.var 16) (.var 17)] rfl (by intros; kernel_rfl) (by intros; kernel_rfl) (by kernel_rfl) (by intros; kernel_rfl) (fun _ _ => oneNil) ?_
      · rcases q with (q | q) | q
        · exact q
        · exact (hfw k q.1 q.2).2 ⟨h1, h2⟩
        · exact (hcf k q).2 (.inl (.inr ⟨h1, h2⟩))
      · rw [exb]
        refine write_any (idAt ids 0) ar cr d e.v x1 y1 x2 y2 hok.wf.k hok.wf.c w2 HW (hok.wf.f.at_ hf.x.1.2) (by omega) (fun k hk => ?_)
        have hno : ¬ (vlX e.v x1 x2).F k := fun q => by
          rcases hk with rfl | ⟨h1, h2⟩
          · exact (hf.sep _ (.inl (.inr q))).2 (idAt_mem (by rw [hf.len]; exact Nat.zero_lt_succ _))
          · exact (hcf k q).2 (.inl (.inr ⟨h1, h2⟩))
        exact ⟨fun hne q => hno (.inl ⟨ccells_ne hne, q⟩), fun hne q => hno (.inr ⟨fun z => hne (List.map_eq_nil_iff.1 z), q⟩)⟩
      intro ar' cr' hfr' hor'
      refine node_newi (V := id) (bs := xb) (fun ids => #[vlV e.v e.a1 e.c1 e.a2 e.c2]) (fun a' c' => ⟨[], [], [], [xb.length, c'], [a']⟩) (by intros; kernel_rfl) (fun ids w2 hp hf => by rw [exb]; exact rbytes_any _ _ _ _ _ hok.wf (eve ▸ h0) w2 (at_ hf)) (by intros; kernel_rfl) (by intros; kernel_rfl) (by intros; kernel_rfl) (by intros; kernel_rfl) (fun _ _ => oneNil) ?_
      intro g1 h1 _ hg
      refine node_appends (sz := 1) (bytes := 1) (e := 5) (z := .int .u8 0) (rest := HX.nil.and (frow ar' cr' (d ++ xb))) (xs := bcells d) rfl Try.underlying38 info_byte rfl (by decide) aw d.length cw (fun _ => g1) xb.length h1 (bcells xb) (by rw [bcells_len, Nat.mul_one]) (fun ids w hp hf => hf.x.1.1.1.2) (fun ids w hp hf => frow_cells hf.x.2) (bcells_one xb) (fun w h => ⟨⟨trivial, h.1.2⟩, fun _ q => .inl (.inr (q.elim (fun q => q.elim) id))⟩) (fun k h1 h2 => .inl (.inl (.inl (.inr ⟨h1, h2⟩)))) (fun k h1 h2 q => ?_) (fun k h1 h2 => .inl (hfw k h1 h2).1) (by unfold maxLen; omega) (by omega) (by intros; kernel_rfl) (fun ids _ => by kernel_rfl) (by intros; kernel_rfl) (by intros; kernel_rfl) (by kernel_rfl) (by intros; kernel_rfl) ?_
      · exact (hfr' k (q.elim (fun q => q.elim) id).1 (q.elim (fun q => q.elim) id).2).2 (.inl (.inr ⟨h1, h2⟩))
      intro aw' cw' _ hd' hw'
      rw [frow_app, ← hst]
      have hvs : (⟨[IntKind.i64.wrap ((k : Int) + 1)], [], [], [d.length + xb.length, cw', (D1 es (k + 1)).length, cr'], [aw', ar']⟩ : Vals) = ⟨[((k + 1 : Nat) : Int)], [], [], [(D1 es (k + 1)).length, cw', (D1 es (k + 1)).length, cr'], [aw', ar']⟩ := by rw [hwk, hst, List.length_append]
      refine again_V ⟨[((k + 1 : Nat) : Int)], [], [], [(D1 es (k + 1)).length, cw', (D1 es (k + 1)).length, cr'], [aw', ar']⟩ rfl (fun ids => Eq.trans (b := (⟨[IntKind.i64.wrap ((k : Int) + 1)], [], [], [d.length + xb.length, cw', (D1 es (k + 1)).length, cr'], [aw', ar']⟩ : Vals)) (by kernel_rfl) hvs) _ (fun w2 ids hf => ⟨hf.x, hf.sep⟩) ⟨⟨k + 1, ar', cr', aw', cw', by omega, ⟨fun k h1 h2 => (hor' k h1 h2).elim (fun q => hfr k q.1 q.2) id, fun k h1 h2 => ⟨(hw' k h1 h2).elim (fun q => (hfw k q.1 q.2).1) (fun q => q.1), fun q => hd' k h1 h2 (.inr q)⟩⟩, rfl, rfl⟩, ?_⟩
      show es.length - (((k + 1 : Nat) : Int)).toNat < es.length - ((k : Int)).toNat
      omega
    · have hsv : stB e = [] := if_neg (fun q => h0 (eve.trans q))
      rw [hsv, List.append_nil] at hst
      refine br_F (ve == 0) (by kernel_rfl) (by simpa using h0) ?_
      rw [← hst]
      refine again_V ⟨[((k + 1 : Nat) : Int)], [], [], [(D1 es (k + 1)).length, cw, (D1 es (k + 1)).length, cr], [aw, ar]⟩ rfl (fun ids => Eq.trans (b := ⟨[IntKind.i64.wrap ((k : Int) + 1)], [], [], [(D1 es (k + 1)).length, cw, (D1 es (k + 1)).length, cr], [aw, ar]⟩) (by kernel_rfl) (by rw [hwk])) _ (fun w2 ids hf => ⟨hf.x, hf.sep⟩) ⟨⟨k + 1, ar, cr, aw, cw, by omega, ⟨hfr, hfw⟩, rfl, rfl⟩, ?_⟩
      show es.length - (((k + 1 : Nat) : Int)).toNat < es.length - ((k : Int)).toNat
      omega
  refine br_F (decide ((k : Int) < (es.length : Int))) (by kernel_rfl) (decide_eq_false (by omega)) ?_
  obtain rfl : k = es.length := by omega
  have hd20 : d = D2 es cs 0 := by rw [ed]; unfold D1 D2; rw [List.take_length, List.take_zero, List.flatMap_nil, List.append_nil]
  refine loop_i (StI w (D2 es cs) cs.length) (fun vs => cs.length - (vs.i.headD 0).toNat) (fun ids w2 hp hf => ⟨_, ⟨hf.x, hf.sep⟩, 0, ar, cr, aw, cw, Nat.zero_le _, ⟨hfr, hfw⟩, by rw [← hd20]; rfl, by rw [← hd20]⟩) ?_
  rintro vs hx' hcnt2 ⟨k2, ar2, cr2, aw2, cw2, hk2, ⟨hfr2, hfw2⟩, rfl, rfl⟩
  obtain ⟨d2, ed2⟩ : ∃ x, x = D2 es cs k2 := ⟨_, rfl⟩
  have hdl2 : d2.length ≤ 1000 * 1048576 + 72 * 1048576 := by rw [ed2]; exact hD2 k2
  rw [← ed2]
  by_cases hlt2 : k2 < cs.length
  · refine br_T (decide ((k2 : Int) < (cs.length : Int))) (by kernel_rfl) (decide_eq_true (by omega)) ?_
    have hwk : IntKind.i64.wrap ((k2 : Int) + 1) = ((k2 + 1 : Nat) : Int) := by rw [wrap_i64 (by omega)]; omega
    obtain ⟨c, hy⟩ : ∃ e, cs[k2]? = some e := ⟨_, List.getElem?_eq_getElem hlt2⟩
    have hcf := hc c (List.mem_of_getElem? hy)
    obtain ⟨s1, q1⟩ := c_elt HC hy
    have hcl := cmdB_len hcf
    have hst : D2 es cs (k2 + 1) = d2 ++ cmdB c := by rw [ed2]; unfold D2; rw [flat_step cmdB hy, List.append_assoc]
    obtain ⟨xb, exb⟩ : ∃ x, x = cmdB c := ⟨_, rfl⟩
    rw [← exb] at hst hcl
    refine need_i ⟨s1, (show (0 : Int) ≤ k2 by omega), (show (k2 : Int) < cs.length by omega)⟩ ?_
    refine ⟨⟨c.is, [], [], [], []⟩, fun ids => q1 _ (fun q => q), ⟨rfl, oneNil⟩, ?_⟩
    rw [HX.and_right_comm HX.nil (frow ar2 cr2 d2) (frow aw2 cw2 d2)]
    refine node_wr (bs := d2) (bs' := d2 ++ xb) 0 (fun a' c' => ⟨[], [], [], [(d2 ++ xb).length, c'], [a']⟩) (fun ids => .tuple #[]) (fun ids => #[.pointer (some ⟨idAt ids 0, 0, none⟩), .agg c.cells.toArray]) rfl rfl (by intros; kernel_rfl) (fun k h1 h2 => .inl (hfr2 k h1 h2)) (fun k h1 h2 q => ?_) (by intros; kernel_rfl) (fun ids w2 hp hf HW => ?_) [.sl 6 (.var 12) (.var 13)] rfl (by intros; kernel_rfl) (by intros; kernel_rfl) (by kernel_rfl) (by intros; kernel_rfl) (fun _ _ => oneNil) ?_
    · rcases q with q | q
      · exact q
      · exact (hfw2 k q.1 q.2).2 ⟨h1, h2⟩
    · rw [exb]
      exact putcmd_any (idAt ids 0) ar2 cr2 d2 c hcf w2 HW (by omega)
    intro ar' cr' hfr' hor'
    refine node_newi (V := id) (bs := xb) (fun ids => #[.agg c.cells.toArray]) (fun a' c' => ⟨[], [], [], [xb.length, c'], [a']⟩) (by intros; kernel_rfl) (fun ids w2 hp hf => by rw [exb]; exact qcmd_any c hcf w2) (by intros; kernel_rfl) (by intros; kernel_rfl) (by intros; kernel_rfl) (by intros; kernel_rfl) (fun _ _ => oneNil) ?_
    intro g1 h1 _ hg
    refine node_appends (sz := 1) (bytes := 1) (e := 5) (z := .int .u8 0) (rest := HX.nil.and (frow ar' cr' (d2 ++ xb))) (xs := bcells d2) rfl Try.underlying38 info_byte rfl (by decide) aw2 d2.length cw2 (fun _ => g1) xb.length h1 (bcells xb) (by rw [bcells_len, Nat.mul_one]) (fun ids w hp hf => hf.x.1.1.2) (fun ids w hp hf => frow_cells hf.x.2) (bcells_one xb) (fun w h => ⟨⟨trivial, h.1.2⟩, fun _ q => .inl (.inr (q.elim (fun q => q.elim) id))⟩) (fun k h1 h2 => .inl (.inl (.inr ⟨h1, h2⟩))) (fun k h1 h2 q => ?_) (fun k h1 h2 => .inl (hfw2 k h1 h2).1) (by unfold maxLen; omega) (by omega) (by intros; kernel_rfl) (fun ids _ => by kernel_rfl) (by intros; kernel_rfl) (by intros; kernel_rfl) (by kernel_rfl) (by intros; kernel_rfl) ?_
    · exact (hfr' k (q.elim (fun q => q.elim) id).1 (q.elim (fun q => q.elim) id).2).2 (.inr ⟨h1, h2⟩)
    intro aw' cw' _ hd' hw'
    rw [frow_app, ← hst]
    refine again_V ⟨[((k2 + 1 : Nat) : Int)], [], [], [(D2 es cs (k2 + 1)).length, cw', (D2 es cs (k2 + 1)).length, cr'], [aw', ar']⟩ rfl (fun ids => Eq.trans (b := ⟨[IntKind.i64.wrap ((k2 : Int) + 1)], [], [], [d2.length + xb.length, cw', (D2 es cs (k2 + 1)).length, cr'], [aw', ar']⟩) (by kernel_rfl) (by rw [hwk, hst, List.length_append])) _ (fun w2 ids hf => ⟨hf.x, hf.sep⟩) ⟨⟨k2 + 1, ar', cr', aw', cw', by omega, ⟨fun k h1 h2 => (hor' k h1 h2).elim (fun q => hfr2 k q.1 q.2) id, fun k h1 h2 => ⟨(hw' k h1 h2).elim (fun q => (hfw2 k q.1 q.2).1) (fun q => q.1), fun q => hd' k h1 h2 (.inr q)⟩⟩, rfl, rfl⟩, ?_⟩
    show cs.length - (((k2 + 1 : Nat) : Int)).toNat < cs.length - ((k2 : Int)).toNat
    omega
  refine br_F (decide ((k2 : Int) < (cs.length : Int))) (by kernel_rfl) (decide_eq_false (by omega)) ?_
  obtain rfl : k2 = cs.length := by omega
  have hwhole : d2 = es.flatMap stB ++ cs.flatMap cmdB := by rw [ed2]; unfold D2; rw [List.take_length]
  have hby : Byt d2 := by
    rw [hwhole]
    refine byt_app (byt_flat fun e q => ?_) (byt_flat fun c q => byt_flat fun i hi => numB_byt (foldN_lt (hc c q i hi)))
    unfold stB encB
    split
    · exact vlB_byt (he e q).wf
    · exact fun b hb => by cases hb
  rw [HX.and_right_comm HX.nil (frow ar2 cr2 d2) (frow aw2 cw2 d2)]
  refine node_newi (V := id) (bs := d2) (fun ids => #[.pointer (some ⟨idAt ids 0, 0, none⟩)]) (fun a' c' => ⟨[], [], [], [d2.length, c'], [a']⟩) (by intros; kernel_rfl) (fun ids w2 hp hf => wbytes_any (idAt ids 0) ar2 cr2 d2 w2 (w_at 0 hf rfl (by intros; kernel_rfl)) (by omega)) (by intros; kernel_rfl) (by intros; kernel_rfl) (by intros; kernel_rfl) (by intros; kernel_rfl) (fun _ _ => oneNil) ?_
  intro g1 h1 _ _
  refine node_P ⟨[], [true], [], [], []⟩ #[.slice g1 d2.length h1, .slice aw2 d2.length cw2] (.bool true) (by intros; kernel_rfl) (by intros; kernel_rfl) (by intros; kernel_rfl) (by intros; kernel_rfl) (by intros; kernel_rfl) oneNil (fun ids w2 hp hf => ?_) ?_
  · have := sameb_any g1 h1 d2 aw2 cw2 d2 w2 (frow_cells hf.x.2) (frow_cells hf.x.1.1.2) (by omega)
    rw [decide_eq_true rfl] at this
    exact this
  refine br_f (by kernel_rfl) ?_
  refine node_rnew (a := aw2) (cap := cw2) (bs := d2) [.sl 7 (.var 14) (.var 15), .int .i64 (.var 2), .int .i64 (.var 3)] (fun a' c' => ⟨[0, 0], [], [], [d2.length, c'], [a']⟩) rfl (by intros; kernel_rfl) (fun ids w hf => frow_cells hf.x.1.1.2) (by omega) (by intros; kernel_rfl) (by kernel_rfl) (by kernel_rfl) (by kernel_rfl) (by intros; kernel_rfl) (fun _ _ => oneNil) ?_
  intro a' c' hbc hsm hnf
  have hok : ∀ {hx : HX}, RdOk (hx.and (frow a' c' d2)) a' c' d2 := fun {hx} => ⟨fun w h => frow_cells h.2, fun k h => ?_, hby, by omega, hbc⟩
  refine loop_i (RdI d2 a' c' (fun k => (es.drop k).flatMap stB ++ cs.flatMap cmdB) es.length) (fun vs => es.length - (vs.i.headD 0).toNat) (fun ids w2 hp hf => ⟨HX.nil.and (frow a' c' d2), ⟨⟨trivial, hf.x.2⟩, fun j hj => hf.sep j (.inr (hj.elim (fun q => q.elim) id))⟩, 0, (0, 0), Nat.zero_le _, ⟨rfl, Nat.zero_le _, by rw [List.drop_zero]; exact hwhole⟩, rfl, rfl⟩) ?_
  · rintro vs hx' hcnt3 ⟨k3, p, hk3, hp3, rfl, rfl⟩
    by_cases hlt3 : k3 < es.length
    · refine br_T (decide ((k3 : Int) < (es.length : Int))) (by kernel_rfl) (decide_eq_true (by omega)) ?_
      have hwk : IntKind.i64.wrap ((k3 : Int) + 1) = ((k3 + 1 : Nat) : Int) := by rw [wrap_i64 (by omega)]; omega
      obtain ⟨e, hy⟩ : ∃ e, es[k3]? = some e := ⟨_, List.getElem?_eq_getElem hlt3⟩
      have hek := he e (List.mem_of_getElem? hy)
      obtain ⟨s1, q1⟩ := ve_elt HE hy
      have hdr := drop_step hy
      dsimp only at hp3
      rw [hdr, List.flatMap_cons, List.append_assoc] at hp3
      obtain ⟨ve, eve⟩ : ∃ x, x = valE e.v := ⟨_, rfl⟩
      have at_ : ∀ {m : Mem} {ρ : Env} {ids : List Nat} {hx : HX} {R : Ending → World → Prop} {w2 : World}, Facts ⟨Try.prog, w, fun _ => False, R⟩ m ρ ids hx w2 → VlAt w2 e.v e.a1 e.a2 := fun hf => hek.at_.keep (facts_old (fun _ q => q) hf)
      refine need_i ⟨s1, (show (0 : Int) ≤ k3 by omega), (show (k3 : Int) < es.length by omega)⟩ ?_
      refine ⟨⟨[e.v.k], [], [], [e.v.cs.length, e.c1, e.v.ns.length, e.c2], [e.a1, e.a2]⟩, fun ids => q1 _ (fun q => q), ⟨rfl, oneNil⟩, ?_⟩
      refine node_P ⟨[ve], [], [], [], []⟩ #[vlV e.v e.a1 e.c1 e.a2 e.c2] (.int .i64 ve) (by intros; kernel_rfl) (by intros; kernel_rfl) (by intros; kernel_rfl) (by intros; kernel_rfl) (by intros; kernel_rfl) oneNil (fun ids w2 hp hf => by rw [eve]; exact rchk_any _ _ _ _ _ w2 (at_ hf)) ?_
      by_cases h0 : ve = 0
      · refine br_T (ve == 0) (by kernel_rfl) (by simpa using h0) ?_
        have hsv : stB e = vlB e.v := if_pos (eve ▸ h0)
        rw [hsv] at hp3
        obtain ⟨hq, hrv⟩ := read_vlB hek.wf (eve ▸ h0) hp3
        obtain ⟨p', ep'⟩ : ∃ x, x = rdS d2 p := ⟨_, rfl⟩
        rw [← ep'] at hq
        refine node_read (p := p) (bs := d2) (a := a') (cap := c') 2 (fun b1 e1 b2 e2 => ⟨[(p'.1 : Int), p'.2, e.v.k], [], [], [d2.length, c', e.v.cs.length, e1, e.v.ns.length, e2], [a', b1, b2]⟩) hok hp3.le rfl rfl (by intros; kernel_rfl) (by intros; kernel_rfl) [.sl 11 (.var 22) (.var 23), .int .i64 (.var 9), .int .i64 (.var 10)] (by kernel_rfl) (by rw [← ep']; intros; kernel_rfl) (by rw [hrv]; intros; kernel_rfl) (by kernel_rfl) (by intros; kernel_rfl) (fun _ _ _ _ => oneNil) ?_
        rw [hrv]
        intro b1 e1 b2 e2 _ _ _
        refine node_P ⟨[], [true], [], [], []⟩ #[vlV e.v b1 e1 b2 e2, vlV e.v e.a1 e.c1 e.a2 e.c2] (.bool true) (by intros; kernel_rfl) (by intros; kernel_rfl) (by intros; kernel_rfl) (by intros; kernel_rfl) (by intros; kernel_rfl) oneNil (fun ids w2 hp hf => ?_) ?_
        · have := samev_any e.v b1 e1 b2 e2 e.v e.a1 e.c1 e.a2 e.c2 w2 (hek.wf.f.at_ ⟨rw_cells hf.x.1.2, rw_cells hf.x.2⟩) (at_ hf)
          rw [vlSame_t rfl] at this
          exact this
        refine br_f (by kernel_rfl) ?_
        refine again_V ⟨[((k3 + 1 : Nat) : Int), (p'.1 : Int), p'.2], [], [], [d2.length, c'], [a']⟩ rfl (fun ids => Eq.trans (b := ⟨[IntKind.i64.wrap ((k3 : Int) + 1), (p'.1 : Int), p'.2], [], [], [d2.length, c'], [a']⟩) (by kernel_rfl) (by rw [hwk])) (HX.nil.and (frow a' c' d2)) (fun w2 ids hf => ⟨hf.x.1.1, fun j hj => hf.sep j (.inl (.inl hj))⟩) ⟨⟨k3 + 1, p', by omega, hq, rfl, rfl⟩, ?_⟩
        show es.length - (((k3 + 1 : Nat) : Int)).toNat < es.length - ((k3 : Int)).toNat
        omega
      · refine br_F (ve == 0) (by kernel_rfl) (by simpa using h0) ?_
        have hsv : stB e = [] := if_neg (fun q => h0 (eve.trans q))
        rw [hsv, List.nil_append] at hp3
        refine again_V ⟨[((k3 + 1 : Nat) : Int), (p.1 : Int), p.2], [], [], [d2.length, c'], [a']⟩ rfl (fun ids => Eq.trans (b := ⟨[IntKind.i64.wrap ((k3 : Int) + 1), (p.1 : Int), p.2], [], [], [d2.length, c'], [a']⟩) (by kernel_rfl) (by rw [hwk])) (HX.nil.and (frow a' c' d2)) (fun w2 ids hf => ⟨hf.x, hf.sep⟩) ⟨⟨k3 + 1, p, by omega, hp3, rfl, rfl⟩, ?_⟩
        show es.length - (((k3 + 1 : Nat) : Int)).toNat < es.length - ((k3 : Int)).toNat
        omega
    refine br_F (decide ((k3 : Int) < (es.length : Int))) (by kernel_rfl) (decide_eq_false (by omega)) ?_
    obtain rfl : k3 = es.length := by omega
    dsimp only at hp3
    rw [List.drop_length, List.flatMap_nil, List.nil_append] at hp3
    refine loop_i (RdI d2 a' c' (fun k => (cs.drop k).flatMap cmdB) cs.length) (fun vs => cs.length - (vs.i.headD 0).toNat) (fun ids w2 hp hf => ⟨_, ⟨hf.x, hf.sep⟩, 0, p, Nat.zero_le _, (show Here d2 p ((cs.drop 0).flatMap cmdB) by rw [List.drop_zero]; exact hp3), rfl, rfl⟩) ?_
    rintro vs hx' hcnt4 ⟨k4, p4, hk4, hp4, rfl, rfl⟩
    by_cases hlt4 : k4 < cs.length
    · refine br_T (decide ((k4 : Int) < (cs.length : Int))) (by kernel_rfl) (decide_eq_true (by omega)) ?_
      have hwk : IntKind.i64.wrap ((k4 : Int) + 1) = ((k4 + 1 : Nat) : Int) := by rw [wrap_i64 (by omega)]; omega
      obtain ⟨c, hy⟩ : ∃ e, cs[k4]? = some e := ⟨_, List.getElem?_eq_getElem hlt4⟩
      obtain ⟨s1, q1⟩ := c_elt HC hy
      have hdr := drop_step hy
      dsimp only at hp4
      rw [hdr, List.flatMap_cons] at hp4
      obtain ⟨hq, hrv⟩ := here_cmd (hc c (List.mem_of_getElem? hy)) hp4
      obtain ⟨p', ep'⟩ : ∃ x, x = tcS d2 p4 := ⟨_, rfl⟩
      rw [← ep'] at hq
      refine need_i ⟨s1, (show (0 : Int) ≤ k4 by omega), (show (k4 : Int) < cs.length by omega)⟩ ?_
      refine ⟨⟨c.is, [], [], [], []⟩, fun ids => q1 _ (fun q => q), ⟨rfl, oneNil⟩, ?_⟩
      refine node_rd (bs := d2) (a := a') (cap := c') (V := .agg c.cells.toArray) (ix := p4.1) (bad := p4.2) (ix' := p'.1) (bad' := p'.2) 2 ⟨(p'.1 : Int) :: p'.2 :: c.is, [], [], [d2.length, c'], [a']⟩ (fun b => #[.pointer (some ⟨b, 0, none⟩)]) hok hp4.le rfl rfl (by intros; kernel_rfl) (by intros; kernel_rfl) (fun w b h => ?_) [.sl 10 (.var 20) (.var 21), .int .i64 (.var 18), .int .i64 (.var 19)] (by kernel_rfl) (by intros; kernel_rfl) (by intros; kernel_rfl) (by kernel_rfl) (by kernel_rfl) oneNil ?_
      · have := takecmd_any b a' c' d2 p4 w h
        rw [hrv, ← ep'] at this
        exact this
      refine br_F (!(cmdEq c c)) (by kernel_rfl) (by rw [(cmdEq_iff c c).2 rfl]; rfl) ?_
      refine again_V ⟨[((k4 + 1 : Nat) : Int), (p'.1 : Int), p'.2], [], [], [d2.length, c'], [a']⟩ rfl (fun ids => Eq.trans (b := ⟨[IntKind.i64.wrap ((k4 : Int) + 1), (p'.1 : Int), p'.2], [], [], [d2.length, c'], [a']⟩) (by kernel_rfl) (by rw [hwk])) (HX.nil.and (frow a' c' d2)) (fun w2 ids hf => ⟨hf.x, hf.sep⟩) ⟨⟨k4 + 1, p', by omega, hq, rfl, rfl⟩, ?_⟩
      show cs.length - (((k4 + 1 : Nat) : Int)).toNat < cs.length - ((k4 : Int)).toNat
      omega
    refine br_F (decide ((k4 : Int) < (cs.length : Int))) (by kernel_rfl) (decide_eq_false (by omega)) ?_
    obtain rfl : k4 = cs.length := by omega
    dsimp only at hp4
    rw [List.drop_length, List.flatMap_nil] at hp4
    have hdn : doneB d2.length p4.1 p4.2 = 0 := by
      have := here_end hp4
      unfold doneB
      rw [if_neg (fun q => by omega), hp4.ok]
    refine node_rd (bs := d2) (a := a') (cap := c') (V := .int .i64 0) (ix := p4.1) (bad := p4.2) (ix' := p4.1) (bad' := 0) 2 ⟨[(p4.1 : Int), 0, 0], [], [], [d2.length, c'], [a']⟩ (fun b => #[.pointer (some ⟨b, 0, none⟩)]) hok hp4.le rfl rfl (by intros; kernel_rfl) (by intros; kernel_rfl) (fun w b h => ?_) [.sl 10 (.var 20) (.var 21), .int .i64 (.var 10), .int .i64 (.var 11)] (by kernel_rfl) (by intros; kernel_rfl) (by intros; kernel_rfl) (by kernel_rfl) (by kernel_rfl) oneNil (pure_done (by intros; kernel_rfl))
    have := rdone_any b a' c' d2 p4.1 p4.2 w h.blk
    rw [hdn] at this
    exact this
  · refine .inr ?_
    obtain ⟨hne, rfl⟩ := h
    have h0 : d2 ≠ [] := fun q => hne (by rw [q]; rfl)
    have hc0 : c' ≠ 0 := fun q => h0 (List.eq_nil_of_length_eq_zero (by omega))
    exact ⟨hc0, by obtain ⟨x, hx⟩ := Option.isSome_iff_exists.1 (hsm h0); rw [hx]; rfl⟩
theorem opn_ves {w : World} : ∀ (ds : List Dat), (∀ d ∈ ds, d.In Try.prog w 25) → ∃ es : List VE, es.length = ds.length ∧ Dat.cellsAll ds = vecells es ∧ ∀ e ∈ es, e.Ok w
  | [], _ => ⟨[], rfl, rfl, fun e h => by cases h⟩
  | d :: r, h => by
    obtain ⟨v, a1, c1, a2, c2, e, H, k1, q1⟩ := opn_vl (h d (by simp))
    obtain ⟨es, l, c, ok⟩ := opn_ves r (fun x hx => h x (by simp [hx]))
    refine ⟨⟨v, a1, c1, a2, c2⟩ :: es, by rw [List.length_cons, List.length_cons, l], ?_, fun x hx => ?_⟩
    · show d.cells ++ Dat.cellsAll r = _
      rw [e, c]; rfl
    · rcases List.mem_cons.1 hx with rfl | hx
      · exact ⟨H, ⟨k1, q1, H.fit⟩⟩
      · exact ok x hx
theorem stream_args (a : Option Addr) (cap : Nat) (ds : List Dat) (b : Option Addr) (capb : Nat) (es : List Dat) (w : World) (hC : Cells w a (Dat.cellsAll ds)) (hds : ∀ d ∈ ds, d.In Try.prog w 25) (_ : ds.length ≤ 9223372036854775807) (_ : ds.length * Try.prog.bytesOf 25 ≤ reachBytes) (hn : ds.length ≤ 1048576)
    (hC2 : Cells w b (Dat.cellsAll es)) (hes : ∀ d ∈ es, d.In Try.prog w 29) (_ : es.length ≤ 9223372036854775807) (_ : es.length * Try.prog.bytesOf 29 ≤ reachBytes) (hm : es.length ≤ 1048576) : Calls Try.prog 5 #[.slice a ds.length cap, .slice b es.length capb] w (PureAt w (.bool true)) := by
  obtain ⟨vs, l1, e1, ok⟩ := opn_ves ds hds
  obtain ⟨cs, rfl, hcs⟩ := list_map_of cmDat CmFit es (fun d hd => opn_cmd (hes d hd))
  rw [dat_cells] at hC2
  rw [List.length_map] at hm ⊢
  rw [← l1]
  exact stream_walk a cap vs b capb cs w (e1 ▸ hC) ok hC2 hcs (by omega) hm
end Go.Proofs.Yticacnankpaohaa
