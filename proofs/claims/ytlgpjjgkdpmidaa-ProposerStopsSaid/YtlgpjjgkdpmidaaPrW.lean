/- ProposerWindow. -/
import Derived.Test.YtlgpjjgkdpmidaaPrP
namespace Go.Proofs.Ytlgpjjgkdpmidaa
open Go.ChangeShapes Go.WideShapes Go.ChangeAt Go.RowKit Go.Syn Go.Eng Go.MapKept
set_option linter.unusedVariables false
set_option linter.unusedSimpArgs false
set_option maxRecDepth 100000
theorem and_rot (a b c d : HX) : ((a.and b).and c).and d = ((a.and c).and d).and b := by rw [HX.and_right_comm a b c, HX.and_right_comm (a.and c) b d]
/-- A row of one's own, apart from the rest. -/
def OwnR (W : World) (rest : HX) (a : Option Addr) (cap : Nat) : Prop := ∀ k, cap ≠ 0 → abk a = some k → W.heap.size ≤ k ∧ ¬ rest.F k
/-! ### Values that are given -/
theorem qcs_len (p : Pv) : p.cells.length = 3 := rfl
theorem opn_pv {w : World} {d : Dat} (h : d.In Try.prog w 31) : ∃ p : Pv, d.cells = p.cells ∧ VlAt w p.v p.a1 p.a2 := by
  obtain ⟨v, a1, c1, a2, c2, e, H, _, _⟩ := opn_vl h
  exact ⟨⟨v, a1, c1, a2, c2⟩, e, H⟩
theorem opn_pvs {w : World} : ∀ (ds : List Dat), (∀ d ∈ ds, d.In Try.prog w 31) → ∃ xs : List Pv, xs.length = ds.length ∧ Dat.cellsAll ds = qcs xs ∧ ∀ p ∈ xs, VlAt w p.v p.a1 p.a2
  | [], _ => ⟨[], rfl, rfl, fun o h => by cases h⟩
  | d :: r, h => by
    obtain ⟨o, e, ho⟩ := opn_pv (h d (List.mem_cons_self))
    obtain ⟨os, e1, e2, hos⟩ := opn_pvs r fun x hx => h x (List.mem_cons_of_mem _ hx)
    refine ⟨o :: os, by simp [e1], ?_, fun x hx => ?_⟩
    · show d.cells ++ Dat.cellsAll r = o.cells ++ qcs os
      rw [e, e2]
    · rcases List.mem_cons.1 hx with rfl | hx
      · exact ho
      · exact hos x hx
def pvX (a : Option Addr) (xs : List Pv) : HX := HX.all (HX.cl a (qcs xs) :: xs.map Pv.hx)
section
variable {w w0 : World} {a : Option Addr} {xs : List Pv} {p : Pv}
theorem pv_X (h : Cells w a (qcs xs)) (hos : ∀ p ∈ xs, VlAt w p.v p.a1 p.a2) : (pvX a xs).X w := fun x hx => by
  rcases List.mem_cons.1 hx with rfl | hx
  · exact h
  · obtain ⟨o, ho, rfl⟩ := List.mem_map.1 hx
    exact (hos o ho).X
theorem pv_lt (h : (pvX a xs).X w) : ∀ k, (pvX a xs).F k → k < w.heap.size := fun k ⟨x, hx, hk⟩ => by
  rcases List.mem_cons.1 hx with rfl | hx2
  · exact cl_sep (h _ hx) k hk
  · obtain ⟨o, ho, rfl⟩ := List.mem_map.1 hx2
    exact vlX_sep (h _ hx) k hk
theorem pv_at (h : (pvX a xs).X w) (hos : ∀ p ∈ xs, VlAt w0 p.v p.a1 p.a2) (hp : p ∈ xs) : VlAt w p.v p.a1 p.a2 := (hos p hp).fit.at_ (h _ (List.mem_cons_of_mem _ (List.mem_map.2 ⟨p, hp, rfl⟩)))
theorem pv_F (hp : p ∈ xs) {k : Nat} (hk : (vlX p.v p.a1 p.a2).F k) : (pvX a xs).F k := ⟨_, List.mem_cons_of_mem _ (List.mem_map.2 ⟨p, hp, rfl⟩), hk⟩
theorem pv_elt (h : Cells w a (qcs xs)) {i : Nat} (hi : xs[i]? = some p) : a.isSome = true ∧ CellsAt w (.pointer (some (((a.getD ⟨0, 0, none⟩).add (i * 3)).add 0))) p.cells (fun _ => False) := by
  obtain ⟨h1, h2⟩ := flat_part qcs_len h hi (o := 0) p.cells (fun j u hj => by rw [Nat.zero_add]; exact hj) (by simp [Pv.cells])
  exact ⟨h1, h2 _ id⟩
end
/-- Values in a row of one's own. -/
def vaRow (a : Option Addr) (cap : Nat) (tk : List Pv) : HX := HX.rw 3 31 a tk.length cap (qcs tk)
theorem qcs_snoc (tk : List Pv) (p : Pv) : qcs tk ++ p.cells = qcs (tk ++ [p]) := by unfold qcs; rw [List.flatMap_append]; simp
/-! ### A leader alone -/
def lead1 (win : Int) : Pr Vl := ⟨1, max 1 (min win 16), 2, 7, 1, 1, 1, [1], [1], [], [], [], [], false⟩
theorem lead1_is (win : Int) : (((Pr.new 1 win [1]).begin 7 1 1).promised 1 []) = (lead1 win, true) := by kernel_rfl
/-- What a leader is that has asked for so many of what it took. -/
structure WnS (win : Int) (tk : List Vl) (asked : Nat) (P : Pr Vl) : Prop where
  ph : P.phase = 2
  r : P.r = 7
  n : P.n = 1
  wn : P.window = win
  nx : P.next = (asked : Int) + 1
  fr : P.fresh = []
  q : P.queue = tk.drop asked
  le : asked ≤ tk.length
  q32 : P.queue.length ≤ 32
  ou : P.out.length ≤ asked
section
variable {win : Int} {tk : List Vl} {asked : Nat} {P : Pr Vl}
theorem wn_new (win : Int) : WnS (max 1 (min win 16)) [] 0 (lead1 win) := ⟨rfl, rfl, rfl, rfl, rfl, rfl, rfl, Nat.le_refl _, Nat.zero_le _, Nat.le_refl _⟩
theorem wn_sub (h : WnS win tk asked P) (v : Vl) : ((P.submit v).2 = 0 ∧ WnS win (tk ++ [v]) asked (P.submit v).1) ∨ ((P.submit v).2 ≠ 0 ∧ WnS win tk asked (P.submit v).1) := by
  unfold Pr.submit
  by_cases h1 : valE v ≠ 0
  · rw [if_pos h1]; exact .inr ⟨h1, h⟩
  rw [if_neg h1, if_neg (by rw [h.ph]; decide)]
  by_cases h2 : 32 ≤ P.queue.length
  · rw [if_pos h2]; exact .inr ⟨(show (64 : Int) ≠ 0 by decide), h⟩
  rw [if_neg h2]
  by_cases h3 : P.stop = true
  · rw [if_pos h3]; exact .inr ⟨(show (64 : Int) ≠ 0 by decide), h⟩
  rw [if_neg h3]
  refine .inl ⟨rfl, h.ph, h.r, h.n, h.wn, h.nx, h.fr, ?_, ?_, ?_, h.ou⟩
  · show P.queue ++ [v] = _
    rw [h.q, List.drop_append, show asked - tk.length = 0 by have := h.le; omega]; rfl
  · rw [List.length_append]; have := h.le; omega
  · show (P.queue ++ [v]).length ≤ 32
    rw [List.length_append]; simp only [List.length_cons, List.length_nil]; omega
theorem wn_dec (h : WnS win tk asked P) (s : Int) : WnS win tk asked (P.decided s) := ⟨h.ph, h.r, h.n, h.wn, h.nx, h.fr, h.q, h.le, h.q32, Nat.le_trans (mdel_len _ _) h.ou⟩
theorem wn_go (h : WnS win tk asked P) (ex : Int) : ∃ j P', P.goes Vl.k ex = (P', numb ((asked : Int) + 1) ((tk.drop asked).take j)) ∧ asked + j ≤ tk.length ∧ WnS win tk (asked + j) P' ∧ ∀ i : Nat, i < j → (asked : Int) + 1 + i - win ≤ ex := by
  obtain ⟨j, P', e, s, hf⟩ := goes_spec Vl.k ex h.ph h.fr
  have hj := s.hj
  rw [h.q, List.length_drop] at hj
  have hle := h.le
  obtain ⟨a1, a2, a3, a4, a5, a6, a7, a8, a9⟩ := s.same
  refine ⟨j, P', by rw [e, h.nx, h.q], by omega, ⟨a3.trans h.ph, a4.trans h.r, a5.trans h.n, a2.trans h.wn, ?_, hf, ?_, by omega, ?_, ?_⟩, ?_⟩
  · have := s.nx
    rw [h.nx] at this
    have this : P'.next = _ := this
    omega
  · have := s.q
    rw [h.q, List.drop_drop] at this
    exact this
  · have this : P'.queue = _ := s.q
    rw [this, List.length_drop]
    have := h.q32; omega
  · have := s.len
    have this : P'.out.length ≤ _ := this
    have := h.ou; omega
  · intro i hi
    have := s.win i hi
    rw [h.nx, h.wn] at this
    exact this
theorem wn_at {j i : Nat} (hj : asked + j ≤ tk.length) (hi : i < j) : ∃ v, tk[asked + i]? = some v ∧ (numb ((asked : Int) + 1) ((tk.drop asked).take j))[i]? = some ((asked : Int) + 1 + i, v) := by
  refine ⟨_, List.getElem?_eq_getElem (by omega), ?_⟩
  rw [numb_get, List.getElem?_take, if_pos hi, List.getElem?_drop, List.getElem?_eq_getElem (by omega)]; rfl
theorem wn_len {j : Nat} (hj : asked + j ≤ tk.length) : (numb ((asked : Int) + 1) ((tk.drop asked).take j)).length = j := by
  rw [numb_len, List.length_take, List.length_drop]; omega
end
def tkv (tk : List Pv) : List Vl := tk.map Pv.v
theorem tkv_len (tk : List Pv) : (tkv tk).length = tk.length := List.length_map _
structure WnM (w : World) (base : HX) (nb : Nat) (a : Option Addr) (cap : Nat) (tk : List Pv) (F : Nat → Prop) : Prop where
  row : OwnR w base a cap
  sc : cap ≠ 0 → a.isSome = true
  sn : tk ≠ [] → cap ≠ 0
  own : OwnF w (fun _ => False) (base.and (vaRow a cap tk)) F
def WnI (w : World) (base : HX) (nb : Nat) (win : Int) (xs : List Pv) (vs : Vals) (hx : HX) (n : Nat) : Prop := ∃ (i asked : Nat) (done : Int) (tk : List Pv) (P : Pr Vl) (a : Option Addr) (cap : Nat) (F : Nat → Prop), n = 100 - i ∧ i ≤ 100 ∧ vs = ⟨[(asked : Int), done, (i : Int)], [], [], [tk.length, cap], [a]⟩ ∧ tk.length ≤ i ∧ (∀ p ∈ tk, p ∈ xs) ∧ 0 ≤ done ∧ done ≤ asked ∧ WnS win (tkv tk) asked P ∧ WnM w base nb a cap tk F ∧ hx = (base.and (vaRow a cap tk)).and (prP F nb P)
def WnJ (w : World) (base : HX) (nb : Nat) (win : Int) (xs : List Pv) (i asked : Nat) (vs : Vals) (hx : HX) : Prop := ∃ (tk : List Pv) (P : Pr Vl) (a : Option Addr) (cap : Nat) (F : Nat → Prop), vs = ⟨[], [], [], [tk.length, cap], [a]⟩ ∧ tk.length ≤ i + 1 ∧ (∀ p ∈ tk, p ∈ xs) ∧ WnS win (tkv tk) asked P ∧ WnM w base nb a cap tk F ∧ hx = (base.and (vaRow a cap tk)).and (prP F nb P)
def WnD (w : World) (base : HX) (nb : Nat) (win : Int) (asked : Nat) (tk : List Pv) (a : Option Addr) (cap : Nat) (vs : Vals) (hx : HX) : Prop := ∃ (done : Int) (P : Pr Vl) (F : Nat → Prop), vs = ⟨[done], [], [], [], []⟩ ∧ 0 ≤ done ∧ done ≤ asked ∧ WnS win (tkv tk) asked P ∧ WnM w base nb a cap tk F ∧ hx = (base.and (vaRow a cap tk)).and (prP F nb P)
set_option maxHeartbeats 4000000 in
theorem window_walk (win : Int) (av : Option Addr) (cv : Nat) (xs : List Pv) (ae : Option Addr) (ce : Nat) (es : List Int) (w : World) (hwin : I64 win) (Hv : Cells w av (qcs xs)) (hxs : ∀ p ∈ xs, VlAt w p.v p.a1 p.a2) (He : Ints w ae es) (se : es.length * 8 ≤ 140737488351232) (sv : xs.length ≤ 4611686018427387903) :
    Calls Try.prog 4 #[.int .i64 win, .slice av xs.length cv, .slice ae es.length ce] w (PureAt w (.bool true)) := by
  obtain ⟨B, eB⟩ : ∃ x, x = (pvX av xs).and (HX.ints ae es) := ⟨_, rfl⟩
  have BX : ∀ {w}, B.X w → (pvX av xs).X w ∧ Ints w ae es := fun h => by rw [eB] at h; exact h
  have BF : ∀ {k}, (pvX av xs).F k → B.F k := fun h => by rw [eB]; exact .inl h
  have HX0 : B.X w := by rw [eB]; exact ⟨pv_X Hv hxs, He⟩
  have Bs : ∀ k, B.F k → k < w.heap.size := fun k hk => by
    rw [eB] at hk
    rcases hk with hk | hk
    · exact pv_lt (pv_X Hv hxs) k hk
    · rw [hk.2]; exact (He.at_ (List.length_pos_iff.2 hk.1)).2.1
  refine calls_at (tab_ok _) Try.func4 rfl tPWindow (ρ := ⟨[win], [], [], [xs.length, cv, es.length, ce], [av, ae]⟩) (ids := []) (hx := B) rfl (Facts.initq rfl oneNil HX0 Bs) ?_
  refine node_P ⟨[], [true], [], [], []⟩ #[] (.bool true) (by intros; kernel_rfl) (by intros; kernel_rfl) (by kernel_rfl) (by kernel_rfl) (by kernel_rfl) oneNil (fun ids w2 hp hf => head_any w2) ?_
  refine br_F false (by kernel_rfl) rfl ?_
  refine node_pnew 1 win (fun ids => some ⟨idAt ids 0, 0, none⟩) 1 [1] (by intros; kernel_rfl) (fun ids w2 hp hf => ints_blk hf 0 _ _ [1] rfl (by kernel_rfl) (by decide) (by unfold I64; decide)) ⟨by kernel_rfl, by kernel_rfl⟩ (by intros; kernel_rfl) (by kernel_rfl) (by kernel_rfl) (by intros; kernel_rfl) ?_
  intro nb F0 hown0
  refine node_pcamp 7 1 1 ⟨[1, 0, 0, 0, 7, 1, 1, 0, 0, 0, 0, 0, 0, 0, 0, 0, 0, 0, 0, 0, 0, 0], [], [], [0, 0, 0, 0, 0, 0, 0, 0], [none, none, none, none]⟩ hown0 ⟨by decide, by decide⟩ (by kernel_rfl) rfl (by exact (show ¬ compareV 7 1 0 0 ≤ 0 by decide)) (by intros; kernel_rfl) (by intros; kernel_rfl) (by kernel_rfl) (by kernel_rfl) (by kernel_rfl) oneNil ?_
  intro F1 hown1
  refine node_PI ⟨[2, 0, 0, 0, 7, 1, 1, 0, 0, 0, 0, 0, 0, 0, 0, 0, 0, 0, 0, 0, 0], [], [], [0, 0, 0, 0, 0, 0, 0, 0], [none, none, none, none]⟩ (fun _ => #[.agg #[.int .i64 7, .int .i64 1], .int .i64 1, .int .i64 0, .slice none 0 0]) (proM 7 1 1 0 (.slice none 0 0)) (by intros; kernel_rfl) (by intros; kernel_rfl) (by kernel_rfl) (by kernel_rfl) (by kernel_rfl) oneNil (fun ids w2 hp hf => lpromise_any 7 1 1 0 none 0 0 w2) ?_
  refine node_pprom 1 0 [] (fun _ => none) 0 true hown1 (congrArg Prod.snd (lead1_is win)) (fun x hx => by cases hx) (by kernel_rfl) rfl (by kernel_rfl) (fun x hx => by cases hx) (by exact (show (0 : Int) < 1 by decide)) (by exact (show (1 : Int) ≤ 1 ∧ (1 : Int) ≤ 1099511627776 by decide)) (fun p hp => by cases hp) ⟨Nat.zero_le _, Nat.zero_le _, (show 1 ≤ 9 by decide)⟩ ⟨(fun x hx => by cases hx), by unfold I64; decide⟩ (Nat.zero_le _) (by intros; kernel_rfl) (fun ids w2 hp hf => ⟨⟨fun h => absurd h (by decide), fun x hx => by cases hx⟩, fun k hk => hk.elim (fun q => absurd rfl q.1) fun ⟨x, hx, _⟩ => by cases hx⟩) (by intros; kernel_rfl) (by kernel_rfl) (by kernel_rfl) (by kernel_rfl) ?_
  intro F2 hown2
  refine holds_eq (hx' := B.and (prP F2 nb (lead1 win))) (congrArg (fun z => B.and (prP F2 nb z)) (congrArg Prod.fst (lead1_is win))) ?_
  refine br_F false (by kernel_rfl) rfl ?_
  refine br_F false (by kernel_rfl) rfl ?_
  refine br_F false (by kernel_rfl) rfl ?_
  obtain ⟨wn, ewn⟩ : ∃ x, x = max 1 (min win 16) := ⟨_, rfl⟩
  have hw0 : 1 ≤ wn ∧ wn ≤ 16 := by omega
  refine ⟨WnI w B nb wn xs, fun ids w2 hp hf => ⟨(B.and (vaRow (some ⟨idAt ids 3, 0, none⟩) 0 [])).and (prP F2 nb (lead1 win)), 100, ⟨⟨⟨hf.x.1, HX.rw_nil _ _ _ _⟩, hf.x.2⟩, fun k hk => hk.elim (fun q => q.elim (fun q => hf.sep k (.inl q)) fun q => absurd rfl q.1) fun q => hf.sep k (.inr q)⟩, 0, 0, 0, [], lead1 win, some ⟨idAt ids 3, 0, none⟩, 0, F2, rfl, Nat.zero_le _, by kernel_rfl, Nat.le_refl _, (fun p hp => by cases hp), Int.le_refl _, Int.le_refl _, by rw [ewn]; exact wn_new win, ⟨fun k h => absurd rfl h, fun h => absurd rfl h, fun h => absurd rfl h, fun k hk => ⟨fun q => q.elim (hown2 k hk).1 fun q => absurd rfl q.1, (hown2 k hk).2⟩⟩, rfl⟩, ?_⟩
  rintro vs hx' n hcnt ⟨i, asked, done, tk, P, a, cap, F, rfl, hi, rfl, htl, htx, hd0, hd1, hS, hM, rfl⟩
  have hask : asked ≤ tk.length := by have := hS.le; rw [tkv_len] at this; exact this
  refine holds_env (ρ' := ⟨[win, 1, 0, 0, 0, 7, 1, 1, 0, 0, 0, 0, 0, 0, 0, 0, 0, 0, 0, 0, 0, 0, 0, 2, 0, 0, 0, 7, 1, 1, 0, 0, 0, 0, 0, 0, 0, 0, 0, 0, 0, 0, 0, 0, 0, (asked : Int), done, (i : Int)], [true, true], [.pointer (some ⟨nb, 0, none⟩)], [xs.length, cv, es.length, ce, 0, 0, 0, 0, 0, 0, 0, 0, 0, 0, 0, 0, 0, 0, 0, 0, tk.length, cap], [av, ae, none, none, none, none, none, none, none, none, a]⟩) rfl ?_
  refine br_D (p := (i : Int) < (xs.length : Int)) (by kernel_rfl) (fun hk => ?_) (fun hk => pure_out (fun _ => id) (by intros; kernel_rfl))
  refine br_D (p := (i : Int) < 100) (by kernel_rfl) (fun hk2 => ?_) (fun hk => pure_out (fun _ => id) (by intros; kernel_rfl))
  have hk : i < xs.length := by omega
  obtain ⟨p, hp0⟩ : ∃ b, xs[i]? = some b := ⟨_, List.getElem?_eq_getElem hk⟩
  have hpm := List.mem_of_getElem? hp0
  have hpat : ∀ {w}, B.X w → VlAt w p.v p.a1 p.a2 := fun h => pv_at (BX h).1 hxs hpm
  have hwi : IntKind.i64.wrap ((i : Int) + 1) = ((i + 1 : Nat) : Int) := by rw [wrap_i64 (by omega)]; omega
  refine ⟨WnJ w B nb wn xs i asked, ?_, ?_⟩
  · obtain ⟨s1, q1⟩ := pv_elt Hv hp0
    refine need_k (av.isSome = true ∧ 0 ≤ (i : Int) ∧ (i : Int) < (xs.length : Int)) (by kernel_rfl) ⟨s1, by omega, by omega⟩ ?_
    refine node_ld0 (k := ⟨48, 2, 1, 22, 11⟩) ⟨[p.v.k], [], [], [p.v.cs.length, p.c1, p.v.ns.length, p.c2], [p.a1, p.a2]⟩ (.pointer (some (((av.getD ⟨0, 0, none⟩).add (i * 3)).add 0))) p.cells (by intros; kernel_rfl) (by intros; kernel_rfl) q1 ⟨by kernel_rfl, (fun v hv => by have hv : v ∈ [Value.pointer (some ⟨nb, 0, none⟩)] := hv; simp only [List.mem_singleton] at hv; subst hv; rfl)⟩ (by kernel_rfl) oneNil ?_
    refine node_vl (V := id) (v := p.v) (fun _ => #[p.val]) (fun b1 d1 b2 d2 => ⟨[p.v.k], [], [], [p.v.cs.length, d1, p.v.ns.length, d2], [b1, b2]⟩) (by intros; kernel_rfl) (fun ids w2 hp hf => cpvl_any _ _ _ _ _ w2 (hpat hf.x.1.1)) (by intros; kernel_rfl) (by kernel_rfl) (by kernel_rfl) (by intros; kernel_rfl) (fun _ _ _ _ => oneNil) ?_
    intro b1 d1 b2 d2 hfr
    refine holds_eq (HX.and_right_comm _ _ _) ?_
    have hF' : OwnF w (fun _ => False) ((B.and (vaRow a cap tk)).and (vlX p.v b1 b2)) F := fun k hk => ⟨fun q => q.elim (hM.own k hk).1 fun q => (hfr k q).2 (.inr hk), (hM.own k hk).2⟩
    refine node_psub p.v (fun _ => b1) d1 (fun _ => b2) d2 hF' (P.submit p.v).2 rfl (by intros; kernel_rfl) (fun ids w2 hp hf => ⟨(hxs p hpm).fit.at_ hf.x.1.2, fun k hk => .inl (.inr hk)⟩) (by intros; kernel_rfl) (by kernel_rfl) (by kernel_rfl) (by kernel_rfl) ?_
    intro F3 hF3
    have hF5 : OwnF w (fun _ => False) (B.and (vaRow a cap tk)) F3 := fun k hk => ⟨fun q => (hF3 k hk).1 (.inl q), (hF3 k hk).2⟩
    rcases wn_sub hS p.v with ⟨e0, hS'⟩ | ⟨e0, hS'⟩
    · refine br_T (decide ((P.submit p.v).2 = 0)) (by kernel_rfl) (decide_eq_true e0) ?_
      refine need_k (av.isSome = true ∧ 0 ≤ (i : Int) ∧ (i : Int) < (xs.length : Int)) (by kernel_rfl) ⟨s1, by omega, by omega⟩ ?_
      refine node_ld0 (k := ⟨51, 2, 1, 30, 15⟩) ⟨[p.v.k], [], [], [p.v.cs.length, p.c1, p.v.ns.length, p.c2], [p.a1, p.a2]⟩ (.pointer (some (((av.getD ⟨0, 0, none⟩).add (i * 3)).add 0))) p.cells (by intros; kernel_rfl) (by intros; kernel_rfl) q1 ⟨by kernel_rfl, (fun v hv => by have hv : v ∈ [Value.pointer (some ⟨nb, 0, none⟩)] := hv; simp only [List.mem_singleton] at hv; subst hv; rfl)⟩ (by kernel_rfl) oneNil ?_
      refine holds_eq (and_rot _ _ _ _) ?_
      have hrest : ∀ q, cap ≠ 0 → abk a = some q → ¬ ((B.and (vlX p.v b1 b2)).and (prP F3 nb (P.submit p.v).1)).F q := fun q q1 q2 z => by
        rcases z with (z | z) | z
        · exact (hM.row q q1 q2).2 z
        · exact (hfr q z).2 (.inl (.inr ⟨q1, q2⟩))
        · exact (hF5 q z).1 (.inr ⟨q1, q2⟩)
      refine node_pushs (e := 31) (sz := 3) rfl Try.underlying57 info_val rfl (by decide) a tk.length cap (qcs tk) p.cells 4 (by intros; kernel_rfl) (by intros; kernel_rfl) rfl (by intros; kernel_rfl) rfl (pcell_one p) hrest (fun q q1 q2 => .inl (hM.row q q1 q2).1) (by unfold maxLen; omega) (by omega) (by intros; kernel_rfl) (by kernel_rfl) (by kernel_rfl) (by intros; kernel_rfl) ?_
      intro a' cap' hc' hr' hor'
      refine again_V ⟨[], [], [], [tk.length + 1, cap'], [a']⟩ rfl (by intros; kernel_rfl) ((B.and (vaRow a' cap' (tk ++ [p]))).and (prP F3 nb (P.submit p.v).1)) (fun w2 ids hf => ⟨⟨⟨hf.x.1.1.1, ?_⟩, hf.x.1.2⟩, fun q hq => hq.elim (fun z => z.elim (fun z => hf.sep q (.inl (.inl (.inl z)))) fun z => hf.sep q (.inr z)) fun z => hf.sep q (.inl (.inr z))⟩) ⟨tk ++ [p], _, a', cap', F3, by rw [List.length_append]; rfl, by rw [List.length_append]; simp only [List.length_cons, List.length_nil]; omega, fun x hx => (List.mem_append.1 hx).elim (htx x) fun e => by rw [List.mem_singleton.1 e]; exact hpm, by unfold tkv; rw [List.map_append]; exact hS', ⟨fun q q1 q2 => ⟨?_, fun z => hr' q q2 (.inl (.inl z))⟩, fun _ => ?_, fun _ => hc', fun q hq => ⟨fun z => z.elim (fun z => (hF5 q hq).1 (.inl z)) fun z => hr' q z.2 (.inr hq), (hF5 q hq).2⟩⟩, rfl⟩
      · have := hf.x.2
        rw [qcs_snoc] at this
        show (HX.rw 3 31 a' (tk ++ [p]).length cap' (qcs (tk ++ [p]))).X w2
        rw [List.length_append]; exact this
      · rcases hor' with ⟨r1, r2⟩ | ⟨g, r1, r2, _⟩
        · exact (hM.row q r1 (by rw [← r2]; exact q2)).1
        · rw [r1] at q2; cases q2; exact r2
      · rcases hor' with ⟨r1, r2⟩ | ⟨g, r1, r2, _⟩
        · have := hM.sc r1
          obtain ⟨y, hy⟩ := Option.isSome_iff_exists.1 this
          rw [hy] at r2
          cases a' with
          | none => cases r2
          | some y' => rfl
        · cases a' with
          | none => cases r1
          | some y' => rfl
    · refine br_F (decide ((P.submit p.v).2 = 0)) (by kernel_rfl) (decide_eq_false e0) ?_
      exact again_V ⟨[], [], [], [tk.length, cap], [a]⟩ rfl (by intros; kernel_rfl) ((B.and (vaRow a cap tk)).and (prP F3 nb (P.submit p.v).1)) (fun w2 ids hf => ⟨⟨hf.x.1.1, hf.x.2⟩, fun q hq => hq.elim (fun z => hf.sep q (.inl (.inl z))) fun z => hf.sep q (.inr z)⟩) ⟨tk, _, a, cap, F3, rfl, by omega, htx, hS', ⟨hM.row, hM.sc, hM.sn, hF5⟩, rfl⟩
  rintro vs hx' hcnt2 ⟨tk2, P2, a2, cap2, F4, rfl, htl2, htx2, hS2, hM2, rfl⟩
  have hask2 : asked ≤ tk2.length := by have := hS2.le; rw [tkv_len] at this; exact this
  clear hS hM htl htx hask
  refine ⟨WnD w B nb wn asked tk2 a2 cap2, ?_, ?_⟩
  · have hsame : ∀ {m : Mem} {ρ : Env} {S : Stack}, (∀ ids, Vec.den ρ ids ⟨[.var 46], [], [], [], []⟩ = ⟨[done], [], [], [], []⟩) → (Tree.again 21 ⟨[.var 46], [], [], [], []⟩ m).holds ⟨Try.prog, w, fun _ => False, PureAt w (.bool true)⟩ ρ [] ((B.and (vaRow a2 cap2 tk2)).and (prP F4 nb P2)) ((21, WnD w B nb wn asked tk2 a2 cap2) :: S) := fun {m ρ S} hv =>
      again_V ⟨[done], [], [], [], []⟩ rfl hv _ (fun w2 ids hf => ⟨hf.x, hf.sep⟩) ⟨done, P2, F4, rfl, hd0, hd1, hS2, hM2, rfl⟩
    refine br_D (p := (i : Int) < (es.length : Int)) (by kernel_rfl) (fun hke => ?_) (fun hke => hsame (by intros; kernel_rfl))
    have hke : i < es.length := by omega
    obtain ⟨e, he0⟩ : ∃ b, es[i]? = some b := ⟨_, List.getElem?_eq_getElem hke⟩
    have heI : I64 e := He.fits e (List.mem_of_getElem? he0)
    obtain ⟨s2, q2⟩ := ints_at He he0
    refine need_k (ae.isSome = true ∧ 0 ≤ (i : Int) ∧ (i : Int) < (es.length : Int)) (by kernel_rfl) ⟨s2, by omega, by omega⟩ ?_
    refine node_ld0 (k := ⟨48, 2, 1, 24, 12⟩) ⟨[e], [], [], [], []⟩ (.pointer (some (((ae.getD ⟨0, 0, none⟩).add (i * 1)).add 0))) [.int .i64 e] (by intros; kernel_rfl) (by intros; kernel_rfl) (q2 _ id) ⟨by kernel_rfl, (fun v hv => by have hv : v ∈ [Value.pointer (some ⟨nb, 0, none⟩)] := hv; simp only [List.mem_singleton] at hv; subst hv; rfl)⟩ (by kernel_rfl) oneNil ?_
    refine br_D (p := e > done) (by kernel_rfl) (fun h1 => ?_) (fun h1 => hsame (by intros; kernel_rfl))
    refine need_k (ae.isSome = true ∧ 0 ≤ (i : Int) ∧ (i : Int) < (es.length : Int)) (by kernel_rfl) ⟨s2, by omega, by omega⟩ ?_
    refine node_ld0 (k := ⟨49, 2, 1, 24, 12⟩) ⟨[e], [], [], [], []⟩ (.pointer (some (((ae.getD ⟨0, 0, none⟩).add (i * 1)).add 0))) [.int .i64 e] (by intros; kernel_rfl) (by intros; kernel_rfl) (q2 _ id) ⟨by kernel_rfl, (fun v hv => by have hv : v ∈ [Value.pointer (some ⟨nb, 0, none⟩)] := hv; simp only [List.mem_singleton] at hv; subst hv; rfl)⟩ (by kernel_rfl) oneNil ?_
    refine br_D (p := e ≤ (asked : Int)) (by kernel_rfl) (fun h2 => ?_) (fun h2 => hsame (by intros; kernel_rfl))
    refine need_k (ae.isSome = true ∧ 0 ≤ (i : Int) ∧ (i : Int) < (es.length : Int)) (by kernel_rfl) ⟨s2, by omega, by omega⟩ ?_
    refine node_ld0 (k := ⟨50, 2, 1, 24, 12⟩) ⟨[e], [], [], [], []⟩ (.pointer (some (((ae.getD ⟨0, 0, none⟩).add (i * 1)).add 0))) [.int .i64 e] (by intros; kernel_rfl) (by intros; kernel_rfl) (q2 _ id) ⟨by kernel_rfl, (fun v hv => by have hv : v ∈ [Value.pointer (some ⟨nb, 0, none⟩)] := hv; simp only [List.mem_singleton] at hv; subst hv; rfl)⟩ (by kernel_rfl) oneNil ?_
    refine node_pdec e hM2.own (by intros; kernel_rfl) (by intros; kernel_rfl) (by kernel_rfl) (by kernel_rfl) (by kernel_rfl) ?_
    intro F5 hF5
    exact again_V ⟨[e], [], [], [], []⟩ rfl (by intros; kernel_rfl) _ (fun w2 ids hf => ⟨hf.x, hf.sep⟩) ⟨e, _, F5, rfl, by omega, h2, wn_dec hS2 e, ⟨hM2.row, hM2.sc, hM2.sn, hF5⟩, rfl⟩
  rintro vs hx' hcnt3 ⟨dn, P3, F5, rfl, hdn0, hdn1, hS3, hM3, rfl⟩
  clear hS2 hM2 hd0 hd1
  obtain ⟨j, P4, hgo, hj, hS4, hwi2⟩ := wn_go hS3 dn
  rw [tkv_len] at hj
  have hml := wn_len (tk := tkv tk2) (asked := asked) (j := j) (by rw [tkv_len]; exact hj)
  refine node_pgo dn _ P4 hM3.own hgo (by unfold I64; omega) (by rw [hS3.wn]; exact hw0) (by rw [hS3.nx]; omega) (by rw [hS3.fr]; have := hS3.q32; simp only [List.length_nil]; omega) (by intros; kernel_rfl) (by intros; kernel_rfl) (by kernel_rfl) (by kernel_rfl) (by intros; kernel_rfl) ?_
  intro mp ma mc F6 hmp hlen hfit hown6 hms
  rw [hml] at hlen
  refine holds_env (ρ' := ⟨[win, 1, 0, 0, 0, 7, 1, 1, 0, 0, 0, 0, 0, 0, 0, 0, 0, 0, 0, 0, 0, 0, 0, 2, 0, 0, 0, 7, 1, 1, 0, 0, 0, 0, 0, 0, 0, 0, 0, 0, 0, 0, 0, 0, 0, (asked : Int), done, (i : Int), dn], [true, true], [.pointer (some ⟨nb, 0, none⟩)], [xs.length, cv, es.length, ce, 0, 0, 0, 0, 0, 0, 0, 0, 0, 0, 0, 0, 0, 0, 0, 0, tk.length, cap, tk2.length, cap2, j, mc], [av, ae, none, none, none, none, none, none, none, none, a, a2, ma]⟩) (by rw [hml]; rfl) ?_
  obtain ⟨hxm, ehxm⟩ : ∃ x, x = ((((B.and (vaRow a2 cap2 tk2)).and (mall mp)).and (mrow ma mc P4.r P4.n mp)).and (prP F6 nb P4)) := ⟨_, rfl⟩
  refine holds_eq ehxm.symm ?_
  have hX1 : ∀ {w}, hxm.X w → ((((B.and (vaRow a2 cap2 tk2)).and (mall mp)).and (mrow ma mc P4.r P4.n mp)).and (prP F6 nb P4)).X w := fun h => by rw [← ehxm]; exact h
  refine ⟨fun vs hx n => ∃ t : Nat, n = j - t ∧ t ≤ j ∧ vs = ⟨[((asked + t : Nat) : Int), (t : Int)], [], [], [], []⟩ ∧ hxm = hx, fun ids w2 hp hf => ⟨_, j, ⟨hf.x, hf.sep⟩, 0, rfl, Nat.zero_le _, by kernel_rfl, rfl⟩, ?_⟩
  rintro vs hx' n hcnt4 ⟨t, rfl, htj, rfl, rfl⟩
  refine holds_env (ρ' := ⟨[win, 1, 0, 0, 0, 7, 1, 1, 0, 0, 0, 0, 0, 0, 0, 0, 0, 0, 0, 0, 0, 0, 0, 2, 0, 0, 0, 7, 1, 1, 0, 0, 0, 0, 0, 0, 0, 0, 0, 0, 0, 0, 0, 0, 0, (asked : Int), done, (i : Int), dn, ((asked + t : Nat) : Int), (t : Int)], [true, true], [.pointer (some ⟨nb, 0, none⟩)], [xs.length, cv, es.length, ce, 0, 0, 0, 0, 0, 0, 0, 0, 0, 0, 0, 0, 0, 0, 0, 0, tk.length, cap, tk2.length, cap2, j, mc], [av, ae, none, none, none, none, none, none, none, none, a, a2, ma]⟩) rfl ?_
  refine br_D (p := (t : Int) < (j : Int)) (by kernel_rfl) (fun ht => ?_) (fun ht => ?_)
  · have ht : t < j := by omega
    obtain ⟨v, hv1, hv2⟩ := wn_at (tk := tkv tk2) (asked := asked) (j := j) (by rw [tkv_len]; exact hj) ht
    obtain ⟨q, g1, h1, h2⟩ := mp_get hmp hv2
    obtain ⟨p2, hp2, e2⟩ : ∃ p2, tk2[asked + t]? = some p2 ∧ p2.v = v := by
      unfold tkv at hv1
      rw [List.getElem?_map] at hv1
      cases hq : tk2[asked + t]? with
      | none => rw [hq] at hv1; cases hv1
      | some p2 =>
        rw [hq] at hv1
        exact ⟨p2, rfl, Option.some.inj hv1⟩
    have hp2m := List.mem_of_getElem? hp2
    have hne : mp ≠ [] := fun e => by rw [e] at g1; cases g1
    have hm := hms hne
    have w1 : IntKind.i64.wrap (((asked + t : Nat) : Int) + 1) = ((asked + t + 1 : Nat) : Int) := by rw [wrap_i64 (by omega)]; omega
    have w2 : IntKind.i64.wrap (dn + wn) = dn + wn := wrap_i64 (by omega)
    have w3 : IntKind.i64.wrap (((asked + t + 1 : Nat) : Int) - 1) = ((asked + t : Nat) : Int) := by rw [wrap_i64 (by omega)]; omega
    have w4 : IntKind.i64.wrap ((t : Int) + 1) = ((t + 1 : Nat) : Int) := by rw [wrap_i64 (by omega)]; omega
    refine need_k (ma.isSome = true ∧ 0 ≤ (t : Int) ∧ (t : Int) < (j : Int)) (by kernel_rfl) ⟨hm, by omega, by omega⟩ ?_
    refine node_ldk ⟨[4, 0, 0, 0, P4.r, P4.n, q.1, 0, 0, q.2.v.k, 0, 0, 0, 0, 0, 0, 0, 0, 0, 0, 0], [], [], [q.2.v.cs.length, q.2.c1, q.2.v.ns.length, q.2.c2, 0, 0, 0, 0], [q.2.a1, q.2.a2, none, none]⟩ (fun _ => .pointer (some (((ma.getD ⟨0, 0, none⟩).add (t * 25)).add 0))) (mgC P4.r P4.n q) (by intros; kernel_rfl) (by intros; kernel_rfl) (fun ids w hp hf => (mg_cells (hX1 hf.x).1.2 g1 0 _ (fun j u hj => by rw [Nat.zero_add]; exact hj) (by simp [mgC])).2) (by kernel_rfl) oneNil ?_
    refine br_F (q.1 != IntKind.i64.wrap (((asked + t : Nat) : Int) + 1)) (by kernel_rfl) (by rw [w1, h1]; simp; omega) ?_
    refine br_F (decide (IntKind.i64.wrap (((asked + t : Nat) : Int) + 1) > IntKind.i64.wrap (dn + max 1 (min win 16)))) (by kernel_rfl) (by rw [← ewn, w1, w2]; have := hwi2 t ht; exact decide_eq_false (by omega)) ?_
    refine br_F (decide (IntKind.i64.wrap (((asked + t : Nat) : Int) + 1) > (tk2.length : Int))) (by kernel_rfl) (by rw [w1]; exact decide_eq_false (by omega)) ?_
    have hne2 : tk2 ≠ [] := fun e => by rw [e] at hp2; cases hp2
    have s3 := hM3.sc (hM3.sn hne2)
    refine need_k (a2.isSome = true ∧ 0 ≤ IntKind.i64.wrap (IntKind.i64.wrap (((asked + t : Nat) : Int) + 1) - 1) ∧ IntKind.i64.wrap (IntKind.i64.wrap (((asked + t : Nat) : Int) + 1) - 1) < (tk2.length : Int)) (by kernel_rfl) (by rw [w1, w3]; exact ⟨s3, by omega, by omega⟩) ?_
    refine node_ldk ⟨[p2.v.k], [], [], [p2.v.cs.length, p2.c1, p2.v.ns.length, p2.c2], [p2.a1, p2.a2]⟩ (fun _ => .pointer (some (((a2.getD ⟨0, 0, none⟩).add ((IntKind.i64.wrap (IntKind.i64.wrap (((asked + t : Nat) : Int) + 1) - 1)).toNat * 3)).add 0))) p2.cells (by intros; kernel_rfl) (by intros; kernel_rfl) (fun ids w hp hf => by rw [w1, w3]; exact (pv_elt (rw_cells (hX1 hf.x).1.1.1.2) hp2).2) (by kernel_rfl) oneNil ?_
    refine node_PI ⟨[], [true], [], [], []⟩ (fun _ => #[q.2.val, p2.val]) (.bool true) (by intros; kernel_rfl) (by intros; kernel_rfl) (by kernel_rfl) (by kernel_rfl) (by kernel_rfl) oneNil (fun ids w hp hf => ?_) ?_
    · have := samev_any q.2.v q.2.a1 q.2.c1 q.2.a2 q.2.c2 p2.v p2.a1 p2.c1 p2.a2 p2.c2 w ((hfit q (List.mem_of_getElem? g1)).at_ ((hX1 hf.x).1.1.2 _ (List.mem_map.2 ⟨q, List.mem_of_getElem? g1, rfl⟩))) (pv_at (BX (hX1 hf.x).1.1.1.1).1 hxs (htx2 p2 hp2m))
      rw [vlSame_t (h2.trans e2.symm)] at this; exact this
    refine br_F false (by kernel_rfl) rfl ?_
    exact again_V ⟨[IntKind.i64.wrap (((asked + t : Nat) : Int) + 1), IntKind.i64.wrap ((t : Int) + 1)], [], [], [], []⟩ rfl (by intros; kernel_rfl) _ (fun w2 ids hf => ⟨hf.x, hf.sep⟩) ⟨j - (t + 1), by omega, t + 1, rfl, by omega, by rw [w1, w4]; rfl, rfl⟩
  · have hte : t = j := by omega
    subst hte
    have hq4 : P4.queue.length = tk2.length - (asked + t) := by rw [hS4.q, List.length_drop, tkv_len]
    have hqn := hS4.q32
    refine holds_eq ehxm ?_
    refine node_pwait P4.queue.length P4.out.length rfl rfl (by have := hS4.ou; omega) (by intros; kernel_rfl) (by intros; kernel_rfl) (by kernel_rfl) (by kernel_rfl) (by kernel_rfl) ?_
    have w5 : IntKind.i64.wrap ((tk2.length : Int) - ((asked + t : Nat) : Int)) = ((tk2.length - (asked + t) : Nat) : Int) := by rw [wrap_i64 (by omega)]; omega
    refine br_F (((P4.queue.length : Nat) : Int) != IntKind.i64.wrap ((tk2.length : Int) - ((asked + t : Nat) : Int))) (by kernel_rfl) (by rw [w5, hq4]; simp) ?_
    refine br_F (decide (((P4.queue.length : Nat) : Int) > 32)) (by kernel_rfl) (decide_eq_false (by omega)) ?_
    have htop : P4.top = ((asked + t : Nat) : Int) := by unfold Pr.top; rw [if_pos hS4.ph, hS4.nx]; omega
    refine node_ptop ((asked + t : Nat) : Int) htop (by rw [hS4.nx]; omega) (by intros; kernel_rfl) (by intros; kernel_rfl) (by kernel_rfl) (by kernel_rfl) (by kernel_rfl) ?_
    refine br_F (((asked + t : Nat) : Int) != ((asked + t : Nat) : Int)) (by kernel_rfl) (by simp) ?_
    refine again_V ⟨[((asked + t : Nat) : Int), dn, IntKind.i64.wrap ((i : Int) + 1)], [], [], [tk2.length, cap2], [a2]⟩ rfl (by intros; kernel_rfl) ((B.and (vaRow a2 cap2 tk2)).and (prP F6 nb P4)) (fun w2 ids hf => ⟨⟨hf.x.1.1.1, hf.x.2⟩, fun q hq => hq.elim (fun z => hf.sep q (.inl (.inl (.inl z)))) fun z => hf.sep q (.inr z)⟩) ⟨100 - (i + 1), by omega, i + 1, asked + t, dn, tk2, P4, a2, cap2, F6, rfl, by omega, by rw [hwi], htl2, htx2, hdn0, by omega, hS4, ⟨hM3.row, hM3.sc, hM3.sn, fun k hk => ⟨fun z => (hown6 k hk).1 (.inl (.inl z)), (hown6 k hk).2⟩⟩, rfl⟩
theorem window_args (win : Int) (a : Option Addr) (cap : Nat) (ds : List Dat) (ae : Option Addr) (ce : Nat) (es : List Int) (w : World) (hwin : I64 win) (h1 : Cells w a (Dat.cellsAll ds)) (h2 : ∀ d ∈ ds, d.In Try.prog w 31) (h3 : ds.length ≤ 9223372036854775807) (h4 : ds.length * Try.prog.bytesOf 31 ≤ reachBytes) (He : Ints w ae es) (se : es.length * 8 ≤ 140737488351232) : Calls Try.prog 4 #[.int .i64 win, .slice a ds.length cap, .slice ae es.length ce] w (PureAt w (.bool true)) := by
  obtain ⟨xs, e1, e2, hxs⟩ := opn_pvs ds h2
  rw [e2] at h1
  rw [← e1] at h3 h4 ⊢
  refine window_walk win a cap xs ae ce es w hwin h1 hxs He se ?_
  have : Try.prog.bytesOf 31 = 56 := by kernel_rfl
  rw [this] at h4
  have := reach_is
  omega
end Go.Proofs.Ytlgpjjgkdpmidaa
