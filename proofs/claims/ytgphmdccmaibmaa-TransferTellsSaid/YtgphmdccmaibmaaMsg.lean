/- Copies of messages. -/
import Derived.Test.YtgphmdccmaibmaaFetM
import Derived.Test.YtgphmdccmaibmaaTrG
namespace Go.Proofs.Ytgphmdccmaibmaa
open Go.ChangeShapes Go.WideShapes Go.ChangeAt Go.RowKit Go.Syn Go.Eng
set_option linter.unusedVariables false
set_option linter.unusedSimpArgs false
theorem info_cmd : (Try.prog.info? 37).map (fun i => (i.zero, i.size, i.bytes)) = some (some (.agg #[.int .i64 0, .int .i64 0, .int .i64 0, .int .i64 0, .int .i64 0, .int .i64 0, .int .i64 0, .int .i64 0]), 8, 64) := by kernel_rfl
theorem info_int1 : (Try.prog.info? 3).map (fun i => (i.zero, i.size, i.bytes)) = some (some (.int .i64 0), 1, 8) := by kernel_rfl
theorem info_vot : (Try.prog.info? 80).map (fun i => (i.zero, i.size, i.bytes)) = some (some (.agg #[.int .i64 0, .int .i64 0, .int .i64 0, .int .i64 0, .slice none 0 0, .slice none 0 0]), 6, 80) := by kernel_rfl
/-- Cells of a slice of n elements of sz cells. -/
structure SlOk (w : World) (a : Option Addr) (n sz bytes : Nat) (cs : List Value) : Prop where
  cells : Cells w a cs
  one : ∀ u ∈ cs, u.oneCell' = true
  len : cs.length = n * sz
  n63 : n ≤ maxLen
  byt : n * bytes ≤ 140737488355328
theorem SlOk.keep {w w' : World} {a : Option Addr} {n sz bytes : Nat} {cs : List Value} (h : SlOk w a n sz bytes cs) (hb : ∀ k, (HX.cl a cs).F k → w'.heap[k]? = w.heap[k]?) : SlOk w' a n sz bytes cs := ⟨(HX.cl a cs).loc w w' h.cells hb, h.one, h.len, h.n63, h.byt⟩
/-- What a value's copy is. -/
def CpR (w : World) (k : Int) (n1 : Nat) (cs1 : List Value) (n2 : Nat) (cs2 : List Value) (e : Ending) (w' : World) : Prop := ∃ a1 c1 a2 c2, e = .returned (.agg #[.int .i64 k, .slice a1 n1 c1, .slice a2 n2 c2]) ∧ Cells w' a1 cs1 ∧ Cells w' a2 cs2 ∧ (cs1 ≠ [] → w.heap.size ≤ blk a1) ∧ (cs2 ≠ [] → w.heap.size ≤ blk a2) ∧ Below w.heap.size w w'
theorem cpval_any (k : Int) (a1 : Option Addr) (n1 c1 : Nat) (cs1 : List Value) (a2 : Option Addr) (n2 c2 : Nat) (cs2 : List Value) (w : World) (H1 : SlOk w a1 n1 8 64 cs1) (H2 : SlOk w a2 n2 1 8 cs2) : Calls Try.prog 23 #[.agg #[.int .i64 k, .slice a1 n1 c1, .slice a2 n2 c2]] w (CpR w k n1 cs1 n2 cs2) := by
  refine calls_at (tab_ok _) Try.func23 rfl tCpVal (ρ := ⟨[k], [], [], [n1, c1, n2, c2], [a1, a2]⟩) (ids := []) (hx := (HX.cl a1 cs1).and (HX.cl a2 cs2)) rfl (Facts.initq rfl oneNil ⟨H1.cells, H2.cells⟩ (fun k hk => hk.elim (cl_sep H1.cells k) (cl_sep H2.cells k))) ?_
  refine node_appends (xs := []) rfl Try.underlying30 info_cmd rfl (by decide) none 0 0 (fun _ => a1) n1 c1 cs1 H1.len (fun ids w _ _ => HX.rw_nil _ _ _ w) (fun ids w2 hp hf => hf.x.1) H1.one (fun w h => ⟨h, fun _ q => q⟩) (fun k h => absurd rfl h) (fun k h => absurd rfl h) (fun k h => absurd rfl h) (by have := H1.n63; omega) (by have := H1.byt; omega) (by intros; kernel_rfl) (by intros; kernel_rfl) (by intros; kernel_rfl) (by intros; kernel_rfl) (by intros; kernel_rfl) (by intros; kernel_rfl) ?_
  intro b1 d1 _ hd1 hw1
  refine node_appends (xs := []) rfl Try.underlying23 info_int1 rfl (by decide) none 0 0 (fun _ => a2) n2 c2 cs2 H2.len (fun ids w _ _ => HX.rw_nil _ _ _ w) (fun ids w2 hp hf => hf.x.1.2) H2.one (fun w h => ⟨h, fun _ q => q⟩) (fun k h => absurd rfl h) (fun k h => absurd rfl h) (fun k h => absurd rfl h) (by have := H2.n63; omega) (by have := H2.byt; omega) (by intros; kernel_rfl) (by intros; kernel_rfl) (by intros; kernel_rfl) (by intros; kernel_rfl) (by intros; kernel_rfl) (by intros; kernel_rfl) ?_
  intro b2 d2 _ hd2 hw2 ids w2 hp hf
  have fresh : ∀ {b : Option Addr} {n d sz e : Nat} {cs : List Value}, (HX.rw sz e b n d ([] ++ cs)).X w2 → (∀ k, d ≠ 0 → abk b = some k → w.heap.size ≤ k) → cs ≠ [] → w.heap.size ≤ blk b := fun hx hk hne => by
    have hc : _ ≠ 0 := fun q => by
      rcases hx with ⟨_, _, h3⟩ | ⟨h3, _⟩
      · exact hne (by simpa using h3)
      · exact h3 q
    obtain ⟨g, _, rfl, _⟩ := rw_open hx hc
    exact hk g hc rfl
  refine ⟨b1, d1, b2, d2, ?_, by have := rw_cells hf.x.1.2; simpa using this, by have := rw_cells hf.x.2; simpa using this, fresh hf.x.1.2 (fun k h1 h2 => (hw1 k h1 h2).elim (fun q => absurd rfl q.1) (fun q => q.1)), fresh hf.x.2 (fun k h1 h2 => (hw2 k h1 h2).elim (fun q => absurd rfl q.1) (fun q => q.1)), hf.chg.below⟩
  show Ending.returned (.agg #[.int .i64 k, .slice b1 (0 + n1) d1, .slice b2 (0 + n2) d2]) = _
  rw [Nat.zero_add, Nat.zero_add]
/-- A vote, as it lies. -/
structure Vt where
  i0 : Int
  i1 : Int
  i2 : Int
  k : Int
  a1 : Option Addr
  n1 : Nat
  c1 : Nat
  cs1 : List Value
  a2 : Option Addr
  n2 : Nat
  c2 : Nat
  cs2 : List Value
def Vt.cells (v : Vt) : List Value := [.int .i64 v.i0, .int .i64 v.i1, .int .i64 v.i2, .int .i64 v.k, .slice v.a1 v.n1 v.c1, .slice v.a2 v.n2 v.c2]
def vcells (vs : List Vt) : List Value := vs.flatMap Vt.cells
structure VtOk (w : World) (v : Vt) : Prop where
  h1 : SlOk w v.a1 v.n1 8 64 v.cs1
  h2 : SlOk w v.a2 v.n2 1 8 v.cs2
structure VsOk (w : World) (a : Option Addr) (vs : List Vt) : Prop where
  cells : Cells w a (vcells vs)
  each : ∀ v ∈ vs, VtOk w v
  byt : vs.length * 80 ≤ 140737488355328
theorem vcells_len : ∀ (vs : List Vt), (vcells vs).length = vs.length * 6
  | [] => rfl
  | v :: r => by
    show (Vt.cells v ++ vcells r).length = _
    rw [List.length_append, vcells_len r, List.length_cons]
    show 6 + _ = _; omega
theorem vcells_get : ∀ {vs : List Vt} {i : Nat} {v : Vt}, vs[i]? = some v → ∀ j u, v.cells[j]? = some u → (vcells vs)[i * 6 + j]? = some u
  | q :: r, 0, p, h, j, u, hu => by
    simp only [List.getElem?_cons_zero, Option.some.injEq] at h
    subst h
    show (Vt.cells q ++ vcells r)[0 * 6 + j]? = _
    have hj : j < q.cells.length := by
      rcases Nat.lt_or_ge j q.cells.length with g | g
      · exact g
      · rw [List.getElem?_eq_none g] at hu; cases hu
    rw [List.getElem?_append_left (by omega), Nat.zero_mul, Nat.zero_add]; exact hu
  | q :: r, i + 1, p, h, j, u, hu => by
    simp only [List.getElem?_cons_succ] at h
    show (Vt.cells q ++ vcells r)[(i + 1) * 6 + j]? = _
    have hl : q.cells.length = 6 := rfl
    rw [List.getElem?_append_right (by rw [hl]; omega), hl, show (i + 1) * 6 + j - 6 = i * 6 + j by omega]
    exact vcells_get h j u hu
def VsI (w : World) (vs : List Vt) (vals : Vals) (hx : HX) : Prop := ∃ (k : Nat) (a : Option Addr) (cap : Nat) (xs : List Value), k ≤ vs.length ∧ (∀ j, cap ≠ 0 → abk a = some j → w.heap.size ≤ j) ∧ vals = ⟨[(k : Int)], [], [], [k, cap], [a]⟩ ∧ hx = HX.nil.and (HX.rw 6 80 a k cap xs)
theorem cpvs_any (a : Option Addr) (cap : Nat) (vs : List Vt) (w : World) (H : VsOk w a vs) : Calls Try.prog 24 #[.slice a vs.length cap] w (fun e w' => ∃ a' c', e = .returned (.slice a' vs.length c') ∧ Below w.heap.size w w') := by
  refine calls_at (tab_ok _) Try.func24 rfl tCpVs (ρ := ⟨[], [], [], [vs.length, cap], [a]⟩) (ids := []) (hx := HX.nil) rfl (Facts.initP rfl oneNil) ?_
  have hvl := H.byt
  refine loop_i (VsI w vs) (fun vals => vs.length - (vals.i.headD 0).toNat) (fun ids w2 hp hf => ⟨HX.nil.and (HX.rw 6 80 (some ⟨idAt ids 0, 0, none⟩) 0 0 []), ⟨⟨trivial, HX.rw_nil _ _ _ _⟩, fun b hb => hb.elim (fun h => h.elim) (fun h => absurd rfl h.1)⟩, 0, _, 0, [], Nat.zero_le _, fun j q => absurd rfl q, rfl, rfl⟩) ?_
  rintro vals hx' hcnt ⟨k, a1, cap1, xs, hk1, hnew, rfl, rfl⟩
  have hwk : IntKind.i64.wrap ((k : Int) + 1) = ((k + 1 : Nat) : Int) := by rw [wrap_i64 (by omega)]; omega
  by_cases hk : k < vs.length
  · refine br_t (show decide ((k : Int) < (vs.length : Int)) = true by simpa using hk) ?_
    obtain ⟨v, hv⟩ : ∃ v, vs[k]? = some v := ⟨_, List.getElem?_eq_getElem hk⟩
    have hvm := List.mem_of_getElem? hv
    have hc := cl_elt H.cells (i := k) (sz := 6) v.cells (fun j u hj => vcells_get hv j u hj) (by simp [Vt.cells])
    refine need_i ⟨hc.1, (show (0 : Int) ≤ k by omega), (show (k : Int) < vs.length by omega)⟩ ?_
    refine ⟨⟨[v.i0, v.i1, v.i2, v.k], [], [], [v.n1, v.c1, v.n2, v.c2], [v.a1, v.a2]⟩, fun ids => hc.2 _ (fun e => e), ⟨rfl, oneNil⟩, ?_⟩
    refine node_pures (fun vals => ∃ b1 d1 b2 d2, vals = ⟨[v.k], [], [], [v.n1, d1, v.n2, d2], [b1, b2]⟩) rfl rfl (fun vals ⟨b1, d1, b2, d2, e⟩ => by subst e; exact ⟨rfl, oneNil⟩) (fun ids w2 hp hf => ?_) ?_
    · have keep : ∀ {x : Option Addr} {cs : List Value}, Cells w x cs → ∀ j, (HX.cl x cs).F j → w2.heap[j]? = w.heap[j]? := fun h j hj => hf.chg.block j (cl_sep h j hj) (fun q => q)
      refine (cpval_any v.k v.a1 v.n1 v.c1 v.cs1 v.a2 v.n2 v.c2 v.cs2 w2 ((H.each v hvm).h1.keep (keep (H.each v hvm).h1.cells)) ((H.each v hvm).h2.keep (keep (H.each v hvm).h2.cells))).mono ?_
      rintro e w' ⟨b1, d1, b2, d2, rfl, _, _, _, _, hb⟩
      exact ⟨_, ⟨b1, d1, b2, d2, rfl⟩, rfl, hb⟩
    rintro vals ⟨b1, d1, b2, d2, rfl⟩
    refine node_pushs (sz := 6) (vs := [.int .i64 v.i0, .int .i64 v.i1, .int .i64 v.i2, .int .i64 v.k, .slice b1 v.n1 d1, .slice b2 v.n2 d2]) rfl Try.underlying33 info_vot rfl (by decide) a1 k cap1 xs 2 (by intros; kernel_rfl) (by intros; kernel_rfl) rfl (by intros; kernel_rfl) rfl (by simp [Value.oneCell']) (fun j _ _ h => h) (fun j h1 h2 => .inl (hnew j h1 h2)) (by unfold maxLen; omega) (by omega) (by intros; kernel_rfl) (by intros; kernel_rfl) (by intros; kernel_rfl) (by intros; kernel_rfl) ?_
    intro a2 cap2 hc2 _ hfr ids w2 hp hf
    refine ⟨_, ⟨hf.x, hf.sep⟩, _, rfl, ⟨k + 1, a2, cap2, _, by omega, fun j h1 h2 => ?_, ?_, rfl⟩, ?_⟩
    · rcases hfr with ⟨q1, q2⟩ | ⟨g, q1, q2, _⟩
      · exact hnew j q1 (by rw [← q2]; exact h2)
      · rw [q1] at h2; cases h2; exact q2
    · show (⟨[IntKind.i64.wrap ((k : Int) + 1)], [], [], [k + 1, cap2], [a2]⟩ : Vals) = _
      rw [hwk]
    · show vs.length - (IntKind.i64.wrap ((k : Int) + 1)).toNat < vs.length - ((k : Int)).toNat
      rw [hwk]; omega
  · refine br_f (show decide ((k : Int) < (vs.length : Int)) = false by simpa using hk) ?_
    intro ids w2 hp hf
    refine ⟨a1, cap1, ?_, hf.chg.below⟩
    show Ending.returned (.slice a1 k cap1) = _
    rw [show k = vs.length by omega]
/-- A message's ints. -/
structure Mi where
  k : Int
  f1 : Int
  f2 : Int
  f3 : Int
  f4 : Int
  f5 : Int
  slot : Int
  low : Int
  f8 : Int
  f9 : Int
  f10 : Int
  f11 : Int
  f12 : Int
  f13 : Int
  f14 : Int
  f15 : Int
  f16 : Int
  f17 : Int
  f18 : Int
  f19 : Int
  f20 : Int
def Mi.is (m : Mi) : List Int := [m.k, m.f1, m.f2, m.f3, m.f4, m.f5, m.slot, m.low, m.f8, m.f9, m.f10, m.f11, m.f12, m.f13, m.f14, m.f15, m.f16, m.f17, m.f18, m.f19, m.f20]
def mgV (m : Mi) (q0 q1 q2 d : Value) : Array Value := #[.int .i64 m.k, .int .i64 m.f1, .int .i64 m.f2, .int .i64 m.f3, .int .i64 m.f4, .int .i64 m.f5, .int .i64 m.slot, .int .i64 m.low, .int .i64 m.f8, .int .i64 m.f9, q0, q1, q2, .int .i64 m.f10, .int .i64 m.f11, .int .i64 m.f12, .int .i64 m.f13, .int .i64 m.f14, .int .i64 m.f15, .int .i64 m.f16, .int .i64 m.f17, .int .i64 m.f18, .int .i64 m.f19, .int .i64 m.f20, d]
/-- A message, as it lies. -/
structure Mg where
  i : Mi
  a0 : Option Addr
  n0 : Nat
  c0 : Nat
  cs0 : List Value
  a1 : Option Addr
  n1 : Nat
  c1 : Nat
  cs1 : List Value
  av : Option Addr
  cv : Nat
  vs : List Vt
  ad : Option Addr
  cd : Nat
  bs : List Int
def Mg.v (m : Mg) : Array Value := mgV m.i (.slice m.a0 m.n0 m.c0) (.slice m.a1 m.n1 m.c1) (.slice m.av m.vs.length m.cv) (.slice m.ad m.bs.length m.cd)
structure MgOk (w : World) (m : Mg) : Prop where
  h0 : SlOk w m.a0 m.n0 8 64 m.cs0
  h1 : SlOk w m.a1 m.n1 1 8 m.cs1
  hv : VsOk w m.av m.vs
  hd : Cells w m.ad (bcells m.bs)
  dl : m.bs.length ≤ 140737488355328
/-- What a copy of a message is. -/
def CpM (w : World) (m : Mg) (e : Ending) (w' : World) : Prop := ∃ a0 c0 a1 c1 av cv ad cd, e = .returned (.agg (mgV m.i (.slice a0 m.n0 c0) (.slice a1 m.n1 c1) (.slice av m.vs.length cv) (.slice ad m.bs.length cd))) ∧ Cells w' ad (bcells m.bs) ∧ (m.bs ≠ [] → w.heap.size ≤ blk ad) ∧ m.bs.length ≤ cd ∧ Below w.heap.size w w'
theorem VsOk.keep {w w' : World} {a : Option Addr} {vs : List Vt} (h : VsOk w a vs) (hb : ∀ k, k < w.heap.size → w'.heap[k]? = w.heap[k]?) : VsOk w' a vs :=
  ⟨(HX.cl a (vcells vs)).loc w w' h.cells fun k hk => hb k (cl_sep h.cells k hk), fun v hv => ⟨(h.each v hv).h1.keep fun k hk => hb k (cl_sep (h.each v hv).h1.cells k hk), (h.each v hv).h2.keep fun k hk => hb k (cl_sep (h.each v hv).h2.cells k hk)⟩, h.byt⟩
theorem MgOk.keep {w w' : World} {m : Mg} (h : MgOk w m) (hb : ∀ k, k < w.heap.size → w'.heap[k]? = w.heap[k]?) : MgOk w' m :=
  ⟨h.h0.keep fun k hk => hb k (cl_sep h.h0.cells k hk), h.h1.keep fun k hk => hb k (cl_sep h.h1.cells k hk), h.hv.keep hb, (HX.cl m.ad (bcells m.bs)).loc w w' h.hd fun k hk => hb k (cl_sep h.hd k hk), h.dl⟩
set_option maxRecDepth 100000 in
theorem cpm_any (m : Mg) (w : World) (H : MgOk w m) : Calls Try.prog 15 #[.agg m.v] w (CpM w m) := by
  refine calls_at (tab_ok _) Try.func15 rfl tCpM (ρ := ⟨m.i.is, [], [], [m.n0, m.c0, m.n1, m.c1, m.vs.length, m.cv, m.bs.length, m.cd], [m.a0, m.a1, m.av, m.ad]⟩) (ids := []) (hx := HX.nil) rfl (Facts.initP rfl oneNil) ?_
  refine node_pures (fun vals => ∃ b1 d1 b2 d2, vals = ⟨[m.i.f9], [], [], [m.n0, d1, m.n1, d2], [b1, b2]⟩) rfl rfl (fun vals ⟨b1, d1, b2, d2, e⟩ => by subst e; exact ⟨rfl, oneNil⟩) (fun ids w2 hp hf => ?_) ?_
  · have H2 := H.keep (w' := w2) (fun k hk => hf.chg.block k hk (fun q => q))
    refine (cpval_any m.i.f9 m.a0 m.n0 m.c0 m.cs0 m.a1 m.n1 m.c1 m.cs1 w2 H2.h0 H2.h1).mono ?_
    rintro e w' ⟨b1, d1, b2, d2, rfl, _, _, _, _, hb⟩
    exact ⟨_, ⟨b1, d1, b2, d2, rfl⟩, rfl, hb⟩
  rintro vals ⟨b1, d1, b2, d2, rfl⟩
  refine node_pures (fun vals => ∃ b3 d3, vals = ⟨[], [], [], [m.vs.length, d3], [b3]⟩) rfl rfl (fun vals ⟨b3, d3, e⟩ => by subst e; exact ⟨rfl, oneNil⟩) (fun ids w2 hp hf => ?_) ?_
  · have H2 := H.keep (w' := w2) (fun k hk => hf.chg.block k hk (fun q => q))
    refine (cpvs_any m.av m.cv m.vs w2 H2.hv).mono ?_
    rintro e w' ⟨b3, d3, rfl, hb⟩
    exact ⟨_, ⟨b3, d3, rfl⟩, rfl, hb⟩
  rintro vals ⟨b3, d3, rfl⟩
  refine node_newd (V := id) (bs := m.bs) (fun a' c' => ⟨[], [], [], [m.bs.length, c'], [a']⟩) (fun ids w2 hp hf => ?_) (by intros; kernel_rfl) (by intros; kernel_rfl) (by intros; kernel_rfl) (by intros; kernel_rfl) (fun _ _ => oneNil) ?_
  · have H2 := H.keep (w' := w2) (fun k hk => hf.chg.block k hk (fun q => q))
    exact copyb_new m.ad m.cd m.bs w2 H2.hd H.dl
  intro b4 d4 hc4 hn4 ids w2 hp hf
  exact ⟨b1, d1, b2, d2, b3, d3, b4, d4, rfl, hf.x.2, fun hne => (hn4 hne).1, hc4, hf.chg.below⟩
end Go.Proofs.Ytgphmdccmaibmaa
