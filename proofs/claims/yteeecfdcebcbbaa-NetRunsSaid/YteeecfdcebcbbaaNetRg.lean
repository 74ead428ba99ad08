/- The reference's net: Put, Without, Lose. -/
import Derived.Test.YteeecfdcebcbbaaNetRf
namespace Go.Proofs.Yteeecfdcebcbbaa
open Go.ChangeShapes Go.WideShapes Go.ChangeAt Go.RowKit Go.Syn Go.Eng
set_option linter.unusedVariables false
set_option linter.unusedSimpArgs false
/-- A list of packets that a reference's function hands back. -/
structure RefR (w : World) (ps ps' : List Pk) (a' : Option Addr) (c' : Nat) (w' : World) : Prop where
  le : ps'.length ≤ c'
  mem : (refHX a' ps').X w'
  sep : ∀ k, (refHX a' ps').F k → (HX.dats ps).F k ∨ w.heap.size ≤ k
  bel : Below w.heap.size w w'
theorem dats_below {w w' : World} {a : Option Addr} {ps : List Pk} (h : (refHX a ps).X w) (hb : Below w.heap.size w w') : (HX.dats ps).X w' :=
  (HX.dats ps).loc w w' h.1 fun k hk => hb.block k (ref_sep h k (.inl hk))
theorem refR_of {w w' : World} {a a' : Option Addr} {ps qs : List Pk} {c' : Nat} (h : (refHX a ps).X w) (hsub : ∀ q ∈ qs, q ∈ ps) (hrow : (HX.rw 3 30 a' qs.length c' (pcells qs)).X w') (hnew : ∀ k, c' ≠ 0 → abk a' = some k → w.heap.size ≤ k) (hb : Below w.heap.size w w') : RefR w ps qs a' c' w' := by
  obtain ⟨h1, h2⟩ := rw_cl hrow
  refine ⟨(rw_le hrow).1, ⟨fun q hq => dats_below h hb q (hsub q hq), h1⟩, fun k hk => ?_, hb⟩
  rcases hk with ⟨q, hq, h5, rfl⟩ | hk
  · exact .inl ⟨q, hsub q hq, h5, rfl⟩
  · obtain ⟨q1, q2⟩ := h2 k hk
    exact .inr (hnew k q1 q2)
def wo (l : List Pk) (i : Int) : List Pk := if 0 ≤ i ∧ i.toNat < l.length then l.eraseIdx i.toNat else l
theorem wo_skip {ps : List Pk} {k : Nat} {p : Pk} (h : ps[k]? = some p) : wo (ps.take (k + 1)) (k : Int) = wo (ps.take k) (k : Int) := by
  have hl : k < ps.length := by
    rcases Nat.lt_or_ge k ps.length with q | q
    · exact q
    · rw [List.getElem?_eq_none q] at h; cases h
  have l1 : (ps.take (k + 1)).length = k + 1 := by rw [List.length_take]; omega
  have l2 : (ps.take k).length = k := by rw [List.length_take]; omega
  unfold wo
  rw [l1, l2, if_pos ⟨by omega, by omega⟩, if_neg (by omega), Int.toNat_natCast, List.take_add_one, h]
  show (ps.take k ++ [p]).eraseIdx k = _
  rw [List.eraseIdx_append_of_length_le (by omega), l2, Nat.sub_self]; simp
theorem wo_step {ps : List Pk} {k : Nat} {p : Pk} {i : Int} (h : ps[k]? = some p) (hi : (k : Int) ≠ i) : wo (ps.take (k + 1)) i = wo (ps.take k) i ++ [p] := by
  have hl : k < ps.length := by
    rcases Nat.lt_or_ge k ps.length with q | q
    · exact q
    · rw [List.getElem?_eq_none q] at h; cases h
  have l1 : (ps.take (k + 1)).length = k + 1 := by rw [List.length_take]; omega
  have l2 : (ps.take k).length = k := by rw [List.length_take]; omega
  have e : ps.take (k + 1) = ps.take k ++ [p] := by rw [List.take_add_one, h]; rfl
  unfold wo
  rw [l1, l2]
  by_cases q : 0 ≤ i ∧ i.toNat < k
  · rw [if_pos q, if_pos ⟨q.1, by omega⟩, e, List.eraseIdx_append_of_lt_length (by omega)]
  · rw [if_neg q, if_neg (by omega), e]
theorem wo_mem {l : List Pk} {i : Int} {q : Pk} (h : q ∈ wo l i) : q ∈ l := by
  unfold wo at h
  split at h
  · exact List.mem_of_mem_eraseIdx h
  · exact h
/-- A loop that picks packets. -/
def PickI (W : World) (ps : List Pk) (f : Nat → List Pk) (vs : Vals) (hx : HX) : Prop :=
  ∃ (k : Nat) (a' : Option Addr) (c' : Nat), k ≤ ps.length ∧ (∀ j, c' ≠ 0 → abk a' = some j → W.heap.size ≤ j) ∧ vs = ⟨[(k : Int)], [], [], [(f k).length, c'], [a']⟩ ∧ hx = HX.nil.and (HX.rw 3 30 a' (f k).length c' (pcells (f k)))
theorem pcells_app (qs : List Pk) (p : Pk) : pcells (qs ++ [p]) = pcells qs ++ p.cells := by simp [pcells]
set_option maxRecDepth 100000 in
theorem rwithout_any (a : Option Addr) (cap : Nat) (ps : List Pk) (i : Int) (w : World) (H : (refHX a ps).X w) (hl : ps.length ≤ 1000000) :
    Calls Try.prog 16 #[.slice a ps.length cap, .int .i64 i] w fun e w' => ∃ a' c', e = .returned (.slice a' (wo ps i).length c') ∧ RefR w ps (wo ps i) a' c' w' := by
  refine calls_at (tab_ok _) Try.func16 rfl tRWithout (ρ := ⟨[i], [], [], [ps.length, cap], [a]⟩) (ids := []) rfl (Facts.initP rfl oneNil) ?_
  refine loop_i (PickI w ps (fun k => wo (ps.take k) i)) (fun vs => ps.length - (vs.i.headD 0).toNat) (fun ids w2 hp hf => ⟨HX.nil.and (HX.rw 3 30 (some ⟨idAt ids 0, 0, none⟩) 0 0 []), ⟨⟨trivial, HX.rw_nil _ _ _ _⟩, fun b hb => by rcases hb with hb | hb; cases hb; exact absurd rfl hb.1⟩, 0, some ⟨idAt ids 0, 0, none⟩, 0, by omega, fun j q => absurd rfl q, by simp [wo, Vec.den, IE.den, NE.den, AE.den], by simp [wo, pcells]⟩) ?_
  rintro vs hx' hcnt ⟨k, a', c', hk1, hnew, rfl, rfl⟩
  have hwk : IntKind.i64.wrap ((k : Int) + 1) = ((k + 1 : Nat) : Int) := by rw [wrap_i64 (by omega)]; omega
  have hfl : (wo (ps.take k) i).length ≤ k := by
    unfold wo; split
    · rw [List.length_eraseIdx]; split <;> simp [List.length_take] <;> omega
    · simp [List.length_take]; omega
  by_cases hk : k < ps.length
  · refine br_t (show decide ((k : Int) < (ps.length : Int)) = true by simpa using hk) ?_
    obtain ⟨p, hpk⟩ : ∃ p, ps[k]? = some p := ⟨_, List.getElem?_eq_getElem hk⟩
    by_cases he : (k : Int) = i
    · refine br_f (show ((k : Int) != i) = false by simp [he]) ?_
      intro ids w2 hp hf
      refine ⟨_, ⟨hf.x, hf.sep⟩, _, rfl, ⟨k + 1, a', c', by omega, hnew, ?_, ?_⟩, ?_⟩
      · show (⟨[IntKind.i64.wrap ((k : Int) + 1)], [], [], [(wo (ps.take k) i).length, c'], [a']⟩ : Vals) = _
        rw [hwk]; subst he; simp only [wo_skip hpk]
      · subst he; simp only [wo_skip hpk]
      · show ps.length - (IntKind.i64.wrap ((k : Int) + 1)).toNat < ps.length - ((k : Int)).toNat
        rw [hwk]; omega
    · refine br_t (show ((k : Int) != i) = true by simpa using he) ?_
      obtain ⟨s1, c1⟩ := ref_elt H hpk 0 p.cells (fun j u hj => by rw [Nat.zero_add]; exact hj) (by simp [Pk.cells])
      refine need_i ⟨s1, (show (0 : Int) ≤ k by omega), (show (k : Int) < ps.length by omega)⟩ ?_
      refine ⟨⟨[p.f, p.t], [], [], [p.bs.length, p.c], [p.a]⟩, fun ids => c1 _ (fun e => e), ⟨rfl, oneNil⟩, ?_⟩
      refine node_pushs (sz := 3) (vs := p.cells) rfl Try.underlying38 info_pk rfl (by decide) a' (wo (ps.take k) i).length c' (pcells (wo (ps.take k) i)) 1 (fun _ => rfl) (fun _ => rfl) rfl (fun _ => rfl) rfl (by simp [Pk.cells, Value.oneCell']) (fun j _ _ h => h) (fun j h5 h6 => .inl (hnew j h5 h6)) (by unfold maxLen; omega) (by omega) (fun _ _ _ => rfl) rfl rfl (fun _ _ => rfl) ?_
      intro a4 c4 hc4 hd4 hfr ids w2 hp hf
      refine ⟨_, ⟨hf.x, hf.sep⟩, _, rfl, ⟨k + 1, a4, c4, by omega, fun j _ hj => ?_, ?_, ?_⟩, ?_⟩
      · rcases hfr with ⟨q1, q2⟩ | ⟨g, q1, q2, _⟩
        · exact hnew j q1 (by rw [← q2]; exact hj)
        · rw [q1] at hj; cases hj; exact q2
      · show (⟨[IntKind.i64.wrap ((k : Int) + 1)], [], [], [(wo (ps.take k) i).length + 1, c4], [a4]⟩ : Vals) = _
        rw [hwk]; simp only [wo_step hpk he, List.length_append, List.length_singleton]
      · simp only [wo_step hpk he, pcells_app, List.length_append, List.length_singleton]
      · show ps.length - (IntKind.i64.wrap ((k : Int) + 1)).toNat < ps.length - ((k : Int)).toNat
        rw [hwk]; omega
  · refine br_f (show decide ((k : Int) < (ps.length : Int)) = false by simpa using hk) ?_
    intro ids w2 hp hf
    have ek : ps.take k = ps := List.take_of_length_le (by omega)
    have hrow := hf.x.2
    simp only [ek] at hrow
    refine ⟨a', c', ?_, refR_of H (fun q hq => wo_mem hq) hrow hnew hf.chg.below⟩
    show Ending.returned (.slice a' (wo (ps.take k) i).length c') = _
    rw [ek]
def keepP (node : Int) (p : Pk) : Bool := decide (p.f ≠ node) && decide (p.t ≠ node)
set_option maxRecDepth 100000 in
theorem rlose_any (a : Option Addr) (cap : Nat) (ps : List Pk) (node : Int) (w : World) (H : (refHX a ps).X w) (hl : ps.length ≤ 1000000) :
    Calls Try.prog 17 #[.slice a ps.length cap, .int .i64 node] w fun e w' => ∃ a' c', e = .returned (.slice a' (ps.filter (keepP node)).length c') ∧ RefR w ps (ps.filter (keepP node)) a' c' w' := by
  refine calls_at (tab_ok _) Try.func17 rfl tRLose (ρ := ⟨[node], [], [], [ps.length, cap], [a]⟩) (ids := []) rfl (Facts.initP rfl oneNil) ?_
  refine loop_i (PickI w ps (fun k => (ps.take k).filter (keepP node))) (fun vs => ps.length - (vs.i.headD 0).toNat) (fun ids w2 hp hf => ⟨HX.nil.and (HX.rw 3 30 (some ⟨idAt ids 0, 0, none⟩) 0 0 []), ⟨⟨trivial, HX.rw_nil _ _ _ _⟩, fun b hb => by rcases hb with hb | hb; cases hb; exact absurd rfl hb.1⟩, 0, some ⟨idAt ids 0, 0, none⟩, 0, by omega, fun j q => absurd rfl q, by simp [Vec.den, IE.den, NE.den, AE.den], by simp [pcells]⟩) ?_
  rintro vs hx' hcnt ⟨k, a', c', hk1, hnew, rfl, rfl⟩
  have hwk : IntKind.i64.wrap ((k : Int) + 1) = ((k + 1 : Nat) : Int) := by rw [wrap_i64 (by omega)]; omega
  have hfl : ((ps.take k).filter (keepP node)).length ≤ k := Nat.le_trans (List.length_filter_le _ _) (by simp [List.length_take]; omega)
  by_cases hk : k < ps.length
  · refine br_t (show decide ((k : Int) < (ps.length : Int)) = true by simpa using hk) ?_
    obtain ⟨p, hpk⟩ : ∃ p, ps[k]? = some p := ⟨_, List.getElem?_eq_getElem hk⟩
    have step : (ps.take (k + 1)).filter (keepP node) = (ps.take k).filter (keepP node) ++ if keepP node p then [p] else [] := by
      rw [List.take_add_one, hpk, List.filter_append]
      show _ ++ [p].filter (keepP node) = _
      rw [List.filter_cons, List.filter_nil]
    have skip : keepP node p = false → ∀ (w2 : World) (ids : List Nat) (vs : Vals), vs = ⟨[IntKind.i64.wrap ((k : Int) + 1)], [], [], [((ps.take k).filter (keepP node)).length, c'], [a']⟩ → HXok (HX.nil.and (HX.rw 3 30 a' ((ps.take k).filter (keepP node)).length c' (pcells ((ps.take k).filter (keepP node))))) w2 ids →
        ∃ hx', HXok hx' w2 ids ∧ ∃ I, lkup 3 [(3, fun vs' hx'' => PickI w ps (fun k => (ps.take k).filter (keepP node)) vs' hx'' ∧ ps.length - (vs'.i.headD 0).toNat < ps.length - (((⟨[(k : Int)], [], [], [((ps.take k).filter (keepP node)).length, c'], [a']⟩ : Vals)).i.headD 0).toNat)] = some I ∧ I vs hx' := by
      rintro hno w2 ids vs rfl hok
      refine ⟨_, hok, _, rfl, ⟨k + 1, a', c', by omega, hnew, ?_, ?_⟩, ?_⟩
      · rw [hwk]; simp [step, hno]
      · simp [step, hno]
      · show ps.length - (IntKind.i64.wrap ((k : Int) + 1)).toNat < ps.length - ((k : Int)).toNat
        rw [hwk]; omega
    obtain ⟨s1, c1⟩ := ref_elt H hpk 0 p.cells (fun j u hj => by rw [Nat.zero_add]; exact hj) (by simp [Pk.cells])
    obtain ⟨_, cf⟩ := ref_elt H hpk 0 [.int .i64 p.f] (one_get (u := .int .i64 0) rfl) (by simp)
    obtain ⟨_, ct⟩ := ref_elt H hpk 1 [.int .i64 p.t] (one_get (u := .int .i64 0) rfl) (by simp)
    refine need_i ⟨s1, (show (0 : Int) ≤ k by omega), (show (k : Int) < ps.length by omega)⟩ ?_
    refine ⟨⟨[p.f], [], [], [], []⟩, fun ids => cf _ (fun e => e), ⟨rfl, oneNil⟩, ?_⟩
    by_cases h1 : p.f = node
    · refine br_f (show (p.f != node) = false by simp [h1]) ?_
      exact fun ids w2 hp hf => skip (by simp [keepP, h1]) _ _ _ rfl ⟨hf.x, hf.sep⟩
    refine br_t (show (p.f != node) = true by simpa using h1) ?_
    refine need_i ⟨s1, (show (0 : Int) ≤ k by omega), (show (k : Int) < ps.length by omega)⟩ ?_
    refine ⟨⟨[p.t], [], [], [], []⟩, fun ids => ct _ (fun e => e), ⟨rfl, oneNil⟩, ?_⟩
    by_cases h2 : p.t = node
    · refine br_f (show (p.t != node) = false by simp [h2]) ?_
      exact fun ids w2 hp hf => skip (by simp [keepP, h2]) _ _ _ rfl ⟨hf.x, hf.sep⟩
    refine br_t (show (p.t != node) = true by simpa using h2) ?_
    have hkp : keepP node p = true := by simp [keepP, h1, h2]
    refine need_i ⟨s1, (show (0 : Int) ≤ k by omega), (show (k : Int) < ps.length by omega)⟩ ?_
    refine ⟨⟨[p.f, p.t], [], [], [p.bs.length, p.c], [p.a]⟩, fun ids => c1 _ (fun e => e), ⟨rfl, oneNil⟩, ?_⟩
    refine node_pushs (sz := 3) (vs := p.cells) rfl Try.underlying38 info_pk rfl (by decide) a' ((ps.take k).filter (keepP node)).length c' (pcells ((ps.take k).filter (keepP node))) 1 (fun _ => rfl) (fun _ => rfl) rfl (fun _ => rfl) rfl (by simp [Pk.cells, Value.oneCell']) (fun j _ _ h => h) (fun j h5 h6 => .inl (hnew j h5 h6)) (by unfold maxLen; omega) (by omega) (fun _ _ _ => rfl) rfl rfl (fun _ _ => rfl) ?_
    intro a4 c4 hc4 hd4 hfr ids w2 hp hf
    refine ⟨_, ⟨hf.x, hf.sep⟩, _, rfl, ⟨k + 1, a4, c4, by omega, fun j _ hj => ?_, ?_, ?_⟩, ?_⟩
    · rcases hfr with ⟨q1, q2⟩ | ⟨g, q1, q2, _⟩
      · exact hnew j q1 (by rw [← q2]; exact hj)
      · rw [q1] at hj; cases hj; exact q2
    · show (⟨[IntKind.i64.wrap ((k : Int) + 1)], [], [], [((ps.take k).filter (keepP node)).length + 1, c4], [a4]⟩ : Vals) = _
      rw [hwk]; simp [step, hkp]
    · simp [step, hkp, pcells_app]
    · show ps.length - (IntKind.i64.wrap ((k : Int) + 1)).toNat < ps.length - ((k : Int)).toNat
      rw [hwk]; omega
  · refine br_f (show decide ((k : Int) < (ps.length : Int)) = false by simpa using hk) ?_
    intro ids w2 hp hf
    have ek : ps.take k = ps := List.take_of_length_le (by omega)
    have hrow := hf.x.2
    simp only [ek] at hrow
    refine ⟨a', c', ?_, refR_of H (fun q hq => (List.mem_filter.1 hq).1) hrow hnew hf.chg.below⟩
    show Ending.returned (.slice a' ((ps.take k).filter (keepP node)).length c') = _
    rw [ek]
set_option maxRecDepth 100000 in
theorem rput_no (a : Option Addr) (cap : Nat) (ps : List Pk) (p : PkD) (ad : Option Addr) (cd : Nat) (w : World) (he : putE (ps.map Pk.d) p ≠ 0) :
    Calls Try.prog 14 #[.slice a ps.length cap, .agg #[.int .i64 p.f, .int .i64 p.t, .slice ad p.bs.length cd]] w (PureAt w (.tuple #[.slice a ps.length cap, .int .i64 (putE (ps.map Pk.d) p)])) := by
  refine calls_at (tab_ok _) Try.func14 rfl tRPut (ρ := ⟨[p.f, p.t], [], [], [ps.length, cap, p.bs.length, cd], [a, ad]⟩) (ids := []) rfl (Facts.initP rfl oneNil) ?_
  have e1 : (min p.f p.t < 0 ∨ 9 < max p.f p.t) → putE (ps.map Pk.d) p = 1 := fun h => if_pos h
  by_cases h1 : p.f < 0
  · rw [e1 (by omega)]
    exact br_t (show decide (p.f < 0) = true by simpa using h1) (pure_done fun _ => rfl)
  refine br_f (show decide (p.f < 0) = false by simp; omega) ?_
  by_cases h2 : p.f > 9
  · rw [e1 (by omega)]
    exact br_t (show decide (p.f > 9) = true by simp; omega) (pure_done fun _ => rfl)
  refine br_f (show decide (p.f > 9) = false by simp; omega) ?_
  by_cases h3 : p.t < 0
  · rw [e1 (by omega)]
    exact br_t (show decide (p.t < 0) = true by simpa using h3) (pure_done fun _ => rfl)
  refine br_f (show decide (p.t < 0) = false by simp; omega) ?_
  by_cases h4 : p.t > 9
  · rw [e1 (by omega)]
    exact br_t (show decide (p.t > 9) = true by simp; omega) (pure_done fun _ => rfl)
  refine br_f (show decide (p.t > 9) = false by simp; omega) ?_
  have n1 : ¬ (min p.f p.t < 0 ∨ 9 < max p.f p.t) := by omega
  by_cases h5 : 65536 < p.bs.length
  · have e : putE (ps.map Pk.d) p = 12 := by unfold putE; rw [if_neg n1, if_pos h5]
    rw [e]
    exact br_t (show decide ((p.bs.length : Int) > 65536) = true by simp; omega) (pure_done fun _ => rfl)
  refine br_f (show decide ((p.bs.length : Int) > 65536) = false by simp; omega) ?_
  by_cases h6 : 512 ≤ ps.length
  · have e : putE (ps.map Pk.d) p = 43 := by unfold putE; rw [if_neg n1, if_neg h5, List.length_map, if_pos h6]
    rw [e]
    exact br_t (show decide ((ps.length : Int) ≥ 512) = true by simp; omega) (pure_done fun _ => rfl)
  · exact absurd (by unfold putE; rw [if_neg n1, if_neg h5, List.length_map, if_neg h6]) he
theorem putE_zero {D : List PkD} {p : PkD} (h : putE D p = 0) : 0 ≤ p.f ∧ p.f ≤ 9 ∧ 0 ≤ p.t ∧ p.t ≤ 9 ∧ p.bs.length ≤ 65536 ∧ D.length < 512 := by
  unfold putE at h
  split at h
  · omega
  · split at h
    · omega
    · split at h
      · omega
      · omega
set_option maxRecDepth 100000 in
theorem rput_yes (a : Option Addr) (cap : Nat) (ps : List Pk) (p : PkD) (ad : Option Addr) (cd : Nat) (w : World) (H : (refHX a ps).X w) (Hd : Cells w ad (bcells p.bs)) (he : putE (ps.map Pk.d) p = 0) :
    Calls Try.prog 14 #[.slice a ps.length cap, .agg #[.int .i64 p.f, .int .i64 p.t, .slice ad p.bs.length cd]] w fun e w' => ∃ a' c' q, q.d = p ∧ e = .returned (.tuple #[.slice a' (ps ++ [q]).length c', .int .i64 0]) ∧ RefR w ps (ps ++ [q]) a' c' w' := by
  refine calls_at (tab_ok _) Try.func14 rfl tRPut (ρ := ⟨[p.f, p.t], [], [], [ps.length, cap, p.bs.length, cd], [a, ad]⟩) (ids := []) (hx := (refHX a ps).and (HX.cl ad (bcells p.bs))) rfl (Facts.initq rfl oneNil ⟨H, Hd⟩ (fun k hk => hk.elim (ref_sep H k) (cl_sep Hd k))) ?_
  obtain ⟨h1, h2, h3, h4, h5, h6⟩ := putE_zero he
  rw [List.length_map] at h6
  refine br_f (show decide (p.f < 0) = false by simp; omega) (br_f (show decide (p.f > 9) = false by simp; omega) (br_f (show decide (p.t < 0) = false by simp; omega) (br_f (show decide (p.t > 9) = false by simp; omega) (br_f (show decide ((p.bs.length : Int) > 65536) = false by simp; omega) (br_f (show decide ((ps.length : Int) ≥ 512) = false by simp; omega) ?_)))))
  refine node_clones (sz := 3) (xs := pcells ps) rfl Try.underlying38 info_pk rfl (by decide) 1 rfl (fun _ => a) ps.length cap (pcells_len ps) (fun ids w2 hp hf => hf.x.1.2) (pcells_one ps) (by unfold maxLen; omega) (by omega) (fun _ => rfl) (fun _ => rfl) (fun _ _ _ => rfl) rfl rfl (fun _ _ => rfl) ?_
  intro a1 c1 hn1
  refine node_newbs (bs := p.bs) (cap := cd) (sa := fun _ => ad) (fun w a h => copyb_any a cd p.bs w h (by omega)) (fun ids w2 hp hf => hf.x.1.2) (fun _ => rfl) (fun _ _ _ => rfl) rfl rfl (fun _ _ => rfl) ?_
  intro a2 c2 hn2
  have h2F : ∀ k, (HX.cl a2 (bcells p.bs)).F k → w.heap.size ≤ k ∧ ¬ (((refHX a ps).and (HX.cl ad (bcells p.bs))).and (HX.rw 3 30 a1 ps.length c1 (pcells ps))).F k := fun k hk => by
    obtain ⟨q, rfl⟩ := hk
    exact hn2 fun e => q (by rw [e]; rfl)
  rw [HX.and_right_comm _ (HX.rw 3 30 a1 ps.length c1 (pcells ps)) (HX.cl a2 (bcells p.bs))]
  refine node_pushs (sz := 3) (vs := [.int .i64 p.f, .int .i64 p.t, .slice a2 p.bs.length c2]) rfl Try.underlying38 info_pk rfl (by decide) a1 ps.length c1 (pcells ps) 2 (fun _ => rfl) (fun _ => rfl) rfl (fun _ => rfl) rfl (by simp [Value.oneCell']) (fun k q1 q2 hF => ?_) (fun k q1 q2 => .inl (hn1 k q1 q2).1) (by unfold maxLen; omega) (by omega) (fun _ _ _ => rfl) rfl rfl (fun _ _ => rfl) ?_
  · rcases hF with hF | hF
    · exact (hn1 k q1 q2).2 hF
    · exact (h2F k hF).2 (.inr ⟨q1, q2⟩)
  intro a3 c3 hc3 hd3 hfr ids w2 hp hf
  have el : (ps ++ [(⟨p.f, p.t, a2, c2, p.bs⟩ : Pk)]).length = ps.length + 1 := by simp
  have hrow := hf.x.2
  have ecs : pcells ps ++ [.int .i64 p.f, .int .i64 p.t, .slice a2 p.bs.length c2] = pcells (ps ++ [(⟨p.f, p.t, a2, c2, p.bs⟩ : Pk)]) := by rw [pcells_app]; rfl
  rw [ecs] at hrow
  obtain ⟨r1, r2⟩ := rw_cl hrow
  refine ⟨a3, c3, ⟨p.f, p.t, a2, c2, p.bs⟩, rfl, ?_, ⟨by have := (rw_le hf.x.2).1; rw [el]; exact this, ⟨fun q hq => ?_, r1⟩, fun k hk => ?_, hf.chg.below⟩⟩
  · rw [el]; rfl
  · rcases List.mem_append.1 hq with hq | hq
    · exact hf.x.1.1.1.1 q hq
    · simp only [List.mem_singleton] at hq; subst hq; exact hf.x.1.2
  · rcases hk with ⟨q, hq, q5, rfl⟩ | hk
    · rcases List.mem_append.1 hq with hq | hq
      · exact .inl ⟨q, hq, q5, rfl⟩
      · simp only [List.mem_singleton] at hq; subst hq
        exact .inr (h2F _ ⟨fun e => q5 (bcells_nil.1 e), rfl⟩).1
    · obtain ⟨q1, q2⟩ := r2 k hk
      rcases hfr with ⟨q3, q4⟩ | ⟨g, q3, q4, _⟩
      · exact .inr (hn1 k q3 (by rw [← q4]; exact q2)).1
      · rw [q3] at q2; cases q2; exact .inr q4
end Go.Proofs.Yteeecfdcebcbbaa
