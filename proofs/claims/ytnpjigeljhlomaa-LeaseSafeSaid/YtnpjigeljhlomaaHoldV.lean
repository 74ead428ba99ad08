/- The reference's holder: Valid. -/
import Derived.Test.YtnpjigeljhlomaaHoldR
namespace Go.Proofs.Ytnpjigeljhlomaa
open Go.ChangeShapes Go.WideShapes Go.ChangeAt Go.RowKit Go.Syn Go.Eng
set_option linter.unusedVariables false
set_option linter.unusedSimpArgs false
/-- The latest time of a node. -/
def IsMax (ps : List (Int × Int)) (x L : Int) : Prop := (x, L) ∈ ps ∧ ∀ t, (x, t) ∈ ps → t ≤ L
theorem IsMax.uniq {ps : List (Int × Int)} {x L L' : Int} (h : IsMax ps x L) (h' : IsMax ps x L') : L = L' := by
  have := h.2 _ h'.1; have := h'.2 _ h.1; omega
def RIn (ps : List (Int × Int)) (x : Int) (hx0 : HX) (vs : Vals) (hx : HX) : Prop :=
  ∃ (last : Int) (j : Nat), j ≤ ps.length ∧ (x, last) ∈ ps ∧ (∀ t, (x, t) ∈ ps.take j → t ≤ last) ∧ vs = ⟨[last, (j : Int)], [], [], [], []⟩ ∧ hx = hx0
def ROut (base : Nat) (am : Option Addr) (ms : List Int) (ps : List (Int × Int)) (hold now : Int) (vs : Vals) (hx : HX) : Prop :=
  ∃ (a' : Option Addr) (c' : Nat) (l : List Int) (i : Nat), i ≤ ps.length ∧ l.length ≤ i ∧ (∀ x ∈ l, I64 x) ∧ (∀ y, y ∈ l ↔ ∃ L t, (y, t) ∈ ps.take i ∧ IsMax ps y L ∧ L ≤ now ∧ now < L + hold) ∧
    (∀ k, c' ≠ 0 → abk a' = some k → ¬ (HX.ints am ms).F k) ∧ vs = ⟨[(i : Int)], [], [], [l.length, c'], [a']⟩ ∧ hx = (HX.ints am ms).and (HX.row base 3 a' l.length c' (l.map (Value.int .i64)))
theorem take_succ_mem {α : Type} {ps : List α} {i : Nat} {p q : α} (hi : ps[i]? = some p) : q ∈ ps.take (i + 1) ↔ q ∈ ps.take i ∨ q = p := by
  have hl : i < ps.length := by
    rcases Nat.lt_or_ge i ps.length with h | h
    · exact h
    · rw [List.getElem?_eq_none h] at hi; cases hi
  rw [List.take_add_one, List.mem_append, hi]
  simp
set_option maxHeartbeats 4000000 in
set_option maxRecDepth 100000 in
theorem rhvalid_any (am : Option Addr) (cm : Nat) (ms : List Int) (hold : Int) (an : Option Addr) (cn : Nat) (ats : Option Addr) (ct : Nat) (ps : List (Int × Int)) (now : Int) (l0 : List Int) (w : World) (H : Ints w am ms) (hml : ms.length ≤ 4611686018427387903) (hP : pairsIn w an ats ps) (hl : ps.length ≤ 1000)
    (hh : 0 ≤ hold ∧ hold ≤ 1152921504606846976) (ht : ∀ p ∈ ps, -1152921504606846976 ≤ p.2 ∧ p.2 ≤ 1152921504606846976) (h0 : ∀ y, y ∈ l0 ↔ ∃ L, IsMax ps y L ∧ L ≤ now ∧ now < L + hold) :
    Calls Try.prog 22 #[.agg #[.slice am ms.length cm, .int .i64 hold, .slice an ps.length cn, .slice ats ps.length ct], .int .i64 now] w (PureAt w (.bool (enoughB ms l0))) := by
  refine calls_at (tab_ok _) Try.func22 rfl tRHValid (ρ := ⟨[hold, now], [], [], [ms.length, cm, ps.length, cn, ps.length, ct], [am, an, ats]⟩) (ids := []) (hx := HX.ints am ms) rfl (Facts.initq rfl oneNil H (ints_sep H)) ?_
  refine loop_i (ROut w.heap.size am ms ps hold now) (fun vs => ps.length - (vs.i.headD 0).toNat) (fun ids w2 hp hf => ⟨(HX.ints am ms).and (HX.row w.heap.size 3 (some ⟨idAt ids 1, 0, none⟩) 0 0 []), ⟨⟨hf.x, HX.row_nil _ _ _ _⟩, fun b hb => ?_⟩, some ⟨idAt ids 1, 0, none⟩, 0, [], 0, by omega, by simp, by simp, by simp, fun k q => absurd rfl q, rfl, rfl⟩) ?_
  · rcases hb with hb | hb
    · exact hf.sep b hb
    · exact absurd rfl hb.1
  rintro vs hx' hcnt ⟨a', c', l, i, hi, hli, hlf, hlm, hdis, rfl, rfl⟩
  have hwi : IntKind.i64.wrap ((i : Int) + 1) = ((i + 1 : Nat) : Int) := by rw [wrap_i64 (by omega)]; omega
  by_cases hk : i < ps.length
  · refine br_t (show decide ((i : Int) < (ps.length : Int)) = true by simpa using hk) ?_
    obtain ⟨p, hpi⟩ : ∃ p, ps[i]? = some p := ⟨_, List.getElem?_eq_getElem hk⟩
    have hpm : p ∈ ps := List.mem_of_getElem? hpi
    obtain ⟨s1, c1⟩ := ints_elt hP.1 (i := i) (x := p.1) (by rw [List.getElem?_map, hpi]; rfl)
    obtain ⟨s2, c2⟩ := ints_elt hP.2 (i := i) (x := p.2) (by rw [List.getElem?_map, hpi]; rfl)
    refine need_i ⟨s2, (show (0 : Int) ≤ i by omega), (show (i : Int) < ps.length by omega)⟩ ?_
    refine ⟨⟨[p.2], [], [], [], []⟩, fun ids => c2 _ (fun e => e), ⟨rfl, oneNil⟩, ?_⟩
    refine loop_i (RIn ps p.1 ((HX.ints am ms).and (HX.row w.heap.size 3 a' l.length c' (l.map (Value.int .i64))))) (fun vs => ps.length - (vs.i.getD 1 0).toNat) (fun ids w2 hp hf => ⟨_, ⟨hf.x, hf.sep⟩, p.2, 0, by omega, hpm, by simp, rfl, rfl⟩) ?_
    rintro vs hx' hcnt ⟨last, j, hj, hlast, hmax, rfl, rfl⟩
    have hwj : IntKind.i64.wrap ((j : Int) + 1) = ((j + 1 : Nat) : Int) := by rw [wrap_i64 (by omega)]; omega
    by_cases hkj : j < ps.length
    · refine br_t (show decide ((j : Int) < (ps.length : Int)) = true by simpa using hkj) ?_
      obtain ⟨q, hqj⟩ : ∃ q, ps[j]? = some q := ⟨_, List.getElem?_eq_getElem hkj⟩
      obtain ⟨s3, c3⟩ := ints_elt hP.1 (i := j) (x := q.1) (by rw [List.getElem?_map, hqj]; rfl)
      obtain ⟨s4, c4⟩ := ints_elt hP.2 (i := j) (x := q.2) (by rw [List.getElem?_map, hqj]; rfl)
      have hqm : q ∈ ps := List.mem_of_getElem? hqj
      have back : ∀ last', (p.1, last') ∈ ps → (∀ t, (p.1, t) ∈ ps.take (j + 1) → t ≤ last') → ∀ vs, vs = ⟨[last', IntKind.i64.wrap ((j : Int) + 1)], [], [], [], []⟩ → ∀ (hx' : HX) (w2 : World) (ids : List Nat) (L : Stack), HXok hx' w2 ids →
          ∃ hx'', HXok hx'' w2 ids ∧ ∃ I, lkup 7 ((7, fun vs' hx'' => RIn ps p.1 hx' vs' hx'' ∧ ps.length - (vs'.i.getD 1 0).toNat < ps.length - (((⟨[last, (j : Int)], [], [], [], []⟩ : Vals)).i.getD 1 0).toNat) :: L) = some I ∧ I vs hx'' := by
        rintro last' g1 g2 vs rfl hx' w2 ids L hok
        refine ⟨hx', hok, _, rfl, ⟨last', j + 1, by omega, g1, g2, by rw [hwj], rfl⟩, ?_⟩
        show ps.length - (IntKind.i64.wrap ((j : Int) + 1)).toNat < ps.length - ((j : Int)).toNat
        rw [hwj]; omega
      refine need_i ⟨s3, (show (0 : Int) ≤ j by omega), (show (j : Int) < ps.length by omega)⟩ ?_
      refine need_i ⟨s1, (show (0 : Int) ≤ i by omega), (show (i : Int) < ps.length by omega)⟩ ?_
      have keep : ¬ (q.1 = p.1 ∧ last < q.2) → ∀ t, (p.1, t) ∈ ps.take (j + 1) → t ≤ last := fun hno t ht2 => by
        rcases (take_succ_mem hqj).1 ht2 with h | h
        · exact hmax t h
        · have e1 : q.1 = p.1 := by rw [← h]
          have e2 : q.2 = t := by rw [← h]
          have : ¬ last < q.2 := fun h => hno ⟨e1, h⟩
          omega
      have more : q.1 = p.1 → last < q.2 → (p.1, q.2) ∈ ps ∧ ∀ t, (p.1, t) ∈ ps.take (j + 1) → t ≤ q.2 := fun e hlt => by
        refine ⟨by rw [← e]; exact hqm, fun t ht2 => ?_⟩
        rcases (take_succ_mem hqj).1 ht2 with h | h
        · have := hmax t h; omega
        · have e2 : q.2 = t := by rw [← h]
          omega
      refine par_i ?_ ?_
      · refine ⟨⟨[q.1], [], [], [], []⟩, fun ids => c3 _ (fun e => e), ⟨rfl, oneNil⟩, ?_⟩
        refine ⟨⟨[p.1], [], [], [], []⟩, fun ids => c1 _ (fun e => e), ⟨rfl, oneNil⟩, ?_⟩
        by_cases he : q.1 = p.1
        · refine br_t (show (q.1 == p.1) = true by simpa using he) ?_
          refine need_i ⟨s4, (show (0 : Int) ≤ j by omega), (show (j : Int) < ps.length by omega)⟩ ?_
          refine ⟨⟨[q.2], [], [], [], []⟩, fun ids => c4 _ (fun e => e), ⟨rfl, oneNil⟩, ?_⟩
          by_cases hg : last < q.2
          · refine br_t (show decide (q.2 > last) = true by simpa using hg) ?_
            refine need_i ⟨s4, (show (0 : Int) ≤ j by omega), (show (j : Int) < ps.length by omega)⟩ ?_
            refine ⟨⟨[q.2], [], [], [], []⟩, fun ids => c4 _ (fun e => e), ⟨rfl, oneNil⟩, ?_⟩
            exact fun ids w2 hp hf => back _ (more he hg).1 (more he hg).2 _ rfl _ _ _ _ ⟨hf.x, hf.sep⟩
          · refine br_f (show decide (q.2 > last) = false by simpa using hg) ?_
            exact fun ids w2 hp hf => back _ hlast (keep fun h => hg h.2) _ rfl _ _ _ _ ⟨hf.x, hf.sep⟩
        · refine br_f (show (q.1 == p.1) = false by simpa using he) ?_
          exact fun ids w2 hp hf => back _ hlast (keep fun h => he h.1) _ rfl _ _ _ _ ⟨hf.x, hf.sep⟩
      · refine ⟨⟨[p.1], [], [], [], []⟩, fun ids => c1 _ (fun e => e), ⟨rfl, oneNil⟩, ?_⟩
        refine ⟨⟨[q.1], [], [], [], []⟩, fun ids => c3 _ (fun e => e), ⟨rfl, oneNil⟩, ?_⟩
        by_cases he : q.1 = p.1
        · refine br_t (show (q.1 == p.1) = true by simpa using he) ?_
          refine need_i ⟨s4, (show (0 : Int) ≤ j by omega), (show (j : Int) < ps.length by omega)⟩ ?_
          refine ⟨⟨[q.2], [], [], [], []⟩, fun ids => c4 _ (fun e => e), ⟨rfl, oneNil⟩, ?_⟩
          by_cases hg : last < q.2
          · refine br_t (show decide (q.2 > last) = true by simpa using hg) ?_
            refine need_i ⟨s4, (show (0 : Int) ≤ j by omega), (show (j : Int) < ps.length by omega)⟩ ?_
            refine ⟨⟨[q.2], [], [], [], []⟩, fun ids => c4 _ (fun e => e), ⟨rfl, oneNil⟩, ?_⟩
            exact fun ids w2 hp hf => back _ (more he hg).1 (more he hg).2 _ rfl _ _ _ _ ⟨hf.x, hf.sep⟩
          · refine br_f (show decide (q.2 > last) = false by simpa using hg) ?_
            exact fun ids w2 hp hf => back _ hlast (keep fun h => hg h.2) _ rfl _ _ _ _ ⟨hf.x, hf.sep⟩
        · refine br_f (show (q.1 == p.1) = false by simpa using he) ?_
          exact fun ids w2 hp hf => back _ hlast (keep fun h => he h.1) _ rfl _ _ _ _ ⟨hf.x, hf.sep⟩
    · refine br_f (show decide ((j : Int) < (ps.length : Int)) = false by simpa using hkj) ?_
      have hM : IsMax ps p.1 last := ⟨hlast, fun t h => hmax t (by rw [List.take_of_length_le (by omega)]; exact h)⟩
      have hrange := ht _ hlast
      simp only at hrange
      have hws : IntKind.i64.wrap (last + hold) = last + hold := wrap_i64 (by omega)
      have back : ∀ (a2 : Option Addr) (c2 : Nat) (l2 : List Int), l2.length ≤ i + 1 → (∀ x ∈ l2, I64 x) → (∀ y, y ∈ l2 ↔ ∃ L t, (y, t) ∈ ps.take (i + 1) ∧ IsMax ps y L ∧ L ≤ now ∧ now < L + hold) → (∀ k, c2 ≠ 0 → abk a2 = some k → ¬ (HX.ints am ms).F k) →
          ∀ vs, vs = ⟨[IntKind.i64.wrap ((i : Int) + 1)], [], [], [l2.length, c2], [a2]⟩ → ∀ (w2 : World) (ids : List Nat) (x : Nat × Inv) (hne : x.1 = 7) (hx' : HX), hx' = (HX.ints am ms).and (HX.row w.heap.size 3 a2 l2.length c2 (l2.map (Value.int .i64))) → HXok hx' w2 ids →
          ∃ hx'', HXok hx'' w2 ids ∧ ∃ I, lkup 3 (x :: [(3, fun vs' hx'' => ROut w.heap.size am ms ps hold now vs' hx'' ∧ ps.length - (vs'.i.headD 0).toNat < ps.length - (((⟨[(i : Int)], [], [], [l.length, c'], [a']⟩ : Vals)).i.headD 0).toNat)]) = some I ∧ I vs hx'' := by
        rintro a2 c2 l2 g1 g2 g3 g4 vs rfl w2 ids ⟨x1, x2⟩ hx7 hx' rfl hok
        simp only at hx7
        subst hx7
        refine ⟨_, hok, _, rfl, ⟨a2, c2, l2, i + 1, by omega, g1, g2, g3, g4, by rw [hwi], rfl⟩, ?_⟩
        show ps.length - (IntKind.i64.wrap ((i : Int) + 1)).toNat < ps.length - ((i : Int)).toNat
        rw [hwi]; omega
      have skip : ¬ (last ≤ now ∧ now < last + hold) → ∀ y, y ∈ l ↔ ∃ L t, (y, t) ∈ ps.take (i + 1) ∧ IsMax ps y L ∧ L ≤ now ∧ now < L + hold := fun hno y => by
        refine (hlm y).trans ⟨fun ⟨L, t, g1, g2⟩ => ⟨L, t, (take_succ_mem hpi).2 (.inl g1), g2⟩, fun ⟨L, t, g1, g2, g3⟩ => ?_⟩
        rcases (take_succ_mem hpi).1 g1 with h | h
        · exact ⟨L, t, h, g2, g3⟩
        · have e1 : p.1 = y := by rw [← h]
          rw [e1] at hM
          rw [hM.uniq g2] at hno
          exact absurd g3 hno
      by_cases h1 : last ≤ now
      · refine br_t (show decide (last ≤ now) = true by simpa using h1) ?_
        by_cases h2 : now < last + hold
        · refine br_t (show decide (now < IntKind.i64.wrap (last + hold)) = true by rw [hws]; simpa using h2) ?_
          refine need_i ⟨s1, (show (0 : Int) ≤ i by omega), (show (i : Int) < ps.length by omega)⟩ ?_
          refine ⟨⟨[p.1], [], [], [], []⟩, fun ids => c1 _ (fun e => e), ⟨rfl, oneNil⟩, ?_⟩
          refine node_pushr (v := .int .i64 p.1) rfl Try.underlying41 info_int rfl a' l.length c' _ 2 (fun _ => rfl) (fun _ => rfl) rfl (fun _ => rfl) rfl hdis (by unfold maxLen; omega) (by omega) (fun _ _ _ => rfl) rfl rfl (fun _ _ => rfl) ?_
          intro a2 c2 hc2 d2 ids w2 hp hf
          have ll : (l ++ [p.1]).length = l.length + 1 := by simp
          refine back a2 c2 (l ++ [p.1]) (by rw [ll]; omega) (fun x hx => ?_) (fun y => ?_) (fun k _ => d2 k) _ (by rw [ll]; rfl) _ _ (_, _) rfl _ (by rw [ll, List.map_append]; rfl) ⟨hf.x, hf.sep⟩
          · rcases List.mem_append.1 hx with h | h
            · exact hlf x h
            · simp only [List.mem_singleton] at h; subst h
              exact hP.1.fits _ (List.mem_map.2 ⟨p, hpm, rfl⟩)
          · rw [List.mem_append, List.mem_singleton]
            constructor
            · rintro (h | rfl)
              · obtain ⟨L, t, g1, g2⟩ := (hlm y).1 h
                exact ⟨L, t, (take_succ_mem hpi).2 (.inl g1), g2⟩
              · exact ⟨last, p.2, (take_succ_mem hpi).2 (.inr rfl), hM, h1, h2⟩
            · rintro ⟨L, t, g1, g2, g3⟩
              rcases (take_succ_mem hpi).1 g1 with h | h
              · exact .inl ((hlm y).2 ⟨L, t, h, g2, g3⟩)
              · exact .inr (by rw [← h])
        · refine br_f (show decide (now < IntKind.i64.wrap (last + hold)) = false by rw [hws]; simpa using h2) ?_
          exact fun ids w2 hp hf => back a' c' l (by omega) hlf (skip fun h => h2 h.2) hdis _ rfl _ _ (_, _) rfl _ rfl ⟨hf.x, hf.sep⟩
      · refine br_f (show decide (last ≤ now) = false by simpa using h1) ?_
        exact fun ids w2 hp hf => back a' c' l (by omega) hlf (skip fun h => h1 h.1) hdis _ rfl _ _ (_, _) rfl _ rfl ⟨hf.x, hf.sep⟩
  · refine br_f (show decide ((i : Int) < (ps.length : Int)) = false by simpa using hk) ?_
    have e : enoughB ms l = enoughB ms l0 := enoughB_congr fun y => (hlm y).trans (((h0 y).trans ⟨fun ⟨L, g1, g2⟩ => ⟨L, L, by rw [List.take_of_length_le (by omega)]; exact g1.1, g1, g2⟩, fun ⟨L, t, g0, g1, g2⟩ => ⟨L, g1, g2⟩⟩).symm)
    refine node_pure ⟨[], [enoughB ms l], [], [], []⟩ rfl rfl rfl oneNil (fun ids w2 hp hf => pure_same (refEnough_any am cm ms a' c' l w2 hf.x.1 (row_ints hf.x.2 (by omega) hlf) hml)) (pure_done fun _ => ?_)
    rw [← e]; rfl
end Go.Proofs.Ytnpjigeljhlomaa
