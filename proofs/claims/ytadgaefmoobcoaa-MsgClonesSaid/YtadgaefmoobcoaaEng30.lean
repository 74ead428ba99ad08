/- Rows of elements of one size; rows in new memory; places by binary search. No program in sight. -/
import Derived.Test.YtadgaefmoobcoaaEng29
namespace Go.Eng
open Go.RowKit Go.Syn
set_option linter.unusedVariables false
theorem flat_len {α : Type} {f : α → List Value} {n : Nat} (hf : ∀ x, (f x).length = n) (es : List α) : (es.flatMap f).length = es.length * n := by
  induction es with
  | nil => simp
  | cons x r ih => rw [List.flatMap_cons, List.length_append, ih, hf, List.length_cons, Nat.add_mul]; omega
theorem flat_take {α : Type} {f : α → List Value} {n : Nat} (hf : ∀ x, (f x).length = n) (es : List α) : ∀ i, (es.flatMap f).take (i * n) = (es.take i).flatMap f := by
  induction es with
  | nil => intro i; simp
  | cons x r ih =>
    intro i
    cases i with
    | zero => simp
    | succ i =>
      rw [List.take_succ_cons, List.flatMap_cons, List.flatMap_cons, List.take_append, hf, List.take_of_length_le (by rw [hf, Nat.add_mul]; omega), show (i + 1) * n - n = i * n by rw [Nat.add_mul]; omega, ih]
theorem flat_drop {α : Type} {f : α → List Value} {n : Nat} (hf : ∀ x, (f x).length = n) (es : List α) : ∀ i, (es.flatMap f).drop (i * n) = (es.drop i).flatMap f := by
  induction es with
  | nil => intro i; simp
  | cons x r ih =>
    intro i
    cases i with
    | zero => simp
    | succ i =>
      rw [List.drop_succ_cons, List.flatMap_cons, List.drop_append, hf, List.drop_of_length_le (by rw [hf, Nat.add_mul]; omega), List.nil_append, show (i + 1) * n - n = i * n by rw [Nat.add_mul]; omega, ih]
theorem flat_get {α : Type} {f : α → List Value} {n : Nat} (hf : ∀ x, (f x).length = n) {es : List α} {i : Nat} {e : α} (h : es[i]? = some e) {j : Nat} {u : Value} (hj : (f e)[j]? = some u) : (es.flatMap f)[i * n + j]? = some u := by
  obtain ⟨hi, he⟩ := List.getElem?_eq_some_iff.1 h
  have h1 : (es.flatMap f).drop (i * n) = f e ++ (es.drop (i + 1)).flatMap f := by
    rw [flat_drop hf, List.drop_eq_getElem_cons hi, he, List.flatMap_cons]
  have hl : j < (f e).length := by
    rcases Nat.lt_or_ge j (f e).length with q | q
    · exact q
    · rw [List.getElem?_eq_none q] at hj; cases hj
  rw [← List.getElem?_drop, h1, List.getElem?_append_left hl]; exact hj
/-- A part of an element is stored. -/
theorem flat_spl {α : Type} {f : α → List Value} {n : Nat} (hf : ∀ x, (f x).length = n) {es : List α} {i : Nat} {e e' : α} (h : es[i]? = some e) {o : Nat} {us : List Value} (ho : o + us.length ≤ n) (he : f e' = spl (f e) o us) : spl (es.flatMap f) (i * n + o) us = (es.set i e').flatMap f := by
  obtain ⟨hi, hee⟩ := List.getElem?_eq_some_iff.1 h
  have hfl := flat_len hf es
  have hd : es.flatMap f = (es.take i).flatMap f ++ (f e ++ (es.drop (i + 1)).flatMap f) := by
    conv => lhs; rw [← List.take_append_drop i es, List.drop_eq_getElem_cons hi, hee]
    rw [List.flatMap_append, List.flatMap_cons]
  have hl : ((es.take i).flatMap f).length = i * n := by rw [flat_len hf, List.length_take, Nat.min_eq_left (by omega)]
  have hs : es.set i e' = es.take i ++ e' :: es.drop (i + 1) := by
    rw [List.set_eq_take_append_cons_drop, if_pos hi]
  rw [hs, List.flatMap_append, List.flatMap_cons, he, hd]
  unfold spl
  have hfe := hf e
  clear hd hfl hs
  generalize (es.take i).flatMap f = A at hl ⊢
  generalize (es.drop (i + 1)).flatMap f = B
  rw [List.take_append, hl, List.take_of_length_le (by rw [hl]; omega), Nat.add_sub_cancel_left, List.drop_append, hl, List.drop_of_length_le (by rw [hl]; omega), List.nil_append]
  rw [show i * n + o + us.length - i * n = o + us.length by omega, List.take_append_of_le_length (by omega), List.drop_append_of_le_length (by omega)]
  simp only [List.append_assoc]
theorem flat_part {α : Type} {f : α → List Value} {n : Nat} (hf : ∀ x, (f x).length = n) {w : World} {a : Option Addr} {es : List α} (h : Cells w a (es.flatMap f)) {i : Nat} {e : α} (hi : es[i]? = some e) {o : Nat} (us : List Value) (hu : ∀ j u, us[j]? = some u → (f e)[o + j]? = some u) (h0 : us ≠ []) :
    a.isSome = true ∧ ∀ (N : Nat → Prop), ¬ N ((a.getD ⟨0, 0, none⟩).block) → CellsAt w (.pointer (some (((a.getD ⟨0, 0, none⟩).add (i * n)).add o))) us N :=
  cl_part h us (fun j u hj => by rw [Nat.add_assoc]; exact flat_get hf hi (hu j u hj)) h0
/-- Rows in new memory. -/
def RwNew (w : World) (V : Value → Value) (sz e n : Nat) (xs : List Value) (r : Ending) (w' : World) : Prop := ∃ a' c', r = .returned (V (.slice a' n c')) ∧ (HX.rw sz e a' n c' xs).X w' ∧ (∀ k, c' ≠ 0 → abk a' = some k → w.heap.size ≤ k) ∧ Below w.heap.size w w'
theorem rw_blt {sz e n cap : Nat} {a : Option Addr} {xs : List Value} {w : World} (h : (HX.rw sz e a n cap xs).X w) {k : Nat} (h1 : cap ≠ 0) (h2 : abk a = some k) : k < w.heap.size := by
  obtain ⟨g, _, rfl, q, _⟩ := rw_open h h1
  cases h2; exact q
theorem rw_sm {sz e n cap : Nat} {a : Option Addr} {xs : List Value} {w : World} (h : (HX.rw sz e a n cap xs).X w) (hne : xs ≠ []) : a.isSome = true := by
  have hc : cap ≠ 0 := fun q => by
    rcases h with ⟨_, _, h3⟩ | ⟨h3, _⟩
    · exact hne h3
    · exact h3 q
  obtain ⟨g, _, rfl, _⟩ := rw_open h hc
  rfl
section
variable {C : Cfg} {ρ : Env} {pre : List Nat} {hx : HX} {L : Stack} {m m' : Mem} {args : List SV} {r : SV} {t : Tree}
theorem node_rwn {f : Nat} {V : Value → Value} {sz e n : Nat} {xs : List Value} (AS : List Nat → Array Value) (vs : Option Addr → Nat → Vals) (hargs : ∀ ids, (args.map (SV.den ρ ids)).toArray = AS ids) (hcall : ∀ ids w, pre <+: ids → Facts C m ρ ids hx w → Calls C.P f (AS ids) w (RwNew w V sz e n xs))
    (hr : ∀ a' c' ids, r.den (ρ.add (vs a' c')) ids = V (.slice a' n c')) (hhp : m'.hp = m.hp) (hfit : hpFits m.c m.hp.length m.hp = true) (hc : ∀ a' c', (ρ.add (vs a' c')).cnt = m'.c) (h1 : ∀ a' c' v, v ∈ (vs a' c').v → v.oneCell' = true)
    (h : ∀ a' c', (xs ≠ [] → a'.isSome = true) → (∀ k, c' ≠ 0 → abk a' = some k → C.W.heap.size ≤ k ∧ ¬ hx.F k) → t.holds C (ρ.add (vs a' c')) pre (hx.and (HX.rw sz e a' n c' xs)) L) : (Tree.call f args m r m' t).holds C ρ pre hx L := by
  intro ids w hp hf
  rw [hargs]
  refine (hcall ids w hp hf).mono ?_
  rintro e w' ⟨a', c', rfl, hX, hge, hbel⟩
  have hg : w.grownBy w' none := ⟨hbel.os, hbel.tape, hbel.output, hbel.size, fun k hk _ => hbel.block k hk⟩
  refine ⟨_, ids, _, by rw [← hr a' c' ids], List.prefix_refl _, hf.turn (hx' := hx.and (HX.rw sz _ a' n c' xs)) hg (fun b e => by cases e) ⟨hx.loc w w' hf.x fun k hk => hbel.block k (hf.sep k hk).1, hX⟩ (fun k hk => ?_) hhp hfit (hc _ _) (h1 _ _), holds_pre t hp (h a' c' (rw_sm hX) (fun k h2 h3 => ⟨Nat.le_trans hf.chg.size (hge k h2 h3), fun q => by have := (hf.sep _ q).1; have := hge k h2 h3; omega⟩))⟩
  rcases hk with hk | hk
  · exact .inl hk
  · exact .inr ⟨hge k hk.1 hk.2, rw_blt hX hk.1 hk.2⟩
end
/-! ### Places in rising keys -/
def Rise (ks : List Int) : Prop := ∀ (i j : Nat) (x y : Int), i < j → ks[i]? = some x → ks[j]? = some y → x < y
def posI (ks : List Int) (t : Int) : Nat := (ks.takeWhile fun x => decide (x < t)).length
theorem posI_of {ks : List Int} {t : Int} : ∀ {i : Nat}, i ≤ ks.length → (∀ (x : Nat) (k : Int), x < i → ks[x]? = some k → k < t) → (∀ (x : Nat) (k : Int), i ≤ x → ks[x]? = some k → t ≤ k) → posI ks t = i := by
  induction ks with
  | nil => intro i h _ _; simp at h; subst h; rfl
  | cons k r ih =>
    intro i h h1 h2
    cases i with
    | zero =>
      have : t ≤ k := h2 0 k (Nat.le_refl _) rfl
      unfold posI
      rw [List.takeWhile_cons, decide_eq_false (by omega)]; rfl
    | succ i =>
      have hk : k < t := h1 0 k (Nat.zero_lt_succ _) rfl
      unfold posI
      rw [List.takeWhile_cons, decide_eq_true hk]
      show (r.takeWhile _).length + 1 = i + 1
      have := ih (i := i) (by rw [List.length_cons] at h; omega) (fun x y hx hy => h1 (x + 1) y (by omega) (by simpa using hy)) (fun x y hx hy => h2 (x + 1) y (by omega) (by simpa using hy))
      unfold posI at this
      omega
theorem half_i64 {i j : Nat} (h : i + j ≤ 1099511627776) : IntKind.i64.wrap (ifn .shr .u64 (IntKind.u64.wrap (IntKind.i64.wrap ((i : Int) + (j : Int)))) 1) = (((i + j) / 2 : Nat) : Int) := by
  rw [wrap_i64 (x := (i : Int) + (j : Int)) (by omega)]
  have e1 : IntKind.u64.wrap ((i : Int) + (j : Int)) = ((i + j : Nat) : Int) := by
    show ((i : Int) + (j : Int)) % 18446744073709551616 = _
    omega
  rw [e1]
  have e2 : ifn .shr .u64 ((i + j : Nat) : Int) 1 = (((i + j) / 2 : Nat) : Int) := by
    show ((i + j : Nat) : Int).fdiv (2 ^ min (1 : Int).toNat 64) = _
    rw [show (2 : Int) ^ min (1 : Int).toNat 64 = 2 by decide, Int.fdiv_eq_ediv_of_nonneg _ (by decide)]
    omega
  have h2 : (i + j) / 2 ≤ i + j := Nat.div_le_self _ _
  rw [e2]
  generalize (i + j) / 2 = q at h2 ⊢
  rw [wrap_i64 (by omega)]
end Go.Eng
