/- Part 10 of the texts of a proof about the given program: what the statement's proof needs of them. -/
import Derived.OpenShut
import Derived.SizedLaws
import Derived.ChangeBears
import Derived.Deep.Slices
import Derived.Test.YtbedoemdjlollaaKJudgeMerges9
namespace Go.Syn
open Go.RowKit
set_option linter.unusedVariables false
set_option linter.unusedSimpArgs false

inductive Dat where
  | int (k : IntKind) (n : Int)
  | bool (b : Bool)
  | str (s : ByteArray)
  | parts (ds : List Dat)
  | sl (a : Option Addr) (len cap : Nat) (ds : List Dat)

mutual
def Dat.cells : Dat → List Value
  | .int k n => [.int k n]
  | .bool b => [.bool b]
  | .str s => [.string s]
  | .parts ds => Dat.cellsAll ds
  | .sl a len cap _ => [.slice a len cap]
def Dat.cellsAll : List Dat → List Value
  | [] => []
  | d :: r => d.cells ++ Dat.cellsAll r
end

mutual
def Dat.In (P : Program) (w : World) : TypeId → Dat → Prop
  | t, .int k n => P.underlying t = some (.int k) ∧ (Lit.int k n).wf = true
  | t, .bool b => P.underlying t = some .bool
  | t, .str s => P.underlying t = some .string ∧ s.size ≤ reachBytes
  | t, .parts ds => (∃ fs, P.underlying t = some (.struct fs) ∧ Dat.InEach P w (fs.toList.map (·.type)) ds) ∨ (∃ n e, P.underlying t = some (.array n e) ∧ ds.length = n ∧ Dat.InAll P w e ds)
  | t, .sl a len cap ds => ∃ e, P.underlying t = some (.slice e) ∧ ds.length = len ∧ len ≤ cap ∧ cap ≤ maxLen ∧ len * P.bytesOf e ≤ reachBytes ∧ Cells w a (Dat.cellsAll ds) ∧ Dat.InAll P w e ds
def Dat.InAll (P : Program) (w : World) : TypeId → List Dat → Prop
  | _, [] => True
  | t, d :: r => d.In P w t ∧ Dat.InAll P w t r
def Dat.InEach (P : Program) (w : World) : List TypeId → List Dat → Prop
  | [], [] => True
  | t :: ts, d :: r => d.In P w t ∧ Dat.InEach P w ts r
  | _, _ => False
end

def datB (P : Program) : Nat → TypeId → Bool
  | 0, _ => false
  | n + 1, t => decide (t < P.types.size) && match P.underlying t with
    | some (.int _) | some .bool | some .string => true
    | some (.slice e) => datB P n e
    | some (.array _ e) => datB P n e
    | some (.struct fs) => fs.toList.all fun f => datB P n f.type
    | _ => false

section
variable {P : Program} {w : World}
theorem cellsAll_get (c : Nat) (hc : 0 < c) : ∀ (ds : List Dat), (∀ d ∈ ds, d.cells.length = c) → ∀ k, (Dat.cellsAll ds)[k]? = (ds[k / c]?).bind fun d => d.cells[k % c]?
  | [], _, k => by simp [Dat.cellsAll]
  | d :: r, h, k => by
    have hd := h d (by simp)
    unfold Dat.cellsAll
    by_cases hk : k < c
    · rw [List.getElem?_append_left (by omega), Nat.div_eq_of_lt hk, Nat.mod_eq_of_lt hk]; simp
    · rw [List.getElem?_append_right (by omega), hd, cellsAll_get c hc r (fun d hd => h d (by simp [hd])) (k - c)]
      have e1 : k / c = (k - c) / c + 1 := by
        have := Nat.add_div_right (k - c) hc
        rw [show k - c + c = k by omega] at this; omega
      have e2 : k % c = (k - c) % c := by
        have := Nat.add_mod_right (k - c) c
        rw [show k - c + c = k by omega] at this; omega
      rw [e1, e2]; simp
theorem cellsAll_length (c : Nat) : ∀ (ds : List Dat), (∀ d ∈ ds, d.cells.length = c) → (Dat.cellsAll ds).length = ds.length * c
  | [], _ => by simp [Dat.cellsAll]
  | d :: r, h => by
    unfold Dat.cellsAll
    rw [List.length_append, h d (by simp), cellsAll_length c r (fun d hd => h d (by simp [hd])), List.length_cons, Nat.succ_mul]; omega

theorem datParts : ∀ (ts : List TypeId) (cs : List Value), cs.length = (ts.map P.cellsOf).sum →
    (∀ i t, ts[i]? = some t → ∃ d : Dat, d.cells = (cs.drop ((ts.take i).map P.cellsOf).sum).take (P.cellsOf t) ∧ d.In P w t) → ∃ ds, Dat.cellsAll ds = cs ∧ Dat.InEach P w ts ds
  | [], cs, hl, _ => by
    refine ⟨[], ?_, by simp [Dat.InEach]⟩
    have : cs = [] := List.eq_nil_of_length_eq_zero (by simpa using hl)
    rw [this]; rfl
  | t :: ts, cs, hl, h => by
    obtain ⟨d, hd, hi⟩ := h 0 t rfl
    simp only [List.map_cons, List.sum_cons] at hl
    obtain ⟨ds, e, he⟩ := datParts ts (cs.drop (P.cellsOf t)) (by rw [List.length_drop]; omega) (fun i u hu => by
      obtain ⟨d', hd', hi'⟩ := h (i + 1) u (by simpa using hu)
      refine ⟨d', ?_, hi'⟩
      rw [hd', List.drop_drop]; simp)
    refine ⟨d :: ds, ?_, by simp only [Dat.InEach]; exact ⟨hi, he⟩⟩
    simp only [Dat.cellsAll, hd, e]
    simp
theorem datAll (t : TypeId) : ∀ (n : Nat) (cs : List Value), cs.length = n * P.cellsOf t →
    (∀ i, i < n → ∃ d : Dat, d.cells = (cs.drop (i * P.cellsOf t)).take (P.cellsOf t) ∧ d.In P w t) → ∃ ds : List Dat, Dat.cellsAll ds = cs ∧ ds.length = n ∧ Dat.InAll P w t ds
  | 0, cs, hl, _ => by
    refine ⟨[], ?_, rfl, by simp [Dat.InAll]⟩
    have : cs = [] := List.eq_nil_of_length_eq_zero (by simpa using hl)
    rw [this]; rfl
  | n + 1, cs, hl, h => by
    obtain ⟨d, hd, hi⟩ := h 0 (by omega)
    rw [Nat.succ_mul] at hl
    obtain ⟨ds, e, hn, he⟩ := datAll t n (cs.drop (P.cellsOf t)) (by rw [List.length_drop]; omega) (fun i hu => by
      obtain ⟨d', hd', hi'⟩ := h (i + 1) (by omega)
      refine ⟨d', ?_, hi'⟩
      rw [hd', List.drop_drop, Nat.succ_mul, Nat.add_comm])
    refine ⟨d :: ds, ?_, by simp [hn], by simp only [Dat.InAll]; exact ⟨hi, he⟩⟩
    simp only [Dat.cellsAll, hd, e]
    simp
theorem inAll_iff {t : TypeId} : ∀ {ds : List Dat}, Dat.InAll P w t ds ↔ ∀ d ∈ ds, d.In P w t
  | [] => by simp [Dat.InAll]
  | d :: r => by simp only [Dat.InAll, List.mem_cons, forall_eq_or_imp, inAll_iff (ds := r)]

theorem weights_mem_all {H : Type} {t : TypeId} : ∀ {ds : List (DataW H)} {d : DataW H}, d ∈ ds → ∀ n ∈ d.weights P t, n ∈ DataW.weightsAll P t ds
  | d0 :: ds, d, hd, n, hn => by
    simp only [DataW.weightsAll, List.mem_append]
    rcases List.mem_cons.1 hd with rfl | hd
    · exact Or.inl hn
    · exact Or.inr (weights_mem_all hd n hn)
end

theorem listOf {α : Type} : ∀ (n : Nat) (p : Nat → α → Prop), (∀ i, i < n → ∃ x, p i x) → ∃ l : List α, l.length = n ∧ ∀ (i : Nat) (x : α), l[i]? = some x → p i x
  | 0, p, _ => ⟨[], rfl, fun i x h => by simp at h⟩
  | n + 1, p, h => by
    obtain ⟨l, hl, hp⟩ := listOf n p fun i hi => h i (by omega)
    obtain ⟨x, hx⟩ := h n (by omega)
    refine ⟨l ++ [x], by simp [hl], fun i y hy => ?_⟩
    rcases Nat.lt_or_ge i l.length with q | q
    · rw [List.getElem?_append_left q] at hy; exact hp i y hy
    · rw [List.getElem?_append_right q] at hy
      have : i - l.length = 0 := by
        rcases Nat.eq_zero_or_pos (i - l.length) with r | r
        · exact r
        · rw [List.getElem?_eq_none (by simp; omega)] at hy; cases hy
      rw [this] at hy
      simp at hy; subst hy
      rw [show i = n by omega]; exact hx

section
variable {H : Type} {enc : TypeId × Value → H} {P : Program} {w : World} {base : Nat} {spare : Nat → Bool} {held : Bool}
theorem datOf (hl : laidOutB P = true) : ∀ (n fuel : Nat) (t : TypeId) (cs : List Value) (x : DataW H × List MemPlace), datB P n t = true → DataW.trod enc P w base spare held fuel t cs = some x →
    (∀ m ∈ x.1.weights P t, m ≤ reachBytes) → ∃ d : Dat, d.cells = cs ∧ d.In P w t
  | 0, _, _, _, _, h, _, _ => by simp [datB] at h
  | n + 1, fuel, t, cs, x, h, hx, hw => by
    unfold datB at h
    simp only [Bool.and_eq_true, decide_eq_true_eq] at h
    obtain ⟨htl, h⟩ := h
    split at h
    · rename_i k hu
      obtain ⟨m, rfl, rfl, hwf⟩ := DataW.trod_int hu hx
      exact ⟨.int k m, rfl, hu, hwf⟩
    · rename_i hu
      obtain ⟨b, rfl, rfl⟩ := DataW.trod_bool hu hx
      exact ⟨.bool b, rfl, hu⟩
    · rename_i hu
      obtain ⟨b, rfl, rfl, _⟩ := DataW.trod_string hu hx
      refine ⟨.str b, rfl, hu, ?_⟩
      have := hw b.data.toList.length (by simp [DataW.weights])
      simpa using this
    · rename_i e hu
      rcases DataW.trod_slice hu hx with ⟨rfl, _⟩ | ⟨a, len, cap, elems, rest, f, _, rfl, rfl, _, hlc, hcap, hlen, hel, _, _⟩
      · refine ⟨.sl none 0 0 [], rfl, e, hu, rfl, Nat.le_refl _, by unfold maxLen; omega, by simp, ?_, by simp [Dat.InAll]⟩
        intro h0; simp [Dat.cellsAll] at h0
      · have key : ∀ i, i < len → ∃ d : Dat, w.cells? base (a.add (i * P.cellsOf e)) (P.cellsOf e) = some d.cells ∧ d.In P w e := fun i hi => by
          have := hel i hi
          rw [List.getElem?_eq_getElem (by omega)] at this
          obtain ⟨cs', h1, h2⟩ := Option.bind_eq_some_iff.1 this
          obtain ⟨d, hd, hdi⟩ := datOf hl n f e cs' _ h h2 (fun m hm => hw m (by
            simp only [DataW.weights, hu, List.mem_cons, List.mem_append]
            exact Or.inr (Or.inl (weights_mem_all (List.mem_map.2 ⟨elems[i], List.getElem_mem _, rfl⟩) m hm))))
          exact ⟨d, by rw [hd]; exact h1, hdi⟩
        obtain ⟨ds, hn, hds⟩ := listOf len _ key
        have hin : ∀ d ∈ ds, d.cells.length = P.cellsOf e ∧ d.In P w e := fun d hd => by
          obtain ⟨i, hi, rfl⟩ := List.getElem_of_mem hd
          obtain ⟨h1, h2⟩ := hds i _ (List.getElem?_eq_getElem hi)
          exact ⟨(World.cells?_some h1).2.1, h2⟩
        refine ⟨.sl (some a) len cap ds, rfl, e, hu, hn, hlc, hcap, ?_, ?_, inAll_iff.2 fun d hd => (hin d hd).2⟩
        · have := hw ((elems.length + rest.length) * P.bytesOf e) (by simp [DataW.weights, hu])
          rw [hlen] at this
          exact Nat.le_trans (Nat.mul_le_mul_right _ (by omega)) this
        · intro h0
          rcases Nat.eq_zero_or_pos (P.cellsOf e) with hc | hc
          · rw [cellsAll_length 0 ds (fun d hd => by rw [(hin d hd).1, hc])] at h0; simp at h0
          · have hcell : ∀ i u, (Dat.cellsAll ds)[i]? = some u → w.cell? (a.add i) = some u := fun i u hi => by
              rw [cellsAll_get (P.cellsOf e) hc ds (fun d hd => (hin d hd).1) i] at hi
              obtain ⟨d, hd, hu2⟩ := Option.bind_eq_some_iff.1 hi
              obtain ⟨h1, _⟩ := hds _ _ hd
              obtain ⟨_, h3, h4⟩ := World.cells?_some h1
              have := h4 (i % P.cellsOf e) (Nat.mod_lt _ hc)
              rw [Go.Deep.add_add, show i / P.cellsOf e * P.cellsOf e + i % P.cellsOf e = i by rw [Nat.mul_comm]; exact Nat.div_add_mod _ _] at this
              rw [this]; exact hu2
            obtain ⟨b, off, spot⟩ := a
            have c0 := hcell 0 _ (List.getElem?_eq_getElem h0)
            have hspot : spot = none := by simpa [Addr.add] using World.cell?_spot c0
            subst hspot
            refine ⟨rfl, World.block_lt_of_cell? w ⟨b, off, none⟩ (by simpa [Addr.add] using c0), fun i u hi => ?_⟩
            have := hcell i u hi
            rw [Go.WideShapes.add_plain] at this
            exact this
    · rename_i m e hu
      obtain ⟨xs, f, _, rfl, hcl, hxl, hxs⟩ := DataW.trod_array hu hx
      obtain ⟨_, hk⟩ := kid_array hl htl hu
      obtain ⟨ds, h1, h2, h3⟩ := datAll (P := P) (w := w) e m cs (by rw [hcl, hk]) (fun i hi => by
        have := hxs i hi
        rw [List.getElem?_eq_getElem (by omega)] at this
        exact datOf hl n f e _ _ h this (fun q hq => hw q (by
          simp only [DataW.weights, hu]
          exact weights_mem_all (List.mem_map.2 ⟨xs[i], List.getElem_mem _, rfl⟩) q hq)))
      exact ⟨.parts ds, h1, Or.inr ⟨m, e, hu, h2, h3⟩⟩
    · rename_i fs hu
      obtain ⟨xs, f, _, rfl, hcl, hxl, hxs⟩ := DataW.trod_struct hu hx
      obtain ⟨_, hk, hof⟩ := kid_struct hl htl hu
      obtain ⟨ds, h1, h2⟩ := datParts (P := P) (w := w) (fs.toList.map (·.type)) cs (by rw [hcl, hk, List.map_map]; rfl) (fun i t' hi => by
        rw [List.getElem?_map] at hi
        obtain ⟨fd, hf, rfl⟩ := Option.map_eq_some_iff.1 hi
        have hf' : fs[i]? = some fd := by simpa using hf
        have := hxs i fd hf'
        have hlt : i < fs.size := by
          rcases Nat.lt_or_ge i fs.size with q | q
          · exact q
          · rw [Array.getElem?_eq_none q] at hf'; cases hf'
        rw [List.getElem?_eq_getElem (by omega)] at this
        obtain ⟨d, hd, hdi⟩ := datOf hl n f fd.type _ _ (List.all_eq_true.1 h fd (List.mem_of_getElem? hf)) this (fun q hq => hw q (by
          simp only [DataW.weights, hu]
          exact DataW.weights_mem_each (by rw [List.getElem?_map]; exact hi) (by rw [List.getElem?_map, List.getElem?_eq_getElem (show i < xs.length by omega)]; rfl) q hq))
        refine ⟨d, ?_, hdi⟩
        rw [hd, hof i fd hf, ← List.map_take, List.map_map]; rfl)
      exact ⟨.parts ds, h1, Or.inl ⟨fs, hu, h2⟩⟩
    · cases h
end

section
variable {P : Program} {w : World} {t : TypeId} {d : Dat}
theorem in_int {k : IntKind} (hu : P.underlying t = some (.int k)) (h : d.In P w t) : ∃ n, d = .int k n ∧ (Lit.int k n).wf = true := by
  cases d with
  | int k' n =>
    simp only [Dat.In, hu, Option.some.injEq, TypeDesc.int.injEq] at h
    obtain ⟨rfl, h⟩ := h; exact ⟨n, rfl, h⟩
  | _ => simp [Dat.In, hu] at h
theorem in_slice {e : TypeId} (hu : P.underlying t = some (.slice e)) (h : d.In P w t) :
    ∃ a cap ds, d = .sl a ds.length cap ds ∧ ds.length ≤ cap ∧ cap ≤ maxLen ∧ ds.length * P.bytesOf e ≤ reachBytes ∧ Cells w a (Dat.cellsAll ds) ∧ ∀ x ∈ ds, x.In P w e := by
  cases d with
  | sl a len cap ds =>
    simp only [Dat.In, hu, Option.some.injEq, TypeDesc.slice.injEq] at h
    obtain ⟨_, rfl, rfl, h1, h2, h3, h4, h5⟩ := h
    exact ⟨a, cap, ds, rfl, h1, h2, h3, h4, inAll_iff.1 h5⟩
  | _ => simp [Dat.In, hu] at h
theorem in_struct {fs : Array Field} (hu : P.underlying t = some (.struct fs)) (h : d.In P w t) : ∃ ds, d = .parts ds ∧ Dat.InEach P w (fs.toList.map (·.type)) ds := by
  cases d with
  | parts ds =>
    simp only [Dat.In, hu, Option.some.injEq, TypeDesc.struct.injEq, reduceCtorEq, false_and, exists_false, or_false] at h
    obtain ⟨_, rfl, h⟩ := h
    exact ⟨ds, rfl, h⟩
  | _ => simp [Dat.In, hu] at h
theorem inEach_cons {ts : List TypeId} {ds : List Dat} (h : Dat.InEach P w (t :: ts) ds) : ∃ d r, ds = d :: r ∧ d.In P w t ∧ Dat.InEach P w ts r := by
  cases ds with
  | nil => simp [Dat.InEach] at h
  | cons d r => simp only [Dat.InEach] at h; exact ⟨d, r, rfl, h⟩
theorem inEach_nil {ds : List Dat} (h : Dat.InEach P w [] ds) : ds = [] := by
  cases ds with
  | nil => rfl
  | cons d r => simp [Dat.InEach] at h
theorem list_map_of {α : Type} (f : α → Dat) (p : α → Prop) : ∀ (ds : List Dat), (∀ d ∈ ds, ∃ x, d = f x ∧ p x) → ∃ xs : List α, ds = xs.map f ∧ ∀ x ∈ xs, p x
  | [], _ => ⟨[], rfl, by simp⟩
  | d :: r, h => by
    obtain ⟨x, rfl, hx⟩ := h d (by simp)
    obtain ⟨xs, rfl, hxs⟩ := list_map_of f p r (fun d hd => h d (by simp [hd]))
    exact ⟨x :: xs, rfl, by simpa using ⟨hx, hxs⟩⟩
end

section
variable {H : Type} {enc : TypeId × Value → H} {P : Program} {w : World} {base : Nat} {spare : Nat → Bool} {held : Bool}
theorem datArg (hl : laidOutB P = true) (n : Nat) {t : TypeId} {v : Value} {d : DataW H} {p : List MemPlace} (hb : datB P n t = true) (h : DataW.Trod enc P w base spare held t v d p) (hw : (d.weights P t).all (· ≤ reachBytes) = true) :
    ∃ x : Dat, x.cells = v.cells.toList ∧ x.In P w t := by
  obtain ⟨fuel, hf⟩ := h
  exact datOf hl n fuel t _ (d, p) hb hf (fun m hm => by simpa using List.all_eq_true.1 hw m hm)
theorem sized_arg {ts : List TypeId} {ds : List (DataW H)} {d : DataW H} (h : (DataW.weightsEach P ts ds).all (· ≤ reachBytes) = true) {j : Nat} {t : TypeId} (ht : ts[j]? = some t) (hd : ds[j]? = some d) : (d.weights P t).all (· ≤ reachBytes) = true :=
  List.all_eq_true.2 fun m hm => List.all_eq_true.1 h m (DataW.weights_mem_each ht hd m hm)
end

theorem row_cell {α : Type} {f : α → Dat} {c : Nat} {w : World} {a : Option Addr} {xs : List α} (h : Cells w a (Dat.cellsAll (xs.map f))) (hc : ∀ x, (f x).cells.length = c) {i : Nat} {x : α} (hi : xs[i]? = some x) {j : Nat} {u : Value} (hj : (f x).cells[j]? = some u) :
    PlainA a ∧ blk a < w.heap.size ∧ w.cell? ⟨blk a, ofs a + (i * c + j), none⟩ = some u := by
  have hj' : j < c := by
    rw [← hc x]
    rcases Nat.lt_or_ge j (f x).cells.length with q | q
    · exact q
    · rw [List.getElem?_eq_none q] at hj; cases hj
  have e : (Dat.cellsAll (xs.map f))[i * c + j]? = some u := by
    rw [cellsAll_get c (by omega) _ (fun d hd => by obtain ⟨y, _, rfl⟩ := List.mem_map.1 hd; exact hc y)]
    have e1 : (i * c + j) / c = i := by rw [Nat.mul_comm, Nat.mul_add_div (by omega), Nat.div_eq_of_lt hj']; omega
    have e2 : (i * c + j) % c = j := by rw [Nat.mul_comm, Nat.mul_add_mod, Nat.mod_eq_of_lt hj']
    rw [e1, e2, List.getElem?_map, hi]; exact hj
  have h0 : 0 < (Dat.cellsAll (xs.map f)).length := by
    rcases Nat.lt_or_ge (i * c + j) (Dat.cellsAll (xs.map f)).length with q | q
    · omega
    · rw [List.getElem?_eq_none q] at e; cases e
  obtain ⟨h1, h2, h3⟩ := h h0
  exact ⟨h1, h2, h3 _ _ e⟩
end Go.Syn

namespace Go.Eng
open Go.RowKit Go.Syn
set_option linter.unusedVariables false
set_option linter.unusedSimpArgs false
theorem cells_elt {α : Type} {f : α → Dat} {c : Nat} {w : World} {a : Option Addr} {xs : List α} (h : Cells w a (Dat.cellsAll (xs.map f))) (hc : ∀ x, (f x).cells.length = c) (h0 : 0 < c) {i : Nat} {x : α} (hi : xs[i]? = some x) :
    a.isSome = true ∧ ∀ (N : Nat → Prop), ¬ N ((a.getD ⟨0, 0, none⟩).block) → CellsAt w (.pointer (some (((a.getD ⟨0, 0, none⟩).add (i * c)).add 0))) (f x).cells N := by
  have h1 : ∃ u, (f x).cells[0]? = some u := ⟨_, List.getElem?_eq_getElem (by rw [hc]; exact h0)⟩
  obtain ⟨u, hu⟩ := h1
  obtain ⟨hp, hb, _⟩ := row_cell h hc hi hu
  cases a with
  | none => simp [PlainA] at hp
  | some ad =>
    refine ⟨rfl, fun N hN => ⟨_, rfl, ?_, fun j u hj => ?_⟩⟩
    · rw [add_add']
      have : (ad.add (i * c + 0)).block = ad.block := by unfold Addr.add; split <;> rfl
      show ¬ N (ad.add (i * c + 0)).block
      rw [this]; exact hN
    · obtain ⟨_, _, h3⟩ := row_cell h hc hi hj
      have e : ad = ⟨blk (some ad), ofs (some ad), none⟩ := Option.some.inj hp
      rw [add_add', add_add', show (some ad).getD (⟨0, 0, none⟩ : Addr) = ad from rfl, e, add_plain']
      rw [show i * c + (0 + j) = i * c + j by omega]
      exact h3
end Go.Eng

namespace Go.Eng
open Go.RowKit Go.Syn
set_option linter.unusedVariables false
set_option linter.unusedSimpArgs false
def PureAt (w : World) (V : Value) (e : Ending) (w' : World) : Prop := e = .returned V ∧ Below w.heap.size w w'
section
variable {P : Program} {w : World} {V : Value} {v : SV} {m : Mem} {ρ : Env} {pre : List Nat} {hx : HX} {L : Stack}
theorem pure_done (hv : ∀ ids, v.den ρ ids = V) : (Tree.done v m).holds ⟨P, w, fun _ => False, PureAt w V⟩ ρ pre hx L := fun ids w' hp hf => ⟨by rw [hv ids], hf.chg.below⟩
end
section
variable {P : Program} {W : World} {M : Nat → Prop} {R : Ending → World → Prop} {ρ : Env} {pre : List Nat} {hx : HX} {L : Stack} {f : Nat} {args : List SV} {m m' : Mem} {r : SV} {t : Tree}
theorem node_val (vs : Vals) {av : Array Value} {V : Value} (hcall : ∀ w, Calls P f av w (PureAt w V)) (hargs : ∀ ids, (args.map (SV.den ρ ids)).toArray = av) (hr : ∀ ids, r.den (ρ.add vs) ids = V) (hhp : m'.hp = m.hp) (hfit : hpFits m.c m.hp.length m.hp = true) (hc : (ρ.add vs).cnt = m'.c) (h1 : ∀ v, v ∈ vs.v → v.oneCell' = true)
    (h : t.holds ⟨P, W, M, R⟩ (ρ.add vs) pre hx L) : (Tree.call f args m r m' t).holds ⟨P, W, M, R⟩ ρ pre hx L :=
  node_pure vs hhp hfit hc h1 (fun ids w hp hf => by rw [hargs, hr]; exact hcall w) h
end
end Go.Eng
