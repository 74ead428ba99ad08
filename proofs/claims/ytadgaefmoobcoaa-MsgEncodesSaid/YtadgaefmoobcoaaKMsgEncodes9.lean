/- Part 9 of the texts of a proof about the given program: what the statement's proof needs of them. -/
import Derived.OpenShut
import Derived.SizedLaws
import Derived.ChangeBears
import Derived.Deep.Slices
import Derived.Test.YtadgaefmoobcoaaKMsgEncodes8
namespace Go.Syn
open Go.RowKit
set_option linter.unusedVariables false
set_option linter.unusedSimpArgs false

inductive Dat where
  | int (k : IntKind) (n : Int)
  | bool (b : Bool)
  | str (s : ByteArray)
  | parts (ds : List Dat)
  | sl (a : Option Addr) (len cap : Nat) (ds : List Dat)

mutual
def Dat.cells : Dat → List Value
  | .int k n => [.int k n]
  | .bool b => [.bool b]
  | .str s => [.string s]
  | .parts ds => Dat.cellsAll ds
  | .sl a len cap _ => [.slice a len cap]
def Dat.cellsAll : List Dat → List Value
  | [] => []
  | d :: r => d.cells ++ Dat.cellsAll r
end

mutual
def Dat.In (P : Program) (w : World) : TypeId → Dat → Prop
  | t, .int k n => P.underlying t = some (.int k) ∧ (Lit.int k n).wf = true
  | t, .bool b => P.underlying t = some .bool
  | t, .str s => P.underlying t = some .string ∧ s.size ≤ reachBytes
  | t, .parts ds => (∃ fs, P.underlying t = some (.struct fs) ∧ Dat.InEach P w (fs.toList.map (·.type)) ds) ∨ (∃ n e, P.underlying t = some (.array n e) ∧ ds.length = n ∧ Dat.InAll P w e ds)
  | t, .sl a len cap ds => ∃ e, P.underlying t = some (.slice e) ∧ ds.length = len ∧ len ≤ cap ∧ cap ≤ maxLen ∧ len * P.bytesOf e ≤ reachBytes ∧ Cells w a (Dat.cellsAll ds) ∧ Dat.InAll P w e ds
def Dat.InAll (P : Program) (w : World) : TypeId → List Dat → Prop
  | _, [] => True
  | t, d :: r => d.In P w t ∧ Dat.InAll P w t r
def Dat.InEach (P : Program) (w : World) : List TypeId → List Dat → Prop
  | [], [] => True
  | t :: ts, d :: r => d.In P w t ∧ Dat.InEach P w ts r
  | _, _ => False
end

def datB (P : Program) : Nat → TypeId → Bool
  | 0, _ => false
  | n + 1, t => decide (t < P.types.size) && match P.underlying t with
    | some (.int _) | some .bool | some .string => true
    | some (.slice e) => datB P n e
    | some (.array _ e) => datB P n e
    | some (.struct fs) => fs.toList.all fun f => datB P n f.type
    | _ => false

section
variable {P : Program} {w : World}
theorem cellsAll_get (c : Nat) (hc : 0 < c) : ∀ (ds : List Dat), (∀ d ∈ ds, d.cells.length = c) → ∀ k, (Dat.cellsAll ds)[k]? = (ds[k / c]?).bind fun d => d.cells[k % c]?
  | [], _, k => by simp [Dat.cellsAll]
  | d :: r, h, k => by
    have hd := h d (by simp)
    unfold Dat.cellsAll
    by_cases hk : k < c
    · rw [List.getElem?_append_left (by omega), Nat.div_eq_of_lt hk, Nat.mod_eq_of_lt hk]; simp
    · rw [List.getElem?_append_right (by omega), hd, cellsAll_get c hc r (fun d hd => h d (by simp [hd])) (k - c)]
      have e1 : k / c = (k - c) / c + 1 := by
        have := Nat.add_div_right (k - c) hc
        rw [show k - c + c = k by omega] at this; omega
      have e2 : k % c = (k - c) % c := by
        have := Nat.add_mod_right (k - c) c
        rw [show k - c + c = k by omega] at this; omega
      rw [e1, e2]; simp
theorem cellsAll_length (c : Nat) : ∀ (ds : List Dat), (∀ d ∈ ds, d.cells.length = c) → (Dat.cellsAll ds).length = ds.length * c
  | [], _ => by simp [Dat.cellsAll]
  | d :: r, h => by
    unfold Dat.cellsAll
    rw [List.length_append, h d (by simp), cellsAll_length c r (fun d hd => h d (by simp [hd])), List.length_cons, Nat.succ_mul]; omega

theorem datParts : ∀ (ts : List TypeId) (cs : List Value), cs.length = (ts.map P.cellsOf).sum →
    (∀ i t, ts[i]? = some t → ∃ d : Dat, d.cells = (cs.drop ((ts.take i).map P.cellsOf).sum).take (P.cellsOf t) ∧ d.In P w t) → ∃ ds, Dat.cellsAll ds = cs ∧ Dat.InEach P w ts ds
  | [], cs, hl, _ => by
    refine ⟨[], ?_, by simp [Dat.InEach]⟩
    have : cs = [] := List.eq_nil_of_length_eq_zero (by simpa using hl)
    rw [this]; rfl
  | t :: ts, cs, hl, h => by
    obtain ⟨d, hd, hi⟩ := h 0 t rfl
    simp only [List.map_cons, List.sum_cons] at hl
    obtain ⟨ds, e, he⟩ := datParts ts (cs.drop (P.cellsOf t)) (by rw [List.length_drop]; omega) (fun i u hu => by
      obtain ⟨d', hd', hi'⟩ := h (i + 1) u (by simpa using hu)
      refine ⟨d', ?_, hi'⟩
      rw [hd', List.drop_drop]; simp)
    refine ⟨d :: ds, ?_, by simp only [Dat.InEach]; exact ⟨hi, he⟩⟩
    simp only [Dat.cellsAll, hd, e]
    simp
theorem datAll (t : TypeId) : ∀ (n : Nat) (cs : List Value), cs.length = n * P.cellsOf t →
    (∀ i, i < n → ∃ d : Dat, d.cells = (cs.drop (i * P.cellsOf t)).take (P.cellsOf t) ∧ d.In P w t) → ∃ ds : List Dat, Dat.cellsAll ds = cs ∧ ds.length = n ∧ Dat.InAll P w t ds
  | 0, cs, hl, _ => by
    refine ⟨[], ?_, rfl, by simp [Dat.InAll]⟩
    have : cs = [] := List.eq_nil_of_length_eq_zero (by simpa using hl)
    rw [this]; rfl
  | n + 1, cs, hl, h => by
    obtain ⟨d, hd, hi⟩ := h 0 (by omega)
    rw [Nat.succ_mul] at hl
    obtain ⟨ds, e, hn, he⟩ := datAll t n (cs.drop (P.cellsOf t)) (by rw [List.length_drop]; omega) (fun i hu => by
      obtain ⟨d', hd', hi'⟩ := h (i + 1) (by omega)
      refine ⟨d', ?_, hi'⟩
      rw [hd', List.drop_drop, Nat.succ_mul, Nat.add_comm])
    refine ⟨d :: ds, ?_, by simp [hn], by simp only [Dat.InAll]; exact ⟨hi, he⟩⟩
    simp only [Dat.cellsAll, hd, e]
    simp
theorem inAll_iff {t : TypeId} : ∀ {ds : List Dat}, Dat.InAll P w t ds ↔ ∀ d ∈ ds, d.In P w t
  | [] => by simp [Dat.InAll]
  | d :: r => by simp only [Dat.InAll, List.mem_cons, forall_eq_or_imp, inAll_iff (ds := r)]

theorem weights_mem_all {H : Type} {t : TypeId} : ∀ {ds : List (DataW H)} {d : DataW H}, d ∈ ds → ∀ n ∈ d.weights P t, n ∈ DataW.weightsAll P t ds
  | d0 :: ds, d, hd, n, hn => by
    simp only [DataW.weightsAll, List.mem_append]
    rcases List.mem_cons.1 hd with rfl | hd
    · exact Or.inl hn
    · exact Or.inr (weights_mem_all hd n hn)
end

theorem listOf {α : Type} : ∀ (n : Nat) (p : Nat → α → Prop), (∀ i, i < n → ∃ x, p i x) → ∃ l : List α, l.length = n ∧ ∀ (i : Nat) (x : α), l[i]? = some x → p i x
  | 0, p, _ => ⟨[], rfl, fun i x h => by simp at h⟩
  | n + 1, p, h => by
    obtain ⟨l, hl, hp⟩ := listOf n p fun i hi => h i (by omega)
    obtain ⟨x, hx⟩ := h n (by omega)
    refine ⟨l ++ [x], by simp [hl], fun i y hy => ?_⟩
    rcases Nat.lt_or_ge i l.length with q | q
    · rw [List.getElem?_append_left q] at hy; exact hp i y hy
    · rw [List.getElem?_append_right q] at hy
      have : i - l.length = 0 := by
        rcases Nat.eq_zero_or_pos (i - l.length) with r | r
        · exact r
        · rw [List.getElem?_eq_none (by simp; omega)] at hy; cases hy
      rw [this] at hy
      simp at hy; subst hy
      rw [show i = n by omega]; exact hx

section
variable {H : Type} {enc : TypeId × Value → H} {P : Program} {w : World} {base : Nat} {spare : Nat → Bool} {held : Bool}
theorem datOf (hl : laidOutB P = true) : ∀ (n fuel : Nat) (t : TypeId) (cs : List Value) (x : DataW H × List MemPlace), datB P n t = true → DataW.trod enc P w base spare held fuel t cs = some x →
    (∀ m ∈ x.1.weights P t, m ≤ reachBytes) → ∃ d : Dat, d.cells = cs ∧ d.In P w t
  | 0, _, _, _, _, h, _, _ => by simp [datB] at h
  | n + 1, fuel, t, cs, x, h, hx, hw => by
    unfold datB at h
    simp only [Bool.and_eq_true, decide_eq_true_eq] at h
    obtain ⟨htl, h⟩ := h
    split at h
    · rename_i k hu
      obtain ⟨m, rfl, rfl, hwf⟩ := DataW.trod_int hu hx
      exact ⟨.int k m, rfl, hu, hwf⟩
    · rename_i hu
      obtain ⟨b, rfl, rfl⟩ := DataW.trod_bool hu hx
      exact ⟨.bool b, rfl, hu⟩
    · rename_i hu
      obtain ⟨b, rfl, rfl, _⟩ := DataW.trod_string hu hx
      refine ⟨.str b, rfl, hu, ?_⟩
      have := hw b.data.toList.length (by simp [DataW.weights])
      simpa using this
    · rename_i e hu
      rcases DataW.trod_slice hu hx with ⟨rfl, _⟩ | ⟨a, len, cap, elems, rest, f, _, rfl, rfl, _, hlc, hcap, hlen, hel, _, _⟩
      · refine ⟨.sl none 0 0 [], rfl, e, hu, rfl, Nat.le_refl _, by unfold maxLen; omega, by simp, ?_, by simp [Dat.InAll]⟩
        intro h0; simp [Dat.cellsAll] at h0
      · have key : ∀ i, i < len → ∃ d : Dat, w.cells? base (a.add (i * P.cellsOf e)) (P.cellsOf e) = some d.cells ∧ d.In P w e := fun i hi => by
          have := hel i hi
          rw [List.getElem?_eq_getElem (by omega)] at this
          obtain ⟨cs', h1, h2⟩ := Option.bind_eq_some_iff.1 this
          obtain ⟨d, hd, hdi⟩ := datOf hl n f e cs' _ h h2 (fun m hm => hw m (by
            simp only [DataW.weights, hu, List.mem_cons, List.mem_append]
            exact Or.inr (Or.inl (weights_mem_all (List.mem_map.2 ⟨elems[i], List.getElem_mem _, rfl⟩) m hm))))
          exact ⟨d, by rw [hd]; exact h1, hdi⟩
        obtain ⟨ds, hn, hds⟩ := listOf len _ key
        have hin : ∀ d ∈ ds, d.cells.length = P.cellsOf e ∧ d.In P w e := fun d hd => by
          obtain ⟨i, hi, rfl⟩ := List.getElem_of_mem hd
          obtain ⟨h1, h2⟩ := hds i _ (List.getElem?_eq_getElem hi)
          exact ⟨(World.cells?_some h1).2.1, h2⟩
        refine ⟨.sl (some a) len cap ds, rfl, e, hu, hn, hlc, hcap, ?_, ?_, inAll_iff.2 fun d hd => (hin d hd).2⟩
        · have := hw ((elems.length + rest.length) * P.bytesOf e) (by simp [DataW.weights, hu])
          rw [hlen] at this
          exact Nat.le_trans (Nat.mul_le_mul_right _ (by omega)) this
        · intro h0
          rcases Nat.eq_zero_or_pos (P.cellsOf e) with hc | hc
          · rw [cellsAll_length 0 ds (fun d hd => by rw [(hin d hd).1, hc])] at h0; simp at h0
          · have hcell : ∀ i u, (Dat.cellsAll ds)[i]? = some u → w.cell? (a.add i) = some u := fun i u hi => by
              rw [cellsAll_get (P.cellsOf e) hc ds (fun d hd => (hin d hd).1) i] at hi
              obtain ⟨d, hd, hu2⟩ := Option.bind_eq_some_iff.1 hi
              obtain ⟨h1, _⟩ := hds _ _ hd
              obtain ⟨_, h3, h4⟩ := World.cells?_some h1
              have := h4 (i % P.cellsOf e) (Nat.mod_lt _ hc)
              rw [Go.Deep.add_add, show i / P.cellsOf e * P.cellsOf e + i % P.cellsOf e = i by rw [Nat.mul_comm]; exact Nat.div_add_mod _ _] at this
              rw [this]; exact hu2
            obtain ⟨b, off, spot⟩ := a
            have c0 := hcell 0 _ (List.getElem?_eq_getElem h0)
            have hspot : spot = none := by simpa [Addr.add] using World.cell?_spot c0
            subst hspot
            refine ⟨rfl, World.block_lt_of_cell? w ⟨b, off, none⟩ (by simpa [Addr.add] using c0), fun i u hi => ?_⟩
            have := hcell i u hi
            rw [Go.WideShapes.add_plain] at this
            exact this
    · rename_i m e hu
      obtain ⟨xs, f, _, rfl, hcl, hxl, hxs⟩ := DataW.trod_array hu hx
      obtain ⟨_, hk⟩ := kid_array hl htl hu
      obtain ⟨ds, h1, h2, h3⟩ := datAll (P := P) (w := w) e m cs (by rw [hcl, hk]) (fun i hi => by
        have := hxs i hi
        rw [List.getElem?_eq_getElem (by omega)] at this
        exact datOf hl n f e _ _ h this (fun q hq => hw q (by
          simp only [DataW.weights, hu]
          exact weights_mem_all (List.mem_map.2 ⟨xs[i], List.getElem_mem _, rfl⟩) q hq)))
      exact ⟨.parts ds, h1, Or.inr ⟨m, e, hu, h2, h3⟩⟩
    · rename_i fs hu
      obtain ⟨xs, f, _, rfl, hcl, hxl, hxs⟩ := DataW.trod_struct hu hx
      obtain ⟨_, hk, hof⟩ := kid_struct hl htl hu
      obtain ⟨ds, h1, h2⟩ := datParts (P := P) (w := w) (fs.toList.map (·.type)) cs (by rw [hcl, hk, List.map_map]; rfl) (fun i t' hi => by
        rw [List.getElem?_map] at hi
        obtain ⟨fd, hf, rfl⟩ := Option.map_eq_some_iff.1 hi
        have hf' : fs[i]? = some fd := by simpa using hf
        have := hxs i fd hf'
        have hlt : i < fs.size := by
          rcases Nat.lt_or_ge i fs.size with q | q
          · exact q
          · rw [Array.getElem?_eq_none q] at hf'; cases hf'
        rw [List.getElem?_eq_getElem (by omega)] at this
        obtain ⟨d, hd, hdi⟩ := datOf hl n f fd.type _ _ (List.all_eq_true.1 h fd (List.mem_of_getElem? hf)) this (fun q hq => hw q (by
          simp only [DataW.weights, hu]
          exact DataW.weights_mem_each (by rw [List.getElem?_map]; exact hi) (by rw [List.getElem?_map, List.getElem?_eq_getElem (show i < xs.length by omega)]; rfl) q hq))
        refine ⟨d, ?_, hdi⟩
        rw [hd, hof i fd hf, ← List.map_take, List.map_map]; rfl)
      exact ⟨.parts ds, h1, Or.inl ⟨fs, hu, h2⟩⟩
    · cases h
end

section
variable {P : Program} {w : World} {t : TypeId} {d : Dat}
theorem in_int {k : IntKind} (hu : P.underlying t = some (.int k)) (h : d.In P w t) : ∃ n, d = .int k n ∧ (Lit.int k n).wf = true := by
  cases d with
  | int k' n =>
    simp only [Dat.In, hu, Option.some.injEq, TypeDesc.int.injEq] at h
    obtain ⟨rfl, h⟩ := h; exact ⟨n, rfl, h⟩
  | _ => simp [Dat.In, hu] at h
theorem in_slice {e : TypeId} (hu : P.underlying t = some (.slice e)) (h : d.In P w t) :
    ∃ a cap ds, d = .sl a ds.length cap ds ∧ ds.length ≤ cap ∧ cap ≤ maxLen ∧ ds.length * P.bytesOf e ≤ reachBytes ∧ Cells w a (Dat.cellsAll ds) ∧ ∀ x ∈ ds, x.In P w e := by
  cases d with
  | sl a len cap ds =>
    simp only [Dat.In, hu, Option.some.injEq, TypeDesc.slice.injEq] at h
    obtain ⟨_, rfl, rfl, h1, h2, h3, h4, h5⟩ := h
    exact ⟨a, cap, ds, rfl, h1, h2, h3, h4, inAll_iff.1 h5⟩
  | _ => simp [Dat.In, hu] at h
theorem in_struct {fs : Array Field} (hu : P.underlying t = some (.struct fs)) (h : d.In P w t) : ∃ ds, d = .parts ds ∧ Dat.InEach P w (fs.toList.map (·.type)) ds := by
  cases d with
  | parts ds =>
    simp only [Dat.In, hu, Option.some.injEq, TypeDesc.struct.injEq, reduceCtorEq, false_and, exists_false, or_false] at h
    obtain ⟨_, rfl, h⟩ := h
    exact ⟨ds, rfl, h⟩
  | _ => simp [Dat.In, hu] at h
theorem inEach_cons {ts : List TypeId} {ds : List Dat} (h : Dat.InEach P w (t :: ts) ds) : ∃ d r, ds = d :: r ∧ d.In P w t ∧ Dat.InEach P w ts r := by
  cases ds with
  | nil => simp [Dat.InEach] at h
  | cons d r => simp only [Dat.InEach] at h; exact ⟨d, r, rfl, h⟩
theorem inEach_nil {ds : List Dat} (h : Dat.InEach P w [] ds) : ds = [] := by
  cases ds with
  | nil => rfl
  | cons d r => simp [Dat.InEach] at h
theorem list_map_of {α : Type} (f : α → Dat) (p : α → Prop) : ∀ (ds : List Dat), (∀ d ∈ ds, ∃ x, d = f x ∧ p x) → ∃ xs : List α, ds = xs.map f ∧ ∀ x ∈ xs, p x
  | [], _ => ⟨[], rfl, by simp⟩
  | d :: r, h => by
    obtain ⟨x, rfl, hx⟩ := h d (by simp)
    obtain ⟨xs, rfl, hxs⟩ := list_map_of f p r (fun d hd => h d (by simp [hd]))
    exact ⟨x :: xs, rfl, by simpa using ⟨hx, hxs⟩⟩
end

section
variable {H : Type} {enc : TypeId × Value → H} {P : Program} {w : World} {base : Nat} {spare : Nat → Bool} {held : Bool}
theorem datArg (hl : laidOutB P = true) (n : Nat) {t : TypeId} {v : Value} {d : DataW H} {p : List MemPlace} (hb : datB P n t = true) (h : DataW.Trod enc P w base spare held t v d p) (hw : (d.weights P t).all (· ≤ reachBytes) = true) :
    ∃ x : Dat, x.cells = v.cells.toList ∧ x.In P w t := by
  obtain ⟨fuel, hf⟩ := h
  exact datOf hl n fuel t _ (d, p) hb hf (fun m hm => by simpa using List.all_eq_true.1 hw m hm)
theorem sized_arg {ts : List TypeId} {ds : List (DataW H)} {d : DataW H} (h : (DataW.weightsEach P ts ds).all (· ≤ reachBytes) = true) {j : Nat} {t : TypeId} (ht : ts[j]? = some t) (hd : ds[j]? = some d) : (d.weights P t).all (· ≤ reachBytes) = true :=
  List.all_eq_true.2 fun m hm => List.all_eq_true.1 h m (DataW.weights_mem_each ht hd m hm)
end

theorem row_cell {α : Type} {f : α → Dat} {c : Nat} {w : World} {a : Option Addr} {xs : List α} (h : Cells w a (Dat.cellsAll (xs.map f))) (hc : ∀ x, (f x).cells.length = c) {i : Nat} {x : α} (hi : xs[i]? = some x) {j : Nat} {u : Value} (hj : (f x).cells[j]? = some u) :
    PlainA a ∧ blk a < w.heap.size ∧ w.cell? ⟨blk a, ofs a + (i * c + j), none⟩ = some u := by
  have hj' : j < c := by
    rw [← hc x]
    rcases Nat.lt_or_ge j (f x).cells.length with q | q
    · exact q
    · rw [List.getElem?_eq_none q] at hj; cases hj
  have e : (Dat.cellsAll (xs.map f))[i * c + j]? = some u := by
    rw [cellsAll_get c (by omega) _ (fun d hd => by obtain ⟨y, _, rfl⟩ := List.mem_map.1 hd; exact hc y)]
    have e1 : (i * c + j) / c = i := by rw [Nat.mul_comm, Nat.mul_add_div (by omega), Nat.div_eq_of_lt hj']; omega
    have e2 : (i * c + j) % c = j := by rw [Nat.mul_comm, Nat.mul_add_mod, Nat.mod_eq_of_lt hj']
    rw [e1, e2, List.getElem?_map, hi]; exact hj
  have h0 : 0 < (Dat.cellsAll (xs.map f)).length := by
    rcases Nat.lt_or_ge (i * c + j) (Dat.cellsAll (xs.map f)).length with q | q
    · omega
    · rw [List.getElem?_eq_none q] at e; cases e
  obtain ⟨h1, h2, h3⟩ := h h0
  exact ⟨h1, h2, h3 _ _ e⟩
end Go.Syn

namespace Go.Proofs.Ytadgaefmoobcoaa
open Go.Eng
set_option maxRecDepth 100000
abbrev tBytes7b0 : List LV := [(tVi 0), (tVi 1), (tVi 2), (tVi 3), (tVi 4), (tVi 5), (tVi 6), (tVi 7), (tVi 8), (tVi 9), (tSl 0 0 1), (tSl 1 2 3), (tSl 2 4 5), (tVi 10), (tVi 11), (tVi 12), (tVi 13), (tVi 14), (tVi 15), (tVi 16), (tVi 17), (tVi 18), (tVi 19), (tVi 20), (tSl 3 6 7)]
abbrev tBytes7b1 : List LV := [(tVi 23), (tVi 24), (tVi 25), (tVi 26), (tSl 14 28 29), (tSl 15 30 31)]
abbrev tBytes7m0 : Mem := ⟨[(37, tBytes7b0), (59, tBytes7b1)], ⟨27, 0, 1, 34, 17⟩⟩
abbrev tBytes7m1 : Mem := ⟨[(37, tBytes7b0), (59, tBytes7b1)], ⟨27, 0, 1, 36, 18⟩⟩
abbrev tBytes7m2 : Mem := ⟨[(37, tBytes7b0), (59, tBytes7b1)], ⟨27, 0, 1, 38, 19⟩⟩
abbrev tBytes7m3 : Mem := ⟨[(37, tBytes7b0), (59, tBytes7b1)], ⟨27, 0, 1, 40, 20⟩⟩
abbrev tBytes7m4 : Mem := ⟨[(37, tBytes7b0), (59, tBytes7b1)], ⟨27, 0, 1, 42, 21⟩⟩
abbrev tBytes7m5 : Mem := ⟨[(37, tBytes7b0), (59, tBytes7b1)], ⟨27, 0, 1, 44, 22⟩⟩
abbrev tBytes7m6 : Mem := ⟨[(37, tBytes7b0), (59, tBytes7b1)], ⟨27, 0, 1, 46, 23⟩⟩
abbrev tBytes7m7 : Mem := ⟨[(37, tBytes7b0), (59, tBytes7b1)], ⟨27, 0, 1, 48, 24⟩⟩
set_option maxRecDepth 100000 in
theorem tBytes7 : (runF ⟨tt, fns, { lits := true, joins := [(5, ⟨[(4, .sl)], []⟩), (7, ⟨[(4, .sl)], []⟩), (9, ⟨[(4, .sl)], []⟩), (11, ⟨[(4, .sl)], []⟩), (19, ⟨[(5, .sl)], []⟩), (21, ⟨[(5, .sl)], []⟩), (32, ⟨[(5, .sl)], []⟩), (36, ⟨[(5, .sl)], []⟩), (38, ⟨[(5, .sl)], []⟩)], loops := [(13, ⟨[(5, .sl), (56, .int .i64)], []⟩), (22, ⟨[(5, .sl), (87, .int .i64)], []⟩)], cur := [8] }⟩ (Try.f19.body.getD .skip) Try.f19.results.toList (entry Try.f19.ntmps [.agg [.int .i64 (.var 0), .int .i64 (.var 1), .int .i64 (.var 2), .int .i64 (.var 3), .int .i64 (.var 4), .int .i64 (.var 5), .int .i64 (.var 6), .int .i64 (.var 7), .int .i64 (.var 8), .int .i64 (.var 9), .sl 0 (.var 0) (.var 1), .sl 1 (.var 2) (.var 3), .sl 2 (.var 4) (.var 5), .int .i64 (.var 10), .int .i64 (.var 11), .int .i64 (.var 12), .int .i64 (.var 13), .int .i64 (.var 14), .int .i64 (.var 15), .int .i64 (.var 16), .int .i64 (.var 17), .int .i64 (.var 18), .int .i64 (.var 19), .int .i64 (.var 20), .sl 3 (.var 6) (.var 7)]] [] ⟨21, 0, 0, 8, 4⟩)) =
  (.call 23 [(.lf (tVi 0))] ⟨[(37, tBytes7b0)], ⟨21, 0, 0, 8, 4⟩⟩ (.lf (.val 0)) ⟨[(37, tBytes7b0)], ⟨21, 0, 1, 8, 4⟩⟩ (.gen (.buildSlice 25 4 #[(0, (.tmp 13)), (1, (.tmp 15)), (2, (.tmp 17)), (3, (.tmp 19))]) 25 [(13, (.lf (tVi 0))), (15, (.lf (tVi 1))), (17, (.lf (tVi 2))), (19, (.lf (tVi 3)))] ⟨[(37, tBytes7b0)], ⟨21, 0, 1, 8, 4⟩⟩ (.some (.lf (tSl 4 8 9))) ⟨[(37, tBytes7b0)], ⟨21, 0, 1, 10, 5⟩⟩ (.join 5 ⟨[(37, tBytes7b0)], ⟨21, 0, 1, 10, 5⟩⟩ ⟨[(37, tBytes7b0)], ⟨21, 0, 1, 12, 6⟩⟩ (.call 35 [(.lf (.val 0)), (.lf (.int .u8 (.lit 98)))] ⟨[(37, tBytes7b0)], ⟨21, 0, 1, 10, 5⟩⟩ (.lf (.bool (.var 0))) ⟨[(37, tBytes7b0)], ⟨21, 1, 1, 10, 5⟩⟩ (.br (.var 0) (.gen (.buildSlice 25 2 #[(0, (.tmp 26)), (1, (.tmp 29))]) 25 [(26, (.lf (tVi 4))), (29, (.lf (tVi 5)))] ⟨[(37, tBytes7b0)], ⟨21, 1, 1, 10, 5⟩⟩ (.some (.lf (tSl 5 10 11))) ⟨[(37, tBytes7b0)], ⟨21, 1, 1, 12, 6⟩⟩ (.gen (.call ⟨(.builtin .append), #[(.tmp 23), (.tmp 30)], #[25, 25]⟩) 25 [(23, (.lf (tSl 4 8 9))), (30, (.lf (tSl 5 10 11)))] ⟨[(37, tBytes7b0)], ⟨21, 1, 1, 12, 6⟩⟩ (.some (.lf (tSl 6 12 13))) ⟨[(37, tBytes7b0)], ⟨21, 1, 1, 14, 7⟩⟩ (.again 5 ⟨[], [], [], [(.var 12), (.var 13)], [(.var 6)]⟩ ⟨[(37, tBytes7b0)], ⟨21, 1, 1, 14, 7⟩⟩))) (.again 5 ⟨[], [], [], [(.var 8), (.var 9)], [(.var 4)]⟩ ⟨[(37, tBytes7b0)], ⟨21, 1, 1, 10, 5⟩⟩))) (.join 7 ⟨[(37, tBytes7b0)], ⟨21, 0, 1, 12, 6⟩⟩ ⟨[(37, tBytes7b0)], ⟨21, 0, 1, 14, 7⟩⟩ (.call 35 [(.lf (.val 0)), (.lf (.int .u8 (.lit 115)))] ⟨[(37, tBytes7b0)], ⟨21, 0, 1, 12, 6⟩⟩ (.lf (.bool (.var 0))) ⟨[(37, tBytes7b0)], ⟨21, 1, 1, 12, 6⟩⟩ (.br (.var 0) (.gen (.buildSlice 25 1 #[(0, (.tmp 36))]) 25 [(36, (.lf (tVi 6)))] ⟨[(37, tBytes7b0)], ⟨21, 1, 1, 12, 6⟩⟩ (.some (.lf (tSl 6 12 13))) ⟨[(37, tBytes7b0)], ⟨21, 1, 1, 14, 7⟩⟩ (.gen (.call ⟨(.builtin .append), #[(.tmp 34), (.tmp 37)], #[25, 25]⟩) 25 [(34, (.lf (tSl 5 10 11))), (37, (.lf (tSl 6 12 13)))] ⟨[(37, tBytes7b0)], ⟨21, 1, 1, 14, 7⟩⟩ (.some (.lf (tSl 7 14 15))) ⟨[(37, tBytes7b0)], ⟨21, 1, 1, 16, 8⟩⟩ (.again 7 ⟨[], [], [], [(.var 14), (.var 15)], [(.var 7)]⟩ ⟨[(37, tBytes7b0)], ⟨21, 1, 1, 16, 8⟩⟩))) (.again 7 ⟨[], [], [], [(.var 10), (.var 11)], [(.var 5)]⟩ ⟨[(37, tBytes7b0)], ⟨21, 1, 1, 12, 6⟩⟩))) (.join 9 ⟨[(37, tBytes7b0)], ⟨21, 0, 1, 14, 7⟩⟩ ⟨[(37, tBytes7b0)], ⟨21, 0, 1, 16, 8⟩⟩ (.call 35 [(.lf (.val 0)), (.lf (.int .u8 (.lit 108)))] ⟨[(37, tBytes7b0)], ⟨21, 0, 1, 14, 7⟩⟩ (.lf (.bool (.var 0))) ⟨[(37, tBytes7b0)], ⟨21, 1, 1, 14, 7⟩⟩ (.br (.var 0) (.gen (.buildSlice 25 1 #[(0, (.tmp 43))]) 25 [(43, (.lf (tVi 7)))] ⟨[(37, tBytes7b0)], ⟨21, 1, 1, 14, 7⟩⟩ (.some (.lf (tSl 7 14 15))) ⟨[(37, tBytes7b0)], ⟨21, 1, 1, 16, 8⟩⟩ (.gen (.call ⟨(.builtin .append), #[(.tmp 41), (.tmp 44)], #[25, 25]⟩) 25 [(41, (.lf (tSl 6 12 13))), (44, (.lf (tSl 7 14 15)))] ⟨[(37, tBytes7b0)], ⟨21, 1, 1, 16, 8⟩⟩ (.some (.lf (tSl 8 16 17))) ⟨[(37, tBytes7b0)], ⟨21, 1, 1, 18, 9⟩⟩ (.again 9 ⟨[], [], [], [(.var 16), (.var 17)], [(.var 8)]⟩ ⟨[(37, tBytes7b0)], ⟨21, 1, 1, 18, 9⟩⟩))) (.again 9 ⟨[], [], [], [(.var 12), (.var 13)], [(.var 6)]⟩ ⟨[(37, tBytes7b0)], ⟨21, 1, 1, 14, 7⟩⟩))) (.join 11 ⟨[(37, tBytes7b0)], ⟨21, 0, 1, 16, 8⟩⟩ ⟨[(37, tBytes7b0)], ⟨21, 0, 1, 18, 9⟩⟩ (.call 35 [(.lf (.val 0)), (.lf (.int .u8 (.lit 116)))] ⟨[(37, tBytes7b0)], ⟨21, 0, 1, 16, 8⟩⟩ (.lf (.bool (.var 0))) ⟨[(37, tBytes7b0)], ⟨21, 1, 1, 16, 8⟩⟩ (.br (.var 0) (.gen (.buildSlice 25 1 #[(0, (.tmp 50))]) 25 [(50, (.lf (tVi 8)))] ⟨[(37, tBytes7b0)], ⟨21, 1, 1, 16, 8⟩⟩ (.some (.lf (tSl 8 16 17))) ⟨[(37, tBytes7b0)], ⟨21, 1, 1, 18, 9⟩⟩ (.gen (.call ⟨(.builtin .append), #[(.tmp 48), (.tmp 51)], #[25, 25]⟩) 25 [(48, (.lf (tSl 7 14 15))), (51, (.lf (tSl 8 16 17)))] ⟨[(37, tBytes7b0)], ⟨21, 1, 1, 18, 9⟩⟩ (.some (.lf (tSl 9 18 19))) ⟨[(37, tBytes7b0)], ⟨21, 1, 1, 20, 10⟩⟩ (.again 11 ⟨[], [], [], [(.var 18), (.var 19)], [(.var 9)]⟩ ⟨[(37, tBytes7b0)], ⟨21, 1, 1, 20, 10⟩⟩))) (.again 11 ⟨[], [], [], [(.var 14), (.var 15)], [(.var 7)]⟩ ⟨[(37, tBytes7b0)], ⟨21, 1, 1, 16, 8⟩⟩))) (.gen (.buildSlice 35 0 #[]) 35 [] ⟨[(37, tBytes7b0)], ⟨21, 0, 1, 18, 9⟩⟩ (.some (.lf (tSl 9 18 19))) ⟨[(37, tBytes7b0)], ⟨21, 0, 1, 20, 10⟩⟩ (.loop 13 ⟨[(.lit 0)], [], [], [(.var 18), (.var 19)], [(.var 9)]⟩ ⟨[(37, tBytes7b0)], ⟨21, 0, 1, 20, 10⟩⟩ ⟨[(37, tBytes7b0)], ⟨22, 0, 1, 22, 11⟩⟩ (.br (.cmp .lss (.var 21) (.nat 16)) (.need (.inb 8 (.var 21) (.nat 16)) (.ld .true (.adr 8 (.var 21) 1 0) [(tVi 22)] ⟨[(37, tBytes7b0)], ⟨22, 0, 1, 22, 11⟩⟩ ⟨[(37, tBytes7b0)], ⟨23, 0, 1, 22, 11⟩⟩ (.call 50 [(.lf (.int .u64 (.conv .u64 (.var 22))))] ⟨[(37, tBytes7b0)], ⟨23, 0, 1, 22, 11⟩⟩ (.lf (tSl 11 22 23)) ⟨[(37, tBytes7b0)], ⟨23, 0, 1, 24, 12⟩⟩ (.gen (.call ⟨(.builtin .append), #[(.tmp 59), (.tmp 65)], #[35, 35]⟩) 35 [(59, (.lf (tSl 10 20 21))), (65, (.lf (tSl 11 22 23)))] ⟨[(37, tBytes7b0)], ⟨23, 0, 1, 24, 12⟩⟩ (.some (.lf (tSl 12 24 25))) ⟨[(37, tBytes7b0)], ⟨23, 0, 1, 26, 13⟩⟩ (.again 13 ⟨[(.op .add .i64 (.var 21) (.lit 1))], [], [], [(.var 24), (.var 25)], [(.var 12)]⟩ ⟨[(37, tBytes7b0)], ⟨23, 0, 1, 26, 13⟩⟩))))) (.join 19 ⟨[(37, tBytes7b0)], ⟨22, 0, 1, 22, 11⟩⟩ ⟨[(37, tBytes7b0)], ⟨22, 0, 1, 24, 12⟩⟩ (.call 35 [(.lf (.val 0)), (.lf (.int .u8 (.lit 118)))] ⟨[(37, tBytes7b0)], ⟨22, 0, 1, 22, 11⟩⟩ (.lf (.bool (.var 0))) ⟨[(37, tBytes7b0)], ⟨22, 1, 1, 22, 11⟩⟩ (.br (.var 0) (.call 51 [(.agg [(tVi 9), (tSl 0 0 1), (tSl 1 2 3)])] ⟨[(37, tBytes7b0)], ⟨22, 1, 1, 22, 11⟩⟩ (.lf (tSl 11 22 23)) ⟨[(37, tBytes7b0)], ⟨22, 1, 1, 24, 12⟩⟩ (.gen (.call ⟨(.builtin .append), #[(.tmp 70), (.tmp 73)], #[35, 35]⟩) 35 [(70, (.lf (tSl 10 20 21))), (73, (.lf (tSl 11 22 23)))] ⟨[(37, tBytes7b0)], ⟨22, 1, 1, 24, 12⟩⟩ (.some (.lf (tSl 12 24 25))) ⟨[(37, tBytes7b0)], ⟨22, 1, 1, 26, 13⟩⟩ (.again 19 ⟨[], [], [], [(.var 24), (.var 25)], [(.var 12)]⟩ ⟨[(37, tBytes7b0)], ⟨22, 1, 1, 26, 13⟩⟩))) (.again 19 ⟨[], [], [], [(.var 20), (.var 21)], [(.var 10)]⟩ ⟨[(37, tBytes7b0)], ⟨22, 1, 1, 22, 11⟩⟩))) (.join 21 ⟨[(37, tBytes7b0)], ⟨22, 0, 1, 24, 12⟩⟩ ⟨[(37, tBytes7b0)], ⟨22, 0, 1, 26, 13⟩⟩ (.call 35 [(.lf (.val 0)), (.lf (.int .u8 (.lit 111)))] ⟨[(37, tBytes7b0)], ⟨22, 0, 1, 24, 12⟩⟩ (.lf (.bool (.var 0))) ⟨[(37, tBytes7b0)], ⟨22, 1, 1, 24, 12⟩⟩ (.br (.var 0) (.call 50 [(.lf (.int .u64 (.conv .u64 (.nat 4))))] ⟨[(37, tBytes7b0)], ⟨22, 1, 1, 24, 12⟩⟩ (.lf (tSl 12 24 25)) ⟨[(37, tBytes7b0)], ⟨22, 1, 1, 26, 13⟩⟩ (.gen (.call ⟨(.builtin .append), #[(.tmp 77), (.tmp 82)], #[35, 35]⟩) 35 [(77, (.lf (tSl 11 22 23))), (82, (.lf (tSl 12 24 25)))] ⟨[(37, tBytes7b0)], ⟨22, 1, 1, 26, 13⟩⟩ (.some (.lf (tSl 13 26 27))) ⟨[(37, tBytes7b0)], ⟨22, 1, 1, 28, 14⟩⟩ (.again 21 ⟨[], [], [], [(.var 26), (.var 27)], [(.var 13)]⟩ ⟨[(37, tBytes7b0)], ⟨22, 1, 1, 28, 14⟩⟩))) (.again 21 ⟨[], [], [], [(.var 22), (.var 23)], [(.var 11)]⟩ ⟨[(37, tBytes7b0)], ⟨22, 1, 1, 24, 12⟩⟩))) (.loop 22 ⟨[(.lit 0)], [], [], [(.var 24), (.var 25)], [(.var 12)]⟩ ⟨[(37, tBytes7b0)], ⟨22, 0, 1, 26, 13⟩⟩ ⟨[(37, tBytes7b0)], ⟨23, 0, 1, 28, 14⟩⟩ (.br (.cmp .lss (.var 22) (.nat 4)) (.need (.inb 2 (.var 22) (.nat 4)) (.ld .false (.adr 2 (.var 22) 6 0) tBytes7b1 ⟨[(37, tBytes7b0)], ⟨23, 0, 1, 28, 14⟩⟩ ⟨[(37, tBytes7b0)], ⟨27, 0, 1, 32, 16⟩⟩ (.call 50 [(.lf (.int .u64 (.conv .u64 (.var 23))))] ⟨[(37, tBytes7b0), (59, tBytes7b1)], ⟨27, 0, 1, 32, 16⟩⟩ (.lf (tSl 16 32 33)) tBytes7m0 (.gen (.call ⟨(.builtin .append), #[(.tmp 95), (.tmp 99)], #[35, 35]⟩) 35 [(95, (.lf (tSl 13 26 27))), (99, (.lf (tSl 16 32 33)))] tBytes7m0 (.some (.lf (tSl 17 34 35))) tBytes7m1 (.call 50 [(.lf (.int .u64 (.conv .u64 (.var 24))))] tBytes7m1 (.lf (tSl 18 36 37)) tBytes7m2 (.gen (.call ⟨(.builtin .append), #[(.tmp 101), (.tmp 106)], #[35, 35]⟩) 35 [(101, (.lf (tSl 17 34 35))), (106, (.lf (tSl 18 36 37)))] tBytes7m2 (.some (.lf (tSl 19 38 39))) tBytes7m3 (.call 50 [(.lf (.int .u64 (.conv .u64 (.var 25))))] tBytes7m3 (.lf (tSl 20 40 41)) tBytes7m4 (.gen (.call ⟨(.builtin .append), #[(.tmp 108), (.tmp 113)], #[35, 35]⟩) 35 [(108, (.lf (tSl 19 38 39))), (113, (.lf (tSl 20 40 41)))] tBytes7m4 (.some (.lf (tSl 21 42 43))) tBytes7m5 (.call 51 [(.agg [(tVi 26), (tSl 14 28 29), (tSl 15 30 31)])] tBytes7m5 (.lf (tSl 22 44 45)) tBytes7m6 (.gen (.call ⟨(.builtin .append), #[(.tmp 115), (.tmp 118)], #[35, 35]⟩) 35 [(115, (.lf (tSl 21 42 43))), (118, (.lf (tSl 22 44 45)))] tBytes7m6 (.some (.lf (tSl 23 46 47))) tBytes7m7 (.again 22 ⟨[(.op .add .i64 (.var 22) (.lit 1))], [], [], [(.var 46), (.var 47)], [(.var 23)]⟩ tBytes7m7))))))))))) (.join 32 ⟨[(37, tBytes7b0)], ⟨23, 0, 1, 28, 14⟩⟩ ⟨[(37, tBytes7b0)], ⟨23, 0, 1, 30, 15⟩⟩ (.call 35 [(.lf (.val 0)), (.lf (.int .u8 (.lit 99)))] ⟨[(37, tBytes7b0)], ⟨23, 0, 1, 28, 14⟩⟩ (.lf (.bool (.var 0))) ⟨[(37, tBytes7b0)], ⟨23, 1, 1, 28, 14⟩⟩ (.br (.var 0) (.call 52 [(.agg [(tVi 10), (tVi 11), (tVi 12), (tVi 13), (tVi 14), (tVi 15), (tVi 16), (tVi 17)])] ⟨[(37, tBytes7b0)], ⟨23, 1, 1, 28, 14⟩⟩ (.lf (tSl 14 28 29)) ⟨[(37, tBytes7b0)], ⟨23, 1, 1, 30, 15⟩⟩ (.gen (.call ⟨(.builtin .append), #[(.tmp 123), (.tmp 126)], #[35, 35]⟩) 35 [(123, (.lf (tSl 13 26 27))), (126, (.lf (tSl 14 28 29)))] ⟨[(37, tBytes7b0)], ⟨23, 1, 1, 30, 15⟩⟩ (.some (.lf (tSl 15 30 31))) ⟨[(37, tBytes7b0)], ⟨23, 1, 1, 32, 16⟩⟩ (.again 32 ⟨[], [], [], [(.var 30), (.var 31)], [(.var 15)]⟩ ⟨[(37, tBytes7b0)], ⟨23, 1, 1, 32, 16⟩⟩))) (.again 32 ⟨[], [], [], [(.var 26), (.var 27)], [(.var 13)]⟩ ⟨[(37, tBytes7b0)], ⟨23, 1, 1, 28, 14⟩⟩))) (.join 36 ⟨[(37, tBytes7b0)], ⟨23, 0, 1, 30, 15⟩⟩ ⟨[(37, tBytes7b0)], ⟨23, 0, 1, 32, 16⟩⟩ (.call 35 [(.lf (.val 0)), (.lf (.int .u8 (.lit 114)))] ⟨[(37, tBytes7b0)], ⟨23, 0, 1, 30, 15⟩⟩ (.lf (.bool (.var 0))) ⟨[(37, tBytes7b0)], ⟨23, 1, 1, 30, 15⟩⟩ (.br (.var 0) (.call 53 [(.lf (tVi 18))] ⟨[(37, tBytes7b0)], ⟨23, 1, 1, 30, 15⟩⟩ (.lf (tSl 15 30 31)) ⟨[(37, tBytes7b0)], ⟨23, 1, 1, 32, 16⟩⟩ (.gen (.call ⟨(.builtin .append), #[(.tmp 130), (.tmp 134)], #[35, 35]⟩) 35 [(130, (.lf (tSl 14 28 29))), (134, (.lf (tSl 15 30 31)))] ⟨[(37, tBytes7b0)], ⟨23, 1, 1, 32, 16⟩⟩ (.some (.lf (tSl 16 32 33))) ⟨[(37, tBytes7b0)], ⟨23, 1, 1, 34, 17⟩⟩ (.call 53 [(.lf (tVi 19))] ⟨[(37, tBytes7b0)], ⟨23, 1, 1, 34, 17⟩⟩ (.lf (tSl 17 34 35)) ⟨[(37, tBytes7b0)], ⟨23, 1, 1, 36, 18⟩⟩ (.gen (.call ⟨(.builtin .append), #[(.tmp 136), (.tmp 140)], #[35, 35]⟩) 35 [(136, (.lf (tSl 16 32 33))), (140, (.lf (tSl 17 34 35)))] ⟨[(37, tBytes7b0)], ⟨23, 1, 1, 36, 18⟩⟩ (.some (.lf (tSl 18 36 37))) ⟨[(37, tBytes7b0)], ⟨23, 1, 1, 38, 19⟩⟩ (.call 53 [(.lf (tVi 20))] ⟨[(37, tBytes7b0)], ⟨23, 1, 1, 38, 19⟩⟩ (.lf (tSl 19 38 39)) ⟨[(37, tBytes7b0)], ⟨23, 1, 1, 40, 20⟩⟩ (.gen (.call ⟨(.builtin .append), #[(.tmp 142), (.tmp 146)], #[35, 35]⟩) 35 [(142, (.lf (tSl 18 36 37))), (146, (.lf (tSl 19 38 39)))] ⟨[(37, tBytes7b0)], ⟨23, 1, 1, 40, 20⟩⟩ (.some (.lf (tSl 20 40 41))) ⟨[(37, tBytes7b0)], ⟨23, 1, 1, 42, 21⟩⟩ (.again 36 ⟨[], [], [], [(.var 40), (.var 41)], [(.var 20)]⟩ ⟨[(37, tBytes7b0)], ⟨23, 1, 1, 42, 21⟩⟩))))))) (.again 36 ⟨[], [], [], [(.var 28), (.var 29)], [(.var 14)]⟩ ⟨[(37, tBytes7b0)], ⟨23, 1, 1, 30, 15⟩⟩))) (.join 38 ⟨[(37, tBytes7b0)], ⟨23, 0, 1, 32, 16⟩⟩ ⟨[(37, tBytes7b0)], ⟨23, 0, 1, 34, 17⟩⟩ (.call 35 [(.lf (.val 0)), (.lf (.int .u8 (.lit 100)))] ⟨[(37, tBytes7b0)], ⟨23, 0, 1, 32, 16⟩⟩ (.lf (.bool (.var 0))) ⟨[(37, tBytes7b0)], ⟨23, 1, 1, 32, 16⟩⟩ (.br (.var 0) (.call 54 [(.lf (tSl 3 6 7))] ⟨[(37, tBytes7b0)], ⟨23, 1, 1, 32, 16⟩⟩ (.lf (tSl 16 32 33)) ⟨[(37, tBytes7b0)], ⟨23, 1, 1, 34, 17⟩⟩ (.gen (.call ⟨(.builtin .append), #[(.tmp 150), (.tmp 153)], #[35, 35]⟩) 35 [(150, (.lf (tSl 15 30 31))), (153, (.lf (tSl 16 32 33)))] ⟨[(37, tBytes7b0)], ⟨23, 1, 1, 34, 17⟩⟩ (.some (.lf (tSl 17 34 35))) ⟨[(37, tBytes7b0)], ⟨23, 1, 1, 36, 18⟩⟩ (.again 38 ⟨[], [], [], [(.var 34), (.var 35)], [(.var 17)]⟩ ⟨[(37, tBytes7b0)], ⟨23, 1, 1, 36, 18⟩⟩))) (.again 38 ⟨[], [], [], [(.var 30), (.var 31)], [(.var 15)]⟩ ⟨[(37, tBytes7b0)], ⟨23, 1, 1, 32, 16⟩⟩))) (.done (.lf (tSl 16 32 33)) ⟨[(37, tBytes7b0)], ⟨23, 0, 1, 34, 17⟩⟩))))))))))))))))) := by kernel_rfl
end Go.Proofs.Ytadgaefmoobcoaa

namespace Go.Eng
open Go.RowKit Go.Syn
set_option linter.unusedVariables false
set_option linter.unusedSimpArgs false
theorem cells_elt {α : Type} {f : α → Dat} {c : Nat} {w : World} {a : Option Addr} {xs : List α} (h : Cells w a (Dat.cellsAll (xs.map f))) (hc : ∀ x, (f x).cells.length = c) (h0 : 0 < c) {i : Nat} {x : α} (hi : xs[i]? = some x) :
    a.isSome = true ∧ ∀ (N : Nat → Prop), ¬ N ((a.getD ⟨0, 0, none⟩).block) → CellsAt w (.pointer (some (((a.getD ⟨0, 0, none⟩).add (i * c)).add 0))) (f x).cells N := by
  have h1 : ∃ u, (f x).cells[0]? = some u := ⟨_, List.getElem?_eq_getElem (by rw [hc]; exact h0)⟩
  obtain ⟨u, hu⟩ := h1
  obtain ⟨hp, hb, _⟩ := row_cell h hc hi hu
  cases a with
  | none => simp [PlainA] at hp
  | some ad =>
    refine ⟨rfl, fun N hN => ⟨_, rfl, ?_, fun j u hj => ?_⟩⟩
    · rw [add_add']
      have : (ad.add (i * c + 0)).block = ad.block := by unfold Addr.add; split <;> rfl
      show ¬ N (ad.add (i * c + 0)).block
      rw [this]; exact hN
    · obtain ⟨_, _, h3⟩ := row_cell h hc hi hj
      have e : ad = ⟨blk (some ad), ofs (some ad), none⟩ := Option.some.inj hp
      rw [add_add', add_add', show (some ad).getD (⟨0, 0, none⟩ : Addr) = ad from rfl, e, add_plain']
      rw [show i * c + (0 + j) = i * c + j by omega]
      exact h3
end Go.Eng

namespace Go.Eng
open Go.RowKit Go.Syn
set_option linter.unusedVariables false
set_option linter.unusedSimpArgs false
def PureAt (w : World) (V : Value) (e : Ending) (w' : World) : Prop := e = .returned V ∧ Below w.heap.size w w'
def At1 (w : World) (b ty : Nat) (V : Value) (us : List Value) (e : Ending) (w' : World) : Prop := e = .returned V ∧ Blk w' b us ty ∧ w.grownBy w' (some b)
def NewB (w : World) (ty : Nat) (us : List Value) (e : Ending) (w' : World) : Prop := ∃ b, w.heap.size ≤ b ∧ e = .returned (.pointer (some ⟨b, 0, none⟩)) ∧ Blk w' b us ty ∧ Below w.heap.size w w'
section
variable {P : Program} {w : World} {V : Value} {v : SV} {m : Mem} {ρ : Env} {pre : List Nat} {hx : HX} {L : Stack}
theorem pure_done (hv : ∀ ids, v.den ρ ids = V) : (Tree.done v m).holds ⟨P, w, fun _ => False, PureAt w V⟩ ρ pre hx L := fun ids w' hp hf => ⟨by rw [hv ids], hf.chg.below⟩
theorem at1_done {b ty : Nat} {us : List Value} {cs : List LV} {r : List (Nat × List LV)} {n : Cnt} (hv : ∀ ids, v.den ρ ids = V) (hc : ∀ ids, cellsDen ρ ids cs = us) :
    (Tree.done v ⟨(ty, cs) :: r, n⟩).holds ⟨P, w, fun x => x = b, At1 w b ty V us⟩ ρ [b] hx L := fun ids w' hp hf => by
  refine ⟨by rw [hv ids], ?_, hf.chg.grown⟩
  have := hf.blkAt 0 rfl
  rw [idAt0 hp, hc ids] at this
  exact this
theorem new_done {ty k : Nat} {us : List Value} {cs : List LV} {hp0 : List (Nat × List LV)} {n : Cnt} (hk : hp0[k]? = some (ty, cs)) (hv : ∀ ids, v.den ρ ids = .pointer (some ⟨idAt ids k, 0, none⟩)) (hc : ∀ ids, cellsDen ρ ids cs = us) :
    (Tree.done v ⟨hp0, n⟩).holds ⟨P, w, fun _ => False, NewB w ty us⟩ ρ pre hx L := fun ids w' hp hf => by
  have hlt : k < hp0.length := by
    rcases Nat.lt_or_ge k hp0.length with q | q
    · exact q
    · rw [List.getElem?_eq_none q] at hk; cases hk
  refine ⟨idAt ids k, ?_, by rw [hv ids], ?_, hf.chg.below⟩
  · exact (hf.own _ (idAt_mem (by rw [hf.len]; exact hlt))).resolve_right (fun e => e)
  · have := hf.blkAt k hk
    rw [hc ids] at this
    exact this
end
section
variable {P : Program} {W : World} {M : Nat → Prop} {R : Ending → World → Prop} {ρ : Env} {pre : List Nat} {hx : HX} {L : Stack} {f : Nat} {args : List SV} {m m' : Mem} {r : SV} {t : Tree}
theorem node_val (vs : Vals) {av : Array Value} {V : Value} (hcall : ∀ w, Calls P f av w (PureAt w V)) (hargs : ∀ ids, (args.map (SV.den ρ ids)).toArray = av) (hr : ∀ ids, r.den (ρ.add vs) ids = V) (hhp : m'.hp = m.hp) (hfit : hpFits m.c m.hp.length m.hp = true) (hc : (ρ.add vs).cnt = m'.c) (h1 : ∀ v, v ∈ vs.v → v.oneCell' = true)
    (h : t.holds ⟨P, W, M, R⟩ (ρ.add vs) pre hx L) : (Tree.call f args m r m' t).holds ⟨P, W, M, R⟩ ρ pre hx L :=
  node_pure vs hhp hfit hc h1 (fun ids w hp hf => by rw [hargs, hr]; exact hcall w) h
theorem node_newB (ty : Nat) (vs : Vals) {us' : List Value} {av : Array Value} {cs' : List LV} (hcall : ∀ w, Calls P f av w (NewB w ty us')) (hargs : ∀ ids, (args.map (SV.den ρ ids)).toArray = av) (hhp : m'.hp = m.hp ++ [(ty, cs')])
    (hcs' : ∀ ids, cellsDen (ρ.add vs) ids cs' = us') (hr : r = .lf (.ptr m.hp.length 0)) (hfit : hpFits m.c m.hp.length m.hp = true) (hc : (ρ.add vs).cnt = m'.c) (h1 : ∀ v, v ∈ vs.v → v.oneCell' = true)
    (h : t.holds ⟨P, W, M, R⟩ (ρ.add vs) pre hx L) : (Tree.call f args m r m' t).holds ⟨P, W, M, R⟩ ρ pre hx L := by
  refine node_new ty cs' vs hhp hfit hc h1 (fun ids w hp hf => ?_) h
  rw [hargs]
  refine (hcall w).mono ?_
  rintro e w' ⟨b, h1, rfl, h2, h3⟩
  refine ⟨b, h1, ?_, ?_, h3⟩
  · subst hr
    simp only [SV.den, LV.den, idAt_last _ _ hf.len]
  · rw [hcs']; exact h2
end
end Go.Eng
