/- Part 9 of the texts of a proof about the given program: what the statement's proof needs of them. -/
import Derived.OpenShut
import Derived.SizedLaws
import Derived.ChangeBears
import Derived.Deep.Slices
import Derived.Test.YtadgaefmoobcoaaKMsgDecodes8
namespace Go.Syn
open Go.RowKit
set_option linter.unusedVariables false
set_option linter.unusedSimpArgs false

inductive Dat where
  | int (k : IntKind) (n : Int)
  | bool (b : Bool)
  | str (s : ByteArray)
  | parts (ds : List Dat)
  | sl (a : Option Addr) (len cap : Nat) (ds : List Dat)

mutual
def Dat.cells : Dat → List Value
  | .int k n => [.int k n]
  | .bool b => [.bool b]
  | .str s => [.string s]
  | .parts ds => Dat.cellsAll ds
  | .sl a len cap _ => [.slice a len cap]
def Dat.cellsAll : List Dat → List Value
  | [] => []
  | d :: r => d.cells ++ Dat.cellsAll r
end

mutual
def Dat.In (P : Program) (w : World) : TypeId → Dat → Prop
  | t, .int k n => P.underlying t = some (.int k) ∧ (Lit.int k n).wf = true
  | t, .bool b => P.underlying t = some .bool
  | t, .str s => P.underlying t = some .string ∧ s.size ≤ reachBytes
  | t, .parts ds => (∃ fs, P.underlying t = some (.struct fs) ∧ Dat.InEach P w (fs.toList.map (·.type)) ds) ∨ (∃ n e, P.underlying t = some (.array n e) ∧ ds.length = n ∧ Dat.InAll P w e ds)
  | t, .sl a len cap ds => ∃ e, P.underlying t = some (.slice e) ∧ ds.length = len ∧ len ≤ cap ∧ cap ≤ maxLen ∧ len * P.bytesOf e ≤ reachBytes ∧ Cells w a (Dat.cellsAll ds) ∧ Dat.InAll P w e ds
def Dat.InAll (P : Program) (w : World) : TypeId → List Dat → Prop
  | _, [] => True
  | t, d :: r => d.In P w t ∧ Dat.InAll P w t r
def Dat.InEach (P : Program) (w : World) : List TypeId → List Dat → Prop
  | [], [] => True
  | t :: ts, d :: r => d.In P w t ∧ Dat.InEach P w ts r
  | _, _ => False
end

def datB (P : Program) : Nat → TypeId → Bool
  | 0, _ => false
  | n + 1, t => decide (t < P.types.size) && match P.underlying t with
    | some (.int _) | some .bool | some .string => true
    | some (.slice e) => datB P n e
    | some (.array _ e) => datB P n e
    | some (.struct fs) => fs.toList.all fun f => datB P n f.type
    | _ => false

section
variable {P : Program} {w : World}
theorem cellsAll_get (c : Nat) (hc : 0 < c) : ∀ (ds : List Dat), (∀ d ∈ ds, d.cells.length = c) → ∀ k, (Dat.cellsAll ds)[k]? = (ds[k / c]?).bind fun d => d.cells[k % c]?
  | [], _, k => by simp [Dat.cellsAll]
  | d :: r, h, k => by
    have hd := h d (by simp)
    unfold Dat.cellsAll
    by_cases hk : k < c
    · rw [List.getElem?_append_left (by omega), Nat.div_eq_of_lt hk, Nat.mod_eq_of_lt hk]; simp
    · rw [List.getElem?_append_right (by omega), hd, cellsAll_get c hc r (fun d hd => h d (by simp [hd])) (k - c)]
      have e1 : k / c = (k - c) / c + 1 := by
        have := Nat.add_div_right (k - c) hc
        rw [show k - c + c = k by omega] at this; omega
      have e2 : k % c = (k - c) % c := by
        have := Nat.add_mod_right (k - c) c
        rw [show k - c + c = k by omega] at this; omega
      rw [e1, e2]; simp
theorem cellsAll_length (c : Nat) : ∀ (ds : List Dat), (∀ d ∈ ds, d.cells.length = c) → (Dat.cellsAll ds).length = ds.length * c
  | [], _ => by simp [Dat.cellsAll]
  | d :: r, h => by
    unfold Dat.cellsAll
    rw [List.length_append, h d (by simp), cellsAll_length c r (fun d hd => h d (by simp [hd])), List.length_cons, Nat.succ_mul]; omega

theorem datParts : ∀ (ts : List TypeId) (cs : List Value), cs.length = (ts.map P.cellsOf).sum →
    (∀ i t, ts[i]? = some t → ∃ d : Dat, d.cells = (cs.drop ((ts.take i).map P.cellsOf).sum).take (P.cellsOf t) ∧ d.In P w t) → ∃ ds, Dat.cellsAll ds = cs ∧ Dat.InEach P w ts ds
  | [], cs, hl, _ => by
    refine ⟨[], ?_, by simp [Dat.InEach]⟩
    have : cs = [] := List.eq_nil_of_length_eq_zero (by simpa using hl)
    rw [this]; rfl
  | t :: ts, cs, hl, h => by
    obtain ⟨d, hd, hi⟩ := h 0 t rfl
    simp only [List.map_cons, List.sum_cons] at hl
    obtain ⟨ds, e, he⟩ := datParts ts (cs.drop (P.cellsOf t)) (by rw [List.length_drop]; omega) (fun i u hu => by
      obtain ⟨d', hd', hi'⟩ := h (i + 1) u (by simpa using hu)
      refine ⟨d', ?_, hi'⟩
      rw [hd', List.drop_drop]; simp)
    refine ⟨d :: ds, ?_, by simp only [Dat.InEach]; exact ⟨hi, he⟩⟩
    simp only [Dat.cellsAll, hd, e]
    simp
theorem datAll (t : TypeId) : ∀ (n : Nat) (cs : List Value), cs.length = n * P.cellsOf t →
    (∀ i, i < n → ∃ d : Dat, d.cells = (cs.drop (i * P.cellsOf t)).take (P.cellsOf t) ∧ d.In P w t) → ∃ ds : List Dat, Dat.cellsAll ds = cs ∧ ds.length = n ∧ Dat.InAll P w t ds
  | 0, cs, hl, _ => by
    refine ⟨[], ?_, rfl, by simp [Dat.InAll]⟩
    have : cs = [] := List.eq_nil_of_length_eq_zero (by simpa using hl)
    rw [this]; rfl
  | n + 1, cs, hl, h => by
    obtain ⟨d, hd, hi⟩ := h 0 (by omega)
    rw [Nat.succ_mul] at hl
    obtain ⟨ds, e, hn, he⟩ := datAll t n (cs.drop (P.cellsOf t)) (by rw [List.length_drop]; omega) (fun i hu => by
      obtain ⟨d', hd', hi'⟩ := h (i + 1) (by omega)
      refine ⟨d', ?_, hi'⟩
      rw [hd', List.drop_drop, Nat.succ_mul, Nat.add_comm])
    refine ⟨d :: ds, ?_, by simp [hn], by simp only [Dat.InAll]; exact ⟨hi, he⟩⟩
    simp only [Dat.cellsAll, hd, e]
    simp
theorem inAll_iff {t : TypeId} : ∀ {ds : List Dat}, Dat.InAll P w t ds ↔ ∀ d ∈ ds, d.In P w t
  | [] => by simp [Dat.InAll]
  | d :: r => by simp only [Dat.InAll, List.mem_cons, forall_eq_or_imp, inAll_iff (ds := r)]

theorem weights_mem_all {H : Type} {t : TypeId} : ∀ {ds : List (DataW H)} {d : DataW H}, d ∈ ds → ∀ n ∈ d.weights P t, n ∈ DataW.weightsAll P t ds
  | d0 :: ds, d, hd, n, hn => by
    simp only [DataW.weightsAll, List.mem_append]
    rcases List.mem_cons.1 hd with rfl | hd
    · exact Or.inl hn
    · exact Or.inr (weights_mem_all hd n hn)
end

theorem listOf {α : Type} : ∀ (n : Nat) (p : Nat → α → Prop), (∀ i, i < n → ∃ x, p i x) → ∃ l : List α, l.length = n ∧ ∀ (i : Nat) (x : α), l[i]? = some x → p i x
  | 0, p, _ => ⟨[], rfl, fun i x h => by simp at h⟩
  | n + 1, p, h => by
    obtain ⟨l, hl, hp⟩ := listOf n p fun i hi => h i (by omega)
    obtain ⟨x, hx⟩ := h n (by omega)
    refine ⟨l ++ [x], by simp [hl], fun i y hy => ?_⟩
    rcases Nat.lt_or_ge i l.length with q | q
    · rw [List.getElem?_append_left q] at hy; exact hp i y hy
    · rw [List.getElem?_append_right q] at hy
      have : i - l.length = 0 := by
        rcases Nat.eq_zero_or_pos (i - l.length) with r | r
        · exact r
        · rw [List.getElem?_eq_none (by simp; omega)] at hy; cases hy
      rw [this] at hy
      simp at hy; subst hy
      rw [show i = n by omega]; exact hx

section
variable {H : Type} {enc : TypeId × Value → H} {P : Program} {w : World} {base : Nat} {spare : Nat → Bool} {held : Bool}
theorem datOf (hl : laidOutB P = true) : ∀ (n fuel : Nat) (t : TypeId) (cs : List Value) (x : DataW H × List MemPlace), datB P n t = true → DataW.trod enc P w base spare held fuel t cs = some x →
    (∀ m ∈ x.1.weights P t, m ≤ reachBytes) → ∃ d : Dat, d.cells = cs ∧ d.In P w t
  | 0, _, _, _, _, h, _, _ => by simp [datB] at h
  | n + 1, fuel, t, cs, x, h, hx, hw => by
    unfold datB at h
    simp only [Bool.and_eq_true, decide_eq_true_eq] at h
    obtain ⟨htl, h⟩ := h
    split at h
    · rename_i k hu
      obtain ⟨m, rfl, rfl, hwf⟩ := DataW.trod_int hu hx
      exact ⟨.int k m, rfl, hu, hwf⟩
    · rename_i hu
      obtain ⟨b, rfl, rfl⟩ := DataW.trod_bool hu hx
      exact ⟨.bool b, rfl, hu⟩
    · rename_i hu
      obtain ⟨b, rfl, rfl, _⟩ := DataW.trod_string hu hx
      refine ⟨.str b, rfl, hu, ?_⟩
      have := hw b.data.toList.length (by simp [DataW.weights])
      simpa using this
    · rename_i e hu
      rcases DataW.trod_slice hu hx with ⟨rfl, _⟩ | ⟨a, len, cap, elems, rest, f, _, rfl, rfl, _, hlc, hcap, hlen, hel, _, _⟩
      · refine ⟨.sl none 0 0 [], rfl, e, hu, rfl, Nat.le_refl _, by unfold maxLen; omega, by simp, ?_, by simp [Dat.InAll]⟩
        intro h0; simp [Dat.cellsAll] at h0
      · have key : ∀ i, i < len → ∃ d : Dat, w.cells? base (a.add (i * P.cellsOf e)) (P.cellsOf e) = some d.cells ∧ d.In P w e := fun i hi => by
          have := hel i hi
          rw [List.getElem?_eq_getElem (by omega)] at this
          obtain ⟨cs', h1, h2⟩ := Option.bind_eq_some_iff.1 this
          obtain ⟨d, hd, hdi⟩ := datOf hl n f e cs' _ h h2 (fun m hm => hw m (by
            simp only [DataW.weights, hu, List.mem_cons, List.mem_append]
            exact Or.inr (Or.inl (weights_mem_all (List.mem_map.2 ⟨elems[i], List.getElem_mem _, rfl⟩) m hm))))
          exact ⟨d, by rw [hd]; exact h1, hdi⟩
        obtain ⟨ds, hn, hds⟩ := listOf len _ key
        have hin : ∀ d ∈ ds, d.cells.length = P.cellsOf e ∧ d.In P w e := fun d hd => by
          obtain ⟨i, hi, rfl⟩ := List.getElem_of_mem hd
          obtain ⟨h1, h2⟩ := hds i _ (List.getElem?_eq_getElem hi)
          exact ⟨(World.cells?_some h1).2.1, h2⟩
        refine ⟨.sl (some a) len cap ds, rfl, e, hu, hn, hlc, hcap, ?_, ?_, inAll_iff.2 fun d hd => (hin d hd).2⟩
        · have := hw ((elems.length + rest.length) * P.bytesOf e) (by simp [DataW.weights, hu])
          rw [hlen] at this
          exact Nat.le_trans (Nat.mul_le_mul_right _ (by omega)) this
        · intro h0
          rcases Nat.eq_zero_or_pos (P.cellsOf e) with hc | hc
          · rw [cellsAll_length 0 ds (fun d hd => by rw [(hin d hd).1, hc])] at h0; simp at h0
          · have hcell : ∀ i u, (Dat.cellsAll ds)[i]? = some u → w.cell? (a.add i) = some u := fun i u hi => by
              rw [cellsAll_get (P.cellsOf e) hc ds (fun d hd => (hin d hd).1) i] at hi
              obtain ⟨d, hd, hu2⟩ := Option.bind_eq_some_iff.1 hi
              obtain ⟨h1, _⟩ := hds _ _ hd
              obtain ⟨_, h3, h4⟩ := World.cells?_some h1
              have := h4 (i % P.cellsOf e) (Nat.mod_lt _ hc)
              rw [Go.Deep.add_add, show i / P.cellsOf e * P.cellsOf e + i % P.cellsOf e = i by rw [Nat.mul_comm]; exact Nat.div_add_mod _ _] at this
              rw [this]; exact hu2
            obtain ⟨b, off, spot⟩ := a
            have c0 := hcell 0 _ (List.getElem?_eq_getElem h0)
            have hspot : spot = none := by simpa [Addr.add] using World.cell?_spot c0
            subst hspot
            refine ⟨rfl, World.block_lt_of_cell? w ⟨b, off, none⟩ (by simpa [Addr.add] using c0), fun i u hi => ?_⟩
            have := hcell i u hi
            rw [Go.WideShapes.add_plain] at this
            exact this
    · rename_i m e hu
      obtain ⟨xs, f, _, rfl, hcl, hxl, hxs⟩ := DataW.trod_array hu hx
      obtain ⟨_, hk⟩ := kid_array hl htl hu
      obtain ⟨ds, h1, h2, h3⟩ := datAll (P := P) (w := w) e m cs (by rw [hcl, hk]) (fun i hi => by
        have := hxs i hi
        rw [List.getElem?_eq_getElem (by omega)] at this
        exact datOf hl n f e _ _ h this (fun q hq => hw q (by
          simp only [DataW.weights, hu]
          exact weights_mem_all (List.mem_map.2 ⟨xs[i], List.getElem_mem _, rfl⟩) q hq)))
      exact ⟨.parts ds, h1, Or.inr ⟨m, e, hu, h2, h3⟩⟩
    · rename_i fs hu
      obtain ⟨xs, f, _, rfl, hcl, hxl, hxs⟩ := DataW.trod_struct hu hx
      obtain ⟨_, hk, hof⟩ := kid_struct hl htl hu
      obtain ⟨ds, h1, h2⟩ := datParts (P := P) (w := w) (fs.toList.map (·.type)) cs (by rw [hcl, hk, List.map_map]; rfl) (fun i t' hi => by
        rw [List.getElem?_map] at hi
        obtain ⟨fd, hf, rfl⟩ := Option.map_eq_some_iff.1 hi
        have hf' : fs[i]? = some fd := by simpa using hf
        have := hxs i fd hf'
        have hlt : i < fs.size := by
          rcases Nat.lt_or_ge i fs.size with q | q
          · exact q
          · rw [Array.getElem?_eq_none q] at hf'; cases hf'
        rw [List.getElem?_eq_getElem (by omega)] at this
        obtain ⟨d, hd, hdi⟩ := datOf hl n f fd.type _ _ (List.all_eq_true.1 h fd (List.mem_of_getElem? hf)) this (fun q hq => hw q (by
          simp only [DataW.weights, hu]
          exact DataW.weights_mem_each (by rw [List.getElem?_map]; exact hi) (by rw [List.getElem?_map, List.getElem?_eq_getElem (show i < xs.length by omega)]; rfl) q hq))
        refine ⟨d, ?_, hdi⟩
        rw [hd, hof i fd hf, ← List.map_take, List.map_map]; rfl)
      exact ⟨.parts ds, h1, Or.inl ⟨fs, hu, h2⟩⟩
    · cases h
end

section
variable {P : Program} {w : World} {t : TypeId} {d : Dat}
theorem in_int {k : IntKind} (hu : P.underlying t = some (.int k)) (h : d.In P w t) : ∃ n, d = .int k n ∧ (Lit.int k n).wf = true := by
  cases d with
  | int k' n =>
    simp only [Dat.In, hu, Option.some.injEq, TypeDesc.int.injEq] at h
    obtain ⟨rfl, h⟩ := h; exact ⟨n, rfl, h⟩
  | _ => simp [Dat.In, hu] at h
theorem in_slice {e : TypeId} (hu : P.underlying t = some (.slice e)) (h : d.In P w t) :
    ∃ a cap ds, d = .sl a ds.length cap ds ∧ ds.length ≤ cap ∧ cap ≤ maxLen ∧ ds.length * P.bytesOf e ≤ reachBytes ∧ Cells w a (Dat.cellsAll ds) ∧ ∀ x ∈ ds, x.In P w e := by
  cases d with
  | sl a len cap ds =>
    simp only [Dat.In, hu, Option.some.injEq, TypeDesc.slice.injEq] at h
    obtain ⟨_, rfl, rfl, h1, h2, h3, h4, h5⟩ := h
    exact ⟨a, cap, ds, rfl, h1, h2, h3, h4, inAll_iff.1 h5⟩
  | _ => simp [Dat.In, hu] at h
theorem list_map_of {α : Type} (f : α → Dat) (p : α → Prop) : ∀ (ds : List Dat), (∀ d ∈ ds, ∃ x, d = f x ∧ p x) → ∃ xs : List α, ds = xs.map f ∧ ∀ x ∈ xs, p x
  | [], _ => ⟨[], rfl, by simp⟩
  | d :: r, h => by
    obtain ⟨x, rfl, hx⟩ := h d (by simp)
    obtain ⟨xs, rfl, hxs⟩ := list_map_of f p r (fun d hd => h d (by simp [hd]))
    exact ⟨x :: xs, rfl, by simpa using ⟨hx, hxs⟩⟩
end

section
variable {H : Type} {enc : TypeId × Value → H} {P : Program} {w : World} {base : Nat} {spare : Nat → Bool} {held : Bool}
theorem datArg (hl : laidOutB P = true) (n : Nat) {t : TypeId} {v : Value} {d : DataW H} {p : List MemPlace} (hb : datB P n t = true) (h : DataW.Trod enc P w base spare held t v d p) (hw : (d.weights P t).all (· ≤ reachBytes) = true) :
    ∃ x : Dat, x.cells = v.cells.toList ∧ x.In P w t := by
  obtain ⟨fuel, hf⟩ := h
  exact datOf hl n fuel t _ (d, p) hb hf (fun m hm => by simpa using List.all_eq_true.1 hw m hm)
theorem sized_arg {ts : List TypeId} {ds : List (DataW H)} {d : DataW H} (h : (DataW.weightsEach P ts ds).all (· ≤ reachBytes) = true) {j : Nat} {t : TypeId} (ht : ts[j]? = some t) (hd : ds[j]? = some d) : (d.weights P t).all (· ≤ reachBytes) = true :=
  List.all_eq_true.2 fun m hm => List.all_eq_true.1 h m (DataW.weights_mem_each ht hd m hm)
end

theorem row_cell {α : Type} {f : α → Dat} {c : Nat} {w : World} {a : Option Addr} {xs : List α} (h : Cells w a (Dat.cellsAll (xs.map f))) (hc : ∀ x, (f x).cells.length = c) {i : Nat} {x : α} (hi : xs[i]? = some x) {j : Nat} {u : Value} (hj : (f x).cells[j]? = some u) :
    PlainA a ∧ blk a < w.heap.size ∧ w.cell? ⟨blk a, ofs a + (i * c + j), none⟩ = some u := by
  have hj' : j < c := by
    rw [← hc x]
    rcases Nat.lt_or_ge j (f x).cells.length with q | q
    · exact q
    · rw [List.getElem?_eq_none q] at hj; cases hj
  have e : (Dat.cellsAll (xs.map f))[i * c + j]? = some u := by
    rw [cellsAll_get c (by omega) _ (fun d hd => by obtain ⟨y, _, rfl⟩ := List.mem_map.1 hd; exact hc y)]
    have e1 : (i * c + j) / c = i := by rw [Nat.mul_comm, Nat.mul_add_div (by omega), Nat.div_eq_of_lt hj']; omega
    have e2 : (i * c + j) % c = j := by rw [Nat.mul_comm, Nat.mul_add_mod, Nat.mod_eq_of_lt hj']
    rw [e1, e2, List.getElem?_map, hi]; exact hj
  have h0 : 0 < (Dat.cellsAll (xs.map f)).length := by
    rcases Nat.lt_or_ge (i * c + j) (Dat.cellsAll (xs.map f)).length with q | q
    · omega
    · rw [List.getElem?_eq_none q] at e; cases e
  obtain ⟨h1, h2, h3⟩ := h h0
  exact ⟨h1, h2, h3 _ _ e⟩
end Go.Syn

namespace Go.Proofs.Ytadgaefmoobcoaa
open Go.Eng
set_option maxRecDepth 100000
set_option maxRecDepth 100000 in
theorem tQNum7 : (runF ⟨tt, fns, { }⟩ (Try.f55.body.getD .skip) Try.f55.results.toList (entry Try.f55.ntmps [.agg [.sl 0 (.var 0) (.var 1), .int .i64 (.var 0)]] [] ⟨1, 0, 0, 2, 1⟩)) =
  (.call 75 [(.agg [(tSl 0 0 1), (tVi 0)]), (.lf (tLi 1125899906842624))] ⟨[(95, [(tSl 0 0 1), (tVi 0)]), (95, [.nilsl, (tLi 0)])], ⟨1, 0, 0, 2, 1⟩⟩ (.tup [(.true, [(tSl 1 2 3), (tVi 1)]), (.false, [(tVi 2)])]) ⟨[(95, [(tSl 0 0 1), (tVi 0)]), (95, [.nilsl, (tLi 0)])], ⟨3, 0, 0, 4, 2⟩⟩ (.done (.tup [(.true, [(tSl 1 2 3), (tVi 1)]), (.false, [(tVi 2)])]) ⟨[(95, [(tSl 0 0 1), (tVi 0)]), (95, [(tSl 1 2 3), (tVi 1)])], ⟨3, 0, 0, 4, 2⟩⟩)) := by kernel_rfl
abbrev tQRTxtm0 : Mem := ⟨[(95, [(tSl 1 2 3), (tVi 2)]), (95, [.nilsl, (tLi 0)])], ⟨4, 0, 0, 6, 3⟩⟩
abbrev tQRTxtm1 : Mem := ⟨[(95, [(tSl 1 2 3), (tVi 2)]), (95, [.nilsl, (tLi 0)])], ⟨4, 0, 0, 8, 4⟩⟩
set_option maxRecDepth 100000 in
theorem tQRTxt : (runF ⟨tt, fns, { }⟩ (Try.f80.body.getD .skip) Try.f80.results.toList (entry Try.f80.ntmps [.agg [.sl 0 (.var 0) (.var 1), .int .i64 (.var 0)], .lf (.int .i64 (.var 1))] [] ⟨2, 0, 0, 2, 1⟩)) =
  (.call 75 [(.agg [(tSl 0 0 1), (tVi 0)]), (.lf (tVi 1))] ⟨[(95, [(tSl 0 0 1), (tVi 0)]), (95, [.nilsl, (tLi 0)])], ⟨2, 0, 0, 2, 1⟩⟩ (.tup [(.true, [(tSl 1 2 3), (tVi 2)]), (.false, [(tVi 3)])]) ⟨[(95, [(tSl 0 0 1), (tVi 0)]), (95, [.nilsl, (tLi 0)])], ⟨4, 0, 0, 4, 2⟩⟩ (.br (.cmp .neq (.var 2) (.lit 0)) (.done (.tup [(.true, [(tSl 1 2 3), (tVi 2)]), (.false, [.nilsl])]) ⟨[(95, [(tSl 1 2 3), (tVi 2)]), (95, [(tSl 1 2 3), (tVi 2)])], ⟨4, 0, 0, 4, 2⟩⟩) (.br (.cmp .gtr (.var 3) (.nat 2)) (.done (.tup [(.true, [(tSl 1 2 3), (tLi 10)]), (.false, [.nilsl])]) ⟨[(95, [(tSl 1 2 3), (tLi 10)]), (95, [(tSl 1 2 3), (tLi 10)])], ⟨4, 0, 0, 4, 2⟩⟩) (.gen (.slice 35 (.tmp 26) .none (.some (.tmp 27)) .none) 35 [(26, (.lf (tSl 1 2 3))), (27, (.lf (tVi 3)))] ⟨[(95, [(tSl 1 2 3), (tVi 2)]), (95, [.nilsl, (tLi 0)])], ⟨4, 0, 0, 4, 2⟩⟩ (.some (.lf (tSl 2 4 5))) tQRTxtm0 (.call 20 [(.lf (tSl 2 4 5))] tQRTxtm0 (.lf (tSl 3 6 7)) tQRTxtm1 (.gen (.slice 35 (.tmp 31) (.some (.tmp 32)) .none .none) 35 [(31, (.lf (tSl 1 2 3))), (32, (.lf (tVi 3)))] tQRTxtm1 (.some (.lf (tSl 4 8 9))) ⟨[(95, [(tSl 1 2 3), (tVi 2)]), (95, [.nilsl, (tLi 0)])], ⟨4, 0, 0, 10, 5⟩⟩ (.done (.tup [(.true, [(tSl 4 8 9), (tVi 2)]), (.false, [(tSl 3 6 7)])]) ⟨[(95, [(tSl 4 8 9), (tVi 2)]), (95, [(tSl 4 8 9), (tVi 2)])], ⟨4, 0, 0, 10, 5⟩⟩))))))) := by kernel_rfl
abbrev tQDec7b0 : List LV := [(tVi 9), (tVi 10), (tVi 11), (tVi 12), (tVi 13), (tVi 14), (tVi 15), (tVi 16), (tVi 17), (tVi 18), (tSl 6 12 13), (tSl 7 14 15), (tSl 8 16 17), (tVi 19), (tVi 20), (tVi 21), (tVi 22), (tVi 23), (tVi 24), (tVi 25), (tVi 26), (tVi 27), (tVi 28), (tVi 29), (tSl 9 18 19)]
abbrev tQDec7b1 : List LV := [(tLi 0), (tLi 0), (tLi 0), (tLi 0), (tLi 0), (tLi 0), (tLi 0), (tLi 0), (tLi 0), (tLi 0), .nilsl, .nilsl, .nilsl, (tLi 0), (tLi 0), (tLi 0), (tLi 0), (tLi 0), (tLi 0), (tLi 0), (tLi 0), (tLi 0), (tLi 0), (tLi 0), .nilsl]
abbrev tQDec7b2 : List LV := [(tVi 1), (tLi 0), (tLi 0), (tLi 0), (tLi 0), (tLi 0), (tLi 0), (tLi 0), (tLi 0), (tLi 0), .nilsl, .nilsl, .nilsl, (tLi 0), (tLi 0), (tLi 0), (tLi 0), (tLi 0), (tLi 0), (tLi 0), (tLi 0), (tLi 0), (tLi 0), (tLi 0), .nilsl]
abbrev tQDec7b3 : List LV := [(tVi 1), (tVi 3), (tLi 0), (tLi 0), (tLi 0), (tLi 0), (tLi 0), (tLi 0), (tLi 0), (tLi 0), .nilsl, .nilsl, .nilsl, (tLi 0), (tLi 0), (tLi 0), (tLi 0), (tLi 0), (tLi 0), (tLi 0), (tLi 0), (tLi 0), (tLi 0), (tLi 0), .nilsl]
abbrev tQDec7b4 : List LV := [(tVi 1), (tVi 3), (tVi 5), (tLi 0), (tLi 0), (tLi 0), (tLi 0), (tLi 0), (tLi 0), (tLi 0), .nilsl, .nilsl, .nilsl, (tLi 0), (tLi 0), (tLi 0), (tLi 0), (tLi 0), (tLi 0), (tLi 0), (tLi 0), (tLi 0), (tLi 0), (tLi 0), .nilsl]
abbrev tQDec7b5 : List LV := [(tVi 1), (tVi 3), (tVi 5), (tVi 7), (tLi 0), (tLi 0), (tLi 0), (tLi 0), (tLi 0), (tLi 0), .nilsl, .nilsl, .nilsl, (tLi 0), (tLi 0), (tLi 0), (tLi 0), (tLi 0), (tLi 0), (tLi 0), (tLi 0), (tLi 0), (tLi 0), (tLi 0), .nilsl]
abbrev tQDec7m0 : Mem := ⟨[(37, tQDec7b1), (37, tQDec7b0), (95, [(tSl 10 20 21), (tVi 30)])], ⟨31, 1, 1, 22, 11⟩⟩
abbrev tQDec7m1 : Mem := ⟨[(37, tQDec7b1), (37, tQDec7b0), (95, [(tSl 10 20 21), (tVi 30)])], ⟨32, 1, 1, 22, 11⟩⟩
abbrev tQDec7m2 : Mem := ⟨[(37, tQDec7b1), (37, tQDec7b5), (95, [(tSl 4 8 9), (tVi 6)])], ⟨8, 0, 0, 10, 5⟩⟩
abbrev tQDec7m3 : Mem := ⟨[(37, tQDec7b1), (37, tQDec7b5), (95, [(tSl 4 8 9), (tVi 6)])], ⟨8, 0, 1, 10, 5⟩⟩
abbrev tQDec7m4 : Mem := ⟨[(37, tQDec7b1), (37, tQDec7b5), (95, [(tSl 4 8 9), (tVi 6)])], ⟨8, 1, 1, 10, 5⟩⟩
set_option maxRecDepth 100000 in
theorem tQDec7 : (runF ⟨tt, fns, { }⟩ (Try.f21.body.getD .skip) Try.f21.results.toList (entry Try.f21.ntmps [.lf (.sl 0 (.var 0) (.var 1))] [] ⟨0, 0, 0, 2, 1⟩)) =
  (.br (.cmp .gtr (.nat 0) (.lit 65536)) (.done (.tup [(.true, tQDec7b1), (.false, [(tLi 12)])]) ⟨[(37, tQDec7b1)], ⟨0, 0, 0, 2, 1⟩⟩) (.call 55 [(.agg [(tSl 0 0 1), (tLi 0)])] ⟨[(37, tQDec7b1), (37, tQDec7b1), (95, [(tSl 0 0 1), (tLi 0)])], ⟨0, 0, 0, 2, 1⟩⟩ (.tup [(.true, [(tSl 1 2 3), (tVi 0)]), (.false, [(tVi 1)])]) ⟨[(37, tQDec7b1), (37, tQDec7b1), (95, [(tSl 0 0 1), (tLi 0)])], ⟨2, 0, 0, 4, 2⟩⟩ (.call 55 [(.agg [(tSl 1 2 3), (tVi 0)])] ⟨[(37, tQDec7b1), (37, tQDec7b2), (95, [(tSl 1 2 3), (tVi 0)])], ⟨2, 0, 0, 4, 2⟩⟩ (.tup [(.true, [(tSl 2 4 5), (tVi 2)]), (.false, [(tVi 3)])]) ⟨[(37, tQDec7b1), (37, tQDec7b2), (95, [(tSl 1 2 3), (tVi 0)])], ⟨4, 0, 0, 6, 3⟩⟩ (.call 55 [(.agg [(tSl 2 4 5), (tVi 2)])] ⟨[(37, tQDec7b1), (37, tQDec7b3), (95, [(tSl 2 4 5), (tVi 2)])], ⟨4, 0, 0, 6, 3⟩⟩ (.tup [(.true, [(tSl 3 6 7), (tVi 4)]), (.false, [(tVi 5)])]) ⟨[(37, tQDec7b1), (37, tQDec7b3), (95, [(tSl 2 4 5), (tVi 2)])], ⟨6, 0, 0, 8, 4⟩⟩ (.call 55 [(.agg [(tSl 3 6 7), (tVi 4)])] ⟨[(37, tQDec7b1), (37, tQDec7b4), (95, [(tSl 3 6 7), (tVi 4)])], ⟨6, 0, 0, 8, 4⟩⟩ (.tup [(.true, [(tSl 4 8 9), (tVi 6)]), (.false, [(tVi 7)])]) ⟨[(37, tQDec7b1), (37, tQDec7b4), (95, [(tSl 3 6 7), (tVi 4)])], ⟨8, 0, 0, 10, 5⟩⟩ (.br (.cmp .neq (.var 6) (.lit 0)) (.done (.tup [(.true, tQDec7b1), (.false, [(tVi 6)])]) tQDec7m2) (.call 23 [(.lf (tVi 1))] tQDec7m2 (.lf (.val 0)) tQDec7m3 (.gen (.binOp .eql 9 (.tmp 46) (.const (.string ⟨#[]⟩)) 9) 4 [(46, (.lf (.val 0)))] tQDec7m3 (.some (.lf (.bool (.var 0)))) tQDec7m4 (.br (.var 0) (.done (.tup [(.true, tQDec7b1), (.false, [(tLi 26)])]) tQDec7m4) (.call 56 [(.agg [(tSl 4 8 9), (tVi 6)]), (.agg tQDec7b5)] tQDec7m4 (.tup [(.true, [(tSl 5 10 11), (tVi 8)]), (.true, tQDec7b0)]) ⟨[(37, tQDec7b1), (37, tQDec7b5), (95, [(tSl 4 8 9), (tVi 6)])], ⟨30, 1, 1, 20, 10⟩⟩ (.call 57 [(.agg [(tSl 5 10 11), (tVi 8)])] ⟨[(37, tQDec7b1), (37, tQDec7b0), (95, [(tSl 5 10 11), (tVi 8)])], ⟨30, 1, 1, 20, 10⟩⟩ (.agg [(tSl 10 20 21), (tVi 30)]) ⟨[(37, tQDec7b1), (37, tQDec7b0), (95, [(tSl 5 10 11), (tVi 8)])], ⟨31, 1, 1, 22, 11⟩⟩ (.br (.cmp .neq (.var 30) (.lit 0)) (.done (.tup [(.true, tQDec7b1), (.false, [(tVi 30)])]) tQDec7m0) (.call 12 [(.agg tQDec7b0)] tQDec7m0 (.lf (tVi 31)) tQDec7m1 (.br (.cmp .neq (.var 31) (.lit 0)) (.done (.tup [(.true, tQDec7b1), (.false, [(tVi 31)])]) tQDec7m1) (.done (.tup [(.true, tQDec7b0), (.false, [(tLi 0)])]) ⟨[(37, tQDec7b0), (37, tQDec7b0), (95, [(tSl 10 20 21), (tVi 30)])], ⟨32, 1, 1, 22, 11⟩⟩))))))))))))))) := by kernel_rfl
abbrev tQRestb0 : List LV := [(tVi 202), (tVi 203), (tVi 204), (tVi 205), (tVi 206), (tVi 207), (tVi 208), (tVi 209), (tVi 210), (tVi 211), (tSl 47 94 95), (tSl 48 96 97), (tSl 49 98 99), (tVi 212), (tVi 213), (tVi 214), (tVi 215), (tVi 216), (tVi 217), (tVi 218), (tVi 219), (tVi 220), (tVi 221), (tVi 222), (tSl 50 100 101)]
abbrev tQRestb1 : List LV := [(tVi 111), (tVi 112), (tVi 113), (tVi 114), (tVi 115), (tVi 116), (tVi 117), (tVi 118), (tVi 119), (tVi 120), (tSl 26 52 53), (tSl 27 54 55), (tSl 28 56 57), (tVi 121), (tVi 122), (tVi 123), (tVi 124), (tVi 125), (tVi 126), (tVi 127), (tVi 128), (tVi 129), (tVi 130), (tVi 131), (tSl 29 58 59)]
abbrev tQRestb2 : List LV := [(tVi 136), (tVi 137), (tVi 138), (tVi 139), (tVi 140), (tVi 141), (tVi 142), (tVi 143), (tVi 144), (tVi 145), (tSl 32 64 65), (tSl 33 66 67), (tSl 34 68 69), (tVi 146), (tVi 147), (tVi 148), (tVi 149), (tVi 150), (tVi 151), (tVi 152), (tVi 153), (tVi 154), (tVi 155), (tVi 156), (tSl 35 70 71)]
abbrev tQRestb3 : List LV := [(tVi 158), (tVi 159), (tVi 160), (tVi 161), (tVi 162), (tVi 163), (tVi 164), (tVi 165), (tVi 166), (tVi 167), (tSl 37 74 75), (tSl 38 76 77), (tSl 39 78 79), (tVi 168), (tVi 169), (tVi 170), (tVi 171), (tVi 172), (tVi 173), (tVi 174), (tVi 175), (tVi 176), (tVi 177), (tVi 178), (tSl 40 80 81)]
abbrev tQRestb4 : List LV := [(tVi 180), (tVi 181), (tVi 182), (tVi 183), (tVi 184), (tVi 185), (tVi 186), (tVi 187), (tVi 188), (tVi 189), (tSl 42 84 85), (tSl 43 86 87), (tSl 44 88 89), (tVi 190), (tVi 191), (tVi 192), (tVi 193), (tVi 194), (tVi 195), (tVi 196), (tVi 197), (tVi 198), (tVi 199), (tVi 200), (tSl 45 90 91)]
abbrev tQRestb5 : List LV := [(tVi 89), (tVi 90), (tVi 91), (tVi 92), (tVi 93), (tVi 94), (tVi 95), (tVi 96), (tVi 97), (tVi 98), (tSl 21 42 43), (tSl 22 44 45), (tSl 23 46 47), (tVi 99), (tVi 100), (tVi 101), (tVi 102), (tVi 103), (tVi 104), (tVi 105), (tVi 106), (tVi 107), (tVi 108), (tVi 109), (tSl 24 48 49)]
abbrev tQRestb6 : List LV := [(tVi 45), (tVi 46), (tVi 47), (tVi 48), (tVi 49), (tVi 50), (tVi 51), (tVi 52), (tVi 53), (tVi 54), (tSl 11 22 23), (tSl 12 24 25), (tSl 13 26 27), (tVi 55), (tVi 56), (tVi 57), (tVi 58), (tVi 59), (tVi 60), (tVi 61), (tVi 62), (tVi 63), (tVi 64), (tVi 65), (tSl 14 28 29)]
abbrev tQRestb7 : List LV := [(tVi 67), (tVi 68), (tVi 69), (tVi 70), (tVi 71), (tVi 72), (tVi 73), (tVi 74), (tVi 75), (tVi 76), (tSl 16 32 33), (tSl 17 34 35), (tSl 18 36 37), (tVi 77), (tVi 78), (tVi 79), (tVi 80), (tVi 81), (tVi 82), (tVi 83), (tVi 84), (tVi 85), (tVi 86), (tVi 87), (tSl 19 38 39)]
abbrev tQRestb8 : List LV := [(tVi 23), (tVi 24), (tVi 25), (tVi 26), (tVi 27), (tVi 28), (tVi 29), (tVi 30), (tVi 31), (tVi 32), (tSl 6 12 13), (tSl 7 14 15), (tSl 8 16 17), (tVi 33), (tVi 34), (tVi 35), (tVi 36), (tVi 37), (tVi 38), (tVi 39), (tVi 40), (tVi 41), (tVi 42), (tVi 43), (tSl 9 18 19)]
abbrev tQRestb9 : List LV := [(tVi 1), (tVi 2), (tVi 3), (tVi 4), (tVi 23), (tVi 6), (tVi 7), (tVi 8), (tVi 9), (tVi 10), (tSl 1 2 3), (tSl 2 4 5), (tSl 3 6 7), (tVi 11), (tVi 12), (tVi 13), (tVi 14), (tVi 15), (tVi 16), (tVi 17), (tVi 18), (tVi 19), (tVi 20), (tVi 21), (tSl 4 8 9)]
abbrev tQRestb10 : List LV := [(tVi 1), (tVi 2), (tVi 3), (tVi 4), (tVi 5), (tVi 6), (tVi 7), (tVi 8), (tVi 9), (tVi 10), (tSl 1 2 3), (tSl 2 4 5), (tSl 3 6 7), (tVi 11), (tVi 12), (tVi 13), (tVi 14), (tVi 15), (tVi 16), (tVi 17), (tVi 18), (tVi 19), (tVi 20), (tVi 21), (tSl 4 8 9)]
abbrev tQRestb11 : List LV := [(tLi 0), (tLi 0), (tLi 0), (tLi 0), (tLi 0), (tLi 0), (tLi 0), (tLi 0), (tLi 0), (tLi 0), .nilsl, .nilsl, .nilsl, (tLi 0), (tLi 0), (tLi 0), (tLi 0), (tLi 0), (tLi 0), (tLi 0), (tLi 0), (tLi 0), (tLi 0), (tLi 0), .nilsl]
abbrev tQRestb12 : List LV := [(tVi 158), (tVi 160), (tVi 162), (tVi 164), (tSl 40 80 81), (tSl 41 82 83)]
abbrev tQRestb13 : List LV := [(tVi 158), (tVi 160), (tVi 162), (tLi 0), .nilsl, .nilsl]
abbrev tQRestb14 : List LV := [(tVi 158), (tVi 160), (tLi 0), (tLi 0), .nilsl, .nilsl]
abbrev tQRestb15 : List LV := [(tVi 158), (tLi 0), (tLi 0), (tLi 0), .nilsl, .nilsl]
abbrev tQRestb16 : List LV := [(tLi 0), (tLi 0), (tLi 0), (tLi 0), .nilsl, .nilsl]
abbrev tQRestm0 : Mem := ⟨[(95, [(tSl 43 86 87), (tVi 180)]), (37, tQRestb3), (95, [.nilsl, (tLi 0)]), (37, tQRestb11), (3, []), (95, [(tSl 43 86 87), (tVi 180)]), (3, [(tVi 182)])], ⟨183, 1, 1, 90, 45⟩⟩
abbrev tQRestm1 : Mem := ⟨[(95, [(tSl 42 84 85), (tVi 179)]), (37, tQRestb3), (95, [.nilsl, (tLi 0)]), (37, tQRestb11), (3, [])], ⟨180, 1, 1, 86, 43⟩⟩
abbrev tQRestm2 : Mem := ⟨[(95, [(tSl 42 84 85), (tVi 179)]), (37, tQRestb3), (95, [.nilsl, (tLi 0)]), (37, tQRestb11), (3, [])], ⟨181, 1, 1, 86, 43⟩⟩
abbrev tQRestm3 : Mem := ⟨[(95, [(tSl 42 84 85), (tVi 179)]), (37, tQRestb3), (95, [.nilsl, (tLi 0)]), (37, tQRestb11), (3, [])], ⟨182, 1, 1, 86, 43⟩⟩
abbrev tQRestm4 : Mem := ⟨[(95, [(tSl 25 50 51), (tVi 110)]), (37, tQRestb1), (95, [.nilsl, (tLi 0)]), (37, tQRestb11)], ⟨132, 0, 1, 60, 30⟩⟩
abbrev tQRestm5 : Mem := ⟨[(95, [(tSl 30 60 61), (tVi 133)]), (37, tQRestb1), (95, [.nilsl, (tLi 0)]), (37, tQRestb11)], ⟨134, 0, 1, 62, 31⟩⟩
abbrev tQRestm6 : Mem := ⟨[(95, [(tSl 25 50 51), (tVi 110)]), (37, tQRestb1), (95, [.nilsl, (tLi 0)]), (37, tQRestb11)], ⟨132, 1, 1, 60, 30⟩⟩
abbrev tQRestm7 : Mem := ⟨[(95, [(tSl 31 62 63), (tVi 135)]), (37, tQRestb2), (95, [.nilsl, (tLi 0)]), (37, tQRestb11)], ⟨157, 0, 1, 72, 36⟩⟩
abbrev tQRestm8 : Mem := ⟨[(95, [(tSl 36 72 73), (tVi 157)]), (37, tQRestb3), (95, [.nilsl, (tLi 0)]), (37, tQRestb11)], ⟨179, 0, 1, 82, 41⟩⟩
abbrev tQRestm9 : Mem := ⟨[(95, [(tSl 31 62 63), (tVi 135)]), (37, tQRestb2), (95, [.nilsl, (tLi 0)]), (37, tQRestb11)], ⟨157, 1, 1, 72, 36⟩⟩
abbrev tQRestm10 : Mem := ⟨[(95, [(tSl 41 82 83), (tVi 179)]), (37, tQRestb4), (95, [.nilsl, (tLi 0)]), (37, tQRestb11)], ⟨201, 0, 1, 92, 46⟩⟩
abbrev tQRestm11 : Mem := ⟨[(95, [(tSl 36 72 73), (tVi 157)]), (37, tQRestb3), (95, [.nilsl, (tLi 0)]), (37, tQRestb11)], ⟨179, 1, 1, 82, 41⟩⟩
abbrev tQRestm12 : Mem := ⟨[(95, [(tSl 41 82 83), (tVi 179)]), (37, tQRestb4), (95, [.nilsl, (tLi 0)]), (37, tQRestb11)], ⟨201, 1, 1, 92, 46⟩⟩
abbrev tQRestm13 : Mem := ⟨[(95, [(tSl 20 40 41), (tVi 88)]), (37, tQRestb5), (95, [.nilsl, (tLi 0)]), (37, tQRestb11)], ⟨110, 0, 1, 50, 25⟩⟩
abbrev tQRestm14 : Mem := ⟨[(95, [(tSl 20 40 41), (tVi 88)]), (37, tQRestb5), (95, [.nilsl, (tLi 0)]), (37, tQRestb11)], ⟨110, 1, 1, 50, 25⟩⟩
abbrev tQRestm15 : Mem := ⟨[(95, [(tSl 10 20 21), (tVi 44)]), (37, tQRestb6), (95, [.nilsl, (tLi 0)]), (37, tQRestb11)], ⟨66, 0, 1, 30, 15⟩⟩
abbrev tQRestm16 : Mem := ⟨[(95, [(tSl 15 30 31), (tVi 66)]), (37, tQRestb7), (95, [.nilsl, (tLi 0)]), (37, tQRestb11)], ⟨88, 0, 1, 40, 20⟩⟩
abbrev tQRestm17 : Mem := ⟨[(95, [(tSl 10 20 21), (tVi 44)]), (37, tQRestb6), (95, [.nilsl, (tLi 0)]), (37, tQRestb11)], ⟨66, 1, 1, 30, 15⟩⟩
abbrev tQRestm18 : Mem := ⟨[(95, [(tSl 15 30 31), (tVi 66)]), (37, tQRestb7), (95, [.nilsl, (tLi 0)]), (37, tQRestb11)], ⟨88, 1, 1, 40, 20⟩⟩
abbrev tQRestm19 : Mem := ⟨[(95, [(tSl 5 10 11), (tVi 22)]), (37, tQRestb8), (95, [.nilsl, (tLi 0)]), (37, tQRestb11)], ⟨44, 0, 1, 20, 10⟩⟩
abbrev tQRestm20 : Mem := ⟨[(95, [(tSl 5 10 11), (tVi 22)]), (37, tQRestb8), (95, [.nilsl, (tLi 0)]), (37, tQRestb11)], ⟨44, 1, 1, 20, 10⟩⟩
abbrev tQRestm21 : Mem := ⟨[(95, [(tSl 0 0 1), (tVi 0)]), (37, tQRestb10), (95, [.nilsl, (tLi 0)]), (37, tQRestb11)], ⟨22, 0, 1, 10, 5⟩⟩
abbrev tQRestm22 : Mem := ⟨[(95, [(tSl 0 0 1), (tVi 0)]), (37, tQRestb10), (95, [.nilsl, (tLi 0)]), (37, tQRestb11)], ⟨22, 1, 1, 10, 5⟩⟩
set_option maxRecDepth 100000 in
theorem tQRest : (runF ⟨tt, fns, { joins := [(5, ⟨[], [0, 1]⟩), (7, ⟨[], [0, 1]⟩), (9, ⟨[], [0, 1]⟩), (11, ⟨[], [0, 1]⟩), (13, ⟨[], [0, 1]⟩), (16, ⟨[(7, .int .i64)], [0]⟩), (27, ⟨[], [0, 1]⟩), (34, ⟨[], [0, 1]⟩), (36, ⟨[], [0, 1]⟩)], loops := [(17, ⟨[(8, .int .i64)], [0, 1]⟩), (29, ⟨[(10, .sl)], [0]⟩)], loads := [33], cur := [41] }⟩ (Try.f56.body.getD .skip) Try.f56.results.toList (entry Try.f56.ntmps [.agg [.sl 0 (.var 0) (.var 1), .int .i64 (.var 0)], .agg [.int .i64 (.var 1), .int .i64 (.var 2), .int .i64 (.var 3), .int .i64 (.var 4), .int .i64 (.var 5), .int .i64 (.var 6), .int .i64 (.var 7), .int .i64 (.var 8), .int .i64 (.var 9), .int .i64 (.var 10), .sl 1 (.var 2) (.var 3), .sl 2 (.var 4) (.var 5), .sl 3 (.var 6) (.var 7), .int .i64 (.var 11), .int .i64 (.var 12), .int .i64 (.var 13), .int .i64 (.var 14), .int .i64 (.var 15), .int .i64 (.var 16), .int .i64 (.var 17), .int .i64 (.var 18), .int .i64 (.var 19), .int .i64 (.var 20), .int .i64 (.var 21), .sl 4 (.var 8) (.var 9)]] [] ⟨22, 0, 0, 10, 5⟩)) =
  (.call 23 [(.lf (tVi 1))] ⟨[(95, [(tSl 0 0 1), (tVi 0)]), (37, tQRestb10), (95, [.nilsl, (tLi 0)]), (37, tQRestb11)], ⟨22, 0, 0, 10, 5⟩⟩ (.lf (.val 0)) tQRestm21 (.join 5 tQRestm21 tQRestm19 (.call 35 [(.lf (.val 0)), (.lf (.int .u8 (.lit 98)))] tQRestm21 (.lf (.bool (.var 0))) tQRestm22 (.br (.var 0) (.call 55 [(.agg [(tSl 0 0 1), (tVi 0)])] tQRestm22 (.tup [(.true, [(tSl 5 10 11), (tVi 22)]), (.false, [(tVi 23)])]) ⟨[(95, [(tSl 0 0 1), (tVi 0)]), (37, tQRestb10), (95, [.nilsl, (tLi 0)]), (37, tQRestb11)], ⟨24, 1, 1, 12, 6⟩⟩ (.call 55 [(.agg [(tSl 5 10 11), (tVi 22)])] ⟨[(95, [(tSl 5 10 11), (tVi 22)]), (37, tQRestb9), (95, [.nilsl, (tLi 0)]), (37, tQRestb11)], ⟨24, 1, 1, 12, 6⟩⟩ (.tup [(.true, [(tSl 6 12 13), (tVi 24)]), (.false, [(tVi 25)])]) ⟨[(95, [(tSl 5 10 11), (tVi 22)]), (37, tQRestb9), (95, [.nilsl, (tLi 0)]), (37, tQRestb11)], ⟨26, 1, 1, 14, 7⟩⟩ (.again 5 ⟨[(.var 24), (.var 1), (.var 2), (.var 3), (.var 4), (.var 23), (.var 25), (.var 7), (.var 8), (.var 9), (.var 10), (.var 11), (.var 12), (.var 13), (.var 14), (.var 15), (.var 16), (.var 17), (.var 18), (.var 19), (.var 20), (.var 21)], [], [], [(.var 12), (.var 13), (.var 2), (.var 3), (.var 4), (.var 5), (.var 6), (.var 7), (.var 8), (.var 9)], [(.var 6), (.var 1), (.var 2), (.var 3), (.var 4)]⟩ ⟨[(95, [(tSl 6 12 13), (tVi 24)]), (37, [(tVi 1), (tVi 2), (tVi 3), (tVi 4), (tVi 23), (tVi 25), (tVi 7), (tVi 8), (tVi 9), (tVi 10), (tSl 1 2 3), (tSl 2 4 5), (tSl 3 6 7), (tVi 11), (tVi 12), (tVi 13), (tVi 14), (tVi 15), (tVi 16), (tVi 17), (tVi 18), (tVi 19), (tVi 20), (tVi 21), (tSl 4 8 9)]), (95, [.nilsl, (tLi 0)]), (37, tQRestb11)], ⟨26, 1, 1, 14, 7⟩⟩))) (.again 5 ⟨[(.var 0), (.var 1), (.var 2), (.var 3), (.var 4), (.var 5), (.var 6), (.var 7), (.var 8), (.var 9), (.var 10), (.var 11), (.var 12), (.var 13), (.var 14), (.var 15), (.var 16), (.var 17), (.var 18), (.var 19), (.var 20), (.var 21)], [], [], [(.var 0), (.var 1), (.var 2), (.var 3), (.var 4), (.var 5), (.var 6), (.var 7), (.var 8), (.var 9)], [(.var 0), (.var 1), (.var 2), (.var 3), (.var 4)]⟩ tQRestm22))) (.join 7 tQRestm19 tQRestm15 (.call 35 [(.lf (.val 0)), (.lf (.int .u8 (.lit 115)))] tQRestm19 (.lf (.bool (.var 0))) tQRestm20 (.br (.var 0) (.call 55 [(.agg [(tSl 5 10 11), (tVi 22)])] tQRestm20 (.tup [(.true, [(tSl 10 20 21), (tVi 44)]), (.false, [(tVi 45)])]) ⟨[(95, [(tSl 5 10 11), (tVi 22)]), (37, tQRestb8), (95, [.nilsl, (tLi 0)]), (37, tQRestb11)], ⟨46, 1, 1, 22, 11⟩⟩ (.again 7 ⟨[(.var 44), (.var 23), (.var 24), (.var 25), (.var 26), (.var 27), (.var 28), (.var 45), (.var 30), (.var 31), (.var 32), (.var 33), (.var 34), (.var 35), (.var 36), (.var 37), (.var 38), (.var 39), (.var 40), (.var 41), (.var 42), (.var 43)], [], [], [(.var 20), (.var 21), (.var 12), (.var 13), (.var 14), (.var 15), (.var 16), (.var 17), (.var 18), (.var 19)], [(.var 10), (.var 6), (.var 7), (.var 8), (.var 9)]⟩ ⟨[(95, [(tSl 10 20 21), (tVi 44)]), (37, [(tVi 23), (tVi 24), (tVi 25), (tVi 26), (tVi 27), (tVi 28), (tVi 45), (tVi 30), (tVi 31), (tVi 32), (tSl 6 12 13), (tSl 7 14 15), (tSl 8 16 17), (tVi 33), (tVi 34), (tVi 35), (tVi 36), (tVi 37), (tVi 38), (tVi 39), (tVi 40), (tVi 41), (tVi 42), (tVi 43), (tSl 9 18 19)]), (95, [.nilsl, (tLi 0)]), (37, tQRestb11)], ⟨46, 1, 1, 22, 11⟩⟩)) (.again 7 ⟨[(.var 22), (.var 23), (.var 24), (.var 25), (.var 26), (.var 27), (.var 28), (.var 29), (.var 30), (.var 31), (.var 32), (.var 33), (.var 34), (.var 35), (.var 36), (.var 37), (.var 38), (.var 39), (.var 40), (.var 41), (.var 42), (.var 43)], [], [], [(.var 10), (.var 11), (.var 12), (.var 13), (.var 14), (.var 15), (.var 16), (.var 17), (.var 18), (.var 19)], [(.var 5), (.var 6), (.var 7), (.var 8), (.var 9)]⟩ tQRestm20))) (.join 9 tQRestm15 tQRestm16 (.call 35 [(.lf (.val 0)), (.lf (.int .u8 (.lit 108)))] tQRestm15 (.lf (.bool (.var 0))) tQRestm17 (.br (.var 0) (.call 55 [(.agg [(tSl 10 20 21), (tVi 44)])] tQRestm17 (.tup [(.true, [(tSl 15 30 31), (tVi 66)]), (.false, [(tVi 67)])]) ⟨[(95, [(tSl 10 20 21), (tVi 44)]), (37, tQRestb6), (95, [.nilsl, (tLi 0)]), (37, tQRestb11)], ⟨68, 1, 1, 32, 16⟩⟩ (.again 9 ⟨[(.var 66), (.var 45), (.var 46), (.var 47), (.var 48), (.var 49), (.var 50), (.var 51), (.var 67), (.var 53), (.var 54), (.var 55), (.var 56), (.var 57), (.var 58), (.var 59), (.var 60), (.var 61), (.var 62), (.var 63), (.var 64), (.var 65)], [], [], [(.var 30), (.var 31), (.var 22), (.var 23), (.var 24), (.var 25), (.var 26), (.var 27), (.var 28), (.var 29)], [(.var 15), (.var 11), (.var 12), (.var 13), (.var 14)]⟩ ⟨[(95, [(tSl 15 30 31), (tVi 66)]), (37, [(tVi 45), (tVi 46), (tVi 47), (tVi 48), (tVi 49), (tVi 50), (tVi 51), (tVi 67), (tVi 53), (tVi 54), (tSl 11 22 23), (tSl 12 24 25), (tSl 13 26 27), (tVi 55), (tVi 56), (tVi 57), (tVi 58), (tVi 59), (tVi 60), (tVi 61), (tVi 62), (tVi 63), (tVi 64), (tVi 65), (tSl 14 28 29)]), (95, [.nilsl, (tLi 0)]), (37, tQRestb11)], ⟨68, 1, 1, 32, 16⟩⟩)) (.again 9 ⟨[(.var 44), (.var 45), (.var 46), (.var 47), (.var 48), (.var 49), (.var 50), (.var 51), (.var 52), (.var 53), (.var 54), (.var 55), (.var 56), (.var 57), (.var 58), (.var 59), (.var 60), (.var 61), (.var 62), (.var 63), (.var 64), (.var 65)], [], [], [(.var 20), (.var 21), (.var 22), (.var 23), (.var 24), (.var 25), (.var 26), (.var 27), (.var 28), (.var 29)], [(.var 10), (.var 11), (.var 12), (.var 13), (.var 14)]⟩ tQRestm17))) (.join 11 tQRestm16 tQRestm13 (.call 35 [(.lf (.val 0)), (.lf (.int .u8 (.lit 116)))] tQRestm16 (.lf (.bool (.var 0))) tQRestm18 (.br (.var 0) (.call 55 [(.agg [(tSl 15 30 31), (tVi 66)])] tQRestm18 (.tup [(.true, [(tSl 20 40 41), (tVi 88)]), (.false, [(tVi 89)])]) ⟨[(95, [(tSl 15 30 31), (tVi 66)]), (37, tQRestb7), (95, [.nilsl, (tLi 0)]), (37, tQRestb11)], ⟨90, 1, 1, 42, 21⟩⟩ (.again 11 ⟨[(.var 88), (.var 67), (.var 68), (.var 69), (.var 70), (.var 71), (.var 72), (.var 73), (.var 74), (.var 89), (.var 76), (.var 77), (.var 78), (.var 79), (.var 80), (.var 81), (.var 82), (.var 83), (.var 84), (.var 85), (.var 86), (.var 87)], [], [], [(.var 40), (.var 41), (.var 32), (.var 33), (.var 34), (.var 35), (.var 36), (.var 37), (.var 38), (.var 39)], [(.var 20), (.var 16), (.var 17), (.var 18), (.var 19)]⟩ ⟨[(95, [(tSl 20 40 41), (tVi 88)]), (37, [(tVi 67), (tVi 68), (tVi 69), (tVi 70), (tVi 71), (tVi 72), (tVi 73), (tVi 74), (tVi 89), (tVi 76), (tSl 16 32 33), (tSl 17 34 35), (tSl 18 36 37), (tVi 77), (tVi 78), (tVi 79), (tVi 80), (tVi 81), (tVi 82), (tVi 83), (tVi 84), (tVi 85), (tVi 86), (tVi 87), (tSl 19 38 39)]), (95, [.nilsl, (tLi 0)]), (37, tQRestb11)], ⟨90, 1, 1, 42, 21⟩⟩)) (.again 11 ⟨[(.var 66), (.var 67), (.var 68), (.var 69), (.var 70), (.var 71), (.var 72), (.var 73), (.var 74), (.var 75), (.var 76), (.var 77), (.var 78), (.var 79), (.var 80), (.var 81), (.var 82), (.var 83), (.var 84), (.var 85), (.var 86), (.var 87)], [], [], [(.var 30), (.var 31), (.var 32), (.var 33), (.var 34), (.var 35), (.var 36), (.var 37), (.var 38), (.var 39)], [(.var 15), (.var 16), (.var 17), (.var 18), (.var 19)]⟩ tQRestm18))) (.join 13 tQRestm13 tQRestm4 (.call 35 [(.lf (.val 0)), (.lf (.int .u8 (.lit 118)))] tQRestm13 (.lf (.bool (.var 0))) tQRestm14 (.br (.var 0) (.call 76 [(.agg [(tSl 20 40 41), (tVi 88)])] tQRestm14 (.tup [(.true, [(tSl 25 50 51), (tVi 110)]), (.true, [(tVi 111), (tSl 26 52 53), (tSl 27 54 55)])]) ⟨[(95, [(tSl 20 40 41), (tVi 88)]), (37, tQRestb5), (95, [.nilsl, (tLi 0)]), (37, tQRestb11)], ⟨112, 1, 1, 56, 28⟩⟩ (.again 13 ⟨[(.var 110), (.var 89), (.var 90), (.var 91), (.var 92), (.var 93), (.var 94), (.var 95), (.var 96), (.var 97), (.var 111), (.var 99), (.var 100), (.var 101), (.var 102), (.var 103), (.var 104), (.var 105), (.var 106), (.var 107), (.var 108), (.var 109)], [], [], [(.var 50), (.var 51), (.var 52), (.var 53), (.var 54), (.var 55), (.var 46), (.var 47), (.var 48), (.var 49)], [(.var 25), (.var 26), (.var 27), (.var 23), (.var 24)]⟩ ⟨[(95, [(tSl 25 50 51), (tVi 110)]), (37, [(tVi 89), (tVi 90), (tVi 91), (tVi 92), (tVi 93), (tVi 94), (tVi 95), (tVi 96), (tVi 97), (tVi 111), (tSl 26 52 53), (tSl 27 54 55), (tSl 23 46 47), (tVi 99), (tVi 100), (tVi 101), (tVi 102), (tVi 103), (tVi 104), (tVi 105), (tVi 106), (tVi 107), (tVi 108), (tVi 109), (tSl 24 48 49)]), (95, [.nilsl, (tLi 0)]), (37, tQRestb11)], ⟨112, 1, 1, 56, 28⟩⟩)) (.again 13 ⟨[(.var 88), (.var 89), (.var 90), (.var 91), (.var 92), (.var 93), (.var 94), (.var 95), (.var 96), (.var 97), (.var 98), (.var 99), (.var 100), (.var 101), (.var 102), (.var 103), (.var 104), (.var 105), (.var 106), (.var 107), (.var 108), (.var 109)], [], [], [(.var 40), (.var 41), (.var 42), (.var 43), (.var 44), (.var 45), (.var 46), (.var 47), (.var 48), (.var 49)], [(.var 20), (.var 21), (.var 22), (.var 23), (.var 24)]⟩ tQRestm14))) (.join 16 tQRestm4 tQRestm5 (.call 35 [(.lf (.val 0)), (.lf (.int .u8 (.lit 111)))] tQRestm4 (.lf (.bool (.var 0))) tQRestm6 (.br (.var 0) (.call 75 [(.agg [(tSl 25 50 51), (tVi 110)]), (.lf (tLi 64))] tQRestm6 (.tup [(.true, [(tSl 30 60 61), (tVi 132)]), (.false, [(tVi 133)])]) ⟨[(95, [(tSl 25 50 51), (tVi 110)]), (37, tQRestb1), (95, [.nilsl, (tLi 0)]), (37, tQRestb11)], ⟨134, 1, 1, 62, 31⟩⟩ (.again 16 ⟨[(.var 133), (.var 132)], [], [], [(.var 60), (.var 61)], [(.var 30)]⟩ ⟨[(95, [(tSl 30 60 61), (tVi 132)]), (37, tQRestb1), (95, [.nilsl, (tLi 0)]), (37, tQRestb11)], ⟨134, 1, 1, 62, 31⟩⟩)) (.again 16 ⟨[(.lit 0), (.var 110)], [], [], [(.var 50), (.var 51)], [(.var 25)]⟩ tQRestm6))) (.loop 17 ⟨[(.lit 0), (.var 133), (.var 111), (.var 112), (.var 113), (.var 114), (.var 115), (.var 116), (.var 117), (.var 118), (.var 119), (.var 120), (.var 121), (.var 122), (.var 123), (.var 124), (.var 125), (.var 126), (.var 127), (.var 128), (.var 129), (.var 130), (.var 131)], [], [], [(.var 60), (.var 61), (.var 52), (.var 53), (.var 54), (.var 55), (.var 56), (.var 57), (.var 58), (.var 59)], [(.var 30), (.var 26), (.var 27), (.var 28), (.var 29)]⟩ tQRestm5 tQRestm7 (.br (.cmp .lss (.var 134) (.var 132)) (.call 55 [(.agg [(tSl 31 62 63), (tVi 135)])] ⟨[(95, [(tSl 31 62 63), (tVi 135)]), (37, tQRestb2), (95, [.nilsl, (tLi 0)]), (37, tQRestb11), (59, tQRestb16)], ⟨157, 0, 1, 72, 36⟩⟩ (.tup [(.true, [(tSl 36 72 73), (tVi 157)]), (.false, [(tVi 158)])]) ⟨[(95, [(tSl 31 62 63), (tVi 135)]), (37, tQRestb2), (95, [.nilsl, (tLi 0)]), (37, tQRestb11), (59, tQRestb16)], ⟨159, 0, 1, 74, 37⟩⟩ (.call 55 [(.agg [(tSl 36 72 73), (tVi 157)])] ⟨[(95, [(tSl 36 72 73), (tVi 157)]), (37, tQRestb2), (95, [.nilsl, (tLi 0)]), (37, tQRestb11), (59, tQRestb15)], ⟨159, 0, 1, 74, 37⟩⟩ (.tup [(.true, [(tSl 37 74 75), (tVi 159)]), (.false, [(tVi 160)])]) ⟨[(95, [(tSl 36 72 73), (tVi 157)]), (37, tQRestb2), (95, [.nilsl, (tLi 0)]), (37, tQRestb11), (59, tQRestb15)], ⟨161, 0, 1, 76, 38⟩⟩ (.call 55 [(.agg [(tSl 37 74 75), (tVi 159)])] ⟨[(95, [(tSl 37 74 75), (tVi 159)]), (37, tQRestb2), (95, [.nilsl, (tLi 0)]), (37, tQRestb11), (59, tQRestb14)], ⟨161, 0, 1, 76, 38⟩⟩ (.tup [(.true, [(tSl 38 76 77), (tVi 161)]), (.false, [(tVi 162)])]) ⟨[(95, [(tSl 37 74 75), (tVi 159)]), (37, tQRestb2), (95, [.nilsl, (tLi 0)]), (37, tQRestb11), (59, tQRestb14)], ⟨163, 0, 1, 78, 39⟩⟩ (.call 76 [(.agg [(tSl 38 76 77), (tVi 161)])] ⟨[(95, [(tSl 38 76 77), (tVi 161)]), (37, tQRestb2), (95, [.nilsl, (tLi 0)]), (37, tQRestb11), (59, tQRestb13)], ⟨163, 0, 1, 78, 39⟩⟩ (.tup [(.true, [(tSl 39 78 79), (tVi 163)]), (.true, [(tVi 164), (tSl 40 80 81), (tSl 41 82 83)])]) ⟨[(95, [(tSl 38 76 77), (tVi 161)]), (37, tQRestb2), (95, [.nilsl, (tLi 0)]), (37, tQRestb11), (59, tQRestb13)], ⟨165, 0, 1, 84, 42⟩⟩ (.gen (.call ⟨(.builtin .append), #[(.tmp 104), (.tmp 106)], #[28, 28]⟩) 28 [(104, (.lf (tSl 34 68 69))), (106, (.lf (.nsl 5 0 1 1)))] ⟨[(95, [(tSl 39 78 79), (tVi 163)]), (37, tQRestb2), (95, [.nilsl, (tLi 0)]), (37, tQRestb11), (59, tQRestb12), (59, tQRestb12)], ⟨165, 0, 1, 84, 42⟩⟩ (.some (.lf (tSl 42 84 85))) ⟨[(95, [(tSl 39 78 79), (tVi 163)]), (37, tQRestb2), (95, [.nilsl, (tLi 0)]), (37, tQRestb11), (59, tQRestb12), (59, tQRestb12)], ⟨165, 0, 1, 86, 43⟩⟩ (.again 17 ⟨[(.op .add .i64 (.var 134) (.lit 1)), (.var 163), (.var 136), (.var 137), (.var 138), (.var 139), (.var 140), (.var 141), (.var 142), (.var 143), (.var 144), (.var 145), (.var 146), (.var 147), (.var 148), (.var 149), (.var 150), (.var 151), (.var 152), (.var 153), (.var 154), (.var 155), (.var 156)], [], [], [(.var 78), (.var 79), (.var 64), (.var 65), (.var 66), (.var 67), (.var 84), (.var 85), (.var 70), (.var 71)], [(.var 39), (.var 32), (.var 33), (.var 42), (.var 35)]⟩ ⟨[(95, [(tSl 39 78 79), (tVi 163)]), (37, [(tVi 136), (tVi 137), (tVi 138), (tVi 139), (tVi 140), (tVi 141), (tVi 142), (tVi 143), (tVi 144), (tVi 145), (tSl 32 64 65), (tSl 33 66 67), (tSl 42 84 85), (tVi 146), (tVi 147), (tVi 148), (tVi 149), (tVi 150), (tVi 151), (tVi 152), (tVi 153), (tVi 154), (tVi 155), (tVi 156), (tSl 35 70 71)]), (95, [.nilsl, (tLi 0)]), (37, tQRestb11), (59, tQRestb12), (59, tQRestb12)], ⟨165, 0, 1, 86, 43⟩⟩)))))) (.join 27 tQRestm7 tQRestm8 (.call 35 [(.lf (.val 0)), (.lf (.int .u8 (.lit 99)))] tQRestm7 (.lf (.bool (.var 0))) tQRestm9 (.br (.var 0) (.call 77 [(.agg [(tSl 31 62 63), (tVi 135)])] tQRestm9 (.tup [(.true, [(tSl 36 72 73), (tVi 157)]), (.true, [(tVi 158), (tVi 159), (tVi 160), (tVi 161), (tVi 162), (tVi 163), (tVi 164), (tVi 165)])]) ⟨[(95, [(tSl 31 62 63), (tVi 135)]), (37, tQRestb2), (95, [.nilsl, (tLi 0)]), (37, tQRestb11)], ⟨166, 1, 1, 74, 37⟩⟩ (.again 27 ⟨[(.var 157), (.var 136), (.var 137), (.var 138), (.var 139), (.var 140), (.var 141), (.var 142), (.var 143), (.var 144), (.var 145), (.var 158), (.var 159), (.var 160), (.var 161), (.var 162), (.var 163), (.var 164), (.var 165), (.var 154), (.var 155), (.var 156)], [], [], [(.var 72), (.var 73), (.var 64), (.var 65), (.var 66), (.var 67), (.var 68), (.var 69), (.var 70), (.var 71)], [(.var 36), (.var 32), (.var 33), (.var 34), (.var 35)]⟩ ⟨[(95, [(tSl 36 72 73), (tVi 157)]), (37, [(tVi 136), (tVi 137), (tVi 138), (tVi 139), (tVi 140), (tVi 141), (tVi 142), (tVi 143), (tVi 144), (tVi 145), (tSl 32 64 65), (tSl 33 66 67), (tSl 34 68 69), (tVi 158), (tVi 159), (tVi 160), (tVi 161), (tVi 162), (tVi 163), (tVi 164), (tVi 165), (tVi 154), (tVi 155), (tVi 156), (tSl 35 70 71)]), (95, [.nilsl, (tLi 0)]), (37, tQRestb11)], ⟨166, 1, 1, 74, 37⟩⟩)) (.again 27 ⟨[(.var 135), (.var 136), (.var 137), (.var 138), (.var 139), (.var 140), (.var 141), (.var 142), (.var 143), (.var 144), (.var 145), (.var 146), (.var 147), (.var 148), (.var 149), (.var 150), (.var 151), (.var 152), (.var 153), (.var 154), (.var 155), (.var 156)], [], [], [(.var 62), (.var 63), (.var 64), (.var 65), (.var 66), (.var 67), (.var 68), (.var 69), (.var 70), (.var 71)], [(.var 31), (.var 32), (.var 33), (.var 34), (.var 35)]⟩ tQRestm9))) (.join 34 tQRestm8 tQRestm10 (.call 35 [(.lf (.val 0)), (.lf (.int .u8 (.lit 114)))] tQRestm8 (.lf (.bool (.var 0))) tQRestm11 (.br (.var 0) (.loop 29 ⟨[(.var 157)], [], [], [(.lit 0), (.lit 0), (.var 72), (.var 73)], [(.nm 4 0), (.var 36)]⟩ ⟨[(95, [(tSl 36 72 73), (tVi 157)]), (37, tQRestb3), (95, [.nilsl, (tLi 0)]), (37, tQRestb11), (3, [])], ⟨179, 1, 1, 82, 41⟩⟩ tQRestm1 (.br (.cmp .lss (.nat 82) (.lit 3)) (.call 78 [(.agg [(tSl 42 84 85), (tVi 179)])] tQRestm1 (.tup [(.true, [(tSl 43 86 87), (tVi 180)]), (.false, [(.int .u64 (.var 181))])]) ⟨[(95, [(tSl 42 84 85), (tVi 179)]), (37, tQRestb3), (95, [.nilsl, (tLi 0)]), (37, tQRestb11), (3, [])], ⟨182, 1, 1, 88, 44⟩⟩ (.call 79 [(.lf (.int .u64 (.var 181)))] ⟨[(95, [(tSl 43 86 87), (tVi 180)]), (37, tQRestb3), (95, [.nilsl, (tLi 0)]), (37, tQRestb11), (3, []), (95, [(tSl 43 86 87), (tVi 180)])], ⟨182, 1, 1, 88, 44⟩⟩ (.lf (tVi 182)) ⟨[(95, [(tSl 43 86 87), (tVi 180)]), (37, tQRestb3), (95, [.nilsl, (tLi 0)]), (37, tQRestb11), (3, []), (95, [(tSl 43 86 87), (tVi 180)])], ⟨183, 1, 1, 88, 44⟩⟩ (.gen (.call ⟨(.builtin .append), #[(.tmp 129), (.tmp 132)], #[25, 25]⟩) 25 [(129, (.lf (tSl 41 82 83))), (132, (.lf (.nsl 6 0 1 1)))] ⟨[(95, [(tSl 43 86 87), (tVi 180)]), (37, tQRestb3), (95, [.nilsl, (tLi 0)]), (37, tQRestb11), (3, []), (95, [(tSl 43 86 87), (tVi 180)]), (3, [(tVi 182)])], ⟨183, 1, 1, 88, 44⟩⟩ (.some (.lf (tSl 44 88 89))) tQRestm0 (.again 29 ⟨[(.var 180)], [], [], [(.var 88), (.var 89), (.var 86), (.var 87)], [(.var 44), (.var 43)]⟩ tQRestm0)))) (.need (.inb 41 (.lit 0) (.nat 82)) (.need (.inb 41 (.lit 1) (.nat 82)) (.need (.inb 41 (.lit 2) (.nat 82)) (.ldq (.adr 41 (.lit 0) 1 0) [(tVi 180)] tQRestm1 tQRestm2 (.ldq (.adr 41 (.lit 1) 1 0) [(tVi 181)] tQRestm2 tQRestm3 (.ldq (.adr 41 (.lit 2) 1 0) [(tVi 182)] tQRestm3 ⟨[(95, [(tSl 42 84 85), (tVi 179)]), (37, tQRestb3), (95, [.nilsl, (tLi 0)]), (37, tQRestb11), (3, [])], ⟨183, 1, 1, 86, 43⟩⟩ (.again 34 ⟨[(.var 179), (.var 158), (.var 159), (.var 160), (.var 161), (.var 162), (.var 163), (.var 164), (.var 165), (.var 166), (.var 167), (.var 168), (.var 169), (.var 170), (.var 171), (.var 172), (.var 173), (.var 174), (.var 175), (.var 180), (.var 181), (.var 182)], [], [], [(.var 84), (.var 85), (.var 74), (.var 75), (.var 76), (.var 77), (.var 78), (.var 79), (.var 80), (.var 81)], [(.var 42), (.var 37), (.var 38), (.var 39), (.var 40)]⟩ ⟨[(95, [(tSl 42 84 85), (tVi 179)]), (37, [(tVi 158), (tVi 159), (tVi 160), (tVi 161), (tVi 162), (tVi 163), (tVi 164), (tVi 165), (tVi 166), (tVi 167), (tSl 37 74 75), (tSl 38 76 77), (tSl 39 78 79), (tVi 168), (tVi 169), (tVi 170), (tVi 171), (tVi 172), (tVi 173), (tVi 174), (tVi 175), (tVi 180), (tVi 181), (tVi 182), (tSl 40 80 81)]), (95, [.nilsl, (tLi 0)]), (37, tQRestb11), (3, [])], ⟨183, 1, 1, 86, 43⟩⟩))))))))) (.again 34 ⟨[(.var 157), (.var 158), (.var 159), (.var 160), (.var 161), (.var 162), (.var 163), (.var 164), (.var 165), (.var 166), (.var 167), (.var 168), (.var 169), (.var 170), (.var 171), (.var 172), (.var 173), (.var 174), (.var 175), (.var 176), (.var 177), (.var 178)], [], [], [(.var 72), (.var 73), (.var 74), (.var 75), (.var 76), (.var 77), (.var 78), (.var 79), (.var 80), (.var 81)], [(.var 36), (.var 37), (.var 38), (.var 39), (.var 40)]⟩ tQRestm11))) (.join 36 tQRestm10 ⟨[(95, [(tSl 46 92 93), (tVi 201)]), (37, tQRestb0), (95, [.nilsl, (tLi 0)]), (37, tQRestb11)], ⟨223, 0, 1, 102, 51⟩⟩ (.call 35 [(.lf (.val 0)), (.lf (.int .u8 (.lit 100)))] tQRestm10 (.lf (.bool (.var 0))) tQRestm12 (.br (.var 0) (.call 80 [(.agg [(tSl 41 82 83), (tVi 179)]), (.lf (tLi 1024))] tQRestm12 (.tup [(.true, [(tSl 46 92 93), (tVi 201)]), (.false, [(tSl 47 94 95)])]) ⟨[(95, [(tSl 41 82 83), (tVi 179)]), (37, tQRestb4), (95, [.nilsl, (tLi 0)]), (37, tQRestb11)], ⟨202, 1, 1, 96, 48⟩⟩ (.again 36 ⟨[(.var 201), (.var 180), (.var 181), (.var 182), (.var 183), (.var 184), (.var 185), (.var 186), (.var 187), (.var 188), (.var 189), (.var 190), (.var 191), (.var 192), (.var 193), (.var 194), (.var 195), (.var 196), (.var 197), (.var 198), (.var 199), (.var 200)], [], [], [(.var 92), (.var 93), (.var 84), (.var 85), (.var 86), (.var 87), (.var 88), (.var 89), (.var 94), (.var 95)], [(.var 46), (.var 42), (.var 43), (.var 44), (.var 47)]⟩ ⟨[(95, [(tSl 46 92 93), (tVi 201)]), (37, [(tVi 180), (tVi 181), (tVi 182), (tVi 183), (tVi 184), (tVi 185), (tVi 186), (tVi 187), (tVi 188), (tVi 189), (tSl 42 84 85), (tSl 43 86 87), (tSl 44 88 89), (tVi 190), (tVi 191), (tVi 192), (tVi 193), (tVi 194), (tVi 195), (tVi 196), (tVi 197), (tVi 198), (tVi 199), (tVi 200), (tSl 47 94 95)]), (95, [.nilsl, (tLi 0)]), (37, tQRestb11)], ⟨202, 1, 1, 96, 48⟩⟩)) (.again 36 ⟨[(.var 179), (.var 180), (.var 181), (.var 182), (.var 183), (.var 184), (.var 185), (.var 186), (.var 187), (.var 188), (.var 189), (.var 190), (.var 191), (.var 192), (.var 193), (.var 194), (.var 195), (.var 196), (.var 197), (.var 198), (.var 199), (.var 200)], [], [], [(.var 82), (.var 83), (.var 84), (.var 85), (.var 86), (.var 87), (.var 88), (.var 89), (.var 90), (.var 91)], [(.var 41), (.var 42), (.var 43), (.var 44), (.var 45)]⟩ tQRestm12))) (.done (.tup [(.true, [(tSl 46 92 93), (tVi 201)]), (.true, tQRestb0)]) ⟨[(95, [(tSl 46 92 93), (tVi 201)]), (37, tQRestb0), (95, [(tSl 46 92 93), (tVi 201)]), (37, tQRestb0)], ⟨223, 0, 1, 102, 51⟩⟩))))))))))))) := by kernel_rfl
end Go.Proofs.Ytadgaefmoobcoaa

namespace Go.Eng
open Go.RowKit Go.Syn
set_option linter.unusedVariables false
set_option linter.unusedSimpArgs false
theorem cells_elt {α : Type} {f : α → Dat} {c : Nat} {w : World} {a : Option Addr} {xs : List α} (h : Cells w a (Dat.cellsAll (xs.map f))) (hc : ∀ x, (f x).cells.length = c) (h0 : 0 < c) {i : Nat} {x : α} (hi : xs[i]? = some x) :
    a.isSome = true ∧ ∀ (N : Nat → Prop), ¬ N ((a.getD ⟨0, 0, none⟩).block) → CellsAt w (.pointer (some (((a.getD ⟨0, 0, none⟩).add (i * c)).add 0))) (f x).cells N := by
  have h1 : ∃ u, (f x).cells[0]? = some u := ⟨_, List.getElem?_eq_getElem (by rw [hc]; exact h0)⟩
  obtain ⟨u, hu⟩ := h1
  obtain ⟨hp, hb, _⟩ := row_cell h hc hi hu
  cases a with
  | none => simp [PlainA] at hp
  | some ad =>
    refine ⟨rfl, fun N hN => ⟨_, rfl, ?_, fun j u hj => ?_⟩⟩
    · rw [add_add']
      have : (ad.add (i * c + 0)).block = ad.block := by unfold Addr.add; split <;> rfl
      show ¬ N (ad.add (i * c + 0)).block
      rw [this]; exact hN
    · obtain ⟨_, _, h3⟩ := row_cell h hc hi hj
      have e : ad = ⟨blk (some ad), ofs (some ad), none⟩ := Option.some.inj hp
      rw [add_add', add_add', show (some ad).getD (⟨0, 0, none⟩ : Addr) = ad from rfl, e, add_plain']
      rw [show i * c + (0 + j) = i * c + j by omega]
      exact h3
end Go.Eng

namespace Go.Eng
open Go.RowKit Go.Syn
set_option linter.unusedVariables false
set_option linter.unusedSimpArgs false
def PureAt (w : World) (V : Value) (e : Ending) (w' : World) : Prop := e = .returned V ∧ Below w.heap.size w w'
def At1 (w : World) (b ty : Nat) (V : Value) (us : List Value) (e : Ending) (w' : World) : Prop := e = .returned V ∧ Blk w' b us ty ∧ w.grownBy w' (some b)
def NewB (w : World) (ty : Nat) (us : List Value) (e : Ending) (w' : World) : Prop := ∃ b, w.heap.size ≤ b ∧ e = .returned (.pointer (some ⟨b, 0, none⟩)) ∧ Blk w' b us ty ∧ Below w.heap.size w w'
section
variable {P : Program} {w : World} {V : Value} {v : SV} {m : Mem} {ρ : Env} {pre : List Nat} {hx : HX} {L : Stack}
theorem pure_done (hv : ∀ ids, v.den ρ ids = V) : (Tree.done v m).holds ⟨P, w, fun _ => False, PureAt w V⟩ ρ pre hx L := fun ids w' hp hf => ⟨by rw [hv ids], hf.chg.below⟩
theorem at1_done {b ty : Nat} {us : List Value} {cs : List LV} {r : List (Nat × List LV)} {n : Cnt} (hv : ∀ ids, v.den ρ ids = V) (hc : ∀ ids, cellsDen ρ ids cs = us) :
    (Tree.done v ⟨(ty, cs) :: r, n⟩).holds ⟨P, w, fun x => x = b, At1 w b ty V us⟩ ρ [b] hx L := fun ids w' hp hf => by
  refine ⟨by rw [hv ids], ?_, hf.chg.grown⟩
  have := hf.blkAt 0 rfl
  rw [idAt0 hp, hc ids] at this
  exact this
theorem new_done {ty k : Nat} {us : List Value} {cs : List LV} {hp0 : List (Nat × List LV)} {n : Cnt} (hk : hp0[k]? = some (ty, cs)) (hv : ∀ ids, v.den ρ ids = .pointer (some ⟨idAt ids k, 0, none⟩)) (hc : ∀ ids, cellsDen ρ ids cs = us) :
    (Tree.done v ⟨hp0, n⟩).holds ⟨P, w, fun _ => False, NewB w ty us⟩ ρ pre hx L := fun ids w' hp hf => by
  have hlt : k < hp0.length := by
    rcases Nat.lt_or_ge k hp0.length with q | q
    · exact q
    · rw [List.getElem?_eq_none q] at hk; cases hk
  refine ⟨idAt ids k, ?_, by rw [hv ids], ?_, hf.chg.below⟩
  · exact (hf.own _ (idAt_mem (by rw [hf.len]; exact hlt))).resolve_right (fun e => e)
  · have := hf.blkAt k hk
    rw [hc ids] at this
    exact this
end
section
variable {P : Program} {W : World} {M : Nat → Prop} {R : Ending → World → Prop} {ρ : Env} {pre : List Nat} {hx : HX} {L : Stack} {f : Nat} {args : List SV} {m m' : Mem} {r : SV} {t : Tree}
theorem node_val (vs : Vals) {av : Array Value} {V : Value} (hcall : ∀ w, Calls P f av w (PureAt w V)) (hargs : ∀ ids, (args.map (SV.den ρ ids)).toArray = av) (hr : ∀ ids, r.den (ρ.add vs) ids = V) (hhp : m'.hp = m.hp) (hfit : hpFits m.c m.hp.length m.hp = true) (hc : (ρ.add vs).cnt = m'.c) (h1 : ∀ v, v ∈ vs.v → v.oneCell' = true)
    (h : t.holds ⟨P, W, M, R⟩ (ρ.add vs) pre hx L) : (Tree.call f args m r m' t).holds ⟨P, W, M, R⟩ ρ pre hx L :=
  node_pure vs hhp hfit hc h1 (fun ids w hp hf => by rw [hargs, hr]; exact hcall w) h
theorem node_newB (ty : Nat) (vs : Vals) {us' : List Value} {av : Array Value} {cs' : List LV} (hcall : ∀ w, Calls P f av w (NewB w ty us')) (hargs : ∀ ids, (args.map (SV.den ρ ids)).toArray = av) (hhp : m'.hp = m.hp ++ [(ty, cs')])
    (hcs' : ∀ ids, cellsDen (ρ.add vs) ids cs' = us') (hr : r = .lf (.ptr m.hp.length 0)) (hfit : hpFits m.c m.hp.length m.hp = true) (hc : (ρ.add vs).cnt = m'.c) (h1 : ∀ v, v ∈ vs.v → v.oneCell' = true)
    (h : t.holds ⟨P, W, M, R⟩ (ρ.add vs) pre hx L) : (Tree.call f args m r m' t).holds ⟨P, W, M, R⟩ ρ pre hx L := by
  refine node_new ty cs' vs hhp hfit hc h1 (fun ids w hp hf => ?_) h
  rw [hargs]
  refine (hcall w).mono ?_
  rintro e w' ⟨b, h1, rfl, h2, h3⟩
  refine ⟨b, h1, ?_, ?_, h3⟩
  · subst hr
    simp only [SV.den, LV.den, idAt_last _ _ hf.len]
  · rw [hcs']; exact h2
end
end Go.Eng
