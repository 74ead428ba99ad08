/- Part 13 of the texts of a proof about the given program: what the statement's proof needs of them. -/
import Derived.Shelf.SlSortCmp.WholeK
import Derived.Test.YtlgpjjgkdpmidaaKProposerAgain12
namespace Go.Eng
open Go.ChangeShapes Go.WideShapes Go.ChangeAt Go.RowKit Go.Syn Go.Lib Go.Sort Go.Proofs
set_option linter.unusedVariables false
set_option linter.unusedSimpArgs false
section
variable {α : Type} [Inhabited α] {enc : α → List Value} {k : Nat}
theorem arr_get (d : Array α) {i : Nat} {x : α} (h : d.toList[i]? = some x) : i < d.size ∧ d[i]! = x := by
  rw [Array.getElem?_toList] at h
  obtain ⟨hi, e⟩ := Array.getElem?_eq_some_iff.1 h
  exact ⟨hi, by rw [getElem!_pos _ i hi, e]⟩
theorem flatK_get (hk : ∀ x, (enc x).length = k) (d : Array α) {t : Nat} (ht : t < d.size * k) : (d.toList.flatMap enc)[t]? = some (flatK enc k d)[t]! := by
  have h0 : 0 < k := Nat.pos_of_ne_zero fun q => by rw [q, Nat.mul_zero] at ht; omega
  have hi : t / k < d.size := Nat.div_lt_of_lt_mul (by rw [Nat.mul_comm]; exact ht)
  have hj : t % k < k := Nat.mod_lt _ h0
  rw [get_flatK enc k d t ht]
  obtain ⟨x, hx⟩ : ∃ x, d.toList[t / k]? = some x := ⟨_, List.getElem?_eq_getElem (by simpa using hi)⟩
  obtain ⟨_, e⟩ := arr_get d hx
  have hu : (enc x)[t % k]? = some (enc x)[t % k]! := by
    rw [getElem!_pos _ _ (by rw [hk]; exact hj)]
    exact List.getElem?_eq_getElem _
  have := flat_get hk hx hu
  rw [e]
  rw [← this]
  congr 1
  rw [Nat.mul_comm]; exact (Nat.div_add_mod t k).symm
theorem rw_holds (hk : ∀ x, (enc x).length = k) {w : World} {g e : Nat} {cur : List Value} {d : Array α} (hg : w.heap[g]? = some (.cells cur.toArray e (0, 0))) (hc : cur.take (d.size * k) = d.toList.flatMap enc) : HoldsK enc k w g 0 d := by
  intro j hj
  rw [size_flatK] at hj
  have h1 := flatK_get hk d hj
  have h2 : cur[j]? = some (flatK enc k d)[j]! := by
    rw [← h1, ← hc, List.getElem?_take, if_pos hj]
  rw [Nat.zero_add]
  refine ⟨?_, ?_⟩
  · unfold World.cell?
    rw [hg]
    simpa using h2
  · unfold World.frozen?
    rw [hg]
    simp
theorem sw_heap (w : World) (g m : Nat) (d : Array α) (os : Array Obj) {j : Nat} (hj : j < w.heap.size) : (sortWorldK enc k w g 0 m d os).heap[j]? = (putRowK enc k w g 0 d).heap[j]? := by
  have hs : j < (putRowK enc k (Sort.ahead w m) g 0 d).heap.size := by
    show j < ((Sort.ahead w m).heap.modify g _).size
    rw [Array.size_modify]; exact hj
  show ((putRowK enc k (Sort.ahead w m) g 0 d).heap ++ os)[j]? = _
  rw [Array.getElem?_append_left hs]; rfl
theorem sw_row (hk : ∀ x, (enc x).length = k) {w : World} {g e cap : Nat} {cur : List Value} {d : Array α} (hg : w.heap[g]? = some (.cells cur.toArray e (0, 0))) (hcap : cap ≠ 0) (hn : d.size ≤ cap) (hm : cap ≤ maxLen) (hl : cur.length = cap * k) (m : Nat) (os : Array Obj) : (HX.rw k e (some ⟨g, 0, none⟩) d.size cap (d.toList.flatMap enc)).X (sortWorldK enc k w g 0 m d os) ∧ Chg (fun b => b = g) w (sortWorldK enc k w g 0 m d os) := by
  have hgs : g < w.heap.size := by
    rcases Nat.lt_or_ge g w.heap.size with q | q
    · exact q
    · rw [Array.getElem?_eq_none q] at hg; cases hg
  have hput : (putRowK enc k w g 0 d).heap[g]? = some (.cells (putCells id 0 (flatK enc k d) cur.toArray) e (0, 0)) := by
    show (w.heap.modify g _)[g]? = _
    rw [Array.getElem?_modify, if_pos rfl, hg]; rfl
  have hle : d.size * k ≤ cap * k := Nat.mul_le_mul_right _ hn
  constructor
  · have hlen : (putCells id 0 (flatK enc k d) cur.toArray).toList.length = cap * k := by
      rw [Array.length_toList]
      unfold putCells
      rw [Array.size_mapIdx]; simpa using hl
    have ht : (putCells id 0 (flatK enc k d) cur.toArray).toList.take (d.size * k) = d.toList.flatMap enc := by
      apply List.ext_getElem?
      intro t
      rw [List.getElem?_take]
      by_cases h : t < d.size * k
      · rw [if_pos h, flatK_get hk d h, Array.getElem?_toList]
        unfold putCells
        rw [Array.getElem?_mapIdx]
        have : cur.toArray[t]? = some cur[t] := by simp
        rw [this]
        simp only [Option.map_some]
        rw [if_pos ⟨Nat.zero_le _, by rw [size_flatK]; omega⟩]; rfl
      · rw [if_neg h, List.getElem?_eq_none]
        have : (d.toList.flatMap enc).length = d.size * k := by
          rw [flat_len hk]; simp
        omega
    have hb : (sortWorldK enc k w g 0 m d os).heap[g]? = some (.cells (putCells id 0 (flatK enc k d) cur.toArray).toList.toArray e (0, 0)) := by
      rw [sw_heap w g m d os hgs, hput]
    have := rw_shut (sz := k) (n := d.size) hcap hb hn hm hlen
    rwa [ht] at this
  · refine ⟨rfl, rfl, rfl, ?_, fun j hj hne => ?_⟩
    · show w.heap.size ≤ ((w.heap.modify g _) ++ os).size
      rw [Array.size_append, Array.size_modify]; omega
    · rw [sw_heap w g m d os hj]
      show (w.heap.modify g _)[j]? = _
      rw [Array.getElem?_modify, if_neg (fun q => hne q.symm)]
end
end Go.Eng
