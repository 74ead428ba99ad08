/- What the frames of the laws need: arguments as the walks take them. No program in sight. -/
import Derived.Test.YtkkmcgoiipkblaaLib
set_option linter.unusedVariables false
set_option linter.unusedSimpArgs false
namespace Go.Syn
open Go.RowKit
/-! What the frames of the laws need: arguments as the walks take them. -/
theorem I64.of_wf {n : Int} (h : (Lit.int .i64 n).wf = true) : I64 n := by
  simp [Lit.wf, IntKind.min, IntKind.max, IntKind.signed, IntKind.bits] at h
  unfold I64; omega
theorem I64.wf {n : Int} (h : I64 n) : (Lit.int .i64 n).wf = true := WalkArith.wf_i64 h

theorem Ints.of_row {W : World} {x : Addr} {len cap : Nat} {zs : List Int} (hl : len ≤ cap) (hm : cap ≤ maxLen) (hz : len ≤ zs.length)
    (hc : ∀ i, i < zs.length → W.cell? (x.add i) = some (.int .i64 (zs.getD i 0))) (hw : ∀ n ∈ zs, (Lit.int .i64 n).wf = true) : Ints W (some x) (zs.take len) ∧ (zs.take len).length = len := by
  have hlen : (zs.take len).length = len := by simp; omega
  refine ⟨⟨?_, ?_, ?_⟩, hlen⟩
  · unfold maxLen at hm; omega
  · exact fun n hn => I64.of_wf (hw n (List.mem_of_mem_take hn))
  · intro h0
    obtain ⟨b, off, spot⟩ := x
    have hspot : spot = none := by simpa [Addr.add] using World.cell?_spot (hc 0 (by omega))
    subst hspot
    have hc' : ∀ i, i < len → W.cell? ⟨b, off + i, none⟩ = some (.int .i64 ((zs.take len).getD i 0)) := fun i hi => by
      have := hc i (by omega)
      rw [Go.WideShapes.add_plain] at this
      rw [this]; simp [List.getD, List.getElem?_take, hi]
    refine ⟨rfl, ?_, fun i hi => hc' i (by omega)⟩
    exact World.block_lt_of_cell? W ⟨b, off, none⟩ (by simpa using hc' 0 (by omega))
end Go.Syn

namespace Go.Syn
open Go.RowKit
theorem Ints.litAt (w : World) (b : Nat) (xs : List Int) (T : TypeId) (hl : xs.length ≤ 9223372036854775807) (hf : ∀ x ∈ xs, I64 x) (hb : w.heap.size = b) :
    Ints (w.alloc (.cells (xs.map (Value.int .i64)).toArray T)) (some ⟨b, 0, none⟩) xs := by
  subst hb; exact Ints.of_block xs hl hf (heap_top w _)
theorem Ints.lit (w : World) (xs : List Int) (T : TypeId) (hl : xs.length ≤ 9223372036854775807) (hf : ∀ x ∈ xs, I64 x) :
    ∀ w', Below (w.heap.size + 1) (w.alloc (.cells (xs.map (Value.int .i64)).toArray T)) w' → Ints w' (some ⟨w.heap.size, 0, none⟩) xs := fun w' hb =>
  (Ints.of_block xs hl hf (heap_top w _)).ext (by simpa using hb)
end Go.Syn

namespace Go.RowKit
theorem Below.step {W a b : World} (h : Below W.heap.size W a) (hb : Below a.heap.size a b) : Below W.heap.size W b := h.trans (hb.mono h.size)
theorem Below.cellOf {W w' : World} (h : Below W.heap.size W w') {b o : Nat} {v : Value} (hc : W.cell? ⟨b, o, none⟩ = some v) : w'.cell? ⟨b, o, none⟩ = some v := by
  rw [h.cell (p := ⟨b, o, none⟩) (World.block_lt_of_cell? W ⟨b, o, none⟩ hc)]; exact hc
theorem Below.ltOf {W w' : World} (h : Below W.heap.size W w') {b : Nat} (hb : b < W.heap.size) : b < w'.heap.size := Nat.lt_of_lt_of_le hb h.size
end Go.RowKit
