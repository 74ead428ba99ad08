/- The reference of layer 6: bytes of a value. -/
import Derived.Test.YticacnankpaohaaQv2
import Derived.Test.YticacnankpaohaaQvT2
import Derived.Test.YticacnankpaohaaVL2
namespace Go.Proofs.Yticacnankpaohaa
open Go.ChangeShapes Go.WideShapes Go.ChangeAt Go.RowKit Go.Syn Go.Eng
set_option linter.unusedVariables false
set_option linter.unusedSimpArgs false
set_option maxRecDepth 100000
/-- Bytes that are put behind one another in a loop. -/
def RbI {α : Type} (W : World) (B : List Int) (l : List α) (f : α → List Int) (vs : Vals) (hx : HX) : Prop := ∃ (k : Nat) (a' : Option Addr) (c' : Nat), k ≤ l.length ∧ (∀ j, c' ≠ 0 → abk a' = some j → W.heap.size ≤ j) ∧
  vs = ⟨[(k : Int)], [], [], [(B ++ (l.take k).flatMap f).length, c'], [a']⟩ ∧ hx = HX.nil.and (frow a' c' (B ++ (l.take k).flatMap f))
set_option maxHeartbeats 4000000 in
theorem rbytes_any (v : Vl) (a1 : Option Addr) (c1 : Nat) (a2 : Option Addr) (c2 : Nat) (hw : VlWf v) (h0 : valE v = 0) (w : World) (H : VlAt w v a1 a2) : Calls Try.prog 17 #[vlV v a1 c1 a2 c2] w (NewO w id (vlB v)) := by
  obtain ⟨r1, r2, r3, r4⟩ := right_len h0
  refine calls_at (tab_ok _) Try.func17 rfl tRBytes (ρ := ⟨[v.k], [], [], [v.cs.length, c1, v.ns.length, c2], [a1, a2]⟩) (ids := []) (hx := HX.nil) rfl (Facts.initP rfl oneNil) ?_
  obtain ⟨b0, e0⟩ : ∃ b, b = numB (natU v.k) := ⟨_, rfl⟩
  have g0 : b0.length ≤ 9 := by rw [e0]; exact numB_len (natU_lt _)
  obtain ⟨b1, e1⟩ : ∃ b, b = numB v.cs.length := ⟨_, rfl⟩
  have g1 : b1.length ≤ 9 := by rw [e1]; exact numB_len (by omega)
  obtain ⟨b2, e2⟩ : ∃ b, b = numB v.ns.length := ⟨_, rfl⟩
  have g2 : b2.length ≤ 9 := by rw [e2]; exact numB_len (by omega)
  refine node_newi (V := id) (bs := b0) (fun _ => #[.int .u64 (IntKind.u64.wrap v.k)]) (fun a' c' => ⟨[], [], [], [b0.length, c'], [a']⟩) (by intros; kernel_rfl) (fun ids w2 _ _ => by rw [natU_c, e0]; exact qn_any (natU_lt _) w2) (by intros; kernel_rfl) (by intros; kernel_rfl) (by intros; kernel_rfl) (by intros; kernel_rfl) (fun _ _ => oneNil) ?_
  intro y0 z0 _ hy0
  have k0 : ∀ k, z0 ≠ 0 → abk y0 = some k → w.heap.size ≤ k := fun k h1 h2 => (hy0 k h1 h2).1
  refine node_cat (a := y0) (cap := z0) (bs := b0) (bs2 := b1) (fun _ => #[.int .u64 (IntKind.u64.wrap (v.cs.length : Int))]) (by intros; kernel_rfl) (fun w h => h.2) (fun k h1 h2 => .inr ⟨h1, h2⟩) (fun ids w2 _ _ => by rw [natU_n (by omega), e1]; exact qn_any (by omega) w2) rfl rfl (by intros; kernel_rfl) (by intros; kernel_rfl) (by intros; kernel_rfl) (by intros; kernel_rfl) (by intros; kernel_rfl) (by intros; kernel_rfl) (fun k h1 h2 => .inl (k0 k h1 h2)) (by omega) (by intros; kernel_rfl) (by intros; kernel_rfl) (by intros; kernel_rfl) (by intros; kernel_rfl) ?_
  intro u1 v1 x1 w1 hh1
  have k1 : ∀ k, w1 ≠ 0 → abk x1 = some k → w.heap.size ≤ k := fun k h1 h2 => (hh1 k h1 h2).elim (fun q => k0 k q.1 q.2) id
  refine loop_i (RbI w (b0 ++ b1) v.cs cmdB) (fun vs => v.cs.length - (vs.i.headD 0).toNat) (fun ids w2 hp hf => ⟨_, ⟨hf.x, hf.sep⟩, 0, x1, w1, Nat.zero_le _, k1, ?_, ?_⟩) ?_
  · rw [List.take_zero, List.flatMap_nil, List.append_nil, List.length_append]; rfl
  · rw [List.take_zero, List.flatMap_nil, List.append_nil]
  rintro vs hx' hcnt ⟨k, a', c', hk, hfr, rfl, rfl⟩
  have hlen : ∀ k, ((v.cs.take k).flatMap cmdB).length ≤ 576 := fun k => by
    have h1 := csB_len (cs := v.cs.take k) (fun c hc => hw.c c (List.mem_of_mem_take hc))
    have h2 : (v.cs.take k).length ≤ 8 := by rw [List.length_take]; omega
    omega
  by_cases hlt : k < v.cs.length
  · refine br_t (show decide ((k : Int) < (v.cs.length : Int)) = true from decide_eq_true (by omega)) ?_
    have hwk : IntKind.i64.wrap ((k : Int) + 1) = ((k + 1 : Nat) : Int) := by rw [wrap_i64 (by omega)]; omega
    obtain ⟨c, hc⟩ : ∃ c, v.cs[k]? = some c := ⟨_, List.getElem?_eq_getElem hlt⟩
    have hcf := hw.c c (List.mem_of_getElem? hc)
    obtain ⟨s, q⟩ := c_elt H.c hc
    refine need_i ⟨s, (show (0 : Int) ≤ k by omega), (show (k : Int) < v.cs.length by omega)⟩ ?_
    refine ⟨⟨c.is, [], [], [], []⟩, fun ids => q _ (fun e => e), ⟨rfl, oneNil⟩, ?_⟩
    have es : (b0 ++ b1) ++ (v.cs.take (k + 1)).flatMap cmdB = ((b0 ++ b1) ++ (v.cs.take k).flatMap cmdB) ++ cmdB c := by rw [flat_step cmdB hc]; simp only [List.append_assoc]
    have hl := hlen k
    obtain ⟨pb, epb⟩ : ∃ x, x = (b0 ++ b1) ++ (v.cs.take k).flatMap cmdB := ⟨_, rfl⟩
    have hpb : pb.length ≤ 600 := by rw [epb, List.length_append, List.length_append]; omega
    obtain ⟨bc, ebc⟩ : ∃ x, x = cmdB c := ⟨_, rfl⟩
    have hbc : bc.length ≤ 72 := by rw [ebc]; exact cmdB_len hcf
    rw [← epb]
    rw [← epb, ← ebc] at es
    refine node_cat (a := a') (cap := c') (bs := pb) (bs2 := bc) (fun _ => #[.agg c.cells.toArray]) (by intros; kernel_rfl) (fun w h => h.2) (fun k h1 h2 => .inr ⟨h1, h2⟩) (fun ids w2 _ _ => by rw [ebc]; exact qcmd_any c hcf w2) rfl rfl (by intros; kernel_rfl) (by intros; kernel_rfl) (by intros; kernel_rfl) (by intros; kernel_rfl) (by intros; kernel_rfl) (by intros; kernel_rfl) (fun k h1 h2 => .inl (hfr k h1 h2)) (by omega) (by intros; kernel_rfl) (by intros; kernel_rfl) (by intros; kernel_rfl) (by intros; kernel_rfl) ?_
    intro u2 v2 x2 w2' hh2 ids w2 hp hf
    refine ⟨_, ⟨hf.x, hf.sep⟩, _, rfl, ⟨k + 1, x2, w2', by omega, fun j h1 h2 => (hh2 j h1 h2).elim (fun q => hfr j q.1 q.2) id, ?_, ?_⟩, ?_⟩
    · rw [es, List.length_append, ← hwk]; rfl
    · rw [es]
    · show v.cs.length - (IntKind.i64.wrap ((k : Int) + 1)).toNat < v.cs.length - ((k : Int)).toNat
      rw [hwk]; omega
  refine br_f (show decide ((k : Int) < (v.cs.length : Int)) = false from decide_eq_false (by omega)) ?_
  obtain rfl : k = v.cs.length := by omega
  rw [List.take_length]
  have hl := hlen v.cs.length
  rw [List.take_length] at hl
  obtain ⟨pb, epb⟩ : ∃ x, x = (b0 ++ b1) ++ v.cs.flatMap cmdB := ⟨_, rfl⟩
  have hpb : pb.length ≤ 600 := by rw [epb, List.length_append, List.length_append]; omega
  rw [← epb]
  refine node_cat (a := a') (cap := c') (bs := pb) (bs2 := b2) (fun _ => #[.int .u64 (IntKind.u64.wrap (v.ns.length : Int))]) (by intros; kernel_rfl) (fun w h => h.2) (fun k h1 h2 => .inr ⟨h1, h2⟩) (fun ids w2 _ _ => by rw [natU_n (by omega), e2]; exact qn_any (by omega) w2) rfl rfl (by intros; kernel_rfl) (by intros; kernel_rfl) (by intros; kernel_rfl) (by intros; kernel_rfl) (by intros; kernel_rfl) (by intros; kernel_rfl) (fun k h1 h2 => .inl (hfr k h1 h2)) (by omega) (by intros; kernel_rfl) (by intros; kernel_rfl) (by intros; kernel_rfl) (by intros; kernel_rfl) ?_
  intro u3 v3 x3 w3 hh3
  have k3 : ∀ k, w3 ≠ 0 → abk x3 = some k → w.heap.size ≤ k := fun k h1 h2 => (hh3 k h1 h2).elim (fun q => hfr k q.1 q.2) id
  refine loop_i (RbI w (pb ++ b2) v.ns (fun n => numB (natU n))) (fun vs => v.ns.length - (vs.i.headD 0).toNat) (fun ids w2 hp hf => ⟨_, ⟨hf.x, hf.sep⟩, 0, x3, w3, Nat.zero_le _, k3, ?_, ?_⟩) ?_
  · rw [List.take_zero, List.flatMap_nil, List.append_nil, List.length_append]; rfl
  · rw [List.take_zero, List.flatMap_nil, List.append_nil]
  rintro vs hx' hcnt2 ⟨k, a4, c4, hk4, hfr4, rfl, rfl⟩
  have hlen2 : ((v.ns.take k).flatMap fun n => numB (natU n)).length ≤ 63 := by
    have h1 := nsB_len (v.ns.take k)
    have h2 : (v.ns.take k).length ≤ 7 := by rw [List.length_take]; omega
    omega
  by_cases hlt : k < v.ns.length
  · refine br_t (show decide ((k : Int) < (v.ns.length : Int)) = true from decide_eq_true (by omega)) ?_
    have hwk : IntKind.i64.wrap ((k : Int) + 1) = ((k + 1 : Nat) : Int) := by rw [wrap_i64 (by omega)]; omega
    obtain ⟨n, hn⟩ : ∃ n, v.ns[k]? = some n := ⟨_, List.getElem?_eq_getElem hlt⟩
    obtain ⟨s, q⟩ := ints_at H.n hn
    refine need_i ⟨s, (show (0 : Int) ≤ k by omega), (show (k : Int) < v.ns.length by omega)⟩ ?_
    refine ⟨⟨[n], [], [], [], []⟩, fun ids => q _ (fun e => e), ⟨rfl, oneNil⟩, ?_⟩
    have es := flat_step (fun n => numB (natU n)) hn
    obtain ⟨bn, ebn⟩ : ∃ x, x = numB (natU n) := ⟨_, rfl⟩
    have hbn : bn.length ≤ 9 := by rw [ebn]; exact numB_len (natU_lt _)
    have es2 : (pb ++ b2) ++ ((v.ns.take (k + 1)).flatMap fun n => numB (natU n)) = ((pb ++ b2) ++ ((v.ns.take k).flatMap fun n => numB (natU n))) ++ bn := by rw [es, ebn]; simp only [List.append_assoc]
    obtain ⟨pc, epc⟩ : ∃ x, x = (pb ++ b2) ++ ((v.ns.take k).flatMap fun n => numB (natU n)) := ⟨_, rfl⟩
    have hpc : pc.length ≤ 700 := by rw [epc, List.length_append, List.length_append]; omega
    rw [← epc]
    rw [← epc] at es2
    refine node_cat (a := a4) (cap := c4) (bs := pc) (bs2 := bn) (fun _ => #[.int .u64 (IntKind.u64.wrap n)]) (by intros; kernel_rfl) (fun w h => h.2) (fun k h1 h2 => .inr ⟨h1, h2⟩) (fun ids w2 _ _ => by rw [natU_c, ebn]; exact qn_any (natU_lt _) w2) rfl rfl (by intros; kernel_rfl) (by intros; kernel_rfl) (by intros; kernel_rfl) (by intros; kernel_rfl) (by intros; kernel_rfl) (by intros; kernel_rfl) (fun k h1 h2 => .inl (hfr4 k h1 h2)) (by omega) (by intros; kernel_rfl) (by intros; kernel_rfl) (by intros; kernel_rfl) (by intros; kernel_rfl) ?_
    intro u2 v2 x2 w2' hh2 ids w2 hp hf
    refine ⟨_, ⟨hf.x, hf.sep⟩, _, rfl, ⟨k + 1, x2, w2', by omega, fun j h1 h2 => (hh2 j h1 h2).elim (fun q => hfr4 j q.1 q.2) id, ?_, ?_⟩, ?_⟩
    · rw [es2, List.length_append, ← hwk]; rfl
    · rw [es2]
    · show v.ns.length - (IntKind.i64.wrap ((k : Int) + 1)).toNat < v.ns.length - ((k : Int)).toNat
      rw [hwk]; omega
  refine br_f (show decide ((k : Int) < (v.ns.length : Int)) = false from decide_eq_false (by omega)) ?_
  obtain rfl : k = v.ns.length := by omega
  rw [List.take_length]
  have e : vlB v = (pb ++ b2) ++ v.ns.flatMap fun n => numB (natU n) := by rw [epb, e0, e1, e2]; simp [vlB, List.append_assoc]
  rw [← e]
  intro ids w2 hp hf
  exact ⟨a4, c4, rfl, hf.x.2, hfr4, hf.chg.below⟩
end Go.Proofs.Yticacnankpaohaa
