/- The reference of layer 6: commands, values, Decode. -/
import Derived.Test.YticacnankpaohaaQv4
namespace Go.Proofs.Yticacnankpaohaa
open Go.ChangeShapes Go.WideShapes Go.ChangeAt Go.RowKit Go.Syn Go.Eng
set_option linter.unusedVariables false
set_option linter.unusedSimpArgs false
set_option maxRecDepth 100000
def vnN (bs : List Int) (k : Nat) (p : Nat × Int) : List Int := (List.range k).map fun j => vaN bs (itN (stN bs) j p)
theorem vnN_step (bs : List Int) (k : Nat) (p : Nat × Int) : vnN bs (k + 1) p = vnN bs k p ++ [vaN bs (itN (stN bs) k p)] := by unfold vnN; rw [List.range_succ, List.map_append]; rfl
theorem vnN_len (bs : List Int) (k : Nat) (p : Nat × Int) : (vnN bs k p).length = k := by unfold vnN; rw [List.length_map, List.length_range]
theorem ints_get {ns : List Int} {i : Nat} {x : Int} (h : ns[i]? = some x) : ∀ j u, [Value.int .i64 x][j]? = some u → (ns.map (Value.int .i64))[i * 1 + j]? = some u := fun j u hj => by
  cases j with
  | zero =>
    simp only [List.getElem?_cons_zero, Option.some.injEq] at hj
    subst hj
    rw [Nat.mul_one, Nat.add_zero, List.getElem?_map, h]; rfl
  | succ j => simp at hj
/-- An int of a row that is told of. -/
theorem nrow_ldq {an : Option Addr} {n c : Nat} {ns : List Int} {w : World} (hX : (nrow an n c ns).X w) {i : Nat} {x : Int} (h : ns[i]? = some x) (N : Nat → Prop) (hN : ∀ k, (nrow an n c ns).F k → ¬ N k) : CellsAt w (.pointer (some (((an.getD ⟨0, 0, none⟩).add (i * 1)).add 0))) [.int .i64 x] N := by
  refine (cl_elt (rw_cells hX) [.int .i64 x] (ints_get h) (by simp)).2 N ?_
  have hc : c ≠ 0 := fun q => by
    rcases hX with ⟨_, _, h3⟩ | ⟨h3, _⟩
    · have : ns = [] := by simpa using h3
      rw [this] at h; simp at h
    · exact h3 q
  obtain ⟨g, _, rfl, _⟩ := rw_open hX hc
  exact hN g ⟨hc, rfl⟩
def QcI (W : World) (a : Option Addr) (bs : List Int) (p : Nat × Int) (vs : Vals) (hx : HX) : Prop := ∃ (k : Nat) (an : Option Addr) (c : Nat) (al : Option Addr) (cl : Nat), k ≤ 8 ∧ (∀ j, c ≠ 0 → abk an = some j → W.heap.size ≤ j) ∧ (c ≠ 0 → an.isSome = true) ∧ (k ≠ 0 → c ≠ 0) ∧ AtP bs a al cl (itN (stN bs) k p) ∧
  vs = ⟨[(itN (stN bs) k p).2], [], [], [k, c, (bs.drop (itN (stN bs) k p).1).length, cl], [an, al]⟩ ∧ hx = HX.nil.and (nrow an k c (vnN bs k p))
theorem or_fresh {W : World} {a a' : Option Addr} {cap : Nat} {F : Nat → Prop} (h : ∀ j, cap ≠ 0 → abk a = some j → W.heap.size ≤ j) (hor : (cap ≠ 0 ∧ abk a' = abk a) ∨ ∃ g, abk a' = some g ∧ W.heap.size ≤ g ∧ ¬ F g) : ∀ j, abk a' = some j → W.heap.size ≤ j := fun j hj => by
  rcases hor with ⟨q1, q2⟩ | ⟨g, q1, q2, _⟩
  · exact h j q1 (q2 ▸ hj)
  · rw [q1] at hj; cases hj; exact q2
theorem or_some {W : World} {a a' : Option Addr} {cap : Nat} {F : Nat → Prop} (h : cap ≠ 0 → a.isSome = true) (hor : (cap ≠ 0 ∧ abk a' = abk a) ∨ ∃ g, abk a' = some g ∧ W.heap.size ≤ g ∧ ¬ F g) : a'.isSome = true := by
  cases a' with
  | some x => rfl
  | none =>
    rcases hor with ⟨q1, q2⟩ | ⟨g, q1, _⟩
    · have := h q1
      cases a with
      | none => cases this
      | some y => cases q2
    · cases q1
set_option maxHeartbeats 4000000 in
theorem qtakecmd {w : World} {bs : List Int} {a a' : Option Addr} {c' : Nat} {p : Nat × Int} (H : Qb w a bs) (hA : AtP bs a a' c' p) : Calls Try.prog 56 #[qR bs a' c' p] w (fun e w' => ∃ a2 c2, e = .returned (.tuple #[qR bs a2 c2 (tcS bs p), .agg (tcC bs p).cells.toArray]) ∧ AtP bs a a2 c2 (tcS bs p) ∧ Below w.heap.size w w') := by
  refine calls_at (tab_ok _) Try.func56 rfl tQTakeCmd (ρ := ⟨[p.2], [], [], [(bs.drop p.1).length, c'], [a']⟩) (ids := []) (hx := HX.nil) rfl (Facts.initP rfl oneNil) ?_
  refine loop_i (QcI w a bs p) (fun vs => 8 - vs.n.headD 0) (fun ids w2 hp hf => ⟨HX.nil.and (nrow (some ⟨idAt ids 3, 0, none⟩) 0 0 []), ⟨⟨trivial, HX.rw_nil _ _ _ _⟩, fun b hb => hb.elim (fun h => h.elim) (fun h => absurd rfl h.1)⟩, 0, some ⟨idAt ids 3, 0, none⟩, 0, a', c', Nat.zero_le _, fun j q => absurd rfl q, fun q => absurd rfl q, fun q => absurd rfl q, hA, rfl, rfl⟩) ?_
  rintro vs hx' hcnt ⟨k, an, c, al, cl, hk, hfr, hsm, hkc, hAk, rfl, rfl⟩
  by_cases hlt : k < 8
  · refine br_t (show decide ((k : Int) < 8) = true from decide_eq_true (by omega)) ?_
    obtain ⟨pk, epk⟩ : ∃ x, x = itN (stN bs) k p := ⟨_, rfl⟩
    obtain ⟨pn, epn⟩ : ∃ x, x = itN (stN bs) (k + 1) p := ⟨_, rfl⟩
    have hpn : stN bs pk = pn := by rw [epn, epk]; rfl
    have hns := vnN_step bs k p
    obtain ⟨ns, ens⟩ : ∃ x, x = vnN bs k p := ⟨_, rfl⟩
    rw [← epk, ← ens] at hns
    rw [← epk, ← ens]
    rw [← epk] at hAk
    have hu : unN bs pk < 2 ^ 64 := readN_u64 (l := bs.drop pk.1) (fun b q => H.byt b (List.mem_of_mem_drop q)) pk.2
    obtain ⟨u, eu⟩ : ∃ x, x = unN bs pk := ⟨_, rfl⟩
    rw [← eu] at hu
    refine node_q (bs := bs) (a := a) (p' := pn) (V := fun v => .tuple #[v, .int .u64 (u : Int)]) #[qR bs al cl pk] (fun a2 c2 => ⟨[pn.2, (u : Int)], [], [], [(bs.drop pn.1).length, c2], [a2]⟩) (by intros; kernel_rfl) (by intros; kernel_rfl) (by intros; kernel_rfl) (by intros; kernel_rfl) (fun _ _ => oneNil) (by intros; kernel_rfl) (fun ids w2 hp hf => by rw [eu, ← hpn]; exact qnumP (H.keep (facts_old (fun _ q => q) hf)) hAk) ?_
    intro a3 c3 hA3
    refine node_val ⟨[unfoldN u], [], [], [], []⟩ (fun w => runfold_any hu w) (by intros; kernel_rfl) (by intros; kernel_rfl) (by intros; kernel_rfl) (by intros; kernel_rfl) (by intros; kernel_rfl) oneNil ?_
    refine node_pushs (sz := 1) (vs := [.int .i64 (unfoldN u)]) rfl Try.underlying23 info_int1 rfl (by decide) an k c (ns.map (Value.int .i64)) 5 (by intros; kernel_rfl) (by intros; kernel_rfl) rfl (by intros; kernel_rfl) rfl (by simp [Value.oneCell']) (fun j _ _ q => q.elim) (fun j h1 h2 => .inl (hfr j h1 h2)) (by unfold maxLen; omega) (by omega) (by intros; kernel_rfl) (by intros; kernel_rfl) (by intros; kernel_rfl) (by intros; kernel_rfl) ?_
    intro b1 d1 hd1 hf1 hor1
    have hv : vaN bs pk = unfoldN u := by rw [eu]; rfl
    rw [ncells_snoc, ← hv, ← hns]
    intro ids w2 hp hf
    refine ⟨_, ⟨hf.x, hf.sep⟩, _, rfl, ⟨k + 1, b1, d1, a3, c3, by omega, fun j _ h2 => or_fresh hfr hor1 j h2, fun _ => or_some hsm hor1, fun _ => hd1, by rw [← epn]; exact hA3, ?_, rfl⟩, ?_⟩
    · rw [← epn]; rfl
    · show 8 - (k + 1) < 8 - k
      omega
  refine br_f (show decide ((k : Int) < 8) = false from decide_eq_false (by omega)) ?_
  obtain rfl : k = 8 := by omega
  have h8 := hkc (by decide)
  have hs := hsm h8
  have hl8 := vnN_len bs 8 p
  have hS : itN (stN bs) 8 p = tcS bs p := rfl
  have hg : ∀ i : Nat, i < 8 → (vnN bs 8 p)[i]? = some (vaN bs (itN (stN bs) i p)) := fun i hi => by
    unfold vnN
    rw [List.getElem?_map, List.getElem?_range hi]; rfl
  have hC : tcC bs p = ⟨vaN bs (itN (stN bs) 0 p), vaN bs (itN (stN bs) 1 p), vaN bs (itN (stN bs) 2 p), ⟨vaN bs (itN (stN bs) 3 p), vaN bs (itN (stN bs) 4 p), vaN bs (itN (stN bs) 5 p), vaN bs (itN (stN bs) 6 p), vaN bs (itN (stN bs) 7 p)⟩⟩ := rfl
  rw [hC]
  rw [hS] at hAk ⊢
  obtain ⟨ps, eps⟩ : ∃ x, x = tcS bs p := ⟨_, rfl⟩
  rw [← eps] at hAk ⊢
  obtain ⟨x0, ex0⟩ : ∃ x, x = vaN bs (itN (stN bs) 0 p) := ⟨_, rfl⟩
  have hx0 := hg 0 (by decide)
  rw [← ex0] at hx0 ⊢
  obtain ⟨x1, ex1⟩ : ∃ x, x = vaN bs (itN (stN bs) 1 p) := ⟨_, rfl⟩
  have hx1 := hg 1 (by decide)
  rw [← ex1] at hx1 ⊢
  obtain ⟨x2, ex2⟩ : ∃ x, x = vaN bs (itN (stN bs) 2 p) := ⟨_, rfl⟩
  have hx2 := hg 2 (by decide)
  rw [← ex2] at hx2 ⊢
  obtain ⟨x3, ex3⟩ : ∃ x, x = vaN bs (itN (stN bs) 3 p) := ⟨_, rfl⟩
  have hx3 := hg 3 (by decide)
  rw [← ex3] at hx3 ⊢
  obtain ⟨x4, ex4⟩ : ∃ x, x = vaN bs (itN (stN bs) 4 p) := ⟨_, rfl⟩
  have hx4 := hg 4 (by decide)
  rw [← ex4] at hx4 ⊢
  obtain ⟨x5, ex5⟩ : ∃ x, x = vaN bs (itN (stN bs) 5 p) := ⟨_, rfl⟩
  have hx5 := hg 5 (by decide)
  rw [← ex5] at hx5 ⊢
  obtain ⟨x6, ex6⟩ : ∃ x, x = vaN bs (itN (stN bs) 6 p) := ⟨_, rfl⟩
  have hx6 := hg 6 (by decide)
  rw [← ex6] at hx6 ⊢
  obtain ⟨x7, ex7⟩ : ∃ x, x = vaN bs (itN (stN bs) 7 p) := ⟨_, rfl⟩
  have hx7 := hg 7 (by decide)
  rw [← ex7] at hx7 ⊢
  obtain ⟨ns, ens⟩ : ∃ x, x = vnN bs 8 p := ⟨_, rfl⟩
  rw [← ens]
  rw [← ens] at hx0
  rw [← ens] at hx1
  rw [← ens] at hx2
  rw [← ens] at hx3
  rw [← ens] at hx4
  rw [← ens] at hx5
  rw [← ens] at hx6
  rw [← ens] at hx7
  refine need_i ⟨hs, (show (0 : Int) ≤ 0 by omega), (show (0 : Int) < (8 : Int) by omega)⟩ ?_
  refine need_i ⟨hs, (show (0 : Int) ≤ 1 by omega), (show (1 : Int) < (8 : Int) by omega)⟩ ?_
  refine need_i ⟨hs, (show (0 : Int) ≤ 2 by omega), (show (2 : Int) < (8 : Int) by omega)⟩ ?_
  refine need_i ⟨hs, (show (0 : Int) ≤ 3 by omega), (show (3 : Int) < (8 : Int) by omega)⟩ ?_
  refine need_i ⟨hs, (show (0 : Int) ≤ 4 by omega), (show (4 : Int) < (8 : Int) by omega)⟩ ?_
  refine need_i ⟨hs, (show (0 : Int) ≤ 5 by omega), (show (5 : Int) < (8 : Int) by omega)⟩ ?_
  refine need_i ⟨hs, (show (0 : Int) ≤ 6 by omega), (show (6 : Int) < (8 : Int) by omega)⟩ ?_
  refine need_i ⟨hs, (show (0 : Int) ≤ 7 by omega), (show (7 : Int) < (8 : Int) by omega)⟩ ?_
  refine node_ldq ⟨[x0], [], [], [], []⟩ (fun ids w2 hp hf => nrow_ldq (i := 0) hf.x.2 hx0 _ (fun k h q => q (.inr h))) (fun ids w2 hf => envUp hf (by kernel_rfl) oneNil) ?_
  refine node_ldq ⟨[x1], [], [], [], []⟩ (fun ids w2 hp hf => nrow_ldq (i := 1) hf.x.2 hx1 _ (fun k h q => q (.inr h))) (fun ids w2 hf => envUp hf (by kernel_rfl) oneNil) ?_
  refine node_ldq ⟨[x2], [], [], [], []⟩ (fun ids w2 hp hf => nrow_ldq (i := 2) hf.x.2 hx2 _ (fun k h q => q (.inr h))) (fun ids w2 hf => envUp hf (by kernel_rfl) oneNil) ?_
  refine node_ldq ⟨[x3], [], [], [], []⟩ (fun ids w2 hp hf => nrow_ldq (i := 3) hf.x.2 hx3 _ (fun k h q => q (.inr h))) (fun ids w2 hf => envUp hf (by kernel_rfl) oneNil) ?_
  refine node_ldq ⟨[x4], [], [], [], []⟩ (fun ids w2 hp hf => nrow_ldq (i := 4) hf.x.2 hx4 _ (fun k h q => q (.inr h))) (fun ids w2 hf => envUp hf (by kernel_rfl) oneNil) ?_
  refine node_ldq ⟨[x5], [], [], [], []⟩ (fun ids w2 hp hf => nrow_ldq (i := 5) hf.x.2 hx5 _ (fun k h q => q (.inr h))) (fun ids w2 hf => envUp hf (by kernel_rfl) oneNil) ?_
  refine node_ldq ⟨[x6], [], [], [], []⟩ (fun ids w2 hp hf => nrow_ldq (i := 6) hf.x.2 hx6 _ (fun k h q => q (.inr h))) (fun ids w2 hf => envUp hf (by kernel_rfl) oneNil) ?_
  refine node_ldq ⟨[x7], [], [], [], []⟩ (fun ids w2 hp hf => nrow_ldq (i := 7) hf.x.2 hx7 _ (fun k h q => q (.inr h))) (fun ids w2 hf => envUp hf (by kernel_rfl) oneNil) ?_
  intro ids w2 hp hf
  exact ⟨al, cl, by kernel_rfl, hAk, hf.chg.below⟩
end Go.Proofs.Yticacnankpaohaa
