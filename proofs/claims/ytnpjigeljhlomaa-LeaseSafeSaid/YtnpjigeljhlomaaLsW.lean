/- LeaseSafe. -/
import Derived.Test.YtnpjigeljhlomaaLsP
import Derived.Test.YtnpjigeljhlomaaLsT
import Derived.Test.YtnpjigeljhlomaaHoldN
import Derived.Test.YtnpjigeljhlomaaEng29
namespace Go.Proofs.Ytnpjigeljhlomaa
open Go.ChangeShapes Go.WideShapes Go.ChangeAt Go.RowKit Go.Syn Go.Eng
set_option linter.unusedVariables false
set_option linter.unusedSimpArgs false
set_option maxRecDepth 100000
/-- Granters, each a block. -/
def gsX (ps : List Nat) (gs : List GrD) : HX := ⟨fun k => k ∈ ps, fun w => ∀ (i : Nat) (b : Nat) (g : GrD), ps[i]? = some b → gs[i]? = some g → Blk w b g.cells 61, fun w w' h e i b g hb hg => by
  have := h i b g hb hg
  unfold Blk at *
  rw [e b (List.mem_of_getElem? hb)]; exact this⟩
section
variable {C : Cfg} {ρ : Env} {pre : List Nat} {rest hx : HX} {L : Stack} {m m' : Mem} {args : List SV} {r : SV} {t : Tree} {ps : List Nat} {gs : List GrD}
theorem node_gs {f : Nat} (i : Nat) {b : Nat} {g g' : GrD} {V : Value} (AS : Array Value) (vs : Vals) (hb : ps[i]? = some b) (hgi : gs[i]? = some g) (hnd : ps.Nodup) (hrest : ∀ k ∈ ps, ¬ rest.F k) (hM : ∀ k ∈ ps, C.W.heap.size ≤ k) (hargs : ∀ ids, (args.map (SV.den ρ ids)).toArray = AS)
    (hcall : ∀ w, Blk w b g.cells 61 → Calls C.P f AS w (At1 w b 61 V g'.cells)) (hr : ∀ ids, r.den (ρ.add vs) ids = V) (hhp : m'.hp = m.hp) (hfit : hpFits m.c m.hp.length m.hp = true) (hc : (ρ.add vs).cnt = m'.c) (h1 : ∀ v, v ∈ vs.v → v.oneCell' = true)
    (h : t.holds C (ρ.add vs) pre (rest.and (gsX ps (gs.set i g'))) L) : (Tree.call f args m r m' t).holds C ρ pre (rest.and (gsX ps gs)) L := by
  intro ids w hp hf
  rw [hargs]
  have hmem := List.mem_of_getElem? hb
  refine (hcall w (hf.x.2 i b g hb hgi)).mono ?_
  rintro e w' ⟨rfl, hB, hg⟩
  refine ⟨vs, ids, rest.and (gsX ps (gs.set i g')), by rw [← hr ids], List.prefix_refl _, hf.turn (hx' := rest.and (gsX ps (gs.set i g'))) hg (fun b' e => by cases e; exact ⟨.inr hmem, .inl (hM _ hmem)⟩) ⟨rest.loc w w' hf.x.1 (fun k hk => hg.block k (hf.sep k (.inl hk)).1 (fun e => by cases e; exact hrest _ hmem hk)), ?_⟩ (fun k hk => .inl hk) hhp hfit hc h1, holds_pre t hp h⟩
  intro j b2 g2 hb2 hg2
  by_cases hj : j = i
  · subst hj
    have : j < gs.length := by
      rcases Nat.lt_or_ge j gs.length with q | q
      · exact q
      · rw [List.getElem?_eq_none q] at hgi; cases hgi
    rw [hb] at hb2
    cases hb2
    rw [List.getElem?_set_self this] at hg2
    cases hg2
    exact hB
  · rw [List.getElem?_set_ne (Ne.symm hj)] at hg2
    have hne : b2 ≠ b := fun e => by
      subst e
      exact hj (nodup_idx hnd hb2 hb)
    have h3 := hf.x.2 j b2 g2 hb2 hg2
    have h4 := (hf.sep b2 (.inr (List.mem_of_getElem? hb2))).1
    unfold Blk at *
    rw [hg.block b2 h4 (fun e => by cases e; exact hne rfl)]; exact h3
/-- A new granter. -/
theorem node_gnew {f : Nat} {g : GrD} (AS : Array Value) (hargs : ∀ ids, (args.map (SV.den ρ ids)).toArray = AS) (hcall : ∀ w, Calls C.P f AS w (NewB w 61 g.cells)) (hr : ∀ b ids, r.den (ρ.add ⟨[], [], [.pointer (some ⟨b, 0, none⟩)], [], []⟩) ids = .pointer (some ⟨b, 0, none⟩)) (hhp : m'.hp = m.hp) (hfit : hpFits m.c m.hp.length m.hp = true)
    (hc : ∀ b, (ρ.add ⟨[], [], [.pointer (some ⟨b, 0, none⟩)], [], []⟩).cnt = m'.c) (h : ∀ b, C.W.heap.size ≤ b → ¬ hx.F b → t.holds C (ρ.add ⟨[], [], [.pointer (some ⟨b, 0, none⟩)], [], []⟩) pre (hx.and (gsX [b] [g])) L) : (Tree.call f args m r m' t).holds C ρ pre hx L := by
  refine node_out (fun _ => AS) (fun u hy => ∃ b, u = ⟨[], [], [.pointer (some ⟨b, 0, none⟩)], [], []⟩ ∧ hy = gsX [b] [g]) hargs (fun ids w hp hf => ?_) hhp hfit ?_ ?_
  · refine (hcall w).mono ?_
    rintro e w' ⟨b, h1, rfl, h2, h3⟩
    refine ⟨_, _, ⟨b, rfl, rfl⟩, by rw [hr], fun i b2 g2 hb hg => ?_, fun k hk => ?_, h3⟩
    · cases i with
      | zero => cases hb; cases hg; exact h2
      | succ i => simp at hb
    · have : k = b := by simpa [gsX] using hk
      subst this
      refine ⟨h1, ?_⟩
      unfold Blk at h2
      rcases Nat.lt_or_ge k w'.heap.size with q | q
      · exact q
      · rw [Array.getElem?_eq_none q] at h2; cases h2
  · rintro u hy ⟨b, rfl, rfl⟩
    exact ⟨hc b, fun v hv => by simp only [List.mem_singleton] at hv; subst hv; rfl⟩
  · rintro u hy ⟨b, rfl, rfl⟩ hfr
    exact h b (hfr b (by simp [gsX])).1 (hfr b (by simp [gsX])).2
end
def pcells (ps : List Nat) : List Value := ps.map fun b => Value.pointer (some ⟨b, 0, none⟩)
theorem p_elt {w : World} {a : Option Addr} {ps : List Nat} (h : Cells w a (pcells ps)) {i b : Nat} (hi : ps[i]? = some b) :
    a.isSome = true ∧ ∀ (N : Nat → Prop), ¬ N ((a.getD ⟨0, 0, none⟩).block) → CellsAt w (.pointer (some (((a.getD ⟨0, 0, none⟩).add (i * 1)).add 0))) [.pointer (some ⟨b, 0, none⟩)] N :=
  cl_elt h [.pointer (some ⟨b, 0, none⟩)] (fun j u hj => by
    cases j with
    | zero => simp only [List.getElem?_cons_zero, Option.some.injEq] at hj; subst hj; unfold pcells; rw [Nat.mul_one, Nat.add_zero, List.getElem?_map, hi]; rfl
    | succ j => simp at hj) (by simp)
/-- A pace. -/
structure PcD where
  time : Int
  t0 : Int
  t1 : Int
  t2 : Int
  t3 : Int
  ask : Int
  lost : Bool
  tg : Int
def PcD.cells (p : PcD) : List Value := [.int .i64 p.time, .int .i64 p.t0, .int .i64 p.t1, .int .i64 p.t2, .int .i64 p.t3, .int .i64 p.ask, .bool p.lost, .int .i64 p.tg]
def pccells (ps : List PcD) : List Value := ps.flatMap PcD.cells
theorem pccells_get {ps : List PcD} : ∀ {i : Nat} {e : PcD}, ps[i]? = some e → ∀ j u, e.cells[j]? = some u → (pccells ps)[i * 8 + j]? = some u := by
  induction ps with
  | nil => intro i e h; simp at h
  | cons x r ih =>
    intro i e h j u hj
    have hl : x.cells.length = 8 := rfl
    cases i with
    | zero =>
      simp only [List.getElem?_cons_zero, Option.some.injEq] at h
      subst h
      have : j < x.cells.length := by
        rcases Nat.lt_or_ge j x.cells.length with q | q
        · exact q
        · rw [List.getElem?_eq_none q] at hj; cases hj
      show (x.cells ++ pccells r)[0 * 8 + j]? = _
      rw [Nat.zero_mul, Nat.zero_add, List.getElem?_append_left this]; exact hj
    | succ i =>
      rw [List.getElem?_cons_succ] at h
      show (x.cells ++ pccells r)[(i + 1) * 8 + j]? = _
      rw [List.getElem?_append_right (by omega), hl, show (i + 1) * 8 + j - 8 = i * 8 + j by omega]
      exact ih h j u hj
theorem pc_elt {w : World} {a : Option Addr} {ps : List PcD} (h : Cells w a (pccells ps)) {i : Nat} {e : PcD} (hi : ps[i]? = some e) :
    a.isSome = true ∧ ∀ (N : Nat → Prop), ¬ N ((a.getD ⟨0, 0, none⟩).block) → CellsAt w (.pointer (some (((a.getD ⟨0, 0, none⟩).add (i * 8)).add 0))) e.cells N :=
  cl_elt h e.cells (fun j u hj => pccells_get hi j u hj) (by simp [PcD.cells])
/-- The state between two paces. -/
structure LsS (rho len hold : Int) (k : Nat) (N0 N1 N2 N3 : Int) (gs : List GrD) (mm : List (Int × Int)) : Prop where
  b : ∀ x ∈ [N0, N1, N2, N3], 0 ≤ x ∧ x ≤ 2000 * k
  gl : gs.length = 3
  mb : ∀ p ∈ mm, 0 ≤ p.1 ∧ p.1 ≤ 3 ∧ 0 ≤ p.2 ∧ p.2 ≤ 1000000
  ml : mm.length ≤ k
  g : ∀ (i : Nat) (g : GrD), gs[i]? = some g → g.length = len ∧ 0 ≤ g.since ∧ g.since ≤ 1000000 ∧ ∃ N, [N1, N2, N3][i]? = some N ∧ LsP rho hold N0 mm ((i + 1 : Nat) : Int) N g
theorem keeps_of {t x r : Int} (h : keepsB t x r = true) (hr : r ≤ 255) (ht : t ≤ 1000) : 0 ≤ x ∧ x ≤ 1255 ∧ (1000 - r) * t ≤ 1000 * x ∧ 1000 * x ≤ (1000 + r) * t ∧ 0 ≤ t := by
  obtain ⟨h1, h2, h3, h4, h5, h6, h7, h8⟩ := of_decide_eq_true h
  refine ⟨h5, ?_, h7, h8, h3⟩
  have e1 : (1000 + r) * t ≤ (1000 + r) * 1000 := Int.mul_le_mul_of_nonneg_left ht (by omega)
  omega
theorem LsS.pace {rho len hold : Int} {k : Nat} {N0 N1 N2 N3 : Int} {gs : List GrD} {mm : List (Int × Int)} (h : LsS rho len hold k N0 N1 N2 N3 gs mm) {p : PcD} (hr : rho ≤ 255) (ht : p.time ≤ 1000) (k0 : keepsB p.time p.t0 rho = true) (k1 : keepsB p.time p.t1 rho = true) (k2 : keepsB p.time p.t2 rho = true) (k3 : keepsB p.time p.t3 rho = true) :
    LsS rho len hold (k + 1) (N0 + p.t0) (N1 + p.t1) (N2 + p.t2) (N3 + p.t3) gs mm := by
  obtain ⟨a0, b0, c0, d0, ht0⟩ := keeps_of k0 hr ht
  obtain ⟨a1, b1, c1, d1, _⟩ := keeps_of k1 hr ht
  obtain ⟨a2, b2, c2, d2, _⟩ := keeps_of k2 hr ht
  obtain ⟨a3, b3, c3, d3, _⟩ := keeps_of k3 hr ht
  have q0 := h.b N0 (by simp)
  have q1 := h.b N1 (by simp)
  have q2 := h.b N2 (by simp)
  have q3 := h.b N3 (by simp)
  refine ⟨fun x hx => ?_, h.gl, h.mb, Nat.le_succ_of_le h.ml, fun i g hg => ?_⟩
  · simp only [List.mem_cons, List.not_mem_nil, or_false] at hx
    rcases hx with rfl | rfl | rfl | rfl <;> omega
  · obtain ⟨g1, g2, g3, N, g4, g5⟩ := h.g i g hg
    refine ⟨g1, g2, g3, ?_⟩
    match i, g4 with
    | 0, g4 => cases g4; exact ⟨_, rfl, g5.pace ht0 a0 c0 d1⟩
    | 1, g4 => cases g4; exact ⟨_, rfl, g5.pace ht0 a0 c0 d2⟩
    | 2, g4 => cases g4; exact ⟨_, rfl, g5.pace ht0 a0 c0 d3⟩
theorem barsV_since {g : GrD} {t : Int} (h1 : 0 ≤ g.since ∧ g.since ≤ 1000000) (h2 : 0 ≤ t ∧ t ≤ 1000000) : 0 ≤ (barsV g t).since ∧ (barsV g t).since ≤ 1000000 := by
  have ov : 0 ≤ (overV g t).since ∧ (overV g t).since ≤ 1000000 := by
    unfold overV
    split
    · exact h2
    · exact h1
  unfold barsV
  split
  · exact h1
  · split
    · exact ov
    · exact ov
theorem LsS.set {rho len hold : Int} {k : Nat} {N0 N1 N2 N3 : Int} {gs : List GrD} {mm mm' : List (Int × Int)} (h : LsS rho len hold k N0 N1 N2 N3 gs mm) (i : Nat) {g' : GrD} (hl : g'.length = len) (hs : 0 ≤ g'.since ∧ g'.since ≤ 1000000) (hm : ∀ p ∈ mm', 0 ≤ p.1 ∧ p.1 ≤ 3 ∧ 0 ≤ p.2 ∧ p.2 ≤ 1000000) (hml : mm'.length ≤ k)
    (ho : ∀ (j : Nat) N g, j ≠ i → LsP rho hold N0 mm ((j + 1 : Nat) : Int) N g → LsP rho hold N0 mm' ((j + 1 : Nat) : Int) N g) (hi : ∃ N, [N1, N2, N3][i]? = some N ∧ LsP rho hold N0 mm' ((i + 1 : Nat) : Int) N g') : LsS rho len hold k N0 N1 N2 N3 (gs.set i g') mm' := by
  refine ⟨h.b, by rw [List.length_set]; exact h.gl, hm, hml, fun j g hg => ?_⟩
  by_cases hj : i = j
  · subst hj
    have : i < gs.length := by
      rcases Nat.lt_or_ge i gs.length with q | q
      · exact q
      · rw [List.getElem?_eq_none (by rw [List.length_set]; exact q)] at hg; cases hg
    rw [List.getElem?_set_self this] at hg
    cases hg
    exact ⟨hl, hs.1, hs.2, hi⟩
  · rw [List.getElem?_set_ne hj] at hg
    obtain ⟨g1, g2, g3, N, g4, g5⟩ := h.g j g hg
    exact ⟨g1, g2, g3, N, g4, ho j N g (Ne.symm hj) g5⟩
end Go.Proofs.Ytnpjigeljhlomaa
