/- A call whose answer is new memory; lists. No program in sight. -/
import Derived.Test.YtadgaefmoobcoaaEng28
namespace Go.Eng
open Go.RowKit Go.Syn
set_option linter.unusedVariables false
theorem nodup_idx {α : Type} {l : List α} (h : l.Nodup) {i j : Nat} {x : α} (hi : l[i]? = some x) (hj : l[j]? = some x) : i = j := by
  obtain ⟨q1, e1⟩ := List.getElem?_eq_some_iff.1 hi
  obtain ⟨q2, e2⟩ := List.getElem?_eq_some_iff.1 hj
  have hp := List.pairwise_iff_getElem.1 h
  rcases Nat.lt_trichotomy i j with q | q | q
  · exact absurd (e1.trans e2.symm) (hp i j q1 q2 q)
  · exact q
  · exact absurd (e2.trans e1.symm) (hp j i q2 q1 q)
theorem blk_cells {w : World} {b ty : Nat} {us : List Value} (h : Blk w b us ty) : Cells w (some ⟨b, 0, none⟩) us := fun h0 => by
  refine ⟨rfl, ?_, fun i u hi => ?_⟩
  · show b < w.heap.size
    rcases Nat.lt_or_ge b w.heap.size with q | q
    · exact q
    · have h2 : w.heap[b]? = _ := h
      rw [Array.getElem?_eq_none q] at h2; cases h2
  · have := cells_blk (o := 0) h i
    rw [Nat.zero_add] at this
    show w.cell? ⟨b, 0 + i, none⟩ = some u
    rw [Nat.zero_add, ← hi]
    exact this
section
variable {C : Cfg} {ρ : Env} {pre : List Nat} {hx hx2 : HX} {L : Stack} {m m' : Mem} {args : List SV} {r : SV} {t : Tree} {ids : List Nat} {w w' : World}
/-- A call whose answer is new memory. -/
theorem node_out {f : Nat} (AS : List Nat → Array Value) (Q : Vals → HX → Prop) (hargs : ∀ ids, (args.map (SV.den ρ ids)).toArray = AS ids)
    (hcall : ∀ ids w, pre <+: ids → Facts C m ρ ids hx w → Calls C.P f (AS ids) w (fun e w' => ∃ vs hx2, Q vs hx2 ∧ e = .returned (r.den (ρ.add vs) ids) ∧ hx2.X w' ∧ (∀ k, hx2.F k → w.heap.size ≤ k ∧ k < w'.heap.size) ∧ Below w.heap.size w w'))
    (hhp : m'.hp = m.hp) (hfit : hpFits m.c m.hp.length m.hp = true) (hc : ∀ vs hx2, Q vs hx2 → (ρ.add vs).cnt = m'.c ∧ ∀ v, v ∈ vs.v → v.oneCell' = true)
    (h : ∀ vs hx2, Q vs hx2 → (∀ k, hx2.F k → C.W.heap.size ≤ k ∧ ¬ hx.F k) → t.holds C (ρ.add vs) pre (hx.and hx2) L) : (Tree.call f args m r m' t).holds C ρ pre hx L := by
  intro ids w hp hf
  rw [hargs]
  refine (hcall ids w hp hf).mono ?_
  rintro e w' ⟨vs, hx2, hQ, rfl, hX, hge, hbel⟩
  have hg : w.grownBy w' none := ⟨hbel.os, hbel.tape, hbel.output, hbel.size, fun k hk _ => hbel.block k hk⟩
  refine ⟨vs, ids, _, rfl, List.prefix_refl _, hf.turn (hx' := hx.and hx2) hg (fun b e => by cases e) ⟨hx.loc w w' hf.x fun k hk => hbel.block k (hf.sep k hk).1, hX⟩ (fun k hk => ?_) hhp hfit (hc _ _ hQ).1 (hc _ _ hQ).2, holds_pre t hp (h vs hx2 hQ (fun k h2 => ⟨Nat.le_trans hf.chg.size (hge k h2).1, fun q => by have := (hf.sep _ q).1; have := (hge k h2).1; omega⟩))⟩
  rcases hk with hk | hk
  · exact .inl hk
  · exact .inr (hge k hk)
/-- The same walk over an environment (a memory) that is spelled otherwise. -/
theorem holds_env {ρ' : Env} (e : ρ = ρ') (h : t.holds C ρ' pre hx L) : t.holds C ρ pre hx L := e ▸ h
theorem holds_eq {hx' : HX} (e : hx = hx') (h : t.holds C ρ pre hx' L) : t.holds C ρ pre hx L := e ▸ h
theorem need_k {p : Need} (P : Prop) (he : p.den ρ = P) (hp : P) (h : t.holds C ρ pre hx L) : (Tree.need p t).holds C ρ pre hx L := by
  have hd : p.den ρ := he.mpr hp
  exact ⟨hd, fun _ => h⟩
/-- A pure call whose arguments lie in blocks of one's own. -/
theorem node_PI {f : Nat} (vs : Vals) (AS : List Nat → Array Value) (V : Value) (hargs : ∀ ids, (args.map (SV.den ρ ids)).toArray = AS ids) (hr : ∀ ids, r.den (ρ.add vs) ids = V) (hhp : m'.hp = m.hp) (hfit : hpFits m.c m.hp.length m.hp = true) (hc : (ρ.add vs).cnt = m'.c) (h1 : ∀ v, v ∈ vs.v → v.oneCell' = true) (hcall : ∀ ids w, pre <+: ids → Facts C m ρ ids hx w → Calls C.P f (AS ids) w (PureAt w V))
    (h : t.holds C (ρ.add vs) pre hx L) : (Tree.call f args m r m' t).holds C ρ pre hx L :=
  node_pure vs hhp hfit hc h1 (fun ids w hp hf => by rw [hargs, hr]; exact hcall ids w hp hf) h
/-- A read of memory at hand; what it reads is told, the spelling is left to the kernel. -/
theorem node_ldk {l : LV} {cs : List LV} (vs : Vals) (V : List Nat → Value) (us : List Value) (hl : ∀ ids, l.den ρ ids = V ids) (hcs : ∀ ids, cellsDen (ρ.add vs) ids cs = us) (hcell : ∀ ids w, pre <+: ids → Facts C m ρ ids hx w → CellsAt w (V ids) us (fun _ => False)) (hc : (ρ.add vs).cnt = m'.c) (h1 : ∀ v, v ∈ vs.v → v.oneCell' = true)
    (h : t.holds C (ρ.add vs) pre hx L) : (Tree.ld true l cs m m' t).holds C ρ pre hx L :=
  node_ld vs (fun ids w hp hf => by rw [hl, hcs]; exact hcell ids w hp hf) (fun ids w hf => envUp hf hc h1) h
/-- A read of memory that lies as it lay at the beginning. -/
theorem node_ld0 {l : LV} {cs : List LV} {k : Cnt} (vs : Vals) (V : Value) (us : List Value) (hl : ∀ ids, l.den ρ ids = V) (hcs : ∀ ids, cellsDen (ρ.add vs) ids cs = us) (hcell : CellsAt C.W V us C.M) (hρ : EnvOk ρ k) (hc : (ρ.add vs).cnt = m'.c) (h1 : ∀ v, v ∈ vs.v → v.oneCell' = true)
    (h : t.holds C (ρ.add vs) pre hx L) : (Tree.ld false l cs m m' t).holds C ρ pre hx L :=
  ⟨vs, fun ids => by rw [hl, hcs]; exact hcell, ⟨hc, fun v hv => by
    simp only [Env.add, List.mem_append] at hv
    exact hv.elim (hρ.one v) (h1 v)⟩, h⟩
end
end Go.Eng
