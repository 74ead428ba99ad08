/- Rows of which only little is known: stores into them, though they may be one row. -/
import Derived.Test.YtadgaefmoobcoaaMF
namespace Go.Eng
open Go.ChangeShapes Go.WideShapes Go.ChangeAt Go.RowKit Go.Syn
set_option linter.unusedVariables false
set_option linter.unusedSimpArgs false
/-- A row whose cells are as P says. -/
structure Wr where
  sz : Nat
  e : Nat
  a : Option Addr
  n : Nat
  cap : Nat
  P : List Value → Prop
def Wr.hx (r : Wr) : HX := HX.obj (fun k => r.cap ≠ 0 ∧ abk r.a = some k) (fun h => ∃ xs, xs.length = r.n * r.sz ∧ r.P xs ∧ h = HX.rw r.sz r.e r.a r.n r.cap xs)
def wilds (l : List Wr) : HX := HX.all (l.map Wr.hx)
theorem Wr.of {r : Wr} {w : World} {xs : List Value} (h : (HX.rw r.sz r.e r.a r.n r.cap xs).X w) (hl : xs.length = r.n * r.sz) (hP : r.P xs) : r.hx.X w := ⟨_, ⟨xs, hl, hP, rfl⟩, h, fun k hk => hk⟩
theorem Wr.open {r : Wr} {w : World} (h : r.hx.X w) : ∃ xs, xs.length = r.n * r.sz ∧ r.P xs ∧ (HX.rw r.sz r.e r.a r.n r.cap xs).X w := by
  obtain ⟨_, ⟨xs, hl, hP, rfl⟩, hX, _⟩ := h
  exact ⟨xs, hl, hP, hX⟩
theorem wilds_get {l : List Wr} {r : Wr} {w : World} (hr : r ∈ l) (h : (wilds l).X w) : r.hx.X w := h _ (List.mem_map.2 ⟨r, hr, rfl⟩)
theorem wilds_of {l : List Wr} {w : World} (h : ∀ r ∈ l, r.hx.X w) : (wilds l).X w := fun q hq => by
  obtain ⟨r, hr, rfl⟩ := List.mem_map.1 hq
  exact h r hr
theorem wilds_F {l : List Wr} {k : Nat} (h : (wilds l).F k) : ∃ r ∈ l, r.cap ≠ 0 ∧ abk r.a = some k := by
  obtain ⟨q, hq, hk⟩ := h
  obtain ⟨r, hr, rfl⟩ := List.mem_map.1 hq
  exact ⟨r, hr, hk⟩
theorem spl_one {xs : List Value} {p : Nat} {u : Value} (h : p < xs.length) : spl xs p [u] = xs.set p u := by
  unfold spl
  rw [List.set_eq_take_append_cons_drop, if_pos h]
  simp
/-- One store, and what it leaves of a row. -/
theorem wild_st {w w' : World} {g p e : Nat} {u : Value} {cur : List Value} (hg : w.heap[g]? = some (.cells cur.toArray e (0, 0))) (hp : p < cur.length) (hg' : w'.heap[g]? = some (.cells (spl cur p [u]).toArray e (0, 0))) (hb : ∀ k, k ≠ g → k < w.heap.size → w'.heap[k]? = w.heap[k]?)
    {r : Wr} (hP : r.e = e → ∀ xs, xs.length = r.n * r.sz → r.P xs → r.P (xs.set p u)) (h : r.hx.X w) : r.hx.X w' := by
  obtain ⟨xs, hl, hPx, hX⟩ := Wr.open h
  by_cases hc : r.cap = 0
  · rcases hX with ⟨_, h2, h3⟩ | ⟨q, _⟩
    · exact Wr.of (.inl ⟨hc, h2, h3⟩) hl hPx
    · exact absurd hc q
  · obtain ⟨g2, cur2, ea, hlt, hg2, hnc, hcm, hcl, htk⟩ := rw_open hX hc
    by_cases hgg : g2 = g
    · subst hgg
      rw [hg] at hg2
      injection hg2 with hg2
      injection hg2 with h1 h2 h3
      have h1 : cur = cur2 := by have := congrArg Array.toList h1; simpa using this
      subst h1
      have hn : r.n * r.sz ≤ cur.length := by rw [hcl]; exact Nat.mul_le_mul_right _ hnc
      have hX2 := rw_shut hc hg' hnc hcm (by rw [spl_len (by simp; omega)]; exact hcl)
      rw [← ea, h2] at hX2
      refine Wr.of hX2 (by rw [List.length_take, spl_len (by simp; omega)]; omega) ?_
      rw [spl_one hp]
      have e2 : (cur.set p u).take (r.n * r.sz) = xs.set p u := by rw [List.take_set, htk]
      rw [e2]
      exact hP h2.symm xs hl hPx
    · exact Wr.of ((HX.rw r.sz r.e r.a r.n r.cap xs).loc w w' hX fun k hk => by
        obtain ⟨_, hk⟩ := hk
        rw [ea] at hk
        have : g2 = k := by injection hk
        subst this
        exact hb _ hgg hlt) hl hPx
section
variable {C : Cfg} {ρ : Env} {pre : List Nat} {rest : HX} {L : Stack} {m m' : Mem} {ty : Nat} {ps : List (Nat × SV)} {t : Tree}
/-- A store of one cell into a row among rows. -/
theorem node_wst {et : Nat} {xa xv : Operand} (l : List Wr) (r : Wr) (hr : r ∈ l) (i off : Nat) (u : Value) (hsize : (C.P.info? et).map (·.size) = some 1) (hxa : ∀ ids, envOf ρ ids ps xa = .pointer (some (((r.a.getD ⟨0, 0, none⟩).add (i * r.sz)).add off))) (hxv : ∀ ids, envOf ρ ids ps xv = u) (hv : u.cells = #[u]) (h1 : u.oneCell' = true)
    (hio : i * r.sz + off < r.n * r.sz) (hP : ∀ q ∈ l, q.e = r.e → ∀ xs, xs.length = q.n * q.sz → q.P xs → q.P (xs.set (i * r.sz + off) u)) (hdis : ∀ k, r.cap ≠ 0 → abk r.a = some k → ¬ rest.F k) (hM : ∀ k, r.cap ≠ 0 → abk r.a = some k → C.W.heap.size ≤ k ∨ C.M k) (hhp : m'.hp = m.hp) (hfit : hpFits m.c m.hp.length m.hp = true) (hc : ρ.cnt = m'.c)
    (h : t.holds C ρ pre (rest.and (wilds l)) L) : (Tree.gen (.store et xa xv) ty ps m none m' t).holds C ρ pre (rest.and (wilds l)) L := by
  intro ids w hp hf
  unfold GenRun
  obtain ⟨xs, hl, hPx, hrow⟩ := Wr.open (wilds_get hr hf.x.2)
  have hle := rw_le hrow
  have hn : r.n ≠ 0 := fun q => by rw [q] at hio; omega
  have hc0 : r.cap ≠ 0 := by omega
  obtain ⟨g, cur, ea, hlt, hg, hnc, hcm, hcl, htk⟩ := rw_open hrow hc0
  have hmul : r.n * r.sz ≤ r.cap * r.sz := Nat.mul_le_mul_right _ hnc
  obtain ⟨w', hrun, hg', hgr⟩ := run_store_blk (P := C.P) (o := i * r.sz + off) (vs := [u]) hg (by simp; omega) (fun q hq => by simp only [List.mem_singleton] at hq; subst hq; exact h1)
  have hadr : ((r.a.getD ⟨0, 0, none⟩).add (i * r.sz)).add off = ⟨g, i * r.sz + off, none⟩ := by
    rw [ea, Option.getD_some, Go.WideShapes.add_plain, Go.WideShapes.add_plain, Nat.zero_add]
  rw [hadr] at hxa
  have hab : abk r.a = some g := by rw [ea]; rfl
  obtain ⟨i0, hi, hi2⟩ := Option.map_eq_some_iff.1 hsize
  have hrun2 : (Instr.storeAt et (.pointer (some ⟨g, i * r.sz + off, none⟩)) u).run C.P w = .ok () w' := by
    simp [Instr.storeAt, Instr.sureAddr, storeVar, sizeOf, typeInfo, hi, hi2, hv, hrun]
  simp only [execOp, hxa, hxv, Sem.run_bind, Sem.run_pure, Result.andThen_ok, hrun2]
  have hX : (rest.and (wilds l)).X w' := ⟨rest.loc w w' hf.x.1 fun k hk => hgr.block k (hf.sep k (.inl hk)).1 (fun q => hdis g hc0 hab (by cases q; exact hk)), wilds_of fun q hq => wild_st hg (by omega) hg' (fun k hk hlt => hgr.block k hlt (fun z => hk (by cases z; rfl))) (hP q hq) (wilds_get hq hf.x.2)⟩
  refine ⟨Vals.nil, ids, rest.and (wilds l), rfl, List.prefix_refl _, hf.turn hgr (fun b hb => by cases hb; exact ⟨.inr ⟨_, List.mem_map.2 ⟨r, hr, rfl⟩, hc0, hab⟩, hM _ hc0 hab⟩) hX (fun k hk => .inl hk) hhp hfit (by rw [Env.add_nil]; exact hc) oneNil, ?_⟩
  rw [Env.add_nil]; exact holds_pre t hp h
end
end Go.Eng
