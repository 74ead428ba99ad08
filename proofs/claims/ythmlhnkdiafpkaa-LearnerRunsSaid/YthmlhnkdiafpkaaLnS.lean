/- Scripts of layer 15, opened; votes in rows. -/
import Derived.Test.YthmlhnkdiafpkaaLnW
namespace Go.Proofs.Ythmlhnkdiafpkaa
open Go.ChangeShapes Go.WideShapes Go.ChangeAt Go.RowKit Go.Syn Go.Eng Go.MapKept
set_option linter.unusedVariables false
set_option linter.unusedSimpArgs false
set_option maxRecDepth 100000
/-- A step of a script. -/
structure OpL where
  k : Int
  node : Int
  slot : Int
  r : Int
  n : Int
  p : Pv
  m : Int
def OpL.cells (o : OpL) : List Value := [.int .i64 o.k, .int .i64 o.node, .int .i64 o.slot, .int .i64 o.r, .int .i64 o.n, .int .i64 o.p.v.k, .slice o.p.a1 o.p.v.cs.length o.p.c1, .slice o.p.a2 o.p.v.ns.length o.p.c2, .int .i64 o.m]
def OpL.vote (o : OpL) : List Value := [.int .i64 o.slot, .int .i64 o.r, .int .i64 o.n, .int .i64 o.p.v.k, .slice o.p.a1 o.p.v.cs.length o.p.c1, .slice o.p.a2 o.p.v.ns.length o.p.c2]
structure OpOk (w : World) (o : OpL) : Prop where
  at_ : VlAt w o.p.v o.p.a1 o.p.a2
  slot : I64 o.slot
  m : I64 o.m
def ocells (os : List OpL) : List Value := os.flatMap OpL.cells
def vcells (os : List OpL) : List Value := os.flatMap OpL.vote
theorem ocell_len (o : OpL) : o.cells.length = 9 := rfl
theorem vcell_len (o : OpL) : o.vote.length = 6 := rfl
theorem vcells_len (os : List OpL) : (vcells os).length = os.length * 6 := flat_len vcell_len os
theorem vote_one (o : OpL) : ∀ v ∈ o.vote, v.oneCell' = true := fun v hv => by
  simp only [OpL.vote, List.mem_cons, List.not_mem_nil, or_false] at hv
  rcases hv with rfl | rfl | rfl | rfl | rfl | rfl <;> rfl
theorem opn_bal {w : World} {d : Dat} (h : d.In Try.prog w 29) : ∃ x y : Int, d = .parts [.int .i64 x, .int .i64 y] := by
  obtain ⟨ds, rfl, g⟩ := in_struct Try.underlying29 h
  obtain ⟨d0, r0, rfl, h0, g0⟩ := inEach_cons g
  obtain ⟨d1, r1, rfl, h1, g1⟩ := inEach_cons g0
  obtain rfl := inEach_nil g1
  obtain ⟨x, rfl, _⟩ := opn_int h0
  obtain ⟨y, rfl, _⟩ := opn_int h1
  exact ⟨x, y, rfl⟩
theorem opn_op {w : World} {d : Dat} (h : d.In Try.prog w 36) : ∃ o : OpL, d.cells = o.cells ∧ OpOk w o := by
  obtain ⟨ds, rfl, g⟩ := in_struct Try.underlying36 h
  obtain ⟨d0, r0, rfl, h0, g0⟩ := inEach_cons g
  obtain ⟨d1, r1, rfl, h1, g1⟩ := inEach_cons g0
  obtain ⟨d2, r2, rfl, h2, g2⟩ := inEach_cons g1
  obtain ⟨d3, r3, rfl, h3, g3⟩ := inEach_cons g2
  obtain rfl := inEach_nil g3
  obtain ⟨es, rfl, f⟩ := in_struct Try.underlying34 h2
  obtain ⟨e0, s0, rfl, k0, f1⟩ := inEach_cons f
  obtain ⟨e1, s1, rfl, k1, f2⟩ := inEach_cons f1
  obtain ⟨e2, s2, rfl, k2, f3⟩ := inEach_cons f2
  obtain rfl := inEach_nil f3
  obtain ⟨x0, rfl, _⟩ := opn_int h0
  obtain ⟨x1, rfl, _⟩ := opn_int h1
  obtain ⟨x3, rfl, i3⟩ := opn_int h3
  obtain ⟨y0, rfl, i0⟩ := opn_int k0
  obtain ⟨b1, b2, rfl⟩ := opn_bal k1
  obtain ⟨v, a1, c1, a2, c2, e, H, _, _⟩ := opn_vl k2
  refine ⟨⟨x0, x1, y0, b1, b2, ⟨v, a1, c1, a2, c2⟩, x3⟩, ?_, H, i0, i3⟩
  show [Value.int .i64 x0] ++ ([Value.int .i64 x1] ++ (([Value.int .i64 y0] ++ (([Value.int .i64 b1] ++ ([Value.int .i64 b2] ++ [])) ++ (e2.cells ++ []))) ++ ([Value.int .i64 x3] ++ []))) = _
  rw [e]; rfl
theorem opn_ops {w : World} : ∀ (ds : List Dat), (∀ d ∈ ds, d.In Try.prog w 36) → ∃ os : List OpL, os.length = ds.length ∧ Dat.cellsAll ds = ocells os ∧ ∀ o ∈ os, OpOk w o
  | [], _ => ⟨[], rfl, rfl, fun o h => by cases h⟩
  | d :: r, h => by
    obtain ⟨o, e, ho⟩ := opn_op (h d (List.mem_cons_self))
    obtain ⟨os, e1, e2, hos⟩ := opn_ops r fun x hx => h x (List.mem_cons_of_mem _ hx)
    refine ⟨o :: os, by simp [e1], ?_, fun x hx => ?_⟩
    · show d.cells ++ Dat.cellsAll r = o.cells ++ ocells os
      rw [e, e2]
    · rcases List.mem_cons.1 hx with rfl | hx
      · exact ho
      · exact hos x hx
/-- The script as it lies. -/
def scX (a : Option Addr) (os : List OpL) : HX := HX.all (HX.cl a (ocells os) :: os.map fun o => o.p.hx)
theorem sc_X {w : World} {a : Option Addr} {os : List OpL} (h : Cells w a (ocells os)) (hos : ∀ o ∈ os, OpOk w o) : (scX a os).X w := fun x hx => by
  rcases List.mem_cons.1 hx with rfl | hx
  · exact h
  · obtain ⟨o, ho, rfl⟩ := List.mem_map.1 hx
    exact (hos o ho).at_.X
theorem sc_lt {w : World} {a : Option Addr} {os : List OpL} (h : (scX a os).X w) : ∀ k, (scX a os).F k → k < w.heap.size := fun k ⟨x, hx, hk⟩ => by
  rcases List.mem_cons.1 hx with rfl | hx2
  · exact cl_sep (h _ hx) k hk
  · obtain ⟨o, ho, rfl⟩ := List.mem_map.1 hx2
    exact vlX_sep (h _ hx) k hk
theorem sc_at {w w0 : World} {a : Option Addr} {os : List OpL} {o : OpL} (h : (scX a os).X w) (hos : ∀ o ∈ os, OpOk w0 o) (ho : o ∈ os) : VlAt w o.p.v o.p.a1 o.p.a2 := (hos o ho).at_.fit.at_ (h _ (List.mem_cons_of_mem _ (List.mem_map.2 ⟨o, ho, rfl⟩)))
theorem sc_F {a : Option Addr} {os : List OpL} {o : OpL} (ho : o ∈ os) {k : Nat} (hk : (vlX o.p.v o.p.a1 o.p.a2).F k) : (scX a os).F k := ⟨_, List.mem_cons_of_mem _ (List.mem_map.2 ⟨o, ho, rfl⟩), hk⟩
/-- Votes in a row of one's own. -/
def voRow (a : Option Addr) (cap : Nat) (os : List OpL) : HX := HX.rw 6 34 a os.length cap (vcells os)
theorem info_vote : (Try.prog.info? 34).map (fun i => (i.zero, i.size, i.bytes)) = some (some (.agg #[.int .i64 0, .int .i64 0, .int .i64 0, .int .i64 0, .slice none 0 0, .slice none 0 0]), 6, 80) := by kernel_rfl
theorem vo_snoc (os : List OpL) (o : OpL) : vcells os ++ o.vote = vcells (os ++ [o]) := by unfold vcells; rw [List.flatMap_append]; simp
theorem vo_elt {w : World} {a : Option Addr} {cap : Nat} {os : List OpL} (h : (voRow a cap os).X w) {i : Nat} {o : OpL} (hi : os[i]? = some o) : a.isSome = true ∧ CellsAt w (.pointer (some (((a.getD ⟨0, 0, none⟩).add (i * 6)).add 0))) o.vote (fun _ => False) := by
  obtain ⟨h1, h2⟩ := flat_part vcell_len (rw_cells h) hi (o := 0) o.vote (fun j u hj => by rw [Nat.zero_add]; exact hj) (by simp [OpL.vote])
  exact ⟨h1, h2 _ id⟩
theorem oc_elt {w : World} {a : Option Addr} {os : List OpL} (h : Cells w a (ocells os)) {i : Nat} {o : OpL} (hi : os[i]? = some o) : a.isSome = true ∧ CellsAt w (.pointer (some (((a.getD ⟨0, 0, none⟩).add (i * 9)).add 0))) o.cells (fun _ => False) := by
  obtain ⟨h1, h2⟩ := flat_part ocell_len h hi (o := 0) o.cells (fun j u hj => by rw [Nat.zero_add]; exact hj) (by simp [OpL.cells])
  exact ⟨h1, h2 _ id⟩
/-! ### What was decided first -/
/-- The steps that were decided, each for another slot. -/
def FsI (L : Ln) (fs : List OpL) : Prop := (∀ s, (mlk L.de s).isSome = true ↔ ∃ f ∈ fs, f.slot = s) ∧ (∀ f ∈ fs, mlk L.de f.slot = some f.p.v)
theorem fs_new {mem : List Int} {n : Int} : FsI (Ln.new mem n) [] := ⟨fun s => ⟨fun h => (by cases h), fun ⟨f, hf, _⟩ => (by cases hf)⟩, fun f hf => by cases hf⟩
theorem fs_add {L L' : Ln} {fs : List OpL} {o : OpL} (h : FsI L fs) (hno : mlk L.de o.slot = none) (hde : L'.de = mput L.de o.slot o.p.v) : FsI L' (fs ++ [o]) ∧ ∀ f ∈ fs, f.slot ≠ o.slot := by
  have hne : ∀ f ∈ fs, f.slot ≠ o.slot := fun f hf e => by
    have := h.2 f hf
    rw [e, hno] at this; cases this
  refine ⟨⟨fun s => ?_, fun f hf => ?_⟩, hne⟩
  · rw [hde, mlk_put]
    constructor
    · intro hs
      by_cases e : s = o.slot
      · exact ⟨o, List.mem_append_right _ (List.mem_singleton.2 rfl), e.symm⟩
      · rw [if_neg e] at hs
        obtain ⟨f, hf, e2⟩ := (h.1 s).1 hs
        exact ⟨f, List.mem_append_left _ hf, e2⟩
    · rintro ⟨f, hf, rfl⟩
      rcases List.mem_append.1 hf with hf | hf
      · rw [if_neg (hne f hf)]; exact (h.1 f.slot).2 ⟨f, hf, rfl⟩
      · rw [List.mem_singleton.1 hf, if_pos rfl]; rfl
  · rw [hde, mlk_put]
    rcases List.mem_append.1 hf with hf | hf
    · rw [if_neg (hne f hf)]; exact h.2 f hf
    · rw [List.mem_singleton.1 hf, if_pos rfl]
theorem fs_same {L L' : Ln} {fs : List OpL} (h : FsI L fs) (hde : L'.de = L.de) : FsI L' fs := by unfold FsI; rw [hde]; exact h
end Go.Proofs.Ythmlhnkdiafpkaa
