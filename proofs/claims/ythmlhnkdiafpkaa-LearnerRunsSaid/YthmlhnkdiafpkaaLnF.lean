/- Copies of values told of by rows of one's own: Clone, Known, Next, Copy; stores into them. -/
import Derived.Test.YthmlhnkdiafpkaaLnN
namespace Go.Proofs.Ythmlhnkdiafpkaa
open Go.ChangeShapes Go.WideShapes Go.ChangeAt Go.RowKit Go.Syn Go.Eng Go.MapKept
set_option linter.unusedVariables false
set_option linter.unusedSimpArgs false
set_option maxRecDepth 100000
/-- A value in new rows. -/
def VlRowV (w : World) (V : Value → Value) (v : Vl) (e : Ending) (w' : World) : Prop := ∃ a1 c1 a2 c2, e = .returned (V (vlV v a1 c1 a2 c2)) ∧ (crow a1 v.cs.length c1 v.cs).X w' ∧ (nrow a2 v.ns.length c2 v.ns).X w' ∧ (∀ k, (crow a1 v.cs.length c1 v.cs).F k → w.heap.size ≤ k) ∧ (∀ k, (nrow a2 v.ns.length c2 v.ns).F k → w.heap.size ≤ k ∧ ¬ (crow a1 v.cs.length c1 v.cs).F k) ∧ Below w.heap.size w w'
theorem crow_lt {a : Option Addr} {n c : Nat} {cs : List CmD} {w : World} (h : (crow a n c cs).X w) : ∀ k, (crow a n c cs).F k → k < w.heap.size := fun k hk => rw_blt h hk.1 hk.2
theorem nrow_lt {a : Option Addr} {n c : Nat} {ns : List Int} {w : World} (h : (nrow a n c ns).X w) : ∀ k, (nrow a n c ns).F k → k < w.heap.size := fun k hk => rw_blt h hk.1 hk.2
theorem rows_at {v : Vl} (hf : VlFit v) {a1 a2 : Option Addr} {n1 c1 n2 c2 : Nat} {w : World} (h1 : (crow a1 n1 c1 v.cs).X w) (h2 : (nrow a2 n2 c2 v.ns).X w) : VlAt w v a1 a2 := hf.at_ ⟨rw_cells h1, rw_cells h2⟩
theorem rows_F {v : Vl} {a1 a2 : Option Addr} {c1 c2 : Nat} {w : World} (h1 : (crow a1 v.cs.length c1 v.cs).X w) (h2 : (nrow a2 v.ns.length c2 v.ns).X w) : ∀ k, (vlX v a1 a2).F k → (crow a1 v.cs.length c1 v.cs).F k ∨ (nrow a2 v.ns.length c2 v.ns).F k := fun k hk => hk.imp ((rw_cl h1).2 k) ((rw_cl h2).2 k)
section
variable {C : Cfg} {ρ : Env} {pre : List Nat} {hx : HX} {L : Stack} {m m' : Mem} {args : List SV} {r : SV} {t : Tree}
theorem node_vrow {f : Nat} {V : Value → Value} {v : Vl} (AS : List Nat → Array Value) (vs : Option Addr → Nat → Option Addr → Nat → Vals) (hargs : ∀ ids, (args.map (SV.den ρ ids)).toArray = AS ids) (hcall : ∀ ids w, pre <+: ids → Facts C m ρ ids hx w → Calls C.P f (AS ids) w (VlRowV w V v))
    (hr : ∀ a1 c1 a2 c2 ids, r.den (ρ.add (vs a1 c1 a2 c2)) ids = V (vlV v a1 c1 a2 c2)) (hhp : m'.hp = m.hp) (hfit : hpFits m.c m.hp.length m.hp = true) (hc : ∀ a1 c1 a2 c2, (ρ.add (vs a1 c1 a2 c2)).cnt = m'.c) (h1 : ∀ a1 c1 a2 c2 v, v ∈ (vs a1 c1 a2 c2).v → v.oneCell' = true)
    (h : ∀ a1 c1 a2 c2, (∀ k, (crow a1 v.cs.length c1 v.cs).F k → C.W.heap.size ≤ k ∧ ¬ hx.F k) → (∀ k, (nrow a2 v.ns.length c2 v.ns).F k → C.W.heap.size ≤ k ∧ ¬ hx.F k ∧ ¬ (crow a1 v.cs.length c1 v.cs).F k) → t.holds C (ρ.add (vs a1 c1 a2 c2)) pre (hx.and ((crow a1 v.cs.length c1 v.cs).and (nrow a2 v.ns.length c2 v.ns))) L) : (Tree.call f args m r m' t).holds C ρ pre hx L := by
  refine node_out AS (fun u hy => ∃ a1 c1 a2 c2, u = vs a1 c1 a2 c2 ∧ hy = (crow a1 v.cs.length c1 v.cs).and (nrow a2 v.ns.length c2 v.ns) ∧ ∀ k, (nrow a2 v.ns.length c2 v.ns).F k → ¬ (crow a1 v.cs.length c1 v.cs).F k) hargs (fun ids w hp hf => ?_) hhp hfit ?_ ?_
  · refine (hcall ids w hp hf).mono ?_
    rintro e w' ⟨a1, c1, a2, c2, rfl, hX1, hX2, g1, g2, hb⟩
    exact ⟨_, _, ⟨a1, c1, a2, c2, rfl, rfl, fun k hk => (g2 k hk).2⟩, by rw [hr], ⟨hX1, hX2⟩, fun k hk => hk.elim (fun q => ⟨g1 k q, crow_lt hX1 k q⟩) (fun q => ⟨(g2 k q).1, nrow_lt hX2 k q⟩), hb⟩
  · rintro u hy ⟨a1, c1, a2, c2, rfl, rfl, _⟩
    exact ⟨hc _ _ _ _, h1 _ _ _ _⟩
  · rintro u hy ⟨a1, c1, a2, c2, rfl, rfl, g⟩ hfr
    exact h a1 c1 a2 c2 (fun k hk => hfr k (.inl hk)) fun k hk => ⟨(hfr k (.inr hk)).1, (hfr k (.inr hk)).2, g k hk⟩
end
theorem scloneC_row (a : Option Addr) (cap : Nat) (cs : List CmD) (w : World) (H : Cells w a (ccells cs)) (hl : cs.length ≤ 2199023255552) : Calls Try.prog 51 #[.slice a cs.length cap] w (RwNew w id 8 57 cs.length (ccells cs)) := by
  refine calls_at (tab_ok _) Try.func51 rfl tSCloneC (ρ := ⟨[], [], [], [cs.length, cap], [a]⟩) (ids := []) (hx := HX.cl a (ccells cs)) rfl (Facts.initq rfl oneNil H (cl_sep H)) ?_
  by_cases h : a.isNone = true
  · refine br_t h ?_
    obtain rfl : a = none := by simpa using h
    have e := none_nil H
    have e2 : cs = [] := Classical.byContradiction fun q => ccells_ne q e
    subst e2
    intro ids w2 hp hf
    exact ⟨none, 0, rfl, HX.rw_nil _ _ _ _, fun k hk => absurd rfl hk, hf.chg.below⟩
  · refine br_f (show a.isNone = false by cases a with | none => exact absurd rfl h | some x => rfl) ?_
    refine node_clones (sz := 8) (xs := ccells cs) rfl Try.underlying30 info_cmd rfl (by decide) 0 rfl (fun _ => a) cs.length cap (ccells_len _) (fun ids w2 hp hf => hf.x) (ccells_one cs) (by unfold maxLen; omega) (by omega) (fun _ => rfl) (fun _ => rfl) (fun _ _ _ => rfl) rfl rfl (fun _ _ => rfl) ?_
    intro a' c' hfr ids w2 hp hf
    exact ⟨a', c', rfl, hf.x.2, fun k h1 h2 => (hfr k h1 h2).1, hf.chg.below⟩
theorem scloneN_row (a : Option Addr) (cap : Nat) (ns : List Int) (w : World) (H : Cells w a (ns.map (Value.int .i64))) (hl : ns.length ≤ 17592186044416) : Calls Try.prog 52 #[.slice a ns.length cap] w (RwNew w id 1 3 ns.length (ns.map (Value.int .i64))) := by
  refine calls_at (tab_ok _) Try.func52 rfl tSCloneN (ρ := ⟨[], [], [], [ns.length, cap], [a]⟩) (ids := []) (hx := HX.cl a (ns.map (Value.int .i64))) rfl (Facts.initq rfl oneNil H (cl_sep H)) ?_
  by_cases h : a.isNone = true
  · refine br_t h ?_
    obtain rfl : a = none := by simpa using h
    have e := none_nil H
    have e2 : ns = [] := by simpa using e
    subst e2
    intro ids w2 hp hf
    exact ⟨none, 0, rfl, HX.rw_nil _ _ _ _, fun k hk => absurd rfl hk, hf.chg.below⟩
  · refine br_f (show a.isNone = false by cases a with | none => exact absurd rfl h | some x => rfl) ?_
    refine node_clones (sz := 1) (xs := ns.map (Value.int .i64)) rfl Try.underlying26 info_int1 rfl (by decide) 0 rfl (fun _ => a) ns.length cap (by rw [List.length_map, Nat.mul_one]) (fun ids w2 hp hf => hf.x) (fun x hx => by obtain ⟨n, _, rfl⟩ := List.mem_map.1 hx; rfl) (by unfold maxLen; omega) (by omega) (fun _ => rfl) (fun _ => rfl) (fun _ _ _ => rfl) rfl rfl (fun _ _ => rfl) ?_
    intro a' c' hfr ids w2 hp hf
    exact ⟨a', c', rfl, hf.x.2, fun k h1 h2 => (hfr k h1 h2).1, hf.chg.below⟩
theorem vclone_row (v : Vl) (a1 : Option Addr) (c1 : Nat) (a2 : Option Addr) (c2 : Nat) (w : World) (H : VlAt w v a1 a2) : Calls Try.prog 36 #[vlV v a1 c1 a2 c2] w (VlRowV w id v) := by
  refine calls_at (tab_ok _) Try.func36 rfl tVClone (ρ := ⟨[v.k], [], [], [v.cs.length, c1, v.ns.length, c2], [a1, a2]⟩) (ids := []) (hx := vlX v a1 a2) rfl (Facts.initq rfl oneNil H.X (vlX_sep H.X)) ?_
  refine par_i (par_i ?_ ?_) ?_
  all_goals
    refine node_rwn (V := id) (sz := 8) (e := 57) (n := v.cs.length) (xs := ccells v.cs) (fun _ => #[.slice a1 v.cs.length c1]) (fun a' c' => ⟨[], [], [], [v.cs.length, c'], [a']⟩) (by intros; kernel_rfl) (fun ids w2 hp hf => scloneC_row a1 c1 v.cs w2 hf.x.1 H.l1) (by intros; kernel_rfl) (by intros; kernel_rfl) (by intros; kernel_rfl) (by intros; kernel_rfl) (fun _ _ => oneNil) ?_
    intro b1 d1 _ hf1
    refine node_rwn (V := id) (sz := 1) (e := 3) (n := v.ns.length) (xs := v.ns.map (Value.int .i64)) (fun _ => #[.slice a2 v.ns.length c2]) (fun a' c' => ⟨[], [], [], [v.ns.length, c'], [a']⟩) (by intros; kernel_rfl) (fun ids w2 hp hf => scloneN_row a2 c2 v.ns w2 hf.x.1.2 H.l2) (by intros; kernel_rfl) (by intros; kernel_rfl) (by intros; kernel_rfl) (by intros; kernel_rfl) (fun _ _ => oneNil) ?_
    intro b2 d2 _ hf2 ids w2 hp hf
    exact ⟨b1, d1, b2, d2, rfl, hf.x.1.2, hf.x.2, fun k hk => (hf1 k hk.1 hk.2).1, fun k hk => ⟨(hf2 k hk.1 hk.2).1, fun q => (hf2 k hk.1 hk.2).2 (.inr q)⟩, hf.chg.below⟩
section
variable {L : Ln} {D : LD} {nb : Nat} {w w' : World} {slot : Int}
theorem known_row (hB : Blk w nb (lnC L D) 77) (hX : D.At w) (hok : LOk L D) (hnb : ¬ D.F nb) (hD : ∀ k, D.F k → k < w.heap.size) :
    Calls Try.prog 21 #[.pointer (some ⟨nb, 0, none⟩), .int .i64 slot] w (VlRowV w (fun x => .tuple #[x, .bool (L.known slot).2]) (L.known slot).1) := by
  obtain ⟨g1, g2, g3, g4⟩ := hok.got slot
  refine calls_at (tab_ok _) Try.func21 rfl tLKnown (ρ := ⟨[L.next, L.top, slot], [], [.map (some D.bv), .map (some D.bd)], [L.mem.length, D.cm], [D.am]⟩) (ids := [nb]) (hx := D.X) rfl (Facts.initx (M := fun x => x = nb) rfl (fun v hv => by simp only [List.mem_cons, List.not_mem_nil, or_false] at hv; rcases hv with rfl | rfl <;> rfl) hB rfl rfl hX (fun k hk => ⟨hD k hk, fun e => hnb (e ▸ hk)⟩)) ?_
  refine node_vlook (z := vlV vz none 0 none 0) (mt := 75) (kt := 3) (et := 32) ⟨[(D.got slot).v.k], [(L.known slot).2], [], [(D.got slot).v.cs.length, (D.got slot).c1, (D.got slot).v.ns.length, (D.got slot).c2], [(D.got slot).a1, (D.got slot).a2]⟩ D.bd (mmap Pv.val D.ds) slot (fun w h => h.d) (by intros; kernel_rfl) (by intros; kernel_rfl) Try.underlying75 Try.underlying3 zero_val (fun ids => ?_) (by kernel_rfl) (by kernel_rfl) (by kernel_rfl) oneNil ?_
  · rw [vlk_is, g3]
    show Value.tuple #[(D.got slot).val, .bool (L.known slot).2] = _
    rw [g2, mlk_map, Option.isSome_map]
  refine node_vrow (V := id) (v := (D.got slot).v) (fun _ => #[(D.got slot).val]) (fun b1 d1 b2 d2 => ⟨[(D.got slot).v.k], [], [], [(D.got slot).v.cs.length, d1, (D.got slot).v.ns.length, d2], [b1, b2]⟩) (by intros; kernel_rfl) (fun ids w2 hp hf => vclone_row _ _ _ _ _ w2 (hok.gotX slot hf.x)) (by intros; kernel_rfl) (by kernel_rfl) (by kernel_rfl) (by intros; kernel_rfl) (fun _ _ _ _ => oneNil) ?_
  intro b1 d1 b2 d2 hfr hfr2 ids w2 hp hf
  rw [← g1]
  exact ⟨b1, d1, b2, d2, rfl, hf.x.2.1, hf.x.2.2, fun k hk => (hfr k hk).1, fun k hk => ⟨(hfr2 k hk).1, (hfr2 k hk).2.2⟩, (hf.chg.same (hf.same1 hp hB rfl)).below⟩
theorem lnext_row (hB : Blk w nb (lnC L D) 77) (hX : D.At w) (hok : LOk L D) (hnb : ¬ D.F nb) (hD : ∀ k, D.F k → k < w.heap.size) :
    Calls Try.prog 13 #[.pointer (some ⟨nb, 0, none⟩)] w (VlRowV w (fun x => .tuple #[.int .i64 L.next, x, .bool (L.known L.next).2]) (L.known L.next).1) := by
  obtain ⟨g1, g2, g3, g4⟩ := hok.got L.next
  refine calls_at (tab_ok _) Try.func13 rfl tLNext (ρ := ⟨[L.next, L.top], [], [.map (some D.bv), .map (some D.bd)], [L.mem.length, D.cm], [D.am]⟩) (ids := [nb]) (hx := D.X) rfl (Facts.initx (M := fun x => x = nb) rfl (fun v hv => by simp only [List.mem_cons, List.not_mem_nil, or_false] at hv; rcases hv with rfl | rfl <;> rfl) hB rfl rfl hX (fun k hk => ⟨hD k hk, fun e => hnb (e ▸ hk)⟩)) ?_
  refine par_i ?_ ?_
  all_goals
    refine node_vlook (z := vlV vz none 0 none 0) (mt := 75) (kt := 3) (et := 32) ⟨[(D.got L.next).v.k], [(L.known L.next).2], [], [(D.got L.next).v.cs.length, (D.got L.next).c1, (D.got L.next).v.ns.length, (D.got L.next).c2], [(D.got L.next).a1, (D.got L.next).a2]⟩ D.bd (mmap Pv.val D.ds) L.next (fun w h => h.d) (by intros; kernel_rfl) (by intros; kernel_rfl) Try.underlying75 Try.underlying3 zero_val (fun ids => ?_) (by kernel_rfl) (by kernel_rfl) (by kernel_rfl) oneNil ?_
    · rw [vlk_is, g3]
      show Value.tuple #[(D.got L.next).val, .bool (L.known L.next).2] = _
      rw [g2, mlk_map, Option.isSome_map]
    refine node_vrow (V := id) (v := (D.got L.next).v) (fun _ => #[(D.got L.next).val]) (fun b1 d1 b2 d2 => ⟨[(D.got L.next).v.k], [], [], [(D.got L.next).v.cs.length, d1, (D.got L.next).v.ns.length, d2], [b1, b2]⟩) (by intros; kernel_rfl) (fun ids w2 hp hf => vclone_row _ _ _ _ _ w2 (hok.gotX L.next hf.x)) (by intros; kernel_rfl) (by kernel_rfl) (by kernel_rfl) (by intros; kernel_rfl) (fun _ _ _ _ => oneNil) ?_
    intro b1 d1 b2 d2 hfr hfr2 ids w2 hp hf
    rw [← g1]
    exact ⟨b1, d1, b2, d2, rfl, hf.x.2.1, hf.x.2.2, fun k hk => (hfr k hk).1, fun k hk => ⟨(hfr2 k hk).1, (hfr2 k hk).2.2⟩, (hf.chg.same (hf.same1 hp hB rfl)).below⟩
end
/-! ### The reference, as it lies -/
structure RK where
  node : Int
  slot : Int
  r : Int
  n : Int
  p : Pv
structure RD where
  slot : Int
  p : Pv
def RK.cells (k : RK) : List Value := [.int .i64 k.node, .int .i64 k.slot, .int .i64 k.r, .int .i64 k.n, .int .i64 k.p.v.k, .slice k.p.a1 k.p.v.cs.length k.p.c1, .slice k.p.a2 k.p.v.ns.length k.p.c2]
def RD.cells (d : RD) : List Value := [.int .i64 d.slot, .int .i64 0, .int .i64 0, .int .i64 d.p.v.k, .slice d.p.a1 d.p.v.cs.length d.p.c1, .slice d.p.a2 d.p.v.ns.length d.p.c2]
def kcs (ks : List RK) : List Value := ks.flatMap RK.cells
def dcs (ds : List RD) : List Value := ds.flatMap RD.cells
theorem kcell_len (k : RK) : k.cells.length = 7 := rfl
theorem dcell_len (d : RD) : d.cells.length = 6 := rfl
theorem kcell_one (k : RK) : ∀ v ∈ k.cells, v.oneCell' = true := fun v hv => by
  simp only [RK.cells, List.mem_cons, List.not_mem_nil, or_false] at hv
  rcases hv with rfl | rfl | rfl | rfl | rfl | rfl | rfl <;> rfl
theorem dcell_one (d : RD) : ∀ v ∈ d.cells, v.oneCell' = true := fun v hv => by
  simp only [RD.cells, List.mem_cons, List.not_mem_nil, or_false] at hv
  rcases hv with rfl | rfl | rfl | rfl | rfl | rfl <;> rfl
theorem dcs_one (ds : List RD) : ∀ v ∈ dcs ds, v.oneCell' = true := fun v hv => by
  obtain ⟨d, _, h⟩ := List.mem_flatMap.1 hv; exact dcell_one d v h
theorem dcs_len (ds : List RD) : (dcs ds).length = ds.length * 6 := flat_len dcell_len ds
theorem kcs_snoc (ks : List RK) (k : RK) : kcs ks ++ k.cells = kcs (ks ++ [k]) := by unfold kcs; rw [List.flatMap_append]; simp
theorem dcs_snoc (ds : List RD) (d : RD) : dcs ds ++ d.cells = dcs (ds ++ [d]) := by unfold dcs; rw [List.flatMap_append]; simp
/-- A learner of the reference. -/
structure RA where
  am : Option Addr
  cm : Nat
  mem : List Int
  next : Int
  top : Int
  ak : Option Addr
  ck : Nat
  ks : List RK
  ad : Option Addr
  cd : Nat
  ds : List RD
def RA.cells (A : RA) : List Value := [.slice A.am A.mem.length A.cm, .int .i64 A.next, .int .i64 A.top, .slice A.ak A.ks.length A.ck, .slice A.ad A.ds.length A.cd]
def RA.val (A : RA) : Value := .agg A.cells.toArray
def RA.G (A : RA) : List HX := HX.ints A.am A.mem :: HX.cl A.ak (kcs A.ks) :: HX.cl A.ad (dcs A.ds) :: (A.ks.map (fun k => k.p.hx) ++ A.ds.map (fun d => d.p.hx))
def RA.hx (A : RA) : HX := HX.all A.G
structure RA.Ok (A : RA) : Prop where
  k : ∀ k ∈ A.ks, VlFit k.p.v
  d : ∀ d ∈ A.ds, VlFit d.p.v
  lk : A.ks.length ≤ 1000
  ld : A.ds.length ≤ 1000
  lm : A.mem.length ≤ 9
  n1 : 1 ≤ A.next
  n2 : A.next ≤ 1099511627777
  t0 : 0 ≤ A.top
  t2 : A.top ≤ 1099511627776
section
variable {A : RA} {w : World}
theorem RA.xm (h : A.hx.X w) : Ints w A.am A.mem := h _ (.head _)
theorem RA.xk (h : A.hx.X w) : Cells w A.ak (kcs A.ks) := h _ (.tail _ (.head _))
theorem RA.xd (h : A.hx.X w) : Cells w A.ad (dcs A.ds) := h _ (.tail _ (.tail _ (.head _)))
theorem RA.xkv (ok : A.Ok) (h : A.hx.X w) {k : RK} (hk : k ∈ A.ks) : VlAt w k.p.v k.p.a1 k.p.a2 := (ok.k k hk).at_ (h k.p.hx (.tail _ (.tail _ (.tail _ (List.mem_append_left _ (List.mem_map.2 ⟨k, hk, rfl⟩))))))
theorem RA.xdv (ok : A.Ok) (h : A.hx.X w) {d : RD} (hd : d ∈ A.ds) : VlAt w d.p.v d.p.a1 d.p.a2 := (ok.d d hd).at_ (h d.p.hx (.tail _ (.tail _ (.tail _ (List.mem_append_right _ (List.mem_map.2 ⟨d, hd, rfl⟩))))))
theorem RA.sep (h : A.hx.X w) : ∀ k, A.hx.F k → k < w.heap.size := fun k ⟨x, hx, hk⟩ => by
  have hX := h x hx
  rcases List.mem_cons.1 hx with rfl | hx
  · rw [hk.2]; exact ((show Ints w A.am A.mem from hX).at_ (List.length_pos_iff.2 hk.1)).2.1
  rcases List.mem_cons.1 hx with rfl | hx
  · exact cl_sep hX k hk
  rcases List.mem_cons.1 hx with rfl | hx
  · exact cl_sep hX k hk
  rcases List.mem_append.1 hx with hx | hx
  · obtain ⟨y, _, rfl⟩ := List.mem_map.1 hx
    exact vlX_sep hX k hk
  · obtain ⟨y, _, rfl⟩ := List.mem_map.1 hx
    exact vlX_sep hX k hk
theorem k_elt {a : Option Addr} {ks : List RK} (h : Cells w a (kcs ks)) {i : Nat} {k : RK} (hi : ks[i]? = some k) (o : Nat) (us : List Value) (hu : ∀ j u, us[j]? = some u → k.cells[o + j]? = some u) (h0 : us ≠ []) : a.isSome = true ∧ CellsAt w (.pointer (some (((a.getD ⟨0, 0, none⟩).add (i * 7)).add o))) us (fun _ => False) := by
  obtain ⟨h1, h2⟩ := flat_part kcell_len h hi (o := o) us hu h0
  exact ⟨h1, h2 _ id⟩
theorem d_elt {a : Option Addr} {ds : List RD} (h : Cells w a (dcs ds)) {i : Nat} {d : RD} (hi : ds[i]? = some d) (o : Nat) (us : List Value) (hu : ∀ j u, us[j]? = some u → d.cells[o + j]? = some u) (h0 : us ≠ []) : a.isSome = true ∧ CellsAt w (.pointer (some (((a.getD ⟨0, 0, none⟩).add (i * 6)).add o))) us (fun _ => False) := by
  obtain ⟨h1, h2⟩ := flat_part dcell_len h hi (o := o) us hu h0
  exact ⟨h1, h2 _ id⟩
end
def RA.known (A : RA) (slot : Int) : Vl × Bool := match A.ds.find? (fun d => d.slot == slot) with | some d => (d.p.v, true) | none => (vz, false)
def RA.openB (A : RA) (slot : Int) (v : Vl) : Bool := decide (A.next ≤ slot ∧ slot - A.next < 128 ∧ slot ≤ 1099511627776 ∧ valE v = 0) && !(A.known slot).2
/-- What a function does that answers a learner. -/
def RaRet (w : World) (A : RA) (V : Value → Value) (Q : RA → Prop) (e : Ending) (w' : World) : Prop := ∃ A', Q A' ∧ e = .returned (V A'.val) ∧ A'.hx.X w' ∧ (∀ k, A'.hx.F k → A.hx.F k ∨ w.heap.size ≤ k) ∧ Below w.heap.size w w'
section
variable {C : Cfg} {ρ : Env} {pre : List Nat} {hx : HX} {L : Stack} {m m' : Mem} {args : List SV} {r : SV} {t : Tree}
/-- A call that answers a learner, of which some lies as it lay. -/
theorem node_ra {f : Nat} {V : Value → Value} {A : RA} {Q : RA → Prop} (AS : List Nat → Array Value) (vs : RA → Vals) (hargs : ∀ ids, (args.map (SV.den ρ ids)).toArray = AS ids) (hA : ∀ k, A.hx.F k → hx.F k) (hcall : ∀ ids w, pre <+: ids → Facts C m ρ ids hx w → Calls C.P f (AS ids) w (RaRet w A V Q))
    (hr : ∀ A', Q A' → ∀ ids, r.den (ρ.add (vs A')) ids = V A'.val) (hhp : m'.hp = m.hp) (hfit : hpFits m.c m.hp.length m.hp = true) (hc : ∀ A', Q A' → (ρ.add (vs A')).cnt = m'.c) (h1 : ∀ A', Q A' → ∀ v, v ∈ (vs A').v → v.oneCell' = true)
    (h : ∀ A', Q A' → (∀ k, A'.hx.F k → A.hx.F k ∨ (C.W.heap.size ≤ k ∧ ¬ hx.F k)) → t.holds C (ρ.add (vs A')) pre (hx.and A'.hx) L) : (Tree.call f args m r m' t).holds C ρ pre hx L := by
  intro ids w hp hf
  rw [hargs]
  refine (hcall ids w hp hf).mono ?_
  rintro e w' ⟨A', hQ, rfl, hX, hge, hbel⟩
  have hg : w.grownBy w' none := ⟨hbel.os, hbel.tape, hbel.output, hbel.size, fun k hk _ => hbel.block k hk⟩
  refine ⟨vs A', ids, _, by rw [hr A' hQ], List.prefix_refl _, hf.turn (hx' := hx.and A'.hx) hg (fun b e => by cases e) ⟨hx.loc w w' hf.x fun k hk => hbel.block k (hf.sep k hk).1, hX⟩ (fun k hk => ?_) hhp hfit (hc _ hQ) (h1 _ hQ), holds_pre t hp (h A' hQ fun k h2 => ?_)⟩
  · rcases hk with hk | hk
    · exact .inl hk
    · exact (hge k hk).imp (hA k) fun q => ⟨q, RA.sep hX k hk⟩
  · rcases hge k h2 with q | q
    · exact .inl q
    · exact .inr ⟨Nat.le_trans hf.chg.size q, fun z => by have := (hf.sep _ z).1; omega⟩
end
end Go.Proofs.Ythmlhnkdiafpkaa
