/- Part 20 of the texts of a proof about the given program: what the statement's proof needs of them. -/
import Derived.Test.YtbedoemdjlollaaKJudgeMerges19
namespace Go.Eng
open Go.RowKit Go.Syn
set_option linter.unusedVariables false
section
variable {P : Program} {W w w' : World} {M : Nat → Prop} {R : Ending → World → Prop} {C : Cfg} {ρ : Env} {pre ids : List Nat} {hx : HX} {L : Stack} {m m' : Mem} {t f : Tree} {b : BE}
theorem br_D {p : Prop} [Decidable p] (e : b.den ρ = decide p) (ht : p → t.holds C ρ pre hx L) (hf : ¬ p → f.holds C ρ pre hx L) : (Tree.br b t f).holds C ρ pre hx L :=
  br_i (fun h => ht (of_decide_eq_true (e ▸ h))) (fun h => hf (of_decide_eq_false (e ▸ h)))
theorem br_B (c : Bool) (e : b.den ρ = c) (ht : c = true → t.holds C ρ pre hx L) (hf : c = false → f.holds C ρ pre hx L) : (Tree.br b t f).holds C ρ pre hx L :=
  br_i (fun h => ht (e ▸ h)) (fun h => hf (e ▸ h))
end
instance : Std.Associative HX.and := ⟨HX.and_assoc⟩
instance : Std.Commutative HX.and := ⟨HX.and_comm⟩
end Go.Eng
namespace Go.Proofs.Ytbedoemdjlollaa
open Go.ChangeShapes Go.WideShapes Go.ChangeAt Go.RowKit Go.Syn Go.Eng
set_option linter.unusedVariables false
set_option linter.unusedSimpArgs false
set_option maxRecDepth 100000
abbrev tCpVs7b0 : List LV := [(tVi 1), (tVi 2), (tVi 3), (tVi 5), (tSl 4 8 9), (tSl 5 10 11)]
abbrev tCpVs7b1 : List LV := [(tVi 1), (tVi 2), (tVi 3), (tVi 4), (tSl 2 4 5), (tSl 3 6 7)]
abbrev tCpVs7m0 : Mem := ⟨[(39, []), (39, tCpVs7b0), (39, tCpVs7b0)], ⟨6, 0, 0, 14, 7⟩⟩
set_option maxRecDepth 100000 in
theorem tCpVs7 : (runF ⟨tt, fns, {loops := [(3, ⟨[(9, .int .i64), (3, .sl)], []⟩)]}⟩ (Try.f20.body.getD .skip) Try.f20.results.toList (entry Try.f20.ntmps [.lf (.sl 0 (.var 0) (.var 1))] [] ⟨0, 0, 0, 2, 1⟩)) =
  (.loop 3 ⟨[(.lit 0)], [], [], [(.lit 0), (.lit 0)], [(.nm 0 0)]⟩ ⟨[(39, [])], ⟨0, 0, 0, 2, 1⟩⟩ ⟨[(39, [])], ⟨1, 0, 0, 4, 2⟩⟩ (.br (.cmp .lss (.var 0) (.nat 0)) (.need (.inb 0 (.var 0) (.nat 0)) (.ld .false (.adr 0 (.var 0) 6 0) tCpVs7b1 ⟨[(39, [])], ⟨1, 0, 0, 4, 2⟩⟩ ⟨[(39, [])], ⟨5, 0, 0, 8, 4⟩⟩ (.call 23 [(.agg [(tVi 4), (tSl 2 4 5), (tSl 3 6 7)])] ⟨[(39, []), (39, tCpVs7b1)], ⟨5, 0, 0, 8, 4⟩⟩ (.agg [(tVi 5), (tSl 4 8 9), (tSl 5 10 11)]) ⟨[(39, []), (39, tCpVs7b1)], ⟨6, 0, 0, 12, 6⟩⟩ (.gen (.call ⟨(.builtin .append), #[(.tmp 20), (.tmp 22)], #[24, 24]⟩) 24 [(20, (.lf (tSl 1 2 3))), (22, (.lf (.nsl 2 0 1 1)))] ⟨[(39, []), (39, tCpVs7b0), (39, tCpVs7b0)], ⟨6, 0, 0, 12, 6⟩⟩ (.some (.lf (tSl 6 12 13))) tCpVs7m0 (.again 3 ⟨[(.op .add .i64 (.var 0) (.lit 1))], [], [], [(.var 12), (.var 13)], [(.var 6)]⟩ tCpVs7m0))))) (.done (.lf (tSl 1 2 3)) ⟨[(39, [])], ⟨1, 0, 0, 4, 2⟩⟩))) := by kernel_rfl
abbrev tRSameVst1 : Tree := (.need (.inb 0 (.var 0) (.nat 0)) (.need (.inb 1 (.var 0) (.nat 2)) (.par (.ld .false (.adr 0 (.var 0) 6 3) [(tVi 7), (tSl 2 4 5), (tSl 3 6 7)] ⟨[], ⟨7, 0, 0, 4, 2⟩⟩ ⟨[], ⟨8, 0, 0, 8, 4⟩⟩ (.ld .false (.adr 1 (.var 0) 6 3) [(tVi 8), (tSl 4 8 9), (tSl 5 10 11)] ⟨[], ⟨8, 0, 0, 8, 4⟩⟩ ⟨[], ⟨9, 0, 0, 12, 6⟩⟩ (.call 22 [(.agg [(tVi 7), (tSl 2 4 5), (tSl 3 6 7)]), (.agg [(tVi 8), (tSl 4 8 9), (tSl 5 10 11)])] ⟨[], ⟨9, 0, 0, 12, 6⟩⟩ (.lf (.bool (.var 0))) ⟨[], ⟨9, 1, 0, 12, 6⟩⟩ (.br (.not (.var 0)) (.done (.lf (.bool (.lit .false))) ⟨[], ⟨9, 1, 0, 12, 6⟩⟩) (.again 4 ⟨[(.op .add .i64 (.var 0) (.lit 1))], [], [], [], []⟩ ⟨[], ⟨9, 1, 0, 12, 6⟩⟩))))) (.ld .false (.adr 1 (.var 0) 6 3) [(tVi 7), (tSl 2 4 5), (tSl 3 6 7)] ⟨[], ⟨7, 0, 0, 4, 2⟩⟩ ⟨[], ⟨8, 0, 0, 8, 4⟩⟩ (.ld .false (.adr 0 (.var 0) 6 3) [(tVi 8), (tSl 4 8 9), (tSl 5 10 11)] ⟨[], ⟨8, 0, 0, 8, 4⟩⟩ ⟨[], ⟨9, 0, 0, 12, 6⟩⟩ (.call 22 [(.agg [(tVi 8), (tSl 4 8 9), (tSl 5 10 11)]), (.agg [(tVi 7), (tSl 2 4 5), (tSl 3 6 7)])] ⟨[], ⟨9, 0, 0, 12, 6⟩⟩ (.lf (.bool (.var 0))) ⟨[], ⟨9, 1, 0, 12, 6⟩⟩ (.br (.not (.var 0)) (.done (.lf (.bool (.lit .false))) ⟨[], ⟨9, 1, 0, 12, 6⟩⟩) (.again 4 ⟨[(.op .add .i64 (.var 0) (.lit 1))], [], [], [], []⟩ ⟨[], ⟨9, 1, 0, 12, 6⟩⟩))))))))
abbrev tRSameVst0 : Tree := (.need (.inb 0 (.var 0) (.nat 0)) (.need (.inb 1 (.var 0) (.nat 2)) (.par (.ld .false (.adr 0 (.var 0) 6 1) [(tVi 3), (tVi 4)] ⟨[], ⟨3, 0, 0, 4, 2⟩⟩ ⟨[], ⟨5, 0, 0, 4, 2⟩⟩ (.ld .false (.adr 1 (.var 0) 6 1) [(tVi 5), (tVi 6)] ⟨[], ⟨5, 0, 0, 4, 2⟩⟩ ⟨[], ⟨7, 0, 0, 4, 2⟩⟩ (.br (.not (.and (.cmp .eql (.var 3) (.var 5)) (.cmp .eql (.var 4) (.var 6)))) (.done (.lf (.bool (.lit .false))) ⟨[], ⟨7, 0, 0, 4, 2⟩⟩) tRSameVst1))) (.ld .false (.adr 1 (.var 0) 6 1) [(tVi 3), (tVi 4)] ⟨[], ⟨3, 0, 0, 4, 2⟩⟩ ⟨[], ⟨5, 0, 0, 4, 2⟩⟩ (.ld .false (.adr 0 (.var 0) 6 1) [(tVi 5), (tVi 6)] ⟨[], ⟨5, 0, 0, 4, 2⟩⟩ ⟨[], ⟨7, 0, 0, 4, 2⟩⟩ (.br (.not (.and (.cmp .eql (.var 5) (.var 3)) (.cmp .eql (.var 6) (.var 4)))) (.done (.lf (.bool (.lit .false))) ⟨[], ⟨7, 0, 0, 4, 2⟩⟩) tRSameVst1))))))
set_option maxRecDepth 100000 in
theorem tRSameVs : (runF ⟨tt, fns, { loops := [(4, ⟨[(13, .int .i64)], []⟩)] }⟩ (Try.f12.body.getD .skip) Try.f12.results.toList (entry Try.f12.ntmps [.lf (.sl 0 (.var 0) (.var 1)), .lf (.sl 1 (.var 2) (.var 3))] [] ⟨0, 0, 0, 4, 2⟩)) =
  (.br (.cmp .neq (.nat 0) (.nat 2)) (.done (.lf (.bool (.lit .false))) ⟨[], ⟨0, 0, 0, 4, 2⟩⟩) (.loop 4 ⟨[(.lit 0)], [], [], [], []⟩ ⟨[], ⟨0, 0, 0, 4, 2⟩⟩ ⟨[], ⟨1, 0, 0, 4, 2⟩⟩ (.br (.cmp .lss (.var 0) (.nat 0)) (.need (.inb 0 (.var 0) (.nat 0)) (.need (.inb 1 (.var 0) (.nat 2)) (.par (.ld .false (.adr 0 (.var 0) 6 0) [(tVi 1)] ⟨[], ⟨1, 0, 0, 4, 2⟩⟩ ⟨[], ⟨2, 0, 0, 4, 2⟩⟩ (.ld .false (.adr 1 (.var 0) 6 0) [(tVi 2)] ⟨[], ⟨2, 0, 0, 4, 2⟩⟩ ⟨[], ⟨3, 0, 0, 4, 2⟩⟩ (.br (.cmp .neq (.var 1) (.var 2)) (.done (.lf (.bool (.lit .false))) ⟨[], ⟨3, 0, 0, 4, 2⟩⟩) tRSameVst0))) (.ld .false (.adr 1 (.var 0) 6 0) [(tVi 1)] ⟨[], ⟨1, 0, 0, 4, 2⟩⟩ ⟨[], ⟨2, 0, 0, 4, 2⟩⟩ (.ld .false (.adr 0 (.var 0) 6 0) [(tVi 2)] ⟨[], ⟨2, 0, 0, 4, 2⟩⟩ ⟨[], ⟨3, 0, 0, 4, 2⟩⟩ (.br (.cmp .neq (.var 2) (.var 1)) (.done (.lf (.bool (.lit .false))) ⟨[], ⟨3, 0, 0, 4, 2⟩⟩) tRSameVst0)))))) (.done (.lf (.bool (.lit .true))) ⟨[], ⟨1, 0, 0, 4, 2⟩⟩)))) := by kernel_rfl
structure Vo (α : Type) where
  s : Int
  r : Int
  n : Int
  v : α
def Vo.map {α β : Type} (f : α → β) (x : Vo α) : Vo β := ⟨x.s, x.r, x.n, f x.v⟩
def Pv.val (p : Pv) : Value := vlV p.v p.a1 p.c1 p.a2 p.c2
def Pv.hx (p : Pv) : HX := vlX p.v p.a1 p.a2
def vz : Vl := ⟨0, [], []⟩
def pz : Pv := ⟨vz, none, 0, none, 0⟩
theorem vz_fit : VlFit vz := ⟨(fun n h => by cases h), by decide, by decide⟩
def voC (x : Vo Pv) : List Value := [.int .i64 x.s, .int .i64 x.r, .int .i64 x.n, .int .i64 x.v.v.k, .slice x.v.a1 x.v.v.cs.length x.v.c1, .slice x.v.a2 x.v.v.ns.length x.v.c2]
def vocs (xs : List (Vo Pv)) : List Value := xs.flatMap voC
theorem voc_len (x : Vo Pv) : (voC x).length = 6 := rfl
def voX (a : Option Addr) (xs : List (Vo Pv)) : HX := (HX.cl a (vocs xs)).and (HX.all (xs.map fun x => x.v.hx))
def vlsOf (xs : List (Vo Pv)) : List (Vo Vl) := xs.map (Vo.map Pv.v)
section
variable {w : World} {a : Option Addr} {xs : List (Vo Pv)}
theorem voX_sep (h : (voX a xs).X w) : ∀ k, (voX a xs).F k → k < w.heap.size := fun k hk => by
  rcases hk with hk | ⟨y, hy, hk⟩
  · exact cl_sep h.1 k hk
  · obtain ⟨x, hx, rfl⟩ := List.mem_map.1 hy
    exact vlX_sep (h.2 _ hy) k hk
theorem voX_at (h : (voX a xs).X w) (hf : ∀ x ∈ xs, VlFit x.v.v) {x : Vo Pv} (hx : x ∈ xs) : VlAt w x.v.v x.v.a1 x.v.a2 := (hf x hx).at_ (h.2 _ (List.mem_map.2 ⟨x, hx, rfl⟩))
end
def pvR (p : Pv) : HX := (crow p.a1 p.v.cs.length p.c1 p.v.cs).and (nrow p.a2 p.v.ns.length p.c2 p.v.ns)
def vrow (a : Option Addr) (c : Nat) (vs : List (Vo Pv)) : HX := HX.rw 6 39 a vs.length c (vocs vs)
def voAll (vs : List (Vo Pv)) : HX := HX.all (vs.map fun x => pvR x.v)
theorem voC_one (x : Vo Pv) : ∀ v ∈ voC x, v.oneCell' = true := fun v hv => by
  simp only [voC, List.mem_cons, List.not_mem_nil, or_false] at hv
  rcases hv with rfl | rfl | rfl | rfl | rfl | rfl <;> rfl
theorem vocs_snoc (xs : List (Vo Pv)) (x : Vo Pv) : vocs xs ++ voC x = vocs (xs ++ [x]) := by unfold vocs; rw [List.flatMap_append]; simp
theorem info_vote : (Try.prog.info? 39).map (fun i => (i.zero, i.size, i.bytes)) = some (some (.agg #[.int .i64 0, .int .i64 0, .int .i64 0, .int .i64 0, .slice none 0 0, .slice none 0 0]), 6, 80) := by kernel_rfl
theorem all_snocV (xs : List HX) (x : HX) : HX.all (xs ++ [x]) = (HX.all xs).and x := HX.ext (by
    funext k
    refine propext ⟨fun ⟨y, hy, hk⟩ => ?_, fun h => ?_⟩
    · rcases List.mem_append.1 hy with hy | hy
      · exact .inl ⟨y, hy, hk⟩
      · rw [List.mem_singleton.1 hy] at hk; exact .inr hk
    · rcases h with ⟨y, hy, hk⟩ | hk
      · exact ⟨y, List.mem_append_left _ hy, hk⟩
      · exact ⟨x, List.mem_append_right _ (List.mem_singleton.2 rfl), hk⟩) (by
    funext w
    refine propext ⟨fun h => ⟨fun y hy => h y (List.mem_append_left _ hy), h x (List.mem_append_right _ (List.mem_singleton.2 rfl))⟩, fun h y hy => ?_⟩
    rcases List.mem_append.1 hy with hy | hy
    · exact h.1 y hy
    · rw [List.mem_singleton.1 hy]; exact h.2)
theorem voAll_snoc (xs : List (Vo Pv)) (x : Vo Pv) : voAll (xs ++ [x]) = (voAll xs).and (pvR x.v) := by unfold voAll; rw [List.map_append]; exact all_snocV _ _
def OwnR (W : World) (B : HX) (X : HX) : Prop := ∀ k, X.F k → W.heap.size ≤ k ∧ ¬ B.F k
section
variable {C : Cfg} {ρ : Env} {pre : List Nat} {hx : HX} {L : Stack} {m m' : Mem} {t : Tree}
theorem node_ldx {l : LV} {cs : List LV} (vs : Vals) (V : Value) (us : List Value) (hl : ∀ ids, l.den ρ ids = V) (hcs : ∀ ids, cellsDen (ρ.add vs) ids cs = us) (hcell : CellsAt C.W V us C.M) (hc : (ρ.add vs).cnt = m'.c ∧ (ρ.add vs).v = []) (h : t.holds C (ρ.add vs) pre hx L) : (Tree.ld false l cs m m' t).holds C ρ pre hx L :=
  ⟨vs, fun ids => by rw [hl, hcs]; exact hcell, ⟨hc.1, fun v hv => by rw [hc.2] at hv; cases hv⟩, h⟩
end
section
variable {w : World} {a : Option Addr} {xs : List (Vo Pv)}
theorem vo_part (h : (voX a xs).X w) {i : Nat} {x : Vo Pv} (hi : xs[i]? = some x) (o : Nat) (us : List Value) (hu : ∀ j u, us[j]? = some u → (voC x)[o + j]? = some u) (h0 : us ≠ []) : a.isSome = true ∧ CellsAt w (.pointer (some (((a.getD ⟨0, 0, none⟩).add (i * 6)).add o))) us (fun _ => False) := by
  obtain ⟨h1, h2⟩ := flat_part voc_len h.1 hi (o := o) us hu h0
  exact ⟨h1, h2 _ id⟩
end
theorem vlsOf_get {xs : List (Vo Pv)} {k : Nat} {x : Vo Pv} (h : xs[k]? = some x) : (vlsOf xs)[k]? = some (Vo.map Pv.v x) := by unfold vlsOf; rw [List.getElem?_map, h]; rfl
theorem vlsOf_len (xs : List (Vo Pv)) : (vlsOf xs).length = xs.length := List.length_map _
def VoNew (w : World) (xs : List (Vo Pv)) (e : Ending) (w' : World) : Prop := ∃ (a : Option Addr) (c : Nat) (ys : List (Vo Pv)), e = .returned (.slice a ys.length c) ∧ vlsOf ys = vlsOf xs ∧ ((voAll ys).and (vrow a c ys)).X w' ∧ (∀ k, ((voAll ys).and (vrow a c ys)).F k → w.heap.size ≤ k ∧ k < w'.heap.size) ∧ Below w.heap.size w w'
section
variable {C : Cfg} {ρ : Env} {pre : List Nat} {hx : HX} {L : Stack} {m m' : Mem} {args : List SV} {r : SV} {t : Tree}
theorem node_cpr (hP : C.P = Try.prog) (p : Pv) (hfit : VlFit p.v) (hat : ∀ ids w, pre <+: ids → Facts C m ρ ids hx w → (vlX p.v p.a1 p.a2).X w) (hargs : ∀ ids, (args.map (SV.den ρ ids)).toArray = #[p.val]) (hr : ∀ (q : Pv) ids, r.den (ρ.add ⟨[q.v.k], [], [], [q.v.cs.length, q.c1, q.v.ns.length, q.c2], [q.a1, q.a2]⟩) ids = q.val)
    (hhp : m'.hp = m.hp) (hft : hpFits m.c m.hp.length m.hp = true) (hc : ∀ q : Pv, (ρ.add ⟨[q.v.k], [], [], [q.v.cs.length, q.c1, q.v.ns.length, q.c2], [q.a1, q.a2]⟩).cnt = m'.c)
    (h : ∀ q : Pv, q.v = p.v → (∀ k, (pvR q).F k → C.W.heap.size ≤ k ∧ ¬ hx.F k) → t.holds C (ρ.add ⟨[q.v.k], [], [], [q.v.cs.length, q.c1, q.v.ns.length, q.c2], [q.a1, q.a2]⟩) pre (hx.and (pvR q)) L) : (Tree.call 23 args m r m' t).holds C ρ pre hx L := by
  refine node_out (fun _ => #[p.val]) (fun vs h' => ∃ q : Pv, q.v = p.v ∧ vs = ⟨[q.v.k], [], [], [q.v.cs.length, q.c1, q.v.ns.length, q.c2], [q.a1, q.a2]⟩ ∧ h' = pvR q) hargs (fun ids w hp hf => ?_) hhp hft ?_ ?_
  · rw [hP]
    refine (cpvr_any p.v p.a1 p.c1 p.a2 p.c2 w (hfit.at_ (hat ids w hp hf))).mono ?_
    rintro e w' ⟨b1, d1, b2, d2, rfl, g1, g2, g3, g4, g5⟩
    exact ⟨_, _, ⟨⟨p.v, b1, d1, b2, d2⟩, rfl, rfl, rfl⟩, by rw [hr ⟨p.v, b1, d1, b2, d2⟩]; rfl, ⟨g1, g2⟩, fun k hk => hk.elim (fun q => ⟨g3 k q, rw_ltx g1 q.1 q.2⟩) fun q => ⟨(g4 k q).1, rw_ltx g2 q.1 q.2⟩, g5⟩
  · rintro vs h' ⟨q, _, rfl, rfl⟩; exact ⟨hc q, oneNil⟩
  · rintro vs h' ⟨q, e, rfl, rfl⟩ hfr; exact h q e hfr
end
set_option maxHeartbeats 1000000 in
theorem cpvs7_any (a : Option Addr) (c : Nat) (xs : List (Vo Pv)) (w : World) (H : (voX a xs).X w) (hf : ∀ x ∈ xs, VlFit x.v.v) (hl : xs.length * 80 ≤ 140737488355328) : Calls Try.prog 20 #[.slice a xs.length c] w (VoNew w xs) := by
  obtain ⟨B, eB⟩ : ∃ x, x = voX a xs := ⟨_, rfl⟩
  refine calls_at (tab_ok _) Try.func20 rfl tCpVs7 (ρ := ⟨[], [], [], [xs.length, c], [a]⟩) (ids := []) (hx := B) rfl (Facts.initq rfl oneNil (by rw [eB]; exact H) (by rw [eB]; exact voX_sep H)) ?_
  refine ⟨fun vs hx m => ∃ (k : Nat) (b : Option Addr) (d : Nat) (ys : List (Vo Pv)), m = xs.length - k ∧ k ≤ xs.length ∧ ys.length = k ∧ vlsOf ys = (vlsOf xs).take k ∧ OwnR w B (voAll ys) ∧ OwnR w (B.and (voAll ys)) (vrow b d ys) ∧ vs = ⟨[(k : Int)], [], [], [ys.length, d], [b]⟩ ∧ hx = (B.and (voAll ys)).and (vrow b d ys), fun ids w2 hp hf => ⟨(B.and (voAll [])).and (vrow (some ⟨idAt ids 0, 0, none⟩) 0 []), xs.length, ⟨⟨⟨hf.x, fun x hx => by cases hx⟩, HX.rw_nil _ _ _ _⟩, fun k hk => hk.elim (fun q => q.elim (fun q => hf.sep k q) fun ⟨x, hx, _⟩ => by cases hx) fun q => absurd rfl q.1⟩, 0, some ⟨idAt ids 0, 0, none⟩, 0, [], rfl, Nat.zero_le _, rfl, rfl, (fun k ⟨x, hx, _⟩ => by cases hx), (fun k hk => absurd rfl hk.1), by kernel_rfl, rfl⟩, ?_⟩
  rintro vs hx' m hcnt ⟨k, b, d, ys, rfl, hk, hyl, hv, ownv, ownr, rfl, rfl⟩
  refine holds_env (ρ' := ⟨[(k : Int)], [], [], [xs.length, c, ys.length, d], [a, b]⟩) rfl ?_
  refine br_D (p := (k : Int) < (xs.length : Int)) (by kernel_rfl) (fun hlt => ?_) (fun hlt => ?_)
  · have hlt : k < xs.length := by omega
    obtain ⟨x, hx⟩ : ∃ b, xs[k]? = some b := ⟨_, List.getElem?_eq_getElem hlt⟩
    have hxm := List.mem_of_getElem? hx
    obtain ⟨s1, q1⟩ := vo_part H hx 0 (voC x) (fun j u hj => by rw [Nat.zero_add]; exact hj) (by simp [voC])
    refine need_k (a.isSome = true ∧ 0 ≤ (k : Int) ∧ (k : Int) < (xs.length : Int)) (by kernel_rfl) ⟨s1, by omega, by omega⟩ ?_
    refine node_ldx ⟨[x.s, x.r, x.n, x.v.v.k], [], [], [x.v.v.cs.length, x.v.c1, x.v.v.ns.length, x.v.c2], [x.v.a1, x.v.a2]⟩ (.pointer (some (((a.getD ⟨0, 0, none⟩).add (k * 6)).add 0))) (voC x) (by intros; kernel_rfl) (by intros; kernel_rfl) q1 ⟨by kernel_rfl, by kernel_rfl⟩ ?_
    refine node_cpr rfl x.v (hf x hxm) (fun ids w2 hp hf2 => by have := hf2.x.1.1; rw [eB] at this; exact this.2 _ (List.mem_map.2 ⟨x, hxm, rfl⟩)) (by intros; kernel_rfl) (by intros; kernel_rfl) (by kernel_rfl) (by kernel_rfl) (by intros; kernel_rfl) ?_
    intro q hq fq
    obtain ⟨z, ez⟩ : ∃ z : Vo Pv, z = ⟨x.s, x.r, x.n, q⟩ := ⟨_, rfl⟩
    have hzv : Vo.map Pv.v z = Vo.map Pv.v x := by rw [ez]; unfold Vo.map; dsimp only; rw [hq]
    have hv' : vlsOf (ys ++ [z]) = (vlsOf xs).take (k + 1) := by
      rw [List.take_add_one, vlsOf_get hx, ← hv]
      unfold vlsOf
      rw [List.map_append, ← hzv]; rfl
    refine holds_eq (HX.and_right_comm _ _ _) ?_
    have epc : (B.and (voAll ys)).and (pvR q) = B.and (voAll (ys ++ [z])) := by rw [voAll_snoc, ez, HX.and_assoc]
    refine holds_eq (congrArg (fun y => y.and (vrow b d ys)) epc) ?_
    have fz : ∀ j, (pvR z.v).F j → w.heap.size ≤ j ∧ ¬ ((B.and (voAll ys)).and (vrow b d ys)).F j := fun j hj => by rw [ez] at hj; exact fq j hj
    have ownv' : OwnR w B (voAll (ys ++ [z])) := fun j hj => by
      rw [voAll_snoc] at hj
      rcases hj with hj | hj
      · exact ownv j hj
      · exact ⟨(fz j hj).1, fun y => (fz j hj).2 (.inl (.inl y))⟩
    have hdis : ∀ j, d ≠ 0 → abk b = some j → ¬ (B.and (voAll (ys ++ [z]))).F j := fun j q1 q2 y => by
      rcases y with y | y
      · exact (ownr j ⟨q1, q2⟩).2 (.inl y)
      · rw [voAll_snoc] at y
        rcases y with y | y
        · exact (ownr j ⟨q1, q2⟩).2 (.inr y)
        · exact (fz j y).2 (.inr ⟨q1, q2⟩)
    have hwk : IntKind.i64.wrap ((k : Int) + 1) = ((k + 1 : Nat) : Int) := by rw [wrap_i64 (by omega)]; omega
    refine node_pushs (e := 39) (sz := 6) rfl Try.underlying24 info_vote rfl (by decide) b ys.length d (vocs ys) (voC z) 2 (by intros; kernel_rfl) (by intros; kernel_rfl) rfl (fun ids => by rw [ez]; kernel_rfl) rfl (voC_one z) hdis (fun j q1 q2 => .inl (ownr j ⟨q1, q2⟩).1) (by unfold maxLen; omega) (by omega) (by intros; kernel_rfl) (by kernel_rfl) (by kernel_rfl) (by intros; kernel_rfl) ?_
    intro b' d' hc' hr' hor'
    have erow : HX.rw 6 39 b' (ys.length + 1) d' (vocs ys ++ voC z) = vrow b' d' (ys ++ [z]) := by unfold vrow; rw [vocs_snoc, List.length_append]; rfl
    refine holds_eq (congrArg _ erow) ?_
    refine again_V ⟨[IntKind.i64.wrap ((k : Int) + 1)], [], [], [ys.length + 1, d'], [b']⟩ rfl (by intros; kernel_rfl) _ (fun w2 ids hf => ⟨hf.x, hf.sep⟩) ⟨xs.length - (k + 1), by omega, k + 1, b', d', ys ++ [z], rfl, by omega, by rw [List.length_append, hyl]; rfl, hv', ownv', fun j hj => ⟨?_, hr' j hj.2⟩, by rw [hwk, List.length_append]; rfl, rfl⟩
    rcases hor' with ⟨r1, r2⟩ | ⟨g, r1, r2, _⟩
    · exact (ownr j ⟨r1, by rw [← r2]; exact hj.2⟩).1
    · have := hj.2
      rw [r1] at this; cases this; exact r2
  · have hke : k = xs.length := by omega
    intro ids w2 hp hf2
    refine ⟨b, d, ys, rfl, by rw [hv, hke]; exact List.take_of_length_le (by rw [vlsOf_len]; exact Nat.le_refl _), ⟨hf2.x.1.2, hf2.x.2⟩, fun j hj => ?_, hf2.chg.below⟩
    rcases hj with hj | hj
    · exact ⟨(ownv j hj).1, (hf2.sep j (.inl (.inr hj))).1⟩
    · exact ⟨(ownr j hj).1, (hf2.sep j (.inr hj)).1⟩
noncomputable def voSame (a b : List (Vo Vl)) : Bool := @decide (a = b) (Classical.propDecidable _)
theorem voSame_t {a b : List (Vo Vl)} (h : a = b) : voSame a b = true := @decide_eq_true _ (Classical.propDecidable _) h
theorem voSame_f {a b : List (Vo Vl)} (h : ¬ a = b) : voSame a b = false := @decide_eq_false _ (Classical.propDecidable _) h
set_option maxHeartbeats 2000000 in
theorem rsamevs_any (a : Option Addr) (c : Nat) (xs : List (Vo Pv)) (b : Option Addr) (d : Nat) (ys : List (Vo Pv)) (w : World) (H : (voX a xs).X w) (H2 : (voX b ys).X w) (hf : ∀ x ∈ xs, VlFit x.v.v) (hf2 : ∀ x ∈ ys, VlFit x.v.v) (hl : xs.length ≤ 4611686018427387904) :
    Calls Try.prog 12 #[.slice a xs.length c, .slice b ys.length d] w (PureAt w (.bool (voSame (vlsOf xs) (vlsOf ys)))) := by
  refine calls_at (tab_ok _) Try.func12 rfl tRSameVs (ρ := ⟨[], [], [], [xs.length, c, ys.length, d], [a, b]⟩) (ids := []) (hx := (voX a xs).and (voX b ys)) rfl (Facts.initq rfl oneNil ⟨H, H2⟩ (fun k hk => hk.elim (voX_sep H k) (voX_sep H2 k))) ?_
  have no : ∀ {m2 : Mem} {ρ : Env} {hx : HX} {S : Stack}, ¬ vlsOf xs = vlsOf ys → (Tree.done (.lf (.bool (.lit false))) m2).holds ⟨Try.prog, w, fun _ => False, PureAt w (.bool (voSame (vlsOf xs) (vlsOf ys)))⟩ ρ [] hx S := fun h => pure_done fun _ => by rw [voSame_f h]; rfl
  refine br_D (p := (xs.length : Int) ≠ (ys.length : Int)) (by show ((xs.length : Int) != (ys.length : Int)) = _; rw [Bool.eq_iff_iff]; simp) (fun h => no fun e => h (by have := congrArg List.length e; rw [vlsOf_len, vlsOf_len] at this; omega)) (fun hlen => ?_)
  have hlen : xs.length = ys.length := by omega
  refine ⟨fun vs hx m => ∃ k : Nat, m = xs.length - k ∧ k ≤ xs.length ∧ (vlsOf xs).take k = (vlsOf ys).take k ∧ vs = ⟨[(k : Int)], [], [], [], []⟩ ∧ (voX a xs).and (voX b ys) = hx, fun ids w2 hp hf => ⟨_, xs.length, ⟨hf.x, hf.sep⟩, 0, rfl, Nat.zero_le _, rfl, by kernel_rfl, rfl⟩, ?_⟩
  rintro vs hx' m hcnt ⟨k, rfl, hk, heq, rfl, rfl⟩
  refine holds_env (ρ' := ⟨[(k : Int)], [], [], [xs.length, c, ys.length, d], [a, b]⟩) rfl ?_
  refine br_D (p := (k : Int) < (xs.length : Int)) (by kernel_rfl) (fun hlt => ?_) (fun hlt => pure_done fun _ => ?_)
  · have hlt : k < xs.length := by omega
    obtain ⟨x, hx⟩ : ∃ b, xs[k]? = some b := ⟨_, List.getElem?_eq_getElem hlt⟩
    obtain ⟨y, hy⟩ : ∃ b, ys[k]? = some b := ⟨_, List.getElem?_eq_getElem (by omega)⟩
    have gx := vlsOf_get hx
    have gy := vlsOf_get hy
    have hxv := voX_at H hf (List.mem_of_getElem? hx)
    have hyv := voX_at H2 hf2 (List.mem_of_getElem? hy)
    have hne : ¬ (x.s = y.s ∧ x.r = y.r ∧ x.n = y.n ∧ x.v.v = y.v.v) → ¬ vlsOf xs = vlsOf ys := fun h e => h (by
      rw [e, gy] at gx
      have e2 : Vo.map Pv.v x = Vo.map Pv.v y := (Option.some.inj gx).symm
      exact ⟨congrArg (fun z : Vo Vl => z.s) e2, congrArg (fun z : Vo Vl => z.r) e2, congrArg (fun z : Vo Vl => z.n) e2, congrArg (fun z : Vo Vl => z.v) e2⟩)
    obtain ⟨s1, a1⟩ := vo_part H hx 0 [.int .i64 x.s] (fun j u hj => by cases j with | zero => exact hj | succ j => cases hj) (by simp)
    obtain ⟨_, a2⟩ := vo_part H hx 1 [.int .i64 x.r, .int .i64 x.n] (fun j u hj => by rcases j with _ | _ | j; exact hj; exact hj; cases hj) (by simp)
    obtain ⟨_, a3⟩ := vo_part H hx 3 x.v.cells (fun j u hj => by rcases j with _ | _ | _ | j; exact hj; exact hj; exact hj; cases hj) (by simp [Pv.cells])
    obtain ⟨s2, b1⟩ := vo_part H2 hy 0 [.int .i64 y.s] (fun j u hj => by cases j with | zero => exact hj | succ j => cases hj) (by simp)
    obtain ⟨_, b2⟩ := vo_part H2 hy 1 [.int .i64 y.r, .int .i64 y.n] (fun j u hj => by rcases j with _ | _ | j; exact hj; exact hj; cases hj) (by simp)
    obtain ⟨_, b3⟩ := vo_part H2 hy 3 y.v.cells (fun j u hj => by rcases j with _ | _ | _ | j; exact hj; exact hj; exact hj; cases hj) (by simp [Pv.cells])
    have hwk : IntKind.i64.wrap ((k : Int) + 1) = ((k + 1 : Nat) : Int) := by rw [wrap_i64 (by omega)]; omega
    have fin : x.s = y.s → (x.r = y.r ∧ x.n = y.n) → x.v.v = y.v.v → ∀ {mm : Mem} {ρ : Env} {es : Vec} {S : Stack}, (∀ ids, es.den ρ ids = ⟨[IntKind.i64.wrap ((k : Int) + 1)], [], [], [], []⟩) → (Tree.again 4 es mm).holds ⟨Try.prog, w, fun _ => False, PureAt w (.bool (voSame (vlsOf xs) (vlsOf ys)))⟩ ρ [] ((voX a xs).and (voX b ys)) ((4, fun vs' hx'' => ∃ n', n' < xs.length - k ∧ ∃ k : Nat, n' = xs.length - k ∧ k ≤ xs.length ∧ (vlsOf xs).take k = (vlsOf ys).take k ∧ vs' = ⟨[(k : Int)], [], [], [], []⟩ ∧ (voX a xs).and (voX b ys) = hx'') :: S) := fun e1 e2 e3 {mm ρ es S} hes =>
      again_V ⟨[IntKind.i64.wrap ((k : Int) + 1)], [], [], [], []⟩ rfl hes _ (fun w2 ids hf => ⟨hf.x, hf.sep⟩) ⟨xs.length - (k + 1), by omega, k + 1, rfl, by omega, (take_stepV gx gy heq).2 (by unfold Vo.map; rw [e1, e2.1, e2.2, e3]), by rw [hwk], rfl⟩
    refine need_k (a.isSome = true ∧ 0 ≤ (k : Int) ∧ (k : Int) < (xs.length : Int)) (by kernel_rfl) ⟨s1, by omega, by omega⟩ ?_
    refine need_k (b.isSome = true ∧ 0 ≤ (k : Int) ∧ (k : Int) < (ys.length : Int)) (by kernel_rfl) ⟨s2, by omega, by omega⟩ ?_
    refine par_i ?_ ?_
    · skip
      refine node_ldx ⟨[x.s], [], [], [], []⟩ (.pointer (some (((a.getD ⟨0, 0, none⟩).add (k * 6)).add 0))) [.int .i64 x.s] (by intros; kernel_rfl) (by intros; kernel_rfl) a1 ⟨by kernel_rfl, by kernel_rfl⟩ ?_
      refine node_ldx ⟨[y.s], [], [], [], []⟩ (.pointer (some (((b.getD ⟨0, 0, none⟩).add (k * 6)).add 0))) [.int .i64 y.s] (by intros; kernel_rfl) (by intros; kernel_rfl) b1 ⟨by kernel_rfl, by kernel_rfl⟩ ?_
      refine br_B (x.s != y.s) (by kernel_rfl) (fun h => no (hne fun q => by rw [q.1] at h; simp at h)) (fun h1 => ?_)
      refine need_k (a.isSome = true ∧ 0 ≤ (k : Int) ∧ (k : Int) < (xs.length : Int)) (by kernel_rfl) ⟨s1, by omega, by omega⟩ ?_
      refine need_k (b.isSome = true ∧ 0 ≤ (k : Int) ∧ (k : Int) < (ys.length : Int)) (by kernel_rfl) ⟨s2, by omega, by omega⟩ ?_
      refine par_i ?_ ?_
      · skip
        refine node_ldx ⟨[x.r, x.n], [], [], [], []⟩ (.pointer (some (((a.getD ⟨0, 0, none⟩).add (k * 6)).add 1))) [.int .i64 x.r, .int .i64 x.n] (by intros; kernel_rfl) (by intros; kernel_rfl) a2 ⟨by kernel_rfl, by kernel_rfl⟩ ?_
        refine node_ldx ⟨[y.r, y.n], [], [], [], []⟩ (.pointer (some (((b.getD ⟨0, 0, none⟩).add (k * 6)).add 1))) [.int .i64 y.r, .int .i64 y.n] (by intros; kernel_rfl) (by intros; kernel_rfl) b2 ⟨by kernel_rfl, by kernel_rfl⟩ ?_
        refine br_B (!((x.r == y.r) && (x.n == y.n))) (by kernel_rfl) (fun h => no (hne fun q => by rw [q.2.1, q.2.2.1] at h; simp at h)) (fun h2 => ?_)
        refine need_k (a.isSome = true ∧ 0 ≤ (k : Int) ∧ (k : Int) < (xs.length : Int)) (by kernel_rfl) ⟨s1, by omega, by omega⟩ ?_
        refine need_k (b.isSome = true ∧ 0 ≤ (k : Int) ∧ (k : Int) < (ys.length : Int)) (by kernel_rfl) ⟨s2, by omega, by omega⟩ ?_
        refine par_i ?_ ?_
        · skip
          refine node_ldx ⟨[x.v.v.k], [], [], [x.v.v.cs.length, x.v.c1, x.v.v.ns.length, x.v.c2], [x.v.a1, x.v.a2]⟩ (.pointer (some (((a.getD ⟨0, 0, none⟩).add (k * 6)).add 3))) x.v.cells (by intros; kernel_rfl) (by intros; kernel_rfl) a3 ⟨by kernel_rfl, by kernel_rfl⟩ ?_
          refine node_ldx ⟨[y.v.v.k], [], [], [y.v.v.cs.length, y.v.c1, y.v.v.ns.length, y.v.c2], [y.v.a1, y.v.a2]⟩ (.pointer (some (((b.getD ⟨0, 0, none⟩).add (k * 6)).add 3))) y.v.cells (by intros; kernel_rfl) (by intros; kernel_rfl) b3 ⟨by kernel_rfl, by kernel_rfl⟩ ?_
          refine node_PI ⟨[], [vlSame x.v.v y.v.v], [], [], []⟩ (fun _ => #[x.v.val, y.v.val]) (.bool (vlSame x.v.v y.v.v)) (by intros; kernel_rfl) (by intros; kernel_rfl) (by kernel_rfl) (by kernel_rfl) (by kernel_rfl) oneNil (fun ids w2 hp hf3 => samev_any _ _ _ _ _ _ _ _ _ _ w2 (voX_at hf3.x.1 hf (List.mem_of_getElem? hx)) (voX_at hf3.x.2 hf2 (List.mem_of_getElem? hy))) ?_
          refine br_B (!(vlSame x.v.v y.v.v)) (by kernel_rfl) (fun h => no (hne fun q => by rw [vlSame_t q.2.2.2] at h; cases h)) (fun h3 => ?_)
          exact fin (by simpa using h1) (by simpa using h2) (Classical.byContradiction fun q => by rw [vlSame_f q] at h3; cases h3) (by intros; kernel_rfl)
        · skip
          refine node_ldx ⟨[y.v.v.k], [], [], [y.v.v.cs.length, y.v.c1, y.v.v.ns.length, y.v.c2], [y.v.a1, y.v.a2]⟩ (.pointer (some (((b.getD ⟨0, 0, none⟩).add (k * 6)).add 3))) y.v.cells (by intros; kernel_rfl) (by intros; kernel_rfl) b3 ⟨by kernel_rfl, by kernel_rfl⟩ ?_
          refine node_ldx ⟨[x.v.v.k], [], [], [x.v.v.cs.length, x.v.c1, x.v.v.ns.length, x.v.c2], [x.v.a1, x.v.a2]⟩ (.pointer (some (((a.getD ⟨0, 0, none⟩).add (k * 6)).add 3))) x.v.cells (by intros; kernel_rfl) (by intros; kernel_rfl) a3 ⟨by kernel_rfl, by kernel_rfl⟩ ?_
          refine node_PI ⟨[], [vlSame x.v.v y.v.v], [], [], []⟩ (fun _ => #[x.v.val, y.v.val]) (.bool (vlSame x.v.v y.v.v)) (by intros; kernel_rfl) (by intros; kernel_rfl) (by kernel_rfl) (by kernel_rfl) (by kernel_rfl) oneNil (fun ids w2 hp hf3 => samev_any _ _ _ _ _ _ _ _ _ _ w2 (voX_at hf3.x.1 hf (List.mem_of_getElem? hx)) (voX_at hf3.x.2 hf2 (List.mem_of_getElem? hy))) ?_
          refine br_B (!(vlSame x.v.v y.v.v)) (by kernel_rfl) (fun h => no (hne fun q => by rw [vlSame_t q.2.2.2] at h; cases h)) (fun h3 => ?_)
          exact fin (by simpa using h1) (by simpa using h2) (Classical.byContradiction fun q => by rw [vlSame_f q] at h3; cases h3) (by intros; kernel_rfl)
      · skip
        refine node_ldx ⟨[y.r, y.n], [], [], [], []⟩ (.pointer (some (((b.getD ⟨0, 0, none⟩).add (k * 6)).add 1))) [.int .i64 y.r, .int .i64 y.n] (by intros; kernel_rfl) (by intros; kernel_rfl) b2 ⟨by kernel_rfl, by kernel_rfl⟩ ?_
        refine node_ldx ⟨[x.r, x.n], [], [], [], []⟩ (.pointer (some (((a.getD ⟨0, 0, none⟩).add (k * 6)).add 1))) [.int .i64 x.r, .int .i64 x.n] (by intros; kernel_rfl) (by intros; kernel_rfl) a2 ⟨by kernel_rfl, by kernel_rfl⟩ ?_
        refine br_B (!((x.r == y.r) && (x.n == y.n))) (by kernel_rfl) (fun h => no (hne fun q => by rw [q.2.1, q.2.2.1] at h; simp at h)) (fun h2 => ?_)
        refine need_k (a.isSome = true ∧ 0 ≤ (k : Int) ∧ (k : Int) < (xs.length : Int)) (by kernel_rfl) ⟨s1, by omega, by omega⟩ ?_
        refine need_k (b.isSome = true ∧ 0 ≤ (k : Int) ∧ (k : Int) < (ys.length : Int)) (by kernel_rfl) ⟨s2, by omega, by omega⟩ ?_
        refine par_i ?_ ?_
        · skip
          refine node_ldx ⟨[x.v.v.k], [], [], [x.v.v.cs.length, x.v.c1, x.v.v.ns.length, x.v.c2], [x.v.a1, x.v.a2]⟩ (.pointer (some (((a.getD ⟨0, 0, none⟩).add (k * 6)).add 3))) x.v.cells (by intros; kernel_rfl) (by intros; kernel_rfl) a3 ⟨by kernel_rfl, by kernel_rfl⟩ ?_
          refine node_ldx ⟨[y.v.v.k], [], [], [y.v.v.cs.length, y.v.c1, y.v.v.ns.length, y.v.c2], [y.v.a1, y.v.a2]⟩ (.pointer (some (((b.getD ⟨0, 0, none⟩).add (k * 6)).add 3))) y.v.cells (by intros; kernel_rfl) (by intros; kernel_rfl) b3 ⟨by kernel_rfl, by kernel_rfl⟩ ?_
          refine node_PI ⟨[], [vlSame x.v.v y.v.v], [], [], []⟩ (fun _ => #[x.v.val, y.v.val]) (.bool (vlSame x.v.v y.v.v)) (by intros; kernel_rfl) (by intros; kernel_rfl) (by kernel_rfl) (by kernel_rfl) (by kernel_rfl) oneNil (fun ids w2 hp hf3 => samev_any _ _ _ _ _ _ _ _ _ _ w2 (voX_at hf3.x.1 hf (List.mem_of_getElem? hx)) (voX_at hf3.x.2 hf2 (List.mem_of_getElem? hy))) ?_
          refine br_B (!(vlSame x.v.v y.v.v)) (by kernel_rfl) (fun h => no (hne fun q => by rw [vlSame_t q.2.2.2] at h; cases h)) (fun h3 => ?_)
          exact fin (by simpa using h1) (by simpa using h2) (Classical.byContradiction fun q => by rw [vlSame_f q] at h3; cases h3) (by intros; kernel_rfl)
        · skip
          refine node_ldx ⟨[y.v.v.k], [], [], [y.v.v.cs.length, y.v.c1, y.v.v.ns.length, y.v.c2], [y.v.a1, y.v.a2]⟩ (.pointer (some (((b.getD ⟨0, 0, none⟩).add (k * 6)).add 3))) y.v.cells (by intros; kernel_rfl) (by intros; kernel_rfl) b3 ⟨by kernel_rfl, by kernel_rfl⟩ ?_
          refine node_ldx ⟨[x.v.v.k], [], [], [x.v.v.cs.length, x.v.c1, x.v.v.ns.length, x.v.c2], [x.v.a1, x.v.a2]⟩ (.pointer (some (((a.getD ⟨0, 0, none⟩).add (k * 6)).add 3))) x.v.cells (by intros; kernel_rfl) (by intros; kernel_rfl) a3 ⟨by kernel_rfl, by kernel_rfl⟩ ?_
          refine node_PI ⟨[], [vlSame x.v.v y.v.v], [], [], []⟩ (fun _ => #[x.v.val, y.v.val]) (.bool (vlSame x.v.v y.v.v)) (by intros; kernel_rfl) (by intros; kernel_rfl) (by kernel_rfl) (by kernel_rfl) (by kernel_rfl) oneNil (fun ids w2 hp hf3 => samev_any _ _ _ _ _ _ _ _ _ _ w2 (voX_at hf3.x.1 hf (List.mem_of_getElem? hx)) (voX_at hf3.x.2 hf2 (List.mem_of_getElem? hy))) ?_
          refine br_B (!(vlSame x.v.v y.v.v)) (by kernel_rfl) (fun h => no (hne fun q => by rw [vlSame_t q.2.2.2] at h; cases h)) (fun h3 => ?_)
          exact fin (by simpa using h1) (by simpa using h2) (Classical.byContradiction fun q => by rw [vlSame_f q] at h3; cases h3) (by intros; kernel_rfl)
    · skip
      refine node_ldx ⟨[y.s], [], [], [], []⟩ (.pointer (some (((b.getD ⟨0, 0, none⟩).add (k * 6)).add 0))) [.int .i64 y.s] (by intros; kernel_rfl) (by intros; kernel_rfl) b1 ⟨by kernel_rfl, by kernel_rfl⟩ ?_
      refine node_ldx ⟨[x.s], [], [], [], []⟩ (.pointer (some (((a.getD ⟨0, 0, none⟩).add (k * 6)).add 0))) [.int .i64 x.s] (by intros; kernel_rfl) (by intros; kernel_rfl) a1 ⟨by kernel_rfl, by kernel_rfl⟩ ?_
      refine br_B (x.s != y.s) (by kernel_rfl) (fun h => no (hne fun q => by rw [q.1] at h; simp at h)) (fun h1 => ?_)
      refine need_k (a.isSome = true ∧ 0 ≤ (k : Int) ∧ (k : Int) < (xs.length : Int)) (by kernel_rfl) ⟨s1, by omega, by omega⟩ ?_
      refine need_k (b.isSome = true ∧ 0 ≤ (k : Int) ∧ (k : Int) < (ys.length : Int)) (by kernel_rfl) ⟨s2, by omega, by omega⟩ ?_
      refine par_i ?_ ?_
      · skip
        refine node_ldx ⟨[x.r, x.n], [], [], [], []⟩ (.pointer (some (((a.getD ⟨0, 0, none⟩).add (k * 6)).add 1))) [.int .i64 x.r, .int .i64 x.n] (by intros; kernel_rfl) (by intros; kernel_rfl) a2 ⟨by kernel_rfl, by kernel_rfl⟩ ?_
        refine node_ldx ⟨[y.r, y.n], [], [], [], []⟩ (.pointer (some (((b.getD ⟨0, 0, none⟩).add (k * 6)).add 1))) [.int .i64 y.r, .int .i64 y.n] (by intros; kernel_rfl) (by intros; kernel_rfl) b2 ⟨by kernel_rfl, by kernel_rfl⟩ ?_
        refine br_B (!((x.r == y.r) && (x.n == y.n))) (by kernel_rfl) (fun h => no (hne fun q => by rw [q.2.1, q.2.2.1] at h; simp at h)) (fun h2 => ?_)
        refine need_k (a.isSome = true ∧ 0 ≤ (k : Int) ∧ (k : Int) < (xs.length : Int)) (by kernel_rfl) ⟨s1, by omega, by omega⟩ ?_
        refine need_k (b.isSome = true ∧ 0 ≤ (k : Int) ∧ (k : Int) < (ys.length : Int)) (by kernel_rfl) ⟨s2, by omega, by omega⟩ ?_
        refine par_i ?_ ?_
        · skip
          refine node_ldx ⟨[x.v.v.k], [], [], [x.v.v.cs.length, x.v.c1, x.v.v.ns.length, x.v.c2], [x.v.a1, x.v.a2]⟩ (.pointer (some (((a.getD ⟨0, 0, none⟩).add (k * 6)).add 3))) x.v.cells (by intros; kernel_rfl) (by intros; kernel_rfl) a3 ⟨by kernel_rfl, by kernel_rfl⟩ ?_
          refine node_ldx ⟨[y.v.v.k], [], [], [y.v.v.cs.length, y.v.c1, y.v.v.ns.length, y.v.c2], [y.v.a1, y.v.a2]⟩ (.pointer (some (((b.getD ⟨0, 0, none⟩).add (k * 6)).add 3))) y.v.cells (by intros; kernel_rfl) (by intros; kernel_rfl) b3 ⟨by kernel_rfl, by kernel_rfl⟩ ?_
          refine node_PI ⟨[], [vlSame x.v.v y.v.v], [], [], []⟩ (fun _ => #[x.v.val, y.v.val]) (.bool (vlSame x.v.v y.v.v)) (by intros; kernel_rfl) (by intros; kernel_rfl) (by kernel_rfl) (by kernel_rfl) (by kernel_rfl) oneNil (fun ids w2 hp hf3 => samev_any _ _ _ _ _ _ _ _ _ _ w2 (voX_at hf3.x.1 hf (List.mem_of_getElem? hx)) (voX_at hf3.x.2 hf2 (List.mem_of_getElem? hy))) ?_
          refine br_B (!(vlSame x.v.v y.v.v)) (by kernel_rfl) (fun h => no (hne fun q => by rw [vlSame_t q.2.2.2] at h; cases h)) (fun h3 => ?_)
          exact fin (by simpa using h1) (by simpa using h2) (Classical.byContradiction fun q => by rw [vlSame_f q] at h3; cases h3) (by intros; kernel_rfl)
        · skip
          refine node_ldx ⟨[y.v.v.k], [], [], [y.v.v.cs.length, y.v.c1, y.v.v.ns.length, y.v.c2], [y.v.a1, y.v.a2]⟩ (.pointer (some (((b.getD ⟨0, 0, none⟩).add (k * 6)).add 3))) y.v.cells (by intros; kernel_rfl) (by intros; kernel_rfl) b3 ⟨by kernel_rfl, by kernel_rfl⟩ ?_
          refine node_ldx ⟨[x.v.v.k], [], [], [x.v.v.cs.length, x.v.c1, x.v.v.ns.length, x.v.c2], [x.v.a1, x.v.a2]⟩ (.pointer (some (((a.getD ⟨0, 0, none⟩).add (k * 6)).add 3))) x.v.cells (by intros; kernel_rfl) (by intros; kernel_rfl) a3 ⟨by kernel_rfl, by kernel_rfl⟩ ?_
          refine node_PI ⟨[], [vlSame x.v.v y.v.v], [], [], []⟩ (fun _ => #[x.v.val, y.v.val]) (.bool (vlSame x.v.v y.v.v)) (by intros; kernel_rfl) (by intros; kernel_rfl) (by kernel_rfl) (by kernel_rfl) (by kernel_rfl) oneNil (fun ids w2 hp hf3 => samev_any _ _ _ _ _ _ _ _ _ _ w2 (voX_at hf3.x.1 hf (List.mem_of_getElem? hx)) (voX_at hf3.x.2 hf2 (List.mem_of_getElem? hy))) ?_
          refine br_B (!(vlSame x.v.v y.v.v)) (by kernel_rfl) (fun h => no (hne fun q => by rw [vlSame_t q.2.2.2] at h; cases h)) (fun h3 => ?_)
          exact fin (by simpa using h1) (by simpa using h2) (Classical.byContradiction fun q => by rw [vlSame_f q] at h3; cases h3) (by intros; kernel_rfl)
      · skip
        refine node_ldx ⟨[y.r, y.n], [], [], [], []⟩ (.pointer (some (((b.getD ⟨0, 0, none⟩).add (k * 6)).add 1))) [.int .i64 y.r, .int .i64 y.n] (by intros; kernel_rfl) (by intros; kernel_rfl) b2 ⟨by kernel_rfl, by kernel_rfl⟩ ?_
        refine node_ldx ⟨[x.r, x.n], [], [], [], []⟩ (.pointer (some (((a.getD ⟨0, 0, none⟩).add (k * 6)).add 1))) [.int .i64 x.r, .int .i64 x.n] (by intros; kernel_rfl) (by intros; kernel_rfl) a2 ⟨by kernel_rfl, by kernel_rfl⟩ ?_
        refine br_B (!((x.r == y.r) && (x.n == y.n))) (by kernel_rfl) (fun h => no (hne fun q => by rw [q.2.1, q.2.2.1] at h; simp at h)) (fun h2 => ?_)
        refine need_k (a.isSome = true ∧ 0 ≤ (k : Int) ∧ (k : Int) < (xs.length : Int)) (by kernel_rfl) ⟨s1, by omega, by omega⟩ ?_
        refine need_k (b.isSome = true ∧ 0 ≤ (k : Int) ∧ (k : Int) < (ys.length : Int)) (by kernel_rfl) ⟨s2, by omega, by omega⟩ ?_
        refine par_i ?_ ?_
        · skip
          refine node_ldx ⟨[x.v.v.k], [], [], [x.v.v.cs.length, x.v.c1, x.v.v.ns.length, x.v.c2], [x.v.a1, x.v.a2]⟩ (.pointer (some (((a.getD ⟨0, 0, none⟩).add (k * 6)).add 3))) x.v.cells (by intros; kernel_rfl) (by intros; kernel_rfl) a3 ⟨by kernel_rfl, by kernel_rfl⟩ ?_
          refine node_ldx ⟨[y.v.v.k], [], [], [y.v.v.cs.length, y.v.c1, y.v.v.ns.length, y.v.c2], [y.v.a1, y.v.a2]⟩ (.pointer (some (((b.getD ⟨0, 0, none⟩).add (k * 6)).add 3))) y.v.cells (by intros; kernel_rfl) (by intros; kernel_rfl) b3 ⟨by kernel_rfl, by kernel_rfl⟩ ?_
          refine node_PI ⟨[], [vlSame x.v.v y.v.v], [], [], []⟩ (fun _ => #[x.v.val, y.v.val]) (.bool (vlSame x.v.v y.v.v)) (by intros; kernel_rfl) (by intros; kernel_rfl) (by kernel_rfl) (by kernel_rfl) (by kernel_rfl) oneNil (fun ids w2 hp hf3 => samev_any _ _ _ _ _ _ _ _ _ _ w2 (voX_at hf3.x.1 hf (List.mem_of_getElem? hx)) (voX_at hf3.x.2 hf2 (List.mem_of_getElem? hy))) ?_
          refine br_B (!(vlSame x.v.v y.v.v)) (by kernel_rfl) (fun h => no (hne fun q => by rw [vlSame_t q.2.2.2] at h; cases h)) (fun h3 => ?_)
          exact fin (by simpa using h1) (by simpa using h2) (Classical.byContradiction fun q => by rw [vlSame_f q] at h3; cases h3) (by intros; kernel_rfl)
        · skip
          refine node_ldx ⟨[y.v.v.k], [], [], [y.v.v.cs.length, y.v.c1, y.v.v.ns.length, y.v.c2], [y.v.a1, y.v.a2]⟩ (.pointer (some (((b.getD ⟨0, 0, none⟩).add (k * 6)).add 3))) y.v.cells (by intros; kernel_rfl) (by intros; kernel_rfl) b3 ⟨by kernel_rfl, by kernel_rfl⟩ ?_
          refine node_ldx ⟨[x.v.v.k], [], [], [x.v.v.cs.length, x.v.c1, x.v.v.ns.length, x.v.c2], [x.v.a1, x.v.a2]⟩ (.pointer (some (((a.getD ⟨0, 0, none⟩).add (k * 6)).add 3))) x.v.cells (by intros; kernel_rfl) (by intros; kernel_rfl) a3 ⟨by kernel_rfl, by kernel_rfl⟩ ?_
          refine node_PI ⟨[], [vlSame x.v.v y.v.v], [], [], []⟩ (fun _ => #[x.v.val, y.v.val]) (.bool (vlSame x.v.v y.v.v)) (by intros; kernel_rfl) (by intros; kernel_rfl) (by kernel_rfl) (by kernel_rfl) (by kernel_rfl) oneNil (fun ids w2 hp hf3 => samev_any _ _ _ _ _ _ _ _ _ _ w2 (voX_at hf3.x.1 hf (List.mem_of_getElem? hx)) (voX_at hf3.x.2 hf2 (List.mem_of_getElem? hy))) ?_
          refine br_B (!(vlSame x.v.v y.v.v)) (by kernel_rfl) (fun h => no (hne fun q => by rw [vlSame_t q.2.2.2] at h; cases h)) (fun h3 => ?_)
          exact fin (by simpa using h1) (by simpa using h2) (Classical.byContradiction fun q => by rw [vlSame_f q] at h3; cases h3) (by intros; kernel_rfl)
  · have : vlsOf xs = vlsOf ys := by
      have e1 : (vlsOf xs).take k = vlsOf xs := List.take_of_length_le (by rw [vlsOf_len]; omega)
      have e2 : (vlsOf ys).take k = vlsOf ys := List.take_of_length_le (by rw [vlsOf_len]; omega)
      rw [← e1, ← e2]; exact heq
    rw [voSame_t this]; rfl
theorem opn_bal {w : World} {d : Dat} (h : d.In Try.prog w 37) : ∃ x y : Int, d = .parts [.int .i64 x, .int .i64 y] := by
  obtain ⟨ds, rfl, g⟩ := in_struct Try.underlying37 h
  obtain ⟨d0, r0, rfl, h0, g0⟩ := inEach_cons g
  obtain ⟨d1, r1, rfl, h1, g1⟩ := inEach_cons g0
  obtain rfl := inEach_nil g1
  obtain ⟨x, rfl, i⟩ := opn_int h0
  obtain ⟨y, rfl, j⟩ := opn_int h1
  exact ⟨x, y, rfl⟩
theorem opn_vo {w : World} {d : Dat} (h : d.In Try.prog w 39) : ∃ x : Vo Pv, d.cells = voC x ∧ (I64 x.s ∧ VlFit x.v.v) ∧ x.v.hx.X w := by
  obtain ⟨ds, rfl, g⟩ := in_struct Try.underlying39 h
  obtain ⟨d0, r0, rfl, h0, g0⟩ := inEach_cons g
  obtain ⟨d1, r1, rfl, h1, g1⟩ := inEach_cons g0
  obtain ⟨d2, r2, rfl, h2, g2⟩ := inEach_cons g1
  obtain rfl := inEach_nil g2
  obtain ⟨s, rfl, i⟩ := opn_int h0
  obtain ⟨x, y, rfl⟩ := opn_bal h1
  obtain ⟨v, a1, c1, a2, c2, e, H, hk, hc⟩ := opn_vl h2
  refine ⟨⟨s, x, y, ⟨v, a1, c1, a2, c2⟩⟩, ?_, ⟨i, H.fit⟩, H.X⟩
  show [Value.int .i64 s] ++ (Dat.cellsAll [.int .i64 x, .int .i64 y] ++ (d2.cells ++ [])) = _
  rw [e]; rfl
theorem opn_vos {w : World} : ∀ (ds : List Dat), (∀ d ∈ ds, d.In Try.prog w 39) → ∃ vs : List (Vo Pv), vs.length = ds.length ∧ Dat.cellsAll ds = vocs vs ∧ ∀ x ∈ vs, (I64 x.s ∧ VlFit x.v.v) ∧ x.v.hx.X w
  | [], _ => ⟨[], rfl, rfl, fun x hx => by cases hx⟩
  | d :: r, h => by
    obtain ⟨v, e, o, o'⟩ := opn_vo (h d (List.mem_cons_self))
    obtain ⟨vs, l, e2, o2⟩ := opn_vos r (fun d hd => h d (List.mem_cons_of_mem _ hd))
    refine ⟨v :: vs, by simp [l], by rw [Dat.cellsAll, e, e2]; rfl, fun x hx => ?_⟩
    rcases List.mem_cons.1 hx with rfl | hx
    · exact ⟨o, o'⟩
    · exact o2 x hx
theorem vos_X {w : World} {a : Option Addr} {vs : List (Vo Pv)} (h : Cells w a (vocs vs)) (h2 : ∀ x ∈ vs, (I64 x.s ∧ VlFit x.v.v) ∧ x.v.hx.X w) : (voX a vs).X w := ⟨h, fun y hy => by
  obtain ⟨x, hx, rfl⟩ := List.mem_map.1 hy
  exact (h2 x hx).2⟩
section
variable {w : World} {ys : List (Vo Pv)} {b : Option Addr} {d : Nat}
theorem vox_of (h : ((voAll ys).and (vrow b d ys)).X w) : (voX b ys).X w := ⟨rw_cells h.2, fun y hy => by
  obtain ⟨x, hx, rfl⟩ := List.mem_map.1 hy
  have := h.1 _ (List.mem_map.2 ⟨x, hx, rfl⟩)
  exact ⟨rw_cells this.1, rw_cells this.2⟩⟩
theorem rw_cl_G {n d sz e : Nat} {cs : List Value} (hx : (HX.rw sz e b n d cs).X w) {k : Nat} (hk : (HX.cl b cs).F k) : (HX.rw sz e b n d cs).F k := by
  obtain ⟨hne, rfl⟩ := hk
  have hc : d ≠ 0 := fun q => by
    rcases hx with ⟨_, _, h3⟩ | ⟨h3, _⟩
    · exact hne h3
    · exact h3 q
  obtain ⟨g, _, rfl, _⟩ := rw_open hx hc
  exact ⟨hc, rfl⟩
end
theorem vlsOf_mem {xs : List (Vo Pv)} {y : Vo Vl} (h : y ∈ vlsOf xs) : ∃ x ∈ xs, y = Vo.map Pv.v x := by
  obtain ⟨x, hx, e⟩ := List.mem_map.1 h
  exact ⟨x, hx, e.symm⟩
theorem vls_fit {ys xs : List (Vo Pv)} (h : vlsOf ys = vlsOf xs) (H : ∀ x ∈ xs, I64 x.s ∧ VlFit x.v.v) : ∀ x ∈ ys, I64 x.s ∧ VlFit x.v.v := fun x hx => by
  have : Vo.map Pv.v x ∈ vlsOf xs := by rw [← h]; exact List.mem_map.2 ⟨x, hx, rfl⟩
  obtain ⟨z, hz, e⟩ := vlsOf_mem this
  have e1 : x.s = z.s := congrArg (Vo.s (α := Vl)) e
  have e2 : x.v.v = z.v.v := congrArg (Vo.v (α := Vl)) e
  rw [e1, e2]; exact H z hz
section
variable {C : Cfg} {ρ : Env} {pre : List Nat} {hx : HX} {L : Stack} {m m' : Mem} {args : List SV} {r : SV} {t : Tree}
end
end Go.Proofs.Ytbedoemdjlollaa

namespace Go.Proofs.Ytbedoemdjlollaa
open Go.ChangeShapes Go.WideShapes Go.ChangeAt Go.RowKit Go.Syn Go.Eng
set_option linter.unusedVariables false
set_option linter.unusedSimpArgs false
set_option maxRecDepth 100000
def VlRowV (w : World) (V : Value → Value) (v : Vl) (e : Ending) (w' : World) : Prop := ∃ a1 c1 a2 c2, e = .returned (V (vlV v a1 c1 a2 c2)) ∧ (crow a1 v.cs.length c1 v.cs).X w' ∧ (nrow a2 v.ns.length c2 v.ns).X w' ∧ (∀ k, (crow a1 v.cs.length c1 v.cs).F k → w.heap.size ≤ k) ∧ (∀ k, (nrow a2 v.ns.length c2 v.ns).F k → w.heap.size ≤ k ∧ ¬ (crow a1 v.cs.length c1 v.cs).F k) ∧ Below w.heap.size w w'
theorem crow_lt {a : Option Addr} {n c : Nat} {cs : List CmD} {w : World} (h : (crow a n c cs).X w) : ∀ k, (crow a n c cs).F k → k < w.heap.size := fun k hk => rw_blt h hk.1 hk.2
theorem nrow_lt {a : Option Addr} {n c : Nat} {ns : List Int} {w : World} (h : (nrow a n c ns).X w) : ∀ k, (nrow a n c ns).F k → k < w.heap.size := fun k hk => rw_blt h hk.1 hk.2
theorem rows_at {v : Vl} (hf : VlFit v) {a1 a2 : Option Addr} {n1 c1 n2 c2 : Nat} {w : World} (h1 : (crow a1 n1 c1 v.cs).X w) (h2 : (nrow a2 n2 c2 v.ns).X w) : VlAt w v a1 a2 := hf.at_ ⟨rw_cells h1, rw_cells h2⟩
theorem rows_F {v : Vl} {a1 a2 : Option Addr} {c1 c2 : Nat} {w : World} (h1 : (crow a1 v.cs.length c1 v.cs).X w) (h2 : (nrow a2 v.ns.length c2 v.ns).X w) : ∀ k, (vlX v a1 a2).F k → (crow a1 v.cs.length c1 v.cs).F k ∨ (nrow a2 v.ns.length c2 v.ns).F k := fun k hk => hk.imp ((rw_cl h1).2 k) ((rw_cl h2).2 k)
section
variable {C : Cfg} {ρ : Env} {pre : List Nat} {hx : HX} {L : Stack} {m m' : Mem} {args : List SV} {r : SV} {t : Tree}
theorem node_vrow {f : Nat} {V : Value → Value} {v : Vl} (AS : List Nat → Array Value) (vs : Option Addr → Nat → Option Addr → Nat → Vals) (hargs : ∀ ids, (args.map (SV.den ρ ids)).toArray = AS ids) (hcall : ∀ ids w, pre <+: ids → Facts C m ρ ids hx w → Calls C.P f (AS ids) w (VlRowV w V v))
    (hr : ∀ a1 c1 a2 c2 ids, r.den (ρ.add (vs a1 c1 a2 c2)) ids = V (vlV v a1 c1 a2 c2)) (hhp : m'.hp = m.hp) (hfit : hpFits m.c m.hp.length m.hp = true) (hc : ∀ a1 c1 a2 c2, (ρ.add (vs a1 c1 a2 c2)).cnt = m'.c) (h1 : ∀ a1 c1 a2 c2 v, v ∈ (vs a1 c1 a2 c2).v → v.oneCell' = true)
    (h : ∀ a1 c1 a2 c2, (∀ k, (crow a1 v.cs.length c1 v.cs).F k → C.W.heap.size ≤ k ∧ ¬ hx.F k) → (∀ k, (nrow a2 v.ns.length c2 v.ns).F k → C.W.heap.size ≤ k ∧ ¬ hx.F k ∧ ¬ (crow a1 v.cs.length c1 v.cs).F k) → t.holds C (ρ.add (vs a1 c1 a2 c2)) pre (hx.and ((crow a1 v.cs.length c1 v.cs).and (nrow a2 v.ns.length c2 v.ns))) L) : (Tree.call f args m r m' t).holds C ρ pre hx L := by
  refine node_out AS (fun u hy => ∃ a1 c1 a2 c2, u = vs a1 c1 a2 c2 ∧ hy = (crow a1 v.cs.length c1 v.cs).and (nrow a2 v.ns.length c2 v.ns) ∧ ∀ k, (nrow a2 v.ns.length c2 v.ns).F k → ¬ (crow a1 v.cs.length c1 v.cs).F k) hargs (fun ids w hp hf => ?_) hhp hfit ?_ ?_
  · refine (hcall ids w hp hf).mono ?_
    rintro e w' ⟨a1, c1, a2, c2, rfl, hX1, hX2, g1, g2, hb⟩
    exact ⟨_, _, ⟨a1, c1, a2, c2, rfl, rfl, fun k hk => (g2 k hk).2⟩, by rw [hr], ⟨hX1, hX2⟩, fun k hk => hk.elim (fun q => ⟨g1 k q, crow_lt hX1 k q⟩) (fun q => ⟨(g2 k q).1, nrow_lt hX2 k q⟩), hb⟩
  · rintro u hy ⟨a1, c1, a2, c2, rfl, rfl, _⟩
    exact ⟨hc _ _ _ _, h1 _ _ _ _⟩
  · rintro u hy ⟨a1, c1, a2, c2, rfl, rfl, g⟩ hfr
    exact h a1 c1 a2 c2 (fun k hk => hfr k (.inl hk)) fun k hk => ⟨(hfr k (.inr hk)).1, (hfr k (.inr hk)).2, g k hk⟩
end
theorem scloneC_row (a : Option Addr) (cap : Nat) (cs : List CmD) (w : World) (H : Cells w a (ccells cs)) (hl : cs.length ≤ 2199023255552) : Calls Try.prog 42 #[.slice a cs.length cap] w (RwNew w id 8 43 cs.length (ccells cs)) := by
  refine calls_at (tab_ok _) Try.func42 rfl tSCloneC (ρ := ⟨[], [], [], [cs.length, cap], [a]⟩) (ids := []) (hx := HX.cl a (ccells cs)) rfl (Facts.initq rfl oneNil H (cl_sep H)) ?_
  by_cases h : a.isNone = true
  · refine br_t h ?_
    obtain rfl : a = none := by simpa using h
    have e := none_nil H
    have e2 : cs = [] := Classical.byContradiction fun q => ccells_ne q e
    subst e2
    intro ids w2 hp hf
    exact ⟨none, 0, rfl, HX.rw_nil _ _ _ _, fun k hk => absurd rfl hk, hf.chg.below⟩
  · refine br_f (show a.isNone = false by cases a with | none => exact absurd rfl h | some x => rfl) ?_
    refine node_clones (sz := 8) (xs := ccells cs) rfl Try.underlying32 info_cmd rfl (by decide) 0 rfl (fun _ => a) cs.length cap (ccells_len _) (fun ids w2 hp hf => hf.x) (ccells_one cs) (by unfold maxLen; omega) (by omega) (fun _ => rfl) (fun _ => rfl) (fun _ _ _ => rfl) rfl rfl (fun _ _ => rfl) ?_
    intro a' c' hfr ids w2 hp hf
    exact ⟨a', c', rfl, hf.x.2, fun k h1 h2 => (hfr k h1 h2).1, hf.chg.below⟩
theorem scloneN_row (a : Option Addr) (cap : Nat) (ns : List Int) (w : World) (H : Cells w a (ns.map (Value.int .i64))) (hl : ns.length ≤ 17592186044416) : Calls Try.prog 32 #[.slice a ns.length cap] w (RwNew w id 1 3 ns.length (ns.map (Value.int .i64))) := by
  refine calls_at (tab_ok _) Try.func32 rfl tSCloneN (ρ := ⟨[], [], [], [ns.length, cap], [a]⟩) (ids := []) (hx := HX.cl a (ns.map (Value.int .i64))) rfl (Facts.initq rfl oneNil H (cl_sep H)) ?_
  by_cases h : a.isNone = true
  · refine br_t h ?_
    obtain rfl : a = none := by simpa using h
    have e := none_nil H
    have e2 : ns = [] := by simpa using e
    subst e2
    intro ids w2 hp hf
    exact ⟨none, 0, rfl, HX.rw_nil _ _ _ _, fun k hk => absurd rfl hk, hf.chg.below⟩
  · refine br_f (show a.isNone = false by cases a with | none => exact absurd rfl h | some x => rfl) ?_
    refine node_clones (sz := 1) (xs := ns.map (Value.int .i64)) rfl Try.underlying33 info_int1 rfl (by decide) 0 rfl (fun _ => a) ns.length cap (by rw [List.length_map, Nat.mul_one]) (fun ids w2 hp hf => hf.x) (fun x hx => by obtain ⟨n, _, rfl⟩ := List.mem_map.1 hx; rfl) (by unfold maxLen; omega) (by omega) (fun _ => rfl) (fun _ => rfl) (fun _ _ _ => rfl) rfl rfl (fun _ _ => rfl) ?_
    intro a' c' hfr ids w2 hp hf
    exact ⟨a', c', rfl, hf.x.2, fun k h1 h2 => (hfr k h1 h2).1, hf.chg.below⟩
theorem vclone_row (v : Vl) (a1 : Option Addr) (c1 : Nat) (a2 : Option Addr) (c2 : Nat) (w : World) (H : VlAt w v a1 a2) : Calls Try.prog 26 #[vlV v a1 c1 a2 c2] w (VlRowV w id v) := by
  refine calls_at (tab_ok _) Try.func26 rfl tVClone (ρ := ⟨[v.k], [], [], [v.cs.length, c1, v.ns.length, c2], [a1, a2]⟩) (ids := []) (hx := vlX v a1 a2) rfl (Facts.initq rfl oneNil H.X (vlX_sep H.X)) ?_
  refine par_i (par_i ?_ ?_) ?_
  all_goals
    refine node_rwn (V := id) (sz := 8) (e := 43) (n := v.cs.length) (xs := ccells v.cs) (fun _ => #[.slice a1 v.cs.length c1]) (fun a' c' => ⟨[], [], [], [v.cs.length, c'], [a']⟩) (by intros; kernel_rfl) (fun ids w2 hp hf => scloneC_row a1 c1 v.cs w2 hf.x.1 H.l1) (by intros; kernel_rfl) (by intros; kernel_rfl) (by intros; kernel_rfl) (by intros; kernel_rfl) (fun _ _ => oneNil) ?_
    intro b1 d1 _ hf1
    refine node_rwn (V := id) (sz := 1) (e := 3) (n := v.ns.length) (xs := v.ns.map (Value.int .i64)) (fun _ => #[.slice a2 v.ns.length c2]) (fun a' c' => ⟨[], [], [], [v.ns.length, c'], [a']⟩) (by intros; kernel_rfl) (fun ids w2 hp hf => scloneN_row a2 c2 v.ns w2 hf.x.1.2 H.l2) (by intros; kernel_rfl) (by intros; kernel_rfl) (by intros; kernel_rfl) (by intros; kernel_rfl) (fun _ _ => oneNil) ?_
    intro b2 d2 _ hf2 ids w2 hp hf
    exact ⟨b1, d1, b2, d2, rfl, hf.x.1.2, hf.x.2, fun k hk => (hf1 k hk.1 hk.2).1, fun k hk => ⟨(hf2 k hk.1 hk.2).1, fun q => (hf2 k hk.1 hk.2).2 (.inr q)⟩, hf.chg.below⟩
structure Tl where
  a : Option Addr
  c : Nat
  xs : List (Vo Pv)
def tlC (t : Tl) : List Value := [.slice t.a t.xs.length t.c]
def tlX (a : Option Addr) (ts : List Tl) : HX := HX.all (HX.cl a (ts.flatMap tlC) :: ts.map fun t => voX t.a t.xs)
structure TlOk (t : Tl) : Prop where
  s : ∀ x ∈ t.xs, I64 x.s
  f : ∀ x ∈ t.xs, VlFit x.v.v
  l : t.xs.length * 80 ≤ 140737488355328
theorem bytes_vot : Try.prog.bytesOf 39 = 80 := by kernel_rfl
theorem opn_tl {w : World} {d : Dat} (h : d.In Try.prog w 24) : ∃ t : Tl, d.cells = tlC t ∧ TlOk t ∧ (voX t.a t.xs).X w := by
  obtain ⟨av, cv, dv, rfl, lv, mv, bv, Cv, Iv⟩ := in_slice Try.underlying24 h
  obtain ⟨vs, lvs, evs, ovs⟩ := opn_vos dv Iv
  have hr := reach_is
  rw [bytes_vot] at bv
  rw [evs] at Cv
  refine ⟨⟨av, cv, vs⟩, ?_, ⟨fun x h => (ovs x h).1.1, fun x h => (ovs x h).1.2, by show vs.length * 80 ≤ _; omega⟩, vos_X Cv ovs⟩
  show [Value.slice av dv.length cv] = [Value.slice av vs.length cv]
  rw [lvs]
theorem opn_tls {w : World} : ∀ (ds : List Dat), (∀ d ∈ ds, d.In Try.prog w 24) → ∃ ts : List Tl, ts.length = ds.length ∧ Dat.cellsAll ds = ts.flatMap tlC ∧ ∀ t ∈ ts, TlOk t ∧ (voX t.a t.xs).X w
  | [], _ => ⟨[], rfl, rfl, fun x hx => by cases hx⟩
  | d :: r, h => by
    obtain ⟨v, e, o, o'⟩ := opn_tl (h d (List.mem_cons_self))
    obtain ⟨vs, l, e2, o2⟩ := opn_tls r (fun d hd => h d (List.mem_cons_of_mem _ hd))
    refine ⟨v :: vs, by simp [l], by rw [Dat.cellsAll, e, e2]; rfl, fun x hx => ?_⟩
    rcases List.mem_cons.1 hx with rfl | hx
    · exact ⟨o, o'⟩
    · exact o2 x hx
section
variable {w : World} {a b : Option Addr} {ts : List Tl} {t : Tl} {ys : List (Vo Pv)} {d : Nat}
theorem tl_X (h : Cells w a (ts.flatMap tlC)) (h2 : ∀ t ∈ ts, (voX t.a t.xs).X w) : (tlX a ts).X w := fun x hx => by
  rcases List.mem_cons.1 hx with rfl | hx
  · exact h
  · obtain ⟨t, ht, rfl⟩ := List.mem_map.1 hx
    exact h2 t ht
theorem tl_sep (h : (tlX a ts).X w) : ∀ k, (tlX a ts).F k → k < w.heap.size := fun k ⟨x, hx, hk⟩ => by
  rcases List.mem_cons.1 hx with rfl | hx2
  · exact cl_sep (h _ hx) k hk
  · obtain ⟨t, ht, rfl⟩ := List.mem_map.1 hx2
    exact voX_sep (h _ hx) k hk
theorem tl_vo (h : (tlX a ts).X w) (ht : t ∈ ts) : (voX t.a t.xs).X w := h _ (List.mem_cons_of_mem _ (List.mem_map.2 ⟨t, ht, rfl⟩))
theorem tl_part (h : (tlX a ts).X w) {i : Nat} (hi : ts[i]? = some t) : a.isSome = true ∧ CellsAt w (.pointer (some (((a.getD ⟨0, 0, none⟩).add (i * 1)).add 0))) (tlC t) (fun _ => False) := by
  obtain ⟨h1, h2⟩ := flat_part (f := tlC) (fun _ => rfl) (h _ (.head _)) hi (o := 0) (tlC t) (fun j u hj => by rw [Nat.zero_add]; exact hj) (by simp [tlC])
  exact ⟨h1, h2 _ id⟩
end
theorem zero_val (w : World) : (zeroValue 35).run Try.prog w = .ok (vlV vz none 0 none 0) w := by kernel_rfl
end Go.Proofs.Ytbedoemdjlollaa

namespace Go.Proofs.Ytbedoemdjlollaa
open Go Go.ChangeShapes Go.WideShapes Go.ChangeAt Go.RowKit Go.Syn Go.Eng
set_option linter.unusedVariables false
set_option linter.unusedSimpArgs false
set_option maxRecDepth 100000
def outV (m : List (Int × Vl)) (n : Nat) : List (Vo Vl) := (List.range n).map fun i => ⟨((i + 1 : Nat) : Int), 0, 0, (mlk m ((i + 1 : Nat) : Int)).getD vz⟩
theorem outV_succ (m : List (Int × Vl)) (n : Nat) : outV m (n + 1) = outV m n ++ [⟨((n + 1 : Nat) : Int), 0, 0, (mlk m ((n + 1 : Nat) : Int)).getD vz⟩] := by
  unfold outV
  rw [List.range_succ, List.map_append]; rfl
noncomputable def mgV : List (Int × Vl) → Int → List (Vo Vl) → List (Vo Vl) × Int
  | m, top, [] => if top ≠ (m.length : Int) then ([], 41) else (outV m m.length, 0)
  | m, top, v :: r => if v.s < 1 ∨ valE v.v ≠ 0 then ([], 1) else if (mlk m v.s).isSome = true ∧ vlSame ((mlk m v.s).getD vz) v.v = false then ([], 63) else mgV (mput m v.s v.v) (max top v.s) r
noncomputable def mergeV (vs : List (Vo Vl)) : List (Vo Vl) × Int := mgV [] 0 vs
def MgNew (w : World) (R : List (Vo Vl) × Int) (e : Ending) (w' : World) : Prop := ∃ (b : Option Addr) (d : Nat) (ys : List (Vo Pv)), e = .returned (.tuple #[.slice b ys.length d, .int .i64 R.2]) ∧ vlsOf ys = R.1 ∧ ((voAll ys).and (vrow b d ys)).X w' ∧ (∀ k, ((voAll ys).and (vrow b d ys)).F k → w.heap.size ≤ k ∧ k < w'.heap.size) ∧ Below w.heap.size w w'
theorem mg_nil {w : World} {c : Int} {v : SV} {m : Mem} {ρ : Env} {hx : HX} {S : Stack} (hv : ∀ ids, v.den ρ ids = .tuple #[.slice none 0 0, .int .i64 c]) : (Tree.done v m).holds ⟨Try.prog, w, fun _ => False, MgNew w ([], c)⟩ ρ [] hx S := fun ids w2 hp hf =>
  ⟨none, 0, [], by rw [hv ids]; rfl, rfl, ⟨(fun x hx => by cases hx), HX.rw_nil _ _ _ _⟩, fun k hk => hk.elim (fun ⟨x, hx, _⟩ => by cases hx) fun q => absurd rfl q.1, hf.chg.below⟩
structure MpOk (W : World) (mp : List (Int × Pv)) : Prop where
  each : ∀ p ∈ mp, VlFit p.2.v ∧ p.2.hx.X W
def mpGet (mp : List (Int × Pv)) (k : Int) : Pv := (mlk mp k).getD pz
theorem mp_at {W : World} {mp : List (Int × Pv)} (h : MpOk W mp) (k : Int) : VlFit (mpGet mp k).v ∧ (mpGet mp k).hx.X W := by
  unfold mpGet
  cases hm : mlk mp k with
  | none => exact ⟨vz_fit, cl_nil _ _, cl_nil _ _⟩
  | some p => exact h.each (k, p) (mlk_mem hm)
theorem mp_val (mp : List (Int × Pv)) (k : Int) : (mlk (mmap Pv.val mp) k).getD (vlV vz none 0 none 0) = (mpGet mp k).val := by
  rw [mlk_map]; unfold mpGet
  cases mlk mp k <;> rfl
theorem mp_v (mp : List (Int × Pv)) (k : Int) : (mlk (mmap Pv.v mp) k).getD vz = (mpGet mp k).v := by
  rw [mlk_map]; unfold mpGet
  cases mlk mp k <;> rfl
theorem mp_some (mp : List (Int × Pv)) (k : Int) : (mlk (mmap Pv.val mp) k).isSome = (mlk (mmap Pv.v mp) k).isSome := by rw [mlk_map, mlk_map]; cases mlk mp k <;> rfl
theorem MpOk.put {W : World} {mp : List (Int × Pv)} (h : MpOk W mp) (k : Int) {p : Pv} (hp : VlFit p.v ∧ p.hx.X W) : MpOk W (mput mp k p) := ⟨fun q hq => by
  rcases mput_mem hq with rfl | ⟨hq, _⟩
  · exact hp
  · exact h.each q hq⟩
def MgI (W : World) (bm : Nat) (rest : List (Vo Pv)) (N : Nat) (T : List (Vo Vl) × Int) (mp : List (Int × Pv)) (top : Int) : Prop := MpOk W mp ∧ mp.length + rest.length ≤ N ∧ (0 ≤ top) ∧ mgV (mmap Pv.v mp) top (vlsOf rest) = T
theorem vls_app (xs ys : List (Vo Pv)) : vlsOf (xs ++ ys) = vlsOf xs ++ vlsOf ys := by unfold vlsOf; rw [List.map_append]
def tlAll (ts : List Tl) : List (Vo Pv) := ts.flatMap Tl.xs
set_option maxHeartbeats 4000000 in
theorem jmerge_any (a : Option Addr) (cp : Nat) (ts : List Tl) (w : World) (H0 : (tlX a ts).X w) (hts : ∀ t ∈ ts, TlOk t) (hlen : ts.length ≤ 4611686018427387904) (hN : (tlAll ts).length ≤ 1048576) :
    Calls Try.prog 11 #[.slice a ts.length cp] w (MgNew w (mergeV (vlsOf (tlAll ts)))) := by
  refine calls_at (tab_ok _) Try.func11 rfl tJMerge (ρ := ⟨[], [], [], [ts.length, cp], [a]⟩) (ids := []) (hx := HX.nil) rfl (Facts.initP rfl oneNil) ?_
  obtain ⟨T, eT⟩ : ∃ T, T = mergeV (vlsOf (tlAll ts)) := ⟨_, rfl⟩
  rw [← eT]
  obtain ⟨N, eN⟩ : ∃ N, N = (tlAll ts).length := ⟨_, rfl⟩
  rw [← eN] at hN
  have keepP : ∀ {m : Mem} {ρ : Env} {ids : List Nat} {hx : HX} {w2 : World} {R : Ending → World → Prop} {p : Pv}, VlFit p.v ∧ p.hx.X w → Facts ⟨Try.prog, w, fun _ => False, R⟩ m ρ ids hx w2 → VlAt w2 p.v p.a1 p.a2 := fun hp hf => hp.1.at_ ((vlX _ _ _).loc _ _ hp.2 fun k hk => hf.chg.block k (vlX_sep hp.2 k hk) (fun q => q))
  refine node_vmake (by intros; kernel_rfl) (by kernel_rfl) (by kernel_rfl) (by intros; kernel_rfl) ?_
  intro bm hbm1 hbm2
  refine ⟨fun vs hx n => ∃ (i : Nat) (mp : List (Int × Pv)) (top : Int), n = ts.length - i ∧ i ≤ ts.length ∧ MgI w bm (tlAll (ts.drop i)) N T mp top ∧ vs = ⟨[(i : Int), top], [], [], [], []⟩ ∧ HX.nil.and (HX.vmap bm (mmap Pv.val mp)) = hx, fun ids w2 hp hf => ⟨_, ts.length, ⟨hf.x, hf.sep⟩, 0, [], 0, rfl, Nat.zero_le _, ⟨⟨fun p hp => by cases hp⟩, by rw [eN]; exact Nat.le_of_eq (Nat.zero_add _), Int.le_refl _, eT.symm⟩, by kernel_rfl, rfl⟩, ?_⟩
  rintro vs hx' n hcnt ⟨i, mp, top, rfl, hi, ⟨hmp, hml, htop, hT⟩, rfl, rfl⟩
  refine holds_env (ρ' := ⟨[(i : Int), top], [], [.map (some bm)], [ts.length, cp], [a]⟩) (by kernel_rfl) ?_
  have hwi : IntKind.i64.wrap ((i : Int) + 1) = ((i + 1 : Nat) : Int) := by rw [wrap_i64 (by omega)]; omega
  refine br_D (p := (i : Int) < (ts.length : Int)) (by kernel_rfl) (fun hlt => ?B) (fun hlt => ?E)
  case' B =>
    have hlt : i < ts.length := by omega
    obtain ⟨t, ht⟩ : ∃ t, ts[i]? = some t := ⟨_, List.getElem?_eq_getElem hlt⟩
    have htm := List.mem_of_getElem? ht
    have hok := hts t htm
    have htx := tl_vo H0 htm
    have hd : tlAll (ts.drop i) = t.xs ++ tlAll (ts.drop (i + 1)) := by
      obtain ⟨q, e⟩ := List.getElem?_eq_some_iff.1 ht
      rw [List.drop_eq_getElem_cons q, e]; rfl
    obtain ⟨s1, g1⟩ := tl_part H0 ht
    refine need_k (a.isSome = true ∧ (0 : Int) ≤ (i : Int) ∧ (i : Int) < (ts.length : Int)) (by kernel_rfl) ⟨s1, by omega, by omega⟩ ?_
    refine node_ld0 (k := ⟨2, 0, 1, 2, 1⟩) ⟨[], [], [], [t.xs.length, t.c], [t.a]⟩ (.pointer (some (((a.getD ⟨0, 0, none⟩).add (i * 1)).add 0))) (tlC t) (by intros; kernel_rfl) (by intros; kernel_rfl) g1 ⟨by kernel_rfl, (fun v hv => by simp only [List.mem_cons, List.not_mem_nil, or_false] at hv; subst hv; rfl)⟩ (by kernel_rfl) oneNil ?_
    rw [hd] at hml hT
    have hlx : t.xs.length * 80 ≤ 140737488355328 := hok.l
    refine ⟨fun vs hx n => ∃ (j : Nat) (mp : List (Int × Pv)) (top : Int), n = t.xs.length - j ∧ j ≤ t.xs.length ∧ MgI w bm (t.xs.drop j ++ tlAll (ts.drop (i + 1))) N T mp top ∧ vs = ⟨[(j : Int), top], [], [], [], []⟩ ∧ HX.nil.and (HX.vmap bm (mmap Pv.val mp)) = hx, fun ids w2 hp hf => ⟨_, t.xs.length, ⟨hf.x, hf.sep⟩, 0, mp, top, rfl, Nat.zero_le _, ⟨hmp, hml, htop, hT⟩, by kernel_rfl, rfl⟩, ?_⟩
    clear hml hT htop hmp
    rintro vs hx' n hcnt2 ⟨j, mp2, top2, rfl, hj, ⟨hmp, hml, htop, hT⟩, rfl, rfl⟩
    refine holds_env (ρ' := ⟨[(i : Int), top, (j : Int), top2], [], [.map (some bm)], [ts.length, cp, t.xs.length, t.c], [a, t.a]⟩) (by kernel_rfl) ?_
    refine br_D (p := (j : Int) < (t.xs.length : Int)) (by kernel_rfl) (fun hjl => ?B2) (fun hjl => ?E2)
    case E2 =>
      rw [List.drop_eq_nil_of_le (by omega), List.nil_append] at hml hT
      exact again_V ⟨[IntKind.i64.wrap ((i : Int) + 1), top2], [], [], [], []⟩ rfl (by intros; kernel_rfl) _ (fun w2 ids hf => ⟨hf.x, hf.sep⟩) ⟨ts.length - (i + 1), by omega, i + 1, mp2, top2, rfl, by omega, ⟨hmp, hml, htop, hT⟩, by rw [hwi], rfl⟩
    have hjl : j < t.xs.length := by omega
    have hwj : IntKind.i64.wrap ((j : Int) + 1) = ((j + 1 : Nat) : Int) := by rw [wrap_i64 (by omega)]; omega
    obtain ⟨x, hx⟩ : ∃ x, t.xs[j]? = some x := ⟨_, List.getElem?_eq_getElem hjl⟩
    have hxm := List.mem_of_getElem? hx
    have hxv : VlFit x.v.v ∧ x.v.hx.X w := ⟨hok.f x hxm, htx.2 _ (List.mem_map.2 ⟨x, hxm, rfl⟩)⟩
    have hd2 : t.xs.drop j ++ tlAll (ts.drop (i + 1)) = x :: (t.xs.drop (j + 1) ++ tlAll (ts.drop (i + 1))) := by
      obtain ⟨q, e⟩ := List.getElem?_eq_some_iff.1 hx
      rw [List.drop_eq_getElem_cons q, e]; rfl
    rw [hd2] at hml hT
    obtain ⟨Y, eY⟩ : ∃ Y, Y = t.xs.drop (j + 1) ++ tlAll (ts.drop (i + 1)) := ⟨_, rfl⟩
    rw [← eY, List.length_cons] at hml
    have hT2 : T = if x.s < 1 ∨ valE x.v.v ≠ 0 then ([], 1) else if (mlk (mmap Pv.v mp2) x.s).isSome = true ∧ vlSame (mpGet mp2 x.s).v x.v.v = false then ([], 63) else mgV (mput (mmap Pv.v mp2) x.s x.v.v) (max top2 x.s) (vlsOf Y) := by
      rw [← mp_v, ← hT, eY]; rfl
    obtain ⟨s2, g2⟩ := vo_part htx hx 0 (voC x) (fun j u hj => by rw [Nat.zero_add]; exact hj) (by simp [voC])
    refine need_k (t.a.isSome = true ∧ (0 : Int) ≤ (j : Int) ∧ (j : Int) < (t.xs.length : Int)) (by kernel_rfl) ⟨s2, by omega, by omega⟩ ?_
    refine node_ld0 (k := ⟨4, 0, 1, 4, 2⟩) ⟨[x.s, x.r, x.n, x.v.v.k], [], [], [x.v.v.cs.length, x.v.c1, x.v.v.ns.length, x.v.c2], [x.v.a1, x.v.a2]⟩ (.pointer (some (((t.a.getD ⟨0, 0, none⟩).add (j * 6)).add 0))) (voC x) (by intros; kernel_rfl) (by intros; kernel_rfl) g2 ⟨by kernel_rfl, (fun v hv => by simp only [List.mem_cons, List.not_mem_nil, or_false] at hv; subst hv; rfl)⟩ (by kernel_rfl) oneNil ?_
    obtain ⟨o, eo⟩ : ∃ o, o = mpGet mp2 x.s := ⟨_, rfl⟩
    obtain ⟨ob, eob⟩ : ∃ ob, ob = (mlk (mmap Pv.v mp2) x.s).isSome := ⟨_, rfl⟩
    rw [← eo, ← eob] at hT2
    have hov : VlFit o.v ∧ o.hx.X w := by rw [eo]; exact mp_at hmp x.s
    refine node_vlook (kt := 3) (et := 35) (z := vlV vz none 0 none 0) ⟨[o.v.k], [ob], [], [o.v.cs.length, o.c1, o.v.ns.length, o.c2], [o.a1, o.a2]⟩ bm (mmap Pv.val mp2) x.s (fun w2 h => h.2) (by intros; kernel_rfl) (by intros; kernel_rfl) (by kernel_rfl) Try.underlying3 zero_val (fun ids => by rw [vlk_is, mp_val, mp_some, ← eo, ← eob]; kernel_rfl) (by kernel_rfl) (by kernel_rfl) (by kernel_rfl) oneNil ?_
    refine br_D (p := x.s < 1) (by kernel_rfl) (fun h1 => by rw [hT2, if_pos (.inl h1)]; exact mg_nil (by intros; kernel_rfl)) (fun h1 => ?_)
    refine node_P ⟨[valE x.v.v], [], [], [], []⟩ #[x.v.val] (.int .i64 (valE x.v.v)) (by intros; kernel_rfl) (by intros; kernel_rfl) (by kernel_rfl) (by kernel_rfl) (by kernel_rfl) oneNil (fun ids w2 hp hf => vchk_any _ _ _ _ _ w2 (keepP hxv hf)) ?_
    refine br_B (valE x.v.v != 0) (by kernel_rfl) (fun h2 => by rw [hT2, if_pos (.inr (by simpa using h2))]; exact mg_nil (by intros; kernel_rfl)) (fun h2 => ?_)
    have h2 : valE x.v.v = 0 := by simpa using h2
    rw [if_neg (by simp only [not_or]; exact ⟨h1, fun q => q h2⟩)] at hT2
    have hm3 : mput (mmap Pv.val mp2) x.s x.v.val = mmap Pv.val (mput mp2 x.s x.v) := mput_map _ _ _ _
    have hmx : max top2 x.s = max top2 x.s := rfl
    have hl3 : (mput mp2 x.s x.v).length + Y.length ≤ N := by rw [mput_len]; split <;> omega
    refine br_B ob (by kernel_rfl) (fun h3 => ?K1) (fun h3 => ?K2)
    case' K1 =>
      refine node_P ⟨[], [vlSame o.v x.v.v], [], [], []⟩ #[o.val, x.v.val] (.bool (vlSame o.v x.v.v)) (by intros; kernel_rfl) (by intros; kernel_rfl) (by kernel_rfl) (by kernel_rfl) (by kernel_rfl) oneNil (fun ids w2 hp hf => vsame_any _ _ _ _ _ _ _ _ _ _ w2 (keepP hov hf) (keepP hxv hf)) ?_
      refine br_B (!(vlSame o.v x.v.v)) (by kernel_rfl) (fun h4 => by rw [hT2, if_pos ⟨h3, by simpa using h4⟩]; exact mg_nil (by intros; kernel_rfl)) (fun h4 => ?_)
      have hT3 : T = mgV (mput (mmap Pv.v mp2) x.s x.v.v) (max top2 x.s) (vlsOf Y) := by rw [hT2, if_neg (fun q => by rw [q.2] at h4; cases h4)]
    case' K2 =>
      have hT3 : T = mgV (mput (mmap Pv.v mp2) x.s x.v.v) (max top2 x.s) (vlsOf Y) := by rw [hT2, if_neg (fun q => by rw [h3] at q; exact absurd q.1 (by decide))]
    all_goals
      rw [mput_map] at hT3
      refine node_vput (kt := 3) (et := 35) bm (mmap Pv.val mp2) x.s x.v.val (.inl hbm1) (fun q => q) (by intros; kernel_rfl) (by intros; kernel_rfl) (by intros; kernel_rfl) (by kernel_rfl) Try.underlying3 (by kernel_rfl) (by kernel_rfl) (by kernel_rfl) ?_
      refine holds_eq (show _ = HX.nil.and (HX.vmap bm (mmap Pv.val (mput mp2 x.s x.v))) by rw [vput_is, hm3]) ?_
      exact again_V ⟨[IntKind.i64.wrap ((j : Int) + 1), max top2 x.s], [], [], [], []⟩ rfl (by intros; kernel_rfl) _ (fun w2 ids hf => ⟨hf.x, hf.sep⟩) ⟨t.xs.length - (j + 1), by omega, j + 1, mput mp2 x.s x.v, max top2 x.s, rfl, by omega, ⟨hmp.put x.s hxv, by rw [← eY]; exact hl3, by omega, by rw [← eY]; exact hT3.symm⟩, by rw [hwj], rfl⟩
  case E =>
    rw [List.drop_eq_nil_of_le (by omega)] at hml hT
    have hml : mp.length ≤ N := hml
    have hlm : (mmap Pv.val mp).length = mp.length := by unfold mmap; exact List.length_map _
    have hlv : (mmap Pv.v mp).length = mp.length := by unfold mmap; exact List.length_map _
    have hT2 : T = if top ≠ (mp.length : Int) then ([], 41) else (outV (mmap Pv.v mp) mp.length, 0) := by rw [← hT, ← hlv]; rfl
    refine node_vlen (mt := 74) (kt := 3) (et := 35) ⟨[(mp.length : Int)], [], [], [], []⟩ rfl bm (mmap Pv.val mp) (fun w2 h => h.2) (by intros; kernel_rfl) (by kernel_rfl) (fun ids => by rw [hlm]; kernel_rfl) (by rw [hlm]; omega) (by kernel_rfl) (by kernel_rfl) (by kernel_rfl) oneNil ?_
    refine br_B (top != (mp.length : Int)) (by kernel_rfl) (fun h1 => by rw [hT2, if_pos (by simpa using h1)]; exact mg_nil (by intros; kernel_rfl)) (fun h1 => ?_)
    have h1 : top = (mp.length : Int) := by simpa using h1
    rw [if_neg (fun q => q h1)] at hT2
    obtain ⟨B, eB⟩ : ∃ B, B = HX.nil.and (HX.vmap bm (mmap Pv.val mp)) := ⟨_, rfl⟩
    have hBm : ∀ {w2 : World}, B.X w2 → VMap w2 bm (mmap Pv.val mp) := fun h => by rw [eB] at h; exact h.2
    rw [← eB]
    refine ⟨fun vs hx n => ∃ (b : Option Addr) (d : Nat) (ys : List (Vo Pv)), n = mp.length - ys.length ∧ ys.length ≤ mp.length ∧ vlsOf ys = outV (mmap Pv.v mp) ys.length ∧ OwnR w B (voAll ys) ∧ OwnR w (B.and (voAll ys)) (vrow b d ys) ∧ vs = ⟨[((ys.length + 1 : Nat) : Int)], [], [], [ys.length, d], [b]⟩ ∧ (B.and (voAll ys)).and (vrow b d ys) = hx, fun ids w2 hp hf => ⟨(B.and (voAll [])).and (vrow none 0 []), mp.length, ⟨⟨⟨hf.x, (fun x hx => by cases hx)⟩, HX.rw_nil _ _ _ _⟩, fun k hk => hk.elim (fun q => q.elim (fun q => hf.sep k q) fun ⟨x, hx, _⟩ => by cases hx) fun q => absurd rfl q.1⟩, none, 0, [], rfl, Nat.zero_le _, rfl, (fun k ⟨x, hx, _⟩ => by cases hx), (fun k hk => absurd rfl hk.1), by kernel_rfl, rfl⟩, ?_⟩
    rintro vs hx' n hcnt2 ⟨b, d, ys, rfl, hyl, hv, ownv, ownr, rfl, rfl⟩
    refine holds_env (ρ' := ⟨[(i : Int), top, (mp.length : Int), ((ys.length + 1 : Nat) : Int)], [], [.map (some bm)], [ts.length, cp, ys.length, d], [a, b]⟩) (by kernel_rfl) ?_
    refine br_D (p := ((ys.length + 1 : Nat) : Int) ≤ top) (by kernel_rfl) (fun hle => ?_) (fun hle => ?_)
    rotate_left
    · have hye : ys.length = mp.length := by omega
      rw [hT2]
      intro ids w2 hp hf2
      exact ⟨b, d, ys, by kernel_rfl, by rw [hv, hye], ⟨hf2.x.1.2, hf2.x.2⟩, fun j hj => ⟨hj.elim (fun q => (ownv j q).1) (fun q => (ownr j q).1), (hf2.sep j (hj.elim (fun q => .inl (.inr q)) .inr)).1⟩, hf2.chg.below⟩
    obtain ⟨o, eo⟩ : ∃ o, o = mpGet mp ((ys.length + 1 : Nat) : Int) := ⟨_, rfl⟩
    have hov : VlFit o.v ∧ o.hx.X w := by rw [eo]; exact mp_at hmp _
    refine node_vlook1 (kt := 3) (et := 35) (z := vlV vz none 0 none 0) ⟨[o.v.k], [], [], [o.v.cs.length, o.c1, o.v.ns.length, o.c2], [o.a1, o.a2]⟩ bm (mmap Pv.val mp) ((ys.length + 1 : Nat) : Int) (fun w2 h => hBm h.1.1) (by intros; kernel_rfl) (by intros; kernel_rfl) (by kernel_rfl) Try.underlying3 zero_val (fun ids => by rw [vlk_is, mp_val, ← eo]; kernel_rfl) (by kernel_rfl) (by kernel_rfl) (by kernel_rfl) oneNil ?_
    refine node_vrow (V := id) (v := o.v) (fun _ => #[o.val]) (fun b1 d1 b2 d2 => ⟨[o.v.k], [], [], [o.v.cs.length, d1, o.v.ns.length, d2], [b1, b2]⟩) (by intros; kernel_rfl) (fun ids w2 hp hf => vclone_row _ _ _ _ _ w2 (keepP hov hf)) (by intros; kernel_rfl) (by kernel_rfl) (by kernel_rfl) (by intros; kernel_rfl) (fun _ _ _ _ => oneNil) ?_
    intro b1 d1 b2 d2 hfr1 hfr2
    obtain ⟨z, ez⟩ : ∃ z : Vo Pv, z = ⟨((ys.length + 1 : Nat) : Int), 0, 0, ⟨o.v, b1, d1, b2, d2⟩⟩ := ⟨_, rfl⟩
    have hv' : vlsOf (ys ++ [z]) = outV (mmap Pv.v mp) (ys.length + 1) := by
      rw [outV_succ, vls_app, hv, mp_v, ← eo, ez]; rfl
    have fq : ∀ j, (pvR z.v).F j → w.heap.size ≤ j ∧ ¬ ((B.and (voAll ys)).and (vrow b d ys)).F j := fun j hj => by
      rw [ez] at hj
      exact hj.elim (fun q => hfr1 j q) (fun q => ⟨(hfr2 j q).1, (hfr2 j q).2.1⟩)
    have ezr : (crow b1 o.v.cs.length d1 o.v.cs).and (nrow b2 o.v.ns.length d2 o.v.ns) = pvR z.v := by rw [ez]; rfl
    rw [ezr]
    refine holds_eq (HX.and_right_comm _ _ _) ?_
    have epc : (B.and (voAll ys)).and (pvR z.v) = B.and (voAll (ys ++ [z])) := by rw [voAll_snoc, HX.and_assoc]
    refine holds_eq (congrArg (fun y => y.and (vrow b d ys)) epc) ?_
    have ownv' : OwnR w B (voAll (ys ++ [z])) := fun j hj => by
      rw [voAll_snoc] at hj
      rcases hj with hj | hj
      · exact ownv j hj
      · exact ⟨(fq j hj).1, fun y => (fq j hj).2 (.inl (.inl y))⟩
    have hdis : ∀ j, d ≠ 0 → abk b = some j → ¬ (B.and (voAll (ys ++ [z]))).F j := fun j q1 q2 y => by
      rcases y with y | y
      · exact (ownr j ⟨q1, q2⟩).2 (.inl y)
      · rw [voAll_snoc] at y
        rcases y with y | y
        · exact (ownr j ⟨q1, q2⟩).2 (.inr y)
        · exact (fq j y).2 (.inr ⟨q1, q2⟩)
    have hwk : IntKind.i64.wrap (((ys.length + 1 : Nat) : Int) + 1) = ((ys.length + 1 + 1 : Nat) : Int) := by rw [wrap_i64 (by omega)]; omega
    refine node_pushs (e := 39) (sz := 6) rfl Try.underlying24 info_vote rfl (by decide) b ys.length d (vocs ys) (voC z) 0 (by intros; kernel_rfl) (by intros; kernel_rfl) rfl (fun ids => by rw [ez]; kernel_rfl) rfl (voC_one z) hdis (fun j q1 q2 => .inl (ownr j ⟨q1, q2⟩).1) (by unfold maxLen; omega) (by omega) (by intros; kernel_rfl) (by kernel_rfl) (by kernel_rfl) (by intros; kernel_rfl) ?_
    intro b' d' hc' hr' hor'
    have hlz : (ys ++ [z]).length = ys.length + 1 := by simp
    have erow : HX.rw 6 39 b' (ys.length + 1) d' (vocs ys ++ voC z) = vrow b' d' (ys ++ [z]) := by unfold vrow; rw [vocs_snoc, hlz]
    refine holds_eq (congrArg _ erow) ?_
    refine again_V ⟨[IntKind.i64.wrap (((ys.length + 1 : Nat) : Int) + 1)], [], [], [ys.length + 1, d'], [b']⟩ rfl (by intros; kernel_rfl) _ (fun w2 ids hf => ⟨hf.x, hf.sep⟩) ⟨mp.length - (ys.length + 1), by omega, b', d', ys ++ [z], by rw [hlz], by omega, by rw [hlz]; exact hv', ownv', fun j hj => ⟨?_, hr' j hj.2⟩, by rw [hwk, hlz], rfl⟩
    rcases hor' with ⟨r1, r2⟩ | ⟨g, r1, r2, _⟩
    · exact (ownr j ⟨r1, by rw [← r2]; exact hj.2⟩).1
    · have := hj.2
      rw [r1] at this; cases this; exact r2
end Go.Proofs.Ytbedoemdjlollaa

namespace Go.Proofs.Ytbedoemdjlollaa
open Go Go.ChangeShapes Go.WideShapes Go.ChangeAt Go.RowKit Go.Syn Go.Eng
set_option linter.unusedVariables false
set_option linter.unusedSimpArgs false
def mo (outs : List (Vo Pv)) : List (Int × Vl) := outs.map fun x => (x.s, x.v.v)
theorem mo_len (outs : List (Vo Pv)) : (mo outs).length = outs.length := List.length_map _
theorem mo_snoc (outs : List (Vo Pv)) (z : Vo Pv) : mo (outs ++ [z]) = mo outs ++ [(z.s, z.v.v)] := by unfold mo; rw [List.map_append]; rfl
def hasS (l : List (Vo Pv)) (s : Int) : Bool := l.any fun x => x.s == s
theorem hasS_iff {l : List (Vo Pv)} {s : Int} : hasS l s = true ↔ ∃ x ∈ l, x.s = s := by unfold hasS; simp
theorem hasS_step {l : List (Vo Pv)} {s : Int} {k : Nat} {x : Vo Pv} (h : l[k]? = some x) : hasS (l.take (k + 1)) s = (hasS (l.take k) s || (x.s == s)) := by
  unfold hasS
  rw [List.take_add_one, h, List.any_append]
  simp
theorem mo_get {outs : List (Vo Pv)} (hn : NdK (mo outs)) {x : Vo Pv} (hx : x ∈ outs) : mlk (mo outs) x.s = some x.v.v := mem_mlk hn (List.mem_map.2 ⟨x, hx, rfl⟩)
theorem mo_none {outs : List (Vo Pv)} {s : Int} (h : hasS outs s = false) : mlk (mo outs) s = none := mlk_none_iff.2 fun p hp e => by
  obtain ⟨x, hx, rfl⟩ := List.mem_map.1 hp
  have := hasS_iff.2 ⟨x, hx, e⟩
  rw [h] at this; cases this
theorem mput_new {m : List (Int × Vl)} {k : Int} {v : Vl} (h : mlk m k = none) : mput m k v = m ++ [(k, v)] := by
  unfold mput
  rw [h]; rfl
theorem hasS_before {outs : List (Vo Pv)} (hn : NdK (mo outs)) {k : Nat} {x : Vo Pv} (h : outs[k]? = some x) : hasS (outs.take k) x.s = false := by
  rcases Bool.eq_false_or_eq_true (hasS (outs.take k) x.s) with q | q
  · exfalso
    obtain ⟨y, hy, e⟩ := hasS_iff.1 q
    obtain ⟨hk, e2⟩ := List.getElem?_eq_some_iff.1 h
    have hs : outs = outs.take k ++ x :: outs.drop (k + 1) := by
      rw [← e2, ← List.drop_eq_getElem_cons hk, List.take_append_drop]
    unfold NdK mo at hn
    rw [List.map_map, hs, List.map_append] at hn
    exact (List.nodup_append.1 hn).2.2 (y.s) (List.mem_map.2 ⟨y, hy, rfl⟩) x.s (List.mem_map.2 ⟨x, List.mem_cons_self, rfl⟩) e
  · exact q
theorem pig : ∀ (n : Nat) {l : List Int}, l.Nodup → (∀ x ∈ l, 1 ≤ x ∧ x ≤ (n : Int)) → l.length ≤ n
  | 0, l, _, h => by
    cases l with
    | nil => exact Nat.le_refl _
    | cons x r => have := h x List.mem_cons_self; omega
  | n + 1, l, hn, h => by
    by_cases hm : ((n + 1 : Nat) : Int) ∈ l
    · have h1 := pig n (l := l.erase ((n + 1 : Nat) : Int)) (hn.erase _) (fun x hx => by
        have h2 := (List.Nodup.mem_erase_iff hn).1 hx
        have h3 := h x h2.2
        have : x ≠ ((n + 1 : Nat) : Int) := h2.1
        omega)
      rw [List.length_erase_of_mem hm] at h1
      omega
    · have h1 := pig n hn (fun x hx => by
        have h3 := h x hx
        have : x ≠ ((n + 1 : Nat) : Int) := fun e => hm (by rw [← e]; exact hx)
        omega)
      omega
theorem pig_all {n : Nat} {l : List Int} (hn : l.Nodup) (h : ∀ x ∈ l, 1 ≤ x ∧ x ≤ (n : Int)) (hl : l.length = n) {s : Int} (h1 : 1 ≤ s) (h2 : s ≤ (n : Int)) : s ∈ l := by
  by_cases hm : s ∈ l
  · exact hm
  · have := pig n (l := s :: l) (List.nodup_cons.2 ⟨hm, hn⟩) (fun x hx => by
      rcases List.mem_cons.1 hx with rfl | hx
      · exact ⟨h1, h2⟩
      · exact h x hx)
    rw [List.length_cons] at this
    omega
theorem hasS_all {outs : List (Vo Pv)} (hn : NdK (mo outs)) {top : Int} (h : ∀ x ∈ outs, 1 ≤ x.s ∧ x.s ≤ top) (hl : top = (outs.length : Int)) {s : Int} (h1 : 1 ≤ s) (h2 : s ≤ top) : hasS outs s = true := by
  have hk : (mo outs).map (·.1) = outs.map fun x => x.s := by unfold mo; rw [List.map_map]; rfl
  unfold NdK at hn
  rw [hk] at hn
  have := pig_all (n := outs.length) hn (fun y hy => by
    obtain ⟨x, hx, rfl⟩ := List.mem_map.1 hy
    have := h x hx
    exact ⟨this.1, by omega⟩) (List.length_map _) h1 (by omega)
  obtain ⟨x, hx, e⟩ := List.mem_map.1 this
  exact hasS_iff.2 ⟨x, hx, e⟩
structure RgI (rest : List (Vo Pv)) (N : Nat) (T : List (Vo Vl) × Int) (outs : List (Vo Pv)) (top : Int) : Prop where
  nd : NdK (mo outs)
  zero : ∀ x ∈ outs, x.r = 0 ∧ x.n = 0 ∧ VlFit x.v.v
  at_ : ∀ x ∈ outs, 1 ≤ x.s ∧ x.s ≤ top
  top0 : 0 ≤ top
  len : outs.length + rest.length ≤ N
  is : mgV (mo outs) top (vlsOf rest) = T
theorem RgI.nil (rest : List (Vo Pv)) : RgI rest rest.length (mergeV (vlsOf rest)) [] 0 := ⟨List.nodup_nil, (fun x hx => by cases hx), (fun x hx => by cases hx), Int.le_refl _, by simp, rfl⟩
theorem mg_cons {m : List (Int × Vl)} {top : Int} {x : Vo Pv} {r : List (Vo Pv)} : mgV m top (vlsOf (x :: r)) = if x.s < 1 ∨ valE x.v.v ≠ 0 then ([], 1) else if (mlk m x.s).isSome = true ∧ vlSame ((mlk m x.s).getD vz) x.v.v = false then ([], 63) else mgV (mput m x.s x.v.v) (max top x.s) (vlsOf r) := rfl
theorem RgI.bad {x : Vo Pv} {r : List (Vo Pv)} {N : Nat} {T : List (Vo Vl) × Int} {outs : List (Vo Pv)} {top : Int} (h : RgI (x :: r) N T outs top) (hb : x.s < 1 ∨ valE x.v.v ≠ 0) : T = ([], 1) := by rw [← h.is, mg_cons, if_pos hb]
theorem RgI.clash {x : Vo Pv} {r : List (Vo Pv)} {N : Nat} {T : List (Vo Vl) × Int} {outs : List (Vo Pv)} {top : Int} (h : RgI (x :: r) N T outs top) (hb : ¬ (x.s < 1 ∨ valE x.v.v ≠ 0)) {y : Vo Pv} (hy : y ∈ outs) (e : y.s = x.s) (hd : vlSame y.v.v x.v.v = false) : T = ([], 63) := by
  have := mo_get h.nd hy
  rw [e] at this
  rw [← h.is, mg_cons, if_neg hb, if_pos ⟨by rw [this]; rfl, by rw [this]; exact hd⟩]
theorem RgI.known {x : Vo Pv} {r : List (Vo Pv)} {N : Nat} {T : List (Vo Vl) × Int} {outs : List (Vo Pv)} {top : Int} (h : RgI (x :: r) N T outs top) (hb : ¬ (x.s < 1 ∨ valE x.v.v ≠ 0)) (hk : hasS outs x.s = true) (hs : ∀ y ∈ outs, y.s = x.s → y.v.v = x.v.v) : RgI r N T outs (max top x.s) := by
  obtain ⟨y, hy, e⟩ := hasS_iff.1 hk
  have h1 := mo_get h.nd hy
  rw [e, hs y hy e] at h1
  refine ⟨h.nd, h.zero, fun u hu => ⟨(h.at_ u hu).1, by have := (h.at_ u hu).2; omega⟩, by have := h.top0; omega, by have := h.len; rw [List.length_cons] at this; omega, ?_⟩
  rw [← h.is, mg_cons, if_neg hb, if_neg, mput_same h.nd h1]
  rw [h1]
  rintro ⟨_, q⟩
  rw [Option.getD_some, vlSame_t rfl] at q
  cases q
theorem RgI.new {x : Vo Pv} {r : List (Vo Pv)} {N : Nat} {T : List (Vo Vl) × Int} {outs : List (Vo Pv)} {top : Int} (h : RgI (x :: r) N T outs top) (hb : ¬ (x.s < 1 ∨ valE x.v.v ≠ 0)) (hk : hasS outs x.s = false) {z : Vo Pv} (hz : z.s = x.s ∧ z.r = 0 ∧ z.n = 0 ∧ z.v.v = x.v.v) (hf : VlFit x.v.v) : RgI r N T (outs ++ [z]) (max top x.s) := by
  have h1 := mo_none hk
  have e : mo (outs ++ [z]) = mput (mo outs) x.s x.v.v := by rw [mput_new h1, mo_snoc, hz.1, hz.2.2.2]
  refine ⟨by rw [e]; exact h.nd.put _ _, fun u hu => ?_, fun u hu => ?_, by have := h.top0; omega, by have := h.len; rw [List.length_cons] at this; rw [List.length_append]; simp only [List.length_cons, List.length_nil]; omega, ?_⟩
  · rcases List.mem_append.1 hu with hu | hu
    · exact h.zero u hu
    · rw [List.mem_singleton.1 hu]; exact ⟨hz.2.1, hz.2.2.1, by rw [hz.2.2.2]; exact hf⟩
  · rcases List.mem_append.1 hu with hu | hu
    · exact ⟨(h.at_ u hu).1, by have := (h.at_ u hu).2; omega⟩
    · rw [List.mem_singleton.1 hu, hz.1]
      exact ⟨by omega, by omega⟩
  · rw [← h.is, mg_cons, if_neg hb, if_neg, e]
    rw [h1]
    rintro ⟨q, _⟩
    cases q
theorem RgI.done {N : Nat} {T : List (Vo Vl) × Int} {outs : List (Vo Pv)} {top : Int} (h : RgI [] N T outs top) : T = if top ≠ (outs.length : Int) then ([], 41) else (outV (mo outs) outs.length, 0) := by
  rw [← h.is, ← mo_len]; rfl
theorem mgV_len : ∀ (vs : List (Vo Vl)) (m : List (Int × Vl)) (top : Int), (mgV m top vs).1.length ≤ m.length + vs.length
  | [], m, top => by
    unfold mgV
    split
    · simp
    · unfold outV; simp
  | v :: r, m, top => by
    unfold mgV
    split
    · simp
    · split
      · simp
      · have h1 := mgV_len r (mput m v.s v.v) (max top v.s)
        rw [mput_len] at h1
        rw [List.length_cons]
        split at h1 <;> omega
theorem merge_len (xs : List (Vo Pv)) : (mergeV (vlsOf xs)).1.length ≤ xs.length := by
  have := mgV_len (vlsOf xs) [] 0
  rw [vlsOf_len, List.length_nil, Nat.zero_add] at this
  exact this
end Go.Proofs.Ytbedoemdjlollaa

namespace Go.Proofs.Ytbedoemdjlollaa
open Go Go.ChangeShapes Go.WideShapes Go.ChangeAt Go.RowKit Go.Syn Go.Eng
set_option linter.unusedVariables false
set_option linter.unusedSimpArgs false
set_option maxRecDepth 100000
def RMgNew (w : World) (R : List (Vo Vl) × Int) (e : Ending) (w' : World) : Prop := ∃ (b : Option Addr) (d : Nat) (ys : List (Vo Pv)), e = .returned (.tuple #[.slice b ys.length d, .int .i64 R.2]) ∧ vlsOf ys = R.1 ∧ (∀ x ∈ ys, VlFit x.v.v) ∧ (voX b ys).X w' ∧ (∀ k, (voX b ys).F k → w.heap.size ≤ k ∧ k < w'.heap.size) ∧ Below w.heap.size w w'
theorem vox_nil {w : World} : (voX none []).X w := ⟨cl_nil _ _, fun y hy => by cases hy⟩
theorem vox_nilF {k : Nat} : ¬ (voX none []).F k := fun h => by
  rcases h with h | ⟨y, hy, _⟩
  · exact h.1 rfl
  · cases hy
theorem rmg_nil {w : World} {c : Int} {v : SV} {m : Mem} {ρ : Env} {hx : HX} {S : Stack} (hv : ∀ ids, v.den ρ ids = .tuple #[.slice none 0 0, .int .i64 c]) : (Tree.done v m).holds ⟨Try.prog, w, fun _ => False, RMgNew w ([], c)⟩ ρ [] hx S := fun ids w2 hp hf =>
  ⟨none, 0, [], by rw [hv ids]; rfl, rfl, (fun x hx => by cases hx), vox_nil, fun k hk => absurd hk vox_nilF, hf.chg.below⟩
structure RgM (W : World) (outs : List (Vo Pv)) (ao : Option Addr) (co : Nat) : Prop where
  ov : OwnR W HX.nil (voAll outs)
  ow : OwnR W (HX.nil.and (voAll outs)) (vrow ao co outs)
  s1 : co ≠ 0 → ao.isSome = true
  s2 : outs ≠ [] → co ≠ 0
def rgH (outs : List (Vo Pv)) (ao : Option Addr) (co : Nat) : HX := (HX.nil.and (voAll outs)).and (vrow ao co outs)
theorem abk_some {a : Option Addr} {g : Nat} (h : abk a = some g) : a.isSome = true := by
  cases a with
  | none => cases h
  | some x => rfl
theorem abk_same {a b : Option Addr} (h : abk a = abk b) (hb : b.isSome = true) : a.isSome = true := by
  cases b with
  | none => cases hb
  | some x => exact abk_some h
theorem row_part {w : World} {a : Option Addr} {c : Nat} {xs : List (Vo Pv)} (h : (vrow a c xs).X w) {i : Nat} {x : Vo Pv} (hi : xs[i]? = some x) (o : Nat) (us : List Value) (hu : ∀ j u, us[j]? = some u → (voC x)[o + j]? = some u) (h0 : us ≠ []) : CellsAt w (.pointer (some (((a.getD ⟨0, 0, none⟩).add (i * 6)).add o))) us (fun _ => False) :=
  (flat_part voc_len (rw_cells h) hi (o := o) us hu h0).2 _ id
theorem all_at {w : World} {xs : List (Vo Pv)} (h : (voAll xs).X w) {x : Vo Pv} (hx : x ∈ xs) (hf : VlFit x.v.v) : VlAt w x.v.v x.v.a1 x.v.a2 := by
  have := h _ (List.mem_map.2 ⟨x, hx, rfl⟩)
  exact rows_at hf this.1 this.2
set_option maxHeartbeats 8000000 in
theorem rmerge25_any (a : Option Addr) (cp : Nat) (ts : List Tl) (w : World) (H0 : (tlX a ts).X w) (hts : ∀ t ∈ ts, TlOk t) (hlen : ts.length ≤ 4611686018427387904) (hN : (tlAll ts).length ≤ 1048576) :
    Calls Try.prog 10 #[.slice a ts.length cp] w (RMgNew w (mergeV (vlsOf (tlAll ts)))) := by
  refine calls_at (tab_ok _) Try.func10 rfl tRMerge (ρ := ⟨[], [], [], [ts.length, cp], [a]⟩) (ids := []) (hx := HX.nil) rfl (Facts.initP rfl oneNil) ?_
  obtain ⟨T, eT⟩ : ∃ T, T = mergeV (vlsOf (tlAll ts)) := ⟨_, rfl⟩
  rw [← eT]
  obtain ⟨N, eN⟩ : ∃ N, N = (tlAll ts).length := ⟨_, rfl⟩
  have hR0 := RgI.nil (tlAll ts)
  rw [← eT, ← eN] at hR0
  rw [← eN] at hN
  have keepP : ∀ {m : Mem} {ρ : Env} {ids : List Nat} {hx : HX} {w2 : World} {R : Ending → World → Prop} {p : Pv}, VlFit p.v ∧ p.hx.X w → Facts ⟨Try.prog, w, fun _ => False, R⟩ m ρ ids hx w2 → VlAt w2 p.v p.a1 p.a2 := fun hp hf => hp.1.at_ ((vlX _ _ _).loc _ _ hp.2 fun k hk => hf.chg.block k (vlX_sep hp.2 k hk) (fun q => q))
  refine ⟨fun vs hx n => ∃ (i : Nat) (outs : List (Vo Pv)) (top : Int) (ao : Option Addr) (co : Nat), n = ts.length - i ∧ i ≤ ts.length ∧ RgI (tlAll (ts.drop i)) N T outs top ∧ RgM w outs ao co ∧ vs = ⟨[(i : Int), top], [], [], [outs.length, co], [ao]⟩ ∧ rgH outs ao co = hx, fun ids w2 hp hf => ⟨rgH [] (some ⟨idAt ids 0, 0, none⟩) 0, ts.length, ⟨⟨⟨hf.x, fun x hx => by cases hx⟩, HX.rw_nil _ _ _ _⟩, fun k hk => hk.elim (fun q => q.elim (fun q => hf.sep k q) fun ⟨x, hx, _⟩ => by cases hx) fun q => absurd rfl q.1⟩, 0, [], 0, some ⟨idAt ids 0, 0, none⟩, 0, rfl, Nat.zero_le _, hR0, ⟨(fun k ⟨x, hx, _⟩ => by cases hx), (fun k hk => absurd rfl hk.1), (fun q => absurd rfl q), (fun q => absurd rfl q)⟩, by kernel_rfl, rfl⟩, ?_⟩
  rintro vs hx' n hcnt ⟨i, outs, top, ao, co, rfl, hi, hR, hM, rfl, rfl⟩
  refine holds_env (ρ' := ⟨[(i : Int), top], [], [], [ts.length, cp, outs.length, co], [a, ao]⟩) (by kernel_rfl) ?_
  have hwi : IntKind.i64.wrap ((i : Int) + 1) = ((i + 1 : Nat) : Int) := by rw [wrap_i64 (by omega)]; omega
  refine br_D (p := (i : Int) < (ts.length : Int)) (by kernel_rfl) (fun hlt => ?B) (fun hlt => ?E)
  case B =>
    have hlt : i < ts.length := by omega
    obtain ⟨t, ht⟩ : ∃ t, ts[i]? = some t := ⟨_, List.getElem?_eq_getElem hlt⟩
    have htm := List.mem_of_getElem? ht
    have hok := hts t htm
    have htx := tl_vo H0 htm
    have hd : tlAll (ts.drop i) = t.xs ++ tlAll (ts.drop (i + 1)) := by
      obtain ⟨q, e⟩ := List.getElem?_eq_some_iff.1 ht
      rw [List.drop_eq_getElem_cons q, e]; rfl
    obtain ⟨s1, g1⟩ := tl_part H0 ht
    have hlx : t.xs.length * 80 ≤ 140737488355328 := hok.l
    refine need_k (a.isSome = true ∧ (0 : Int) ≤ (i : Int) ∧ (i : Int) < (ts.length : Int)) (by kernel_rfl) ⟨s1, by omega, by omega⟩ ?_
    refine node_ld0 (k := ⟨2, 0, 0, 4, 2⟩) ⟨[], [], [], [t.xs.length, t.c], [t.a]⟩ (.pointer (some (((a.getD ⟨0, 0, none⟩).add (i * 1)).add 0))) (tlC t) (by intros; kernel_rfl) (by intros; kernel_rfl) g1 ⟨by kernel_rfl, oneNil⟩ (by kernel_rfl) oneNil ?_
    rw [hd] at hR
    refine ⟨fun vs hx n => ∃ (j : Nat) (outs : List (Vo Pv)) (top : Int) (ao : Option Addr) (co : Nat), n = t.xs.length - j ∧ j ≤ t.xs.length ∧ RgI (t.xs.drop j ++ tlAll (ts.drop (i + 1))) N T outs top ∧ RgM w outs ao co ∧ vs = ⟨[(j : Int), top], [], [], [outs.length, co], [ao]⟩ ∧ rgH outs ao co = hx, fun ids w2 hp hf => ⟨_, t.xs.length, ⟨hf.x, hf.sep⟩, 0, outs, top, ao, co, rfl, Nat.zero_le _, hR, hM, by kernel_rfl, rfl⟩, ?_⟩
    rintro vs hx' n hcnt2 ⟨j, outs2, top2, ao2, co2, rfl, hj, hR2, hM2, rfl, rfl⟩
    refine holds_env (ρ' := ⟨[(i : Int), top, (j : Int), top2], [], [], [ts.length, cp, outs.length, co, t.xs.length, t.c, outs2.length, co2], [a, ao, t.a, ao2]⟩) (by kernel_rfl) ?_
    refine br_D (p := (j : Int) < (t.xs.length : Int)) (by kernel_rfl) (fun hjl => ?B2) (fun hjl => ?E2)
    case E2 =>
      rw [List.drop_eq_nil_of_le (by omega), List.nil_append] at hR2
      exact again_V ⟨[IntKind.i64.wrap ((i : Int) + 1), top2], [], [], [outs2.length, co2], [ao2]⟩ rfl (by intros; kernel_rfl) _ (fun w2 ids hf => ⟨hf.x, hf.sep⟩) ⟨ts.length - (i + 1), by omega, i + 1, outs2, top2, ao2, co2, rfl, by omega, hR2, hM2, by rw [hwi], rfl⟩
    have hjl : j < t.xs.length := by omega
    have hwj : IntKind.i64.wrap ((j : Int) + 1) = ((j + 1 : Nat) : Int) := by rw [wrap_i64 (by omega)]; omega
    obtain ⟨x, hx⟩ : ∃ x, t.xs[j]? = some x := ⟨_, List.getElem?_eq_getElem hjl⟩
    have hxm := List.mem_of_getElem? hx
    have hxv : VlFit x.v.v ∧ x.v.hx.X w := ⟨hok.f x hxm, htx.2 _ (List.mem_map.2 ⟨x, hxm, rfl⟩)⟩
    have hd2 : t.xs.drop j ++ tlAll (ts.drop (i + 1)) = x :: (t.xs.drop (j + 1) ++ tlAll (ts.drop (i + 1))) := by
      obtain ⟨q, e⟩ := List.getElem?_eq_some_iff.1 hx
      rw [List.drop_eq_getElem_cons q, e]; rfl
    rw [hd2] at hR2
    obtain ⟨Y, eY⟩ : ∃ Y, Y = t.xs.drop (j + 1) ++ tlAll (ts.drop (i + 1)) := ⟨_, rfl⟩
    rw [← eY] at hR2
    have hol : outs2.length ≤ N := by have := hR2.len; rw [List.length_cons] at this; omega
    obtain ⟨s2, g2⟩ := vo_part htx hx 0 (voC x) (fun j u hj => by rw [Nat.zero_add]; exact hj) (by simp [voC])
    refine ⟨fun vs hx => ∃ (outs3 : List (Vo Pv)) (top3 : Int) (ao3 : Option Addr) (co3 : Nat), RgI Y N T outs3 top3 ∧ RgM w outs3 ao3 co3 ∧ vs = ⟨[top3], [], [], [outs3.length, co3], [ao3]⟩ ∧ rgH outs3 ao3 co3 = hx, ?_, ?_⟩
    case refine_2 =>
      rintro vs hx' hcnt3 ⟨outs3, top3, ao3, co3, hR3, hM3, rfl, rfl⟩
      exact again_V ⟨[IntKind.i64.wrap ((j : Int) + 1), top3], [], [], [outs3.length, co3], [ao3]⟩ rfl (by intros; kernel_rfl) _ (fun w2 ids hf => ⟨hf.x, hf.sep⟩) ⟨t.xs.length - (j + 1), by omega, j + 1, outs3, top3, ao3, co3, rfl, by omega, by rw [← eY]; exact hR3, hM3, by rw [hwj], rfl⟩
    refine need_k (a.isSome = true ∧ (0 : Int) ≤ (i : Int) ∧ (i : Int) < (ts.length : Int)) (by kernel_rfl) ⟨s1, by omega, by omega⟩ ?_
    refine node_ld0 (k := ⟨4, 0, 0, 8, 4⟩) ⟨[], [], [], [t.xs.length, t.c], [t.a]⟩ (.pointer (some (((a.getD ⟨0, 0, none⟩).add (i * 1)).add 0))) (tlC t) (by intros; kernel_rfl) (by intros; kernel_rfl) g1 ⟨by kernel_rfl, oneNil⟩ (by kernel_rfl) oneNil ?_
    refine need_k (t.a.isSome = true ∧ (0 : Int) ≤ (j : Int) ∧ (j : Int) < (t.xs.length : Int)) (by kernel_rfl) ⟨s2, by omega, by omega⟩ ?_
    refine node_ld0 (k := ⟨4, 0, 0, 10, 5⟩) ⟨[x.s, x.r, x.n, x.v.v.k], [], [], [x.v.v.cs.length, x.v.c1, x.v.v.ns.length, x.v.c2], [x.v.a1, x.v.a2]⟩ (.pointer (some (((t.a.getD ⟨0, 0, none⟩).add (j * 6)).add 0))) (voC x) (by intros; kernel_rfl) (by intros; kernel_rfl) g2 ⟨by kernel_rfl, oneNil⟩ (by kernel_rfl) oneNil ?_
    refine br_D (p := x.s < 1) (by kernel_rfl) (fun h1 => by rw [hR2.bad (.inl h1)]; exact rmg_nil (by intros; kernel_rfl)) (fun h1 => ?_)
    refine node_P ⟨[valE x.v.v], [], [], [], []⟩ #[x.v.val] (.int .i64 (valE x.v.v)) (by intros; kernel_rfl) (by intros; kernel_rfl) (by kernel_rfl) (by kernel_rfl) (by kernel_rfl) oneNil (fun ids w2 hp hf => rchk_any _ _ _ _ _ w2 (keepP hxv hf)) ?_
    refine br_B (valE x.v.v != 0) (by kernel_rfl) (fun h2 => by rw [hR2.bad (.inr (by simpa using h2))]; exact rmg_nil (by intros; kernel_rfl)) (fun h2 => ?_)
    have h2 : valE x.v.v = 0 := by simpa using h2
    have hb : ¬ (x.s < 1 ∨ valE x.v.v ≠ 0) := by simp only [not_or]; exact ⟨h1, fun q => q h2⟩
    refine ⟨fun vs hx n => ∃ k : Nat, n = outs2.length - k ∧ k ≤ outs2.length ∧ (∀ y ∈ outs2.take k, y.s = x.s → y.v.v = x.v.v) ∧ vs = ⟨[(k : Int)], [hasS (outs2.take k) x.s], [], [], []⟩ ∧ rgH outs2 ao2 co2 = hx, fun ids w2 hp hf => ⟨_, outs2.length, ⟨hf.x, hf.sep⟩, 0, rfl, Nat.zero_le _, (fun y hy => by cases hy), by kernel_rfl, rfl⟩, ?_⟩
    rintro vs hx' n hcnt4 ⟨k, rfl, hk, hsame, rfl, rfl⟩
    obtain ⟨kb, ekb⟩ : ∃ kb, kb = hasS (outs2.take k) x.s := ⟨_, rfl⟩
    rw [← ekb]
    refine holds_env (ρ' := ⟨[(i : Int), top, (j : Int), top2, x.s, x.r, x.n, x.v.v.k, valE x.v.v, (k : Int)], [kb], [], [ts.length, cp, outs.length, co, t.xs.length, t.c, outs2.length, co2, t.xs.length, t.c, x.v.v.cs.length, x.v.c1, x.v.v.ns.length, x.v.c2], [a, ao, t.a, ao2, t.a, x.v.a1, x.v.a2]⟩) (by kernel_rfl) ?_
    refine br_D (p := (k : Int) < (outs2.length : Int)) (by kernel_rfl) (fun hkl => ?B3) (fun hkl => ?E3)
    case B3 =>
      have hkl : k < outs2.length := by omega
      have hwk : IntKind.i64.wrap ((k : Int) + 1) = ((k + 1 : Nat) : Int) := by rw [wrap_i64 (by omega)]; omega
      obtain ⟨y, hy⟩ : ∃ y, outs2[k]? = some y := ⟨_, List.getElem?_eq_getElem hkl⟩
      have hym := List.mem_of_getElem? hy
      have hsm := hM2.s1 (hM2.s2 (fun q => by rw [q] at hkl; simp at hkl))
      have hst := hasS_step (s := x.s) hy
      rw [← ekb] at hst
      have htk : outs2.take (k + 1) = outs2.take k ++ [y] := by rw [List.take_add_one, hy]; rfl
      refine need_k (ao2.isSome = true ∧ (0 : Int) ≤ (k : Int) ∧ (k : Int) < (outs2.length : Int)) (by kernel_rfl) ⟨hsm, by omega, by omega⟩ ?_
      refine node_ldk ⟨[y.s], [], [], [], []⟩ (fun _ => .pointer (some (((ao2.getD ⟨0, 0, none⟩).add (k * 6)).add 0))) [.int .i64 y.s] (by intros; kernel_rfl) (by intros; kernel_rfl) (fun ids w2 hp hf => row_part hf.x.2 hy 0 _ (fun j u hj => by cases j with | zero => exact hj | succ j => cases hj) (by simp)) (by kernel_rfl) oneNil ?_
      refine br_D (p := y.s = x.s) (by kernel_rfl) (fun he => ?_) (fun he => ?_)
      · refine need_k (ao2.isSome = true ∧ (0 : Int) ≤ (k : Int) ∧ (k : Int) < (outs2.length : Int)) (by kernel_rfl) ⟨hsm, by omega, by omega⟩ ?_
        refine node_ldk ⟨[y.v.v.k], [], [], [y.v.v.cs.length, y.v.c1, y.v.v.ns.length, y.v.c2], [y.v.a1, y.v.a2]⟩ (fun _ => .pointer (some (((ao2.getD ⟨0, 0, none⟩).add (k * 6)).add 3))) y.v.cells (by intros; kernel_rfl) (by intros; kernel_rfl) (fun ids w2 hp hf => row_part hf.x.2 hy 3 _ (fun j u hj => by rcases j with _ | _ | _ | j; exact hj; exact hj; exact hj; cases hj) (by simp [Pv.cells])) (by kernel_rfl) oneNil ?_
        refine node_PI ⟨[], [vlSame y.v.v x.v.v], [], [], []⟩ (fun _ => #[y.v.val, x.v.val]) (.bool (vlSame y.v.v x.v.v)) (by intros; kernel_rfl) (by intros; kernel_rfl) (by kernel_rfl) (by kernel_rfl) (by kernel_rfl) oneNil (fun ids w2 hp hf => samev_any _ _ _ _ _ _ _ _ _ _ w2 (all_at hf.x.1.2 hym (hR2.zero y hym).2.2) (keepP hxv hf)) ?_
        refine br_B (!(vlSame y.v.v x.v.v)) (by kernel_rfl) (fun h4 => by rw [hR2.clash hb hym he (by simpa using h4)]; exact rmg_nil (by intros; kernel_rfl)) (fun h4 => ?_)
        have hvv : y.v.v = x.v.v := by
          by_cases q : y.v.v = x.v.v
          · exact q
          · rw [vlSame_f q] at h4; cases h4
        exact again_V ⟨[IntKind.i64.wrap ((k : Int) + 1)], [true], [], [], []⟩ rfl (by intros; kernel_rfl) _ (fun w2 ids hf => ⟨hf.x, hf.sep⟩) ⟨outs2.length - (k + 1), by omega, k + 1, rfl, by omega, (fun u hu e => by
          rw [htk] at hu
          rcases List.mem_append.1 hu with hu | hu
          · exact hsame u hu e
          · rw [List.mem_singleton.1 hu]; exact hvv), by rw [hwk, hst, he]; simp, rfl⟩
      · exact again_V ⟨[IntKind.i64.wrap ((k : Int) + 1)], [kb], [], [], []⟩ rfl (by intros; kernel_rfl) _ (fun w2 ids hf => ⟨hf.x, hf.sep⟩) ⟨outs2.length - (k + 1), by omega, k + 1, rfl, by omega, (fun u hu e => by
          rw [htk] at hu
          rcases List.mem_append.1 hu with hu | hu
          · exact hsame u hu e
          · rw [List.mem_singleton.1 hu] at e; exact absurd e he), by rw [hwk, hst, show (y.s == x.s) = false by simpa using he, Bool.or_false], rfl⟩
    have hke : k = outs2.length := by omega
    rw [hke, List.take_length] at ekb hsame
    refine ⟨fun vs hx => ∃ (outs3 : List (Vo Pv)) (ao3 : Option Addr) (co3 : Nat), RgI Y N T outs3 (max top2 x.s) ∧ RgM w outs3 ao3 co3 ∧ vs = ⟨[], [], [], [outs3.length, co3], [ao3]⟩ ∧ rgH outs3 ao3 co3 = hx, ?_, ?_⟩
    case refine_2 =>
      rintro vs hx' hcnt5 ⟨outs3, ao3, co3, hR3, hM3, rfl, rfl⟩
      refine br_D (p := x.s > top2) (by kernel_rfl) (fun hgt => ?_) (fun hgt => ?_)
      · rw [show max top2 x.s = x.s by omega] at hR3
        exact again_V ⟨[x.s], [], [], [outs3.length, co3], [ao3]⟩ rfl (by intros; kernel_rfl) _ (fun w2 ids hf => ⟨hf.x, hf.sep⟩) ⟨outs3, x.s, ao3, co3, hR3, hM3, rfl, rfl⟩
      · rw [show max top2 x.s = top2 by omega] at hR3
        exact again_V ⟨[top2], [], [], [outs3.length, co3], [ao3]⟩ rfl (by intros; kernel_rfl) _ (fun w2 ids hf => ⟨hf.x, hf.sep⟩) ⟨outs3, top2, ao3, co3, hR3, hM3, rfl, rfl⟩
    refine br_B (!kb) (by kernel_rfl) (fun hkb => ?_) (fun hkb => ?_)
    · have hkb : hasS outs2 x.s = false := by rw [← ekb]; simpa using hkb
      unfold rgH
      refine node_cpr rfl x.v hxv.1 (fun ids w2 hp hf2 => (keepP hxv hf2).X) (by intros; kernel_rfl) (by intros; kernel_rfl) (by kernel_rfl) (by kernel_rfl) (by intros; kernel_rfl) ?_
      intro q hq fq
      obtain ⟨z, ez⟩ : ∃ z : Vo Pv, z = ⟨x.s, 0, 0, q⟩ := ⟨_, rfl⟩
      refine holds_eq (HX.and_right_comm _ _ _) ?_
      have epc : (HX.nil.and (voAll outs2)).and (pvR q) = HX.nil.and (voAll (outs2 ++ [z])) := by rw [voAll_snoc, ez, HX.and_assoc]
      refine holds_eq (congrArg (fun y => y.and (vrow ao2 co2 outs2)) epc) ?_
      have fz : ∀ j, (pvR z.v).F j → w.heap.size ≤ j ∧ ¬ ((HX.nil.and (voAll outs2)).and (vrow ao2 co2 outs2)).F j := fun j hj => by rw [ez] at hj; exact fq j hj
      have ownv' : OwnR w HX.nil (voAll (outs2 ++ [z])) := fun j hj => by
        rw [voAll_snoc] at hj
        rcases hj with hj | hj
        · exact hM2.ov j hj
        · exact ⟨(fz j hj).1, fun y => (fz j hj).2 (.inl (.inl y))⟩
      have hdis : ∀ j, co2 ≠ 0 → abk ao2 = some j → ¬ (HX.nil.and (voAll (outs2 ++ [z]))).F j := fun j q1 q2 y => by
        rcases y with y | y
        · exact (hM2.ow j ⟨q1, q2⟩).2 (.inl y)
        · rw [voAll_snoc] at y
          rcases y with y | y
          · exact (hM2.ow j ⟨q1, q2⟩).2 (.inr y)
          · exact (fz j y).2 (.inr ⟨q1, q2⟩)
      refine node_pushs (e := 39) (sz := 6) rfl Try.underlying24 info_vote rfl (by decide) ao2 outs2.length co2 (vocs outs2) (voC z) 2 (by intros; kernel_rfl) (by intros; kernel_rfl) rfl (fun ids => by rw [ez]; kernel_rfl) rfl (voC_one z) hdis (fun j q1 q2 => .inl (hM2.ow j ⟨q1, q2⟩).1) (by unfold maxLen; omega) (by omega) (by intros; kernel_rfl) (by kernel_rfl) (by kernel_rfl) (by intros; kernel_rfl) ?_
      intro b' d' hc' hr' hor'
      have hlz : (outs2 ++ [z]).length = outs2.length + 1 := by rw [List.length_append]; rfl
      have erow : HX.rw 6 39 b' (outs2.length + 1) d' (vocs outs2 ++ voC z) = vrow b' d' (outs2 ++ [z]) := by unfold vrow; rw [vocs_snoc, List.length_append]; rfl
      refine holds_eq (congrArg _ erow) ?_
      refine again_V ⟨[], [], [], [outs2.length + 1, d'], [b']⟩ rfl (by intros; kernel_rfl) _ (fun w2 ids hf => ⟨hf.x, hf.sep⟩) ⟨outs2 ++ [z], b', d', hR2.new hb hkb (by rw [ez]; exact ⟨rfl, rfl, rfl, hq⟩) hxv.1, ⟨ownv', fun j hj => ⟨?_, hr' j hj.2⟩, fun _ => ?_, fun _ => hc'⟩, by rw [hlz], rfl⟩
      · rcases hor' with ⟨r1, r2⟩ | ⟨g, r1, r2, _⟩
        · exact (hM2.ow j ⟨r1, by rw [← r2]; exact hj.2⟩).1
        · have := hj.2
          rw [r1] at this; cases this; exact r2
      · rcases hor' with ⟨r1, r2⟩ | ⟨g, r1, r2, _⟩
        · exact abk_same r2 (hM2.s1 r1)
        · exact abk_some r1
    · have hkb : hasS outs2 x.s = true := by rw [← ekb]; simpa using hkb
      exact again_V ⟨[], [], [], [outs2.length, co2], [ao2]⟩ rfl (by intros; kernel_rfl) _ (fun w2 ids hf => ⟨hf.x, hf.sep⟩) ⟨outs2, ao2, co2, hR2.known hb hkb hsame, hM2, rfl, rfl⟩
  case E =>
    rw [List.drop_eq_nil_of_le (by omega)] at hR
    have hR : RgI [] N T outs top := hR
    have hol : outs.length ≤ N := by have := hR.len; simp at this; omega
    have hT := hR.done
    refine br_B ((outs.length : Int) != top) (by kernel_rfl) (fun h1 => by rw [hT, if_pos (fun q => by rw [q] at h1; simp at h1)]; exact rmg_nil (by intros; kernel_rfl)) (fun h1 => ?_)
    have h1 : top = (outs.length : Int) := by
      have : (outs.length : Int) = top := by simpa using h1
      exact this.symm
    rw [if_neg (fun q => q h1)] at hT
    obtain ⟨B, eB⟩ : ∃ B, B = rgH outs ao co := ⟨_, rfl⟩
    have bv : ∀ {w2 : World}, B.X w2 → (voAll outs).X w2 := fun h => by rw [eB] at h; exact h.1.2
    have bw : ∀ {w2 : World}, B.X w2 → (vrow ao co outs).X w2 := fun h => by rw [eB] at h; exact h.2
    have bF : ∀ k, (voAll outs).F k → B.F k ∧ w.heap.size ≤ k := fun k hk => ⟨by rw [eB]; exact .inl (.inr hk), (hM.ov k hk).1⟩
    rw [← eB]
    refine ⟨fun vs hx n => ∃ (q : Nat) (ys : List (Vo Pv)) (b : Option Addr) (d : Nat), n = outs.length - q ∧ q ≤ outs.length ∧ vlsOf ys = outV (mo outs) q ∧ (∀ y ∈ ys, y ∈ outs) ∧ OwnR w B (vrow b d ys) ∧ vs = ⟨[((q + 1 : Nat) : Int)], [], [], [ys.length, d], [b]⟩ ∧ B.and (vrow b d ys) = hx, fun ids w2 hp hf => ⟨B.and (vrow (some ⟨idAt ids 1, 0, none⟩) 0 []), outs.length, ⟨⟨hf.x, HX.rw_nil _ _ _ _⟩, fun k hk => hk.elim (fun q => hf.sep k q) fun q => absurd rfl q.1⟩, 0, [], some ⟨idAt ids 1, 0, none⟩, 0, rfl, Nat.zero_le _, rfl, (fun y hy => by cases hy), (fun k hk => absurd rfl hk.1), by kernel_rfl, rfl⟩, ?_⟩
    rintro vs hx' n hcnt2 ⟨q, ys, b, d, rfl, hq, hv, hsub, own, rfl, rfl⟩
    refine holds_env (ρ' := ⟨[(i : Int), top, ((q + 1 : Nat) : Int)], [], [], [ts.length, cp, outs.length, co, ys.length, d], [a, ao, b]⟩) (by kernel_rfl) ?_
    refine br_D (p := ((q + 1 : Nat) : Int) ≤ top) (by kernel_rfl) (fun hle => ?_) (fun hle => ?_)
    rotate_left
    · have hqe : q = outs.length := by omega
      rw [hT]
      intro ids w2 hp hf2
      have hX : (voX b ys).X w2 := ⟨rw_cells hf2.x.2, fun y hy => by
        obtain ⟨x, hx, rfl⟩ := List.mem_map.1 hy
        have := bv hf2.x.1 _ (List.mem_map.2 ⟨x, hsub x hx, rfl⟩)
        exact ⟨rw_cells this.1, rw_cells this.2⟩⟩
      refine ⟨b, d, ys, by kernel_rfl, by rw [hv, hqe], fun x hx => (hR.zero x (hsub x hx)).2.2, hX, fun k hk => ?_, hf2.chg.below⟩
      rcases hk with hk | ⟨y, hy, hk⟩
      · have := rw_cl_G hf2.x.2 hk
        exact ⟨(own k this).1, (hf2.sep k (.inr this)).1⟩
      · obtain ⟨x, hx, rfl⟩ := List.mem_map.1 hy
        have hpx := bv hf2.x.1 _ (List.mem_map.2 ⟨x, hsub x hx, rfl⟩)
        have hF : (voAll outs).F k := ⟨_, List.mem_map.2 ⟨x, hsub x hx, rfl⟩, rows_F hpx.1 hpx.2 k hk⟩
        exact ⟨(bF k hF).2, (hf2.sep k (.inl (bF k hF).1)).1⟩
    obtain ⟨s, es⟩ : ∃ s : Int, s = ((q + 1 : Nat) : Int) := ⟨_, rfl⟩
    have hws : IntKind.i64.wrap (((q + 1 : Nat) : Int) + 1) = ((q + 1 + 1 : Nat) : Int) := by rw [wrap_i64 (by omega)]; omega
    have hall : hasS outs s = true := hasS_all hR.nd hR.at_ h1 (by omega) (by omega)
    have hlv : ys.length = q := by rw [← vlsOf_len ys, hv]; unfold outV; rw [List.length_map, List.length_range]
    refine ⟨fun vs hx n => ∃ (k : Nat) (ys2 : List (Vo Pv)) (b2 : Option Addr) (d2 : Nat), n = outs.length - k ∧ k ≤ outs.length ∧ vlsOf ys2 = outV (mo outs) q ++ (if hasS (outs.take k) s = true then [⟨s, 0, 0, (mlk (mo outs) s).getD vz⟩] else []) ∧ (∀ y ∈ ys2, y ∈ outs) ∧ OwnR w B (vrow b2 d2 ys2) ∧ vs = ⟨[(k : Int)], [], [], [ys2.length, d2], [b2]⟩ ∧ B.and (vrow b2 d2 ys2) = hx, fun ids w2 hp hf => ⟨_, outs.length, ⟨hf.x, hf.sep⟩, 0, ys, b, d, rfl, Nat.zero_le _, by rw [hv]; exact (List.append_nil _).symm, hsub, own, by kernel_rfl, rfl⟩, ?_⟩
    rintro vs hx' n hcnt3 ⟨k, ys2, b2, d2, rfl, hk, hv2, hsub2, own2, rfl, rfl⟩
    refine holds_env (ρ' := ⟨[(i : Int), top, ((q + 1 : Nat) : Int), (k : Int)], [], [], [ts.length, cp, outs.length, co, ys.length, d, ys2.length, d2], [a, ao, b, b2]⟩) (by kernel_rfl) ?_
    have hl2 : ys2.length ≤ q + 1 := by
      rw [← vlsOf_len ys2, hv2, List.length_append]
      have : (outV (mo outs) q).length = q := by unfold outV; rw [List.length_map, List.length_range]
      rw [this]
      split <;> simp
    refine br_D (p := (k : Int) < (outs.length : Int)) (by kernel_rfl) (fun hkl => ?_) (fun hkl => ?_)
    rotate_left
    · have hke : k = outs.length := by omega
      rw [hke, List.take_length, if_pos hall, es] at hv2
      exact again_V ⟨[IntKind.i64.wrap (((q + 1 : Nat) : Int) + 1)], [], [], [ys2.length, d2], [b2]⟩ rfl (by intros; kernel_rfl) _ (fun w2 ids hf => ⟨hf.x, hf.sep⟩) ⟨outs.length - (q + 1), by omega, q + 1, ys2, b2, d2, rfl, by omega, by rw [hv2, outV_succ], hsub2, own2, by rw [hws], rfl⟩
    have hkl : k < outs.length := by omega
    have hwk : IntKind.i64.wrap ((k : Int) + 1) = ((k + 1 : Nat) : Int) := by rw [wrap_i64 (by omega)]; omega
    obtain ⟨y, hy⟩ : ∃ y, outs[k]? = some y := ⟨_, List.getElem?_eq_getElem hkl⟩
    have hym := List.mem_of_getElem? hy
    have hsm := hM.s1 (hM.s2 (fun q => by rw [q] at hkl; simp at hkl))
    have hst := hasS_step (s := s) hy
    obtain ⟨z1, z2, z3⟩ := hR.zero y hym
    refine need_k (ao.isSome = true ∧ (0 : Int) ≤ (k : Int) ∧ (k : Int) < (outs.length : Int)) (by kernel_rfl) ⟨hsm, by omega, by omega⟩ ?_
    refine node_ldk ⟨[y.s], [], [], [], []⟩ (fun _ => .pointer (some (((ao.getD ⟨0, 0, none⟩).add (k * 6)).add 0))) [.int .i64 y.s] (by intros; kernel_rfl) (by intros; kernel_rfl) (fun ids w2 hp hf => row_part (bw hf.x.1) hy 0 _ (fun j u hj => by cases j with | zero => exact hj | succ j => cases hj) (by simp)) (by kernel_rfl) oneNil ?_
    refine br_D (p := y.s = ((q + 1 : Nat) : Int)) (by kernel_rfl) (fun he => ?_) (fun he => ?_)
    rotate_left
    · exact again_V ⟨[IntKind.i64.wrap ((k : Int) + 1)], [], [], [ys2.length, d2], [b2]⟩ rfl (by intros; kernel_rfl) _ (fun w2 ids hf => ⟨hf.x, hf.sep⟩) ⟨outs.length - (k + 1), by omega, k + 1, ys2, b2, d2, rfl, by omega, by rw [hv2, hst, show (y.s == s) = false by rw [es]; simpa using he, Bool.or_false], hsub2, own2, by rw [hwk], rfl⟩
    have he2 : y.s = s := by rw [es]; exact he
    have hno := hasS_before hR.nd hy
    rw [he2] at hno
    have hget := mo_get hR.nd hym
    rw [he2] at hget
    rw [hno, if_neg (by decide), List.append_nil] at hv2
    refine need_k (ao.isSome = true ∧ (0 : Int) ≤ (k : Int) ∧ (k : Int) < (outs.length : Int)) (by kernel_rfl) ⟨hsm, by omega, by omega⟩ ?_
    refine node_ldk ⟨[y.s, y.r, y.n, y.v.v.k], [], [], [y.v.v.cs.length, y.v.c1, y.v.v.ns.length, y.v.c2], [y.v.a1, y.v.a2]⟩ (fun _ => .pointer (some (((ao.getD ⟨0, 0, none⟩).add (k * 6)).add 0))) (voC y) (by intros; kernel_rfl) (by intros; kernel_rfl) (fun ids w2 hp hf => row_part (bw hf.x.1) hy 0 _ (fun j u hj => by rw [Nat.zero_add]; exact hj) (by simp [voC])) (by kernel_rfl) oneNil ?_
    refine node_pushs (e := 39) (sz := 6) rfl Try.underlying24 info_vote rfl (by decide) b2 ys2.length d2 (vocs ys2) (voC y) 2 (by intros; kernel_rfl) (by intros; kernel_rfl) rfl (by intros; kernel_rfl) rfl (voC_one y) (fun j q1 q2 => (own2 j ⟨q1, q2⟩).2) (fun j q1 q2 => .inl (own2 j ⟨q1, q2⟩).1) (by unfold maxLen; omega) (by omega) (by intros; kernel_rfl) (by kernel_rfl) (by kernel_rfl) (by intros; kernel_rfl) ?_
    intro b' d' hc' hr' hor'
    have hlz : (ys2 ++ [y]).length = ys2.length + 1 := by rw [List.length_append]; rfl
    have erow : HX.rw 6 39 b' (ys2.length + 1) d' (vocs ys2 ++ voC y) = vrow b' d' (ys2 ++ [y]) := by unfold vrow; rw [vocs_snoc, List.length_append]; rfl
    refine holds_eq (congrArg _ erow) ?_
    have hzv : Vo.map Pv.v y = ⟨s, 0, 0, y.v.v⟩ := by unfold Vo.map; rw [he2, z1, z2]
    refine again_V ⟨[IntKind.i64.wrap ((k : Int) + 1)], [], [], [ys2.length + 1, d'], [b']⟩ rfl (by intros; kernel_rfl) _ (fun w2 ids hf => ⟨hf.x, hf.sep⟩) ⟨outs.length - (k + 1), by omega, k + 1, ys2 ++ [y], b', d', rfl, by omega, by
      rw [hst, he2, show (s == s) = true by simp, Bool.or_true, if_pos rfl, hget, vls_app, hv2, Option.getD_some]
      show _ ++ [Vo.map Pv.v y] = _
      rw [hzv], (fun u hu => by
      rcases List.mem_append.1 hu with hu | hu
      · exact hsub2 u hu
      · rw [List.mem_singleton.1 hu]; exact hym), fun j hj => ⟨?_, hr' j hj.2⟩, by rw [hwk, hlz], rfl⟩
    rcases hor' with ⟨r1, r2⟩ | ⟨g, r1, r2, _⟩
    · exact (own2 j ⟨r1, by rw [← r2]; exact hj.2⟩).1
    · have := hj.2
      rw [r1] at this; cases this; exact r2
end Go.Proofs.Ytbedoemdjlollaa

namespace Go.Proofs.Ytbedoemdjlollaa
open Go.ChangeShapes Go.WideShapes Go.ChangeAt Go.RowKit Go.Syn Go.Eng
set_option linter.unusedVariables false
set_option linter.unusedSimpArgs false
set_option maxRecDepth 100000
structure Pc where
  c : CmD
  k : Int
  re : Int
  im : Int
  regs : List Int
def Pc.key (p : Pc) : Ky := (p.c.sess, p.c.seq)
def Pc.res (p : Pc) : Int × Int × Int := (p.k, p.re, p.im)
def z16 : List Int := [0, 0, 0, 0, 0, 0, 0, 0, 0, 0, 0, 0, 0, 0, 0, 0]
def rgA (ps : List Pc) : Nat → List Int
  | 0 => z16
  | q + 1 => ((ps[q]?).map Pc.regs).getD z16
def rsA (ps : List Pc) : Nat → Int × Int × Int
  | 0 => (0, 0, 0)
  | q + 1 => ((ps[q]?).map Pc.res).getD (0, 0, 0)
def findP (x : Ky) : List Pc → Nat
  | [] => 0
  | p :: r => if p.key = x then 1 else if findP x r = 0 then 0 else findP x r + 1
def addP (ps : List Pc) (z : CmD × AnD) : List Pc := if findP (z.1.sess, z.1.seq) ps ≠ 0 ∨ 3 < z.2.k then ps else ps ++ [⟨z.1, z.2.k, z.2.re, z.2.im, (applyM (rgA ps ps.length) z.1.op).1⟩]
def addAll (ps : List Pc) (l : List (CmD × AnD)) : List Pc := l.foldl addP ps
def playV : Im → List Pc → List (Vo Vl) → List Pc × Int
  | _, ps, [] => (ps, 0)
  | I, ps, x :: r => if (execV I x.s x.v).e ≠ 0 then (ps, (execV I x.s x.v).e) else playV (execV I x.s x.v).i (addAll ps (x.v.cs.zip (execV I x.s x.v).an)) r
def firstI (xs : List Int) : Im := ⟨0, xs, 0, im0.regs, []⟩
theorem rgA_s {ps : List Pc} {q : Nat} {p : Pc} (h : ps[q]? = some p) : rgA ps (q + 1) = p.regs := by
  show ((ps[q]?).map Pc.regs).getD z16 = _
  rw [h]; rfl
theorem rgA_n {ps : List Pc} {q : Nat} (h : ps[q]? = none) : rgA ps (q + 1) = z16 := by
  show ((ps[q]?).map Pc.regs).getD z16 = _
  rw [h]; rfl
theorem rsA_s {ps : List Pc} {q : Nat} {p : Pc} (h : ps[q]? = some p) : rsA ps (q + 1) = p.res := by
  show ((ps[q]?).map Pc.res).getD (0, 0, 0) = _
  rw [h]; rfl
theorem findP_le (x : Ky) : ∀ ps : List Pc, findP x ps ≤ ps.length
  | [] => Nat.le_refl _
  | p :: r => by
    have := findP_le x r
    unfold findP
    split
    · simp
    · split
      · omega
      · simp; omega
theorem findP_get (x : Ky) : ∀ {ps : List Pc} {i : Nat}, findP x ps = i + 1 → ∃ p, ps[i]? = some p ∧ p.key = x
  | [], i, h => by simp [findP] at h
  | p :: r, i, h => by
    unfold findP at h
    split at h
    · rename_i e
      have : i = 0 := by omega
      subst this
      exact ⟨p, rfl, e⟩
    · split at h
      · omega
      · obtain ⟨j, hj⟩ : ∃ j, findP x r = j + 1 := ⟨findP x r - 1, by omega⟩
        obtain ⟨q, h1, h2⟩ := findP_get x hj
        have : i = j + 1 := by omega
        subst this
        exact ⟨q, by simpa using h1, h2⟩
def rsC (r : Int × Int × Int) : Value := .agg #[.int .i64 r.1, .int .i64 r.2.1, .int .i64 r.2.2]
def atM (ps : List Pc) : List (Ky × Value) := ps.mapIdx fun i p => (p.key, .int .i64 ((i + 1 : Nat) : Int))
def resM (ps : List Pc) : List (Ky × Value) := ps.map fun p => (p.key, rsC p.res)
theorem klk_cons (p : Ky × Value) (m : List (Ky × Value)) (x : Ky) : klk (p :: m) x = if p.1 = x then some p.2 else klk m x := by
  unfold klk
  rw [List.find?_cons]
  by_cases h : p.1 = x
  · simp [h]
  · rw [if_neg h, show (p.1 == x) = false by simpa using h]
theorem klk_idx (x : Ky) : ∀ (ps : List Pc) (f : Nat → Pc → Value), klk (ps.mapIdx fun i p => (p.key, f i p)) x = match findP x ps with | 0 => none | i + 1 => (ps[i]?).map (f i)
  | [], f => rfl
  | p :: r, f => by
    rw [List.mapIdx_cons, klk_cons]
    unfold findP
    by_cases h : p.key = x
    · rw [if_pos h, if_pos h]; rfl
    · rw [if_neg h, if_neg h, klk_idx x r fun i p => f (i + 1) p]
      cases hf : findP x r with
      | zero => rfl
      | succ i => simp
theorem klk_at (x : Ky) (ps : List Pc) : klk (atM ps) x = if findP x ps = 0 then none else some (.int .i64 (findP x ps : Int)) := by
  unfold atM
  rw [klk_idx x ps fun i _ => .int .i64 ((i + 1 : Nat) : Int)]
  cases h : findP x ps with
  | zero => rfl
  | succ i =>
    obtain ⟨p, h1, _⟩ := findP_get x h
    show Option.map _ ps[i]? = _
    rw [h1]; rfl
theorem resM_idx (ps : List Pc) : resM ps = ps.mapIdx fun _ p => (p.key, rsC p.res) := by
  unfold resM
  induction ps with
  | nil => rfl
  | cons p r ih => rw [List.map_cons, List.mapIdx_cons, ih]
theorem klk_res (x : Ky) (ps : List Pc) : klk (resM ps) x = if findP x ps = 0 then none else some (rsC (rsA ps (findP x ps))) := by
  rw [resM_idx, klk_idx x ps fun _ p => rsC p.res]
  cases h : findP x ps with
  | zero => rfl
  | succ i =>
    obtain ⟨p, h1, _⟩ := findP_get x h
    show Option.map _ ps[i]? = _
    rw [h1]
    show some (rsC p.res) = some (rsC (rsA ps (i + 1)))
    rw [rsA_s h1]
theorem klk_res0 (x : Ky) (ps : List Pc) : (klk (resM ps) x).getD (rsC (0, 0, 0)) = rsC (rsA ps (findP x ps)) := by
  rw [klk_res]
  by_cases h : findP x ps = 0
  · rw [if_pos h, h]; rfl
  · rw [if_neg h]; rfl
theorem klk_at0 (x : Ky) (ps : List Pc) : (klk (atM ps) x).getD (.int .i64 0) = .int .i64 (findP x ps : Int) := by
  rw [klk_at]
  by_cases h : findP x ps = 0
  · rw [if_pos h, h]; rfl
  · rw [if_neg h]; rfl
theorem klk_at1 (x : Ky) (ps : List Pc) : (klk (atM ps) x).isSome = decide (findP x ps ≠ 0) := by
  rw [klk_at]
  by_cases h : findP x ps = 0
  · rw [if_pos h]; simp [h]
  · rw [if_neg h]; simp [h]
theorem at_put {x : Ky} {ps : List Pc} {p : Pc} (h : findP x ps = 0) (hp : p.key = x) : kput (atM ps) x (.int .i64 ((ps.length + 1 : Nat) : Int)) = atM (ps ++ [p]) := by
  unfold kput
  rw [klk_at, if_pos h]
  unfold atM
  rw [List.mapIdx_append]
  simp [hp]
theorem res_put {x : Ky} {ps : List Pc} {p : Pc} (h : findP x ps = 0) (hp : p.key = x) : kput (resM ps) x (rsC p.res) = resM (ps ++ [p]) := by
  unfold kput
  rw [klk_res, if_pos h]
  unfold resM
  rw [List.map_append]
  simp [hp]
def stF (r : List Int) : List Value := (rgs r).map (Value.int .i64)
theorem stF_len (r : List Int) : (stF r).length = 16 := rfl
def stL (ps : List Pc) : List (List Int) := z16 :: ps.map Pc.regs
def stC (ps : List Pc) : List Value := (stL ps).flatMap stF
theorem stL_len (ps : List Pc) : (stL ps).length = ps.length + 1 := by unfold stL; simp
theorem stC_len (ps : List Pc) : (stC ps).length = (ps.length + 1) * 16 := by unfold stC; rw [flat_len stF_len, stL_len]
theorem stL_get {ps : List Pc} {q : Nat} (h : q ≤ ps.length) : (stL ps)[q]? = some (rgA ps q) := by
  cases q with
  | zero => rfl
  | succ q =>
    obtain ⟨p, hp⟩ : ∃ p, ps[q]? = some p := ⟨_, List.getElem?_eq_getElem (by omega)⟩
    show (ps.map Pc.regs)[q]? = some (((ps[q]?).map Pc.regs).getD z16)
    rw [List.getElem?_map, hp]; rfl
theorem stC_snoc (ps : List Pc) (p : Pc) : stC ps ++ stF p.regs = stC (ps ++ [p]) := by
  unfold stC stL
  rw [List.map_append, List.flatMap_cons, List.flatMap_cons, List.flatMap_append]
  simp
def PsOk (ps : List Pc) : Prop := ∀ p ∈ ps, p.regs.length = 16
theorem rgA_len {ps : List Pc} (h : PsOk ps) (q : Nat) : (rgA ps q).length = 16 := by
  cases q with
  | zero => rfl
  | succ q =>
    cases hq : ps[q]? with
    | none => rw [rgA_n hq]; rfl
    | some p => rw [rgA_s hq]; exact h p (List.mem_of_getElem? hq)
theorem addP_ok {ps : List Pc} (h : PsOk ps) (z : CmD × AnD) : PsOk (addP ps z) := by
  unfold addP
  split
  · exact h
  · intro p hp
    rcases List.mem_append.1 hp with hp | hp
    · exact h p hp
    · rw [List.mem_singleton.1 hp]
      exact (applyM_len _ _).trans (rgA_len h _)
theorem addP_len (ps : List Pc) (z : CmD × AnD) : (addP ps z).length ≤ ps.length + 1 := by
  unfold addP
  split
  · omega
  · simp
theorem addAll_step (ps : List Pc) {l : List (CmD × AnD)} {j : Nat} {z : CmD × AnD} (h : l[j]? = some z) : addAll ps (l.drop j) = addAll (addP ps z) (l.drop (j + 1)) := by
  obtain ⟨hj, e⟩ := List.getElem?_eq_some_iff.1 h
  rw [List.drop_eq_getElem_cons hj, e]; rfl
theorem addAll_ok {ps : List Pc} (h : PsOk ps) (l : List (CmD × AnD)) : PsOk (addAll ps l) := by
  induction l generalizing ps with
  | nil => exact h
  | cons z r ih => exact ih (addP_ok h z)
theorem addAll_len (ps : List Pc) (l : List (CmD × AnD)) : (addAll ps l).length ≤ ps.length + l.length := by
  induction l generalizing ps with
  | nil => exact Nat.le_refl _
  | cons z r ih =>
    have h1 := ih (addP ps z)
    have h2 := addP_len ps z
    show (addAll (addP ps z) r).length ≤ _
    rw [List.length_cons]; omega
theorem exec_an {I : Im} {slot : Int} {v : Vl} (h : (execV I slot v).e = 0) : (execV I slot v).an.length = v.cs.length := by
  obtain ⟨h1, h2, h3, h4, h5⟩ := exec_zero h
  unfold execV
  rw [if_neg (by rw [(validI_iff I).2 h1]; decide), if_neg (by simp only [not_or]; exact ⟨fun q => q h2, by omega, fun q => by have := h4 q.1; omega⟩), if_neg (fun q => q h5)]
  show (v.cs.foldl stepV (goI I slot v, [])).2.length = _
  have := (runAll_keep (goI I slot v) v.cs (goI I slot v, [])).2.2.2
  simpa using this
end Go.Proofs.Ytbedoemdjlollaa

namespace Go.Proofs.Ytbedoemdjlollaa
open Go Go.ChangeShapes Go.WideShapes Go.ChangeAt Go.RowKit Go.Syn Go.Eng
set_option linter.unusedVariables false
set_option linter.unusedSimpArgs false
set_option maxRecDepth 100000
theorem kyOk : KyOk Try.prog 91 := ⟨Go.deep_law (m := 2) (by omega) (by kernel_rfl) (by kernel_rfl) (by kernel_rfl), fun k hk => by
  have h1 : (Lit.int .i64 k.1).wf = true := by
    have := hk.1
    simp only [Lit.wf, IntKind.min, IntKind.max, IntKind.signed, IntKind.bits, decide_eq_true_eq, Bool.and_eq_true]
    simp; omega
  have h2 : (Lit.int .i64 k.2).wf = true := by
    have := hk.2
    simp only [Lit.wf, IntKind.min, IntKind.max, IntKind.signed, IntKind.bits, decide_eq_true_eq, Bool.and_eq_true]
    simp; omega
  refine ⟨.string (keyBytes [.int .i64 k.1, .int .i64 k.2]), ?_⟩
  obtain ⟨m, hm⟩ : ∃ m, Try.prog.types.size = m + 1 := ⟨Try.prog.types.size - 1, by kernel_rfl⟩
  have hkt : Try.prog.keyType 91 = true := by kernel_rfl
  have hc : Try.prog.cellsOf 91 = 2 := by kernel_rfl
  have hc3 : Try.prog.cellsOf 3 = 1 := by kernel_rfl
  unfold keyOf
  simp only [Try.underlying91]
  rw [if_pos (by simp [hkt, Value.formed, Try.underlying91, hc, kyV]), hm]
  unfold Program.keyLits
  simp only [Try.underlying91, kyV, Value.cells]
  rw [if_pos (by rw [hc]; exact ⟨rfl, by kernel_rfl⟩)]
  simp [Program.keyLits, Try.underlying3, hc3, h1, h2]⟩
def mdX (sa : Option Addr) (sc b1 b2 : Nat) (ps : List Pc) : HX := ((HX.rw 16 93 sa (ps.length + 1) sc (stC ps)).and (HX.kmap b1 (atM ps))).and (HX.kmap b2 (resM ps))
def mdV (sa : Option Addr) (sc b1 b2 : Nat) (ps : List Pc) : Value := .agg #[.slice sa (ps.length + 1) sc, .map (some b1), .map (some b2)]
def PlNew (w : World) (R : List Pc × Int) (e : Ending) (w' : World) : Prop := ∃ (sa : Option Addr) (sc b1 b2 : Nat), e = .returned (.tuple #[mdV sa sc b1 b2 R.1, .int .i64 R.2]) ∧ (mdX sa sc b1 b2 R.1).X w' ∧ (∀ k, (mdX sa sc b1 b2 R.1).F k → w.heap.size ≤ k ∧ k < w'.heap.size) ∧ Below w.heap.size w w'
structure MdOwn (W : World) (Z : HX) (sa : Option Addr) (sc b1 b2 : Nat) : Prop where
  row : ∀ k, sc ≠ 0 → abk sa = some k → W.heap.size ≤ k ∧ k ≠ b1 ∧ k ≠ b2 ∧ ¬ Z.F k
  o1 : W.heap.size ≤ b1 ∧ ¬ Z.F b1
  o2 : W.heap.size ≤ b2 ∧ ¬ Z.F b2
  ne : b1 ≠ b2
theorem MdOwn.mono {W : World} {Z Z' : HX} {sa : Option Addr} {sc b1 b2 : Nat} (h : MdOwn W Z sa sc b1 b2) (hZ : ∀ k, Z'.F k → Z.F k ∨ (W.heap.size ≤ k ∧ ¬ (k = b1 ∨ k = b2 ∨ (sc ≠ 0 ∧ abk sa = some k)))) : MdOwn W Z' sa sc b1 b2 :=
  ⟨fun k h1 h2 => ⟨(h.row k h1 h2).1, (h.row k h1 h2).2.1, (h.row k h1 h2).2.2.1, fun q => (hZ k q).elim (h.row k h1 h2).2.2.2 fun q => q.2 (.inr (.inr ⟨h1, h2⟩))⟩, ⟨h.o1.1, fun q => (hZ _ q).elim h.o1.2 fun q => q.2 (.inl rfl)⟩, ⟨h.o2.1, fun q => (hZ _ q).elim h.o2.2 fun q => q.2 (.inr (.inl rfl))⟩, h.ne⟩
theorem MdOwn.F {W : World} {Z : HX} {sa : Option Addr} {sc b1 b2 : Nat} {ps : List Pc} (h : MdOwn W Z sa sc b1 b2) : ∀ k, (mdX sa sc b1 b2 ps).F k → W.heap.size ≤ k := by
  rintro k ((hk | hk) | hk)
  · exact (h.row k hk.1 hk.2).1
  · have hk : k = b1 := hk
    rw [hk]; exact h.o1.1
  · have hk : k = b2 := hk
    rw [hk]; exact h.o2.1
theorem info_sta : (Try.prog.info? 93).map (fun i => (i.zero, i.size, i.bytes)) = some (some (.agg #[.int .i64 0, .int .i64 0, .int .i64 0, .int .i64 0, .int .i64 0, .int .i64 0, .int .i64 0, .int .i64 0, .int .i64 0, .int .i64 0, .int .i64 0, .int .i64 0, .int .i64 0, .int .i64 0, .int .i64 0, .int .i64 0]), 16, 128) := by kernel_rfl
theorem lit_sta (r : List Int) (w : World) : (Instr.buildSlice 83 1 #[(0, .agg (stF r).toArray)]).run Try.prog w = .ok (.slice (some ⟨w.heap.size, 0, none⟩) 1 1) (w.alloc (.cells (stF r).toArray 93)) := by kernel_rfl
theorem st_elt {ps : List Pc} {sa : Option Addr} {w : World} (h : Cells w sa (stC ps)) {q : Nat} (hq : q ≤ ps.length) : sa.isSome = true ∧ CellsAt w (.pointer (some (((sa.getD ⟨0, 0, none⟩).add (q * 16)).add 0))) (stF (rgA ps q)) (fun _ => False) := by
  obtain ⟨h1, h2⟩ := flat_part stF_len h (stL_get hq) (o := 0) (stF (rgA ps q)) (fun j u hj => by rw [Nat.zero_add]; exact hj) (by simp [stF, rgs])
  exact ⟨h1, h2 _ id⟩
theorem st_some {sa : Option Addr} {sc n e : Nat} {ps : List Pc} {w : World} (h : (HX.rw 16 e sa n sc (stC ps)).X w) : sa.isSome = true := row_isS h (fun q => by have := stC_len ps; rw [q] at this; simp at this)
def JqI (W : World) (Z : HX) (n b1 b2 P0 : Nat) (l : List (CmD × AnD)) (T : List Pc) (vs : Vals) (hx : HX) (m : Nat) : Prop := ∃ (j : Nat) (ps : List Pc) (sa : Option Addr) (sc : Nat), m = n - j ∧ j ≤ n ∧ PsOk ps ∧ ps.length ≤ P0 + j ∧ addAll ps (l.drop j) = T ∧ MdOwn W Z sa sc b1 b2 ∧ sa.isSome = true ∧
  vs = ⟨[(j : Int)], [], [.map (some b1), .map (some b2)], [ps.length + 1, sc], [sa]⟩ ∧ Z.and (mdX sa sc b1 b2 ps) = hx
set_option maxHeartbeats 1000000 in
theorem jtail {w : World} {I0 I : Im} {R : ExR} {k j cx ch y1 y2 sc0 c1 c2 r1 r2 oc sc b1 b2 d1 d2 P0 : Nat} {xs : List Int} {hs : List (Vo Pv)} {ps0 ps : List Pc} {x : Vo Pv} {ax ah la x1 x2 sa0 a1 a2 q1 q2 oa sa : Option Addr} {c : CmD} {a : AnD} {Q : List Pc × Int} {Z : HX} {T : List Pc} {S : Stack} {fa : Int} {fb : Bool} {l : List (CmD × AnD)} (p : List Int × Int × Int × Int) (ep : p = applyM (rgA ps ps.length) c.op) (hlen : ps.length + 1 ≤ 100000000) (hf : findP (c.sess, c.seq) ps = 0) (hk3 : ¬ 3 < a.k) (hps : PsOk ps) (hl : l[j]? = some (c, a)) (hP0 : ps.length ≤ P0 + j) (hj : j < x.v.v.cs.length) (hj2 : x.v.v.cs.length ≤ 8) (hT : addAll ps (l.drop j) = T) (hown : MdOwn w Z sa sc b1 b2) (hky : KyFit (c.sess, c.seq))
    (hS : lkup 15 S = some (fun vs hx => ∃ n', n' < x.v.v.cs.length - j ∧ JqI w Z x.v.v.cs.length b1 b2 P0 l T vs hx n')) :
    Tree.holds ⟨Try.prog, w, fun _ => False, PlNew w Q⟩ tJPlayt4 ⟨imI I0 ++ [(k : Int)] ++ imI I ++ [x.s, x.r, x.n, x.v.v.k] ++ imI R.i ++ [R.e] ++ [(j : Int)] ++ c.is ++ [fa, a.k, a.re, a.im] ++ rgs (rgA ps ps.length) ++ rgs p.1 ++ [p.2.1, p.2.2.1, p.2.2.2], [fb], [.map (some d1), .map (some d2), .map (some b1), .map (some b2), .map (some b1), .map (some b2)], [xs.length, cx, hs.length, ch, 1, 1, I0.mem.length, y1, I0.tb.length, y2, ps0.length + 1, sc0, I.mem.length, c1, I.tb.length, c2, x.v.v.cs.length, x.v.c1, x.v.v.ns.length, x.v.c2, R.i.mem.length, r1, R.i.tb.length, r2, R.an.length, oc, ps.length + 1, sc], [ax, ah, la, x1, x2, sa0, a1, a2, x.v.a1, x.v.a2, q1, q2, oa, sa]⟩ [] (Z.and (mdX sa sc b1 b2 ps)) S ∧
    Tree.holds ⟨Try.prog, w, fun _ => False, PlNew w Q⟩ tJPlayt5 ⟨imI I0 ++ [(k : Int)] ++ imI I ++ [x.s, x.r, x.n, x.v.v.k] ++ imI R.i ++ [R.e] ++ [(j : Int)] ++ c.is ++ [fa, a.k, a.re, a.im] ++ rgs (rgA ps ps.length) ++ rgs p.1 ++ [p.2.1, p.2.2.1, p.2.2.2], [fb], [.map (some d1), .map (some d2), .map (some b1), .map (some b2), .map (some b1), .map (some b2)], [xs.length, cx, hs.length, ch, 1, 1, I0.mem.length, y1, I0.tb.length, y2, ps0.length + 1, sc0, I.mem.length, c1, I.tb.length, c2, x.v.v.cs.length, x.v.c1, x.v.v.ns.length, x.v.c2, R.i.mem.length, r1, R.i.tb.length, r2, R.an.length, oc, ps.length + 1, sc], [ax, ah, la, x1, x2, sa0, a1, a2, x.v.a1, x.v.a2, q1, q2, oa, sa]⟩ [] (Z.and (mdX sa sc b1 b2 ps)) S := by
  obtain ⟨z, ez⟩ : ∃ z : Pc, z = ⟨c, a.k, a.re, a.im, p.1⟩ := ⟨_, rfl⟩
  have hz : addP ps (c, a) = ps ++ [z] := by
    unfold addP
    rw [if_neg (by simp only [not_or, ne_eq, Classical.not_not]; exact ⟨hf, hk3⟩), ez, ep]
  have hzk : z.key = (c.sess, c.seq) := by rw [ez]; rfl
  have hzr : z.regs = p.1 := by rw [ez]
  have hzc : rsC z.res = .agg #[.int .i64 a.k, .int .i64 a.re, .int .i64 a.im] := by rw [ez]; rfl
  have hT2 : addAll (ps ++ [z]) (l.drop (j + 1)) = T := by rw [← hz, ← hT]; exact (addAll_step ps hl).symm
  have hps2 : PsOk (ps ++ [z]) := by rw [← hz]; exact addP_ok hps _
  have hrow := hown.row
  have hn1 := hown.o1
  have hn2 := hown.o2
  have hl2 : (ps ++ [z]).length = ps.length + 1 := by simp
  constructor
  all_goals
    refine node_lit (t := 83) (e := 93) (len := 1) (sz := 16) (stF p.1) #[(0, .agg (stF p.1).toArray)] (by intros; kernel_rfl) (fun w => lit_sta p.1 w) rfl (by unfold maxLen; decide) (by intros; kernel_rfl) (by kernel_rfl) (by kernel_rfl) (by intros; kernel_rfl) ?_
    intro lb hlb
    refine node_appends (e := 93) (sz := 16) (bytes := 128) (rest := (Z.and (HX.kmap b1 (atM ps))).and (HX.kmap b2 (resM ps))) rfl (by kernel_rfl) info_sta rfl (by decide) sa (ps.length + 1) sc (stC ps) (fun _ => lb) 1 1 (stF p.1) rfl (fun ids w2 hp hf => hf.x.1.2.1.1) (fun ids w2 hp hf => rw_cells hf.x.2) (fun u hu => by obtain ⟨y, _, rfl⟩ := List.mem_map.1 hu; rfl) (fun w2 hx => ⟨⟨⟨hx.1.1, hx.1.2.1.2⟩, hx.1.2.2⟩, fun q hq => hq.elim (fun z => z.elim (fun z => .inl (.inl z)) fun z => .inl (.inr (.inl (.inr z)))) fun z => .inl (.inr (.inr z))⟩) (fun q h1 h2 => .inl (.inr (.inl (.inl ⟨h1, h2⟩)))) (fun q h1 h2 hF => hF.elim (fun z => z.elim (hrow q h1 h2).2.2.2 (hrow q h1 h2).2.1) (hrow q h1 h2).2.2.1) (fun q h1 h2 => .inl (hrow q h1 h2).1) (by unfold maxLen; omega) (by omega) (by intros; kernel_rfl) (by intros; kernel_rfl) (by intros; kernel_rfl) (by kernel_rfl) (by kernel_rfl) (by intros; kernel_rfl) ?_
    intro sb sd _ hdis hwh
    have hrow2 : ∀ q, sd ≠ 0 → abk sb = some q → w.heap.size ≤ q ∧ q ≠ b1 ∧ q ≠ b2 ∧ ¬ Z.F q := fun q h1 h2 => ⟨by
      rcases hwh q h1 h2 with ⟨g1, g2⟩ | g
      · exact (hrow q g1 g2).1
      · exact g.1, fun g => hdis q h1 h2 (.inl (.inr g)), fun g => hdis q h1 h2 (.inr g), fun g => hdis q h1 h2 (.inl (.inl g))⟩
    have e1 : (((Z.and (HX.kmap b1 (atM ps))).and (HX.kmap b2 (resM ps))).and (HX.rw 16 93 sb (ps.length + 1 + 1) sd (stC ps ++ stF p.1))) = ((Z.and (HX.kmap b2 (resM ps))).and (HX.rw 16 93 sb (ps.length + 1 + 1) sd (stC ps ++ stF p.1))).and (HX.kmap b1 (atM ps)) := by ac_rfl
    refine holds_eq e1 ?_
    have hw1 : IntKind.i64.wrap (((ps.length + 1 + 1 : Nat) : Int) - 1) = ((ps.length + 1 : Nat) : Int) := by rw [wrap_i64 (by omega)]; omega
    refine node_kput (kt := 91) (et := 3) b1 (atM ps) (c.sess, c.seq) (.int .i64 ((ps.length + 1 : Nat) : Int)) kyOk hky (.inl hn1.1) (fun hF => hF.elim (fun z => z.elim hn1.2 (fun z => hown.ne z)) (fun z => (hrow2 b1 z.1 z.2).2.1 rfl)) (by intros; kernel_rfl) (by intros; kernel_rfl) (fun ids => Eq.trans (b := .int .i64 (IntKind.i64.wrap (((ps.length + 1 + 1 : Nat) : Int) - 1))) (by kernel_rfl) (by rw [hw1])) (by kernel_rfl) (by kernel_rfl) (by kernel_rfl) (by kernel_rfl) ?_
    rw [at_put hf hzk]
    have e2 : (((Z.and (HX.kmap b2 (resM ps))).and (HX.rw 16 93 sb (ps.length + 1 + 1) sd (stC ps ++ stF p.1))).and (HX.kmap b1 (atM (ps ++ [z])))) = ((Z.and (HX.rw 16 93 sb (ps.length + 1 + 1) sd (stC ps ++ stF p.1))).and (HX.kmap b1 (atM (ps ++ [z])))).and (HX.kmap b2 (resM ps)) := by ac_rfl
    refine holds_eq e2 ?_
    refine node_kput (kt := 91) (et := 62) b2 (resM ps) (c.sess, c.seq) (rsC z.res) kyOk hky (.inl hn2.1) (fun hF => hF.elim (fun z => z.elim hn2.2 (fun z => (hrow2 b2 z.1 z.2).2.2.1 rfl)) (fun z => hown.ne z.symm)) (by intros; kernel_rfl) (by intros; kernel_rfl) (fun ids => by rw [hzc]; kernel_rfl) (by kernel_rfl) (by kernel_rfl) (by kernel_rfl) (by kernel_rfl) ?_
    rw [res_put hf hzk]
    have e3 : ((Z.and (HX.rw 16 93 sb (ps.length + 1 + 1) sd (stC ps ++ stF p.1))).and (HX.kmap b1 (atM (ps ++ [z])))).and (HX.kmap b2 (resM (ps ++ [z]))) = Z.and (mdX sb sd b1 b2 (ps ++ [z])) := by
      unfold mdX
      rw [← hzr, stC_snoc, hl2]
      ac_rfl
    refine holds_eq e3 ?_
    have hwk : IntKind.i64.wrap ((j : Int) + 1) = ((j + 1 : Nat) : Int) := by rw [wrap_i64 (by omega)]; omega
    exact again_W ⟨[IntKind.i64.wrap ((j : Int) + 1)], [], [.map (some b1), .map (some b2)], [ps.length + 1 + 1, sd], [sb]⟩ hS (by intros; kernel_rfl) _ (fun w2 ids hf => ⟨⟨hf.x, hf.sep⟩, x.v.v.cs.length - (j + 1), by omega, j + 1, ps ++ [z], sb, sd, rfl, by omega, hps2, by rw [hl2]; omega, hT2, ⟨hrow2, hn1, hn2, hown.ne⟩, st_some hf.x.2.1.1, by rw [hwk, hl2], rfl⟩)
end Go.Proofs.Ytbedoemdjlollaa
